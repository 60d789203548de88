/-
  Texts of this claim, one behind the other: XdD, XdE, XjZ, XjA.
-/
import Derived.Test.YtbanogfljpkbkaaGreatDoorM21
import Derived.Test.YtbanogfljpkbkaaGreatDoorM11
import Derived.StillTailTactics
import Derived.Test.YtbanogfljpkbkaaGreatDoorM9
import Derived.Test.YtbanogfljpkbkaaGreatDoorM10
import Derived.Test.YtbanogfljpkbkaaGreatDoorM2
set_option linter.unusedSimpArgs false
set_option linter.unusedVariables false
set_option linter.unnecessarySimpa false
namespace Go.Proofs.YtbanogfljpkbkaaGreatDoor
section
open Go.RowKit
set_option maxRecDepth 100000
section
variable {w w' : World} {p : Nat} {O : List Nat} {D D' : DkM} {X : XdX}
set_option maxHeartbeats 2000000 in
theorem xdWrite_any (h : Xdk w p O D) (x : Int) (A : Option Addr) (n c : Nat) (b : List UInt8) (hb : b.length = n) (rd : Rd w A (bvs b)) (hA : A = none → n = 0) (hl : (D.uns x).length ≤ 4398046511104) :
  Calls Tryz.prog 114 #[.pointer (some ⟨p, 0, none⟩), .int .i64 x, .slice A n c] w fun e w' => e = .returned (.int .i64 (D.writeE x n)) ∧ AftX w p O (D.write x b) w' := by
 have hm := xdMay_any h x A n c
 have ho := xdOff_any h
 by_cases hmE : D.mayE x n = 0
 ·cases hf : D.off
  ·obtain ⟨hx, rfl⟩ := DkM.may0 hmE
   rw [hmE] at hm
   rw [hf] at ho
   have HE := Lib.hid (show D.writeE x 512 = 0 by rw [DkM.writeE, if_neg (by simpa using hmE), hf]; rfl)
   have HW := Lib.hid (show D.write x b = (D.wr x b).dec by rw [DkM.write, hb, if_neg (by simpa using hmE), hf]; rfl)
   have HOF := Lib.hid hf
   obtain ⟨h1, h2⟩ := DkM.is_iff.1 hx
   obtain ⟨i, rfl⟩ : ∃ i : Nat, x = i := ⟨x.toNat, by omega⟩
   have hi : i < D.sure.length := by omega
   obtain ⟨X, h⟩ := h
   have c0 := h.c0
   obtain ⟨v, q0, q1, r, hXv⟩ := h.cp hi
   have hn := h.n1.2
   have HH := Lib.hid h
   have HI := Lib.hid (And.intro hi hXv)
   clear h hf hmE hx h1 h2 hXv q0
   obtain ⟨NB, hNB⟩ : ∃ NB, D.sure.length = NB := ⟨_, rfl⟩
   rw [hNB] at hi hn c0
   have di : (i : Int) < NB := by omega
   obtain ⟨L, hL⟩ : ∃ L, D.uns i = L := ⟨_, rfl⟩
   rw [hL] at r hl
   obtain ⟨N, hN⟩ : ∃ N, L.length = N := ⟨_, rfl⟩
   rw [hN] at r hl
   obtain ⟨Av, cv, rfl, -, -, -, -, -⟩ := r.shape
   obtain ⟨S, hS⟩ : ∃ S : ByteArray, (⟨b.toArray⟩ : ByteArray) = S := ⟨_, rfl⟩
   have HS := Lib.hid (show strV b = .string S from congrArg Value.string hS)
   have HL := Lib.hid (And.intro hL (And.intro hN (And.intro hb hNB)))
   clear hL hN hS hb hNB
   go_enter Tryz.func114, Tryz.ntmps114
   go_wp2_with fail
   refine hm.mono ?_
   rintro e w1 ⟨rfl, rfl⟩
   go_wp2_with fail
   refine ho.mono ?_
   rintro e w1 ⟨rfl, rfl⟩
   go_upto_region 6 with fail
   refine wp_region_T 21 (S := fun w' => w'.cell? ⟨p, 0, none⟩ = some (.slice (some ⟨X.g, 0, none⟩) NB X.c) ∧ w'.cell? ⟨X.g, i * 2 + 1, none⟩ = some (.slice Av N cv) ∧ (convert 27 9 (.slice A 512 c)).run Tryz.prog w' = .ok (.string S) w') (by kernel_rfl) ?_
   obtain ⟨wD, hwD⟩ : ∃ wD, w.drew = wD := ⟨_, rfl⟩
   have fD : Fr [] w wD := by rw [← hwD]; exact (Fr.refl [] w).drew
   have mkS : ∀ w' : World, Fr [] wD w' → (w'.cell? ⟨p, 0, none⟩ = some (.slice (some ⟨X.g, 0, none⟩) NB X.c) ∧ w'.cell? ⟨X.g, i * 2 + 1, none⟩ = some (.slice Av N cv) ∧ (convert 27 9 (.slice A 512 c)).run Tryz.prog w' = .ok (.string S) w') := fun w' f =>
    ⟨f.cell (by simp) (fD.cell (by simp) c0), f.cell (by simp) (fD.cell (by simp) q1), by rw [← HS.out]; exact conv_str Tryz.underlying27 Tryz.underlying5 Tryz.underlying9 w' A b 512 c HL.out.2.2.1 ((rd.keep_nil fD).keep_nil f) hA⟩
   rw [hwD]
   have hHeld := mkS _ (Fr.refl [] wD)
   have MK := Lib.hid mkS
   have FC : Fr [] wD wD := Fr.refl _ _
   have FD := Lib.hid fD
   have RL := r.keep_nil fD
   obtain ⟨B, hB⟩ : ∃ B, wD.heap.size = B := ⟨_, rfl⟩
   have HB := Lib.hid hB
   clear hwD fD mkS c0 q1 hm ho r rd hB
   refine takeT_w 0 (some 17) (v := ?_) rfl rfl (by kernel_rfl) (by kernel_rfl) (by kernel_rfl) (by kernel_rfl) (fun _ _ _ h => h) (by rfl) ?_ hHeld ?_
   rotate_left
   ·(intro w hSw; (try dsimp only at hSw); go_simp; try with_reducible rfl)
   simp only [Act.put, p1, p2, p3]
   refine takeT_w 1 (some 18) (v := ?_) rfl rfl (by kernel_rfl) (by kernel_rfl) (by kernel_rfl) (by kernel_rfl) (fun _ _ _ h => h) (by rfl) ?_ hHeld ?_
   rotate_left
   ·(intro w hSw; (try dsimp only at hSw); go_simp; try with_reducible rfl)
   simp only [Act.put, p1, p2, p3]
   refine takeT_w 2 (some 19) (v := ?_) rfl rfl (by kernel_rfl) (by kernel_rfl) (by kernel_rfl) (by kernel_rfl) (fun _ _ _ h => h) (by rfl) ?_ hHeld ?_
   rotate_left
   ·(intro w hSw; (try dsimp only at hSw); go_simp; try with_reducible rfl)
   simp only [Act.put, p1, p2, p3]
   refine takeT_w 3 (some 20) (v := ?_) rfl rfl (by kernel_rfl) (by kernel_rfl) (by kernel_rfl) (by kernel_rfl) (fun _ _ _ h => h) (by rfl) ?_ hHeld ?_
   rotate_left
   ·(intro w hSw; (try dsimp only at hSw); go_simp; try with_reducible rfl)
   simp only [Act.put, p1, p2, p3]
   refine takeT_w 4 (some 21) (v := ?_) rfl rfl (by kernel_rfl) (by kernel_rfl) (by kernel_rfl) (by kernel_rfl) (fun _ _ _ h => h) (by rfl) ?_ hHeld ?_
   rotate_left
   ·(intro w hSw; (try dsimp only at hSw); go_simp; try with_reducible rfl)
   simp only [Act.put, p1, p2, p3]
   refine takeT_w 6 (some 23) (v := ?_) rfl rfl (by kernel_rfl) (by kernel_rfl) (by kernel_rfl) (by kernel_rfl) (fun _ _ _ h => h) (by rfl) ?_ hHeld ?_
   rotate_left
   ·(intro w hSw; (try dsimp only at hSw); go_simp; try with_reducible rfl)
   simp only [Act.put, p1, p2, p3]
   refine takeT_w 7 (some 24) (v := ?_) rfl rfl (by kernel_rfl) (by kernel_rfl) (by kernel_rfl) (by kernel_rfl) (fun _ _ _ h => h) (by rfl) ?_ hHeld ?_
   rotate_left
   ·(intro w hSw; (try dsimp only at hSw); go_simp; try with_reducible rfl)
   simp only [Act.put, p1, p2, p3]
   refine takeT_w 8 (some 25) (v := ?_) rfl rfl (by kernel_rfl) (by kernel_rfl) (by kernel_rfl) (by kernel_rfl) (fun _ _ _ h => h) (by rfl) ?_ hHeld ?_
   rotate_left
   ·(intro w hSw; (try dsimp only at hSw); go_simp; try with_reducible rfl)
   simp only [Act.put, p1, p2, p3]
   refine takeT_w 9 (some 26) (v := ?_) rfl rfl (by kernel_rfl) (by kernel_rfl) (by kernel_rfl) (by kernel_rfl) (fun _ _ _ h => h) (by rfl) ?_ hHeld ?_
   rotate_left
   ·(intro w hSw; (try dsimp only at hSw); go_simp; try with_reducible rfl)
   simp only [Act.put, p1, p2, p3]
   refine takeT_w 10 (some 27) (v := ?_) rfl rfl (by kernel_rfl) (by kernel_rfl) (by kernel_rfl) (by kernel_rfl) (fun _ _ _ h => h) (by rfl) ?_ hHeld ?_
   rotate_left
   ·(intro w hSw; (try dsimp only at hSw); go_simp; try with_reducible rfl)
   simp only [Act.put, p1, p2, p3]
   refine takeT_w 11 (some 28) (v := ?_) rfl rfl (by kernel_rfl) (by kernel_rfl) (by kernel_rfl) (by kernel_rfl) (fun _ _ _ h => h) (by rfl) ?_ hHeld ?_
   rotate_left
   ·(intro w hSw; (try dsimp only at hSw); go_simp; try with_reducible rfl)
   simp only [Act.put, p1, p2, p3]
   refine takeT_w 12 (some 29) (v := ?_) rfl rfl (by kernel_rfl) (by kernel_rfl) (by kernel_rfl) (by kernel_rfl) (fun _ _ _ h => h) (by rfl) ?_ hHeld ?_
   rotate_left
   ·(intro w hSw; (try dsimp only at hSw); go_simp; try with_reducible rfl)
   simp only [Act.put, p1, p2, p3]
   refine takeT_w 13 (some 30) (v := ?_) rfl rfl (by kernel_rfl) (by kernel_rfl) (by kernel_rfl) (by kernel_rfl) (fun _ _ _ h => h) (by rfl) ?_ hHeld ?_
   rotate_left
   ·(intro w hSw; (try dsimp only at hSw); go_simp; try with_reducible rfl)
   simp only [Act.put, p1, p2, p3]
   refine takeT_w 15 (some 32) (v := ?_) rfl rfl (by kernel_rfl) (by kernel_rfl) (by kernel_rfl) (by kernel_rfl) (fun _ _ _ h => h) (by rfl) ?_ hHeld ?_
   rotate_left
   ·(intro w hSw; (try dsimp only at hSw); go_simp; try with_reducible rfl)
   simp only [Act.put, p1, p2, p3]
   refine takeT_w 16 (some 33) (v := ?_) rfl rfl (by kernel_rfl) (by kernel_rfl) (by kernel_rfl) (by kernel_rfl) (fun _ _ _ h => h) (by rfl) ?_ hHeld ?_
   rotate_left
   ·(intro w hSw; (try dsimp only at hSw); go_simp; try with_reducible rfl)
   simp only [Act.put, p1, p2, p3]
   refine takeT_2 5 17 rfl rfl (by kernel_rfl) (by rfl) (by rfl) (fun K hK => ?_) (fun K hK => ?_)
   ·
    go_simp
    have fN : Fr [] wD (wD.alloc (.cells #[] 9)) := (Fr.refl [] wD).alloc _
    have R0 : Row (wD.alloc (.cells #[] 9)) B 9 1 (.slice (some ⟨wD.heap.size, 0, none⟩) 0 0) 0 [] := Row.new wD #[] 9 1 0 (0, 0) (free_zero _) (by unfold maxLen; omega) rfl (by have := FC.size; have := HB.out; omega)
    (try (have hne0 := (R17.lt _ rfl).2; dsimp only at hne0; have hne := Ne.symm (Nat.ne_of_lt hne0); clear hne0))
    (try replace R17 := R17.keep_nil fN)
    refine hK.out _ _ (fun _ => MK.out _ (FC.trans_nil fN)) (fun hHx => ?_)
    replace FC := FC.trans_nil fN
    clear hK hHeld
    have hHeld := hHx (by decide)
    clear hHx
    try simp only [Act.put, p1, p2, p3]
    clear fN
    generalize wD.alloc (.cells #[] 9) = w5 at *
    refine takeT_2 14 17 rfl rfl (by kernel_rfl) (by rfl) (by rfl) (fun K hK => ?_) (fun K hK => ?_)
    ·
     refine wp_app rfl slStrX B _ 0 [] rfl R0 Av N cv (L.map strV) rfl (by rw [RL.len]) (RL.keep_nil FC).rdD.1 (by intro u hu; obtain ⟨y, -, rfl⟩ := List.mem_map.1 hu; rfl) RL.rdD.2.2 (by omega) (by have := FC.size; have := HB.out; omega) (fun v14 w14 p1 p2 p3 p4 => ?_)
     have R14 : Row w14 B 9 1 v14 N (L.map strV) := by simpa using p1
     obtain ⟨A14, c14, rfl, -, -, -, -, -⟩ := R14.shape
     refine hK.out _ _ (fun _ => MK.out _ (FC.trans p2 (fun i hi => .inr (by have := (R0.lt i (mem_own.1 hi)).1; have := HB.out; omega)))) (fun hHx => ?_)
     replace FC := FC.trans p2 (fun i hi => .inr (by have := (R0.lt i (mem_own.1 hi)).1; have := HB.out; omega))
     clear hK hHeld
     have hHeld := hHx (by decide)
     clear hHx
     try simp only [Act.put, p1, p2, p3]
     clear p1 p2 p3 p4 R0
     (try clear hne)
     refine takeT_c 17 rfl (by kernel_rfl) (by rfl) (fun K hK => ?_)
     go_simp
     have fN : Fr [] w14 (w14.alloc (.cells #[.string S] 9)) := (Fr.refl [] w14).alloc _
     have R17 := row_strX w14 b (B := B) (by have := FC.size; have := HB.out; omega)
     rw [HS.out] at R17
     (try (have hne0 := (R0.lt _ rfl).2; dsimp only at hne0; have hne := Nat.ne_of_lt hne0; clear hne0))
     (try replace R0 := R0.keep_nil fN)
     (try replace R14 := R14.keep_nil fN)
     refine hK.out _ _ (fun _ => MK.out _ (FC.trans_nil fN)) (fun hHx => ?_)
     replace FC := FC.trans_nil fN
     clear hK hHeld
     have hHeld := hHx (by decide)
     clear hHx
     try simp only [Act.put, p1, p2, p3]
     clear fN
     generalize w14.alloc (.cells #[.string S] 9) = w17 at *
     refine takeT_c 18 rfl (by kernel_rfl) (by rfl) (fun K hK => ?_)
     refine wp_app rfl slStrX B _ N (L.map strV) rfl R14 _ 1 1 ([b].map strV) rfl rfl R17.rdD.1 (by intro u hu; obtain ⟨y, -, rfl⟩ := List.mem_map.1 hu; rfl) (fun h => by cases h) (by omega) (by have := FC.size; have := HB.out; omega) (fun v18 w18 p1 p2 p3 p4 => ?_)
     have R18 : Row w18 B 9 1 v18 (L ++ [b]).length ((L ++ [b]).map strV) := by
      rw [List.map_append, List.length_append, HL.out.2.1]; exact p1
     obtain ⟨A18, c18, rfl, -, -, -, -, -⟩ := p1.shape
     refine hK.out _ _ (fun _ => MK.out _ (FC.trans p2 (fun i hi => .inr (by have := (R14.lt i (mem_own.1 hi)).1; have := HB.out; omega)))) (fun hHx => ?_)
     replace FC := FC.trans p2 (fun i hi => .inr (by have := (R14.lt i (mem_own.1 hi)).1; have := HB.out; omega))
     clear hK hHeld
     have hHeld := hHx (by decide)
     clear hHx
     try simp only [Act.put, p1, p2, p3]
     clear p1 p2 p3 p4 R14 R17
     refine takeT_c 19 rfl (by kernel_rfl) (by rfl) (fun K hK => ?_)
     go_simp
     refine hK.out _ _ (fun _ => hHeld) (fun hHx => ?_)
     clear hHx hK
     try simp only [Act.put, p1, p2, p3]
     refine takeT_c 20 rfl (by kernel_rfl) (by rfl) (fun K hK => ?_)
     go_simp
     refine hK.out _ _ (fun _ => hHeld) (fun hHx => ?_)
     clear hHx hK
     try simp only [Act.put, p1, p2, p3]
     have fW : Fr [] w w18 := FD.out.trans_nil FC
     have hW := HH.out.keep_nil fW
     obtain ⟨P2, P3, rowS⟩ := hW.row.setE (i * 2 + 1) (by have := HI.out.1; omega) (.slice A18 (N + 1) c18)
     have hps : (pcells X.ps).set (i * 2 + 1) (.slice A18 (N + 1) c18) = pcells (X.ps.set i (D.sureR i, .slice A18 (N + 1) c18)) := by
      rw [pcells_set1 X.ps i (by rw [HH.out.len]; exact HI.out.1), (HH.out.at_ i (by rw [HH.out.len]; exact HI.out.1)).1]
     rw [hps] at rowS
     obtain ⟨old, hold⟩ : ∃ old, w18.cell? ⟨X.g, i * 2 + 1, none⟩ = some old := ⟨_, P2.trans (List.getElem?_eq_getElem (by rw [pcells_len, HH.out.len]; have := HI.out.1; omega))⟩
     have fS : Fr [X.g] w18 (w18.setCell ⟨X.g, i * 2 + 1, none⟩ (.slice A18 (N + 1) c18)) := (Fr.refl [X.g] w18).setCell (.inl (by simp)) _
     have hgne : ∀ g, (Value.slice A18 (N + 1) c18).ownBlock = some g → g ∉ [X.g] := fun g hg hm => by
      rw [List.mem_singleton.1 hm] at hg
      have h1 := (R18.lt _ hg).1
      have h2 := HH.out.lt _ HH.out.gO
      have := HB.out
      have := FD.out.size
      omega
     have hP := hW.put (i := i) (D' := D.wr i b) HI.out.1 rfl (fun j hj => by split <;> first | rfl | (rename_i e; subst e; rfl)) (fun y => by rw [DkM.wr, DkM.wrL]) ⟨HH.out.ss i HI.out.1, fun y hy => by
      rcases List.mem_append.1 hy with hy | hy
      ·exact HH.out.su _ y hy
      ·rw [List.mem_singleton.1 hy]; exact HL.out.2.2.1⟩ rfl fS rowS (by rw [HL.out.1]; exact (R18.mono (Nat.zero_le _)).keep fS hgne)
     refine takeT_c 21 rfl (by kernel_rfl) (by rfl) (fun K hK => ?_)
     refine wp_st1 rfl (by kernel_rfl) X.g (i * 2 + 1) rfl (.slice A18 (N + 1) c18) rfl rfl rfl hold P3 ?_
     refine hK.out _ _ (fun h => absurd rfl h) (fun hHx => ?_)
     clear hHx hK hHeld P2 P3 hold rowS hps
     refine wpAnyT_done (by kernel_rfl) ?_ _
     have cd := xdDid_any ⟨_, hP⟩ (show (D.wr i b).off = false from HOF.out)
     have HA := Lib.hid (show Fr O w (w18.setCell ⟨X.g, i * 2 + 1, none⟩ (.slice A18 (N + 1) c18)) from (fW.mono (by simp)).trans fS (fun k hk => .inl (by rw [List.mem_singleton.1 hk]; exact HH.out.gO)))
     have HB2 := Lib.hid (show ∀ k ∈ (Value.slice A18 (N + 1) c18).ownBlock.toList ++ O, k ∈ O ∨ w.heap.size ≤ k from fun k hk => by
      rcases List.mem_append.1 hk with hk | hk
      ·have h1 := (R18.lt _ (mem_own.1 hk)).1
       have := HB.out
       have := FD.out.size
       exact .inr (by omega)
      ·exact .inl hk)
     clear hP fS fW hW hgne R18 FC RL
     generalize w18.setCell ⟨X.g, i * 2 + 1, none⟩ (.slice A18 (N + 1) c18) = w19 at *
     go_wp2_with fail
     refine cd.mono ?_
     rintro e w20 ⟨rfl, ha⟩
     clear cd
     go_wp2_with fail
     go_ret
     exact ⟨by rw [HE.out]; rfl, by rw [HW.out]; exact ha.trans HA.out HB2.out⟩
    ·
     go_simp
     have fN : Fr [] w5 (w5.alloc (.cells #[.string S] 9)) := (Fr.refl [] w5).alloc _
     have R17 := row_strX w5 b (B := B) (by have := FC.size; have := HB.out; omega)
     rw [HS.out] at R17
     (try (have hne0 := (R0.lt _ rfl).2; dsimp only at hne0; have hne := Nat.ne_of_lt hne0; clear hne0))
     (try replace R0 := R0.keep_nil fN)
     (try replace R14 := R14.keep_nil fN)
     refine hK.out _ _ (fun _ => MK.out _ (FC.trans_nil fN)) (fun hHx => ?_)
     replace FC := FC.trans_nil fN
     clear hK hHeld
     have hHeld := hHx (by decide)
     clear hHx
     try simp only [Act.put, p1, p2, p3]
     clear fN
     generalize w5.alloc (.cells #[.string S] 9) = w17 at *
     refine takeT_c 14 rfl (by kernel_rfl) (by rfl) (fun K hK => ?_)
     refine wp_app rfl slStrX B _ 0 [] rfl R0 Av N cv (L.map strV) rfl (by rw [RL.len]) (RL.keep_nil FC).rdD.1 (by intro u hu; obtain ⟨y, -, rfl⟩ := List.mem_map.1 hu; rfl) RL.rdD.2.2 (by omega) (by have := FC.size; have := HB.out; omega) (fun v14 w14 p1 p2 p3 p4 => ?_)
     replace R17 := R17.keep p2 (fun g hg hm => hne (by have h1 := own_mem.1 hm; have h2 := own_mem.1 (mem_own.2 hg); omega))
     have R14 : Row w14 B 9 1 v14 N (L.map strV) := by simpa using p1
     obtain ⟨A14, c14, rfl, -, -, -, -, -⟩ := R14.shape
     refine hK.out _ _ (fun _ => MK.out _ (FC.trans p2 (fun i hi => .inr (by have := (R0.lt i (mem_own.1 hi)).1; have := HB.out; omega)))) (fun hHx => ?_)
     replace FC := FC.trans p2 (fun i hi => .inr (by have := (R0.lt i (mem_own.1 hi)).1; have := HB.out; omega))
     clear hK hHeld
     have hHeld := hHx (by decide)
     clear hHx
     try simp only [Act.put, p1, p2, p3]
     clear p1 p2 p3 p4 R0
     (try clear hne)
     refine takeT_c 18 rfl (by kernel_rfl) (by rfl) (fun K hK => ?_)
     refine wp_app rfl slStrX B _ N (L.map strV) rfl R14 _ 1 1 ([b].map strV) rfl rfl R17.rdD.1 (by intro u hu; obtain ⟨y, -, rfl⟩ := List.mem_map.1 hu; rfl) (fun h => by cases h) (by omega) (by have := FC.size; have := HB.out; omega) (fun v18 w18 p1 p2 p3 p4 => ?_)
     have R18 : Row w18 B 9 1 v18 (L ++ [b]).length ((L ++ [b]).map strV) := by
      rw [List.map_append, List.length_append, HL.out.2.1]; exact p1
     obtain ⟨A18, c18, rfl, -, -, -, -, -⟩ := p1.shape
     refine hK.out _ _ (fun _ => MK.out _ (FC.trans p2 (fun i hi => .inr (by have := (R14.lt i (mem_own.1 hi)).1; have := HB.out; omega)))) (fun hHx => ?_)
     replace FC := FC.trans p2 (fun i hi => .inr (by have := (R14.lt i (mem_own.1 hi)).1; have := HB.out; omega))
     clear hK hHeld
     have hHeld := hHx (by decide)
     clear hHx
     try simp only [Act.put, p1, p2, p3]
     clear p1 p2 p3 p4 R14 R17
     refine takeT_c 19 rfl (by kernel_rfl) (by rfl) (fun K hK => ?_)
     go_simp
     refine hK.out _ _ (fun _ => hHeld) (fun hHx => ?_)
     clear hHx hK
     try simp only [Act.put, p1, p2, p3]
     refine takeT_c 20 rfl (by kernel_rfl) (by rfl) (fun K hK => ?_)
     go_simp
     refine hK.out _ _ (fun _ => hHeld) (fun hHx => ?_)
     clear hHx hK
     try simp only [Act.put, p1, p2, p3]
     have fW : Fr [] w w18 := FD.out.trans_nil FC
     have hW := HH.out.keep_nil fW
     obtain ⟨P2, P3, rowS⟩ := hW.row.setE (i * 2 + 1) (by have := HI.out.1; omega) (.slice A18 (N + 1) c18)
     have hps : (pcells X.ps).set (i * 2 + 1) (.slice A18 (N + 1) c18) = pcells (X.ps.set i (D.sureR i, .slice A18 (N + 1) c18)) := by
      rw [pcells_set1 X.ps i (by rw [HH.out.len]; exact HI.out.1), (HH.out.at_ i (by rw [HH.out.len]; exact HI.out.1)).1]
     rw [hps] at rowS
     obtain ⟨old, hold⟩ : ∃ old, w18.cell? ⟨X.g, i * 2 + 1, none⟩ = some old := ⟨_, P2.trans (List.getElem?_eq_getElem (by rw [pcells_len, HH.out.len]; have := HI.out.1; omega))⟩
     have fS : Fr [X.g] w18 (w18.setCell ⟨X.g, i * 2 + 1, none⟩ (.slice A18 (N + 1) c18)) := (Fr.refl [X.g] w18).setCell (.inl (by simp)) _
     have hgne : ∀ g, (Value.slice A18 (N + 1) c18).ownBlock = some g → g ∉ [X.g] := fun g hg hm => by
      rw [List.mem_singleton.1 hm] at hg
      have h1 := (R18.lt _ hg).1
      have h2 := HH.out.lt _ HH.out.gO
      have := HB.out
      have := FD.out.size
      omega
     have hP := hW.put (i := i) (D' := D.wr i b) HI.out.1 rfl (fun j hj => by split <;> first | rfl | (rename_i e; subst e; rfl)) (fun y => by rw [DkM.wr, DkM.wrL]) ⟨HH.out.ss i HI.out.1, fun y hy => by
      rcases List.mem_append.1 hy with hy | hy
      ·exact HH.out.su _ y hy
      ·rw [List.mem_singleton.1 hy]; exact HL.out.2.2.1⟩ rfl fS rowS (by rw [HL.out.1]; exact (R18.mono (Nat.zero_le _)).keep fS hgne)
     refine takeT_c 21 rfl (by kernel_rfl) (by rfl) (fun K hK => ?_)
     refine wp_st1 rfl (by kernel_rfl) X.g (i * 2 + 1) rfl (.slice A18 (N + 1) c18) rfl rfl rfl hold P3 ?_
     refine hK.out _ _ (fun h => absurd rfl h) (fun hHx => ?_)
     clear hHx hK hHeld P2 P3 hold rowS hps
     refine wpAnyT_done (by kernel_rfl) ?_ _
     have cd := xdDid_any ⟨_, hP⟩ (show (D.wr i b).off = false from HOF.out)
     have HA := Lib.hid (show Fr O w (w18.setCell ⟨X.g, i * 2 + 1, none⟩ (.slice A18 (N + 1) c18)) from (fW.mono (by simp)).trans fS (fun k hk => .inl (by rw [List.mem_singleton.1 hk]; exact HH.out.gO)))
     have HB2 := Lib.hid (show ∀ k ∈ (Value.slice A18 (N + 1) c18).ownBlock.toList ++ O, k ∈ O ∨ w.heap.size ≤ k from fun k hk => by
      rcases List.mem_append.1 hk with hk | hk
      ·have h1 := (R18.lt _ (mem_own.1 hk)).1
       have := HB.out
       have := FD.out.size
       exact .inr (by omega)
      ·exact .inl hk)
     clear hP fS fW hW hgne R18 FC RL
     generalize w18.setCell ⟨X.g, i * 2 + 1, none⟩ (.slice A18 (N + 1) c18) = w19 at *
     go_wp2_with fail
     refine cd.mono ?_
     rintro e w20 ⟨rfl, ha⟩
     clear cd
     go_wp2_with fail
     go_ret
     exact ⟨by rw [HE.out]; rfl, by rw [HW.out]; exact ha.trans HA.out HB2.out⟩
   ·
    go_simp
    have fN : Fr [] wD (wD.alloc (.cells #[.string S] 9)) := (Fr.refl [] wD).alloc _
    have R17 := row_strX wD b (B := B) (by have := FC.size; have := HB.out; omega)
    rw [HS.out] at R17
    (try (have hne0 := (R0.lt _ rfl).2; dsimp only at hne0; have hne := Nat.ne_of_lt hne0; clear hne0))
    (try replace R0 := R0.keep_nil fN)
    (try replace R14 := R14.keep_nil fN)
    refine hK.out _ _ (fun _ => MK.out _ (FC.trans_nil fN)) (fun hHx => ?_)
    replace FC := FC.trans_nil fN
    clear hK hHeld
    have hHeld := hHx (by decide)
    clear hHx
    try simp only [Act.put, p1, p2, p3]
    clear fN
    generalize wD.alloc (.cells #[.string S] 9) = w17 at *
    refine takeT_c 5 rfl (by kernel_rfl) (by rfl) (fun K hK => ?_)
    go_simp
    have fN : Fr [] w17 (w17.alloc (.cells #[] 9)) := (Fr.refl [] w17).alloc _
    have R0 : Row (w17.alloc (.cells #[] 9)) B 9 1 (.slice (some ⟨w17.heap.size, 0, none⟩) 0 0) 0 [] := Row.new w17 #[] 9 1 0 (0, 0) (free_zero _) (by unfold maxLen; omega) rfl (by have := FC.size; have := HB.out; omega)
    (try (have hne0 := (R17.lt _ rfl).2; dsimp only at hne0; have hne := Ne.symm (Nat.ne_of_lt hne0); clear hne0))
    (try replace R17 := R17.keep_nil fN)
    refine hK.out _ _ (fun _ => MK.out _ (FC.trans_nil fN)) (fun hHx => ?_)
    replace FC := FC.trans_nil fN
    clear hK hHeld
    have hHeld := hHx (by decide)
    clear hHx
    try simp only [Act.put, p1, p2, p3]
    clear fN
    generalize w17.alloc (.cells #[] 9) = w5 at *
    refine takeT_c 14 rfl (by kernel_rfl) (by rfl) (fun K hK => ?_)
    refine wp_app rfl slStrX B _ 0 [] rfl R0 Av N cv (L.map strV) rfl (by rw [RL.len]) (RL.keep_nil FC).rdD.1 (by intro u hu; obtain ⟨y, -, rfl⟩ := List.mem_map.1 hu; rfl) RL.rdD.2.2 (by omega) (by have := FC.size; have := HB.out; omega) (fun v14 w14 p1 p2 p3 p4 => ?_)
    replace R17 := R17.keep p2 (fun g hg hm => hne (by have h1 := own_mem.1 hm; have h2 := own_mem.1 (mem_own.2 hg); omega))
    have R14 : Row w14 B 9 1 v14 N (L.map strV) := by simpa using p1
    obtain ⟨A14, c14, rfl, -, -, -, -, -⟩ := R14.shape
    refine hK.out _ _ (fun _ => MK.out _ (FC.trans p2 (fun i hi => .inr (by have := (R0.lt i (mem_own.1 hi)).1; have := HB.out; omega)))) (fun hHx => ?_)
    replace FC := FC.trans p2 (fun i hi => .inr (by have := (R0.lt i (mem_own.1 hi)).1; have := HB.out; omega))
    clear hK hHeld
    have hHeld := hHx (by decide)
    clear hHx
    try simp only [Act.put, p1, p2, p3]
    clear p1 p2 p3 p4 R0
    (try clear hne)
    refine takeT_c 18 rfl (by kernel_rfl) (by rfl) (fun K hK => ?_)
    refine wp_app rfl slStrX B _ N (L.map strV) rfl R14 _ 1 1 ([b].map strV) rfl rfl R17.rdD.1 (by intro u hu; obtain ⟨y, -, rfl⟩ := List.mem_map.1 hu; rfl) (fun h => by cases h) (by omega) (by have := FC.size; have := HB.out; omega) (fun v18 w18 p1 p2 p3 p4 => ?_)
    have R18 : Row w18 B 9 1 v18 (L ++ [b]).length ((L ++ [b]).map strV) := by
     rw [List.map_append, List.length_append, HL.out.2.1]; exact p1
    obtain ⟨A18, c18, rfl, -, -, -, -, -⟩ := p1.shape
    refine hK.out _ _ (fun _ => MK.out _ (FC.trans p2 (fun i hi => .inr (by have := (R14.lt i (mem_own.1 hi)).1; have := HB.out; omega)))) (fun hHx => ?_)
    replace FC := FC.trans p2 (fun i hi => .inr (by have := (R14.lt i (mem_own.1 hi)).1; have := HB.out; omega))
    clear hK hHeld
    have hHeld := hHx (by decide)
    clear hHx
    try simp only [Act.put, p1, p2, p3]
    clear p1 p2 p3 p4 R14 R17
    refine takeT_c 19 rfl (by kernel_rfl) (by rfl) (fun K hK => ?_)
    go_simp
    refine hK.out _ _ (fun _ => hHeld) (fun hHx => ?_)
    clear hHx hK
    try simp only [Act.put, p1, p2, p3]
    refine takeT_c 20 rfl (by kernel_rfl) (by rfl) (fun K hK => ?_)
    go_simp
    refine hK.out _ _ (fun _ => hHeld) (fun hHx => ?_)
    clear hHx hK
    try simp only [Act.put, p1, p2, p3]
    have fW : Fr [] w w18 := FD.out.trans_nil FC
    have hW := HH.out.keep_nil fW
    obtain ⟨P2, P3, rowS⟩ := hW.row.setE (i * 2 + 1) (by have := HI.out.1; omega) (.slice A18 (N + 1) c18)
    have hps : (pcells X.ps).set (i * 2 + 1) (.slice A18 (N + 1) c18) = pcells (X.ps.set i (D.sureR i, .slice A18 (N + 1) c18)) := by
     rw [pcells_set1 X.ps i (by rw [HH.out.len]; exact HI.out.1), (HH.out.at_ i (by rw [HH.out.len]; exact HI.out.1)).1]
    rw [hps] at rowS
    obtain ⟨old, hold⟩ : ∃ old, w18.cell? ⟨X.g, i * 2 + 1, none⟩ = some old := ⟨_, P2.trans (List.getElem?_eq_getElem (by rw [pcells_len, HH.out.len]; have := HI.out.1; omega))⟩
    have fS : Fr [X.g] w18 (w18.setCell ⟨X.g, i * 2 + 1, none⟩ (.slice A18 (N + 1) c18)) := (Fr.refl [X.g] w18).setCell (.inl (by simp)) _
    have hgne : ∀ g, (Value.slice A18 (N + 1) c18).ownBlock = some g → g ∉ [X.g] := fun g hg hm => by
     rw [List.mem_singleton.1 hm] at hg
     have h1 := (R18.lt _ hg).1
     have h2 := HH.out.lt _ HH.out.gO
     have := HB.out
     have := FD.out.size
     omega
    have hP := hW.put (i := i) (D' := D.wr i b) HI.out.1 rfl (fun j hj => by split <;> first | rfl | (rename_i e; subst e; rfl)) (fun y => by rw [DkM.wr, DkM.wrL]) ⟨HH.out.ss i HI.out.1, fun y hy => by
     rcases List.mem_append.1 hy with hy | hy
     ·exact HH.out.su _ y hy
     ·rw [List.mem_singleton.1 hy]; exact HL.out.2.2.1⟩ rfl fS rowS (by rw [HL.out.1]; exact (R18.mono (Nat.zero_le _)).keep fS hgne)
    refine takeT_c 21 rfl (by kernel_rfl) (by rfl) (fun K hK => ?_)
    refine wp_st1 rfl (by kernel_rfl) X.g (i * 2 + 1) rfl (.slice A18 (N + 1) c18) rfl rfl rfl hold P3 ?_
    refine hK.out _ _ (fun h => absurd rfl h) (fun hHx => ?_)
    clear hHx hK hHeld P2 P3 hold rowS hps
    refine wpAnyT_done (by kernel_rfl) ?_ _
    have cd := xdDid_any ⟨_, hP⟩ (show (D.wr i b).off = false from HOF.out)
    have HA := Lib.hid (show Fr O w (w18.setCell ⟨X.g, i * 2 + 1, none⟩ (.slice A18 (N + 1) c18)) from (fW.mono (by simp)).trans fS (fun k hk => .inl (by rw [List.mem_singleton.1 hk]; exact HH.out.gO)))
    have HB2 := Lib.hid (show ∀ k ∈ (Value.slice A18 (N + 1) c18).ownBlock.toList ++ O, k ∈ O ∨ w.heap.size ≤ k from fun k hk => by
     rcases List.mem_append.1 hk with hk | hk
     ·have h1 := (R18.lt _ (mem_own.1 hk)).1
      have := HB.out
      have := FD.out.size
      exact .inr (by omega)
     ·exact .inl hk)
    clear hP fS fW hW hgne R18 FC RL
    generalize w18.setCell ⟨X.g, i * 2 + 1, none⟩ (.slice A18 (N + 1) c18) = w19 at *
    go_wp2_with fail
    refine cd.mono ?_
    rintro e w20 ⟨rfl, ha⟩
    clear cd
    go_wp2_with fail
    go_ret
    exact ⟨by rw [HE.out]; rfl, by rw [HW.out]; exact ha.trans HA.out HB2.out⟩
  ·rw [hmE] at hm
   rw [hf] at ho
   have HE := Lib.hid (show D.writeE x n = 102 by rw [DkM.writeE, if_neg (by simpa using hmE), hf]; rfl)
   have HW := Lib.hid (show D.write x b = D by rw [DkM.write, hb, if_neg (by simpa using hmE), hf]; rfl)
   have HH := Lib.hid h
   clear h hmE hf hl hb rd
   go_enter Tryz.func114, Tryz.ntmps114
   go_wp2_with fail
   refine hm.mono ?_
   rintro e w1 ⟨rfl, rfl⟩
   go_wp2_with fail
   refine ho.mono ?_
   rintro e w1 ⟨rfl, rfl⟩
   go_wp2_with fail
   go_ret
   exact ⟨by rw [HE.out]; rfl, by rw [HW.out]; exact AftX.same HH.out⟩
 ·have HE := Lib.hid (show D.writeE x n = D.mayE x n by rw [DkM.writeE, if_pos (by simpa using hmE)])
  have HW := Lib.hid (show D.write x b = D by rw [DkM.write, hb, if_pos (by simpa using hmE)])
  obtain ⟨E, hE⟩ : ∃ E, D.mayE x n = E := ⟨_, rfl⟩
  rw [hE] at hm hmE
  have dE : (E != 0) = true := by simpa using hmE
  have HH := Lib.hid h
  have HEE := Lib.hid hE
  clear h hl hb rd ho hE
  go_enter Tryz.func114, Tryz.ntmps114
  go_wp2_with fail
  refine hm.mono ?_
  rintro e w1 ⟨rfl, rfl⟩
  go_wp2_with fail
  go_ret
  exact ⟨by rw [HE.out, HEE.out]; rfl, by rw [HW.out]; exact AftX.same HH.out⟩
theorem xdTamper_any (h : Xdk w p O D) (x : Int) (A : Option Addr) (n c : Nat) (b : List UInt8) (hb : b.length = n) (rd : Rd w A (bvs b)) (hA : A = none → n = 0) :
  Calls Tryz.prog 34 #[.pointer (some ⟨p, 0, none⟩), .int .i64 x, .slice A n c] w fun e w' => e = .returned (.int .i64 (D.mayE x n)) ∧ AftX w p O (D.tamper x b) w' := by
 have hm := xdMay_any h x A n c
 by_cases hmE : D.mayE x n = 0
 ·obtain ⟨hx, rfl⟩ := DkM.may0 hmE
  have HW := Lib.hid (show D.tamper x b = { D with sure := D.sure.set x.toNat (some b), uns := fun y => if y = x then [] else D.uns y } by rw [DkM.tamper, hb, if_neg (by simpa using hmE)])
  rw [hmE] at hm
  have HM := Lib.hid hmE
  obtain ⟨h1, h2⟩ := DkM.is_iff.1 hx
  obtain ⟨i, rfl⟩ : ∃ i : Nat, x = i := ⟨x.toNat, by omega⟩
  have hi : i < D.sure.length := by omega
  obtain ⟨X, h⟩ := h
  have c0 := h.c0
  obtain ⟨v, q0, q1, -, -⟩ := h.cp hi
  obtain ⟨S, hS⟩ : ∃ S : ByteArray, (⟨b.toArray⟩ : ByteArray) = S := ⟨_, rfl⟩
  have hcv : ∀ w' : World, Fr [] w w' → (convert 27 9 (.slice A 512 c)).run Tryz.prog w' = .ok (.string S) w' := fun w' f => by
   rw [show Value.string S = .string ⟨b.toArray⟩ from congrArg Value.string hS.symm]
   exact conv_str Tryz.underlying27 Tryz.underlying5 Tryz.underlying9 w' A b 512 c hb (rd.keep_nil f) hA
  have HCV := Lib.hid hcv
  clear hcv
  have hn := h.n1.2
  have fD : Fr [] w w.drew := (Fr.refl _ _).drew
  have hD := h.keep_nil fD
  obtain ⟨-, z0, r0⟩ := hD.row.setE (i * 2) (by omega) (.string S)
  obtain ⟨-, z1, r1⟩ := r0.setE (i * 2 + 1) (by omega) (.slice none 0 0)
  have z1' := (hD.row.setE (i * 2 + 1) (by omega) (.slice none 0 0)).2.1
  rw [show Value.string S = strV b from congrArg Value.string hS.symm, pcells_set0 X.ps i (by rw [h.len]; exact hi), pcells_set1 _ i (by rw [List.length_set, h.len]; exact hi), List.getElem_set_self, List.set_set, show strV b = .string S from congrArg Value.string hS] at r1
  have hP := hD.put (i := i) (s := b) (L := []) (v := .slice none 0 0) (D' := D.tamper i b) hi (by rw [HW.out]; exact List.length_set) (fun j hj => by
    rw [HW.out, DkM.sureR, DkM.is_iff.2 ⟨by omega, by simp only [List.length_set]; omega⟩, if_pos rfl, Int.toNat_natCast, Int.toNat_natCast, List.getD_eq_getElem?_getD, List.getElem?_set]
    by_cases e : i = j
    ·subst e; simp [hi]
    ·rw [if_neg e, if_neg (Ne.symm e), DkM.sureR, DkM.is_iff.2 ⟨by omega, by omega⟩, if_pos rfl, Int.toNat_natCast, List.getD_eq_getElem?_getD])
   (fun y => by rw [HW.out]) ⟨hb, fun _ h => by cases h⟩ (by rw [HW.out]) (((Fr.refl [X.g] _).setCell (.inl (by simp)) (.string S)).setCell (.inl (by simp)) (.slice none 0 0)) r1 (Row.nil _ _ _ _)
  have HP := Lib.hid hP
  have HH := Lib.hid h
  have p0 := fD.cell (by simp) q0
  have p1 := fD.cell (by simp) q1
  have F2 : Fr [X.g] w ((w.drew.setCell ⟨X.g, i * 2, none⟩ (.string S)).setCell ⟨X.g, i * 2 + 1, none⟩ (.slice none 0 0)) := ((((Fr.refl [X.g] w)).drew).setCell (.inl (by simp)) _).setCell (.inl (by simp)) _
  have HF := Lib.hid F2
  obtain ⟨NB, hNB⟩ : ∃ NB, D.sure.length = NB := ⟨_, rfl⟩
  rw [hNB] at hi hn c0
  have di : (i : Int) < NB := by omega
  obtain ⟨wD, hwD⟩ : ∃ wD, w.drew = wD := ⟨_, rfl⟩
  have HWD := Lib.hid hwD
  rw [hwD] at p0 p1 z0 z1 z1'
  clear h h1 h2 hx hmE hP F2 hNB r0 r1 hD fD hS hb rd hwD
  go_enter Tryz.func34, Tryz.ntmps34
  go_wp2_with fail
  refine hm.mono ?_
  rintro e w1 ⟨rfl, rfl⟩
  go_upto_region 4 with fail
  refine wp_region_T 9 (S := fun w' => w'.cell? ⟨p, 0, none⟩ = some (.slice (some ⟨X.g, 0, none⟩) NB X.c) ∧ (convert 27 9 (.slice A 512 c)).run Tryz.prog w' = .ok (.string S) w') (by kernel_rfl) ?_
  have hHeld : w.drew.cell? ⟨p, 0, none⟩ = some (.slice (some ⟨X.g, 0, none⟩) NB X.c) ∧ (convert 27 9 (.slice A 512 c)).run Tryz.prog w.drew = .ok (.string S) w.drew := ⟨((Fr.refl [] w).drew).cell (by simp) c0, HCV.out _ (Fr.refl [] w).drew⟩
  rw [HWD.out] at hHeld ⊢
  clear c0 q0 q1
  refine takeT_w 0 (some 15) (v := ?_) rfl rfl (by kernel_rfl) (by kernel_rfl) (by kernel_rfl) (by kernel_rfl) (fun _ _ _ h => h) (by rfl) ?_ hHeld ?_
  rotate_left
  ·(intro w hSw; (try dsimp only at hSw); go_simp; try with_reducible rfl)
  simp only [Act.put, p1, p2, p3]
  refine takeT_w 1 (some 16) (v := ?_) rfl rfl (by kernel_rfl) (by kernel_rfl) (by kernel_rfl) (by kernel_rfl) (fun _ _ _ h => h) (by rfl) ?_ hHeld ?_
  rotate_left
  ·(intro w hSw; (try dsimp only at hSw); go_simp; try with_reducible rfl)
  simp only [Act.put, p1, p2, p3]
  refine takeT_w 2 (some 17) (v := ?_) rfl rfl (by kernel_rfl) (by kernel_rfl) (by kernel_rfl) (by kernel_rfl) (fun _ _ _ h => h) (by rfl) ?_ hHeld ?_
  rotate_left
  ·(intro w hSw; (try dsimp only at hSw); go_simp; try with_reducible rfl)
  simp only [Act.put, p1, p2, p3]
  refine takeT_w 3 (some 18) (v := ?_) rfl rfl (by kernel_rfl) (by kernel_rfl) (by kernel_rfl) (by kernel_rfl) (fun _ _ _ h => h) (by rfl) ?_ hHeld ?_
  rotate_left
  ·(intro w hSw; (try dsimp only at hSw); go_simp; try with_reducible rfl)
  simp only [Act.put, p1, p2, p3]
  refine takeT_w 4 (some 19) (v := ?_) rfl rfl (by kernel_rfl) (by kernel_rfl) (by kernel_rfl) (by kernel_rfl) (fun _ _ _ h => h) (by rfl) ?_ hHeld ?_
  rotate_left
  ·(intro w hSw; (try dsimp only at hSw); go_simp; try with_reducible rfl)
  simp only [Act.put, p1, p2, p3]
  refine takeT_w 5 (some 20) (v := ?_) rfl rfl (by kernel_rfl) (by kernel_rfl) (by kernel_rfl) (by kernel_rfl) (fun _ _ _ h => h) (by rfl) ?_ hHeld ?_
  rotate_left
  ·(intro w hSw; (try dsimp only at hSw); go_simp; try with_reducible rfl)
  simp only [Act.put, p1, p2, p3]
  refine takeT_w 6 (some 21) (v := ?_) rfl rfl (by kernel_rfl) (by kernel_rfl) (by kernel_rfl) (by kernel_rfl) (fun _ _ _ h => h) (by rfl) ?_ hHeld ?_
  rotate_left
  ·(intro w hSw; (try dsimp only at hSw); go_simp; try with_reducible rfl)
  simp only [Act.put, p1, p2, p3]
  refine takeT_w 7 (some 22) (v := ?_) rfl rfl (by kernel_rfl) (by kernel_rfl) (by kernel_rfl) (by kernel_rfl) (fun _ _ _ h => h) (by rfl) ?_ hHeld ?_
  rotate_left
  ·(intro w hSw; (try dsimp only at hSw); go_simp; try with_reducible rfl)
  simp only [Act.put, p1, p2, p3]
  refine takeT_c 8 rfl (by kernel_rfl) (by rfl) (fun K hK => ?_)
  go_simp
  refine hK.out _ _ (fun _ => hHeld) (fun hHx => ?_)
  clear hHx hK
  try simp only [Act.put, p1, p2, p3]
  refine takeT_c 9 rfl (by kernel_rfl) (by rfl) (fun K hK => ?_)
  go_simp
  refine hK.out _ _ (fun h => absurd rfl h) (fun hHx => ?_)
  clear hK hHx hHeld
  refine wpAnyT_done (by kernel_rfl) ?_ _
  go_wp2_with fail
  go_ret
  refine ⟨by rw [HM.out]; rfl, ?_⟩
  rw [← HWD.out]
  exact ⟨_, ⟨_, HP.out⟩, fun k hk => .inl (mem_nilO hk), HF.out.mono (fun k hk => by rw [List.mem_singleton.1 hk]; exact HH.out.gO)⟩
 ·have HW := Lib.hid (show D.tamper x b = D by rw [DkM.tamper, hb, if_pos (by simpa using hmE)])
  obtain ⟨E, hE⟩ : ∃ E, D.mayE x n = E := ⟨_, rfl⟩
  rw [hE] at hm hmE
  have dE : (E != 0) = true := by simpa using hmE
  have HH := Lib.hid h
  have HEE := Lib.hid hE
  clear h hb rd hE
  go_enter Tryz.func34, Tryz.ntmps34
  go_wp2_with fail
  refine hm.mono ?_
  rintro e w1 ⟨rfl, rfl⟩
  go_wp2_with fail
  go_ret
  exact ⟨by rw [HEE.out]; rfl, by rw [HW.out]; exact AftX.same HH.out⟩
end
end
section
open Go.RowKit
set_option maxRecDepth 100000
def DkM.flK (D : DkM) (k : Nat) : DkM := { D with sure := (List.range D.sure.length).map fun j : Nat => if j < k then some (D.hasR j) else D.sure.getD j none, uns := fun x => if x < (k : Int) then [] else D.uns x }
theorem DkM.sureR_nat (D : DkM) {j : Nat} (hj : j < D.sure.length) : D.sureR j = (D.sure.getD j none).getD zB512 := by
 rw [DkM.sureR, DkM.is_iff.2 ⟨by omega, by omega⟩, if_pos rfl, Int.toNat_natCast]
theorem DkM.flK_len (D : DkM) (k : Nat) : (D.flK k).sure.length = D.sure.length := by simp [DkM.flK]
theorem DkM.flK_sureR (D : DkM) (k : Nat) {j : Nat} (hj : j < D.sure.length) : (D.flK k).sureR j = if j < k then D.hasR j else D.sureR j := by
 rw [DkM.sureR_nat _ (by rw [D.flK_len]; exact hj), DkM.sureR_nat D hj]
 simp only [DkM.flK, List.getD_eq_getElem?_getD, List.getElem?_map, List.getElem?_range hj, Option.map_some, Option.getD_some]
 split <;> rfl
theorem DkM.flK_uns (D : DkM) (k : Nat) (x : Int) : (D.flK k).uns x = if x < (k : Int) then [] else D.uns x := rfl
theorem DkM.flK_hasR (D : DkM) {k : Nat} (hk : k < D.sure.length) : (D.flK k).hasR k = D.hasR k := by
 rw [DkM.hasR, D.flK_uns, if_neg (by omega), D.flK_sureR k hk, if_neg (by omega)]; rfl
theorem DkM.flush1_sureR (D : DkM) {j : Nat} (hj : j < D.sure.length) : D.flush1.sureR j = D.hasR j := by
 have hl : D.flush1.sure.length = D.sure.length := D.flushL_len _
 rw [DkM.sureR_nat _ (by rw [hl]; exact hj), DkM.hasR]
 simp only [DkM.flush1, DkM.flushL, List.getD_eq_getElem?_getD, List.getElem?_map, List.getElem?_range hj, Option.map_some, Option.getD_some, DkM.fl, Bool.false_eq_true, if_false]
 cases (D.uns j).getLast? with
 | none => dsimp only; rw [DkM.sureR_nat D hj, List.getD_eq_getElem?_getD]
 | some b => rfl
section
variable {w w' : World} {p : Nat} {O : List Nat} {D D' : DkM} {X : XdX}
theorem XdkX.out (h : XdkX w p O D X) {x : Int} (hx : x < 0 ∨ (D.sure.length : Int) ≤ x) : D.uns x = [] := by
 by_cases e : D.uns x = []
 ·exact e
 ·have := DkM.is_iff.1 (h.rng x e); omega
set_option maxHeartbeats 2000000 in
theorem xdFlush_any (h : Xdk w p O D) : Calls Tryz.prog 115 #[.pointer (some ⟨p, 0, none⟩)] w fun e w' => e = .returned (.int .i64 D.flushE) ∧ AftX w p O D.flush w' := by
 have ho := xdOff_any h
 cases hf : D.off
 ·rw [hf] at ho
  have HE := Lib.hid (show D.flushE = 0 by rw [DkM.flushE, hf]; rfl)
  have HW := Lib.hid (show D.flush = D.flush1.dec by rw [DkM.flush, hf]; rfl)
  have HOF := Lib.hid hf
  obtain ⟨X, h⟩ := h
  have c0 := h.c0
  obtain ⟨n, hn⟩ : ∃ n, D.sure.length = n := ⟨_, rfl⟩
  have hn1 := h.n1.2
  rw [hn] at c0 hn1
  have HN := Lib.hid hn
  have HH := Lib.hid h
  clear h hf hn
  go_enter Tryz.func115, Tryz.ntmps115
  go_wp2_with fail
  refine ho.mono ?_
  rintro e w1 ⟨rfl, rfl⟩
  go_wp2_with fail
  go_loopw [3] (fun i wr => ∃ k : Nat, k ≤ n ∧ i = .int .i64 k ∧ AftX w p O (D.flK k) wr) (fun i _ => n - (intOf i).toNat)
  case atStart =>
   refine ⟨0, by omega, rfl, AftX.same (Xdk.eq ⟨X, HH.out⟩ (D.flK_len 0) (fun j hj => by rw [D.flK_sureR 0 hj, if_neg (by omega)]) (funext fun x => ?_) rfl)⟩
   rw [D.flK_uns]
   split
   ·exact (HH.out.out (.inl (by omega))).symm
   ·rfl
  case round =>
   clear c0 ho
   obtain ⟨k, hkn, rfl, O1, ⟨X1, h1⟩, hO1, F1⟩ := hrel
   have c0 := h1.c0
   rw [D.flK_len, HN.out] at c0
   by_cases hlt : k < n
   ·have d0 : (k : Int) < n := by omega
    have hkl : k < (D.flK k).sure.length := by rw [D.flK_len, HN.out]; exact hlt
    obtain ⟨R, hR⟩ : ∃ R, D.hasR k = R := ⟨_, rfl⟩
    obtain ⟨S, hS⟩ : ∃ S : ByteArray, (⟨R.toArray⟩ : ByteArray) = S := ⟨_, rfl⟩
    have HS := Lib.hid (show strV R = .string S from congrArg Value.string hS)
    have HR := Lib.hid hR
    have H1 := Lib.hid h1
    have HA := Lib.hid (And.intro hO1 F1)
    clear h1 hO1 F1 hR hS
    go_upto_region 6 with fail
    obtain ⟨wD, hwD⟩ : ∃ wD, wr.drew = wD := ⟨_, rfl⟩
    have fD : Fr [] wr wD := by rw [← hwD]; exact (Fr.refl [] wr).drew
    have cD := fD.cell (by simp) c0
    have cH := xdHas_any ⟨X1, H1.out.keep_nil fD⟩ hkl
    rw [D.flK_hasR (by rw [HN.out]; exact hlt), HR.out, HS.out] at cH
    have FD := Lib.hid fD
    refine wp_region_held_drew (S := fun w' => w'.cell? ⟨p, 0, none⟩ = some (.slice (some ⟨X1.g, 0, none⟩) n X1.c)) (by kernel_rfl) (by rw [hwD]; exact cD) (fun hHeld => ?_)
    rw [hwD] at hHeld ⊢
    clear hwD fD cD c0 hkl
    refine tw 0 15 hHeld ?_
    refine tw 1 16 hHeld ?_
    refine tw 2 17 hHeld ?_
    refine tw 3 18 hHeld ?_
    refine tw 4 19 hHeld ?_
    refine tw 5 20 hHeld ?_
    refine tw 6 21 hHeld ?_
    refine tc 7 (fun K hK => ?_)
    go_simp
    refine cH.mono ?_
    rintro e wE ⟨rfl, fE⟩
    have cE := fE.cell (by simp) hHeld
    refine hK.out _ _ cE (fun hHx => ?_)
    clear hK hHeld cH cE
    have hHeld := hHx
    clear hHx
    try simp only [Act.put, p1, p2, p3]
    refine tw 8 23 hHeld ?_
    refine tc 9 (fun K hK => ?_)
    go_simp
    refine hK.out _ _ hHeld (fun hHx => ?_)
    clear hK hHx
    try simp only [Act.put, p1, p2, p3]
    have fE2 := FD.out.trans_nil fE
    have hE := H1.out.keep_nil fE2
    have hlX := hE.len
    rw [D.flK_len, HN.out] at hlX
    obtain ⟨q0, z0, r0⟩ := hE.row.setE (k * 2) (by rw [D.flK_len, HN.out]; omega) (.string S)
    obtain ⟨q1, z1, -⟩ := hE.row.setE (k * 2 + 1) (by rw [D.flK_len, HN.out]; omega) (.slice none 0 0)
    obtain ⟨-, -, r1⟩ := r0.setE (k * 2 + 1) (by rw [D.flK_len, HN.out]; omega) (.slice none 0 0)
    rw [← HS.out, pcells_set0 X1.ps k (by omega), pcells_set1 _ k (by rw [List.length_set]; omega), List.getElem_set_self, List.set_set, HS.out] at r1
    rw [List.getElem?_eq_getElem (by rw [pcells_len]; omega)] at q0 q1
    obtain ⟨o0, ho0⟩ : ∃ o, (pcells X1.ps)[k * 2]'(by rw [pcells_len]; omega) = o := ⟨_, rfl⟩
    obtain ⟨o1, ho1⟩ : ∃ o, (pcells X1.ps)[k * 2 + 1]'(by rw [pcells_len]; omega) = o := ⟨_, rfl⟩
    rw [ho0] at q0
    rw [ho1] at q1
    have fS : Fr [X1.g] wE ((wE.setCell ⟨X1.g, k * 2, none⟩ (.string S)).setCell ⟨X1.g, k * 2 + 1, none⟩ (.slice none 0 0)) := ((Fr.refl [X1.g] wE).setCell (.inl (by simp)) (.string S)).setCell (.inl (by simp)) (.slice none 0 0)
    have hP := hE.put (i := k) (s := R) (L := []) (v := .slice none 0 0) (D' := D.flK (k + 1)) (by rw [D.flK_len, HN.out]; exact hlt) (by rw [D.flK_len, D.flK_len]) (fun j hj => by
      rw [D.flK_len] at hj
      rw [D.flK_sureR _ hj, D.flK_sureR _ hj]
      by_cases e : j = k
      ·subst e; rw [if_pos (by omega), if_pos rfl, HR.out]
      ·rw [if_neg e]
       by_cases h : j < k
       ·rw [if_pos (by omega), if_pos h]
       ·rw [if_neg (by omega), if_neg h])
     (fun y => by
      rw [D.flK_uns, D.flK_uns]
      by_cases e : y = (k : Int)
      ·subst e; rw [if_pos (by omega), if_pos rfl]
      ·rw [if_neg e]
       by_cases h : y < (k : Int)
       ·rw [if_pos (by omega), if_pos h]
       ·rw [if_neg (by omega), if_neg h])
     ⟨by rw [← HR.out]; exact DkM.hasR_len HH.out.ss HH.out.su (by rw [HN.out]; exact hlt), fun _ h => by cases h⟩ rfl fS r1 (Row.nil _ _ _ _)
    have HP := Lib.hid (show AftX w p O (D.flK (k + 1)) _ from ⟨_, ⟨_, hP⟩, fun i hi => HA.out.1 i (mem_nilO hi), (HA.out.2.trans_nil fE2).trans fS (fun i hi => HA.out.1 i (by rw [List.mem_singleton.1 hi]; exact hE.gO))⟩)
    have cS := fS.cell (p := ⟨p, 0, none⟩) (by simpa using hE.pg) hHeld
    clear hP fS r0 r1 ho0 ho1 hE fE2 fE hlX
    refine tc 10 (fun K hK => ?_)
    go_simp
    refine hK.out _ _ cS (fun hHx => ?_)
    clear hK hHx hHeld cS q0 q1 z0 z1
    refine wpAnyH_done (by kernel_rfl) ?_ _
    go_wp2_with fail
    exact ⟨⟨k + 1, by omega, by go_num, HP.out⟩, by simp [intOf]; omega⟩
   ·obtain rfl : k = n := by omega
    have d0 : ¬ ((k : Int) < k) := by omega
    have hE : XdkX wr p O1 D.flush1 X1 := h1.eq (by rw [D.flK_len]; exact D.flushL_len _) (fun j hj => by
      rw [D.flK_len] at hj
      rw [D.flush1_sureR hj, D.flK_sureR _ hj, if_pos (by rw [← HN.out]; exact hj)]) (funext fun x => by
      rw [D.flK_uns]
      split
      ·rfl
      ·exact (HH.out.out (.inr (by rw [HN.out]; omega))).symm) rfl
    have cd := xdDid_any ⟨X1, hE⟩ HOF.out
    have HA := Lib.hid (And.intro hO1 F1)
    clear h1 hE hO1 F1
    go_wp2_with fail
    refine cd.mono ?_
    rintro e w9 ⟨rfl, ha⟩
    go_wp2_with fail
    go_ret
    exact ⟨by rw [HE.out]; rfl, by rw [HW.out]; exact ha.trans HA.out.2 HA.out.1⟩
 ·rw [hf] at ho
  have HE := Lib.hid (show D.flushE = 102 by rw [DkM.flushE, hf]; rfl)
  have HW := Lib.hid (show D.flush = D by rw [DkM.flush, hf]; rfl)
  have HH := Lib.hid h
  clear h hf
  go_enter Tryz.func115, Tryz.ntmps115
  go_wp2_with fail
  refine ho.mono ?_
  rintro e w1 ⟨rfl, rfl⟩
  go_wp2_with fail
  go_ret
  exact ⟨by rw [HE.out]; rfl, by rw [HW.out]; exact AftX.same HH.out⟩
end
end
section
open Go.RowKit
set_option maxRecDepth 100000
set_option maxHeartbeats 2000000 in
theorem xrcParts_zero (w : World) (A : Option Addr) (c : Nat) (hr : Rd w A (bvs zB512)) (hc : 512 ≤ c) :
  Calls Tryz.prog 179 #[.slice A 512 c] w fun e w' => e = .returned (.tuple #[.int .u64 0, .slice none 0 0, .int .u64 0, .int .i64 110]) ∧ Fr [] w w' := by
 obtain ⟨ga, oa, rfl⟩ : ∃ ga oa, A = some ⟨ga, oa, none⟩ := by
  obtain ⟨g', o', e', -⟩ := hr (by intro h0; have := congrArg List.length h0; rw [bvs_length, zB512_len, List.length_nil] at this; omega)
  exact ⟨g', o', e'⟩
 have vals : ∀ a k, k ≤ 8 → a + k ≤ 512 → ∀ (w' : World) (cc : Nat), Fr [] w w' → Calls Tryz.prog 178 #[.slice (some ⟨ga, oa + a, none⟩) k cc] w' fun e w'' => e = .returned (.int .u64 (leN ((zB512.drop a).take k) : Nat)) ∧ w' = w'' := fun a k hk hak w' cc f =>
  xrcValue_any _ _ k cc w' (by rw [List.length_take, List.length_drop, zB512_len]; omega) (by
   have := ((hr.keep_nil f).drop a).take k
   rw [← bvs_drop, ← bvs_take] at this
   simpa [addr_add] using this) hk
 have VV0 := Lib.hid (by have := vals 4 8 (by omega) (by omega); rwa [show leN ((zB512.drop 4).take 8) = 0 by decide] at this)
 have VV1 := Lib.hid (by have := vals 12 2 (by omega) (by omega); rwa [show leN ((zB512.drop 12).take 2) = 0 by decide] at this)
 have VV2 := Lib.hid (by have := vals 14 8 (by omega) (by omega); rwa [show leN ((zB512.drop 14).take 8) = 0 by decide] at this)
 have K12 : (12 : Int) ≤ c := by omega
 have K14 : (14 : Int) ≤ c := by omega
 have K22 : (22 : Int) ≤ c := by omega
 have N4 : ¬ (c = 4) := by omega
 have N12 : ¬ (c = 12) := by omega
 have N14 : ¬ (c = 14) := by omega
 clear hr vals
 go_enter Tryz.func179, Tryz.ntmps179
 go_upto_region 3 with fail
 have fz := (Fr.refl [] w).drew
 obtain ⟨w1, hw1⟩ : ∃ w1, w.drew = w1 := ⟨_, rfl⟩
 rw [hw1] at fz
 refine wp_region_held_drew (S := fun w' => Fr [] w w') (by kernel_rfl) (by rw [hw1]; exact fz) (fun hHeld => ?_)
 rw [hw1] at hHeld ⊢
 clear hw1 fz
 refine tw 0 14 hHeld ?_
 refine tw 1 15 hHeld ?_
 refine tw 3 17 hHeld ?_
 refine tw 4 18 hHeld ?_
 refine tw 7 21 hHeld ?_
 refine tw 8 22 hHeld ?_
 refine tc 2 (fun K hK => ?_)
 go_simp
 refine (VV0.out _ _ hHeld).mono ?_
 rintro e w' ⟨rfl, rfl⟩
 refine hK.out _ _ hHeld (fun hHn => ?_)
 clear hHn
 clear hK K
 try simp only [Act.put, p1, p2, p3]
 refine tc 5 (fun K hK => ?_)
 go_simp
 refine (VV1.out _ _ hHeld).mono ?_
 rintro e w' ⟨rfl, rfl⟩
 refine hK.out _ _ hHeld (fun hHn => ?_)
 clear hHn
 clear hK K
 try simp only [Act.put, p1, p2, p3]
 refine tw 6 20 hHeld ?_
 refine tc 9 (fun K hK => ?_)
 go_simp
 refine (VV2.out _ _ hHeld).mono ?_
 rintro e w' ⟨rfl, rfl⟩
 refine hK.out _ _ hHeld (fun hHn => ?_)
 clear hHn
 clear hK K
 try simp only [Act.put, p1, p2, p3]
 refine tw 10 6 hHeld ?_
 refine tw 11 7 hHeld ?_
 refine tw 12 8 hHeld ?_
 refine wpAnyH_done (by kernel_rfl) ?_ _
 go_wp2_with fail
 go_loopw [9, 10] (fun v i wr => v = .slice none 0 0 ∧ i = .int .i64 0 ∧ Fr [] w wr) (fun _ _ _ => 0)
 case atStart => exact ⟨rfl, rfl, hHeld⟩
 case round =>
  clear hHeld
  obtain ⟨rfl, rfl, F⟩ := hrel
  have HFF := Lib.hid F
  clear F
  go_upto_region 9 with fail
  obtain ⟨w2, hw2⟩ : ∃ w2, wr.drew = w2 := ⟨_, rfl⟩
  have Fd := HFF.out.drew
  rw [hw2] at Fd
  refine wp_region_held_drew (S := fun w' => Fr [] w2 w') (by kernel_rfl) (by rw [hw2]; exact Fr.refl _ _) (fun hHeld => ?_)
  rw [hw2] at hHeld ⊢
  clear hw2
  refine tw 0 46 hHeld ?_
  refine tw 1 47 hHeld ?_
  refine tw 2 48 hHeld ?_
  refine tu 3 49 hHeld ?_
  refine tu 4 50 hHeld ?_
  refine tu 5 51 hHeld ?_
  refine tw 6 52 hHeld ?_
  refine tw 7 53 hHeld ?_
  refine tu 8 54 hHeld ?_
  refine tu 9 55 hHeld ?_
  refine tu 10 56 hHeld ?_
  refine tu 11 57 hHeld ?_
  refine tw 12 58 hHeld ?_
  refine tw 13 59 hHeld ?_
  refine tu 14 60 hHeld ?_
  refine tu 15 61 hHeld ?_
  refine tu 16 62 hHeld ?_
  refine tu 17 63 hHeld ?_
  refine tu 18 64 hHeld ?_
  refine tu 19 65 hHeld ?_
  refine tu 20 66 hHeld ?_
  refine tu 21 67 hHeld ?_
  refine tu 22 68 hHeld ?_
  refine tu 23 69 hHeld ?_
  refine tw 24 70 hHeld ?_
  refine tw 25 71 hHeld ?_
  refine tu 26 72 hHeld ?_
  refine tu 27 73 hHeld ?_
  refine tu 28 74 hHeld ?_
  refine tu 29 75 hHeld ?_
  refine tu 30 76 hHeld ?_
  refine tu 31 77 hHeld ?_
  refine tu 32 78 hHeld ?_
  refine tu 33 79 hHeld ?_
  refine tw 34 80 hHeld ?_
  refine wpAnyH_done (by kernel_rfl) ?_ _
  go_wp2_with fail
  (try simp only [Exit.inBlock, Exit.then]); refine bodyPost_ret (results_tmp4 rfl _ _ _) rfl ?_
  exact ⟨rfl, Fd.trans_nil hHeld⟩
set_option maxHeartbeats 2000000 in
theorem xrcParse_zero (w : World) (A : Option Addr) (m n c : Nat) (vs : List Value) (bs : List (List UInt8)) (hn : bs.length = n) (hr : BRd w A vs bs) (h0 : 0 < n) (hz : ∀ b ∈ bs, b = zB512) :
  Calls Tryz.prog 123 #[.int .u64 m, .slice A n c] w fun e w' => e = .returned (.tuple #[.slice none 0 0, .int .i64 0, .int .i64 110]) ∧ Fr [] w w' := by
 have d0 : ((n : Int) == 0) = false := by rw [beq_eq_false_iff_ne]; omega
 have hv0 : vs.length = n := by rw [hr.len, hn]
 have hb0 : 0 < bs.length := by omega
 have hv1 : 0 < vs.length := by omega
 obtain ⟨g, o, rfl, hcell⟩ := hr.rd (by intro h; rw [h] at hv1; simp at hv1)
 have c0 := hcell 0 _ (List.getElem?_eq_getElem hv1)
 rw [Nat.add_zero] at c0
 obtain ⟨A0, cap0, hv00, hr0, hn0, hc0⟩ := hr.each 0 hv1 hb0
 have eb : bs[0] = zB512 := hz _ (List.getElem_mem hb0)
 rw [eb] at hv00 hr0 hn0 hc0
 rw [zB512_len] at hv00 hn0 hc0
 rw [hv00] at c0
 have cc := xrcParts_zero w A0 cap0 hr0 (by omega)
 have hpos : (0 : Int) < n := by omega
 have hposN : 0 < n := h0
 clear hr hcell hv00 hr0 eb hz hn hv0 hb0 hv1
 go_enter Tryz.func123, Tryz.ntmps123
 go_wp2_with fail
 refine cc.mono ?_
 rintro e w1 ⟨rfl, f1⟩
 have HF := Lib.hid f1
 clear cc f1
 go_wp2_with fail
 refine bodyPost_ret (results_tmp3 rfl _ _ _) rfl ?_
 exact ⟨rfl, HF.out⟩
end
section
open Go.RowKit
set_option maxRecDepth 100000
section
variable {w w' : World} {p : Nat} {O : List Nat} {D : DkM}
set_option maxHeartbeats 1000000 in
theorem xjRight_yes (h : Xdk w p O D) (x y : Int) (hr : jRight D x y = true) : Calls Tryz.prog 66 #[.pointer (some ⟨p, 0, none⟩), .int .i64 x, .int .i64 y] w fun e w' => e = .returned (.bool true) ∧ w = w' := by
 obtain ⟨X, hX⟩ := h
 have c0 := hX.c0
 have hn := hX.n1
 obtain ⟨n, hn'⟩ : ∃ n, D.sure.length = n := ⟨_, rfl⟩
 have hb2 := hr
 simp only [jRight, Bool.and_eq_true, decide_eq_true_eq] at hb2
 rw [hn'] at c0 hn hb2
 obtain ⟨h1, h2, h3, h4⟩ := hb2
 clear hX hr hn'
 go_enter Tryz.func66, Tryz.ntmps66
 go_wp2_with fail
 go_returns
 exact ⟨rfl, rfl⟩
theorem jRight_on {N : Nat} (h : On D N) {x y : Int} : jRight D x y = (decide (16 ≤ y) && (decide (y ≤ 256) && (decide (0 ≤ x) && decide (x ≤ (N : Int) - y)))) := by rw [jRight, h.len]
set_option maxHeartbeats 1000000 in
theorem xjMark_yes {N : Nat} (h : Xdk w p O D) (on : On D N) (x : Int) (hx : 0 ≤ x ∧ x < N) (n : Nat) (hn : n < 18446744073709551616) (h0 : n ≠ 0) (hu : (D.uns x).length ≤ 4398046511104) :
  Calls Tryz.prog 67 #[.pointer (some ⟨p, 0, none⟩), .int .i64 x, .int .u64 (n : Int)] w fun e w' => e = .returned (.int .i64 0) ∧ AftX w p O (mkE D x n).2 w' := by
 have cm := xrcMark_any w n hn
 unfold MarkC at cm
 rw [if_neg h0, if_neg h0, show (n != 0) = true from by simpa using h0, show errG true 1 = 0 from rfl] at cm
 have hml : (markB n).length = 512 := markB_len n
 obtain ⟨hE1, hE2⟩ := on.write hx.1 hx.2 hml
 have hF := (on.wr x (markB n)).flush
 have HM := Lib.hid (show (mkE D x n).2 = (D.wr x (markB n)).flush from by
  rw [mkE, if_neg h0]
  show (if D.writeE x (markB n).length = 0 then runS (D.write x (markB n)) [.fl] else _).2 = _
  rw [if_pos hE1, hE2]
  show (if (D.wr x (markB n)).flushE = 0 then _ else _ : Int × DkM).2 = _
  rw [if_pos hF.1]; rfl)
 obtain ⟨b, hb⟩ : ∃ b, markB n = b := ⟨_, rfl⟩
 rw [hb] at cm hml hE1 hE2 hF HM
 rw [hml] at hE1
 have HE := Lib.hid (And.intro hE1 (And.intro hE2 hF))
 have HH := Lib.hid (And.intro h hu)
 clear hE1 hE2 hF hb h
 go_enter Tryz.func67, Tryz.ntmps67
 go_wp2_with fail
 refine cm.mono ?_
 rintro e w1 ⟨v, rfl, r, f⟩
 obtain ⟨A, c, rfl, -, -, -, -, -⟩ := r.shape
 have cw := xdWrite_any (HH.out.1.keep_nil f) x A 512 c b hml r.rdD.1 r.rdD.2.2 HH.out.2
 rw [HE.out.1, HE.out.2.1] at cw
 have HF := Lib.hid f
 clear r cm f
 go_wp2_with fail
 refine cw.mono ?_
 rintro e w2 ⟨rfl, O', hd, ho, f2⟩
 have cf := xdFlush_any hd
 rw [HE.out.2.2.1] at cf
 have H2 := Lib.hid (And.intro ho f2)
 clear cw hd ho f2
 go_wp2_with fail
 refine cf.mono ?_
 rintro e w3 ⟨rfl, ha⟩
 have H3 := Lib.hid ha
 clear ha cf
 go_wp2_with fail
 go_ret
 rw [HM.out]
 exact ⟨rfl, ((AftX.trans H2.out.2 H2.out.1 H3.out).pre HF.out)⟩
set_option maxHeartbeats 1000000 in
theorem xjInit_yes {N : Nat} (h : Xdk w p O D) (on : On D N) (x y : Int) (hr : jRight D x y = true) (hu : (D.uns x).length ≤ 4398046511104) :
  Calls Tryz.prog 32 #[.pointer (some ⟨p, 0, none⟩), .int .i64 x, .int .i64 y] w fun e w' => e = .returned (.int .i64 0) ∧ AftX w p O (mkE D x 1).2 w' := by
 have cr := xjRight_yes h x y hr
 have hb2 := hr
 rw [jRight_on on] at hb2
 simp only [Bool.and_eq_true, decide_eq_true_eq] at hb2
 have cm := xjMark_yes h on x (by omega) 1 (by omega) (by omega) hu
 clear h hr hb2 hu
 go_enter Tryz.func32, Tryz.ntmps32
 go_wp2_with (go_at_call 66; refine cr.mono ?_; rintro e w' ⟨rfl, rfl⟩)
 refine cm.mono ?_
 rintro e w1 ⟨rfl, ha⟩
 have HA := Lib.hid ha
 clear ha cm
 go_wp2_with fail
 go_ret
 exact ⟨rfl, HA.out⟩
end
end
end Go.Proofs.YtbanogfljpkbkaaGreatDoor
