/-
  Texts of this claim, one behind the other: XdD.
-/
import Derived.Test.YtbanogfljpkbkaaGreatDoorF42
import Derived.Test.YtbanogfljpkbkaaGreatDoorF4
import Derived.StillTailTactics
set_option linter.unusedSimpArgs false
set_option linter.unusedVariables false
set_option linter.unnecessarySimpa false
namespace Go.Proofs.YtbanogfljpkbkaaGreatDoor
section
open Go.RowKit
set_option maxRecDepth 100000
section
variable {w w' : World} {p : Nat} {O : List Nat} {D D' : DkM} {X : XdX}
set_option maxHeartbeats 2000000 in
theorem xdWrite_any (h : Xdk w p O D) (x : Int) (A : Option Addr) (n c : Nat) (b : List UInt8) (hb : b.length = n) (rd : Rd w A (bvs b)) (hA : A = none → n = 0) (hl : (D.uns x).length ≤ 4398046511104) :
  Calls Tryz.prog 114 #[.pointer (some ⟨p, 0, none⟩), .int .i64 x, .slice A n c] w fun e w' => e = .returned (.int .i64 (D.writeE x n)) ∧ AftX w p O (D.write x b) w' := by
 have hm := xdMay_any h x A n c
 have ho := xdOff_any h
 by_cases hmE : D.mayE x n = 0
 ·cases hf : D.off
  ·obtain ⟨hx, rfl⟩ := DkM.may0 hmE
   rw [hmE] at hm
   rw [hf] at ho
   have HE := Lib.hid (show D.writeE x 512 = 0 by rw [DkM.writeE, if_neg (by simpa using hmE), hf]; rfl)
   have HW := Lib.hid (show D.write x b = (D.wr x b).dec by rw [DkM.write, hb, if_neg (by simpa using hmE), hf]; rfl)
   have HOF := Lib.hid hf
   obtain ⟨h1, h2⟩ := DkM.is_iff.1 hx
   obtain ⟨i, rfl⟩ : ∃ i : Nat, x = i := ⟨x.toNat, by omega⟩
   have hi : i < D.sure.length := by omega
   obtain ⟨X, h⟩ := h
   have c0 := h.c0
   obtain ⟨v, q0, q1, r, hXv⟩ := h.cp hi
   have hn := h.n1.2
   have HH := Lib.hid h
   have HI := Lib.hid (And.intro hi hXv)
   clear h hf hmE hx h1 h2 hXv q0
   obtain ⟨NB, hNB⟩ : ∃ NB, D.sure.length = NB := ⟨_, rfl⟩
   rw [hNB] at hi hn c0
   have di : (i : Int) < NB := by omega
   obtain ⟨L, hL⟩ : ∃ L, D.uns i = L := ⟨_, rfl⟩
   rw [hL] at r hl
   obtain ⟨N, hN⟩ : ∃ N, L.length = N := ⟨_, rfl⟩
   rw [hN] at r hl
   obtain ⟨Av, cv, rfl, -, -, -, -, -⟩ := r.shape
   obtain ⟨S, hS⟩ : ∃ S : ByteArray, (⟨b.toArray⟩ : ByteArray) = S := ⟨_, rfl⟩
   have HS := Lib.hid (show strV b = .string S from congrArg Value.string hS)
   have HL := Lib.hid (And.intro hL (And.intro hN (And.intro hb hNB)))
   clear hL hN hS hb hNB
   go_enter Tryz.func114, Tryz.ntmps114
   go_wp2_with fail
   refine hm.mono ?_
   rintro e w1 ⟨rfl, rfl⟩
   go_wp2_with fail
   refine ho.mono ?_
   rintro e w1 ⟨rfl, rfl⟩
   go_upto_region 6 with fail
   refine wp_region_T 21 (S := fun w' => w'.cell? ⟨p, 0, none⟩ = some (.slice (some ⟨X.g, 0, none⟩) NB X.c) ∧ w'.cell? ⟨X.g, i * 2 + 1, none⟩ = some (.slice Av N cv) ∧ (convert 27 9 (.slice A 512 c)).run Tryz.prog w' = .ok (.string S) w') (by kernel_rfl) ?_
   obtain ⟨wD, hwD⟩ : ∃ wD, w.drew = wD := ⟨_, rfl⟩
   have fD : Fr [] w wD := by rw [← hwD]; exact (Fr.refl [] w).drew
   have mkS : ∀ w' : World, Fr [] wD w' → (w'.cell? ⟨p, 0, none⟩ = some (.slice (some ⟨X.g, 0, none⟩) NB X.c) ∧ w'.cell? ⟨X.g, i * 2 + 1, none⟩ = some (.slice Av N cv) ∧ (convert 27 9 (.slice A 512 c)).run Tryz.prog w' = .ok (.string S) w') := fun w' f =>
    ⟨f.cell (by simp) (fD.cell (by simp) c0), f.cell (by simp) (fD.cell (by simp) q1), by rw [← HS.out]; exact conv_str Tryz.underlying27 Tryz.underlying5 Tryz.underlying9 w' A b 512 c HL.out.2.2.1 ((rd.keep_nil fD).keep_nil f) hA⟩
   rw [hwD]
   have hHeld := mkS _ (Fr.refl [] wD)
   have MK := Lib.hid mkS
   have FC : Fr [] wD wD := Fr.refl _ _
   have FD := Lib.hid fD
   have RL := r.keep_nil fD
   obtain ⟨B, hB⟩ : ∃ B, wD.heap.size = B := ⟨_, rfl⟩
   have HB := Lib.hid hB
   clear hwD fD mkS c0 q1 hm ho r rd hB
   refine takeT_w 0 (some 17) (v := ?_) rfl rfl (by kernel_rfl) (by kernel_rfl) (by kernel_rfl) (by kernel_rfl) (fun _ _ _ h => h) (by rfl) ?_ hHeld ?_
   rotate_left
   ·(intro w hSw; (try dsimp only at hSw); go_simp; try with_reducible rfl)
   simp only [Act.put, p1, p2, p3]
   refine takeT_w 1 (some 18) (v := ?_) rfl rfl (by kernel_rfl) (by kernel_rfl) (by kernel_rfl) (by kernel_rfl) (fun _ _ _ h => h) (by rfl) ?_ hHeld ?_
   rotate_left
   ·(intro w hSw; (try dsimp only at hSw); go_simp; try with_reducible rfl)
   simp only [Act.put, p1, p2, p3]
   refine takeT_w 2 (some 19) (v := ?_) rfl rfl (by kernel_rfl) (by kernel_rfl) (by kernel_rfl) (by kernel_rfl) (fun _ _ _ h => h) (by rfl) ?_ hHeld ?_
   rotate_left
   ·(intro w hSw; (try dsimp only at hSw); go_simp; try with_reducible rfl)
   simp only [Act.put, p1, p2, p3]
   refine takeT_w 3 (some 20) (v := ?_) rfl rfl (by kernel_rfl) (by kernel_rfl) (by kernel_rfl) (by kernel_rfl) (fun _ _ _ h => h) (by rfl) ?_ hHeld ?_
   rotate_left
   ·(intro w hSw; (try dsimp only at hSw); go_simp; try with_reducible rfl)
   simp only [Act.put, p1, p2, p3]
   refine takeT_w 4 (some 21) (v := ?_) rfl rfl (by kernel_rfl) (by kernel_rfl) (by kernel_rfl) (by kernel_rfl) (fun _ _ _ h => h) (by rfl) ?_ hHeld ?_
   rotate_left
   ·(intro w hSw; (try dsimp only at hSw); go_simp; try with_reducible rfl)
   simp only [Act.put, p1, p2, p3]
   refine takeT_w 6 (some 23) (v := ?_) rfl rfl (by kernel_rfl) (by kernel_rfl) (by kernel_rfl) (by kernel_rfl) (fun _ _ _ h => h) (by rfl) ?_ hHeld ?_
   rotate_left
   ·(intro w hSw; (try dsimp only at hSw); go_simp; try with_reducible rfl)
   simp only [Act.put, p1, p2, p3]
   refine takeT_w 7 (some 24) (v := ?_) rfl rfl (by kernel_rfl) (by kernel_rfl) (by kernel_rfl) (by kernel_rfl) (fun _ _ _ h => h) (by rfl) ?_ hHeld ?_
   rotate_left
   ·(intro w hSw; (try dsimp only at hSw); go_simp; try with_reducible rfl)
   simp only [Act.put, p1, p2, p3]
   refine takeT_w 8 (some 25) (v := ?_) rfl rfl (by kernel_rfl) (by kernel_rfl) (by kernel_rfl) (by kernel_rfl) (fun _ _ _ h => h) (by rfl) ?_ hHeld ?_
   rotate_left
   ·(intro w hSw; (try dsimp only at hSw); go_simp; try with_reducible rfl)
   simp only [Act.put, p1, p2, p3]
   refine takeT_w 9 (some 26) (v := ?_) rfl rfl (by kernel_rfl) (by kernel_rfl) (by kernel_rfl) (by kernel_rfl) (fun _ _ _ h => h) (by rfl) ?_ hHeld ?_
   rotate_left
   ·(intro w hSw; (try dsimp only at hSw); go_simp; try with_reducible rfl)
   simp only [Act.put, p1, p2, p3]
   refine takeT_w 10 (some 27) (v := ?_) rfl rfl (by kernel_rfl) (by kernel_rfl) (by kernel_rfl) (by kernel_rfl) (fun _ _ _ h => h) (by rfl) ?_ hHeld ?_
   rotate_left
   ·(intro w hSw; (try dsimp only at hSw); go_simp; try with_reducible rfl)
   simp only [Act.put, p1, p2, p3]
   refine takeT_w 11 (some 28) (v := ?_) rfl rfl (by kernel_rfl) (by kernel_rfl) (by kernel_rfl) (by kernel_rfl) (fun _ _ _ h => h) (by rfl) ?_ hHeld ?_
   rotate_left
   ·(intro w hSw; (try dsimp only at hSw); go_simp; try with_reducible rfl)
   simp only [Act.put, p1, p2, p3]
   refine takeT_w 12 (some 29) (v := ?_) rfl rfl (by kernel_rfl) (by kernel_rfl) (by kernel_rfl) (by kernel_rfl) (fun _ _ _ h => h) (by rfl) ?_ hHeld ?_
   rotate_left
   ·(intro w hSw; (try dsimp only at hSw); go_simp; try with_reducible rfl)
   simp only [Act.put, p1, p2, p3]
   refine takeT_w 13 (some 30) (v := ?_) rfl rfl (by kernel_rfl) (by kernel_rfl) (by kernel_rfl) (by kernel_rfl) (fun _ _ _ h => h) (by rfl) ?_ hHeld ?_
   rotate_left
   ·(intro w hSw; (try dsimp only at hSw); go_simp; try with_reducible rfl)
   simp only [Act.put, p1, p2, p3]
   refine takeT_w 15 (some 32) (v := ?_) rfl rfl (by kernel_rfl) (by kernel_rfl) (by kernel_rfl) (by kernel_rfl) (fun _ _ _ h => h) (by rfl) ?_ hHeld ?_
   rotate_left
   ·(intro w hSw; (try dsimp only at hSw); go_simp; try with_reducible rfl)
   simp only [Act.put, p1, p2, p3]
   refine takeT_w 16 (some 33) (v := ?_) rfl rfl (by kernel_rfl) (by kernel_rfl) (by kernel_rfl) (by kernel_rfl) (fun _ _ _ h => h) (by rfl) ?_ hHeld ?_
   rotate_left
   ·(intro w hSw; (try dsimp only at hSw); go_simp; try with_reducible rfl)
   simp only [Act.put, p1, p2, p3]
   refine takeT_2 5 17 rfl rfl (by kernel_rfl) (by rfl) (by rfl) (fun K hK => ?_) (fun K hK => ?_)
   ·
    go_simp
    have fN : Fr [] wD (wD.alloc (.cells #[] 9)) := (Fr.refl [] wD).alloc _
    have R0 : Row (wD.alloc (.cells #[] 9)) B 9 1 (.slice (some ⟨wD.heap.size, 0, none⟩) 0 0) 0 [] := Row.new wD #[] 9 1 0 (0, 0) (free_zero _) (by unfold maxLen; omega) rfl (by have := FC.size; have := HB.out; omega)
    (try (have hne0 := (R17.lt _ rfl).2; dsimp only at hne0; have hne := Ne.symm (Nat.ne_of_lt hne0); clear hne0))
    (try replace R17 := R17.keep_nil fN)
    refine hK.out _ _ (fun _ => MK.out _ (FC.trans_nil fN)) (fun hHx => ?_)
    replace FC := FC.trans_nil fN
    clear hK hHeld
    have hHeld := hHx (by decide)
    clear hHx
    try simp only [Act.put, p1, p2, p3]
    clear fN
    generalize wD.alloc (.cells #[] 9) = w5 at *
    refine takeT_2 14 17 rfl rfl (by kernel_rfl) (by rfl) (by rfl) (fun K hK => ?_) (fun K hK => ?_)
    ·
     refine wp_app rfl slStrX B _ 0 [] rfl R0 Av N cv (L.map strV) rfl (by rw [RL.len]) (RL.keep_nil FC).rdD.1 (by intro u hu; obtain ⟨y, -, rfl⟩ := List.mem_map.1 hu; rfl) RL.rdD.2.2 (by omega) (by have := FC.size; have := HB.out; omega) (fun v14 w14 p1 p2 p3 p4 => ?_)
     have R14 : Row w14 B 9 1 v14 N (L.map strV) := by simpa using p1
     obtain ⟨A14, c14, rfl, -, -, -, -, -⟩ := R14.shape
     refine hK.out _ _ (fun _ => MK.out _ (FC.trans p2 (fun i hi => .inr (by have := (R0.lt i (mem_own.1 hi)).1; have := HB.out; omega)))) (fun hHx => ?_)
     replace FC := FC.trans p2 (fun i hi => .inr (by have := (R0.lt i (mem_own.1 hi)).1; have := HB.out; omega))
     clear hK hHeld
     have hHeld := hHx (by decide)
     clear hHx
     try simp only [Act.put, p1, p2, p3]
     clear p1 p2 p3 p4 R0
     (try clear hne)
     refine takeT_c 17 rfl (by kernel_rfl) (by rfl) (fun K hK => ?_)
     go_simp
     have fN : Fr [] w14 (w14.alloc (.cells #[.string S] 9)) := (Fr.refl [] w14).alloc _
     have R17 := row_strX w14 b (B := B) (by have := FC.size; have := HB.out; omega)
     rw [HS.out] at R17
     (try (have hne0 := (R0.lt _ rfl).2; dsimp only at hne0; have hne := Nat.ne_of_lt hne0; clear hne0))
     (try replace R0 := R0.keep_nil fN)
     (try replace R14 := R14.keep_nil fN)
     refine hK.out _ _ (fun _ => MK.out _ (FC.trans_nil fN)) (fun hHx => ?_)
     replace FC := FC.trans_nil fN
     clear hK hHeld
     have hHeld := hHx (by decide)
     clear hHx
     try simp only [Act.put, p1, p2, p3]
     clear fN
     generalize w14.alloc (.cells #[.string S] 9) = w17 at *
     refine takeT_c 18 rfl (by kernel_rfl) (by rfl) (fun K hK => ?_)
     refine wp_app rfl slStrX B _ N (L.map strV) rfl R14 _ 1 1 ([b].map strV) rfl rfl R17.rdD.1 (by intro u hu; obtain ⟨y, -, rfl⟩ := List.mem_map.1 hu; rfl) (fun h => by cases h) (by omega) (by have := FC.size; have := HB.out; omega) (fun v18 w18 p1 p2 p3 p4 => ?_)
     have R18 : Row w18 B 9 1 v18 (L ++ [b]).length ((L ++ [b]).map strV) := by
      rw [List.map_append, List.length_append, HL.out.2.1]; exact p1
     obtain ⟨A18, c18, rfl, -, -, -, -, -⟩ := p1.shape
     refine hK.out _ _ (fun _ => MK.out _ (FC.trans p2 (fun i hi => .inr (by have := (R14.lt i (mem_own.1 hi)).1; have := HB.out; omega)))) (fun hHx => ?_)
     replace FC := FC.trans p2 (fun i hi => .inr (by have := (R14.lt i (mem_own.1 hi)).1; have := HB.out; omega))
     clear hK hHeld
     have hHeld := hHx (by decide)
     clear hHx
     try simp only [Act.put, p1, p2, p3]
     clear p1 p2 p3 p4 R14 R17
     refine takeT_c 19 rfl (by kernel_rfl) (by rfl) (fun K hK => ?_)
     go_simp
     refine hK.out _ _ (fun _ => hHeld) (fun hHx => ?_)
     clear hHx hK
     try simp only [Act.put, p1, p2, p3]
     refine takeT_c 20 rfl (by kernel_rfl) (by rfl) (fun K hK => ?_)
     go_simp
     refine hK.out _ _ (fun _ => hHeld) (fun hHx => ?_)
     clear hHx hK
     try simp only [Act.put, p1, p2, p3]
     have fW : Fr [] w w18 := FD.out.trans_nil FC
     have hW := HH.out.keep_nil fW
     obtain ⟨P2, P3, rowS⟩ := hW.row.setE (i * 2 + 1) (by have := HI.out.1; omega) (.slice A18 (N + 1) c18)
     have hps : (pcells X.ps).set (i * 2 + 1) (.slice A18 (N + 1) c18) = pcells (X.ps.set i (D.sureR i, .slice A18 (N + 1) c18)) := by
      rw [pcells_set1 X.ps i (by rw [HH.out.len]; exact HI.out.1), (HH.out.at_ i (by rw [HH.out.len]; exact HI.out.1)).1]
     rw [hps] at rowS
     obtain ⟨old, hold⟩ : ∃ old, w18.cell? ⟨X.g, i * 2 + 1, none⟩ = some old := ⟨_, P2.trans (List.getElem?_eq_getElem (by rw [pcells_len, HH.out.len]; have := HI.out.1; omega))⟩
     have fS : Fr [X.g] w18 (w18.setCell ⟨X.g, i * 2 + 1, none⟩ (.slice A18 (N + 1) c18)) := (Fr.refl [X.g] w18).setCell (.inl (by simp)) _
     have hgne : ∀ g, (Value.slice A18 (N + 1) c18).ownBlock = some g → g ∉ [X.g] := fun g hg hm => by
      rw [List.mem_singleton.1 hm] at hg
      have h1 := (R18.lt _ hg).1
      have h2 := HH.out.lt _ HH.out.gO
      have := HB.out
      have := FD.out.size
      omega
     have hP := hW.put (i := i) (D' := D.wr i b) HI.out.1 rfl (fun j hj => by split <;> first | rfl | (rename_i e; subst e; rfl)) (fun y => by rw [DkM.wr, DkM.wrL]) ⟨HH.out.ss i HI.out.1, fun y hy => by
      rcases List.mem_append.1 hy with hy | hy
      ·exact HH.out.su _ y hy
      ·rw [List.mem_singleton.1 hy]; exact HL.out.2.2.1⟩ rfl fS rowS (by rw [HL.out.1]; exact (R18.mono (Nat.zero_le _)).keep fS hgne)
     refine takeT_c 21 rfl (by kernel_rfl) (by rfl) (fun K hK => ?_)
     refine wp_st1 rfl (by kernel_rfl) X.g (i * 2 + 1) rfl (.slice A18 (N + 1) c18) rfl rfl rfl hold P3 ?_
     refine hK.out _ _ (fun h => absurd rfl h) (fun hHx => ?_)
     clear hHx hK hHeld P2 P3 hold rowS hps
     refine wpAnyT_done (by kernel_rfl) ?_ _
     have cd := xdDid_any ⟨_, hP⟩ (show (D.wr i b).off = false from HOF.out)
     have HA := Lib.hid (show Fr O w (w18.setCell ⟨X.g, i * 2 + 1, none⟩ (.slice A18 (N + 1) c18)) from (fW.mono (by simp)).trans fS (fun k hk => .inl (by rw [List.mem_singleton.1 hk]; exact HH.out.gO)))
     have HB2 := Lib.hid (show ∀ k ∈ (Value.slice A18 (N + 1) c18).ownBlock.toList ++ O, k ∈ O ∨ w.heap.size ≤ k from fun k hk => by
      rcases List.mem_append.1 hk with hk | hk
      ·have h1 := (R18.lt _ (mem_own.1 hk)).1
       have := HB.out
       have := FD.out.size
       exact .inr (by omega)
      ·exact .inl hk)
     clear hP fS fW hW hgne R18 FC RL
     generalize w18.setCell ⟨X.g, i * 2 + 1, none⟩ (.slice A18 (N + 1) c18) = w19 at *
     go_wp2_with fail
     refine cd.mono ?_
     rintro e w20 ⟨rfl, ha⟩
     clear cd
     go_wp2_with fail
     go_ret
     exact ⟨by rw [HE.out]; rfl, by rw [HW.out]; exact ha.trans HA.out HB2.out⟩
    ·
     go_simp
     have fN : Fr [] w5 (w5.alloc (.cells #[.string S] 9)) := (Fr.refl [] w5).alloc _
     have R17 := row_strX w5 b (B := B) (by have := FC.size; have := HB.out; omega)
     rw [HS.out] at R17
     (try (have hne0 := (R0.lt _ rfl).2; dsimp only at hne0; have hne := Nat.ne_of_lt hne0; clear hne0))
     (try replace R0 := R0.keep_nil fN)
     (try replace R14 := R14.keep_nil fN)
     refine hK.out _ _ (fun _ => MK.out _ (FC.trans_nil fN)) (fun hHx => ?_)
     replace FC := FC.trans_nil fN
     clear hK hHeld
     have hHeld := hHx (by decide)
     clear hHx
     try simp only [Act.put, p1, p2, p3]
     clear fN
     generalize w5.alloc (.cells #[.string S] 9) = w17 at *
     refine takeT_c 14 rfl (by kernel_rfl) (by rfl) (fun K hK => ?_)
     refine wp_app rfl slStrX B _ 0 [] rfl R0 Av N cv (L.map strV) rfl (by rw [RL.len]) (RL.keep_nil FC).rdD.1 (by intro u hu; obtain ⟨y, -, rfl⟩ := List.mem_map.1 hu; rfl) RL.rdD.2.2 (by omega) (by have := FC.size; have := HB.out; omega) (fun v14 w14 p1 p2 p3 p4 => ?_)
     replace R17 := R17.keep p2 (fun g hg hm => hne (by have h1 := own_mem.1 hm; have h2 := own_mem.1 (mem_own.2 hg); omega))
     have R14 : Row w14 B 9 1 v14 N (L.map strV) := by simpa using p1
     obtain ⟨A14, c14, rfl, -, -, -, -, -⟩ := R14.shape
     refine hK.out _ _ (fun _ => MK.out _ (FC.trans p2 (fun i hi => .inr (by have := (R0.lt i (mem_own.1 hi)).1; have := HB.out; omega)))) (fun hHx => ?_)
     replace FC := FC.trans p2 (fun i hi => .inr (by have := (R0.lt i (mem_own.1 hi)).1; have := HB.out; omega))
     clear hK hHeld
     have hHeld := hHx (by decide)
     clear hHx
     try simp only [Act.put, p1, p2, p3]
     clear p1 p2 p3 p4 R0
     (try clear hne)
     refine takeT_c 18 rfl (by kernel_rfl) (by rfl) (fun K hK => ?_)
     refine wp_app rfl slStrX B _ N (L.map strV) rfl R14 _ 1 1 ([b].map strV) rfl rfl R17.rdD.1 (by intro u hu; obtain ⟨y, -, rfl⟩ := List.mem_map.1 hu; rfl) (fun h => by cases h) (by omega) (by have := FC.size; have := HB.out; omega) (fun v18 w18 p1 p2 p3 p4 => ?_)
     have R18 : Row w18 B 9 1 v18 (L ++ [b]).length ((L ++ [b]).map strV) := by
      rw [List.map_append, List.length_append, HL.out.2.1]; exact p1
     obtain ⟨A18, c18, rfl, -, -, -, -, -⟩ := p1.shape
     refine hK.out _ _ (fun _ => MK.out _ (FC.trans p2 (fun i hi => .inr (by have := (R14.lt i (mem_own.1 hi)).1; have := HB.out; omega)))) (fun hHx => ?_)
     replace FC := FC.trans p2 (fun i hi => .inr (by have := (R14.lt i (mem_own.1 hi)).1; have := HB.out; omega))
     clear hK hHeld
     have hHeld := hHx (by decide)
     clear hHx
     try simp only [Act.put, p1, p2, p3]
     clear p1 p2 p3 p4 R14 R17
     refine takeT_c 19 rfl (by kernel_rfl) (by rfl) (fun K hK => ?_)
     go_simp
     refine hK.out _ _ (fun _ => hHeld) (fun hHx => ?_)
     clear hHx hK
     try simp only [Act.put, p1, p2, p3]
     refine takeT_c 20 rfl (by kernel_rfl) (by rfl) (fun K hK => ?_)
     go_simp
     refine hK.out _ _ (fun _ => hHeld) (fun hHx => ?_)
     clear hHx hK
     try simp only [Act.put, p1, p2, p3]
     have fW : Fr [] w w18 := FD.out.trans_nil FC
     have hW := HH.out.keep_nil fW
     obtain ⟨P2, P3, rowS⟩ := hW.row.setE (i * 2 + 1) (by have := HI.out.1; omega) (.slice A18 (N + 1) c18)
     have hps : (pcells X.ps).set (i * 2 + 1) (.slice A18 (N + 1) c18) = pcells (X.ps.set i (D.sureR i, .slice A18 (N + 1) c18)) := by
      rw [pcells_set1 X.ps i (by rw [HH.out.len]; exact HI.out.1), (HH.out.at_ i (by rw [HH.out.len]; exact HI.out.1)).1]
     rw [hps] at rowS
     obtain ⟨old, hold⟩ : ∃ old, w18.cell? ⟨X.g, i * 2 + 1, none⟩ = some old := ⟨_, P2.trans (List.getElem?_eq_getElem (by rw [pcells_len, HH.out.len]; have := HI.out.1; omega))⟩
     have fS : Fr [X.g] w18 (w18.setCell ⟨X.g, i * 2 + 1, none⟩ (.slice A18 (N + 1) c18)) := (Fr.refl [X.g] w18).setCell (.inl (by simp)) _
     have hgne : ∀ g, (Value.slice A18 (N + 1) c18).ownBlock = some g → g ∉ [X.g] := fun g hg hm => by
      rw [List.mem_singleton.1 hm] at hg
      have h1 := (R18.lt _ hg).1
      have h2 := HH.out.lt _ HH.out.gO
      have := HB.out
      have := FD.out.size
      omega
     have hP := hW.put (i := i) (D' := D.wr i b) HI.out.1 rfl (fun j hj => by split <;> first | rfl | (rename_i e; subst e; rfl)) (fun y => by rw [DkM.wr, DkM.wrL]) ⟨HH.out.ss i HI.out.1, fun y hy => by
      rcases List.mem_append.1 hy with hy | hy
      ·exact HH.out.su _ y hy
      ·rw [List.mem_singleton.1 hy]; exact HL.out.2.2.1⟩ rfl fS rowS (by rw [HL.out.1]; exact (R18.mono (Nat.zero_le _)).keep fS hgne)
     refine takeT_c 21 rfl (by kernel_rfl) (by rfl) (fun K hK => ?_)
     refine wp_st1 rfl (by kernel_rfl) X.g (i * 2 + 1) rfl (.slice A18 (N + 1) c18) rfl rfl rfl hold P3 ?_
     refine hK.out _ _ (fun h => absurd rfl h) (fun hHx => ?_)
     clear hHx hK hHeld P2 P3 hold rowS hps
     refine wpAnyT_done (by kernel_rfl) ?_ _
     have cd := xdDid_any ⟨_, hP⟩ (show (D.wr i b).off = false from HOF.out)
     have HA := Lib.hid (show Fr O w (w18.setCell ⟨X.g, i * 2 + 1, none⟩ (.slice A18 (N + 1) c18)) from (fW.mono (by simp)).trans fS (fun k hk => .inl (by rw [List.mem_singleton.1 hk]; exact HH.out.gO)))
     have HB2 := Lib.hid (show ∀ k ∈ (Value.slice A18 (N + 1) c18).ownBlock.toList ++ O, k ∈ O ∨ w.heap.size ≤ k from fun k hk => by
      rcases List.mem_append.1 hk with hk | hk
      ·have h1 := (R18.lt _ (mem_own.1 hk)).1
       have := HB.out
       have := FD.out.size
       exact .inr (by omega)
      ·exact .inl hk)
     clear hP fS fW hW hgne R18 FC RL
     generalize w18.setCell ⟨X.g, i * 2 + 1, none⟩ (.slice A18 (N + 1) c18) = w19 at *
     go_wp2_with fail
     refine cd.mono ?_
     rintro e w20 ⟨rfl, ha⟩
     clear cd
     go_wp2_with fail
     go_ret
     exact ⟨by rw [HE.out]; rfl, by rw [HW.out]; exact ha.trans HA.out HB2.out⟩
   ·
    go_simp
    have fN : Fr [] wD (wD.alloc (.cells #[.string S] 9)) := (Fr.refl [] wD).alloc _
    have R17 := row_strX wD b (B := B) (by have := FC.size; have := HB.out; omega)
    rw [HS.out] at R17
    (try (have hne0 := (R0.lt _ rfl).2; dsimp only at hne0; have hne := Nat.ne_of_lt hne0; clear hne0))
    (try replace R0 := R0.keep_nil fN)
    (try replace R14 := R14.keep_nil fN)
    refine hK.out _ _ (fun _ => MK.out _ (FC.trans_nil fN)) (fun hHx => ?_)
    replace FC := FC.trans_nil fN
    clear hK hHeld
    have hHeld := hHx (by decide)
    clear hHx
    try simp only [Act.put, p1, p2, p3]
    clear fN
    generalize wD.alloc (.cells #[.string S] 9) = w17 at *
    refine takeT_c 5 rfl (by kernel_rfl) (by rfl) (fun K hK => ?_)
    go_simp
    have fN : Fr [] w17 (w17.alloc (.cells #[] 9)) := (Fr.refl [] w17).alloc _
    have R0 : Row (w17.alloc (.cells #[] 9)) B 9 1 (.slice (some ⟨w17.heap.size, 0, none⟩) 0 0) 0 [] := Row.new w17 #[] 9 1 0 (0, 0) (free_zero _) (by unfold maxLen; omega) rfl (by have := FC.size; have := HB.out; omega)
    (try (have hne0 := (R17.lt _ rfl).2; dsimp only at hne0; have hne := Ne.symm (Nat.ne_of_lt hne0); clear hne0))
    (try replace R17 := R17.keep_nil fN)
    refine hK.out _ _ (fun _ => MK.out _ (FC.trans_nil fN)) (fun hHx => ?_)
    replace FC := FC.trans_nil fN
    clear hK hHeld
    have hHeld := hHx (by decide)
    clear hHx
    try simp only [Act.put, p1, p2, p3]
    clear fN
    generalize w17.alloc (.cells #[] 9) = w5 at *
    refine takeT_c 14 rfl (by kernel_rfl) (by rfl) (fun K hK => ?_)
    refine wp_app rfl slStrX B _ 0 [] rfl R0 Av N cv (L.map strV) rfl (by rw [RL.len]) (RL.keep_nil FC).rdD.1 (by intro u hu; obtain ⟨y, -, rfl⟩ := List.mem_map.1 hu; rfl) RL.rdD.2.2 (by omega) (by have := FC.size; have := HB.out; omega) (fun v14 w14 p1 p2 p3 p4 => ?_)
    replace R17 := R17.keep p2 (fun g hg hm => hne (by have h1 := own_mem.1 hm; have h2 := own_mem.1 (mem_own.2 hg); omega))
    have R14 : Row w14 B 9 1 v14 N (L.map strV) := by simpa using p1
    obtain ⟨A14, c14, rfl, -, -, -, -, -⟩ := R14.shape
    refine hK.out _ _ (fun _ => MK.out _ (FC.trans p2 (fun i hi => .inr (by have := (R0.lt i (mem_own.1 hi)).1; have := HB.out; omega)))) (fun hHx => ?_)
    replace FC := FC.trans p2 (fun i hi => .inr (by have := (R0.lt i (mem_own.1 hi)).1; have := HB.out; omega))
    clear hK hHeld
    have hHeld := hHx (by decide)
    clear hHx
    try simp only [Act.put, p1, p2, p3]
    clear p1 p2 p3 p4 R0
    (try clear hne)
    refine takeT_c 18 rfl (by kernel_rfl) (by rfl) (fun K hK => ?_)
    refine wp_app rfl slStrX B _ N (L.map strV) rfl R14 _ 1 1 ([b].map strV) rfl rfl R17.rdD.1 (by intro u hu; obtain ⟨y, -, rfl⟩ := List.mem_map.1 hu; rfl) (fun h => by cases h) (by omega) (by have := FC.size; have := HB.out; omega) (fun v18 w18 p1 p2 p3 p4 => ?_)
    have R18 : Row w18 B 9 1 v18 (L ++ [b]).length ((L ++ [b]).map strV) := by
     rw [List.map_append, List.length_append, HL.out.2.1]; exact p1
    obtain ⟨A18, c18, rfl, -, -, -, -, -⟩ := p1.shape
    refine hK.out _ _ (fun _ => MK.out _ (FC.trans p2 (fun i hi => .inr (by have := (R14.lt i (mem_own.1 hi)).1; have := HB.out; omega)))) (fun hHx => ?_)
    replace FC := FC.trans p2 (fun i hi => .inr (by have := (R14.lt i (mem_own.1 hi)).1; have := HB.out; omega))
    clear hK hHeld
    have hHeld := hHx (by decide)
    clear hHx
    try simp only [Act.put, p1, p2, p3]
    clear p1 p2 p3 p4 R14 R17
    refine takeT_c 19 rfl (by kernel_rfl) (by rfl) (fun K hK => ?_)
    go_simp
    refine hK.out _ _ (fun _ => hHeld) (fun hHx => ?_)
    clear hHx hK
    try simp only [Act.put, p1, p2, p3]
    refine takeT_c 20 rfl (by kernel_rfl) (by rfl) (fun K hK => ?_)
    go_simp
    refine hK.out _ _ (fun _ => hHeld) (fun hHx => ?_)
    clear hHx hK
    try simp only [Act.put, p1, p2, p3]
    have fW : Fr [] w w18 := FD.out.trans_nil FC
    have hW := HH.out.keep_nil fW
    obtain ⟨P2, P3, rowS⟩ := hW.row.setE (i * 2 + 1) (by have := HI.out.1; omega) (.slice A18 (N + 1) c18)
    have hps : (pcells X.ps).set (i * 2 + 1) (.slice A18 (N + 1) c18) = pcells (X.ps.set i (D.sureR i, .slice A18 (N + 1) c18)) := by
     rw [pcells_set1 X.ps i (by rw [HH.out.len]; exact HI.out.1), (HH.out.at_ i (by rw [HH.out.len]; exact HI.out.1)).1]
    rw [hps] at rowS
    obtain ⟨old, hold⟩ : ∃ old, w18.cell? ⟨X.g, i * 2 + 1, none⟩ = some old := ⟨_, P2.trans (List.getElem?_eq_getElem (by rw [pcells_len, HH.out.len]; have := HI.out.1; omega))⟩
    have fS : Fr [X.g] w18 (w18.setCell ⟨X.g, i * 2 + 1, none⟩ (.slice A18 (N + 1) c18)) := (Fr.refl [X.g] w18).setCell (.inl (by simp)) _
    have hgne : ∀ g, (Value.slice A18 (N + 1) c18).ownBlock = some g → g ∉ [X.g] := fun g hg hm => by
     rw [List.mem_singleton.1 hm] at hg
     have h1 := (R18.lt _ hg).1
     have h2 := HH.out.lt _ HH.out.gO
     have := HB.out
     have := FD.out.size
     omega
    have hP := hW.put (i := i) (D' := D.wr i b) HI.out.1 rfl (fun j hj => by split <;> first | rfl | (rename_i e; subst e; rfl)) (fun y => by rw [DkM.wr, DkM.wrL]) ⟨HH.out.ss i HI.out.1, fun y hy => by
     rcases List.mem_append.1 hy with hy | hy
     ·exact HH.out.su _ y hy
     ·rw [List.mem_singleton.1 hy]; exact HL.out.2.2.1⟩ rfl fS rowS (by rw [HL.out.1]; exact (R18.mono (Nat.zero_le _)).keep fS hgne)
    refine takeT_c 21 rfl (by kernel_rfl) (by rfl) (fun K hK => ?_)
    refine wp_st1 rfl (by kernel_rfl) X.g (i * 2 + 1) rfl (.slice A18 (N + 1) c18) rfl rfl rfl hold P3 ?_
    refine hK.out _ _ (fun h => absurd rfl h) (fun hHx => ?_)
    clear hHx hK hHeld P2 P3 hold rowS hps
    refine wpAnyT_done (by kernel_rfl) ?_ _
    have cd := xdDid_any ⟨_, hP⟩ (show (D.wr i b).off = false from HOF.out)
    have HA := Lib.hid (show Fr O w (w18.setCell ⟨X.g, i * 2 + 1, none⟩ (.slice A18 (N + 1) c18)) from (fW.mono (by simp)).trans fS (fun k hk => .inl (by rw [List.mem_singleton.1 hk]; exact HH.out.gO)))
    have HB2 := Lib.hid (show ∀ k ∈ (Value.slice A18 (N + 1) c18).ownBlock.toList ++ O, k ∈ O ∨ w.heap.size ≤ k from fun k hk => by
     rcases List.mem_append.1 hk with hk | hk
     ·have h1 := (R18.lt _ (mem_own.1 hk)).1
      have := HB.out
      have := FD.out.size
      exact .inr (by omega)
     ·exact .inl hk)
    clear hP fS fW hW hgne R18 FC RL
    generalize w18.setCell ⟨X.g, i * 2 + 1, none⟩ (.slice A18 (N + 1) c18) = w19 at *
    go_wp2_with fail
    refine cd.mono ?_
    rintro e w20 ⟨rfl, ha⟩
    clear cd
    go_wp2_with fail
    go_ret
    exact ⟨by rw [HE.out]; rfl, by rw [HW.out]; exact ha.trans HA.out HB2.out⟩
  ·rw [hmE] at hm
   rw [hf] at ho
   have HE := Lib.hid (show D.writeE x n = 102 by rw [DkM.writeE, if_neg (by simpa using hmE), hf]; rfl)
   have HW := Lib.hid (show D.write x b = D by rw [DkM.write, hb, if_neg (by simpa using hmE), hf]; rfl)
   have HH := Lib.hid h
   clear h hmE hf hl hb rd
   go_enter Tryz.func114, Tryz.ntmps114
   go_wp2_with fail
   refine hm.mono ?_
   rintro e w1 ⟨rfl, rfl⟩
   go_wp2_with fail
   refine ho.mono ?_
   rintro e w1 ⟨rfl, rfl⟩
   go_wp2_with fail
   go_ret
   exact ⟨by rw [HE.out]; rfl, by rw [HW.out]; exact AftX.same HH.out⟩
 ·have HE := Lib.hid (show D.writeE x n = D.mayE x n by rw [DkM.writeE, if_pos (by simpa using hmE)])
  have HW := Lib.hid (show D.write x b = D by rw [DkM.write, hb, if_pos (by simpa using hmE)])
  obtain ⟨E, hE⟩ : ∃ E, D.mayE x n = E := ⟨_, rfl⟩
  rw [hE] at hm hmE
  have dE : (E != 0) = true := by simpa using hmE
  have HH := Lib.hid h
  have HEE := Lib.hid hE
  clear h hl hb rd ho hE
  go_enter Tryz.func114, Tryz.ntmps114
  go_wp2_with fail
  refine hm.mono ?_
  rintro e w1 ⟨rfl, rfl⟩
  go_wp2_with fail
  go_ret
  exact ⟨by rw [HE.out, HEE.out]; rfl, by rw [HW.out]; exact AftX.same HH.out⟩
theorem xdTamper_any (h : Xdk w p O D) (x : Int) (A : Option Addr) (n c : Nat) (b : List UInt8) (hb : b.length = n) (rd : Rd w A (bvs b)) (hA : A = none → n = 0) :
  Calls Tryz.prog 34 #[.pointer (some ⟨p, 0, none⟩), .int .i64 x, .slice A n c] w fun e w' => e = .returned (.int .i64 (D.mayE x n)) ∧ AftX w p O (D.tamper x b) w' := by
 have hm := xdMay_any h x A n c
 by_cases hmE : D.mayE x n = 0
 ·obtain ⟨hx, rfl⟩ := DkM.may0 hmE
  have HW := Lib.hid (show D.tamper x b = { D with sure := D.sure.set x.toNat (some b), uns := fun y => if y = x then [] else D.uns y } by rw [DkM.tamper, hb, if_neg (by simpa using hmE)])
  rw [hmE] at hm
  have HM := Lib.hid hmE
  obtain ⟨h1, h2⟩ := DkM.is_iff.1 hx
  obtain ⟨i, rfl⟩ : ∃ i : Nat, x = i := ⟨x.toNat, by omega⟩
  have hi : i < D.sure.length := by omega
  obtain ⟨X, h⟩ := h
  have c0 := h.c0
  obtain ⟨v, q0, q1, -, -⟩ := h.cp hi
  obtain ⟨S, hS⟩ : ∃ S : ByteArray, (⟨b.toArray⟩ : ByteArray) = S := ⟨_, rfl⟩
  have hcv : ∀ w' : World, Fr [] w w' → (convert 27 9 (.slice A 512 c)).run Tryz.prog w' = .ok (.string S) w' := fun w' f => by
   rw [show Value.string S = .string ⟨b.toArray⟩ from congrArg Value.string hS.symm]
   exact conv_str Tryz.underlying27 Tryz.underlying5 Tryz.underlying9 w' A b 512 c hb (rd.keep_nil f) hA
  have HCV := Lib.hid hcv
  clear hcv
  have hn := h.n1.2
  have fD : Fr [] w w.drew := (Fr.refl _ _).drew
  have hD := h.keep_nil fD
  obtain ⟨-, z0, r0⟩ := hD.row.setE (i * 2) (by omega) (.string S)
  obtain ⟨-, z1, r1⟩ := r0.setE (i * 2 + 1) (by omega) (.slice none 0 0)
  have z1' := (hD.row.setE (i * 2 + 1) (by omega) (.slice none 0 0)).2.1
  rw [show Value.string S = strV b from congrArg Value.string hS.symm, pcells_set0 X.ps i (by rw [h.len]; exact hi), pcells_set1 _ i (by rw [List.length_set, h.len]; exact hi), List.getElem_set_self, List.set_set, show strV b = .string S from congrArg Value.string hS] at r1
  have hP := hD.put (i := i) (s := b) (L := []) (v := .slice none 0 0) (D' := D.tamper i b) hi (by rw [HW.out]; exact List.length_set) (fun j hj => by
    rw [HW.out, DkM.sureR, DkM.is_iff.2 ⟨by omega, by simp only [List.length_set]; omega⟩, if_pos rfl, Int.toNat_natCast, Int.toNat_natCast, List.getD_eq_getElem?_getD, List.getElem?_set]
    by_cases e : i = j
    ·subst e; simp [hi]
    ·rw [if_neg e, if_neg (Ne.symm e), DkM.sureR, DkM.is_iff.2 ⟨by omega, by omega⟩, if_pos rfl, Int.toNat_natCast, List.getD_eq_getElem?_getD])
   (fun y => by rw [HW.out]) ⟨hb, fun _ h => by cases h⟩ (by rw [HW.out]) (((Fr.refl [X.g] _).setCell (.inl (by simp)) (.string S)).setCell (.inl (by simp)) (.slice none 0 0)) r1 (Row.nil _ _ _ _)
  have HP := Lib.hid hP
  have HH := Lib.hid h
  have p0 := fD.cell (by simp) q0
  have p1 := fD.cell (by simp) q1
  have F2 : Fr [X.g] w ((w.drew.setCell ⟨X.g, i * 2, none⟩ (.string S)).setCell ⟨X.g, i * 2 + 1, none⟩ (.slice none 0 0)) := ((((Fr.refl [X.g] w)).drew).setCell (.inl (by simp)) _).setCell (.inl (by simp)) _
  have HF := Lib.hid F2
  obtain ⟨NB, hNB⟩ : ∃ NB, D.sure.length = NB := ⟨_, rfl⟩
  rw [hNB] at hi hn c0
  have di : (i : Int) < NB := by omega
  obtain ⟨wD, hwD⟩ : ∃ wD, w.drew = wD := ⟨_, rfl⟩
  have HWD := Lib.hid hwD
  rw [hwD] at p0 p1 z0 z1 z1'
  clear h h1 h2 hx hmE hP F2 hNB r0 r1 hD fD hS hb rd hwD
  go_enter Tryz.func34, Tryz.ntmps34
  go_wp2_with fail
  refine hm.mono ?_
  rintro e w1 ⟨rfl, rfl⟩
  go_upto_region 4 with fail
  refine wp_region_T 9 (S := fun w' => w'.cell? ⟨p, 0, none⟩ = some (.slice (some ⟨X.g, 0, none⟩) NB X.c) ∧ (convert 27 9 (.slice A 512 c)).run Tryz.prog w' = .ok (.string S) w') (by kernel_rfl) ?_
  have hHeld : w.drew.cell? ⟨p, 0, none⟩ = some (.slice (some ⟨X.g, 0, none⟩) NB X.c) ∧ (convert 27 9 (.slice A 512 c)).run Tryz.prog w.drew = .ok (.string S) w.drew := ⟨((Fr.refl [] w).drew).cell (by simp) c0, HCV.out _ (Fr.refl [] w).drew⟩
  rw [HWD.out] at hHeld ⊢
  clear c0 q0 q1
  refine takeT_w 0 (some 15) (v := ?_) rfl rfl (by kernel_rfl) (by kernel_rfl) (by kernel_rfl) (by kernel_rfl) (fun _ _ _ h => h) (by rfl) ?_ hHeld ?_
  rotate_left
  ·(intro w hSw; (try dsimp only at hSw); go_simp; try with_reducible rfl)
  simp only [Act.put, p1, p2, p3]
  refine takeT_w 1 (some 16) (v := ?_) rfl rfl (by kernel_rfl) (by kernel_rfl) (by kernel_rfl) (by kernel_rfl) (fun _ _ _ h => h) (by rfl) ?_ hHeld ?_
  rotate_left
  ·(intro w hSw; (try dsimp only at hSw); go_simp; try with_reducible rfl)
  simp only [Act.put, p1, p2, p3]
  refine takeT_w 2 (some 17) (v := ?_) rfl rfl (by kernel_rfl) (by kernel_rfl) (by kernel_rfl) (by kernel_rfl) (fun _ _ _ h => h) (by rfl) ?_ hHeld ?_
  rotate_left
  ·(intro w hSw; (try dsimp only at hSw); go_simp; try with_reducible rfl)
  simp only [Act.put, p1, p2, p3]
  refine takeT_w 3 (some 18) (v := ?_) rfl rfl (by kernel_rfl) (by kernel_rfl) (by kernel_rfl) (by kernel_rfl) (fun _ _ _ h => h) (by rfl) ?_ hHeld ?_
  rotate_left
  ·(intro w hSw; (try dsimp only at hSw); go_simp; try with_reducible rfl)
  simp only [Act.put, p1, p2, p3]
  refine takeT_w 4 (some 19) (v := ?_) rfl rfl (by kernel_rfl) (by kernel_rfl) (by kernel_rfl) (by kernel_rfl) (fun _ _ _ h => h) (by rfl) ?_ hHeld ?_
  rotate_left
  ·(intro w hSw; (try dsimp only at hSw); go_simp; try with_reducible rfl)
  simp only [Act.put, p1, p2, p3]
  refine takeT_w 5 (some 20) (v := ?_) rfl rfl (by kernel_rfl) (by kernel_rfl) (by kernel_rfl) (by kernel_rfl) (fun _ _ _ h => h) (by rfl) ?_ hHeld ?_
  rotate_left
  ·(intro w hSw; (try dsimp only at hSw); go_simp; try with_reducible rfl)
  simp only [Act.put, p1, p2, p3]
  refine takeT_w 6 (some 21) (v := ?_) rfl rfl (by kernel_rfl) (by kernel_rfl) (by kernel_rfl) (by kernel_rfl) (fun _ _ _ h => h) (by rfl) ?_ hHeld ?_
  rotate_left
  ·(intro w hSw; (try dsimp only at hSw); go_simp; try with_reducible rfl)
  simp only [Act.put, p1, p2, p3]
  refine takeT_w 7 (some 22) (v := ?_) rfl rfl (by kernel_rfl) (by kernel_rfl) (by kernel_rfl) (by kernel_rfl) (fun _ _ _ h => h) (by rfl) ?_ hHeld ?_
  rotate_left
  ·(intro w hSw; (try dsimp only at hSw); go_simp; try with_reducible rfl)
  simp only [Act.put, p1, p2, p3]
  refine takeT_c 8 rfl (by kernel_rfl) (by rfl) (fun K hK => ?_)
  go_simp
  refine hK.out _ _ (fun _ => hHeld) (fun hHx => ?_)
  clear hHx hK
  try simp only [Act.put, p1, p2, p3]
  refine takeT_c 9 rfl (by kernel_rfl) (by rfl) (fun K hK => ?_)
  go_simp
  refine hK.out _ _ (fun h => absurd rfl h) (fun hHx => ?_)
  clear hK hHx hHeld
  refine wpAnyT_done (by kernel_rfl) ?_ _
  go_wp2_with fail
  go_ret
  refine ⟨by rw [HM.out]; rfl, ?_⟩
  rw [← HWD.out]
  exact ⟨_, ⟨_, HP.out⟩, fun k hk => .inl (mem_nilO hk), HF.out.mono (fun k hk => by rw [List.mem_singleton.1 hk]; exact HH.out.gO)⟩
 ·have HW := Lib.hid (show D.tamper x b = D by rw [DkM.tamper, hb, if_pos (by simpa using hmE)])
  obtain ⟨E, hE⟩ : ∃ E, D.mayE x n = E := ⟨_, rfl⟩
  rw [hE] at hm hmE
  have dE : (E != 0) = true := by simpa using hmE
  have HH := Lib.hid h
  have HEE := Lib.hid hE
  clear h hb rd hE
  go_enter Tryz.func34, Tryz.ntmps34
  go_wp2_with fail
  refine hm.mono ?_
  rintro e w1 ⟨rfl, rfl⟩
  go_wp2_with fail
  go_ret
  exact ⟨by rw [HEE.out]; rfl, by rw [HW.out]; exact AftX.same HH.out⟩
end
end
end Go.Proofs.YtbanogfljpkbkaaGreatDoor
