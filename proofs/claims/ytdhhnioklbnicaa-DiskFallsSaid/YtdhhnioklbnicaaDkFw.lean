/-
  DiskFalls: the walk.
-/
import Derived.Test.YtdhhnioklbnicaaDkFb
import Derived.Deep.DeepCutAuto
import Derived.Deep.CutBlock
import Derived.Test.YtdhhnioklbnicaaDkSu
set_option linter.unusedSimpArgs false
set_option linter.unusedVariables false
set_option linter.unnecessarySimpa false
namespace Go.Proofs.Ytdhhnioklbnicaa
open Go.RowKit
set_option maxRecDepth 100000

theorem FW.start {w W : World} {p : Nat} {D : DkM} (h : LV w W p D) :
    FW w (W.alloc (.cells #[.slice none 0 0, .slice none 0 0, .slice none 0 0, .slice none 0 0, .slice none 0 0, .slice none 0 0, .slice none 0 0, .slice none 0 0] 30)) p D W.heap.size 30 (tK 0) := by
  obtain ⟨O, hd, hO, hf⟩ := h
  have f0 : Fr [] W (W.alloc (.cells #[.slice none 0 0, .slice none 0 0, .slice none 0 0, .slice none 0 0, .slice none 0 0, .slice none 0 0, .slice none 0 0, .slice none 0 0] 30)) := (Fr.refl [] W).alloc _
  have hv : ∀ i (h : i < (List.replicate 8 (Value.slice none 0 0)).length), (List.replicate 8 (Value.slice none 0 0))[i] = .slice none 0 0 := fun i h => List.getElem_replicate _
  refine ⟨O, List.replicate 8 (.slice none 0 0), hd.keep_nil f0, hO, ⟨rfl, rfl, Blk.new W 30 _, fun i a b => ?_, fun i j a b g _ hg => ?_⟩, fun hm => ?_, hf.size, fun i a g hg => ?_, hf.trans_nil f0⟩
  · rw [hv]
    have e : (tK 0)[i] = [] := by simp [tK]
    rw [e]
    exact Row.nil _ _ _ _
  · rw [hv] at hg; cases hg
  · have := hd.lts _ hm; omega
  · rw [hv] at hg; cases hg
/-- A list of one string. -/
theorem row_str (W : World) (b : List UInt8) : Row (W.alloc (.cells #[strV b] 9)) 0 9 1 (.slice (some ⟨W.heap.size, 0, none⟩) 1 1) 1 ([b].map strV) :=
  Row.new W #[strV b] 9 1 1 (0, 0) (free_zero _) (by unfold maxLen; omega) rfl (Nat.zero_le _)
theorem FWX.nil_fr {w W W1 : World} {p gt : Nat} {ty : TypeId} {D : DkM} {T : List (List (List UInt8))} {O : List Nat} {vs : List Value} (h : FWX w W p D gt ty T O vs) (f : Fr [] W W1) : FWX w W1 p D gt ty T O vs :=
  ⟨h.dsk.keep_nil f, h.new, h.told.keep_nil f, h.gO, h.gnew, h.own, h.fr.trans_nil f⟩
set_option maxHeartbeats 8000000 in
theorem diskFalls_any (w : World) (A : Option Addr) (n c : Nat) (l : List O10) (ha : ArgO w A n c l) (B : Option Addr) (m d : Nat) (ks : List (Int × Int)) (hk : ArgK w B m d ks) (fl : Bool) : Calls Try.prog 3 #[.slice A n c, .slice B m d, .bool fl] w fun e w' => e = .returned (.bool true) ∧ Fr [] w w' := by
  have cn := dkNew_any w 8 (by omega)
  go_enter Try.func3, Try.ntmps3
  go_wp2_with fail
  refine cn.mono ?_
  intro e w1 hn
  obtain ⟨p, rfl, h1⟩ := LV.of_new (by omega) hn
  clear cn hn
  change LV w w1 p (newD 8) at h1
  go_wp2_with fail
  refine (lives_any w1).mono ?_
  rintro e w2 ⟨rfl, f2⟩
  replace h1 := h1.keep f2
  clear f2
  go_wp2_with fail
  have h0 := FW.start h1
  obtain ⟨gt, hgt⟩ : ∃ gt, w2.heap.size = gt := ⟨_, rfl⟩
  rw [hgt] at h0 ⊢
  clear hgt h1
  go_loopw [10] (fun i wr => ∃ k : Nat, k ≤ 8 ∧ i = .int .i64 k ∧ FW w wr p (newD 8) gt 30 (tK k)) (fun i _ => 8 - (intOf i).toNat)
  case atStart => exact ⟨0, by omega, rfl, h0⟩
  case round =>
    clear h0
    obtain ⟨k, hk8, rfl, h⟩ := hrel
    by_cases hlt : k < 8
    · have d0 : (k : Int) < 8 := by omega
      have cs := h.lv.sure k
      rw [show (newD 8).sureR (k : Int) = zB512 from (DkM.sureR_at hlt).trans (by rw [newD]; simp only [List.getD_eq_getElem?_getD, List.getElem?_replicate]; split <;> rfl)] at cs
      go_wp2_with fail
      refine cs.mono ?_
      rintro e w5 ⟨⟨v5, rfl, r5, f5⟩, -⟩
      rw [zB512_len] at r5
      obtain ⟨g5, c5, rfl⟩ := r5.hdD (by decide)
      have cv5 : (convert 31 9 (.slice (some ⟨g5, 0, none⟩) 512 c5)).run Try.prog w5 = .ok (strV zB512) w5 := conv_str Try.underlying31 Try.underlying5 Try.underlying9 w5 _ zB512 512 c5 zB512_len r5.rdD.1 (fun h => by cases h)
      replace h := h.keep f5
      obtain ⟨O, vs, hx⟩ := h
      obtain ⟨P1, Q2, P3⟩ := hx.put hlt (L := [zB512]) (((Fr.refl [] w5).alloc (.cells #[strV zB512] 9)).mono (by simp)) (row_str w5 zB512) (fun g hg => .inr (by cases hg; exact Nat.le_refl _)) (by decide) (by decide)
      rw [← tK_succ hlt] at P1
      obtain ⟨old, P2⟩ : ∃ old, (w5.alloc (.cells #[strV zB512] 9)).cell? ⟨gt, k, none⟩ = some old := ⟨_, Q2⟩
      clear Q2 cs r5 f5 hx
      obtain ⟨S, hS⟩ : ∃ S : ByteArray, (⟨zB512.toArray⟩ : ByteArray) = S := ⟨_, rfl⟩
      rw [show strV zB512 = .string S from congrArg Value.string hS] at *
      clear hS
      go_wp2_with fail
      exact ⟨⟨k + 1, by omega, by go_num, P1⟩, by simp [intOf]; omega⟩
    · obtain rfl : k = 8 := by omega
      rw [tK_8] at h
      have d0 : ¬ (((8 : Nat) : Int) < 8) := by omega
      go_upto_block 2 with fail
      try rw [show ((8 : Nat) : Int) = 8 from rfl]
      go_cut [11] from 42 to 95 (fun _ wx => ∃ D, Fresh 8 200 D ∧ FW w wx p D gt 30 (tOf D))
      case first =>
       go_wp2_with fail
       go_loopw [11] (fun i wr => ∃ (k : Nat) (D : DkM), k ≤ n ∧ k ≤ 200 ∧ i = .int .i64 k ∧ FW w wr p D gt 30 (tOf D) ∧ Fresh 8 k D) (fun i _ => n - (intOf i).toNat)
       case atStart => exact ⟨0, _, by omega, by omega, rfl, h, Fresh.new 8⟩
       case round =>
        clear h
        obtain ⟨k, D, hkn, hk1, rfl, h, hD⟩ := hrel
        by_cases hlt : k < n
        · have d0 : (k : Int) < n := by omega
          by_cases hl1 : k < 200
          · have d1 : (k : Int) < 200 := by omega
            obtain ⟨o, g, b, hol, rfl, ok, c0, c1, c2, -, -⟩ := ha.cells h.frm hlt
            go_upto_region 12 with fail
            obtain ⟨wD, hwD⟩ : ∃ wD, wr.drew = wD := ⟨_, rfl⟩
            have fD : Fr [] wr wD := by rw [← hwD]; exact (Fr.refl [] wr).drew
            replace h := h.keep fD
            have hblk := fun W (f : Fr [] w W) => dkBlock_any W o.A o.m o.c o.l ok.b.len (ok.b.rd.keep_nil f) (by have := ok.b.reach; omega)
            obtain ⟨x, hx⟩ : ∃ x, o.n = x := ⟨_, rfl⟩
            obtain ⟨kd, hkd⟩ : ∃ kd, o.kind = kd := ⟨_, rfl⟩
            have mkS : ∀ w' : World, Fr [] w w' → (w'.cell? ⟨g, b + k * 5, none⟩ = some (.int .i64 kd) ∧ w'.cell? ⟨g, b + k * 5 + 1, none⟩ = some (.int .i64 x) ∧ w'.cell? ⟨g, b + k * 5 + 2, none⟩ = some (.slice o.A o.m o.c) ∧ Fr [] w w') := fun w' f => by
              obtain ⟨o', g', b', ho', e', -, k0, k1, k2, -, -⟩ := ha.cells f hlt
              rw [hol] at ho'
              cases ho'
              cases e'
              rw [k0, k1, k2, hx, hkd]
              exact ⟨rfl, rfl, rfl, f⟩
            refine wp_region_held_drew (S := fun w' => w'.cell? ⟨g, b + k * 5, none⟩ = some (.int .i64 kd) ∧ w'.cell? ⟨g, b + k * 5 + 1, none⟩ = some (.int .i64 x) ∧ w'.cell? ⟨g, b + k * 5 + 2, none⟩ = some (.slice o.A o.m o.c) ∧ Fr [] w w') (by kernel_rfl) (by rw [hwD]; exact mkS _ h.frm) (fun hHeld => ?_)
            rw [hwD] at hHeld ⊢
            have MK := Lib.hid mkS
            have HBK := Lib.hid hblk
            clear hwD fD mkS c0 c1 c2 hblk hkd
            by_cases hkind : kd = 1
            · have dk : (kd == 1) = true := by simpa using hkind
              refine take_w 0 (some 52) (v := ?_) rfl rfl (by kernel_rfl) (by kernel_rfl) (by kernel_rfl) (fun _ _ _ h => h) (by rfl) ?_ hHeld ?_
              rotate_left
              · (intro w hSw; (try dsimp only at hSw); go_simp; try with_reducible rfl)
              simp only [Act.put, List.setIfInBounds_toArray, List.set_cons_zero, List.set_cons_succ]
              refine take_w 1 (some 53) (v := ?_) rfl rfl (by kernel_rfl) (by kernel_rfl) (by kernel_rfl) (fun _ _ _ h => h) (by rfl) ?_ hHeld ?_
              rotate_left
              · (intro w hSw; (try dsimp only at hSw); go_simp; try with_reducible rfl)
              simp only [Act.put, List.setIfInBounds_toArray, List.set_cons_zero, List.set_cons_succ]
              refine take_w 2 (some 54) (v := ?_) rfl rfl (by kernel_rfl) (by kernel_rfl) (by kernel_rfl) (fun _ _ _ h => h) (by rfl) ?_ hHeld ?_
              rotate_left
              · (intro w hSw; (try dsimp only at hSw); go_simp; try with_reducible rfl)
              simp only [Act.put, List.setIfInBounds_toArray, List.set_cons_zero, List.set_cons_succ]
              refine take_w 3 (some 55) (v := ?_) rfl rfl (by kernel_rfl) (by kernel_rfl) (by kernel_rfl) (fun _ _ _ h => h) (by rfl) ?_ hHeld ?_
              rotate_left
              · (intro w hSw; (try dsimp only at hSw); go_simp; try with_reducible rfl)
              simp only [Act.put, List.setIfInBounds_toArray, List.set_cons_zero, List.set_cons_succ]
              refine take_w 4 (some 56) (v := ?_) rfl rfl (by kernel_rfl) (by kernel_rfl) (by kernel_rfl) (fun _ _ _ h => h) (by rfl) ?_ hHeld ?_
              rotate_left
              · (intro w hSw; (try dsimp only at hSw); go_simp; try with_reducible rfl)
              simp only [Act.put, List.setIfInBounds_toArray, List.set_cons_zero, List.set_cons_succ]
              refine take_w 5 (some 57) (v := ?_) rfl rfl (by kernel_rfl) (by kernel_rfl) (by kernel_rfl) (fun _ _ _ h => h) (by rfl) ?_ hHeld ?_
              rotate_left
              · (intro w hSw; (try dsimp only at hSw); go_simp; try with_reducible rfl)
              simp only [Act.put, List.setIfInBounds_toArray, List.set_cons_zero, List.set_cons_succ]
              refine take_w 6 (some 58) (v := ?_) rfl rfl (by kernel_rfl) (by kernel_rfl) (by kernel_rfl) (fun _ _ _ h => h) (by rfl) ?_ hHeld ?_
              rotate_left
              · (intro w hSw; (try dsimp only at hSw); go_simp; try with_reducible rfl)
              simp only [Act.put, List.setIfInBounds_toArray, List.set_cons_zero, List.set_cons_succ]
              refine take_w 7 (some 59) (v := ?_) rfl rfl (by kernel_rfl) (by kernel_rfl) (by kernel_rfl) (fun _ _ _ h => h) (by rfl) ?_ hHeld ?_
              rotate_left
              · (intro w hSw; (try dsimp only at hSw); go_simp; try with_reducible rfl)
              simp only [Act.put, List.setIfInBounds_toArray, List.set_cons_zero, List.set_cons_succ]
              refine take_w 8 (some 60) (v := ?_) rfl rfl (by kernel_rfl) (by kernel_rfl) (by kernel_rfl) (fun _ _ _ h => h) (by rfl) ?_ hHeld ?_
              rotate_left
              · (intro w hSw; (try dsimp only at hSw); go_simp; try with_reducible rfl)
              simp only [Act.put, List.setIfInBounds_toArray, List.set_cons_zero, List.set_cons_succ]
              refine take_w 9 (some 61) (v := ?_) rfl rfl (by kernel_rfl) (by kernel_rfl) (by kernel_rfl) (fun _ _ _ h => h) (by rfl) ?_ hHeld ?_
              rotate_left
              · (intro w hSw; (try dsimp only at hSw); go_simp; try with_reducible rfl)
              simp only [Act.put, List.setIfInBounds_toArray, List.set_cons_zero, List.set_cons_succ]
              refine take_w 10 (some 62) (v := ?_) rfl rfl (by kernel_rfl) (by kernel_rfl) (by kernel_rfl) (fun _ _ _ h => h) (by rfl) ?_ hHeld ?_
              rotate_left
              · (intro w hSw; (try dsimp only at hSw); go_simp; try with_reducible rfl)
              simp only [Act.put, List.setIfInBounds_toArray, List.set_cons_zero, List.set_cons_succ]
              refine take_w 11 (some 63) (v := ?_) rfl rfl (by kernel_rfl) (by kernel_rfl) (by kernel_rfl) (fun _ _ _ h => h) (by rfl) ?_ hHeld ?_
              rotate_left
              · (intro w hSw; (try dsimp only at hSw); go_simp; try with_reducible rfl)
              simp only [Act.put, List.setIfInBounds_toArray, List.set_cons_zero, List.set_cons_succ]
              refine take_w 12 (some 64) (v := ?_) rfl rfl (by kernel_rfl) (by kernel_rfl) (by kernel_rfl) (fun _ _ _ h => h) (by rfl) ?_ hHeld ?_
              rotate_left
              · (intro w hSw; (try dsimp only at hSw); go_simp; try with_reducible rfl)
              simp only [Act.put, List.setIfInBounds_toArray, List.set_cons_zero, List.set_cons_succ]
              refine take_w 13 (some 65) (v := ?_) rfl rfl (by kernel_rfl) (by kernel_rfl) (by kernel_rfl) (fun _ _ _ h => h) (by rfl) ?_ hHeld ?_
              rotate_left
              · (intro w hSw; (try dsimp only at hSw); go_simp; try with_reducible rfl)
              simp only [Act.put, List.setIfInBounds_toArray, List.set_cons_zero, List.set_cons_succ]
              refine take_w 14 (some 66) (v := ?_) rfl rfl (by kernel_rfl) (by kernel_rfl) (by kernel_rfl) (fun _ _ _ h => h) (by rfl) ?_ hHeld ?_
              rotate_left
              · (intro w hSw; (try dsimp only at hSw); go_simp; try with_reducible rfl)
              simp only [Act.put, List.setIfInBounds_toArray, List.set_cons_zero, List.set_cons_succ]
              refine take_w 15 (some 67) (v := ?_) rfl rfl (by kernel_rfl) (by kernel_rfl) (by kernel_rfl) (fun _ _ _ h => h) (by rfl) ?_ hHeld ?_
              rotate_left
              · (intro w hSw; (try dsimp only at hSw); go_simp; try with_reducible rfl)
              simp only [Act.put, List.setIfInBounds_toArray, List.set_cons_zero, List.set_cons_succ]
              refine take_w 16 (some 68) (v := ?_) rfl rfl (by kernel_rfl) (by kernel_rfl) (by kernel_rfl) (fun _ _ _ h => h) (by rfl) ?_ hHeld ?_
              rotate_left
              · (intro w hSw; (try dsimp only at hSw); go_simp; try with_reducible rfl)
              simp only [Act.put, List.setIfInBounds_toArray, List.set_cons_zero, List.set_cons_succ]
              refine take_w 17 (some 69) (v := ?_) rfl rfl (by kernel_rfl) (by kernel_rfl) (by kernel_rfl) (fun _ _ _ h => h) (by rfl) ?_ hHeld ?_
              rotate_left
              · (intro w hSw; (try dsimp only at hSw); go_simp; try with_reducible rfl)
              simp only [Act.put, List.setIfInBounds_toArray, List.set_cons_zero, List.set_cons_succ]
              refine take_c 18 rfl (by kernel_rfl) (by rfl) (fun K hK => ?_)
              go_simp
              refine (HBK.out _ h.frm).mono ?_
              rintro e wE ⟨vE, rfl, rE, fE⟩
              obtain ⟨gE, cE, rfl⟩ := rE.hdD (by decide)
              have h2 := h.keep fE
              have cw := h2.write x (some ⟨gE, 0, none⟩) 512 cE (blkOf o.l) (blkOf_len _) rE.rdD.1 (fun h => by cases h) (by have := hD.uns x; omega)
              obtain ⟨E, hE⟩ : ∃ E, D.writeE x 512 = E := ⟨_, rfl⟩
              rw [hE] at cw
              refine hK.out _ _ (MK.out _ h2.frm) (fun hHx => ?_)
              clear hK
              try simp only [Act.put, List.setIfInBounds_toArray, List.set_cons_zero, List.set_cons_succ]
              refine take_c 19 rfl (by kernel_rfl) (by rfl) (fun K hK => ?_)
              go_simp
              refine cw.mono ?_
              rintro e wF ⟨rfl, h3⟩
              refine hK.out _ _ (MK.out _ h3.frm) (fun hHy => ?_)
              clear hK hHeld hHx cw h2 rE fE
              have hHeld := hHy
              clear hHy
              try simp only [Act.put, List.setIfInBounds_toArray, List.set_cons_zero, List.set_cons_succ]
              by_cases he0 : E = 0
              · have dE : (E == 0) = true := by simpa using he0
                refine take_w 20 (some 72) (v := ?_) rfl rfl (by kernel_rfl) (by kernel_rfl) (by kernel_rfl) (fun _ _ _ h => h) (by rfl) ?_ hHeld ?_
                rotate_left
                · (intro w hSw; (try dsimp only at hSw); go_simp; try with_reducible rfl)
                simp only [Act.put, List.setIfInBounds_toArray, List.set_cons_zero, List.set_cons_succ]
                refine take_w 21 (some 73) (v := ?_) rfl rfl (by kernel_rfl) (by kernel_rfl) (by kernel_rfl) (fun _ _ _ h => h) (by rfl) ?_ hHeld ?_
                rotate_left
                · (intro w hSw; (try dsimp only at hSw); go_simp; try with_reducible rfl)
                simp only [Act.put, List.setIfInBounds_toArray, List.set_cons_zero, List.set_cons_succ]
                refine wpAnyH_done (by kernel_rfl) ?_ _
                subst he0
                obtain ⟨i, rfl, hi8, hset⟩ := tOf_write hD (x := x) (b := blkOf o.l) (by rw [blkOf_len]; exact hE)
                have hDw := hD.write (i : Int) (blkOf o.l)
                have hui := hD.uns i
                clear hHeld dE hE
                go_upto_region 13 with fail
                obtain ⟨wG, hwG⟩ : ∃ wG, wF.drew = wG := ⟨_, rfl⟩
                have fG : Fr [] wF wG := by rw [← hwG]; exact (Fr.refl [] wF).drew
                replace h3 := h3.keep fG
                obtain ⟨D', hD'⟩ : ∃ D', D.write (i : Int) (blkOf o.l) = D' := ⟨_, rfl⟩
                rw [hD'] at h3 hset hDw
                obtain ⟨O, vs, hx3⟩ := h3
                have hiv : i < vs.length := by rw [hx3.told.vlen]; exact hi8
                have hit : i < (tOf D).length := by rw [hx3.told.len]; exact hi8
                have row := hx3.told.row i hiv hit
                have eT : (tOf D)[i]'hit = zB512 :: D.uns i := by simp [tOf]
                rw [eT] at row
                obtain ⟨N, hN⟩ : ∃ N, (zB512 :: D.uns i).length = N := ⟨_, rfl⟩
                have hN2 : N ≤ 201 := by rw [← hN, List.length_cons]; omega
                have ct : wG.cell? ⟨gt, i, none⟩ = some (vs[i]'hiv) := by
                  rw [hx3.told.blk.cell i]; simp [hiv]
                obtain ⟨vi, hvi⟩ : ∃ vi, vs[i]'hiv = vi := ⟨_, rfl⟩
                rw [hN, hvi] at row
                rw [hvi] at ct
                obtain ⟨Ai, ci, rfl, -, -, -, -, -⟩ := row.shape
                obtain ⟨b8, hb8⟩ : ∃ b8, blkOf o.l = b8 := ⟨_, rfl⟩
                rw [hb8] at hset
                have di : (i : Int) < 8 := by omega
                refine wp_region_held_drew (S := fun w' => w'.cell? ⟨g, b + k * 5 + 1, none⟩ = some (.int .i64 i) ∧ w'.cell? ⟨g, b + k * 5 + 2, none⟩ = some (.slice o.A o.m o.c) ∧ Fr [] w w') (by kernel_rfl) (by rw [hwG]; exact (MK.out _ hx3.fr).2) (fun hHeld => ?_)
                rw [hwG] at hHeld ⊢
                have HX := Lib.hid (And.intro hN (And.intro hset (And.intro hb8 hvi)))
                clear hwG fG hN hset hb8 hvi eT
                have b8l : b8.length = 512 := by rw [← HX.out.2.2.1]; exact blkOf_len _
                obtain ⟨S, hS⟩ : ∃ S : ByteArray, (⟨b8.toArray⟩ : ByteArray) = S := ⟨_, rfl⟩
                have HSV := Lib.hid (show strV b8 = .string S from congrArg Value.string hS)
                clear hS
                refine take_w 0 (some 74) (v := ?_) rfl rfl (by kernel_rfl) (by kernel_rfl) (by kernel_rfl) (fun _ _ _ h => h) (by rfl) ?_ hHeld ?_
                rotate_left
                · (intro w hSw; (try dsimp only at hSw); go_simp; try with_reducible rfl)
                simp only [Act.put, List.setIfInBounds_toArray, List.set_cons_zero, List.set_cons_succ]
                refine take_w 1 (some 75) (v := ?_) rfl rfl (by kernel_rfl) (by kernel_rfl) (by kernel_rfl) (fun _ _ _ h => h) (by rfl) ?_ hHeld ?_
                rotate_left
                · (intro w hSw; (try dsimp only at hSw); go_simp; try with_reducible rfl)
                simp only [Act.put, List.setIfInBounds_toArray, List.set_cons_zero, List.set_cons_succ]
                refine take_w 2 (some 76) (v := ?_) rfl rfl (by kernel_rfl) (by kernel_rfl) (by kernel_rfl) (fun _ _ _ h => h) (by rfl) ?_ hHeld ?_
                rotate_left
                · (intro w hSw; (try dsimp only at hSw); go_simp; try with_reducible rfl)
                simp only [Act.put, List.setIfInBounds_toArray, List.set_cons_zero, List.set_cons_succ]
                refine take_w 3 (some 77) (v := ?_) rfl rfl (by kernel_rfl) (by kernel_rfl) (by kernel_rfl) (fun _ _ _ h => h) (by rfl) ?_ hHeld ?_
                rotate_left
                · (intro w hSw; (try dsimp only at hSw); go_simp; try with_reducible rfl)
                simp only [Act.put, List.setIfInBounds_toArray, List.set_cons_zero, List.set_cons_succ]
                refine take_w 4 (some 78) (v := ?_) rfl rfl (by kernel_rfl) (by kernel_rfl) (by kernel_rfl) (fun _ _ _ h => h) (by rfl) ?_ hHeld ?_
                rotate_left
                · (intro w hSw; (try dsimp only at hSw); go_simp; try with_reducible rfl)
                simp only [Act.put, List.setIfInBounds_toArray, List.set_cons_zero, List.set_cons_succ]
                refine take_w 5 (some 79) (v := ?_) rfl rfl (by kernel_rfl) (by kernel_rfl) (by kernel_rfl) (fun _ _ _ h => h) (by rfl) ?_ hHeld ?_
                rotate_left
                · (intro w hSw; (try dsimp only at hSw); go_simp; try with_reducible rfl)
                simp only [Act.put, List.setIfInBounds_toArray, List.set_cons_zero, List.set_cons_succ]
                refine take_w 6 (some 80) (v := ?_) rfl rfl (by kernel_rfl) (by kernel_rfl) (by kernel_rfl) (fun _ _ _ h => h) (by rfl) ?_ hHeld ?_
                rotate_left
                · (intro w hSw; (try dsimp only at hSw); go_simp; try with_reducible rfl)
                simp only [Act.put, List.setIfInBounds_toArray, List.set_cons_zero, List.set_cons_succ]
                refine take_w 7 (some 81) (v := ?_) rfl rfl (by kernel_rfl) (by kernel_rfl) (by kernel_rfl) (fun _ _ _ h => h) (by rfl) ?_ hHeld ?_
                rotate_left
                · (intro w hSw; (try dsimp only at hSw); go_simp; try with_reducible rfl)
                simp only [Act.put, List.setIfInBounds_toArray, List.set_cons_zero, List.set_cons_succ]
                refine take_w 8 (some 82) (v := ?_) rfl rfl (by kernel_rfl) (by kernel_rfl) (by kernel_rfl) (fun _ _ _ h => h) (by rfl) ?_ hHeld ?_
                rotate_left
                · (intro w hSw; (try dsimp only at hSw); go_simp; try with_reducible rfl)
                simp only [Act.put, List.setIfInBounds_toArray, List.set_cons_zero, List.set_cons_succ]
                refine take_w 9 (some 83) (v := ?_) rfl rfl (by kernel_rfl) (by kernel_rfl) (by kernel_rfl) (fun _ _ _ h => h) (by rfl) ?_ hHeld ?_
                rotate_left
                · (intro w hSw; (try dsimp only at hSw); go_simp; try with_reducible rfl)
                simp only [Act.put, List.setIfInBounds_toArray, List.set_cons_zero, List.set_cons_succ]
                refine take_w 10 (some 84) (v := ?_) rfl rfl (by kernel_rfl) (by kernel_rfl) (by kernel_rfl) (fun _ _ _ h => h) (by rfl) ?_ hHeld ?_
                rotate_left
                · (intro w hSw; (try dsimp only at hSw); go_simp; try with_reducible rfl)
                simp only [Act.put, List.setIfInBounds_toArray, List.set_cons_zero, List.set_cons_succ]
                refine take_w 12 (some 86) (v := ?_) rfl rfl (by kernel_rfl) (by kernel_rfl) (by kernel_rfl) (fun _ _ _ h => h) (by rfl) ?_ hHeld ?_
                rotate_left
                · (intro w hSw; (try dsimp only at hSw); go_simp; try with_reducible rfl)
                simp only [Act.put, List.setIfInBounds_toArray, List.set_cons_zero, List.set_cons_succ]
                refine take_w 13 (some 87) (v := ?_) rfl rfl (by kernel_rfl) (by kernel_rfl) (by kernel_rfl) (fun _ _ _ h => h) (by rfl) ?_ hHeld ?_
                rotate_left
                · (intro w hSw; (try dsimp only at hSw); go_simp; try with_reducible rfl)
                simp only [Act.put, List.setIfInBounds_toArray, List.set_cons_zero, List.set_cons_succ]
                refine take_w 14 (some 88) (v := ?_) rfl rfl (by kernel_rfl) (by kernel_rfl) (by kernel_rfl) (fun _ _ _ h => h) (by rfl) ?_ hHeld ?_
                rotate_left
                · (intro w hSw; (try dsimp only at hSw); go_simp; try with_reducible rfl)
                simp only [Act.put, List.setIfInBounds_toArray, List.set_cons_zero, List.set_cons_succ]
                refine take_w 15 (some 89) (v := ?_) rfl rfl (by kernel_rfl) (by kernel_rfl) (by kernel_rfl) (fun _ _ _ h => h) (by rfl) ?_ hHeld ?_
                rotate_left
                · (intro w hSw; (try dsimp only at hSw); go_simp; try with_reducible rfl)
                simp only [Act.put, List.setIfInBounds_toArray, List.set_cons_zero, List.set_cons_succ]
                refine take_w 16 (some 90) (v := ?_) rfl rfl (by kernel_rfl) (by kernel_rfl) (by kernel_rfl) (fun _ _ _ h => h) (by rfl) ?_ hHeld ?_
                rotate_left
                · (intro w hSw; (try dsimp only at hSw); go_simp; try with_reducible rfl)
                simp only [Act.put, List.setIfInBounds_toArray, List.set_cons_zero, List.set_cons_succ]
                refine take_2z 11 17 rfl rfl (by kernel_rfl) (by rfl) (by rfl) (fun K hK => ?_) (fun K hK => ?_)
                ·
                  go_simp
                  refine hK.out _ _ hHeld (fun hHx => ?_)
                  clear hK hHx
                  try simp only [Act.put, List.setIfInBounds_toArray, List.set_cons_zero, List.set_cons_succ]
                  refine take_c 17 rfl (by kernel_rfl) (by rfl) (fun K hK => ?_)
                  go_simp
                  refine (HBK.out _ hx3.fr).mono ?_
                  rintro e wH ⟨vE, rfl, rE, fE⟩
                  obtain ⟨gE, cE, rfl⟩ := rE.hdD (by decide)
                  replace hx3 := hx3.nil_fr fE
                  replace row := row.keep_nil fE
                  replace ct := fE.cell (by simp) ct
                  rw [HX.out.2.2.1] at rE
                  have cvE : (convert 31 9 (.slice (some ⟨gE, 0, none⟩) 512 cE)).run Try.prog wH = .ok (.string S) wH := by
                    rw [← HSV.out]
                    exact conv_str Try.underlying31 Try.underlying5 Try.underlying9 wH _ b8 512 cE b8l rE.rdD.1 (fun h => by cases h)
                  refine hK.out _ _ (MK.out _ hx3.fr).2 (fun hHx => ?_)
                  clear hK hHeld fE rE
                  have hHeld := hHx
                  clear hHx
                  try simp only [Act.put, List.setIfInBounds_toArray, List.set_cons_zero, List.set_cons_succ]
                  refine take_c 18 rfl (by kernel_rfl) (by rfl) (fun K hK => ?_)
                  go_simp
                  refine hK.out _ _ hHeld (fun hHx => ?_)
                  clear hK hHx cvE
                  try simp only [Act.put, List.setIfInBounds_toArray, List.set_cons_zero, List.set_cons_succ]
                  refine take_c 19 rfl (by kernel_rfl) (by rfl) (fun K hK => ?_)
                  go_simp
                  have fI : Fr [] wH (wH.alloc (.cells #[.string S] 9)) := (Fr.refl [] wH).alloc _
                  have RD := row_str wH b8
                  rw [HSV.out] at RD
                  replace hx3 := hx3.nil_fr fI
                  replace row := row.keep_nil fI
                  replace ct := fI.cell (by simp) ct
                  refine hK.out _ _ (MK.out _ hx3.fr).2 (fun hHx => ?_)
                  clear hK hHeld fI
                  have hHeld := hHx
                  clear hHx
                  try simp only [Act.put, List.setIfInBounds_toArray, List.set_cons_zero, List.set_cons_succ]
                  generalize wH.alloc (.cells #[.string S] 9) = wI at *
                  refine take_c 20 rfl (by kernel_rfl) (by rfl) (fun K hK => ?_)
                  refine wp_app rfl slStr 0 (.slice Ai N ci) N ((zB512 :: D.uns i).map strV) rfl row _ 1 1 [.string S] rfl rfl (by have := RD.rdD.1; rw [show [b8].map strV = [Value.string S] from congrArg (fun v => [v]) HSV.out] at this; exact this) (by intro u hu; simp at hu; subst hu; rfl) (fun h => by cases h) (by omega) (Nat.zero_le _) (fun v7 w7 p1 p2 p3 p4 => ?_)
                  have e7 : (zB512 :: (D.uns i ++ [b8])).length = N + 1 := by rw [← HX.out.1]; simp
                  have m7 : (zB512 :: (D.uns i ++ [b8])).map strV = (zB512 :: D.uns i).map strV ++ [.string S] := by rw [← HSV.out]; simp
                  obtain ⟨P1, Q2, P3⟩ := hx3.put hi8 (v' := v7) (W1 := w7) (L := zB512 :: (D.uns i ++ [b8])) (by rw [HX.out.2.2.2]; exact p2) (by rw [e7, m7]; exact p1) (fun g hg => by rw [HX.out.2.2.2]; exact (p3 g hg).imp id (fun h => by omega)) (by decide) (by decide)
                  rw [← HX.out.2.1] at P1
                  obtain ⟨old, P2⟩ : ∃ old, w7.cell? ⟨gt, i, none⟩ = some old := ⟨_, Q2⟩
                  have f7 := hx3.fr.trans p2 (fun j hj => .inr (hx3.own i hiv j (by rw [HX.out.2.2.2]; exact mem_own.1 hj)).2.1)
                  obtain ⟨A7, c7, rfl, -, -, -, -, -⟩ := p1.shape
                  refine hK.out _ _ (MK.out _ f7).2 (fun hHx => ?_)
                  clear hK hHeld
                  have hHeld := hHx
                  clear hHx
                  try simp only [Act.put, List.setIfInBounds_toArray, List.set_cons_zero, List.set_cons_succ]
                  refine take_w 21 (some 95) (v := ?_) rfl rfl (by kernel_rfl) (by kernel_rfl) (by kernel_rfl) (fun _ _ _ h => h) (by rfl) ?_ hHeld ?_
                  rotate_left
                  · (intro w hSw; (try dsimp only at hSw); go_simp; try with_reducible rfl)
                  simp only [Act.put, List.setIfInBounds_toArray, List.set_cons_zero, List.set_cons_succ]
                  refine take_cd 22 none rfl rfl (by kernel_rfl) (by rfl) (fun K hK => ?_)
                  refine wp_st1 rfl (by kernel_rfl) gt i rfl (.slice A7 (N + 1) c7) rfl rfl rfl P2 P3 ?_
                  refine hK _ _ (MK.out _ P1.frm).2 (fun hHx => ?_)
                  clear hK hHx hHeld
                  refine wpAnyH_done (by kernel_rfl) ?_ _
                  clear P2 P3 Q2 p1 p2 p3 p4 f7 hx3 row ct
                  go_wp2_with fail
                  exact ⟨⟨k + 1, D', by omega, by omega, by go_num, P1, hDw⟩, by simp [intOf]; omega⟩
                ·
                  go_simp
                  refine (HBK.out _ hx3.fr).mono ?_
                  rintro e wH ⟨vE, rfl, rE, fE⟩
                  obtain ⟨gE, cE, rfl⟩ := rE.hdD (by decide)
                  replace hx3 := hx3.nil_fr fE
                  replace row := row.keep_nil fE
                  replace ct := fE.cell (by simp) ct
                  rw [HX.out.2.2.1] at rE
                  have cvE : (convert 31 9 (.slice (some ⟨gE, 0, none⟩) 512 cE)).run Try.prog wH = .ok (.string S) wH := by
                    rw [← HSV.out]
                    exact conv_str Try.underlying31 Try.underlying5 Try.underlying9 wH _ b8 512 cE b8l rE.rdD.1 (fun h => by cases h)
                  refine hK.out _ _ (MK.out _ hx3.fr).2 (fun hHx => ?_)
                  clear hK hHeld fE rE
                  have hHeld := hHx
                  clear hHx
                  try simp only [Act.put, List.setIfInBounds_toArray, List.set_cons_zero, List.set_cons_succ]
                  refine take_2z 11 18 rfl rfl (by kernel_rfl) (by rfl) (by rfl) (fun K hK => ?_) (fun K hK => ?_)
                  ·
                    go_simp
                    refine hK.out _ _ hHeld (fun hHx => ?_)
                    clear hK hHx
                    try simp only [Act.put, List.setIfInBounds_toArray, List.set_cons_zero, List.set_cons_succ]
                    refine take_c 18 rfl (by kernel_rfl) (by rfl) (fun K hK => ?_)
                    go_simp
                    refine hK.out _ _ hHeld (fun hHx => ?_)
                    clear hK hHx cvE
                    try simp only [Act.put, List.setIfInBounds_toArray, List.set_cons_zero, List.set_cons_succ]
                    refine take_c 19 rfl (by kernel_rfl) (by rfl) (fun K hK => ?_)
                    go_simp
                    have fI : Fr [] wH (wH.alloc (.cells #[.string S] 9)) := (Fr.refl [] wH).alloc _
                    have RD := row_str wH b8
                    rw [HSV.out] at RD
                    replace hx3 := hx3.nil_fr fI
                    replace row := row.keep_nil fI
                    replace ct := fI.cell (by simp) ct
                    refine hK.out _ _ (MK.out _ hx3.fr).2 (fun hHx => ?_)
                    clear hK hHeld fI
                    have hHeld := hHx
                    clear hHx
                    try simp only [Act.put, List.setIfInBounds_toArray, List.set_cons_zero, List.set_cons_succ]
                    generalize wH.alloc (.cells #[.string S] 9) = wI at *
                    refine take_c 20 rfl (by kernel_rfl) (by rfl) (fun K hK => ?_)
                    refine wp_app rfl slStr 0 (.slice Ai N ci) N ((zB512 :: D.uns i).map strV) rfl row _ 1 1 [.string S] rfl rfl (by have := RD.rdD.1; rw [show [b8].map strV = [Value.string S] from congrArg (fun v => [v]) HSV.out] at this; exact this) (by intro u hu; simp at hu; subst hu; rfl) (fun h => by cases h) (by omega) (Nat.zero_le _) (fun v7 w7 p1 p2 p3 p4 => ?_)
                    have e7 : (zB512 :: (D.uns i ++ [b8])).length = N + 1 := by rw [← HX.out.1]; simp
                    have m7 : (zB512 :: (D.uns i ++ [b8])).map strV = (zB512 :: D.uns i).map strV ++ [.string S] := by rw [← HSV.out]; simp
                    obtain ⟨P1, Q2, P3⟩ := hx3.put hi8 (v' := v7) (W1 := w7) (L := zB512 :: (D.uns i ++ [b8])) (by rw [HX.out.2.2.2]; exact p2) (by rw [e7, m7]; exact p1) (fun g hg => by rw [HX.out.2.2.2]; exact (p3 g hg).imp id (fun h => by omega)) (by decide) (by decide)
                    rw [← HX.out.2.1] at P1
                    obtain ⟨old, P2⟩ : ∃ old, w7.cell? ⟨gt, i, none⟩ = some old := ⟨_, Q2⟩
                    have f7 := hx3.fr.trans p2 (fun j hj => .inr (hx3.own i hiv j (by rw [HX.out.2.2.2]; exact mem_own.1 hj)).2.1)
                    obtain ⟨A7, c7, rfl, -, -, -, -, -⟩ := p1.shape
                    refine hK.out _ _ (MK.out _ f7).2 (fun hHx => ?_)
                    clear hK hHeld
                    have hHeld := hHx
                    clear hHx
                    try simp only [Act.put, List.setIfInBounds_toArray, List.set_cons_zero, List.set_cons_succ]
                    refine take_w 21 (some 95) (v := ?_) rfl rfl (by kernel_rfl) (by kernel_rfl) (by kernel_rfl) (fun _ _ _ h => h) (by rfl) ?_ hHeld ?_
                    rotate_left
                    · (intro w hSw; (try dsimp only at hSw); go_simp; try with_reducible rfl)
                    simp only [Act.put, List.setIfInBounds_toArray, List.set_cons_zero, List.set_cons_succ]
                    refine take_cd 22 none rfl rfl (by kernel_rfl) (by rfl) (fun K hK => ?_)
                    refine wp_st1 rfl (by kernel_rfl) gt i rfl (.slice A7 (N + 1) c7) rfl rfl rfl P2 P3 ?_
                    refine hK _ _ (MK.out _ P1.frm).2 (fun hHx => ?_)
                    clear hK hHx hHeld
                    refine wpAnyH_done (by kernel_rfl) ?_ _
                    clear P2 P3 Q2 p1 p2 p3 p4 f7 hx3 row ct
                    go_wp2_with fail
                    exact ⟨⟨k + 1, D', by omega, by omega, by go_num, P1, hDw⟩, by simp [intOf]; omega⟩
                  ·
                    go_simp
                    refine hK.out _ _ hHeld (fun hHx => ?_)
                    clear hK hHx cvE
                    try simp only [Act.put, List.setIfInBounds_toArray, List.set_cons_zero, List.set_cons_succ]
                    refine take_2z 11 19 rfl rfl (by kernel_rfl) (by rfl) (by rfl) (fun K hK => ?_) (fun K hK => ?_)
                    ·
                      go_simp
                      refine hK.out _ _ hHeld (fun hHx => ?_)
                      clear hK hHx
                      try simp only [Act.put, List.setIfInBounds_toArray, List.set_cons_zero, List.set_cons_succ]
                      refine take_c 19 rfl (by kernel_rfl) (by rfl) (fun K hK => ?_)
                      go_simp
                      have fI : Fr [] wH (wH.alloc (.cells #[.string S] 9)) := (Fr.refl [] wH).alloc _
                      have RD := row_str wH b8
                      rw [HSV.out] at RD
                      replace hx3 := hx3.nil_fr fI
                      replace row := row.keep_nil fI
                      replace ct := fI.cell (by simp) ct
                      refine hK.out _ _ (MK.out _ hx3.fr).2 (fun hHx => ?_)
                      clear hK hHeld fI
                      have hHeld := hHx
                      clear hHx
                      try simp only [Act.put, List.setIfInBounds_toArray, List.set_cons_zero, List.set_cons_succ]
                      generalize wH.alloc (.cells #[.string S] 9) = wI at *
                      refine take_c 20 rfl (by kernel_rfl) (by rfl) (fun K hK => ?_)
                      refine wp_app rfl slStr 0 (.slice Ai N ci) N ((zB512 :: D.uns i).map strV) rfl row _ 1 1 [.string S] rfl rfl (by have := RD.rdD.1; rw [show [b8].map strV = [Value.string S] from congrArg (fun v => [v]) HSV.out] at this; exact this) (by intro u hu; simp at hu; subst hu; rfl) (fun h => by cases h) (by omega) (Nat.zero_le _) (fun v7 w7 p1 p2 p3 p4 => ?_)
                      have e7 : (zB512 :: (D.uns i ++ [b8])).length = N + 1 := by rw [← HX.out.1]; simp
                      have m7 : (zB512 :: (D.uns i ++ [b8])).map strV = (zB512 :: D.uns i).map strV ++ [.string S] := by rw [← HSV.out]; simp
                      obtain ⟨P1, Q2, P3⟩ := hx3.put hi8 (v' := v7) (W1 := w7) (L := zB512 :: (D.uns i ++ [b8])) (by rw [HX.out.2.2.2]; exact p2) (by rw [e7, m7]; exact p1) (fun g hg => by rw [HX.out.2.2.2]; exact (p3 g hg).imp id (fun h => by omega)) (by decide) (by decide)
                      rw [← HX.out.2.1] at P1
                      obtain ⟨old, P2⟩ : ∃ old, w7.cell? ⟨gt, i, none⟩ = some old := ⟨_, Q2⟩
                      have f7 := hx3.fr.trans p2 (fun j hj => .inr (hx3.own i hiv j (by rw [HX.out.2.2.2]; exact mem_own.1 hj)).2.1)
                      obtain ⟨A7, c7, rfl, -, -, -, -, -⟩ := p1.shape
                      refine hK.out _ _ (MK.out _ f7).2 (fun hHx => ?_)
                      clear hK hHeld
                      have hHeld := hHx
                      clear hHx
                      try simp only [Act.put, List.setIfInBounds_toArray, List.set_cons_zero, List.set_cons_succ]
                      refine take_w 21 (some 95) (v := ?_) rfl rfl (by kernel_rfl) (by kernel_rfl) (by kernel_rfl) (fun _ _ _ h => h) (by rfl) ?_ hHeld ?_
                      rotate_left
                      · (intro w hSw; (try dsimp only at hSw); go_simp; try with_reducible rfl)
                      simp only [Act.put, List.setIfInBounds_toArray, List.set_cons_zero, List.set_cons_succ]
                      refine take_cd 22 none rfl rfl (by kernel_rfl) (by rfl) (fun K hK => ?_)
                      refine wp_st1 rfl (by kernel_rfl) gt i rfl (.slice A7 (N + 1) c7) rfl rfl rfl P2 P3 ?_
                      refine hK _ _ (MK.out _ P1.frm).2 (fun hHx => ?_)
                      clear hK hHx hHeld
                      refine wpAnyH_done (by kernel_rfl) ?_ _
                      clear P2 P3 Q2 p1 p2 p3 p4 f7 hx3 row ct
                      go_wp2_with fail
                      exact ⟨⟨k + 1, D', by omega, by omega, by go_num, P1, hDw⟩, by simp [intOf]; omega⟩
                    ·
                      go_simp
                      have fI : Fr [] wH (wH.alloc (.cells #[.string S] 9)) := (Fr.refl [] wH).alloc _
                      have RD := row_str wH b8
                      rw [HSV.out] at RD
                      replace hx3 := hx3.nil_fr fI
                      replace row := row.keep_nil fI
                      replace ct := fI.cell (by simp) ct
                      refine hK.out _ _ (MK.out _ hx3.fr).2 (fun hHx => ?_)
                      clear hK hHeld fI
                      have hHeld := hHx
                      clear hHx
                      try simp only [Act.put, List.setIfInBounds_toArray, List.set_cons_zero, List.set_cons_succ]
                      generalize wH.alloc (.cells #[.string S] 9) = wI at *
                      refine take_c 11 rfl (by kernel_rfl) (by rfl) (fun K hK => ?_)
                      go_simp
                      refine hK.out _ _ hHeld (fun hHx => ?_)
                      clear hK hHx
                      try simp only [Act.put, List.setIfInBounds_toArray, List.set_cons_zero, List.set_cons_succ]
                      refine take_c 20 rfl (by kernel_rfl) (by rfl) (fun K hK => ?_)
                      refine wp_app rfl slStr 0 (.slice Ai N ci) N ((zB512 :: D.uns i).map strV) rfl row _ 1 1 [.string S] rfl rfl (by have := RD.rdD.1; rw [show [b8].map strV = [Value.string S] from congrArg (fun v => [v]) HSV.out] at this; exact this) (by intro u hu; simp at hu; subst hu; rfl) (fun h => by cases h) (by omega) (Nat.zero_le _) (fun v7 w7 p1 p2 p3 p4 => ?_)
                      have e7 : (zB512 :: (D.uns i ++ [b8])).length = N + 1 := by rw [← HX.out.1]; simp
                      have m7 : (zB512 :: (D.uns i ++ [b8])).map strV = (zB512 :: D.uns i).map strV ++ [.string S] := by rw [← HSV.out]; simp
                      obtain ⟨P1, Q2, P3⟩ := hx3.put hi8 (v' := v7) (W1 := w7) (L := zB512 :: (D.uns i ++ [b8])) (by rw [HX.out.2.2.2]; exact p2) (by rw [e7, m7]; exact p1) (fun g hg => by rw [HX.out.2.2.2]; exact (p3 g hg).imp id (fun h => by omega)) (by decide) (by decide)
                      rw [← HX.out.2.1] at P1
                      obtain ⟨old, P2⟩ : ∃ old, w7.cell? ⟨gt, i, none⟩ = some old := ⟨_, Q2⟩
                      have f7 := hx3.fr.trans p2 (fun j hj => .inr (hx3.own i hiv j (by rw [HX.out.2.2.2]; exact mem_own.1 hj)).2.1)
                      obtain ⟨A7, c7, rfl, -, -, -, -, -⟩ := p1.shape
                      refine hK.out _ _ (MK.out _ f7).2 (fun hHx => ?_)
                      clear hK hHeld
                      have hHeld := hHx
                      clear hHx
                      try simp only [Act.put, List.setIfInBounds_toArray, List.set_cons_zero, List.set_cons_succ]
                      refine take_w 21 (some 95) (v := ?_) rfl rfl (by kernel_rfl) (by kernel_rfl) (by kernel_rfl) (fun _ _ _ h => h) (by rfl) ?_ hHeld ?_
                      rotate_left
                      · (intro w hSw; (try dsimp only at hSw); go_simp; try with_reducible rfl)
                      simp only [Act.put, List.setIfInBounds_toArray, List.set_cons_zero, List.set_cons_succ]
                      refine take_cd 22 none rfl rfl (by kernel_rfl) (by rfl) (fun K hK => ?_)
                      refine wp_st1 rfl (by kernel_rfl) gt i rfl (.slice A7 (N + 1) c7) rfl rfl rfl P2 P3 ?_
                      refine hK _ _ (MK.out _ P1.frm).2 (fun hHx => ?_)
                      clear hK hHx hHeld
                      refine wpAnyH_done (by kernel_rfl) ?_ _
                      clear P2 P3 Q2 p1 p2 p3 p4 f7 hx3 row ct
                      go_wp2_with fail
                      exact ⟨⟨k + 1, D', by omega, by omega, by go_num, P1, hDw⟩, by simp [intOf]; omega⟩
              · have dE : (E == 0) = false := by simpa using he0
                refine take_w 20 (some 72) (v := ?_) rfl rfl (by kernel_rfl) (by kernel_rfl) (by kernel_rfl) (fun _ _ _ h => h) (by rfl) ?_ hHeld ?_
                rotate_left
                · (intro w hSw; (try dsimp only at hSw); go_simp; try with_reducible rfl)
                simp only [Act.put, List.setIfInBounds_toArray, List.set_cons_zero, List.set_cons_succ]
                refine take_w 21 (some 73) (v := ?_) rfl rfl (by kernel_rfl) (by kernel_rfl) (by kernel_rfl) (fun _ _ _ h => h) (by rfl) ?_ hHeld ?_
                rotate_left
                · (intro w hSw; (try dsimp only at hSw); go_simp; try with_reducible rfl)
                simp only [Act.put, List.setIfInBounds_toArray, List.set_cons_zero, List.set_cons_succ]
                refine wpAnyH_done (by kernel_rfl) ?_ _
                rw [tOf_same (D := D) (x := x) (b := blkOf o.l) (by rw [blkOf_len, hE]; exact he0)] at h3
                go_wp2_with fail
                exact ⟨⟨k + 1, D, by omega, by omega, by go_num, h3, hD.mono (by omega)⟩, by simp [intOf]; omega⟩
            · have dk : (kd == 1) = false := by simpa using hkind
              refine take_w 0 (some 52) (v := ?_) rfl rfl (by kernel_rfl) (by kernel_rfl) (by kernel_rfl) (fun _ _ _ h => h) (by rfl) ?_ hHeld ?_
              rotate_left
              · (intro w hSw; (try dsimp only at hSw); go_simp; try with_reducible rfl)
              simp only [Act.put, List.setIfInBounds_toArray, List.set_cons_zero, List.set_cons_succ]
              refine take_w 1 (some 53) (v := ?_) rfl rfl (by kernel_rfl) (by kernel_rfl) (by kernel_rfl) (fun _ _ _ h => h) (by rfl) ?_ hHeld ?_
              rotate_left
              · (intro w hSw; (try dsimp only at hSw); go_simp; try with_reducible rfl)
              simp only [Act.put, List.setIfInBounds_toArray, List.set_cons_zero, List.set_cons_succ]
              refine take_w 2 (some 54) (v := ?_) rfl rfl (by kernel_rfl) (by kernel_rfl) (by kernel_rfl) (fun _ _ _ h => h) (by rfl) ?_ hHeld ?_
              rotate_left
              · (intro w hSw; (try dsimp only at hSw); go_simp; try with_reducible rfl)
              simp only [Act.put, List.setIfInBounds_toArray, List.set_cons_zero, List.set_cons_succ]
              refine take_w 3 (some 55) (v := ?_) rfl rfl (by kernel_rfl) (by kernel_rfl) (by kernel_rfl) (fun _ _ _ h => h) (by rfl) ?_ hHeld ?_
              rotate_left
              · (intro w hSw; (try dsimp only at hSw); go_simp; try with_reducible rfl)
              simp only [Act.put, List.setIfInBounds_toArray, List.set_cons_zero, List.set_cons_succ]
              refine take_w 4 (some 56) (v := ?_) rfl rfl (by kernel_rfl) (by kernel_rfl) (by kernel_rfl) (fun _ _ _ h => h) (by rfl) ?_ hHeld ?_
              rotate_left
              · (intro w hSw; (try dsimp only at hSw); go_simp; try with_reducible rfl)
              simp only [Act.put, List.setIfInBounds_toArray, List.set_cons_zero, List.set_cons_succ]
              refine take_w 5 (some 57) (v := ?_) rfl rfl (by kernel_rfl) (by kernel_rfl) (by kernel_rfl) (fun _ _ _ h => h) (by rfl) ?_ hHeld ?_
              rotate_left
              · (intro w hSw; (try dsimp only at hSw); go_simp; try with_reducible rfl)
              simp only [Act.put, List.setIfInBounds_toArray, List.set_cons_zero, List.set_cons_succ]
              refine take_w 6 (some 58) (v := ?_) rfl rfl (by kernel_rfl) (by kernel_rfl) (by kernel_rfl) (fun _ _ _ h => h) (by rfl) ?_ hHeld ?_
              rotate_left
              · (intro w hSw; (try dsimp only at hSw); go_simp; try with_reducible rfl)
              simp only [Act.put, List.setIfInBounds_toArray, List.set_cons_zero, List.set_cons_succ]
              refine take_u 7 (some 59) rfl rfl (by kernel_rfl) (by kernel_rfl) (by kernel_rfl) (fun _ _ _ h => h) (by rfl) hHeld ?_
              simp only [Act.put, List.setIfInBounds_toArray, List.set_cons_zero, List.set_cons_succ]
              refine take_u 8 (some 60) rfl rfl (by kernel_rfl) (by kernel_rfl) (by kernel_rfl) (fun _ _ _ h => h) (by rfl) hHeld ?_
              simp only [Act.put, List.setIfInBounds_toArray, List.set_cons_zero, List.set_cons_succ]
              refine take_u 9 (some 61) rfl rfl (by kernel_rfl) (by kernel_rfl) (by kernel_rfl) (fun _ _ _ h => h) (by rfl) hHeld ?_
              simp only [Act.put, List.setIfInBounds_toArray, List.set_cons_zero, List.set_cons_succ]
              refine take_u 10 (some 62) rfl rfl (by kernel_rfl) (by kernel_rfl) (by kernel_rfl) (fun _ _ _ h => h) (by rfl) hHeld ?_
              simp only [Act.put, List.setIfInBounds_toArray, List.set_cons_zero, List.set_cons_succ]
              refine take_u 11 (some 63) rfl rfl (by kernel_rfl) (by kernel_rfl) (by kernel_rfl) (fun _ _ _ h => h) (by rfl) hHeld ?_
              simp only [Act.put, List.setIfInBounds_toArray, List.set_cons_zero, List.set_cons_succ]
              refine take_u 12 (some 64) rfl rfl (by kernel_rfl) (by kernel_rfl) (by kernel_rfl) (fun _ _ _ h => h) (by rfl) hHeld ?_
              simp only [Act.put, List.setIfInBounds_toArray, List.set_cons_zero, List.set_cons_succ]
              refine take_u 13 (some 65) rfl rfl (by kernel_rfl) (by kernel_rfl) (by kernel_rfl) (fun _ _ _ h => h) (by rfl) hHeld ?_
              simp only [Act.put, List.setIfInBounds_toArray, List.set_cons_zero, List.set_cons_succ]
              refine take_u 14 (some 66) rfl rfl (by kernel_rfl) (by kernel_rfl) (by kernel_rfl) (fun _ _ _ h => h) (by rfl) hHeld ?_
              simp only [Act.put, List.setIfInBounds_toArray, List.set_cons_zero, List.set_cons_succ]
              refine take_u 15 (some 67) rfl rfl (by kernel_rfl) (by kernel_rfl) (by kernel_rfl) (fun _ _ _ h => h) (by rfl) hHeld ?_
              simp only [Act.put, List.setIfInBounds_toArray, List.set_cons_zero, List.set_cons_succ]
              refine take_u 16 (some 68) rfl rfl (by kernel_rfl) (by kernel_rfl) (by kernel_rfl) (fun _ _ _ h => h) (by rfl) hHeld ?_
              simp only [Act.put, List.setIfInBounds_toArray, List.set_cons_zero, List.set_cons_succ]
              refine take_u 17 (some 69) rfl rfl (by kernel_rfl) (by kernel_rfl) (by kernel_rfl) (fun _ _ _ h => h) (by rfl) hHeld ?_
              simp only [Act.put, List.setIfInBounds_toArray, List.set_cons_zero, List.set_cons_succ]
              refine take_u 18 (some 70) rfl rfl (by kernel_rfl) (by kernel_rfl) (by kernel_rfl) (fun _ _ _ h => h) (by rfl) hHeld ?_
              simp only [Act.put, List.setIfInBounds_toArray, List.set_cons_zero, List.set_cons_succ]
              refine take_u 19 (some 71) rfl rfl (by kernel_rfl) (by kernel_rfl) (by kernel_rfl) (fun _ _ _ h => h) (by rfl) hHeld ?_
              simp only [Act.put, List.setIfInBounds_toArray, List.set_cons_zero, List.set_cons_succ]
              refine take_u 20 (some 72) rfl rfl (by kernel_rfl) (by kernel_rfl) (by kernel_rfl) (fun _ _ _ h => h) (by rfl) hHeld ?_
              simp only [Act.put, List.setIfInBounds_toArray, List.set_cons_zero, List.set_cons_succ]
              refine take_w 21 (some 73) (v := ?_) rfl rfl (by kernel_rfl) (by kernel_rfl) (by kernel_rfl) (fun _ _ _ h => h) (by rfl) ?_ hHeld ?_
              rotate_left
              · (intro w hSw; (try dsimp only at hSw); go_simp; try with_reducible rfl)
              simp only [Act.put, List.setIfInBounds_toArray, List.set_cons_zero, List.set_cons_succ]
              refine wpAnyH_done (by kernel_rfl) ?_ _
              go_wp2_with fail
              exact ⟨⟨k + 1, D, by omega, by omega, by go_num, h, hD.mono (by omega)⟩, by simp [intOf]; omega⟩
          · have d1 : ¬ ((k : Int) < 200) := by omega
            go_wp2_with fail
            go_meet
            exact ⟨D, hD.mono hk1, h⟩
        · have d0 : ¬ ((k : Int) < n) := by omega
          go_wp2_with fail
          go_meet
          exact ⟨D, hD.mono hk1, h⟩
      case rest =>
        obtain ⟨D, hD, h⟩ := hcut
        cases fl
        · have hF := fin_of hD false D rfl ks
          obtain ⟨D1, hD1⟩ : ∃ D1, D1 = D := ⟨_, rfl⟩
          replace h : FW w wc p D1 gt 30 (tOf D) := by
            rw [hD1]; exact h
          replace hF : (D1.crashE ks = 0 → FinD D (D1.crash ks) false) ∧ (D1.crashE ks ≠ 0 → D1.crash ks = D1 ∧ D1.crashE [] = 0 ∧ FinD D (D1.crash []) false) := by
            rw [hD1]; exact hF
          have cw := h.crash B m d ks (hk.rd.keep_nil h.frm) (by have := hk.reach; omega)
          obtain ⟨E, hE⟩ : ∃ E, D1.crashE ks = E := ⟨_, rfl⟩
          rw [hE] at cw hF
          clear h hE hD1
          go_upto_region 17 with fail
          go_cut [114] from 106 to 114 (fun s wx => s = .bool false ∧ ∃ D2, FinD D D2 false ∧ FW w wx p D2 gt 30 (tOf D))
          case first =>
            have HF := Lib.hid hF
            clear hF
            go_wp2_with fail
            refine cw.mono ?_
            rintro e w8 ⟨rfl, h8⟩
            clear cw
            by_cases he0 : E = 0
            · have hfin := HF.out.1 he0
              have dE : (E != 0) = false := by simpa using he0
              clear HF
              go_wp2_with fail
              go_meet
              exact ⟨rfl, _, hfin, h8⟩
            · obtain ⟨hsame, hn0, hfin⟩ := HF.out.2 he0
              have dE : (E != 0) = true := by simpa using he0
              rw [hsame] at h8
              have cw2 := h8.crash none 0 0 [] (KRd.nil _) (by omega)
              rw [hn0] at cw2
              clear HF h8 hsame hn0
              go_wp2_with fail
              refine cw2.mono ?_
              rintro e w8b ⟨rfl, h8⟩
              clear cw2
              go_wp2_with fail
              go_meet
              exact ⟨rfl, _, hfin, h8⟩
          case rest =>
            obtain ⟨rfl, D2, hfin, h8⟩ := hcut
            clear cw hF
            go_wp2_with fail
            as_aux_lemma =>
              go_loopw [12] (fun i wr => ∃ j : Nat, j ≤ 8 ∧ i = .int .i64 j ∧ FW w wr p D2 gt 30 (tOf D)) (fun i _ => 8 - (intOf i).toNat)
              case atStart => exact ⟨0, by omega, rfl, h8⟩
              case round =>
                clear h8
                obtain ⟨j, hj8, rfl, h⟩ := hrel
                by_cases hjl : j < 8
                · have dj : (j : Int) < 8 := by omega
                  have cr := h.lv.read j
                  rw [hfin.readE hjl, hfin.readR hjl] at cr
                  obtain ⟨R, hR⟩ : ∃ R, D2.sureR j = R := ⟨_, rfl⟩
                  rw [hR] at cr
                  have HF := Lib.hid (And.intro hR (hfin.mem j hjl))
                  have HL := True.intro
                  clear hR
                  go_wp2_with fail
                  refine cr.mono ?_
                  rintro e wB ⟨⟨vB, rfl, rB, fB⟩, -⟩
                  obtain ⟨AB, cB, rfl, -, -, -, -, -⟩ := rB.shape
                  have zB := rB.rdD
                  replace h := h.keep fB
                  clear cr fB
                  go_upto_region 23 with fail
                  obtain ⟨wD, hwD⟩ : ∃ wD, wB.drew = wD := ⟨_, rfl⟩
                  have fD : Fr [] wB wD := by rw [← hwD]; exact (Fr.refl [] wB).drew
                  replace h := h.keep fD
                  have rdB := zB.1.keep_nil fD
                  obtain ⟨O, vs, hx⟩ := h
                  have hiv : j < vs.length := by rw [hx.told.vlen]; exact hjl
                  have hit : j < (tOf D).length := by rw [hx.told.len]; exact hjl
                  have row := hx.told.row j hiv hit
                  have eT : (tOf D)[j]'hit = zB512 :: D.uns j := by simp [tOf]
                  rw [eT] at row
                  obtain ⟨M, hM⟩ : ∃ M, (D.uns j).length = M := ⟨_, rfl⟩
                  rw [show (zB512 :: D.uns j).length = M + 1 by rw [List.length_cons, hM]] at row
                  have ct : wD.cell? ⟨gt, j, none⟩ = some (vs[j]'hiv) := by
                    rw [hx.told.blk.cell j]; simp [hiv]
                  obtain ⟨vi, hvi⟩ : ∃ vi, vs[j]'hiv = vi := ⟨_, rfl⟩
                  rw [hvi] at row ct
                  obtain ⟨gi, ci, rfl⟩ := row.hdD (by omega)
                  have each : ∀ t (ht : t < (zB512 :: D.uns j).length), wD.cell? ⟨gi, t, none⟩ = some (strV ((zB512 :: D.uns j)[t])) := fun t ht => by
                    obtain ⟨g', o', e', hc⟩ := row.rdD.1 (by simp)
                    cases e'
                    have := hc t (strV ((zB512 :: D.uns j)[t])) (by rw [List.getElem?_map, List.getElem?_eq_getElem ht]; rfl)
                    rwa [Nat.zero_add] at this
                  have hMb : M ≤ 200 := by
                    rw [← hM]
                    have := hD.uns j
                    omega
                  have hMl : M < (zB512 :: D.uns j).length := by rw [List.length_cons, hM]; omega
                  obtain ⟨SR, hSR⟩ : ∃ SR : ByteArray, (⟨R.toArray⟩ : ByteArray) = SR := ⟨_, rfl⟩
                  have eR : strV R = .string SR := congrArg Value.string hSR
                  obtain ⟨SL, hSL⟩ : ∃ SL, strV ((zB512 :: D.uns j)[M]) = .string SL := ⟨_, rfl⟩
                  have cL := each M hMl
                  rw [hSL] at cL
                  have cvB : ∀ w', Fr [] wD w' → (convert 31 9 (.slice AB R.length cB)).run Try.prog w' = .ok (.string SR) w' := fun w' f => by
                    rw [← eR]
                    exact conv_str Try.underlying31 Try.underlying5 Try.underlying9 w' _ R _ cB rfl (rdB.keep_nil f) zB.2.2
                  have mkS : ∀ w' : World, Fr [] wD w' → ((convert 31 9 (.slice AB R.length cB)).run Try.prog w' = .ok (.string SR) w' ∧ w'.cell? ⟨gt, j, none⟩ = some (.slice (some ⟨gi, 0, none⟩) (M + 1) ci) ∧ w'.cell? ⟨gi, M, none⟩ = some (.string SL) ∧ Fr [] wD w') := fun w' f =>
                    ⟨cvB w' f, f.cell (by simp) ct, f.cell (by simp) cL, f⟩
                  refine wp_region_held_drew (S := fun w' => (convert 31 9 (.slice AB R.length cB)).run Try.prog w' = .ok (.string SR) w' ∧ w'.cell? ⟨gt, j, none⟩ = some (.slice (some ⟨gi, 0, none⟩) (M + 1) ci) ∧ w'.cell? ⟨gi, M, none⟩ = some (.string SL) ∧ Fr [] wD w') (by kernel_rfl) (by rw [hwD]; exact mkS _ (Fr.refl _ _)) (fun hHeld => ?_)
                  rw [hwD] at hHeld ⊢
                  have hls := True.intro
                  have hmem := HF.out.2
                  rw [HF.out.1] at hmem
                  have MK := Lib.hid mkS
                  have EA := Lib.hid (And.intro each eR)
                  have HM := Lib.hid (And.intro hM hmem)
                  have cs := (FW.lv ⟨O, vs, hx⟩).sure j
                  rw [HF.out.1] at cs
                  clear hwD fD mkS rdB zB rB row ct cL each hSL hSR eR cvB hM hmem hvi eT
                  refine take_w 0 (some 125) (v := ?_) rfl rfl (by kernel_rfl) (by kernel_rfl) (by kernel_rfl) (fun _ _ _ h => h) (by rfl) ?_ hHeld ?_
                  rotate_left
                  · (intro w hSw; (try dsimp only at hSw); go_simp; try with_reducible rfl)
                  simp only [Act.put, List.setIfInBounds_toArray, List.set_cons_zero, List.set_cons_succ]
                  refine take_w 1 (some 126) (v := ?_) rfl rfl (by kernel_rfl) (by kernel_rfl) (by kernel_rfl) (fun _ _ _ h => h) (by rfl) ?_ hHeld ?_
                  rotate_left
                  · (intro w hSw; (try dsimp only at hSw); go_simp; try with_reducible rfl)
                  simp only [Act.put, List.setIfInBounds_toArray, List.set_cons_zero, List.set_cons_succ]
                  refine take_w 2 (some 127) (v := ?_) rfl rfl (by kernel_rfl) (by kernel_rfl) (by kernel_rfl) (fun _ _ _ h => h) (by rfl) ?_ hHeld ?_
                  rotate_left
                  · (intro w hSw; (try dsimp only at hSw); go_simp; try with_reducible rfl)
                  simp only [Act.put, List.setIfInBounds_toArray, List.set_cons_zero, List.set_cons_succ]
                  refine take_w 3 (some 128) (v := ?_) rfl rfl (by kernel_rfl) (by kernel_rfl) (by kernel_rfl) (fun _ _ _ h => h) (by rfl) ?_ hHeld ?_
                  rotate_left
                  · (intro w hSw; (try dsimp only at hSw); go_simp; try with_reducible rfl)
                  simp only [Act.put, List.setIfInBounds_toArray, List.set_cons_zero, List.set_cons_succ]
                  refine take_w 4 (some 129) (v := ?_) rfl rfl (by kernel_rfl) (by kernel_rfl) (by kernel_rfl) (fun _ _ _ h => h) (by rfl) ?_ hHeld ?_
                  rotate_left
                  · (intro w hSw; (try dsimp only at hSw); go_simp; try with_reducible rfl)
                  simp only [Act.put, List.setIfInBounds_toArray, List.set_cons_zero, List.set_cons_succ]
                  refine take_w 5 (some 130) (v := ?_) rfl rfl (by kernel_rfl) (by kernel_rfl) (by kernel_rfl) (fun _ _ _ h => h) (by rfl) ?_ hHeld ?_
                  rotate_left
                  · (intro w hSw; (try dsimp only at hSw); go_simp; try with_reducible rfl)
                  simp only [Act.put, List.setIfInBounds_toArray, List.set_cons_zero, List.set_cons_succ]
                  refine take_w 6 (some 131) (v := ?_) rfl rfl (by kernel_rfl) (by kernel_rfl) (by kernel_rfl) (fun _ _ _ h => h) (by rfl) ?_ hHeld ?_
                  rotate_left
                  · (intro w hSw; (try dsimp only at hSw); go_simp; try with_reducible rfl)
                  simp only [Act.put, List.setIfInBounds_toArray, List.set_cons_zero, List.set_cons_succ]
                  refine take_c 7 rfl (by kernel_rfl) (by rfl) (fun K hK => ?_)
                  go_simp
                  refine cs.mono ?_
                  rintro e wE ⟨⟨vE, rfl, rE, fE⟩, -⟩
                  obtain ⟨AE, cE, rfl, -, -, -, -, -⟩ := rE.shape
                  have cvE : (convert 31 9 (.slice AE R.length cE)).run Try.prog wE = .ok (.string SR) wE := by
                    rw [← EA.out.2]
                    exact conv_str Try.underlying31 Try.underlying5 Try.underlying9 wE _ R _ cE rfl rE.rdD.1 rE.rdD.2.2
                  refine hK.out _ _ (MK.out _ fE) (fun hHx => ?_)
                  clear hK hHeld rE cs
                  try simp only [Act.put, List.setIfInBounds_toArray, List.set_cons_zero, List.set_cons_succ]
                  refine take_c 8 rfl (by kernel_rfl) (by rfl) (fun K hK => ?_)
                  go_simp
                  refine hK.out _ _ (MK.out _ fE) (fun hHeld => ?_)
                  clear hK hHx cvE
                  try simp only [Act.put, List.setIfInBounds_toArray, List.set_cons_zero, List.set_cons_succ]
                  refine take_w 9 (some 134) (v := ?_) rfl rfl (by kernel_rfl) (by kernel_rfl) (by kernel_rfl) (fun _ _ _ h => h) (by rfl) ?_ hHeld ?_
                  rotate_left
                  · (intro w hSw; (try dsimp only at hSw); go_simp; try with_reducible rfl)
                  simp only [Act.put, List.setIfInBounds_toArray, List.set_cons_zero, List.set_cons_succ]
                  refine take_w 10 (some 135) (v := ?_) rfl rfl (by kernel_rfl) (by kernel_rfl) (by kernel_rfl) (fun _ _ _ h => h) (by rfl) ?_ hHeld ?_
                  rotate_left
                  · (intro w hSw; (try dsimp only at hSw); go_simp; try with_reducible rfl)
                  simp only [Act.put, List.setIfInBounds_toArray, List.set_cons_zero, List.set_cons_succ]
                  refine take_w 11 (some 136) (v := ?_) rfl rfl (by kernel_rfl) (by kernel_rfl) (by kernel_rfl) (fun _ _ _ h => h) (by rfl) ?_ hHeld ?_
                  rotate_left
                  · (intro w hSw; (try dsimp only at hSw); go_simp; try with_reducible rfl)
                  simp only [Act.put, List.setIfInBounds_toArray, List.set_cons_zero, List.set_cons_succ]
                  refine take_w 12 (some 137) (v := ?_) rfl rfl (by kernel_rfl) (by kernel_rfl) (by kernel_rfl) (fun _ _ _ h => h) (by rfl) ?_ hHeld ?_
                  rotate_left
                  · (intro w hSw; (try dsimp only at hSw); go_simp; try with_reducible rfl)
                  simp only [Act.put, List.setIfInBounds_toArray, List.set_cons_zero, List.set_cons_succ]
                  refine take_w 13 (some 138) (v := ?_) rfl rfl (by kernel_rfl) (by kernel_rfl) (by kernel_rfl) (fun _ _ _ h => h) (by rfl) ?_ hHeld ?_
                  rotate_left
                  · (intro w hSw; (try dsimp only at hSw); go_simp; try with_reducible rfl)
                  simp only [Act.put, List.setIfInBounds_toArray, List.set_cons_zero, List.set_cons_succ]
                  clear hls HL
                  refine take_u 14 (some 139) rfl rfl (by kernel_rfl) (by kernel_rfl) (by kernel_rfl) (fun _ _ _ h => h) (by rfl) hHeld ?_
                  simp only [Act.put, List.setIfInBounds_toArray, List.set_cons_zero, List.set_cons_succ]
                  refine take_u 15 (some 140) rfl rfl (by kernel_rfl) (by kernel_rfl) (by kernel_rfl) (fun _ _ _ h => h) (by rfl) hHeld ?_
                  simp only [Act.put, List.setIfInBounds_toArray, List.set_cons_zero, List.set_cons_succ]
                  refine take_u 16 (some 141) rfl rfl (by kernel_rfl) (by kernel_rfl) (by kernel_rfl) (fun _ _ _ h => h) (by rfl) hHeld ?_
                  simp only [Act.put, List.setIfInBounds_toArray, List.set_cons_zero, List.set_cons_succ]
                  refine take_u 17 (some 142) rfl rfl (by kernel_rfl) (by kernel_rfl) (by kernel_rfl) (fun _ _ _ h => h) (by rfl) hHeld ?_
                  simp only [Act.put, List.setIfInBounds_toArray, List.set_cons_zero, List.set_cons_succ]
                  refine take_u 18 (some 143) rfl rfl (by kernel_rfl) (by kernel_rfl) (by kernel_rfl) (fun _ _ _ h => h) (by rfl) hHeld ?_
                  simp only [Act.put, List.setIfInBounds_toArray, List.set_cons_zero, List.set_cons_succ]
                  refine take_u 19 (some 144) rfl rfl (by kernel_rfl) (by kernel_rfl) (by kernel_rfl) (fun _ _ _ h => h) (by rfl) hHeld ?_
                  simp only [Act.put, List.setIfInBounds_toArray, List.set_cons_zero, List.set_cons_succ]
                  refine take_u 20 (some 145) rfl rfl (by kernel_rfl) (by kernel_rfl) (by kernel_rfl) (fun _ _ _ h => h) (by rfl) hHeld ?_
                  simp only [Act.put, List.setIfInBounds_toArray, List.set_cons_zero, List.set_cons_succ]
                  refine take_u 21 (some 146) rfl rfl (by kernel_rfl) (by kernel_rfl) (by kernel_rfl) (fun _ _ _ h => h) (by rfl) hHeld ?_
                  simp only [Act.put, List.setIfInBounds_toArray, List.set_cons_zero, List.set_cons_succ]
                  refine take_u 22 (some 147) rfl rfl (by kernel_rfl) (by kernel_rfl) (by kernel_rfl) (fun _ _ _ h => h) (by rfl) hHeld ?_
                  simp only [Act.put, List.setIfInBounds_toArray, List.set_cons_zero, List.set_cons_succ]
                  refine take_u 23 (some 148) rfl rfl (by kernel_rfl) (by kernel_rfl) (by kernel_rfl) (fun _ _ _ h => h) (by rfl) hHeld ?_
                  simp only [Act.put, List.setIfInBounds_toArray, List.set_cons_zero, List.set_cons_succ]
                  refine take_u 24 (some 149) rfl rfl (by kernel_rfl) (by kernel_rfl) (by kernel_rfl) (fun _ _ _ h => h) (by rfl) hHeld ?_
                  simp only [Act.put, List.setIfInBounds_toArray, List.set_cons_zero, List.set_cons_succ]
                  refine take_u 25 (some 150) rfl rfl (by kernel_rfl) (by kernel_rfl) (by kernel_rfl) (fun _ _ _ h => h) (by rfl) hHeld ?_
                  simp only [Act.put, List.setIfInBounds_toArray, List.set_cons_zero, List.set_cons_succ]
                  refine take_u 26 (some 151) rfl rfl (by kernel_rfl) (by kernel_rfl) (by kernel_rfl) (fun _ _ _ h => h) (by rfl) hHeld ?_
                  simp only [Act.put, List.setIfInBounds_toArray, List.set_cons_zero, List.set_cons_succ]
                  refine take_w 27 (some 152) (v := ?_) rfl rfl (by kernel_rfl) (by kernel_rfl) (by kernel_rfl) (fun _ _ _ h => h) (by rfl) ?_ hHeld ?_
                  rotate_left
                  · (intro w hSw; (try dsimp only at hSw); go_simp; try with_reducible rfl)
                  simp only [Act.put, List.setIfInBounds_toArray, List.set_cons_zero, List.set_cons_succ]
                  refine take_w 28 (some 153) (v := ?_) rfl rfl (by kernel_rfl) (by kernel_rfl) (by kernel_rfl) (fun _ _ _ h => h) (by rfl) ?_ hHeld ?_
                  rotate_left
                  · (intro w hSw; (try dsimp only at hSw); go_simp; try with_reducible rfl)
                  simp only [Act.put, List.setIfInBounds_toArray, List.set_cons_zero, List.set_cons_succ]
                  refine wpAnyH_done (by kernel_rfl) ?_ _
                  have ctE := hHeld.2.1
                  have FE := Lib.hid fE
                  clear hHeld fE
                  go_wp2_with fail
                  go_loopw [15, 16] (fun kn i wq => ∃ t : Nat, t ≤ M + 1 ∧ i = .int .i64 t ∧ kn = .bool (decide (R ∈ (zB512 :: D.uns j).take t)) ∧ Fr [] wD wq) (fun _ i _ => M + 1 - (intOf i).toNat)
                  case atStart => exact ⟨0, by omega, rfl, by simp, FE.out⟩
                  case round =>
                    clear ctE
                    obtain ⟨t, htM, rfl, rfl, F⟩ := hrel
                    have ctq := (MK.out _ F).2.1
                    by_cases htl : t < M + 1
                    · have dt : (t : Int) < ((M + 1 : Nat) : Int) := by omega
                      have htl' : t < (zB512 :: D.uns j).length := by rw [List.length_cons, HM.out.1]; exact htl
                      obtain ⟨x, hx0⟩ : ∃ x, (zB512 :: D.uns j)[t] = x := ⟨_, rfl⟩
                      obtain ⟨ST, hST⟩ : ∃ ST, strV x = .string ST := ⟨_, rfl⟩
                      have cT := EA.out.1 t htl'
                      rw [hx0, hST] at cT
                      have hsucc : decide (R ∈ (zB512 :: D.uns j).take (t + 1)) = (decide (R ∈ (zB512 :: D.uns j).take t) || decide (R = x)) := by
                        rw [List.take_succ_eq_append_getElem htl', hx0]
                        simp
                      have hcmp : (ST.toList == SR.toList) = decide (R = x) := by
                        have e1 : ST = ⟨x.toArray⟩ := (Value.string.inj hST).symm
                        have e2 : SR = ⟨R.toArray⟩ := (Value.string.inj EA.out.2).symm
                        rw [ByteArray.toList_eq, ByteArray.toList_eq, e1, e2]
                        show (x == R) = _
                        by_cases e : R = x
                        · rw [e]; simp
                        · have : (x == R) = false := by rw [beq_eq_false_iff_ne]; exact fun h => e h.symm
                          rw [this]; simp [e]
                      obtain ⟨kn, hkn2⟩ : ∃ kn, decide (R ∈ (zB512 :: D.uns j).take t) = kn := ⟨_, rfl⟩
                      obtain ⟨kx, hkx⟩ : ∃ kx, decide (R = x) = kx := ⟨_, rfl⟩
                      rw [hkn2, hkx] at hsucc
                      rw [hkx] at hcmp
                      rw [hkn2]
                      have HSU := Lib.hid hsucc
                      clear hsucc hkn2 hkx hST hx0 htl'
                      go_upto_region 29 with fail
                      obtain ⟨wQ, hwQ⟩ : ∃ wQ, wr.drew = wQ := ⟨_, rfl⟩
                      have fQ : Fr [] wr wQ := by rw [← hwQ]; exact (Fr.refl [] wr).drew
                      replace F := F.trans_nil fQ
                      refine wp_region_held_drew (S := fun w' => (convert 31 9 (.slice AB R.length cB)).run Try.prog w' = .ok (.string SR) w' ∧ w'.cell? ⟨gt, j, none⟩ = some (.slice (some ⟨gi, 0, none⟩) (M + 1) ci) ∧ w'.cell? ⟨gi, t, none⟩ = some (.string ST) ∧ Fr [] wD w') (by kernel_rfl) (by rw [hwQ]; exact ⟨(MK.out _ F).1, (MK.out _ F).2.1, F.cell (by simp) cT, F⟩) (fun hHeld => ?_)
                      rw [hwQ] at hHeld ⊢
                      clear hwQ fQ cT ctq
                      cases kn
                      ·
                        refine take_w 0 (some 162) (v := ?_) rfl rfl (by kernel_rfl) (by kernel_rfl) (by kernel_rfl) (fun _ _ _ h => h) (by rfl) ?_ hHeld ?_
                        rotate_left
                        · (intro w hSw; (try dsimp only at hSw); go_simp; try with_reducible rfl)
                        simp only [Act.put, List.setIfInBounds_toArray, List.set_cons_zero, List.set_cons_succ]
                        refine take_w 1 (some 163) (v := ?_) rfl rfl (by kernel_rfl) (by kernel_rfl) (by kernel_rfl) (fun _ _ _ h => h) (by rfl) ?_ hHeld ?_
                        rotate_left
                        · (intro w hSw; (try dsimp only at hSw); go_simp; try with_reducible rfl)
                        simp only [Act.put, List.setIfInBounds_toArray, List.set_cons_zero, List.set_cons_succ]
                        refine take_w 2 (some 164) (v := ?_) rfl rfl (by kernel_rfl) (by kernel_rfl) (by kernel_rfl) (fun _ _ _ h => h) (by rfl) ?_ hHeld ?_
                        rotate_left
                        · (intro w hSw; (try dsimp only at hSw); go_simp; try with_reducible rfl)
                        simp only [Act.put, List.setIfInBounds_toArray, List.set_cons_zero, List.set_cons_succ]
                        refine take_w 3 (some 165) (v := ?_) rfl rfl (by kernel_rfl) (by kernel_rfl) (by kernel_rfl) (fun _ _ _ h => h) (by rfl) ?_ hHeld ?_
                        rotate_left
                        · (intro w hSw; (try dsimp only at hSw); go_simp; try with_reducible rfl)
                        simp only [Act.put, List.setIfInBounds_toArray, List.set_cons_zero, List.set_cons_succ]
                        refine take_w 4 (some 166) (v := ?_) rfl rfl (by kernel_rfl) (by kernel_rfl) (by kernel_rfl) (fun _ _ _ h => h) (by rfl) ?_ hHeld ?_
                        rotate_left
                        · (intro w hSw; (try dsimp only at hSw); go_simp; try with_reducible rfl)
                        simp only [Act.put, List.setIfInBounds_toArray, List.set_cons_zero, List.set_cons_succ]
                        refine take_w 5 (some 167) (v := ?_) rfl rfl (by kernel_rfl) (by kernel_rfl) (by kernel_rfl) (fun _ _ _ h => h) (by rfl) ?_ hHeld ?_
                        rotate_left
                        · (intro w hSw; (try dsimp only at hSw); go_simp; try with_reducible rfl)
                        simp only [Act.put, List.setIfInBounds_toArray, List.set_cons_zero, List.set_cons_succ]
                        refine take_w 6 (some 168) (v := ?_) rfl rfl (by kernel_rfl) (by kernel_rfl) (by kernel_rfl) (fun _ _ _ h => h) (by rfl) ?_ hHeld ?_
                        rotate_left
                        · (intro w hSw; (try dsimp only at hSw); go_simp; try with_reducible rfl)
                        simp only [Act.put, List.setIfInBounds_toArray, List.set_cons_zero, List.set_cons_succ]
                        refine take_w 7 (some 169) (v := ?_) rfl rfl (by kernel_rfl) (by kernel_rfl) (by kernel_rfl) (fun _ _ _ h => h) (by rfl) ?_ hHeld ?_
                        rotate_left
                        · (intro w hSw; (try dsimp only at hSw); go_simp; try with_reducible rfl)
                        simp only [Act.put, List.setIfInBounds_toArray, List.set_cons_zero, List.set_cons_succ]
                        refine take_w 8 (some 170) (v := ?_) rfl rfl (by kernel_rfl) (by kernel_rfl) (by kernel_rfl) (fun _ _ _ h => h) (by rfl) ?_ hHeld ?_
                        rotate_left
                        · (intro w hSw; (try dsimp only at hSw); go_simp; try with_reducible rfl)
                        simp only [Act.put, List.setIfInBounds_toArray, List.set_cons_zero, List.set_cons_succ]
                        refine take_w 9 (some 171) (v := ?_) rfl rfl (by kernel_rfl) (by kernel_rfl) (by kernel_rfl) (fun _ _ _ h => h) (by rfl) ?_ hHeld ?_
                        rotate_left
                        · (intro w hSw; (try dsimp only at hSw); go_simp; try with_reducible rfl)
                        simp only [Act.put, List.setIfInBounds_toArray, List.set_cons_zero, List.set_cons_succ]
                        refine take_w 10 (some 172) (v := ?_) rfl rfl (by kernel_rfl) (by kernel_rfl) (by kernel_rfl) (fun _ _ _ h => h) (by rfl) ?_ hHeld ?_
                        rotate_left
                        · (intro w hSw; (try dsimp only at hSw); go_simp; try with_reducible rfl)
                        simp only [Act.put, List.setIfInBounds_toArray, List.set_cons_zero, List.set_cons_succ]
                        refine take_w 11 (some 173) (v := ?_) rfl rfl (by kernel_rfl) (by kernel_rfl) (by kernel_rfl) (fun _ _ _ h => h) (by rfl) ?_ hHeld ?_
                        rotate_left
                        · (intro w hSw; (try dsimp only at hSw); go_simp; try with_reducible rfl)
                        simp only [Act.put, List.setIfInBounds_toArray, List.set_cons_zero, List.set_cons_succ]
                        refine take_w 12 (some 15) (v := ?_) rfl rfl (by kernel_rfl) (by kernel_rfl) (by kernel_rfl) (fun _ _ _ h => h) (by rfl) ?_ hHeld ?_
                        rotate_left
                        · (intro w hSw; (try dsimp only at hSw); go_simp; try with_reducible rfl)
                        simp only [Act.put, List.setIfInBounds_toArray, List.set_cons_zero, List.set_cons_succ]
                        refine wpAnyH_done (by kernel_rfl) ?_ _
                        go_wp2_with fail
                        exact ⟨⟨t + 1, by omega, by go_num, by rw [HSU.out]; cases kx <;> rfl, F⟩, by simp [intOf]; omega⟩
                      ·
                        refine take_w 0 (some 162) (v := ?_) rfl rfl (by kernel_rfl) (by kernel_rfl) (by kernel_rfl) (fun _ _ _ h => h) (by rfl) ?_ hHeld ?_
                        rotate_left
                        · (intro w hSw; (try dsimp only at hSw); go_simp; try with_reducible rfl)
                        simp only [Act.put, List.setIfInBounds_toArray, List.set_cons_zero, List.set_cons_succ]
                        refine take_w 1 (some 163) (v := ?_) rfl rfl (by kernel_rfl) (by kernel_rfl) (by kernel_rfl) (fun _ _ _ h => h) (by rfl) ?_ hHeld ?_
                        rotate_left
                        · (intro w hSw; (try dsimp only at hSw); go_simp; try with_reducible rfl)
                        simp only [Act.put, List.setIfInBounds_toArray, List.set_cons_zero, List.set_cons_succ]
                        refine take_u 2 (some 164) rfl rfl (by kernel_rfl) (by kernel_rfl) (by kernel_rfl) (fun _ _ _ h => h) (by rfl) hHeld ?_
                        simp only [Act.put, List.setIfInBounds_toArray, List.set_cons_zero, List.set_cons_succ]
                        refine take_u 3 (some 165) rfl rfl (by kernel_rfl) (by kernel_rfl) (by kernel_rfl) (fun _ _ _ h => h) (by rfl) hHeld ?_
                        simp only [Act.put, List.setIfInBounds_toArray, List.set_cons_zero, List.set_cons_succ]
                        refine take_u 4 (some 166) rfl rfl (by kernel_rfl) (by kernel_rfl) (by kernel_rfl) (fun _ _ _ h => h) (by rfl) hHeld ?_
                        simp only [Act.put, List.setIfInBounds_toArray, List.set_cons_zero, List.set_cons_succ]
                        refine take_u 5 (some 167) rfl rfl (by kernel_rfl) (by kernel_rfl) (by kernel_rfl) (fun _ _ _ h => h) (by rfl) hHeld ?_
                        simp only [Act.put, List.setIfInBounds_toArray, List.set_cons_zero, List.set_cons_succ]
                        refine take_u 6 (some 168) rfl rfl (by kernel_rfl) (by kernel_rfl) (by kernel_rfl) (fun _ _ _ h => h) (by rfl) hHeld ?_
                        simp only [Act.put, List.setIfInBounds_toArray, List.set_cons_zero, List.set_cons_succ]
                        refine take_u 7 (some 169) rfl rfl (by kernel_rfl) (by kernel_rfl) (by kernel_rfl) (fun _ _ _ h => h) (by rfl) hHeld ?_
                        simp only [Act.put, List.setIfInBounds_toArray, List.set_cons_zero, List.set_cons_succ]
                        refine take_u 8 (some 170) rfl rfl (by kernel_rfl) (by kernel_rfl) (by kernel_rfl) (fun _ _ _ h => h) (by rfl) hHeld ?_
                        simp only [Act.put, List.setIfInBounds_toArray, List.set_cons_zero, List.set_cons_succ]
                        refine take_u 9 (some 171) rfl rfl (by kernel_rfl) (by kernel_rfl) (by kernel_rfl) (fun _ _ _ h => h) (by rfl) hHeld ?_
                        simp only [Act.put, List.setIfInBounds_toArray, List.set_cons_zero, List.set_cons_succ]
                        refine take_u 10 (some 172) rfl rfl (by kernel_rfl) (by kernel_rfl) (by kernel_rfl) (fun _ _ _ h => h) (by rfl) hHeld ?_
                        simp only [Act.put, List.setIfInBounds_toArray, List.set_cons_zero, List.set_cons_succ]
                        refine take_w 11 (some 173) (v := ?_) rfl rfl (by kernel_rfl) (by kernel_rfl) (by kernel_rfl) (fun _ _ _ h => h) (by rfl) ?_ hHeld ?_
                        rotate_left
                        · (intro w hSw; (try dsimp only at hSw); go_simp; try with_reducible rfl)
                        simp only [Act.put, List.setIfInBounds_toArray, List.set_cons_zero, List.set_cons_succ]
                        refine take_w 12 (some 15) (v := ?_) rfl rfl (by kernel_rfl) (by kernel_rfl) (by kernel_rfl) (fun _ _ _ h => h) (by rfl) ?_ hHeld ?_
                        rotate_left
                        · (intro w hSw; (try dsimp only at hSw); go_simp; try with_reducible rfl)
                        simp only [Act.put, List.setIfInBounds_toArray, List.set_cons_zero, List.set_cons_succ]
                        refine wpAnyH_done (by kernel_rfl) ?_ _
                        go_wp2_with fail
                        exact ⟨⟨t + 1, by omega, by go_num, by rw [HSU.out]; rfl, F⟩, by simp [intOf]; omega⟩
                    · obtain rfl : t = M + 1 := by omega
                      have HD := Lib.hid (show decide (R ∈ (zB512 :: D.uns j).take (M + 1)) = true by
                        rw [List.take_of_length_le (by rw [List.length_cons, HM.out.1]; omega)]
                        simpa using HM.out.2)
                      rw [HD.out]
                      have dt : ¬ (((M + 1 : Nat) : Int) < ((M + 1 : Nat) : Int)) := by omega
                      go_wp2_with fail
                      exact ⟨⟨j + 1, by omega, by go_num, ⟨O, vs, hx.nil_fr F⟩⟩, by simp [intOf]; omega⟩
                · have dj : ¬ ((j : Int) < 8) := by omega
                  go_wp2_with fail
                  go_ret
                  exact ⟨rfl, h.frm⟩
        · have hF := fin_of hD true D.flOf rfl ks
          go_wp2_with fail
          refine h.flush.mono ?_
          rintro e w6 ⟨rfl, h6⟩
          rw [DkM.flush_eq hD.calls] at h6
          rw [show D.flushE = 0 by rw [DkM.flushE, hD.off]; rfl]
          go_wp2_with fail
          refine h6.lv.unsure.mono ?_
          rw [show D.flOf.unsL = [] from DkM.unsL_nil (fun _ => rfl)]
          rintro e w7 ⟨⟨v7, rfl, r7, f7⟩, -⟩
          obtain ⟨A7, c7, rfl, -, -, -, -, -⟩ := r7.shape
          clear h
          have h := h6.keep f7
          clear h6 r7 f7
          obtain ⟨D1, hD1⟩ : ∃ D1, D.flOf = D1 := ⟨_, rfl⟩
          rw [hD1] at h hF
          have cw := h.crash B m d ks (hk.rd.keep_nil h.frm) (by have := hk.reach; omega)
          obtain ⟨E, hE⟩ : ∃ E, D1.crashE ks = E := ⟨_, rfl⟩
          rw [hE] at cw hF
          clear h hE hD1
          go_upto_region 17 with fail
          go_cut [114] from 106 to 114 (fun s wx => s = .bool false ∧ ∃ D2, FinD D D2 true ∧ FW w wx p D2 gt 30 (tOf D))
          case first =>
            have HF := Lib.hid hF
            clear hF
            go_wp2_with fail
            refine cw.mono ?_
            rintro e w8 ⟨rfl, h8⟩
            clear cw
            by_cases he0 : E = 0
            · have hfin := HF.out.1 he0
              have dE : (E != 0) = false := by simpa using he0
              clear HF
              go_wp2_with fail
              go_meet
              exact ⟨rfl, _, hfin, h8⟩
            · obtain ⟨hsame, hn0, hfin⟩ := HF.out.2 he0
              have dE : (E != 0) = true := by simpa using he0
              rw [hsame] at h8
              have cw2 := h8.crash none 0 0 [] (KRd.nil _) (by omega)
              rw [hn0] at cw2
              clear HF h8 hsame hn0
              go_wp2_with fail
              refine cw2.mono ?_
              rintro e w8b ⟨rfl, h8⟩
              clear cw2
              go_wp2_with fail
              go_meet
              exact ⟨rfl, _, hfin, h8⟩
          case rest =>
            obtain ⟨rfl, D2, hfin, h8⟩ := hcut
            clear cw hF
            go_wp2_with fail
            as_aux_lemma =>
              go_loopw [12] (fun i wr => ∃ j : Nat, j ≤ 8 ∧ i = .int .i64 j ∧ FW w wr p D2 gt 30 (tOf D)) (fun i _ => 8 - (intOf i).toNat)
              case atStart => exact ⟨0, by omega, rfl, h8⟩
              case round =>
                clear h8
                obtain ⟨j, hj8, rfl, h⟩ := hrel
                by_cases hjl : j < 8
                · have dj : (j : Int) < 8 := by omega
                  have cr := h.lv.read j
                  rw [hfin.readE hjl, hfin.readR hjl] at cr
                  obtain ⟨R, hR⟩ : ∃ R, D2.sureR j = R := ⟨_, rfl⟩
                  rw [hR] at cr
                  have HF := Lib.hid (And.intro hR (hfin.mem j hjl))
                  have HL := Lib.hid (hfin.last rfl j hjl)
                  clear hR
                  go_wp2_with fail
                  refine cr.mono ?_
                  rintro e wB ⟨⟨vB, rfl, rB, fB⟩, -⟩
                  obtain ⟨AB, cB, rfl, -, -, -, -, -⟩ := rB.shape
                  have zB := rB.rdD
                  replace h := h.keep fB
                  clear cr fB
                  go_upto_region 23 with fail
                  obtain ⟨wD, hwD⟩ : ∃ wD, wB.drew = wD := ⟨_, rfl⟩
                  have fD : Fr [] wB wD := by rw [← hwD]; exact (Fr.refl [] wB).drew
                  replace h := h.keep fD
                  have rdB := zB.1.keep_nil fD
                  obtain ⟨O, vs, hx⟩ := h
                  have hiv : j < vs.length := by rw [hx.told.vlen]; exact hjl
                  have hit : j < (tOf D).length := by rw [hx.told.len]; exact hjl
                  have row := hx.told.row j hiv hit
                  have eT : (tOf D)[j]'hit = zB512 :: D.uns j := by simp [tOf]
                  rw [eT] at row
                  obtain ⟨M, hM⟩ : ∃ M, (D.uns j).length = M := ⟨_, rfl⟩
                  rw [show (zB512 :: D.uns j).length = M + 1 by rw [List.length_cons, hM]] at row
                  have ct : wD.cell? ⟨gt, j, none⟩ = some (vs[j]'hiv) := by
                    rw [hx.told.blk.cell j]; simp [hiv]
                  obtain ⟨vi, hvi⟩ : ∃ vi, vs[j]'hiv = vi := ⟨_, rfl⟩
                  rw [hvi] at row ct
                  obtain ⟨gi, ci, rfl⟩ := row.hdD (by omega)
                  have each : ∀ t (ht : t < (zB512 :: D.uns j).length), wD.cell? ⟨gi, t, none⟩ = some (strV ((zB512 :: D.uns j)[t])) := fun t ht => by
                    obtain ⟨g', o', e', hc⟩ := row.rdD.1 (by simp)
                    cases e'
                    have := hc t (strV ((zB512 :: D.uns j)[t])) (by rw [List.getElem?_map, List.getElem?_eq_getElem ht]; rfl)
                    rwa [Nat.zero_add] at this
                  have hMb : M ≤ 200 := by
                    rw [← hM]
                    have := hD.uns j
                    omega
                  have hMl : M < (zB512 :: D.uns j).length := by rw [List.length_cons, hM]; omega
                  obtain ⟨SR, hSR⟩ : ∃ SR : ByteArray, (⟨R.toArray⟩ : ByteArray) = SR := ⟨_, rfl⟩
                  have eR : strV R = .string SR := congrArg Value.string hSR
                  obtain ⟨SL, hSL⟩ : ∃ SL, strV ((zB512 :: D.uns j)[M]) = .string SL := ⟨_, rfl⟩
                  have cL := each M hMl
                  rw [hSL] at cL
                  have cvB : ∀ w', Fr [] wD w' → (convert 31 9 (.slice AB R.length cB)).run Try.prog w' = .ok (.string SR) w' := fun w' f => by
                    rw [← eR]
                    exact conv_str Try.underlying31 Try.underlying5 Try.underlying9 w' _ R _ cB rfl (rdB.keep_nil f) zB.2.2
                  have mkS : ∀ w' : World, Fr [] wD w' → ((convert 31 9 (.slice AB R.length cB)).run Try.prog w' = .ok (.string SR) w' ∧ w'.cell? ⟨gt, j, none⟩ = some (.slice (some ⟨gi, 0, none⟩) (M + 1) ci) ∧ w'.cell? ⟨gi, M, none⟩ = some (.string SL) ∧ Fr [] wD w') := fun w' f =>
                    ⟨cvB w' f, f.cell (by simp) ct, f.cell (by simp) cL, f⟩
                  refine wp_region_held_drew (S := fun w' => (convert 31 9 (.slice AB R.length cB)).run Try.prog w' = .ok (.string SR) w' ∧ w'.cell? ⟨gt, j, none⟩ = some (.slice (some ⟨gi, 0, none⟩) (M + 1) ci) ∧ w'.cell? ⟨gi, M, none⟩ = some (.string SL) ∧ Fr [] wD w') (by kernel_rfl) (by rw [hwD]; exact mkS _ (Fr.refl _ _)) (fun hHeld => ?_)
                  rw [hwD] at hHeld ⊢
                  have hls : SR = SL := by
                    have h1 := HL.out
                    rw [HF.out.1, List.getLast?_eq_getElem?, List.length_cons, hM, Nat.add_sub_cancel, List.getElem?_eq_getElem hMl] at h1
                    rw [Option.some.inj h1, eR] at hSL
                    exact Value.string.inj hSL
                  have hmem := HF.out.2
                  rw [HF.out.1] at hmem
                  have MK := Lib.hid mkS
                  have EA := Lib.hid (And.intro each eR)
                  have HM := Lib.hid (And.intro hM hmem)
                  have cs := (FW.lv ⟨O, vs, hx⟩).sure j
                  rw [HF.out.1] at cs
                  clear hwD fD mkS rdB zB rB row ct cL each hSL hSR eR cvB hM hmem hvi eT
                  refine take_w 0 (some 125) (v := ?_) rfl rfl (by kernel_rfl) (by kernel_rfl) (by kernel_rfl) (fun _ _ _ h => h) (by rfl) ?_ hHeld ?_
                  rotate_left
                  · (intro w hSw; (try dsimp only at hSw); go_simp; try with_reducible rfl)
                  simp only [Act.put, List.setIfInBounds_toArray, List.set_cons_zero, List.set_cons_succ]
                  refine take_w 1 (some 126) (v := ?_) rfl rfl (by kernel_rfl) (by kernel_rfl) (by kernel_rfl) (fun _ _ _ h => h) (by rfl) ?_ hHeld ?_
                  rotate_left
                  · (intro w hSw; (try dsimp only at hSw); go_simp; try with_reducible rfl)
                  simp only [Act.put, List.setIfInBounds_toArray, List.set_cons_zero, List.set_cons_succ]
                  refine take_w 2 (some 127) (v := ?_) rfl rfl (by kernel_rfl) (by kernel_rfl) (by kernel_rfl) (fun _ _ _ h => h) (by rfl) ?_ hHeld ?_
                  rotate_left
                  · (intro w hSw; (try dsimp only at hSw); go_simp; try with_reducible rfl)
                  simp only [Act.put, List.setIfInBounds_toArray, List.set_cons_zero, List.set_cons_succ]
                  refine take_w 3 (some 128) (v := ?_) rfl rfl (by kernel_rfl) (by kernel_rfl) (by kernel_rfl) (fun _ _ _ h => h) (by rfl) ?_ hHeld ?_
                  rotate_left
                  · (intro w hSw; (try dsimp only at hSw); go_simp; try with_reducible rfl)
                  simp only [Act.put, List.setIfInBounds_toArray, List.set_cons_zero, List.set_cons_succ]
                  refine take_w 4 (some 129) (v := ?_) rfl rfl (by kernel_rfl) (by kernel_rfl) (by kernel_rfl) (fun _ _ _ h => h) (by rfl) ?_ hHeld ?_
                  rotate_left
                  · (intro w hSw; (try dsimp only at hSw); go_simp; try with_reducible rfl)
                  simp only [Act.put, List.setIfInBounds_toArray, List.set_cons_zero, List.set_cons_succ]
                  refine take_w 5 (some 130) (v := ?_) rfl rfl (by kernel_rfl) (by kernel_rfl) (by kernel_rfl) (fun _ _ _ h => h) (by rfl) ?_ hHeld ?_
                  rotate_left
                  · (intro w hSw; (try dsimp only at hSw); go_simp; try with_reducible rfl)
                  simp only [Act.put, List.setIfInBounds_toArray, List.set_cons_zero, List.set_cons_succ]
                  refine take_w 6 (some 131) (v := ?_) rfl rfl (by kernel_rfl) (by kernel_rfl) (by kernel_rfl) (fun _ _ _ h => h) (by rfl) ?_ hHeld ?_
                  rotate_left
                  · (intro w hSw; (try dsimp only at hSw); go_simp; try with_reducible rfl)
                  simp only [Act.put, List.setIfInBounds_toArray, List.set_cons_zero, List.set_cons_succ]
                  refine take_c 7 rfl (by kernel_rfl) (by rfl) (fun K hK => ?_)
                  go_simp
                  refine cs.mono ?_
                  rintro e wE ⟨⟨vE, rfl, rE, fE⟩, -⟩
                  obtain ⟨AE, cE, rfl, -, -, -, -, -⟩ := rE.shape
                  have cvE : (convert 31 9 (.slice AE R.length cE)).run Try.prog wE = .ok (.string SR) wE := by
                    rw [← EA.out.2]
                    exact conv_str Try.underlying31 Try.underlying5 Try.underlying9 wE _ R _ cE rfl rE.rdD.1 rE.rdD.2.2
                  refine hK.out _ _ (MK.out _ fE) (fun hHx => ?_)
                  clear hK hHeld rE cs
                  try simp only [Act.put, List.setIfInBounds_toArray, List.set_cons_zero, List.set_cons_succ]
                  refine take_c 8 rfl (by kernel_rfl) (by rfl) (fun K hK => ?_)
                  go_simp
                  refine hK.out _ _ (MK.out _ fE) (fun hHeld => ?_)
                  clear hK hHx cvE
                  try simp only [Act.put, List.setIfInBounds_toArray, List.set_cons_zero, List.set_cons_succ]
                  refine take_w 9 (some 134) (v := ?_) rfl rfl (by kernel_rfl) (by kernel_rfl) (by kernel_rfl) (fun _ _ _ h => h) (by rfl) ?_ hHeld ?_
                  rotate_left
                  · (intro w hSw; (try dsimp only at hSw); go_simp; try with_reducible rfl)
                  simp only [Act.put, List.setIfInBounds_toArray, List.set_cons_zero, List.set_cons_succ]
                  refine take_w 10 (some 135) (v := ?_) rfl rfl (by kernel_rfl) (by kernel_rfl) (by kernel_rfl) (fun _ _ _ h => h) (by rfl) ?_ hHeld ?_
                  rotate_left
                  · (intro w hSw; (try dsimp only at hSw); go_simp; try with_reducible rfl)
                  simp only [Act.put, List.setIfInBounds_toArray, List.set_cons_zero, List.set_cons_succ]
                  refine take_w 11 (some 136) (v := ?_) rfl rfl (by kernel_rfl) (by kernel_rfl) (by kernel_rfl) (fun _ _ _ h => h) (by rfl) ?_ hHeld ?_
                  rotate_left
                  · (intro w hSw; (try dsimp only at hSw); go_simp; try with_reducible rfl)
                  simp only [Act.put, List.setIfInBounds_toArray, List.set_cons_zero, List.set_cons_succ]
                  refine take_w 12 (some 137) (v := ?_) rfl rfl (by kernel_rfl) (by kernel_rfl) (by kernel_rfl) (fun _ _ _ h => h) (by rfl) ?_ hHeld ?_
                  rotate_left
                  · (intro w hSw; (try dsimp only at hSw); go_simp; try with_reducible rfl)
                  simp only [Act.put, List.setIfInBounds_toArray, List.set_cons_zero, List.set_cons_succ]
                  refine take_w 13 (some 138) (v := ?_) rfl rfl (by kernel_rfl) (by kernel_rfl) (by kernel_rfl) (fun _ _ _ h => h) (by rfl) ?_ hHeld ?_
                  rotate_left
                  · (intro w hSw; (try dsimp only at hSw); go_simp; try with_reducible rfl)
                  simp only [Act.put, List.setIfInBounds_toArray, List.set_cons_zero, List.set_cons_succ]
                  subst hls
                  have UM : IntKind.i64.wrap (M : Int) = M := IntWalk.i64_in _ (by omega)
                  have KM : (M : Int) < (M : Int) + 1 := by omega
                  refine take_w 14 (some 139) (v := ?_) rfl rfl (by kernel_rfl) (by kernel_rfl) (by kernel_rfl) (fun _ _ _ h => h) (by rfl) ?_ hHeld ?_
                  rotate_left
                  · (intro w hSw; (try dsimp only at hSw); go_simp; try with_reducible rfl)
                  simp only [Act.put, List.setIfInBounds_toArray, List.set_cons_zero, List.set_cons_succ]
                  refine take_w 15 (some 140) (v := ?_) rfl rfl (by kernel_rfl) (by kernel_rfl) (by kernel_rfl) (fun _ _ _ h => h) (by rfl) ?_ hHeld ?_
                  rotate_left
                  · (intro w hSw; (try dsimp only at hSw); go_simp; try with_reducible rfl)
                  simp only [Act.put, List.setIfInBounds_toArray, List.set_cons_zero, List.set_cons_succ]
                  refine take_w 16 (some 141) (v := ?_) rfl rfl (by kernel_rfl) (by kernel_rfl) (by kernel_rfl) (fun _ _ _ h => h) (by rfl) ?_ hHeld ?_
                  rotate_left
                  · (intro w hSw; (try dsimp only at hSw); go_simp; try with_reducible rfl)
                  simp only [Act.put, List.setIfInBounds_toArray, List.set_cons_zero, List.set_cons_succ]
                  refine take_w 17 (some 142) (v := ?_) rfl rfl (by kernel_rfl) (by kernel_rfl) (by kernel_rfl) (fun _ _ _ h => h) (by rfl) ?_ hHeld ?_
                  rotate_left
                  · (intro w hSw; (try dsimp only at hSw); go_simp; try with_reducible rfl)
                  simp only [Act.put, List.setIfInBounds_toArray, List.set_cons_zero, List.set_cons_succ]
                  refine take_w 18 (some 143) (v := ?_) rfl rfl (by kernel_rfl) (by kernel_rfl) (by kernel_rfl) (fun _ _ _ h => h) (by rfl) ?_ hHeld ?_
                  rotate_left
                  · (intro w hSw; (try dsimp only at hSw); go_simp; try with_reducible rfl)
                  simp only [Act.put, List.setIfInBounds_toArray, List.set_cons_zero, List.set_cons_succ]
                  refine take_w 19 (some 144) (v := ?_) rfl rfl (by kernel_rfl) (by kernel_rfl) (by kernel_rfl) (fun _ _ _ h => h) (by rfl) ?_ hHeld ?_
                  rotate_left
                  · (intro w hSw; (try dsimp only at hSw); go_simp; try with_reducible rfl)
                  simp only [Act.put, List.setIfInBounds_toArray, List.set_cons_zero, List.set_cons_succ]
                  refine take_w 20 (some 145) (v := ?_) rfl rfl (by kernel_rfl) (by kernel_rfl) (by kernel_rfl) (fun _ _ _ h => h) (by rfl) ?_ hHeld ?_
                  rotate_left
                  · (intro w hSw; (try dsimp only at hSw); go_simp; try with_reducible rfl)
                  simp only [Act.put, List.setIfInBounds_toArray, List.set_cons_zero, List.set_cons_succ]
                  refine take_w 21 (some 146) (v := ?_) rfl rfl (by kernel_rfl) (by kernel_rfl) (by kernel_rfl) (fun _ _ _ h => h) (by rfl) ?_ hHeld ?_
                  rotate_left
                  · (intro w hSw; (try dsimp only at hSw); go_simp; try with_reducible rfl)
                  simp only [Act.put, List.setIfInBounds_toArray, List.set_cons_zero, List.set_cons_succ]
                  refine take_w 22 (some 147) (v := ?_) rfl rfl (by kernel_rfl) (by kernel_rfl) (by kernel_rfl) (fun _ _ _ h => h) (by rfl) ?_ hHeld ?_
                  rotate_left
                  · (intro w hSw; (try dsimp only at hSw); go_simp; try with_reducible rfl)
                  simp only [Act.put, List.setIfInBounds_toArray, List.set_cons_zero, List.set_cons_succ]
                  refine take_w 23 (some 148) (v := ?_) rfl rfl (by kernel_rfl) (by kernel_rfl) (by kernel_rfl) (fun _ _ _ h => h) (by rfl) ?_ hHeld ?_
                  rotate_left
                  · (intro w hSw; (try dsimp only at hSw); go_simp; try with_reducible rfl)
                  simp only [Act.put, List.setIfInBounds_toArray, List.set_cons_zero, List.set_cons_succ]
                  refine take_w 24 (some 149) (v := ?_) rfl rfl (by kernel_rfl) (by kernel_rfl) (by kernel_rfl) (fun _ _ _ h => h) (by rfl) ?_ hHeld ?_
                  rotate_left
                  · (intro w hSw; (try dsimp only at hSw); go_simp; try with_reducible rfl)
                  simp only [Act.put, List.setIfInBounds_toArray, List.set_cons_zero, List.set_cons_succ]
                  refine take_w 25 (some 150) (v := ?_) rfl rfl (by kernel_rfl) (by kernel_rfl) (by kernel_rfl) (fun _ _ _ h => h) (by rfl) ?_ hHeld ?_
                  rotate_left
                  · (intro w hSw; (try dsimp only at hSw); go_simp; try with_reducible rfl)
                  simp only [Act.put, List.setIfInBounds_toArray, List.set_cons_zero, List.set_cons_succ]
                  refine take_w 26 (some 151) (v := ?_) rfl rfl (by kernel_rfl) (by kernel_rfl) (by kernel_rfl) (fun _ _ _ h => h) (by rfl) ?_ hHeld ?_
                  rotate_left
                  · (intro w hSw; (try dsimp only at hSw); go_simp; try with_reducible rfl)
                  simp only [Act.put, List.setIfInBounds_toArray, List.set_cons_zero, List.set_cons_succ]
                  refine take_w 27 (some 152) (v := ?_) rfl rfl (by kernel_rfl) (by kernel_rfl) (by kernel_rfl) (fun _ _ _ h => h) (by rfl) ?_ hHeld ?_
                  rotate_left
                  · (intro w hSw; (try dsimp only at hSw); go_simp; try with_reducible rfl)
                  simp only [Act.put, List.setIfInBounds_toArray, List.set_cons_zero, List.set_cons_succ]
                  refine take_w 28 (some 153) (v := ?_) rfl rfl (by kernel_rfl) (by kernel_rfl) (by kernel_rfl) (fun _ _ _ h => h) (by rfl) ?_ hHeld ?_
                  rotate_left
                  · (intro w hSw; (try dsimp only at hSw); go_simp; try with_reducible rfl)
                  simp only [Act.put, List.setIfInBounds_toArray, List.set_cons_zero, List.set_cons_succ]
                  refine wpAnyH_done (by kernel_rfl) ?_ _
                  have ctE := hHeld.2.1
                  have FE := Lib.hid fE
                  clear hHeld fE
                  go_wp2_with fail
                  go_loopw [15, 16] (fun kn i wq => ∃ t : Nat, t ≤ M + 1 ∧ i = .int .i64 t ∧ kn = .bool (decide (R ∈ (zB512 :: D.uns j).take t)) ∧ Fr [] wD wq) (fun _ i _ => M + 1 - (intOf i).toNat)
                  case atStart => exact ⟨0, by omega, rfl, by simp, FE.out⟩
                  case round =>
                    clear ctE
                    obtain ⟨t, htM, rfl, rfl, F⟩ := hrel
                    have ctq := (MK.out _ F).2.1
                    by_cases htl : t < M + 1
                    · have dt : (t : Int) < ((M + 1 : Nat) : Int) := by omega
                      have htl' : t < (zB512 :: D.uns j).length := by rw [List.length_cons, HM.out.1]; exact htl
                      obtain ⟨x, hx0⟩ : ∃ x, (zB512 :: D.uns j)[t] = x := ⟨_, rfl⟩
                      obtain ⟨ST, hST⟩ : ∃ ST, strV x = .string ST := ⟨_, rfl⟩
                      have cT := EA.out.1 t htl'
                      rw [hx0, hST] at cT
                      have hsucc : decide (R ∈ (zB512 :: D.uns j).take (t + 1)) = (decide (R ∈ (zB512 :: D.uns j).take t) || decide (R = x)) := by
                        rw [List.take_succ_eq_append_getElem htl', hx0]
                        simp
                      have hcmp : (ST.toList == SR.toList) = decide (R = x) := by
                        have e1 : ST = ⟨x.toArray⟩ := (Value.string.inj hST).symm
                        have e2 : SR = ⟨R.toArray⟩ := (Value.string.inj EA.out.2).symm
                        rw [ByteArray.toList_eq, ByteArray.toList_eq, e1, e2]
                        show (x == R) = _
                        by_cases e : R = x
                        · rw [e]; simp
                        · have : (x == R) = false := by rw [beq_eq_false_iff_ne]; exact fun h => e h.symm
                          rw [this]; simp [e]
                      obtain ⟨kn, hkn2⟩ : ∃ kn, decide (R ∈ (zB512 :: D.uns j).take t) = kn := ⟨_, rfl⟩
                      obtain ⟨kx, hkx⟩ : ∃ kx, decide (R = x) = kx := ⟨_, rfl⟩
                      rw [hkn2, hkx] at hsucc
                      rw [hkx] at hcmp
                      rw [hkn2]
                      have HSU := Lib.hid hsucc
                      clear hsucc hkn2 hkx hST hx0 htl'
                      go_upto_region 29 with fail
                      obtain ⟨wQ, hwQ⟩ : ∃ wQ, wr.drew = wQ := ⟨_, rfl⟩
                      have fQ : Fr [] wr wQ := by rw [← hwQ]; exact (Fr.refl [] wr).drew
                      replace F := F.trans_nil fQ
                      refine wp_region_held_drew (S := fun w' => (convert 31 9 (.slice AB R.length cB)).run Try.prog w' = .ok (.string SR) w' ∧ w'.cell? ⟨gt, j, none⟩ = some (.slice (some ⟨gi, 0, none⟩) (M + 1) ci) ∧ w'.cell? ⟨gi, t, none⟩ = some (.string ST) ∧ Fr [] wD w') (by kernel_rfl) (by rw [hwQ]; exact ⟨(MK.out _ F).1, (MK.out _ F).2.1, F.cell (by simp) cT, F⟩) (fun hHeld => ?_)
                      rw [hwQ] at hHeld ⊢
                      clear hwQ fQ cT ctq
                      cases kn
                      ·
                        refine take_w 0 (some 162) (v := ?_) rfl rfl (by kernel_rfl) (by kernel_rfl) (by kernel_rfl) (fun _ _ _ h => h) (by rfl) ?_ hHeld ?_
                        rotate_left
                        · (intro w hSw; (try dsimp only at hSw); go_simp; try with_reducible rfl)
                        simp only [Act.put, List.setIfInBounds_toArray, List.set_cons_zero, List.set_cons_succ]
                        refine take_w 1 (some 163) (v := ?_) rfl rfl (by kernel_rfl) (by kernel_rfl) (by kernel_rfl) (fun _ _ _ h => h) (by rfl) ?_ hHeld ?_
                        rotate_left
                        · (intro w hSw; (try dsimp only at hSw); go_simp; try with_reducible rfl)
                        simp only [Act.put, List.setIfInBounds_toArray, List.set_cons_zero, List.set_cons_succ]
                        refine take_w 2 (some 164) (v := ?_) rfl rfl (by kernel_rfl) (by kernel_rfl) (by kernel_rfl) (fun _ _ _ h => h) (by rfl) ?_ hHeld ?_
                        rotate_left
                        · (intro w hSw; (try dsimp only at hSw); go_simp; try with_reducible rfl)
                        simp only [Act.put, List.setIfInBounds_toArray, List.set_cons_zero, List.set_cons_succ]
                        refine take_w 3 (some 165) (v := ?_) rfl rfl (by kernel_rfl) (by kernel_rfl) (by kernel_rfl) (fun _ _ _ h => h) (by rfl) ?_ hHeld ?_
                        rotate_left
                        · (intro w hSw; (try dsimp only at hSw); go_simp; try with_reducible rfl)
                        simp only [Act.put, List.setIfInBounds_toArray, List.set_cons_zero, List.set_cons_succ]
                        refine take_w 4 (some 166) (v := ?_) rfl rfl (by kernel_rfl) (by kernel_rfl) (by kernel_rfl) (fun _ _ _ h => h) (by rfl) ?_ hHeld ?_
                        rotate_left
                        · (intro w hSw; (try dsimp only at hSw); go_simp; try with_reducible rfl)
                        simp only [Act.put, List.setIfInBounds_toArray, List.set_cons_zero, List.set_cons_succ]
                        refine take_w 5 (some 167) (v := ?_) rfl rfl (by kernel_rfl) (by kernel_rfl) (by kernel_rfl) (fun _ _ _ h => h) (by rfl) ?_ hHeld ?_
                        rotate_left
                        · (intro w hSw; (try dsimp only at hSw); go_simp; try with_reducible rfl)
                        simp only [Act.put, List.setIfInBounds_toArray, List.set_cons_zero, List.set_cons_succ]
                        refine take_w 6 (some 168) (v := ?_) rfl rfl (by kernel_rfl) (by kernel_rfl) (by kernel_rfl) (fun _ _ _ h => h) (by rfl) ?_ hHeld ?_
                        rotate_left
                        · (intro w hSw; (try dsimp only at hSw); go_simp; try with_reducible rfl)
                        simp only [Act.put, List.setIfInBounds_toArray, List.set_cons_zero, List.set_cons_succ]
                        refine take_w 7 (some 169) (v := ?_) rfl rfl (by kernel_rfl) (by kernel_rfl) (by kernel_rfl) (fun _ _ _ h => h) (by rfl) ?_ hHeld ?_
                        rotate_left
                        · (intro w hSw; (try dsimp only at hSw); go_simp; try with_reducible rfl)
                        simp only [Act.put, List.setIfInBounds_toArray, List.set_cons_zero, List.set_cons_succ]
                        refine take_w 8 (some 170) (v := ?_) rfl rfl (by kernel_rfl) (by kernel_rfl) (by kernel_rfl) (fun _ _ _ h => h) (by rfl) ?_ hHeld ?_
                        rotate_left
                        · (intro w hSw; (try dsimp only at hSw); go_simp; try with_reducible rfl)
                        simp only [Act.put, List.setIfInBounds_toArray, List.set_cons_zero, List.set_cons_succ]
                        refine take_w 9 (some 171) (v := ?_) rfl rfl (by kernel_rfl) (by kernel_rfl) (by kernel_rfl) (fun _ _ _ h => h) (by rfl) ?_ hHeld ?_
                        rotate_left
                        · (intro w hSw; (try dsimp only at hSw); go_simp; try with_reducible rfl)
                        simp only [Act.put, List.setIfInBounds_toArray, List.set_cons_zero, List.set_cons_succ]
                        refine take_w 10 (some 172) (v := ?_) rfl rfl (by kernel_rfl) (by kernel_rfl) (by kernel_rfl) (fun _ _ _ h => h) (by rfl) ?_ hHeld ?_
                        rotate_left
                        · (intro w hSw; (try dsimp only at hSw); go_simp; try with_reducible rfl)
                        simp only [Act.put, List.setIfInBounds_toArray, List.set_cons_zero, List.set_cons_succ]
                        refine take_w 11 (some 173) (v := ?_) rfl rfl (by kernel_rfl) (by kernel_rfl) (by kernel_rfl) (fun _ _ _ h => h) (by rfl) ?_ hHeld ?_
                        rotate_left
                        · (intro w hSw; (try dsimp only at hSw); go_simp; try with_reducible rfl)
                        simp only [Act.put, List.setIfInBounds_toArray, List.set_cons_zero, List.set_cons_succ]
                        refine take_w 12 (some 15) (v := ?_) rfl rfl (by kernel_rfl) (by kernel_rfl) (by kernel_rfl) (fun _ _ _ h => h) (by rfl) ?_ hHeld ?_
                        rotate_left
                        · (intro w hSw; (try dsimp only at hSw); go_simp; try with_reducible rfl)
                        simp only [Act.put, List.setIfInBounds_toArray, List.set_cons_zero, List.set_cons_succ]
                        refine wpAnyH_done (by kernel_rfl) ?_ _
                        go_wp2_with fail
                        exact ⟨⟨t + 1, by omega, by go_num, by rw [HSU.out]; cases kx <;> rfl, F⟩, by simp [intOf]; omega⟩
                      ·
                        refine take_w 0 (some 162) (v := ?_) rfl rfl (by kernel_rfl) (by kernel_rfl) (by kernel_rfl) (fun _ _ _ h => h) (by rfl) ?_ hHeld ?_
                        rotate_left
                        · (intro w hSw; (try dsimp only at hSw); go_simp; try with_reducible rfl)
                        simp only [Act.put, List.setIfInBounds_toArray, List.set_cons_zero, List.set_cons_succ]
                        refine take_w 1 (some 163) (v := ?_) rfl rfl (by kernel_rfl) (by kernel_rfl) (by kernel_rfl) (fun _ _ _ h => h) (by rfl) ?_ hHeld ?_
                        rotate_left
                        · (intro w hSw; (try dsimp only at hSw); go_simp; try with_reducible rfl)
                        simp only [Act.put, List.setIfInBounds_toArray, List.set_cons_zero, List.set_cons_succ]
                        refine take_u 2 (some 164) rfl rfl (by kernel_rfl) (by kernel_rfl) (by kernel_rfl) (fun _ _ _ h => h) (by rfl) hHeld ?_
                        simp only [Act.put, List.setIfInBounds_toArray, List.set_cons_zero, List.set_cons_succ]
                        refine take_u 3 (some 165) rfl rfl (by kernel_rfl) (by kernel_rfl) (by kernel_rfl) (fun _ _ _ h => h) (by rfl) hHeld ?_
                        simp only [Act.put, List.setIfInBounds_toArray, List.set_cons_zero, List.set_cons_succ]
                        refine take_u 4 (some 166) rfl rfl (by kernel_rfl) (by kernel_rfl) (by kernel_rfl) (fun _ _ _ h => h) (by rfl) hHeld ?_
                        simp only [Act.put, List.setIfInBounds_toArray, List.set_cons_zero, List.set_cons_succ]
                        refine take_u 5 (some 167) rfl rfl (by kernel_rfl) (by kernel_rfl) (by kernel_rfl) (fun _ _ _ h => h) (by rfl) hHeld ?_
                        simp only [Act.put, List.setIfInBounds_toArray, List.set_cons_zero, List.set_cons_succ]
                        refine take_u 6 (some 168) rfl rfl (by kernel_rfl) (by kernel_rfl) (by kernel_rfl) (fun _ _ _ h => h) (by rfl) hHeld ?_
                        simp only [Act.put, List.setIfInBounds_toArray, List.set_cons_zero, List.set_cons_succ]
                        refine take_u 7 (some 169) rfl rfl (by kernel_rfl) (by kernel_rfl) (by kernel_rfl) (fun _ _ _ h => h) (by rfl) hHeld ?_
                        simp only [Act.put, List.setIfInBounds_toArray, List.set_cons_zero, List.set_cons_succ]
                        refine take_u 8 (some 170) rfl rfl (by kernel_rfl) (by kernel_rfl) (by kernel_rfl) (fun _ _ _ h => h) (by rfl) hHeld ?_
                        simp only [Act.put, List.setIfInBounds_toArray, List.set_cons_zero, List.set_cons_succ]
                        refine take_u 9 (some 171) rfl rfl (by kernel_rfl) (by kernel_rfl) (by kernel_rfl) (fun _ _ _ h => h) (by rfl) hHeld ?_
                        simp only [Act.put, List.setIfInBounds_toArray, List.set_cons_zero, List.set_cons_succ]
                        refine take_u 10 (some 172) rfl rfl (by kernel_rfl) (by kernel_rfl) (by kernel_rfl) (fun _ _ _ h => h) (by rfl) hHeld ?_
                        simp only [Act.put, List.setIfInBounds_toArray, List.set_cons_zero, List.set_cons_succ]
                        refine take_w 11 (some 173) (v := ?_) rfl rfl (by kernel_rfl) (by kernel_rfl) (by kernel_rfl) (fun _ _ _ h => h) (by rfl) ?_ hHeld ?_
                        rotate_left
                        · (intro w hSw; (try dsimp only at hSw); go_simp; try with_reducible rfl)
                        simp only [Act.put, List.setIfInBounds_toArray, List.set_cons_zero, List.set_cons_succ]
                        refine take_w 12 (some 15) (v := ?_) rfl rfl (by kernel_rfl) (by kernel_rfl) (by kernel_rfl) (fun _ _ _ h => h) (by rfl) ?_ hHeld ?_
                        rotate_left
                        · (intro w hSw; (try dsimp only at hSw); go_simp; try with_reducible rfl)
                        simp only [Act.put, List.setIfInBounds_toArray, List.set_cons_zero, List.set_cons_succ]
                        refine wpAnyH_done (by kernel_rfl) ?_ _
                        go_wp2_with fail
                        exact ⟨⟨t + 1, by omega, by go_num, by rw [HSU.out]; rfl, F⟩, by simp [intOf]; omega⟩
                    · obtain rfl : t = M + 1 := by omega
                      have HD := Lib.hid (show decide (R ∈ (zB512 :: D.uns j).take (M + 1)) = true by
                        rw [List.take_of_length_le (by rw [List.length_cons, HM.out.1]; omega)]
                        simpa using HM.out.2)
                      rw [HD.out]
                      have dt : ¬ (((M + 1 : Nat) : Int) < ((M + 1 : Nat) : Int)) := by omega
                      go_wp2_with fail
                      exact ⟨⟨j + 1, by omega, by go_num, ⟨O, vs, hx.nil_fr F⟩⟩, by simp [intOf]; omega⟩
                · have dj : ¬ ((j : Int) < 8) := by omega
                  go_wp2_with fail
                  go_ret
                  exact ⟨rfl, h.frm⟩
end Go.Proofs.Ytdhhnioklbnicaa
