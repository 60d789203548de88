/-
  SHA-256: the state behind a piece.
-/
import Derived.Test.YtlelgeigighecaaDoorShaC
set_option linter.unusedSimpArgs false
set_option linter.unusedVariables false
set_option linter.unnecessarySimpa false
namespace Go.Proofs.YtlelgeigighecaaDoor
open Go.RowKit

/-- The constants lie where the program lays them. -/
def KG (w : World) : Prop := w.rangeAt 0 0 (wvs kC)
theorem KG.keep {w w' : World} (h : KG w) (hf : Fr [] w w') : KG w' := rangeAt_keep h hf (by simp)

theorem w8_cells {w : World} {g : Nat} {s : S8} (hb : Blk w g 103 (wvs s.list).toArray) : w.cell? ⟨g, 0, none⟩ = some (.int .u32 (uw s.a)) ∧ w.cell? ⟨g, 1, none⟩ = some (.int .u32 (uw s.b)) ∧ w.cell? ⟨g, 2, none⟩ = some (.int .u32 (uw s.c)) ∧ w.cell? ⟨g, 3, none⟩ = some (.int .u32 (uw s.d)) ∧ w.cell? ⟨g, 4, none⟩ = some (.int .u32 (uw s.e)) ∧ w.cell? ⟨g, 5, none⟩ = some (.int .u32 (uw s.f)) ∧ w.cell? ⟨g, 6, none⟩ = some (.int .u32 (uw s.g)) ∧ w.cell? ⟨g, 7, none⟩ = some (.int .u32 (uw s.h)) :=
  ⟨blkW_at hb rfl, blkW_at hb rfl, blkW_at hb rfl, blkW_at hb rfl, blkW_at hb rfl, blkW_at hb rfl, blkW_at hb rfl, blkW_at hb rfl⟩
set_option maxRecDepth 100000 in
theorem bld8 (w : World) (t : S8) : (Instr.build 103 #[(0, .int .u32 (uw t.a)), (1, .int .u32 (uw t.b)), (2, .int .u32 (uw t.c)), (3, .int .u32 (uw t.d)), (4, .int .u32 (uw t.e)), (5, .int .u32 (uw t.f)), (6, .int .u32 (uw t.g)), (7, .int .u32 (uw t.h))]).run Tryd.prog w = .ok (.agg (wvs t.list).toArray) w := by kernel_rfl
theorem S8.list_len (s : S8) : s.list.length = 8 := rfl
theorem S8.add_at (s t : S8) (k : Nat) (h : k < 8) : (s.add t).list.getD k 0 = s.list.getD k 0 + t.list.getD k 0 := by
  match k, h with
  | 0, _ | 1, _ | 2, _ | 3, _ | 4, _ | 5, _ | 6, _ | 7, _ => rfl
/-- The first k words new, the others as they were. -/
def mixL (s t : S8) (k : Nat) : List UInt32 := (s.add t).list.take k ++ s.list.drop k
theorem mixL_len (s t : S8) (k : Nat) (h : k ≤ 8) : (mixL s t k).length = 8 := by
  rw [mixL, List.length_append, List.length_take, List.length_drop, S8.list_len, S8.list_len]; omega
theorem mixL_at (s t : S8) (k : Nat) (h : k < 8) : (mixL s t k)[k]? = some (s.list.getD k 0) := by
  have l1 : ((s.add t).list.take k).length = k := by rw [List.length_take, S8.list_len]; omega
  have hk : k < s.list.length := h
  rw [mixL, List.getElem?_append_right (by omega), l1, Nat.sub_self, List.getElem?_drop, Nat.add_zero, List.getElem?_eq_getElem hk]
  simp [hk]
theorem mixL_set (s t : S8) (k : Nat) (h : k < 8) : (mixL s t k).set k (s.list.getD k 0 + t.list.getD k 0) = mixL s t (k + 1) := by
  match k, h with
  | 0, _ | 1, _ | 2, _ | 3, _ | 4, _ | 5, _ | 6, _ | 7, _ => rfl
set_option maxRecDepth 100000 in
set_option maxHeartbeats 4000000 in
theorem block_W (w : World) (s : S8) (p : List UInt8) (hp : p.length = 64) (kc W : List UInt32) (hkl : kc.length = 64) (hWl : W.length = 64) (hK0 : w.rangeAt 0 0 (wvs kc))
    (hw : ∀ w, Calls Tryd.prog 104 #[.agg (bvs p).toArray] w fun e w' => e = .returned (.agg (wvs W).toArray) ∧ Fr [] w w') :
    Calls Tryd.prog 97 #[.agg (wvs s.list).toArray, .agg (bvs p).toArray] w fun e w' => e = .returned (.agg (wvs (s.add (s.run kc W 64)).list).toArray) ∧ Fr [] w w' := by
  have HP := Lib.hid hp
  have HKL := Lib.hid hkl
  have HWL := Lib.hid hWl
  have HWC := Lib.hid hw
  clear hp hkl hWl hw
  go_enter Tryd.func97, Tryd.ntmps97
  go_wp2_with
    (first
      | (refine wpList_boxS (o := ⟨some 2, _, _, _, _, _⟩) rfl rfl (wvs s.list) rfl ?_; intro w2 h2 f2 z2; have Z2 := Lib.hid z2; clear z2; obtain ⟨g2, hg2⟩ : ∃ g2, w.heap.size = g2 := ⟨_, rfl⟩; rw [hg2] at h2; rw [hg2]; have HG2 := Lib.hid hg2; clear hg2)
      | (refine wpList_boxS (o := ⟨some 3, _, _, _, _, _⟩) rfl rfl (bvs p) rfl ?_; intro w3 h3 f3 z3; have Z3 := Lib.hid z3; clear z3; obtain ⟨g3, hg3⟩ : ∃ g3, w2.heap.size = g3 := ⟨_, rfl⟩; rw [hg3] at h3; rw [hg3]; have HG3 := Lib.hid hg3; clear hg3)
      | (refine wpList_alS stW8 (o := ⟨some 4, _, _, _, _, _⟩) rfl rfl ?_; intro w4 h4 f4 z4; have Z4 := Lib.hid z4; clear z4; obtain ⟨g4, hg4⟩ : ∃ g4, w3.heap.size = g4 := ⟨_, rfl⟩; rw [hg4] at h4; rw [hg4]; have HG4 := Lib.hid hg4; clear hg4; have i3 := h3.keep_nil f4)
      | (refine wpList_ldS stA64 rfl rfl g3 0 rfl (bvs p) (by rw [bvs_length, HP.out]) i3.range0 ?_))
  have G2 : w.heap.size = g2 := HG2.out
  have G23 : g2 < g3 := by have := HG3.out; have := h2.lt; omega
  have G34 : g3 < g4 := by have := HG4.out; have := h3.lt; omega
  have F4 := (f2.trans_nil f3).trans_nil f4
  have i2 := (h2.keep_nil f3).keep_nil f4
  clear h2 h3 f2 f3 f4
  refine (HWC.out w4).mono ?_
  rintro e w5 ⟨rfl, f5⟩
  have i2 := i2.keep_nil f5
  have i4 := h4.keep_nil f5
  have F5 := F4.trans_nil f5
  have l4 := i4.lt
  clear h4 f5 F4 i3
  go_wp2_with
    (first
      | (refine wpList_alS stW64 rfl rfl ?_; intro w6 h6 f6 z6; have Z6 := Lib.hid z6; clear z6; obtain ⟨g5, hg5⟩ : ∃ g5, w5.heap.size = g5 := ⟨_, rfl⟩; rw [hg5] at h6; rw [hg5]; have HG5 := Lib.hid hg5; clear hg5)
      | (refine wpList_stB stW64 rfl rfl g5 rfl (wvs W) rfl (by rw [wvs_length, HWL.out]) (wvs_one _) (wvs (zW 64)) rfl h6 ?_; intro w7 h7 f7 z7; have Z7 := Lib.hid z7; clear z7))
  have G45 : g4 < g5 := by have := HG5.out; omega
  have FF : Fr [] w5 w7 := f6.trans f7 (fun i hi => .inr (by have := HG5.out; simp at hi; omega))
  have i2 := i2.keep_nil FF
  have i4 := i4.keep_nil FF
  have F7 := F5.trans_nil FF
  clear h6 f6 f7 FF F5 l4
  obtain ⟨c0, c1, c2, c3, c4, c5, c6, c7⟩ := w8_cells i2
  go_quiet (fail)
  have hkg := rangeAt_keep hK0 (F7.trans_nil ((Fr.refl [] w7).drewN nq)) (by simp)
  go_wp2_with
    (first
      | (refine wpList_ldS stW64 rfl rfl 0 0 rfl (wvs kc) (by rw [wvs_length, HKL.out]) hkg ?_))
  have F8 := F7.trans_nil ((Fr.refl [] w7).drewN nq)
  have i2 := i2.keep_nil ((Fr.refl [] w7).drewN nq)
  have i4 := i4.keep_nil ((Fr.refl [] w7).drewN nq)
  have i5 := h7.keep_nil ((Fr.refl [] w7).drewN nq)
  clear c0 c1 c2 c3 c4 c5 c6 c7 F7 h7
  generalize World.drewN w7 nq = w8 at *
  have E1 := uw_add
  have E2 := uw_xor
  have E3 := uw_and
  have E4 := uw_or
  go_loopw [6, 7, 8, 9, 10, 11, 12, 13, 39] (fun sa sb sc sd se sf sg sh i wr => ∃ k : Nat, k ≤ 64 ∧ i = .int .i64 k ∧ sa = .int .u32 (uw (s.run kc W k).a) ∧ sb = .int .u32 (uw (s.run kc W k).b) ∧ sc = .int .u32 (uw (s.run kc W k).c) ∧ sd = .int .u32 (uw (s.run kc W k).d) ∧ se = .int .u32 (uw (s.run kc W k).e) ∧ sf = .int .u32 (uw (s.run kc W k).f) ∧ sg = .int .u32 (uw (s.run kc W k).g) ∧ sh = .int .u32 (uw (s.run kc W k).h) ∧ Fr [] w8 wr) (fun _ _ _ _ _ _ _ _ i _ => 64 - (intOf i).toNat)
  case atStart => exact ⟨0, Nat.zero_le _, rfl, rfl, rfl, rfl, rfl, rfl, rfl, rfl, rfl, Fr.refl _ _⟩
  case round =>
    obtain ⟨k, hk, rfl, rfl, rfl, rfl, rfl, rfl, rfl, rfl, rfl, f9⟩ := hrel
    have HR := Lib.hid (show s.run kc W (k + 1) = (s.run kc W k).step (kc.getD k 0) (W.getD k 0) from rfl)
    by_cases hlt : k < 64
    · obtain ⟨t, ht⟩ : ∃ t, s.run kc W k = t := ⟨_, rfl⟩
      rw [ht]
      rw [ht] at HR
      clear ht
      have c5 := blkW_at (i5.keep_nil f9) (i := k) (x := W.getD k 0) (by rw [List.getElem?_eq_getElem (by rw [HWL.out]; exact hlt)]; simp [HWL.out, hlt])
      have ck : (wvs kc).toArray[k]? = some (.int .u32 (uw (kc.getD k 0))) := by
        have : k < kc.length := by rw [HKL.out]; exact hlt
        rw [List.getElem?_toArray, wvs_at this]; simp [this]
      generalize W.getD k 0 = ww at *
      generalize kc.getD k 0 = kk at *
      have CK := Lib.hid ck
      clear ck
      go_wp2_with
        (first
          | (refine wpList_ix1 (o := ⟨some 42, _, _, _, _, _⟩) Tryd.underlying119 Tryd.underlying102 rfl (by kernel_rfl) rfl rfl (wvs kc).toArray rfl .i64 k rfl hlt _ CK.out ?_))
      try simp only [Act.put, List.setIfInBounds_toArray, List.set_cons_zero, List.set_cons_succ]
      refine wp_region_held_drew (S := fun w' => w'.cell? ⟨g5, k, none⟩ = some (.int .u32 (uw ww))) (by kernel_rfl) c5 (fun hHeld => ?_)
      refine take_w 0 (some 43) (v := ?_) rfl rfl (by kernel_rfl) (by kernel_rfl) (by kernel_rfl) (fun _ _ _ h => h) (by rfl) ?_ hHeld ?_
      rotate_left
      · (intro w hSw; (try dsimp only at hSw); go_simp; try with_reducible rfl)
      simp only [Act.put, List.setIfInBounds_toArray, List.set_cons_zero, List.set_cons_succ]
      refine take_w 1 (some 44) (v := ?_) rfl rfl (by kernel_rfl) (by kernel_rfl) (by kernel_rfl) (fun _ _ _ h => h) (by rfl) ?_ hHeld ?_
      rotate_left
      · (intro w hSw; (try dsimp only at hSw); go_simp; try with_reducible rfl)
      simp only [Act.put, List.setIfInBounds_toArray, List.set_cons_zero, List.set_cons_succ]
      refine take_w 3 (some 46) (v := ?_) rfl rfl (by kernel_rfl) (by kernel_rfl) (by kernel_rfl) (fun _ _ _ h => h) (by rfl) ?_ hHeld ?_
      rotate_left
      · (intro w hSw; (try dsimp only at hSw); go_simp; try with_reducible rfl)
      simp only [Act.put, List.setIfInBounds_toArray, List.set_cons_zero, List.set_cons_succ]
      refine take_w 6 (some 49) (v := ?_) rfl rfl (by kernel_rfl) (by kernel_rfl) (by kernel_rfl) (fun _ _ _ h => h) (by rfl) ?_ hHeld ?_
      rotate_left
      · (intro w hSw; (try dsimp only at hSw); go_simp; try with_reducible rfl)
      simp only [Act.put, List.setIfInBounds_toArray, List.set_cons_zero, List.set_cons_succ]
      refine take_w 10 (some 53) (v := ?_) rfl rfl (by kernel_rfl) (by kernel_rfl) (by kernel_rfl) (fun _ _ _ h => h) (by rfl) ?_ hHeld ?_
      rotate_left
      · (intro w hSw; (try dsimp only at hSw); go_simp; try with_reducible rfl)
      simp only [Act.put, List.setIfInBounds_toArray, List.set_cons_zero, List.set_cons_succ]
      refine take_w 11 (some 54) (v := ?_) rfl rfl (by kernel_rfl) (by kernel_rfl) (by kernel_rfl) (fun _ _ _ h => h) (by rfl) ?_ hHeld ?_
      rotate_left
      · (intro w hSw; (try dsimp only at hSw); go_simp; try with_reducible rfl)
      simp only [Act.put, List.setIfInBounds_toArray, List.set_cons_zero, List.set_cons_succ]
      refine take_w 12 (some 55) (v := ?_) rfl rfl (by kernel_rfl) (by kernel_rfl) (by kernel_rfl) (fun _ _ _ h => h) (by rfl) ?_ hHeld ?_
      rotate_left
      · (intro w hSw; (try dsimp only at hSw); go_simp; try with_reducible rfl)
      simp only [Act.put, List.setIfInBounds_toArray, List.set_cons_zero, List.set_cons_succ]
      refine take_w 13 (some 56) (v := ?_) rfl rfl (by kernel_rfl) (by kernel_rfl) (by kernel_rfl) (fun _ _ _ h => h) (by rfl) ?_ hHeld ?_
      rotate_left
      · (intro w hSw; (try dsimp only at hSw); go_simp; try with_reducible rfl)
      simp only [Act.put, List.setIfInBounds_toArray, List.set_cons_zero, List.set_cons_succ]
      refine take_w 14 (some 57) (v := ?_) rfl rfl (by kernel_rfl) (by kernel_rfl) (by kernel_rfl) (fun _ _ _ h => h) (by rfl) ?_ hHeld ?_
      rotate_left
      · (intro w hSw; (try dsimp only at hSw); go_simp; try with_reducible rfl)
      simp only [Act.put, List.setIfInBounds_toArray, List.set_cons_zero, List.set_cons_succ]
      refine take_w 15 (some 58) (v := ?_) rfl rfl (by kernel_rfl) (by kernel_rfl) (by kernel_rfl) (fun _ _ _ h => h) (by rfl) ?_ hHeld ?_
      rotate_left
      · (intro w hSw; (try dsimp only at hSw); go_simp; try with_reducible rfl)
      simp only [Act.put, List.setIfInBounds_toArray, List.set_cons_zero, List.set_cons_succ]
      refine take_w 16 (some 59) (v := ?_) rfl rfl (by kernel_rfl) (by kernel_rfl) (by kernel_rfl) (fun _ _ _ h => h) (by rfl) ?_ hHeld ?_
      rotate_left
      · (intro w hSw; (try dsimp only at hSw); go_simp; try with_reducible rfl)
      simp only [Act.put, List.setIfInBounds_toArray, List.set_cons_zero, List.set_cons_succ]
      refine take_w 18 (some 61) (v := ?_) rfl rfl (by kernel_rfl) (by kernel_rfl) (by kernel_rfl) (fun _ _ _ h => h) (by rfl) ?_ hHeld ?_
      rotate_left
      · (intro w hSw; (try dsimp only at hSw); go_simp; try with_reducible rfl)
      simp only [Act.put, List.setIfInBounds_toArray, List.set_cons_zero, List.set_cons_succ]
      refine take_w 20 (some 63) (v := ?_) rfl rfl (by kernel_rfl) (by kernel_rfl) (by kernel_rfl) (fun _ _ _ h => h) (by rfl) ?_ hHeld ?_
      rotate_left
      · (intro w hSw; (try dsimp only at hSw); go_simp; try with_reducible rfl)
      simp only [Act.put, List.setIfInBounds_toArray, List.set_cons_zero, List.set_cons_succ]
      refine take_w 21 (some 64) (v := ?_) rfl rfl (by kernel_rfl) (by kernel_rfl) (by kernel_rfl) (fun _ _ _ h => h) (by rfl) ?_ hHeld ?_
      rotate_left
      · (intro w hSw; (try dsimp only at hSw); go_simp; try with_reducible rfl)
      simp only [Act.put, List.setIfInBounds_toArray, List.set_cons_zero, List.set_cons_succ]
      refine take_w 22 (some 65) (v := ?_) rfl rfl (by kernel_rfl) (by kernel_rfl) (by kernel_rfl) (fun _ _ _ h => h) (by rfl) ?_ hHeld ?_
      rotate_left
      · (intro w hSw; (try dsimp only at hSw); go_simp; try with_reducible rfl)
      simp only [Act.put, List.setIfInBounds_toArray, List.set_cons_zero, List.set_cons_succ]
      refine take_c 2 rfl (by kernel_rfl) (by rfl) (fun K hK => ?_)
      go_simp
      refine (right_int _ _ (by omega) (by omega) _).mono ?_
      rintro e w' ⟨rfl, rfl⟩
      refine hK.out _ _ hHeld (fun hHn => ?_)
      clear hHn
      clear hK K
      try simp only [Act.put, List.setIfInBounds_toArray, List.set_cons_zero, List.set_cons_succ]
      refine take_c 4 rfl (by kernel_rfl) (by rfl) (fun K hK => ?_)
      go_simp
      refine (right_int _ _ (by omega) (by omega) _).mono ?_
      rintro e w' ⟨rfl, rfl⟩
      refine hK.out _ _ hHeld (fun hHn => ?_)
      clear hHn
      clear hK K
      try simp only [Act.put, List.setIfInBounds_toArray, List.set_cons_zero, List.set_cons_succ]
      refine take_w 5 (some 48) (v := ?_) rfl rfl (by kernel_rfl) (by kernel_rfl) (by kernel_rfl) (fun _ _ _ h => h) (by rfl) ?_ hHeld ?_
      rotate_left
      · (intro w hSw; (try dsimp only at hSw); go_simp; try with_reducible rfl)
      simp only [Act.put, List.setIfInBounds_toArray, List.set_cons_zero, List.set_cons_succ]
      refine take_c 7 rfl (by kernel_rfl) (by rfl) (fun K hK => ?_)
      go_simp
      refine (right_int _ _ (by omega) (by omega) _).mono ?_
      rintro e w' ⟨rfl, rfl⟩
      refine hK.out _ _ hHeld (fun hHn => ?_)
      clear hHn
      clear hK K
      try simp only [Act.put, List.setIfInBounds_toArray, List.set_cons_zero, List.set_cons_succ]
      refine take_w 8 (some 51) (v := ?_) rfl rfl (by kernel_rfl) (by kernel_rfl) (by kernel_rfl) (fun _ _ _ h => h) (by rfl) ?_ hHeld ?_
      rotate_left
      · (intro w hSw; (try dsimp only at hSw); go_simp; try with_reducible rfl)
      simp only [Act.put, List.setIfInBounds_toArray, List.set_cons_zero, List.set_cons_succ]
      refine take_w 9 (some 52) (v := ?_) rfl rfl (by kernel_rfl) (by kernel_rfl) (by kernel_rfl) (fun _ _ _ h => h) (by rfl) ?_ hHeld ?_
      rotate_left
      · (intro w hSw; (try dsimp only at hSw); go_simp; try with_reducible rfl)
      simp only [Act.put, List.setIfInBounds_toArray, List.set_cons_zero, List.set_cons_succ]
      refine take_w 17 (some 60) (v := ?_) rfl rfl (by kernel_rfl) (by kernel_rfl) (by kernel_rfl) (fun _ _ _ h => h) (by rfl) ?_ hHeld ?_
      rotate_left
      · (intro w hSw; (try dsimp only at hSw); go_simp; try with_reducible rfl)
      simp only [Act.put, List.setIfInBounds_toArray, List.set_cons_zero, List.set_cons_succ]
      refine take_w 19 (some 62) (v := ?_) rfl rfl (by kernel_rfl) (by kernel_rfl) (by kernel_rfl) (fun _ _ _ h => h) (by rfl) ?_ hHeld ?_
      rotate_left
      · (intro w hSw; (try dsimp only at hSw); go_simp; try with_reducible rfl)
      simp only [Act.put, List.setIfInBounds_toArray, List.set_cons_zero, List.set_cons_succ]
      refine take_w 23 (some 66) (v := ?_) rfl rfl (by kernel_rfl) (by kernel_rfl) (by kernel_rfl) (fun _ _ _ h => h) (by rfl) ?_ hHeld ?_
      rotate_left
      · (intro w hSw; (try dsimp only at hSw); go_simp; try with_reducible rfl)
      simp only [Act.put, List.setIfInBounds_toArray, List.set_cons_zero, List.set_cons_succ]
      refine take_w 24 (some 16) (v := ?_) rfl rfl (by kernel_rfl) (by kernel_rfl) (by kernel_rfl) (fun _ _ _ h => h) (by rfl) ?_ hHeld ?_
      rotate_left
      · (intro w hSw; (try dsimp only at hSw); go_simp; try with_reducible rfl)
      simp only [Act.put, List.setIfInBounds_toArray, List.set_cons_zero, List.set_cons_succ]
      refine wpAnyH_done (by kernel_rfl) ?_ _
      go_wp2_with (go_at_call 105; refine (right_int _ _ (by omega) (by omega) _).mono ?_; rintro e w' ⟨rfl, rfl⟩)
      refine ⟨⟨k + 1, by omega, by go_num, by rw [HR.out]; rfl, by rw [HR.out]; rfl, by rw [HR.out]; rfl, by rw [HR.out]; rfl, by rw [HR.out]; rfl, by rw [HR.out]; rfl, by rw [HR.out]; rfl, by rw [HR.out]; rfl, f9.drew⟩, by simp [intOf]; omega⟩
    · obtain rfl : k = 64 := by omega
      have F9 := F8.trans_nil f9
      have i2 := i2.keep_nil f9
      have i4 := i4.keep_nil f9
      clear i5 hkg HR
      obtain ⟨t, ht⟩ : ∃ t, s.run kc W 64 = t := ⟨_, rfl⟩
      rw [ht]
      have HT := Lib.hid (fun _ : Unit => ht)
      clear ht
      have i2' : Blk _ g2 103 (wvs (mixL s t 0)).toArray := i2
      clear i2 f9 E2 E3 E4
      go_wp2_with
        (first
          | (refine wpList_bldK (o := ⟨some 106, _, _, _, _, _⟩) rfl rfl #[(0, .int .u32 (uw t.a)), (1, .int .u32 (uw t.b)), (2, .int .u32 (uw t.c)), (3, .int .u32 (uw t.d)), (4, .int .u32 (uw t.e)), (5, .int .u32 (uw t.f)), (6, .int .u32 (uw t.g)), (7, .int .u32 (uw t.h))] (by kernel_rfl) (.agg (wvs t.list).toArray) (bld8 _ t) ?_))
      go_loopw [107] (fun i wr => ∃ k : Nat, k ≤ 8 ∧ i = .int .i64 k ∧ Blk wr g2 103 (wvs (mixL s t k)).toArray ∧ Blk wr g4 103 (wvs (zW 8)).toArray ∧ Fr [] w wr) (fun i _ => 8 - (intOf i).toNat)
      case atStart => exact ⟨0, Nat.zero_le _, rfl, i2', i4, F9⟩
      case round =>
        clear i2' i4 F9
        obtain ⟨k, hk, rfl, j2, j4, F⟩ := hrel
        by_cases hlt : k < 8
        · have c2 := blkW_at j2 (mixL_at s t k hlt)
          have z2 := j2.frozen k
          have hm := mixL_set s t k hlt
          have ct : (wvs t.list).toArray[k]? = some (.int .u32 (uw (t.list.getD k 0))) := by
            have : k < t.list.length := hlt
            rw [List.getElem?_toArray, wvs_at this]; simp [this]
          have CT := Lib.hid ct
          clear ct
          obtain ⟨x, hx⟩ : ∃ x, s.list.getD k 0 = x := ⟨_, rfl⟩
          obtain ⟨y, hy⟩ : ∃ y, t.list.getD k 0 = y := ⟨_, rfl⟩
          rw [hx] at c2 hm
          rw [hy] at hm CT
          have HM := Lib.hid hm
          clear hx hy hm
          go_wp2_with
            (first
              | (refine wpList_ix1 (o := ⟨some 110, _, _, _, _, _⟩) Tryd.underlying103 Tryd.underlying102 rfl (by kernel_rfl) rfl rfl (wvs t.list).toArray rfl .i64 k rfl hlt _ CT.out ?_))
          have j2' := blkW_set j2 k (x + y)
          rw [HM.out] at j2'
          have fs : Fr [g2] _ _ := (Fr.refl [g2] _).setCell (w := wr) (p := ⟨g2, k, none⟩) (.inl (by simp)) (.int .u32 (uw (x + y)))
          exact ⟨⟨k + 1, by omega, by go_num, j2', j4.keep fs (by simp; omega), F.trans fs (fun i hi => .inr (by simp at hi; omega))⟩, by simp [intOf]; omega⟩
        · obtain rfl : k = 8 := by omega
          have j2' : Blk _ g2 103 (wvs (s.add t).list).toArray := j2
          clear j2
          go_wp2_with
            (first
              | (refine wpList_ldS stW8 rfl rfl g2 0 rfl (wvs (s.add t).list) (by rw [wvs_length]; rfl) j2'.range0 ?_)
              | (refine wpList_stB stW8 rfl rfl g4 rfl (wvs (s.add t).list) rfl (by rw [wvs_length]; rfl) (wvs_one _) (wvs (zW 8)) rfl j4 ?_; intro w5 h5 f5 z5))
          try simp only [Exit.inBlock, Exit.then]
          refine bodyPost_ret (results_cell stW8 rfl rfl (by rw [wvs_length]; rfl) h5) rfl ?_
          exact ⟨by rw [HT.out ()], F.trans f5 (fun i hi => .inr (by simp at hi; omega))⟩
theorem block_any (w : World) (s : S8) (p : List UInt8) (hp : p.length = 64) (hK : KG w) :
    Calls Tryd.prog 97 #[.agg (wvs s.list).toArray, .agg (bvs p).toArray] w fun e w' => e = .returned (.agg (wvs (shaBlk s p).list).toArray) ∧ Fr [] w w' :=
  block_W w s p hp kC (sched p 64) rfl (sched_length p 64) hK (fun w => words_any w p hp)
end Go.Proofs.YtlelgeigighecaaDoor
