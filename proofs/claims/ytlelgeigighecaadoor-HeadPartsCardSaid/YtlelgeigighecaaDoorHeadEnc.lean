/-
  HeadEncodes, the walk: the block and the layout of any header.
-/
import Derived.Test.YtlelgeigighecaaDoorHeadN
import Derived.Test.YtlelgeigighecaaDoorHeadLs
set_option linter.unusedSimpArgs false
set_option linter.unusedVariables false
set_option linter.unnecessarySimpa false
namespace Go.Proofs.YtlelgeigighecaaDoor
open Go.RowKit

theorem levN_len (s : Nat) : (levN s).length ≤ 2 := by unfold levN; split <;> simp
theorem layH_ones {s l j : Nat} {A : Option Addr} {n m : Nat} : ∀ u ∈ layH s l j (.slice A n m), u.oneCell' = true := layC_ones
theorem sameH_any (w : World) (s l j : Nat) {A B : Option Addr} {n ca cb : Nat} (hn : (levN s).length = n) (hA : Rd w A (ivs (levN s))) (hB : Rd w B (ivs (levN s))) :
    Calls Tryd.prog 18 #[.agg (layH s l j (.slice A n ca)).toArray, .agg (layH s l j (.slice B n cb)).toArray] w fun e w' => e = .returned (.bool true) ∧ Fr [] w w' :=
  same11_any w hn (by have := levN_len s; omega) hA hB
theorem sameZ_any (w : World) : Calls Tryd.prog 18 #[.agg zeroL.toArray, .agg zeroL.toArray] w fun e w' => e = .returned (.bool true) ∧ Fr [] w w' :=
  same11_any (L := []) w rfl (by omega) (Rd.nil _ _) (Rd.nil _ _)
theorem LayH.yes {w w' : World} {h : HeadM} {e : Ending} (x : LayH w h e w') (hg : h.good = true) : ∃ A n c, e = .returned (.tuple #[.agg (layH h.sec.toNat h.slo.toNat h.jou.toNat (.slice A n c)).toArray, .int .i64 0]) ∧ (levN h.sec.toNat).length = n ∧ Row w' w.heap.size 3 1 (.slice A n c) n (ivs (levN h.sec.toNat)) ∧ Fr [] w w' := by
  obtain ⟨v, h1, h2, h3⟩ := x
  rw [hg, if_pos rfl] at h1
  rw [hg, if_pos rfl, if_pos rfl] at h2
  obtain ⟨A, c, rfl, -, -, -, -, -⟩ := h2.shape
  exact ⟨A, _, c, h1, rfl, h2, h3⟩
theorem LayH.no {w w' : World} {h : HeadM} {e : Ending} (x : LayH w h e w') (hg : h.good = false) : e = .returned (.tuple #[.agg zeroL.toArray, .int .i64 1]) ∧ Fr [] w w' := by
  obtain ⟨v, h1, h2, h3⟩ := x
  rw [hg, if_neg (by decide)] at h1
  exact ⟨h1, h3⟩

set_option maxRecDepth 100000 in
set_option maxHeartbeats 4000000 in
theorem headEnc_any (w : World) (h : HeadM) (hs : h.ok) (hKG : KG w) : Calls Tryd.prog 3 #[.agg h.cells.toArray] w fun e w' => e = .returned (.bool true) ∧ Fr [] w w' := by
  cases hg : h.good
  · have HG := Lib.hid hg
    clear hg
    go_enter Tryd.func3, Tryd.ntmps3
    go_wp2_with
      (first
        | (refine wpList_boxS rfl rfl h.cells rfl ?_; intro w1 h1 f1 z1; have Z1 := Lib.hid z1; clear z1; obtain ⟨g, hg⟩ : ∃ g, w.heap.size = g := ⟨_, rfl⟩; rw [hg] at h1; rw [hg]; have HGG := Lib.hid hg; clear hg)
        | (refine wpList_ldS stHead rfl rfl g 0 rfl h.cells (HeadM.len hs) h1.range0 ?_))
    refine (hEncode_any w1 h hs (hKG.keep f1)).mono ?_
    intro e w2 hE
    obtain ⟨A2, c2, rfl,  r2, f2⟩ := hE.no HG.out
    clear hE
    have h2 := h1.keep_nil f2
    have F2 := f1.trans_nil f2
    clear h1 f1 f2
    go_wp2_with
      (first | (refine wpList_ldS stHead rfl rfl g 0 rfl h.cells (HeadM.len hs) h2.range0 ?_))
    refine (xhEncode_any w2 h hs).mono ?_
    intro e w3 hE
    obtain ⟨A3, c3, rfl,  r3, f3⟩ := hE.no HG.out
    clear hE
    have h3 := h2.keep_nil f3
    have F3 := F2.trans_nil f3
    replace r2 := r2.keep_nil f3
    clear h2 F2 f3
    go_wp2_with
      (first | (refine wpList_ldS stHead rfl rfl g 0 rfl h.cells (HeadM.len hs) h3.range0 ?_))
    refine (hLayout_any w3 h hs).mono ?_
    intro e w4 hE
    obtain ⟨rfl, f4⟩ := hE.no HG.out
    clear hE
    have h4 := h3.keep_nil f4
    have F4 := F3.trans_nil f4
    replace r2 := r2.keep_nil f4
    replace r3 := r3.keep_nil f4
    clear h3 F3 f4
    go_wp2_with
      (first
        | (refine wpList_alS stLay (o := ⟨some 7, _, _, _, _, _⟩) rfl rfl ?_; intro wa ha fa za; have ZA := Lib.hid za; clear za; obtain ⟨g7, hgg⟩ : ∃ g, w4.heap.size = g := ⟨_, rfl⟩; rw [hgg] at ha; rw [hgg]; have HGg7 := Lib.hid hgg; clear hgg)
        | (refine wpList_stB stLay rfl rfl g7 rfl (zeroL) rfl rfl layC_ones zeroL rfl ha ?_; intro w5 b5 fb zb; have ZB := Lib.hid zb; clear zb)
        | (refine wpList_ldS stHead rfl rfl g 0 rfl h.cells (HeadM.len hs) ((h4.keep_nil fa).keep fb (by have := HGg7.out; have := h4.lt; simp; omega)).range0 ?_))
    have f5 : Fr [] w4 w5 := fa.trans fb (fun i hi => .inr (by have := HGg7.out; simp at hi; omega))
    clear ha fa fb
    have h5 := h4.keep_nil f5
    have F5 := F4.trans_nil f5
    replace r2 := r2.keep_nil f5
    replace r3 := r3.keep_nil f5
    clear h4 F4 f5
    refine (xhLayout_any w5 h hs).mono ?_
    intro e w6 hE
    obtain ⟨rfl, f6⟩ := hE.no HG.out
    clear hE
    have h6 := h5.keep_nil f6
    have F6 := F5.trans_nil f6
    have b6 := b5.keep_nil f6
    replace r2 := r2.keep_nil f6
    replace r3 := r3.keep_nil f6
    clear h5 F5 f6 b5
    go_wp2_with
      (first
        | (refine wpList_alS stLay (o := ⟨some 9, _, _, _, _, _⟩) rfl rfl ?_; intro wa ha fa za; have ZA := Lib.hid za; clear za; obtain ⟨g9, hgg⟩ : ∃ g, w6.heap.size = g := ⟨_, rfl⟩; rw [hgg] at ha; rw [hgg]; have HGg9 := Lib.hid hgg; clear hgg)
        | (refine wpList_stB stLay rfl rfl g9 rfl (zeroL) rfl rfl layC_ones zeroL rfl ha ?_; intro w7 b9 fb zb; have ZB := Lib.hid zb; clear zb)
        | (refine wpList_ldS stHead rfl rfl g 0 rfl h.cells (HeadM.len hs) ((h6.keep_nil fa).keep fb (by have := HGg9.out; have := h6.lt; simp; omega)).range0 ?_))
    have f7 : Fr [] w6 w7 := fa.trans fb (fun i hi => .inr (by have := HGg9.out; simp at hi; omega))
    clear ha fa fb
    have h7 := h6.keep_nil f7
    have F7 := F6.trans_nil f7
    have b7 := b6.keep_nil f7
    replace r2 := r2.keep_nil f7
    replace r3 := r3.keep_nil f7
    clear h6 F6 f7 b6
    have F0 := F7
    refine wp_region_held_drew (S := fun w' => Fr [] w7 w') (by kernel_rfl) ((Fr.refl [] w7).drew) (fun hHeld => ?_)
    refine take_c 0 rfl (by kernel_rfl) (by rfl) (fun K hK' => ?_)
    have hK := hK'
    go_simp
    refine (lives11_any _ (hKG.keep (F7.drew))).mono ?_
    rintro e wn ⟨rfl, fn⟩
    refine hK.out _ _ (hHeld.trans_nil fn) (fun hHx => ?_)
    clear hK'
    clear hHeld
    have hHeld := hHx
    clear hHx fn
    clear hK K
    try simp only [Act.put, List.setIfInBounds_toArray, List.set_cons_zero, List.set_cons_succ]
    refine take_w 1 (some 33) (v := ?_) rfl rfl (by kernel_rfl) (by kernel_rfl) (by kernel_rfl) (fun _ _ _ h => h) (by rfl) ?_ hHeld ?_
    rotate_left
    · (intro w hSw; (try dsimp only at hSw); go_simp; try with_reducible rfl)
    simp only [Act.put, List.setIfInBounds_toArray, List.set_cons_zero, List.set_cons_succ]
    refine take_w 2 (some 34) (v := ?_) rfl rfl (by kernel_rfl) (by kernel_rfl) (by kernel_rfl) (fun _ _ _ h => h) (by rfl) ?_ hHeld ?_
    rotate_left
    · (intro w hSw; (try dsimp only at hSw); go_simp; try with_reducible rfl)
    simp only [Act.put, List.setIfInBounds_toArray, List.set_cons_zero, List.set_cons_succ]
    refine take_w 3 (some 35) (v := ?_) rfl rfl (by kernel_rfl) (by kernel_rfl) (by kernel_rfl) (fun _ _ _ h => h) (by rfl) ?_ hHeld ?_
    rotate_left
    · (intro w hSw; (try dsimp only at hSw); go_simp; try with_reducible rfl)
    simp only [Act.put, List.setIfInBounds_toArray, List.set_cons_zero, List.set_cons_succ]
    refine take_w 4 (some 36) (v := .string ⟨([]:List UInt8).toArray⟩) rfl rfl (by kernel_rfl) (by kernel_rfl) (by kernel_rfl) (fun _ _ _ h => h) (by rfl) (fun w hSw => by have E := (r2.keep_nil hSw).str; go_simp) hHeld ?_
    try simp only [Act.put, List.setIfInBounds_toArray, List.set_cons_zero, List.set_cons_succ]
    refine take_w 5 (some 37) (v := ?_) rfl rfl (by kernel_rfl) (by kernel_rfl) (by kernel_rfl) (fun _ _ _ h => h) (by rfl) ?_ hHeld ?_
    rotate_left
    · (intro w hSw; (try dsimp only at hSw); go_simp; try with_reducible rfl)
    simp only [Act.put, List.setIfInBounds_toArray, List.set_cons_zero, List.set_cons_succ]
    refine take_w 6 (some 38) (v := .string ⟨([]:List UInt8).toArray⟩) rfl rfl (by kernel_rfl) (by kernel_rfl) (by kernel_rfl) (fun _ _ _ h => h) (by rfl) (fun w hSw => by have E := (r3.keep_nil hSw).str; go_simp) hHeld ?_
    try simp only [Act.put, List.setIfInBounds_toArray, List.set_cons_zero, List.set_cons_succ]
    refine take_w 7 (some 39) (v := ?_) rfl rfl (by kernel_rfl) (by kernel_rfl) (by kernel_rfl) (fun _ _ _ h => h) (by rfl) ?_ hHeld ?_
    rotate_left
    · (intro w hSw; (try dsimp only at hSw); go_simp; try with_reducible rfl)
    simp only [Act.put, List.setIfInBounds_toArray, List.set_cons_zero, List.set_cons_succ]
    refine take_w 8 (some 40) (v := ?_) rfl rfl (by kernel_rfl) (by kernel_rfl) (by kernel_rfl) (fun _ _ _ h => h) (by rfl) ?_ hHeld ?_
    rotate_left
    · (intro w hSw; (try dsimp only at hSw); go_simp; try with_reducible rfl)
    simp only [Act.put, List.setIfInBounds_toArray, List.set_cons_zero, List.set_cons_succ]
    refine take_w 9 (some 41) (v := ?_) rfl rfl (by kernel_rfl) (by kernel_rfl) (by kernel_rfl) (fun _ _ _ h => h) (by rfl) ?_ hHeld ?_
    rotate_left
    · (intro w hSw; (try dsimp only at hSw); go_simp; try with_reducible rfl)
    simp only [Act.put, List.setIfInBounds_toArray, List.set_cons_zero, List.set_cons_succ]
    refine take_w 10 (some 42) (v := ?_) rfl rfl (by kernel_rfl) (by kernel_rfl) (by kernel_rfl) (fun _ _ _ h => h) (by rfl) ?_ hHeld ?_
    rotate_left
    · (intro w hSw; (try dsimp only at hSw); go_simp; try with_reducible rfl)
    simp only [Act.put, List.setIfInBounds_toArray, List.set_cons_zero, List.set_cons_succ]
    refine take_w 11 (some 43) (v := ?_) rfl rfl (by kernel_rfl) (by kernel_rfl) (by kernel_rfl) (fun _ _ _ h => h) (by rfl) ?_ hHeld ?_
    rotate_left
    · (intro w hSw; (try dsimp only at hSw); go_simp; try with_reducible rfl)
    simp only [Act.put, List.setIfInBounds_toArray, List.set_cons_zero, List.set_cons_succ]
    refine take_w 12 (some 44) (v := ?_) rfl rfl (by kernel_rfl) (by kernel_rfl) (by kernel_rfl) (fun _ _ _ h => h) (by rfl) ?_ hHeld ?_
    rotate_left
    · (intro w hSw; (try dsimp only at hSw); go_simp; try with_reducible rfl)
    simp only [Act.put, List.setIfInBounds_toArray, List.set_cons_zero, List.set_cons_succ]
    refine take_w 13 (some 45) (v := ?_) rfl rfl (by kernel_rfl) (by kernel_rfl) (by kernel_rfl) (fun _ _ _ h => h) (by rfl) ?_ hHeld ?_
    rotate_left
    · (intro w hSw; (try dsimp only at hSw); go_simp; try with_reducible rfl)
    simp only [Act.put, List.setIfInBounds_toArray, List.set_cons_zero, List.set_cons_succ]
    refine take_w 14 (some 46) (v := ?_) rfl rfl (by kernel_rfl) (by kernel_rfl) (by kernel_rfl) (fun _ _ _ h => h) (by rfl) ?_ hHeld ?_
    rotate_left
    · (intro w hSw; (try dsimp only at hSw); go_simp; try with_reducible rfl)
    simp only [Act.put, List.setIfInBounds_toArray, List.set_cons_zero, List.set_cons_succ]
    refine take_w 15 (some 47) (v := .agg (zeroL).toArray) rfl rfl (by kernel_rfl) (by kernel_rfl) (by kernel_rfl) (fun _ _ _ h => h) (by rfl) (fun w hSw => hy_ld stLay rfl g7 0 rfl _ rfl (b7.keep_nil hSw).range0) hHeld ?_
    try simp only [Act.put, List.setIfInBounds_toArray, List.set_cons_zero, List.set_cons_succ]
    refine take_w 16 (some 48) (v := .agg (zeroL).toArray) rfl rfl (by kernel_rfl) (by kernel_rfl) (by kernel_rfl) (fun _ _ _ h => h) (by rfl) (fun w hSw => hy_ld stLay rfl g9 0 rfl _ rfl (b9.keep_nil hSw).range0) hHeld ?_
    try simp only [Act.put, List.setIfInBounds_toArray, List.set_cons_zero, List.set_cons_succ]
    refine take_c 17 rfl (by kernel_rfl) (by rfl) (fun K hK => ?_)
    go_simp
    refine (sameZ_any _).mono ?_
    rintro e wn ⟨rfl, fn⟩
    refine hK.out _ _ (hHeld.trans_nil fn) (fun hHx => ?_)
    clear hHeld
    have hHeld := hHx
    clear hHx fn
    clear hK K
    try simp only [Act.put, List.setIfInBounds_toArray, List.set_cons_zero, List.set_cons_succ]
    refine take_w 18 (some 50) (v := ?_) rfl rfl (by kernel_rfl) (by kernel_rfl) (by kernel_rfl) (fun _ _ _ h => h) (by rfl) ?_ hHeld ?_
    rotate_left
    · (intro w hSw; (try dsimp only at hSw); go_simp; try with_reducible rfl)
    simp only [Act.put, List.setIfInBounds_toArray, List.set_cons_zero, List.set_cons_succ]
    refine take_w 19 (some 51) (v := ?_) rfl rfl (by kernel_rfl) (by kernel_rfl) (by kernel_rfl) (fun _ _ _ h => h) (by rfl) ?_ hHeld ?_
    rotate_left
    · (intro w hSw; (try dsimp only at hSw); go_simp; try with_reducible rfl)
    simp only [Act.put, List.setIfInBounds_toArray, List.set_cons_zero, List.set_cons_succ]
    refine take_w 20 (some 52) (v := ?_) rfl rfl (by kernel_rfl) (by kernel_rfl) (by kernel_rfl) (fun _ _ _ h => h) (by rfl) ?_ hHeld ?_
    rotate_left
    · (intro w hSw; (try dsimp only at hSw); go_simp; try with_reducible rfl)
    simp only [Act.put, List.setIfInBounds_toArray, List.set_cons_zero, List.set_cons_succ]
    refine take_w 21 (some 53) (v := ?_) rfl rfl (by kernel_rfl) (by kernel_rfl) (by kernel_rfl) (fun _ _ _ h => h) (by rfl) ?_ hHeld ?_
    rotate_left
    · (intro w hSw; (try dsimp only at hSw); go_simp; try with_reducible rfl)
    simp only [Act.put, List.setIfInBounds_toArray, List.set_cons_zero, List.set_cons_succ]
    refine take_w 22 (some 54) (v := ?_) rfl rfl (by kernel_rfl) (by kernel_rfl) (by kernel_rfl) (fun _ _ _ h => h) (by rfl) ?_ hHeld ?_
    rotate_left
    · (intro w hSw; (try dsimp only at hSw); go_simp; try with_reducible rfl)
    simp only [Act.put, List.setIfInBounds_toArray, List.set_cons_zero, List.set_cons_succ]
    refine take_w 23 (some 55) (v := ?_) rfl rfl (by kernel_rfl) (by kernel_rfl) (by kernel_rfl) (fun _ _ _ h => h) (by rfl) ?_ hHeld ?_
    rotate_left
    · (intro w hSw; (try dsimp only at hSw); go_simp; try with_reducible rfl)
    simp only [Act.put, List.setIfInBounds_toArray, List.set_cons_zero, List.set_cons_succ]
    refine take_w 24 (some 56) (v := ?_) rfl rfl (by kernel_rfl) (by kernel_rfl) (by kernel_rfl) (fun _ _ _ h => h) (by rfl) ?_ hHeld ?_
    rotate_left
    · (intro w hSw; (try dsimp only at hSw); go_simp; try with_reducible rfl)
    simp only [Act.put, List.setIfInBounds_toArray, List.set_cons_zero, List.set_cons_succ]
    refine take_w 25 (some 57) (v := ?_) rfl rfl (by kernel_rfl) (by kernel_rfl) (by kernel_rfl) (fun _ _ _ h => h) (by rfl) ?_ hHeld ?_
    rotate_left
    · (intro w hSw; (try dsimp only at hSw); go_simp; try with_reducible rfl)
    simp only [Act.put, List.setIfInBounds_toArray, List.set_cons_zero, List.set_cons_succ]
    refine take_w 26 (some 58) (v := .agg h.cells.toArray) rfl rfl (by kernel_rfl) (by kernel_rfl) (by kernel_rfl) (fun _ _ _ h => h) (by rfl) (fun w hSw => hy_ld stHead rfl g 0 rfl _ (HeadM.len hs) (h7.keep_nil hSw).range0) hHeld ?_
    try simp only [Act.put, List.setIfInBounds_toArray, List.set_cons_zero, List.set_cons_succ]
    refine take_w 28 (some 60) (v := .agg h.cells.toArray) rfl rfl (by kernel_rfl) (by kernel_rfl) (by kernel_rfl) (fun _ _ _ h => h) (by rfl) (fun w hSw => hy_ld stHead rfl g 0 rfl _ (HeadM.len hs) (h7.keep_nil hSw).range0) hHeld ?_
    try simp only [Act.put, List.setIfInBounds_toArray, List.set_cons_zero, List.set_cons_succ]
    refine take_c 27 rfl (by kernel_rfl) (by rfl) (fun K hK => ?_)
    go_simp
    refine (hCheck_any h hs _).mono ?_
    rintro e wn ⟨rfl, fn⟩
    refine hK.out _ _ (hHeld.trans_nil fn) (fun hHx => ?_)
    clear hHeld
    have hHeld := hHx
    clear hHx fn
    clear hK K
    try simp only [Act.put, List.setIfInBounds_toArray, List.set_cons_zero, List.set_cons_succ]
    refine take_c 29 rfl (by kernel_rfl) (by rfl) (fun K hK => ?_)
    go_simp
    refine (xhCheck_any h hs _).mono ?_
    rintro e wn ⟨rfl, fn⟩
    refine hK.out _ _ (hHeld.trans_nil fn) (fun hHx => ?_)
    clear hHeld
    have hHeld := hHx
    clear hHx fn
    clear hK K
    try simp only [Act.put, List.setIfInBounds_toArray, List.set_cons_zero, List.set_cons_succ]
    refine take_w 30 (some 62) (v := ?_) rfl rfl (by kernel_rfl) (by kernel_rfl) (by kernel_rfl) (fun _ _ _ h => h) (by rfl) ?_ hHeld ?_
    rotate_left
    · (intro w hSw; (try dsimp only at hSw); go_simp; try with_reducible rfl)
    simp only [Act.put, List.setIfInBounds_toArray, List.set_cons_zero, List.set_cons_succ]
    refine take_w 31 (some 63) (v := ?_) rfl rfl (by kernel_rfl) (by kernel_rfl) (by kernel_rfl) (fun _ _ _ h => h) (by rfl) ?_ hHeld ?_
    rotate_left
    · (intro w hSw; (try dsimp only at hSw); go_simp; try with_reducible rfl)
    simp only [Act.put, List.setIfInBounds_toArray, List.set_cons_zero, List.set_cons_succ]
    refine wpAnyH_done (by kernel_rfl) ?_ _
    clear r2 r3
    go_wp2_with fail
    go_ret
    exact ⟨rfl, F7.trans_nil hHeld⟩
  · have HG := Lib.hid hg
    clear hg
    go_enter Tryd.func3, Tryd.ntmps3
    go_wp2_with
      (first
        | (refine wpList_boxS rfl rfl h.cells rfl ?_; intro w1 h1 f1 z1; have Z1 := Lib.hid z1; clear z1; obtain ⟨g, hg⟩ : ∃ g, w.heap.size = g := ⟨_, rfl⟩; rw [hg] at h1; rw [hg]; have HGG := Lib.hid hg; clear hg)
        | (refine wpList_ldS stHead rfl rfl g 0 rfl h.cells (HeadM.len hs) h1.range0 ?_))
    refine (hEncode_any w1 h hs (hKG.keep f1)).mono ?_
    intro e w2 hE
    obtain ⟨A2, c2, rfl, hc2, r2, f2⟩ := hE.yes HG.out
    clear hE
    have h2 := h1.keep_nil f2
    have F2 := f1.trans_nil f2
    clear h1 f1 f2
    go_wp2_with
      (first | (refine wpList_ldS stHead rfl rfl g 0 rfl h.cells (HeadM.len hs) h2.range0 ?_))
    refine (xhEncode_any w2 h hs).mono ?_
    intro e w3 hE
    obtain ⟨A3, c3, rfl, -, r3, f3⟩ := hE.yes HG.out
    clear hE
    have h3 := h2.keep_nil f3
    have F3 := F2.trans_nil f3
    replace r2 := r2.keep_nil f3
    clear h2 F2 f3
    go_wp2_with
      (first | (refine wpList_ldS stHead rfl rfl g 0 rfl h.cells (HeadM.len hs) h3.range0 ?_))
    refine (hLayout_any w3 h hs).mono ?_
    intro e w4 hE
    obtain ⟨A4, n4, c4, rfl, hn4, r4, f4⟩ := hE.yes HG.out
    clear hE
    have HN4 := Lib.hid hn4
    have hn4' : n4 ≤ 2 := by rw [← hn4]; exact levN_len _
    have h4 := h3.keep_nil f4
    have F4 := F3.trans_nil f4
    replace r2 := r2.keep_nil f4
    replace r3 := r3.keep_nil f4
    clear h3 F3 f4 hn4
    obtain ⟨s, hss⟩ : ∃ s, h.sec.toNat = s := ⟨_, rfl⟩
    obtain ⟨l, hll⟩ : ∃ s, h.slo.toNat = s := ⟨_, rfl⟩
    obtain ⟨j, hjj⟩ : ∃ s, h.jou.toNat = s := ⟨_, rfl⟩
    rw [hss] at r4 HN4
    rw [hss, hll, hjj]
    have HSS := Lib.hid (And.intro hss (And.intro hll hjj))
    clear hss hll hjj
    go_wp2_with
      (first
        | (refine wpList_alS stLay (o := ⟨some 7, _, _, _, _, _⟩) rfl rfl ?_; intro wa ha fa za; have ZA := Lib.hid za; clear za; obtain ⟨g7, hgg⟩ : ∃ g, w4.heap.size = g := ⟨_, rfl⟩; rw [hgg] at ha; rw [hgg]; have HGg7 := Lib.hid hgg; clear hgg)
        | (refine wpList_stB stLay rfl rfl g7 rfl (layH s l j (.slice A4 n4 c4)) rfl rfl layH_ones zeroL rfl ha ?_; intro w5 b5 fb zb; have ZB := Lib.hid zb; clear zb)
        | (refine wpList_ldS stHead rfl rfl g 0 rfl h.cells (HeadM.len hs) ((h4.keep_nil fa).keep fb (by have := HGg7.out; have := h4.lt; simp; omega)).range0 ?_))
    have f5 : Fr [] w4 w5 := fa.trans fb (fun i hi => .inr (by have := HGg7.out; simp at hi; omega))
    clear ha fa fb
    have h5 := h4.keep_nil f5
    have F5 := F4.trans_nil f5
    replace r2 := r2.keep_nil f5
    replace r3 := r3.keep_nil f5
    replace r4 := r4.keep_nil f5
    clear h4 F4 f5
    refine (xhLayout_any w5 h hs).mono ?_
    intro e w6 hE
    obtain ⟨A6, n6, c6, rfl, hn6, r6, f6⟩ := hE.yes HG.out
    clear hE
    rw [HSS.out.1] at hn6 r6
    rw [HSS.out.1, HSS.out.2.1, HSS.out.2.2]
    obtain rfl : n4 = n6 := by rw [← HN4.out, hn6]
    have h6 := h5.keep_nil f6
    have F6 := F5.trans_nil f6
    have b6 := b5.keep_nil f6
    replace r2 := r2.keep_nil f6
    replace r3 := r3.keep_nil f6
    replace r4 := r4.keep_nil f6
    clear h5 F5 f6 b5 hn6
    go_wp2_with
      (first
        | (refine wpList_alS stLay (o := ⟨some 9, _, _, _, _, _⟩) rfl rfl ?_; intro wa ha fa za; have ZA := Lib.hid za; clear za; obtain ⟨g9, hgg⟩ : ∃ g, w6.heap.size = g := ⟨_, rfl⟩; rw [hgg] at ha; rw [hgg]; have HGg9 := Lib.hid hgg; clear hgg)
        | (refine wpList_stB stLay rfl rfl g9 rfl (layH s l j (.slice A6 n4 c6)) rfl rfl layH_ones zeroL rfl ha ?_; intro w7 b9 fb zb; have ZB := Lib.hid zb; clear zb)
        | (refine wpList_ldS stHead rfl rfl g 0 rfl h.cells (HeadM.len hs) ((h6.keep_nil fa).keep fb (by have := HGg9.out; have := h6.lt; simp; omega)).range0 ?_))
    have f7 : Fr [] w6 w7 := fa.trans fb (fun i hi => .inr (by have := HGg9.out; simp at hi; omega))
    clear ha fa fb
    have h7 := h6.keep_nil f7
    have F7 := F6.trans_nil f7
    have b7 := b6.keep_nil f7
    replace r2 := r2.keep_nil f7
    replace r3 := r3.keep_nil f7
    replace r4 := r4.keep_nil f7
    replace r6 := r6.keep_nil f7
    clear h6 F6 f7 b6
    have hbl := (bytes_parts hs).2.2
    have hdec := decH_bytes hs HG.out
    obtain ⟨q, hq⟩ : ∃ q, h.bytes = q := ⟨_, rfl⟩
    rw [hq] at r2 r3 hbl hdec
    have HD := Lib.hid (And.intro hbl hdec)
    clear hbl hdec hq
    have F0 := F7
    refine wp_region_held_drew (S := fun w' => Fr [] w7 w') (by kernel_rfl) ((Fr.refl [] w7).drew) (fun hHeld => ?_)
    refine take_c 0 rfl (by kernel_rfl) (by rfl) (fun K hK' => ?_)
    have hK := hK'
    go_simp
    refine (lives11_any _ (hKG.keep (F7.drew))).mono ?_
    rintro e wn ⟨rfl, fn⟩
    refine hK.out _ _ (hHeld.trans_nil fn) (fun hHx => ?_)
    clear hK'
    clear hHeld
    have hHeld := hHx
    clear hHx fn
    clear hK K
    try simp only [Act.put, List.setIfInBounds_toArray, List.set_cons_zero, List.set_cons_succ]
    refine take_w 1 (some 33) (v := ?_) rfl rfl (by kernel_rfl) (by kernel_rfl) (by kernel_rfl) (fun _ _ _ h => h) (by rfl) ?_ hHeld ?_
    rotate_left
    · (intro w hSw; (try dsimp only at hSw); go_simp; try with_reducible rfl)
    simp only [Act.put, List.setIfInBounds_toArray, List.set_cons_zero, List.set_cons_succ]
    refine take_w 2 (some 34) (v := ?_) rfl rfl (by kernel_rfl) (by kernel_rfl) (by kernel_rfl) (fun _ _ _ h => h) (by rfl) ?_ hHeld ?_
    rotate_left
    · (intro w hSw; (try dsimp only at hSw); go_simp; try with_reducible rfl)
    simp only [Act.put, List.setIfInBounds_toArray, List.set_cons_zero, List.set_cons_succ]
    refine take_w 3 (some 35) (v := ?_) rfl rfl (by kernel_rfl) (by kernel_rfl) (by kernel_rfl) (fun _ _ _ h => h) (by rfl) ?_ hHeld ?_
    rotate_left
    · (intro w hSw; (try dsimp only at hSw); go_simp; try with_reducible rfl)
    simp only [Act.put, List.setIfInBounds_toArray, List.set_cons_zero, List.set_cons_succ]
    refine take_w 4 (some 36) (v := .string ⟨q.toArray⟩) rfl rfl (by kernel_rfl) (by kernel_rfl) (by kernel_rfl) (fun _ _ _ h => h) (by rfl) (fun w hSw => by have E := (r2.keep_nil hSw).str; go_simp) hHeld ?_
    try simp only [Act.put, List.setIfInBounds_toArray, List.set_cons_zero, List.set_cons_succ]
    refine take_w 5 (some 37) (v := ?_) rfl rfl (by kernel_rfl) (by kernel_rfl) (by kernel_rfl) (fun _ _ _ h => h) (by rfl) ?_ hHeld ?_
    rotate_left
    · (intro w hSw; (try dsimp only at hSw); go_simp; try with_reducible rfl)
    simp only [Act.put, List.setIfInBounds_toArray, List.set_cons_zero, List.set_cons_succ]
    refine take_w 6 (some 38) (v := .string ⟨q.toArray⟩) rfl rfl (by kernel_rfl) (by kernel_rfl) (by kernel_rfl) (fun _ _ _ h => h) (by rfl) (fun w hSw => by have E := (r3.keep_nil hSw).str; go_simp) hHeld ?_
    try simp only [Act.put, List.setIfInBounds_toArray, List.set_cons_zero, List.set_cons_succ]
    refine take_w 7 (some 39) (v := ?_) rfl rfl (by kernel_rfl) (by kernel_rfl) (by kernel_rfl) (fun _ _ _ h => h) (by rfl) ?_ hHeld ?_
    rotate_left
    · (intro w hSw; (try dsimp only at hSw); go_simp; try with_reducible rfl)
    simp only [Act.put, List.setIfInBounds_toArray, List.set_cons_zero, List.set_cons_succ]
    refine take_w 8 (some 40) (v := ?_) rfl rfl (by kernel_rfl) (by kernel_rfl) (by kernel_rfl) (fun _ _ _ h => h) (by rfl) ?_ hHeld ?_
    rotate_left
    · (intro w hSw; (try dsimp only at hSw); go_simp; try with_reducible rfl)
    simp only [Act.put, List.setIfInBounds_toArray, List.set_cons_zero, List.set_cons_succ]
    refine take_w 9 (some 41) (v := ?_) rfl rfl (by kernel_rfl) (by kernel_rfl) (by kernel_rfl) (fun _ _ _ h => h) (by rfl) ?_ hHeld ?_
    rotate_left
    · (intro w hSw; (try dsimp only at hSw); go_simp; try with_reducible rfl)
    simp only [Act.put, List.setIfInBounds_toArray, List.set_cons_zero, List.set_cons_succ]
    refine take_w 10 (some 42) (v := ?_) rfl rfl (by kernel_rfl) (by kernel_rfl) (by kernel_rfl) (fun _ _ _ h => h) (by rfl) ?_ hHeld ?_
    rotate_left
    · (intro w hSw; (try dsimp only at hSw); go_simp; try with_reducible rfl)
    simp only [Act.put, List.setIfInBounds_toArray, List.set_cons_zero, List.set_cons_succ]
    refine take_w 11 (some 43) (v := ?_) rfl rfl (by kernel_rfl) (by kernel_rfl) (by kernel_rfl) (fun _ _ _ h => h) (by rfl) ?_ hHeld ?_
    rotate_left
    · (intro w hSw; (try dsimp only at hSw); go_simp; try with_reducible rfl)
    simp only [Act.put, List.setIfInBounds_toArray, List.set_cons_zero, List.set_cons_succ]
    refine take_w 12 (some 44) (v := ?_) rfl rfl (by kernel_rfl) (by kernel_rfl) (by kernel_rfl) (fun _ _ _ h => h) (by rfl) ?_ hHeld ?_
    rotate_left
    · (intro w hSw; (try dsimp only at hSw); go_simp; try with_reducible rfl)
    simp only [Act.put, List.setIfInBounds_toArray, List.set_cons_zero, List.set_cons_succ]
    refine take_w 13 (some 45) (v := ?_) rfl rfl (by kernel_rfl) (by kernel_rfl) (by kernel_rfl) (fun _ _ _ h => h) (by rfl) ?_ hHeld ?_
    rotate_left
    · (intro w hSw; (try dsimp only at hSw); go_simp; try with_reducible rfl)
    simp only [Act.put, List.setIfInBounds_toArray, List.set_cons_zero, List.set_cons_succ]
    refine take_w 14 (some 46) (v := ?_) rfl rfl (by kernel_rfl) (by kernel_rfl) (by kernel_rfl) (fun _ _ _ h => h) (by rfl) ?_ hHeld ?_
    rotate_left
    · (intro w hSw; (try dsimp only at hSw); go_simp; try with_reducible rfl)
    simp only [Act.put, List.setIfInBounds_toArray, List.set_cons_zero, List.set_cons_succ]
    refine take_w 15 (some 47) (v := .agg (layH s l j (.slice A4 n4 c4)).toArray) rfl rfl (by kernel_rfl) (by kernel_rfl) (by kernel_rfl) (fun _ _ _ h => h) (by rfl) (fun w hSw => hy_ld stLay rfl g7 0 rfl _ rfl (b7.keep_nil hSw).range0) hHeld ?_
    try simp only [Act.put, List.setIfInBounds_toArray, List.set_cons_zero, List.set_cons_succ]
    refine take_w 16 (some 48) (v := .agg (layH s l j (.slice A6 n4 c6)).toArray) rfl rfl (by kernel_rfl) (by kernel_rfl) (by kernel_rfl) (fun _ _ _ h => h) (by rfl) (fun w hSw => hy_ld stLay rfl g9 0 rfl _ rfl (b9.keep_nil hSw).range0) hHeld ?_
    try simp only [Act.put, List.setIfInBounds_toArray, List.set_cons_zero, List.set_cons_succ]
    refine take_c 17 rfl (by kernel_rfl) (by rfl) (fun K hK => ?_)
    go_simp
    refine (sameH_any _ s l j HN4.out (r4.rdA.keep_nil hHeld) (r6.rdA.keep_nil hHeld)).mono ?_
    rintro e wn ⟨rfl, fn⟩
    refine hK.out _ _ (hHeld.trans_nil fn) (fun hHx => ?_)
    clear hHeld
    have hHeld := hHx
    clear hHx fn
    clear hK K
    try simp only [Act.put, List.setIfInBounds_toArray, List.set_cons_zero, List.set_cons_succ]
    refine take_w 18 (some 50) (v := ?_) rfl rfl (by kernel_rfl) (by kernel_rfl) (by kernel_rfl) (fun _ _ _ h => h) (by rfl) ?_ hHeld ?_
    rotate_left
    · (intro w hSw; (try dsimp only at hSw); go_simp; try with_reducible rfl)
    simp only [Act.put, List.setIfInBounds_toArray, List.set_cons_zero, List.set_cons_succ]
    refine take_w 19 (some 51) (v := ?_) rfl rfl (by kernel_rfl) (by kernel_rfl) (by kernel_rfl) (fun _ _ _ h => h) (by rfl) ?_ hHeld ?_
    rotate_left
    · (intro w hSw; (try dsimp only at hSw); go_simp; try with_reducible rfl)
    simp only [Act.put, List.setIfInBounds_toArray, List.set_cons_zero, List.set_cons_succ]
    refine take_w 20 (some 52) (v := ?_) rfl rfl (by kernel_rfl) (by kernel_rfl) (by kernel_rfl) (fun _ _ _ h => h) (by rfl) ?_ hHeld ?_
    rotate_left
    · (intro w hSw; (try dsimp only at hSw); go_simp; try with_reducible rfl)
    simp only [Act.put, List.setIfInBounds_toArray, List.set_cons_zero, List.set_cons_succ]
    refine take_w 21 (some 53) (v := ?_) rfl rfl (by kernel_rfl) (by kernel_rfl) (by kernel_rfl) (fun _ _ _ h => h) (by rfl) ?_ hHeld ?_
    rotate_left
    · (intro w hSw; (try dsimp only at hSw); go_simp; try with_reducible rfl)
    simp only [Act.put, List.setIfInBounds_toArray, List.set_cons_zero, List.set_cons_succ]
    refine take_w 22 (some 54) (v := ?_) rfl rfl (by kernel_rfl) (by kernel_rfl) (by kernel_rfl) (fun _ _ _ h => h) (by rfl) ?_ hHeld ?_
    rotate_left
    · (intro w hSw; (try dsimp only at hSw); go_simp; try with_reducible rfl)
    simp only [Act.put, List.setIfInBounds_toArray, List.set_cons_zero, List.set_cons_succ]
    refine take_w 23 (some 55) (v := ?_) rfl rfl (by kernel_rfl) (by kernel_rfl) (by kernel_rfl) (fun _ _ _ h => h) (by rfl) ?_ hHeld ?_
    rotate_left
    · (intro w hSw; (try dsimp only at hSw); go_simp; try with_reducible rfl)
    simp only [Act.put, List.setIfInBounds_toArray, List.set_cons_zero, List.set_cons_succ]
    refine take_w 24 (some 56) (v := ?_) rfl rfl (by kernel_rfl) (by kernel_rfl) (by kernel_rfl) (fun _ _ _ h => h) (by rfl) ?_ hHeld ?_
    rotate_left
    · (intro w hSw; (try dsimp only at hSw); go_simp; try with_reducible rfl)
    simp only [Act.put, List.setIfInBounds_toArray, List.set_cons_zero, List.set_cons_succ]
    refine take_w 25 (some 57) (v := ?_) rfl rfl (by kernel_rfl) (by kernel_rfl) (by kernel_rfl) (fun _ _ _ h => h) (by rfl) ?_ hHeld ?_
    rotate_left
    · (intro w hSw; (try dsimp only at hSw); go_simp; try with_reducible rfl)
    simp only [Act.put, List.setIfInBounds_toArray, List.set_cons_zero, List.set_cons_succ]
    refine take_w 26 (some 58) (v := .agg h.cells.toArray) rfl rfl (by kernel_rfl) (by kernel_rfl) (by kernel_rfl) (fun _ _ _ h => h) (by rfl) (fun w hSw => hy_ld stHead rfl g 0 rfl _ (HeadM.len hs) (h7.keep_nil hSw).range0) hHeld ?_
    try simp only [Act.put, List.setIfInBounds_toArray, List.set_cons_zero, List.set_cons_succ]
    refine take_w 28 (some 60) (v := .agg h.cells.toArray) rfl rfl (by kernel_rfl) (by kernel_rfl) (by kernel_rfl) (fun _ _ _ h => h) (by rfl) (fun w hSw => hy_ld stHead rfl g 0 rfl _ (HeadM.len hs) (h7.keep_nil hSw).range0) hHeld ?_
    try simp only [Act.put, List.setIfInBounds_toArray, List.set_cons_zero, List.set_cons_succ]
    refine take_c 27 rfl (by kernel_rfl) (by rfl) (fun K hK => ?_)
    go_simp
    refine (hCheck_any h hs _).mono ?_
    rintro e wn ⟨rfl, fn⟩
    refine hK.out _ _ (hHeld.trans_nil fn) (fun hHx => ?_)
    clear hHeld
    have hHeld := hHx
    clear hHx fn
    clear hK K
    try simp only [Act.put, List.setIfInBounds_toArray, List.set_cons_zero, List.set_cons_succ]
    refine take_c 29 rfl (by kernel_rfl) (by rfl) (fun K hK => ?_)
    go_simp
    refine (xhCheck_any h hs _).mono ?_
    rintro e wn ⟨rfl, fn⟩
    refine hK.out _ _ (hHeld.trans_nil fn) (fun hHx => ?_)
    clear hHeld
    have hHeld := hHx
    clear hHx fn
    clear hK K
    try simp only [Act.put, List.setIfInBounds_toArray, List.set_cons_zero, List.set_cons_succ]
    refine take_w 30 (some 62) (v := ?_) rfl rfl (by kernel_rfl) (by kernel_rfl) (by kernel_rfl) (fun _ _ _ h => h) (by rfl) ?_ hHeld ?_
    rotate_left
    · (intro w hSw; (try dsimp only at hSw); go_simp; try with_reducible rfl)
    simp only [Act.put, List.setIfInBounds_toArray, List.set_cons_zero, List.set_cons_succ]
    refine take_w 31 (some 63) (v := ?_) rfl rfl (by kernel_rfl) (by kernel_rfl) (by kernel_rfl) (fun _ _ _ h => h) (by rfl) ?_ hHeld ?_
    rotate_left
    · (intro w hSw; (try dsimp only at hSw); go_simp; try with_reducible rfl)
    simp only [Act.put, List.setIfInBounds_toArray, List.set_cons_zero, List.set_cons_succ]
    refine wpAnyH_done (by kernel_rfl) ?_ _
    have F8 := F7.trans_nil hHeld
    have h8 := h7.keep_nil hHeld
    have r8 := r2.keep_nil hHeld
    clear r2 r3 r4 r6 h7 b7 b9 hHeld
    go_wp2_with fail
    have cc := hDecode_any wn A2 q 512 c2 HD.out.1 r8.rdA r8.rd.2.2 hc2 (hKG.keep F8)
    unfold DecH at cc
    rw [show decHV q = h by rw [decHV, HD.out.2]; rfl, HD.out.2, show errG (some h).isSome 110 = 0 from rfl] at cc
    refine cc.mono ?_
    clear cc
    rintro e w9 ⟨rfl, f9⟩
    have F9 := F8.trans_nil f9
    have h9 := h8.keep_nil f9
    go_wp2_with
      (first
        | (refine wpList_alS stHead (o := ⟨some 11, _, _, _, _, _⟩) rfl rfl ?_; intro wa ha fa za; have ZA := Lib.hid za; clear za; obtain ⟨gb, hgg⟩ : ∃ g, w9.heap.size = g := ⟨_, rfl⟩; rw [hgg] at ha; rw [hgg]; have HGB := Lib.hid hgg; clear hgg)
        | (refine wpList_stB stHead rfl rfl gb rfl h.cells rfl (HeadM.len hs) h.ones zeroH.cells (HeadM.len zeroH_ok) ha ?_; intro wb hb fb zb; have ZB := Lib.hid zb; clear zb; have f10 : Fr [] w9 wb := fa.trans fb (fun i hi => .inr (by have := HGB.out; simp at hi; omega)); have h10 := h9.keep_nil f10)
        | (refine wpList_ldS stHead rfl rfl gb 0 rfl h.cells (HeadM.len hs) hb.range0 ?_)
        | (refine wpList_ldS stHead rfl rfl g 0 rfl h.cells (HeadM.len hs) h10.range0 ?_)
        | (refine wpList_eqS stHead rfl rfl (.inl rfl) rfl rfl true ((head_eq hs hs _).trans (by rw [(HeadM.eqB_iff _ _).2 rfl])) ?_))
    go_ret
    exact ⟨rfl, F9.trans_nil f10⟩
end Go.Proofs.YtlelgeigighecaaDoor
