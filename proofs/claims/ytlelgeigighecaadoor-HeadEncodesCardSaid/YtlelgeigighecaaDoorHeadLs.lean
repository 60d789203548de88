/-
  Layer 11's laws: same.
-/
import Derived.Test.YtlelgeigighecaaDoorHeadK
set_option linter.unusedSimpArgs false
set_option linter.unusedVariables false
set_option linter.unnecessarySimpa false
namespace Go.Proofs.YtlelgeigighecaaDoor
open Go.RowKit

theorem int_at {w : World} {A : Option Addr} {L : List Nat} (hr : Rd w A (ivs L)) {k : Nat} (hk : k < L.length) : ∃ g o, A = some ⟨g, o, none⟩ ∧ w.cell? ⟨g, o + k, none⟩ = some (.int .i64 ((L[k] : Nat) : Int)) := by
  obtain ⟨g, o, e, hc⟩ := hr (by intro h; have := congrArg List.length h; rw [ivs_len, List.length_nil] at this; omega)
  exact ⟨g, o, e, hc k _ (by simp [ivs, hk])⟩

set_option maxRecDepth 100000 in
set_option maxHeartbeats 4000000 in
theorem same11_any (w : World) {a b c d e f g h : Nat} {A B : Option Addr} {n ca cb : Nat} {L : List Nat} (hl : L.length = n) (hn : n ≤ 1000) (hA : Rd w A (ivs L)) (hB : Rd w B (ivs L)) :
    Calls Tryd.prog 18 #[.agg (layC a b c d e (.slice A n ca) f g h).toArray, .agg (layC a b c d e (.slice B n cb) f g h).toArray] w fun e w' => e = .returned (.bool true) ∧ Fr [] w w' := by
  have HL := Lib.hid hl
  clear hl
  go_enter Tryd.func18, Tryd.ntmps18
  go_wp2_with
    (first
      | (refine wpList_boxS rfl rfl (layC a b c d e (.slice A n ca) f g h) rfl ?_; intro wb hb fb zb; have ZB := Lib.hid zb; clear zb; obtain ⟨ga, hga⟩ : ∃ ga, w.heap.size = ga := ⟨_, rfl⟩; rw [hga] at hb; rw [hga]; have HGA := Lib.hid hga; clear hga)
      | (refine wpList_boxS rfl rfl (layC a b c d e (.slice B n cb) f g h) rfl ?_; intro wc hc fc zc; have ZC := Lib.hid zc; clear zc; obtain ⟨gb, hgb⟩ : ∃ gb, wb.heap.size = gb := ⟨_, rfl⟩; rw [hgb] at hc; rw [hgb]; have HGB := Lib.hid hgb; clear hgb; have hb2 := hb.keep_nil fc; have a0 := hb2.cell 0; have a1 := hb2.cell 1; have a2 := hb2.cell 2; have a3 := hb2.cell 3; have a4 := hb2.cell 4; have a5 := hb2.cell 5; have a6 := hb2.cell 6; have a7 := hb2.cell 7; have a8 := hb2.cell 8; have b0 := hc.cell 0; have b1 := hc.cell 1; have b2 := hc.cell 2; have b3 := hc.cell 3; have b4 := hc.cell 4; have b5 := hc.cell 5; have b6 := hc.cell 6; have b7 := hc.cell 7; have b8 := hc.cell 8; simp [layC] at a0 a1 a2 a3 a4 a5 a6 a7 a8 b0 b1 b2 b3 b4 b5 b6 b7 b8))
  have F := fb.trans_nil fc
  have K2 := hA.keep_nil F
  have J2 := hB.keep_nil F
  go_loopw [5] (fun i wr => ∃ k : Nat, k ≤ n ∧ i = .int .i64 k ∧ ∃ q, wr = wc.drewN q) (fun i _ => n - (intOf i).toNat)
  case atStart => exact ⟨0, Nat.zero_le _, rfl, 0, rfl⟩
  case round =>
    obtain ⟨k, hk, rfl, q, rfl⟩ := hrel
    by_cases hlt : k < n
    · have hkl : k < L.length := by rw [HL.out]; exact hlt
      obtain ⟨g1, o1, rfl, d1⟩ := int_at K2 hkl
      obtain ⟨g2, o2, rfl, d2⟩ := int_at J2 hkl
      generalize L[k] = x at *
      go_wp2_with fail
      refine wp_region_held_drew (S := fun w' => w'.cell? ⟨ga, 5, none⟩ = some (.slice (some ⟨g1, o1, none⟩) n ca) ∧ w'.cell? ⟨gb, 5, none⟩ = some (.slice (some ⟨g2, o2, none⟩) n cb) ∧ w'.cell? ⟨g1, o1 + k, none⟩ = some (.int .i64 (x : Int)) ∧ w'.cell? ⟨g2, o2 + k, none⟩ = some (.int .i64 (x : Int))) (by kernel_rfl) ⟨a5, b5, d1, d2⟩ (fun hHeld => ?_)
      refine take_w 0 (some 20) (v := ?_) rfl rfl (by kernel_rfl) (by kernel_rfl) (by kernel_rfl) (fun _ _ _ h => h) (by rfl) ?_ hHeld ?_
      rotate_left
      · (intro w hSw; (try dsimp only at hSw); go_simp; try with_reducible rfl)
      simp only [Act.put, List.setIfInBounds_toArray, List.set_cons_zero, List.set_cons_succ]
      refine take_w 1 (some 21) (v := ?_) rfl rfl (by kernel_rfl) (by kernel_rfl) (by kernel_rfl) (fun _ _ _ h => h) (by rfl) ?_ hHeld ?_
      rotate_left
      · (intro w hSw; (try dsimp only at hSw); go_simp; try with_reducible rfl)
      simp only [Act.put, List.setIfInBounds_toArray, List.set_cons_zero, List.set_cons_succ]
      refine take_w 2 (some 22) (v := ?_) rfl rfl (by kernel_rfl) (by kernel_rfl) (by kernel_rfl) (fun _ _ _ h => h) (by rfl) ?_ hHeld ?_
      rotate_left
      · (intro w hSw; (try dsimp only at hSw); go_simp; try with_reducible rfl)
      simp only [Act.put, List.setIfInBounds_toArray, List.set_cons_zero, List.set_cons_succ]
      refine take_w 3 (some 23) (v := ?_) rfl rfl (by kernel_rfl) (by kernel_rfl) (by kernel_rfl) (fun _ _ _ h => h) (by rfl) ?_ hHeld ?_
      rotate_left
      · (intro w hSw; (try dsimp only at hSw); go_simp; try with_reducible rfl)
      simp only [Act.put, List.setIfInBounds_toArray, List.set_cons_zero, List.set_cons_succ]
      refine take_w 4 (some 24) (v := ?_) rfl rfl (by kernel_rfl) (by kernel_rfl) (by kernel_rfl) (fun _ _ _ h => h) (by rfl) ?_ hHeld ?_
      rotate_left
      · (intro w hSw; (try dsimp only at hSw); go_simp; try with_reducible rfl)
      simp only [Act.put, List.setIfInBounds_toArray, List.set_cons_zero, List.set_cons_succ]
      refine take_w 5 (some 25) (v := ?_) rfl rfl (by kernel_rfl) (by kernel_rfl) (by kernel_rfl) (fun _ _ _ h => h) (by rfl) ?_ hHeld ?_
      rotate_left
      · (intro w hSw; (try dsimp only at hSw); go_simp; try with_reducible rfl)
      simp only [Act.put, List.setIfInBounds_toArray, List.set_cons_zero, List.set_cons_succ]
      refine take_w 6 (some 26) (v := ?_) rfl rfl (by kernel_rfl) (by kernel_rfl) (by kernel_rfl) (fun _ _ _ h => h) (by rfl) ?_ hHeld ?_
      rotate_left
      · (intro w hSw; (try dsimp only at hSw); go_simp; try with_reducible rfl)
      simp only [Act.put, List.setIfInBounds_toArray, List.set_cons_zero, List.set_cons_succ]
      refine take_w 7 (some 27) (v := ?_) rfl rfl (by kernel_rfl) (by kernel_rfl) (by kernel_rfl) (fun _ _ _ h => h) (by rfl) ?_ hHeld ?_
      rotate_left
      · (intro w hSw; (try dsimp only at hSw); go_simp; try with_reducible rfl)
      simp only [Act.put, List.setIfInBounds_toArray, List.set_cons_zero, List.set_cons_succ]
      refine take_w 8 (some 28) (v := ?_) rfl rfl (by kernel_rfl) (by kernel_rfl) (by kernel_rfl) (fun _ _ _ h => h) (by rfl) ?_ hHeld ?_
      rotate_left
      · (intro w hSw; (try dsimp only at hSw); go_simp; try with_reducible rfl)
      simp only [Act.put, List.setIfInBounds_toArray, List.set_cons_zero, List.set_cons_succ]
      refine take_w 9 (some 29) (v := ?_) rfl rfl (by kernel_rfl) (by kernel_rfl) (by kernel_rfl) (fun _ _ _ h => h) (by rfl) ?_ hHeld ?_
      rotate_left
      · (intro w hSw; (try dsimp only at hSw); go_simp; try with_reducible rfl)
      simp only [Act.put, List.setIfInBounds_toArray, List.set_cons_zero, List.set_cons_succ]
      refine take_w 10 (some 30) (v := ?_) rfl rfl (by kernel_rfl) (by kernel_rfl) (by kernel_rfl) (fun _ _ _ h => h) (by rfl) ?_ hHeld ?_
      rotate_left
      · (intro w hSw; (try dsimp only at hSw); go_simp; try with_reducible rfl)
      simp only [Act.put, List.setIfInBounds_toArray, List.set_cons_zero, List.set_cons_succ]
      refine wpAnyH_done (by kernel_rfl) ?_ _
      go_wp2_with fail
      exact ⟨⟨k + 1, by omega, by go_num, q + 1, rfl⟩, by simp [intOf]; omega⟩
    · clear K2 J2 hA hB b5
      as_aux_lemma =>
        go_wp2
        go_ret
        exact ⟨rfl, F.drewN _⟩

end Go.Proofs.YtlelgeigighecaaDoor
