/-
  Layer 11's laws: what every program must do (lives).
-/
import Derived.Test.YtlelgeigighecaaDoorHeadL
set_option linter.unusedSimpArgs false
set_option linter.unusedVariables false
set_option linter.unnecessarySimpa false
namespace Go.Proofs.YtlelgeigighecaaDoor
open Go.RowKit

theorem EncH.yes {w w' : World} {h : HeadM} {e : Ending} (x : EncH w h e w') (hg : h.good = true) : ∃ A c, e = .returned (.tuple #[.slice A 512 c, .int .i64 0]) ∧ 512 ≤ c ∧ Row w' w.heap.size 5 1 (.slice A 512 c) 512 (bvs h.bytes) ∧ Fr [] w w' := by
  obtain ⟨v, h1, h2, h3⟩ := x
  rw [hg] at h1 h2
  obtain ⟨A, c, rfl, hc, -, -, -, -⟩ := h2.shape
  exact ⟨A, c, h1, hc, h2, h3⟩
theorem EncH.no {w w' : World} {h : HeadM} {e : Ending} (x : EncH w h e w') (hg : h.good = false) : ∃ A c, e = .returned (.tuple #[.slice A 0 c, .int .i64 1]) ∧ Row w' w.heap.size 5 1 (.slice A 0 c) 0 (bvs []) ∧ Fr [] w w' := by
  obtain ⟨v, h1, h2, h3⟩ := x
  rw [hg] at h1 h2
  obtain ⟨A, c, rfl, -, -, -, -, -⟩ := h2.shape
  exact ⟨A, c, h1, h2, h3⟩
theorem oneH_lay (v : Value) : layH oneH.sec.toNat oneH.slo.toNat oneH.jou.toNat v = layC 2 4 5 6 22 v 23 36 136 := rfl
theorem oneH_lev : levN oneH.sec.toNat = [1] := rfl
theorem Row.rdA {w : World} {B : Nat} {A : Option Addr} {n n' c : Nat} {xs : List Value} {e : TypeId} {s : Nat} (h : Row w B e s (.slice A n' c) n xs) : Rd w A xs := h.rd.1

set_option maxRecDepth 100000 in
set_option maxHeartbeats 4000000 in
theorem lives11_any (w : World) (hK : KG w) : Calls Tryd.prog 17 #[] w fun e w' => e = .returned (.bool true) ∧ Fr [] w w' := by
  go_enter Tryd.func17, Tryd.ntmps17
  go_wp2_with fail
  refine (one11_any w).mono ?_
  rintro e w1 ⟨rfl, f1⟩
  go_wp2_with fail
  refine (hEncode_any w1 oneH oneH_ok (hK.keep f1)).mono ?_
  intro e w2 hE
  obtain ⟨A, c, rfl, hc, r2, f2⟩ := hE.yes oneH_good
  clear hE
  have F2 := f1.trans_nil f2
  have hbl := (bytes_parts oneH_ok).2.2
  have hdec := decH_bytes oneH_ok oneH_good
  have h8 : oneH.bytes.take 8 = magicH := (hdrB_bytes oneH_ok).1.2
  obtain ⟨b, hb⟩ : ∃ b, oneH.bytes = b := ⟨_, rfl⟩
  rw [hb] at r2 hbl hdec h8
  clear hb f1 f2
  go_wp2_with fail
  have cc := hDecode_any w2 A b 512 c hbl r2.rdA r2.rd.2.2 hc (hK.keep F2)
  unfold DecH at cc
  rw [show decHV b = oneH by rw [decHV, hdec]; rfl, hdec, show errG (some oneH).isSome 110 = 0 from rfl] at cc
  refine cc.mono ?_
  clear cc hdec
  rintro e w3 ⟨rfl, f3⟩
  have F3 := F2.trans_nil f3
  have r3 := r2.keep_nil f3
  clear r2 f3 F2
  go_wp2_with
    (first
      | (refine wpList_alS stHead (o := ⟨some 3, _, _, _, _, _⟩) rfl rfl ?_; intro w4 h4 f4 z4; have Z4 := Lib.hid z4; clear z4; obtain ⟨g3, hg3⟩ : ∃ g, w3.heap.size = g := ⟨_, rfl⟩; rw [hg3] at h4; rw [hg3]; have HG3 := Lib.hid hg3; clear hg3)
      | (refine wpList_stB stHead rfl rfl g3 rfl oneH.cells rfl (HeadM.len oneH_ok) oneH.ones zeroH.cells (HeadM.len zeroH_ok) h4 ?_; intro w5 h5 f5 z5; have Z5 := Lib.hid z5; clear z5))
  have f35 : Fr [] w3 w5 := f4.trans f5 (fun i hi => .inr (by have := HG3.out; simp at hi; omega))
  have F5 := F3.trans_nil f35
  have r5 := r3.keep_nil f35
  clear F3 r3 f4 f5 h4 f35
  refine (one11_any w5).mono ?_
  rintro e w6 ⟨rfl, f6⟩
  go_wp2_with fail
  refine (hLayout_any w6 oneH oneH_ok).mono ?_
  rintro e w7 ⟨v, rfl, r7, f7⟩
  rw [oneH_good, if_pos rfl, if_pos rfl] at r7
  rw [oneH_good, if_pos rfl, oneH_lay, show errG true 1 = 0 from rfl]
  rw [oneH_lev] at r7
  obtain ⟨A7, c7, rfl, -, -, -, -, -⟩ := r7.shape
  have f57 := f6.trans_nil f7
  have F7 := F5.trans_nil f57
  have h7 := h5.keep_nil f57
  have r8 := r5.keep_nil f57
  clear F5 h5 r5 f6 f7 f57
  go_wp2_with
    (first
      | (refine wpList_alS stLay (o := ⟨some 5, _, _, _, _, _⟩) rfl rfl ?_; intro w8 h8' f8 z8; have Z8 := Lib.hid z8; clear z8; obtain ⟨g5, hg5⟩ : ∃ g, w7.heap.size = g := ⟨_, rfl⟩; rw [hg5] at h8'; rw [hg5]; have HG5 := Lib.hid hg5; clear hg5)
      | (refine wpList_stB stLay rfl rfl g5 rfl (layC 2 4 5 6 22 (.slice A7 1 c7) 23 36 136) rfl rfl layC_ones zeroL rfl h8' ?_; intro w9 h9 f9 z9; have Z9 := Lib.hid z9; clear z9)
      | (refine wpList_bld rfl rfl (.agg zeroH.cells.toArray) ?_ ?_; exact headZero _))
  have f79 : Fr [] w7 w9 := f8.trans f9 (fun i hi => .inr (by have := HG5.out; simp at hi; omega))
  have F9 := F7.trans_nil f79
  have h10 := h7.keep_nil f79
  have r10 := r8.keep_nil f79
  clear F7 h7 r8 f8 f9 f79 h8' r7
  refine (hEncode_any w9 zeroH zeroH_ok (hK.keep F9)).mono ?_
  intro e w11 hE
  obtain ⟨A11, c11, rfl, -, f11⟩ := hE.no zeroH_bad
  clear hE
  have F11 := F9.trans_nil f11
  have h12 := h10.keep_nil f11
  have r12 := r10.keep_nil f11
  have l12 := h9.keep_nil f11
  clear F9 h10 r10 h9 f11
  have E8 : ∀ w', Fr [] w11 w' → (convert 28 9 (.slice A 8 c)).run Tryd.prog w' = .ok (.string ⟨#[67, 65, 83, 75, 69, 84, 48, 49]⟩) w' := fun w' f => by
    have hr8 : Rd w' A (bvs (b.take 8)) := by rw [bvs_take]; exact (r12.rdA.keep_nil f).take 8
    have := strB w' A (b.take 8) 8 c (by rw [List.length_take, hbl]; rfl) hr8 (fun h => absurd (r12.rd.2.2 h) (by omega))
    rw [h8] at this
    exact this
  have K8 : (8 : Int) ≤ c := by omega
  have HE8 := Lib.hid E8
  clear E8 hbl h8
  go_wp2_with fail
  have FQ : Fr [] w w11.drew := F11.drew
  refine wp_region_held_drew (S := fun w' => Fr [] w11 w') (by kernel_rfl) ((Fr.refl [] w11).drew) (fun hHeld => ?_)
  refine take_w 0 (some 29) (v := ?_) rfl rfl (by kernel_rfl) (by kernel_rfl) (by kernel_rfl) (fun _ _ _ h => h) (by rfl) ?_ hHeld ?_
  rotate_left
  · (intro w hSw; (try dsimp only at hSw); go_simp; try with_reducible rfl)
  simp only [Act.put, List.setIfInBounds_toArray, List.set_cons_zero, List.set_cons_succ]
  refine take_w 1 (some 30) (v := ?_) rfl rfl (by kernel_rfl) (by kernel_rfl) (by kernel_rfl) (fun _ _ _ h => h) (by rfl) ?_ hHeld ?_
  rotate_left
  · (intro w hSw; (try dsimp only at hSw); go_simp; try with_reducible rfl)
  simp only [Act.put, List.setIfInBounds_toArray, List.set_cons_zero, List.set_cons_succ]
  refine take_w 2 (some 31) (v := ?_) rfl rfl (by kernel_rfl) (by kernel_rfl) (by kernel_rfl) (fun _ _ _ h => h) (by rfl) ?_ hHeld ?_
  rotate_left
  · (intro w hSw; (try dsimp only at hSw); go_simp; try with_reducible rfl)
  simp only [Act.put, List.setIfInBounds_toArray, List.set_cons_zero, List.set_cons_succ]
  refine take_w 3 (some 32) (v := ?_) rfl rfl (by kernel_rfl) (by kernel_rfl) (by kernel_rfl) (fun _ _ _ h => h) (by rfl) ?_ hHeld ?_
  rotate_left
  · (intro w hSw; (try dsimp only at hSw); go_simp; try with_reducible rfl)
  simp only [Act.put, List.setIfInBounds_toArray, List.set_cons_zero, List.set_cons_succ]
  refine take_w 4 (some 33) (v := ?_) rfl rfl (by kernel_rfl) (by kernel_rfl) (by kernel_rfl) (fun _ _ _ h => h) (by rfl) ?_ hHeld ?_
  rotate_left
  · (intro w hSw; (try dsimp only at hSw); go_simp; try with_reducible rfl)
  simp only [Act.put, List.setIfInBounds_toArray, List.set_cons_zero, List.set_cons_succ]
  refine take_w 5 (some 34) (v := ?_) rfl rfl (by kernel_rfl) (by kernel_rfl) (by kernel_rfl) (fun _ _ _ h => h) (by rfl) ?_ hHeld ?_
  rotate_left
  · (intro w hSw; (try dsimp only at hSw); go_simp; try with_reducible rfl)
  simp only [Act.put, List.setIfInBounds_toArray, List.set_cons_zero, List.set_cons_succ]
  refine take_w 6 (some 35) (v := ?_) rfl rfl (by kernel_rfl) (by kernel_rfl) (by kernel_rfl) (fun _ _ _ h => h) (by rfl) ?_ hHeld ?_
  rotate_left
  · (intro w hSw; (try dsimp only at hSw); go_simp; try with_reducible rfl)
  simp only [Act.put, List.setIfInBounds_toArray, List.set_cons_zero, List.set_cons_succ]
  refine take_w 7 (some 36) (v := ?_) rfl rfl (by kernel_rfl) (by kernel_rfl) (by kernel_rfl) (fun _ _ _ h => h) (by rfl) ?_ hHeld ?_
  rotate_left
  · (intro w hSw; (try dsimp only at hSw); go_simp; try with_reducible rfl)
  simp only [Act.put, List.setIfInBounds_toArray, List.set_cons_zero, List.set_cons_succ]
  refine take_w 8 (some 37) (v := ?_) rfl rfl (by kernel_rfl) (by kernel_rfl) (by kernel_rfl) (fun _ _ _ h => h) (by rfl) ?_ hHeld ?_
  rotate_left
  · (intro w hSw; (try dsimp only at hSw); go_simp; try with_reducible rfl)
  simp only [Act.put, List.setIfInBounds_toArray, List.set_cons_zero, List.set_cons_succ]
  refine take_w 9 (some 38) (v := ?_) rfl rfl (by kernel_rfl) (by kernel_rfl) (by kernel_rfl) (fun _ _ _ h => h) (by rfl) ?_ hHeld ?_
  rotate_left
  · (intro w hSw; (try dsimp only at hSw); go_simp; try with_reducible rfl)
  simp only [Act.put, List.setIfInBounds_toArray, List.set_cons_zero, List.set_cons_succ]
  refine take_w 10 (some 39) (v := ?_) rfl rfl (by kernel_rfl) (by kernel_rfl) (by kernel_rfl) (fun _ _ _ h => h) (by rfl) ?_ hHeld ?_
  rotate_left
  · (intro w hSw; (try dsimp only at hSw); go_simp; try with_reducible rfl)
  simp only [Act.put, List.setIfInBounds_toArray, List.set_cons_zero, List.set_cons_succ]
  refine take_w 11 (some 40) (v := ?_) rfl rfl (by kernel_rfl) (by kernel_rfl) (by kernel_rfl) (fun _ _ _ h => h) (by rfl) ?_ hHeld ?_
  rotate_left
  · (intro w hSw; (try dsimp only at hSw); go_simp; try with_reducible rfl)
  simp only [Act.put, List.setIfInBounds_toArray, List.set_cons_zero, List.set_cons_succ]
  refine take_w 12 (some 41) (v := ?_) rfl rfl (by kernel_rfl) (by kernel_rfl) (by kernel_rfl) (fun _ _ _ h => h) (by rfl) ?_ hHeld ?_
  rotate_left
  · (intro w hSw; (try dsimp only at hSw); go_simp; try with_reducible rfl)
  simp only [Act.put, List.setIfInBounds_toArray, List.set_cons_zero, List.set_cons_succ]
  refine take_w 13 (some 42) (v := ?_) rfl rfl (by kernel_rfl) (by kernel_rfl) (by kernel_rfl) (fun _ _ _ h => h) (by rfl) ?_ hHeld ?_
  rotate_left
  · (intro w hSw; (try dsimp only at hSw); go_simp; try with_reducible rfl)
  simp only [Act.put, List.setIfInBounds_toArray, List.set_cons_zero, List.set_cons_succ]
  refine take_w 14 (some 43) (v := ?_) rfl rfl (by kernel_rfl) (by kernel_rfl) (by kernel_rfl) (fun _ _ _ h => h) (by rfl) ?_ hHeld ?_
  rotate_left
  · (intro w hSw; (try dsimp only at hSw); go_simp; try with_reducible rfl)
  simp only [Act.put, List.setIfInBounds_toArray, List.set_cons_zero, List.set_cons_succ]
  refine take_w 15 (some 44) (v := .agg oneH.cells.toArray) rfl rfl (by kernel_rfl) (by kernel_rfl) (by kernel_rfl) (fun _ _ _ h => h) (by rfl) (fun w hSw => hy_ld stHead rfl g3 0 rfl _ (HeadM.len oneH_ok) (h12.keep_nil hSw).range0) hHeld ?_
  try simp only [Act.put, List.setIfInBounds_toArray, List.set_cons_zero, List.set_cons_succ]
  refine take_c 16 rfl (by kernel_rfl) (by rfl) (fun K hK => ?_)
  go_simp
  refine (one11_any _).mono ?_
  rintro e wn ⟨rfl, fn⟩
  refine hK.out _ _ (hHeld.trans_nil fn) (fun hHx => ?_)
  clear hHeld
  have hHeld := hHx
  clear hHx fn
  clear hK K
  try simp only [Act.put, List.setIfInBounds_toArray, List.set_cons_zero, List.set_cons_succ]
  refine take_w 17 (some 46) (v := .bool true) rfl rfl (by kernel_rfl) (by kernel_rfl) (by kernel_rfl) (fun _ _ _ h => h) (by rfl) (fun w hS => hy_eq stHead rfl (.inl rfl) rfl rfl true ((head_eq oneH_ok oneH_ok w).trans (by rw [(HeadM.eqB_iff _ _).2 rfl]))) hHeld ?_
  try simp only [Act.put, List.setIfInBounds_toArray, List.set_cons_zero, List.set_cons_succ]
  refine take_w 18 (some 47) (v := ?_) rfl rfl (by kernel_rfl) (by kernel_rfl) (by kernel_rfl) (fun _ _ _ h => h) (by rfl) ?_ hHeld ?_
  rotate_left
  · (intro w hSw; (try dsimp only at hSw); go_simp; try with_reducible rfl)
  simp only [Act.put, List.setIfInBounds_toArray, List.set_cons_zero, List.set_cons_succ]
  refine take_w 19 (some 48) (v := ?_) rfl rfl (by kernel_rfl) (by kernel_rfl) (by kernel_rfl) (fun _ _ _ h => h) (by rfl) ?_ hHeld ?_
  rotate_left
  · (intro w hSw; (try dsimp only at hSw); go_simp; try with_reducible rfl)
  simp only [Act.put, List.setIfInBounds_toArray, List.set_cons_zero, List.set_cons_succ]
  refine take_w 20 (some 49) (v := ?_) rfl rfl (by kernel_rfl) (by kernel_rfl) (by kernel_rfl) (fun _ _ _ h => h) (by rfl) ?_ hHeld ?_
  rotate_left
  · (intro w hSw; (try dsimp only at hSw); go_simp; try with_reducible rfl)
  simp only [Act.put, List.setIfInBounds_toArray, List.set_cons_zero, List.set_cons_succ]
  refine take_w 21 (some 50) (v := ?_) rfl rfl (by kernel_rfl) (by kernel_rfl) (by kernel_rfl) (fun _ _ _ h => h) (by rfl) ?_ hHeld ?_
  rotate_left
  · (intro w hSw; (try dsimp only at hSw); go_simp; try with_reducible rfl)
  simp only [Act.put, List.setIfInBounds_toArray, List.set_cons_zero, List.set_cons_succ]
  refine take_w 22 (some 51) (v := ?_) rfl rfl (by kernel_rfl) (by kernel_rfl) (by kernel_rfl) (fun _ _ _ h => h) (by rfl) ?_ hHeld ?_
  rotate_left
  · (intro w hSw; (try dsimp only at hSw); go_simp; try with_reducible rfl)
  simp only [Act.put, List.setIfInBounds_toArray, List.set_cons_zero, List.set_cons_succ]
  refine take_w 23 (some 52) (v := ?_) rfl rfl (by kernel_rfl) (by kernel_rfl) (by kernel_rfl) (fun _ _ _ h => h) (by rfl) ?_ hHeld ?_
  rotate_left
  · (intro w hSw; (try dsimp only at hSw); go_simp; try with_reducible rfl)
  simp only [Act.put, List.setIfInBounds_toArray, List.set_cons_zero, List.set_cons_succ]
  refine take_w 24 (some 53) (v := ?_) rfl rfl (by kernel_rfl) (by kernel_rfl) (by kernel_rfl) (fun _ _ _ h => h) (by rfl) ?_ hHeld ?_
  rotate_left
  · (intro w hSw; (try dsimp only at hSw); go_simp; try with_reducible rfl)
  simp only [Act.put, List.setIfInBounds_toArray, List.set_cons_zero, List.set_cons_succ]
  refine take_w 25 (some 54) (v := ?_) rfl rfl (by kernel_rfl) (by kernel_rfl) (by kernel_rfl) (fun _ _ _ h => h) (by rfl) ?_ hHeld ?_
  rotate_left
  · (intro w hSw; (try dsimp only at hSw); go_simp; try with_reducible rfl)
  simp only [Act.put, List.setIfInBounds_toArray, List.set_cons_zero, List.set_cons_succ]
  refine take_w 26 (some 55) (v := ?_) rfl rfl (by kernel_rfl) (by kernel_rfl) (by kernel_rfl) (fun _ _ _ h => h) (by rfl) ?_ hHeld ?_
  rotate_left
  · (intro w hSw; (try dsimp only at hSw); go_simp; try with_reducible rfl)
  simp only [Act.put, List.setIfInBounds_toArray, List.set_cons_zero, List.set_cons_succ]
  refine take_w 27 (some 56) (v := .string ⟨#[67, 65, 83, 75, 69, 84, 48, 49]⟩) rfl rfl (by kernel_rfl) (by kernel_rfl) (by kernel_rfl) (fun _ _ _ h => h) (by rfl) (fun w hSw => by have E := HE8.out w hSw; go_simp) hHeld ?_
  try simp only [Act.put, List.setIfInBounds_toArray, List.set_cons_zero, List.set_cons_succ]
  refine take_w 28 (some 57) (v := ?_) rfl rfl (by kernel_rfl) (by kernel_rfl) (by kernel_rfl) (fun _ _ _ h => h) (by rfl) ?_ hHeld ?_
  rotate_left
  · (intro w hSw; (try dsimp only at hSw); go_simp; try with_reducible rfl)
  simp only [Act.put, List.setIfInBounds_toArray, List.set_cons_zero, List.set_cons_succ]
  refine take_w 29 (some 58) (v := ?_) rfl rfl (by kernel_rfl) (by kernel_rfl) (by kernel_rfl) (fun _ _ _ h => h) (by rfl) ?_ hHeld ?_
  rotate_left
  · (intro w hSw; (try dsimp only at hSw); go_simp; try with_reducible rfl)
  simp only [Act.put, List.setIfInBounds_toArray, List.set_cons_zero, List.set_cons_succ]
  refine take_w 30 (some 59) (v := ?_) rfl rfl (by kernel_rfl) (by kernel_rfl) (by kernel_rfl) (fun _ _ _ h => h) (by rfl) ?_ hHeld ?_
  rotate_left
  · (intro w hSw; (try dsimp only at hSw); go_simp; try with_reducible rfl)
  simp only [Act.put, List.setIfInBounds_toArray, List.set_cons_zero, List.set_cons_succ]
  refine take_w 31 (some 60) (v := ?_) rfl rfl (by kernel_rfl) (by kernel_rfl) (by kernel_rfl) (fun _ _ _ h => h) (by rfl) ?_ hHeld ?_
  rotate_left
  · (intro w hSw; (try dsimp only at hSw); go_simp; try with_reducible rfl)
  simp only [Act.put, List.setIfInBounds_toArray, List.set_cons_zero, List.set_cons_succ]
  refine take_w 32 (some 61) (v := .int .i64 36) rfl rfl (by kernel_rfl) (by kernel_rfl) (by kernel_rfl) (fun _ _ _ h => h) (by rfl) (fun w hSw => by have c := (l12.keep_nil hSw).cell 7; simp [layC] at c; go_simp) hHeld ?_
  try simp only [Act.put, List.setIfInBounds_toArray, List.set_cons_zero, List.set_cons_succ]
  refine take_w 33 (some 62) (v := ?_) rfl rfl (by kernel_rfl) (by kernel_rfl) (by kernel_rfl) (fun _ _ _ h => h) (by rfl) ?_ hHeld ?_
  rotate_left
  · (intro w hSw; (try dsimp only at hSw); go_simp; try with_reducible rfl)
  simp only [Act.put, List.setIfInBounds_toArray, List.set_cons_zero, List.set_cons_succ]
  refine take_w 34 (some 63) (v := ?_) rfl rfl (by kernel_rfl) (by kernel_rfl) (by kernel_rfl) (fun _ _ _ h => h) (by rfl) ?_ hHeld ?_
  rotate_left
  · (intro w hSw; (try dsimp only at hSw); go_simp; try with_reducible rfl)
  simp only [Act.put, List.setIfInBounds_toArray, List.set_cons_zero, List.set_cons_succ]
  refine take_w 35 (some 64) (v := ?_) rfl rfl (by kernel_rfl) (by kernel_rfl) (by kernel_rfl) (fun _ _ _ h => h) (by rfl) ?_ hHeld ?_
  rotate_left
  · (intro w hSw; (try dsimp only at hSw); go_simp; try with_reducible rfl)
  simp only [Act.put, List.setIfInBounds_toArray, List.set_cons_zero, List.set_cons_succ]
  refine take_w 36 (some 65) (v := ?_) rfl rfl (by kernel_rfl) (by kernel_rfl) (by kernel_rfl) (fun _ _ _ h => h) (by rfl) ?_ hHeld ?_
  rotate_left
  · (intro w hSw; (try dsimp only at hSw); go_simp; try with_reducible rfl)
  simp only [Act.put, List.setIfInBounds_toArray, List.set_cons_zero, List.set_cons_succ]
  refine take_w 37 (some 66) (v := .int .i64 136) rfl rfl (by kernel_rfl) (by kernel_rfl) (by kernel_rfl) (fun _ _ _ h => h) (by rfl) (fun w hSw => by have c := (l12.keep_nil hSw).cell 8; simp [layC] at c; go_simp) hHeld ?_
  try simp only [Act.put, List.setIfInBounds_toArray, List.set_cons_zero, List.set_cons_succ]
  refine take_w 38 (some 67) (v := ?_) rfl rfl (by kernel_rfl) (by kernel_rfl) (by kernel_rfl) (fun _ _ _ h => h) (by rfl) ?_ hHeld ?_
  rotate_left
  · (intro w hSw; (try dsimp only at hSw); go_simp; try with_reducible rfl)
  simp only [Act.put, List.setIfInBounds_toArray, List.set_cons_zero, List.set_cons_succ]
  refine take_w 39 (some 68) (v := ?_) rfl rfl (by kernel_rfl) (by kernel_rfl) (by kernel_rfl) (fun _ _ _ h => h) (by rfl) ?_ hHeld ?_
  rotate_left
  · (intro w hSw; (try dsimp only at hSw); go_simp; try with_reducible rfl)
  simp only [Act.put, List.setIfInBounds_toArray, List.set_cons_zero, List.set_cons_succ]
  refine take_w 40 (some 69) (v := ?_) rfl rfl (by kernel_rfl) (by kernel_rfl) (by kernel_rfl) (fun _ _ _ h => h) (by rfl) ?_ hHeld ?_
  rotate_left
  · (intro w hSw; (try dsimp only at hSw); go_simp; try with_reducible rfl)
  simp only [Act.put, List.setIfInBounds_toArray, List.set_cons_zero, List.set_cons_succ]
  refine take_w 41 (some 70) (v := ?_) rfl rfl (by kernel_rfl) (by kernel_rfl) (by kernel_rfl) (fun _ _ _ h => h) (by rfl) ?_ hHeld ?_
  rotate_left
  · (intro w hSw; (try dsimp only at hSw); go_simp; try with_reducible rfl)
  simp only [Act.put, List.setIfInBounds_toArray, List.set_cons_zero, List.set_cons_succ]
  refine take_w 42 (some 71) (v := .slice A7 1 c7) rfl rfl (by kernel_rfl) (by kernel_rfl) (by kernel_rfl) (fun _ _ _ h => h) (by rfl) (fun w hSw => by have c := (l12.keep_nil hSw).cell 5; simp [layC] at c; go_simp) hHeld ?_
  try simp only [Act.put, List.setIfInBounds_toArray, List.set_cons_zero, List.set_cons_succ]
  refine take_w 43 (some 72) (v := ?_) rfl rfl (by kernel_rfl) (by kernel_rfl) (by kernel_rfl) (fun _ _ _ h => h) (by rfl) ?_ hHeld ?_
  rotate_left
  · (intro w hSw; (try dsimp only at hSw); go_simp; try with_reducible rfl)
  simp only [Act.put, List.setIfInBounds_toArray, List.set_cons_zero, List.set_cons_succ]
  refine take_w 44 (some 73) (v := ?_) rfl rfl (by kernel_rfl) (by kernel_rfl) (by kernel_rfl) (fun _ _ _ h => h) (by rfl) ?_ hHeld ?_
  rotate_left
  · (intro w hSw; (try dsimp only at hSw); go_simp; try with_reducible rfl)
  simp only [Act.put, List.setIfInBounds_toArray, List.set_cons_zero, List.set_cons_succ]
  refine take_w 45 (some 74) (v := ?_) rfl rfl (by kernel_rfl) (by kernel_rfl) (by kernel_rfl) (fun _ _ _ h => h) (by rfl) ?_ hHeld ?_
  rotate_left
  · (intro w hSw; (try dsimp only at hSw); go_simp; try with_reducible rfl)
  simp only [Act.put, List.setIfInBounds_toArray, List.set_cons_zero, List.set_cons_succ]
  refine take_w 46 (some 0) (v := ?_) rfl rfl (by kernel_rfl) (by kernel_rfl) (by kernel_rfl) (fun _ _ _ h => h) (by rfl) ?_ hHeld ?_
  rotate_left
  · (intro w hSw; (try dsimp only at hSw); go_simp; try with_reducible rfl)
  simp only [Act.put, List.setIfInBounds_toArray, List.set_cons_zero, List.set_cons_succ]
  refine wpAnyH_done (by kernel_rfl) ?_ _
  go_wp2_with fail
  go_ret
  exact ⟨rfl, F11.trans_nil hHeld⟩
end Go.Proofs.YtlelgeigighecaaDoor
