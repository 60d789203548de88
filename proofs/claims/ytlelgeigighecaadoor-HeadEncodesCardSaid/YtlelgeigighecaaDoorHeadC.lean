/-
  Contracts of layer 11: Check of a header and its reference.
-/
import Derived.Test.YtlelgeigighecaaDoorHeadB
set_option linter.unusedSimpArgs false
set_option linter.unusedVariables false
set_option linter.unnecessarySimpa false
namespace Go.Proofs.YtlelgeigighecaaDoor
open Go.RowKit

section
variable {w : World} {g : Nat} {h : HeadM}
theorem par_rng (hb : Blk w g 27 h.cells.toArray) : w.rangeAt g 5 [.int .i64 h.tim, .int .i64 h.mem, .int .i64 h.lan] := hb.range 5 _ (fun j u hu => by
  match j, hu with
  | 0, hu => exact hu
  | 1, hu => exact hu
  | 2, hu => exact hu)
theorem head_cells (hb : Blk w g 27 h.cells.toArray) : w.cell? ⟨g, 0, none⟩ = some (.int .u64 (h.gen : Int)) ∧ w.cell? ⟨g, 1, none⟩ = some (.int .i64 h.sec) ∧ w.cell? ⟨g, 2, none⟩ = some (.int .i64 h.slo) ∧ w.cell? ⟨g, 3, none⟩ = some (.int .i64 h.jou) ∧ w.cell? ⟨g, 4, none⟩ = some (.int .i64 h.seg) ∧ w.cell? ⟨g, 5, none⟩ = some (.int .i64 h.tim) ∧ w.cell? ⟨g, 6, none⟩ = some (.int .i64 h.mem) ∧ w.cell? ⟨g, 7, none⟩ = some (.int .i64 h.lan) :=
  ⟨hb.cell 0, hb.cell 1, hb.cell 2, hb.cell 3, hb.cell 4, hb.cell 5, hb.cell 6, hb.cell 7⟩
end

set_option maxRecDepth 100000 in
set_option maxHeartbeats 4000000 in
theorem hCheck_any (h : HeadM) (hs : h.ok) (w : World) : Calls Tryd.prog 19 #[.agg h.cells.toArray] w fun e w' => e = .returned (.int .i64 (errG h.good 1)) ∧ Fr [] w w' := by
  cases d0 : ((h.gen : Int) == 0)
  rotate_left
  ·
    have H := Lib.hid (show h.good = false by simp [HeadM.good, *])
    go_enter Tryd.func19, Tryd.ntmps19
    go_wp2_with
      (first
        | (refine wpList_boxS rfl rfl h.cells rfl ?_; intro w1 h1 f1 z1; obtain ⟨c0, c1, c2, c3, c4, c5, c6, c7⟩ := head_cells h1; clear z1)
        | (go_at_call 48; refine (hWithin_any _ _ _ _).mono ?_; rintro e w' ⟨rfl, rfl⟩)
        | (refine wpList_ldS stPar rfl rfl w.heap.size 5 rfl _ rfl (par_rng h1) ?_))
    go_ret
    exact ⟨by rw [H.out]; rfl, f1⟩
  cases d1 : wth h.sec 1 1024
  ·
    have H := Lib.hid (show h.good = false by simp [HeadM.good, *])
    go_enter Tryd.func19, Tryd.ntmps19
    go_wp2_with
      (first
        | (refine wpList_boxS rfl rfl h.cells rfl ?_; intro w1 h1 f1 z1; obtain ⟨c0, c1, c2, c3, c4, c5, c6, c7⟩ := head_cells h1; clear z1)
        | (go_at_call 48; refine (hWithin_any _ _ _ _).mono ?_; rintro e w' ⟨rfl, rfl⟩)
        | (refine wpList_ldS stPar rfl rfl w.heap.size 5 rfl _ rfl (par_rng h1) ?_))
    go_ret
    exact ⟨by rw [H.out]; rfl, f1⟩
  cases d2 : wth h.slo 1 8
  ·
    have H := Lib.hid (show h.good = false by simp [HeadM.good, *])
    go_enter Tryd.func19, Tryd.ntmps19
    go_wp2_with
      (first
        | (refine wpList_boxS rfl rfl h.cells rfl ?_; intro w1 h1 f1 z1; obtain ⟨c0, c1, c2, c3, c4, c5, c6, c7⟩ := head_cells h1; clear z1)
        | (go_at_call 48; refine (hWithin_any _ _ _ _).mono ?_; rintro e w' ⟨rfl, rfl⟩)
        | (refine wpList_ldS stPar rfl rfl w.heap.size 5 rfl _ rfl (par_rng h1) ?_))
    go_ret
    exact ⟨by rw [H.out]; rfl, f1⟩
  cases d3 : wth h.jou 16 256
  ·
    have H := Lib.hid (show h.good = false by simp [HeadM.good, *])
    go_enter Tryd.func19, Tryd.ntmps19
    go_wp2_with
      (first
        | (refine wpList_boxS rfl rfl h.cells rfl ?_; intro w1 h1 f1 z1; obtain ⟨c0, c1, c2, c3, c4, c5, c6, c7⟩ := head_cells h1; clear z1)
        | (go_at_call 48; refine (hWithin_any _ _ _ _).mono ?_; rintro e w' ⟨rfl, rfl⟩)
        | (refine wpList_ldS stPar rfl rfl w.heap.size 5 rfl _ rfl (par_rng h1) ?_))
    go_ret
    exact ⟨by rw [H.out]; rfl, f1⟩
  cases d4 : wth h.seg 1 16
  ·
    have H := Lib.hid (show h.good = false by simp [HeadM.good, *])
    go_enter Tryd.func19, Tryd.ntmps19
    go_wp2_with
      (first
        | (refine wpList_boxS rfl rfl h.cells rfl ?_; intro w1 h1 f1 z1; obtain ⟨c0, c1, c2, c3, c4, c5, c6, c7⟩ := head_cells h1; clear z1)
        | (go_at_call 48; refine (hWithin_any _ _ _ _).mono ?_; rintro e w' ⟨rfl, rfl⟩)
        | (refine wpList_ldS stPar rfl rfl w.heap.size 5 rfl _ rfl (par_rng h1) ?_))
    go_ret
    exact ⟨by rw [H.out]; rfl, f1⟩
  have hw : IntKind.i64.wrap (h.seg + 10) = h.seg + 10 := by have := wth_yes d4; rw [IntWalk.i64_in _ (by omega)]
  by_cases d5 : h.jou < h.seg + 10
  ·
    have H := Lib.hid (show h.good = false by simp [HeadM.good, *])
    go_enter Tryd.func19, Tryd.ntmps19
    go_wp2_with
      (first
        | (refine wpList_boxS rfl rfl h.cells rfl ?_; intro w1 h1 f1 z1; obtain ⟨c0, c1, c2, c3, c4, c5, c6, c7⟩ := head_cells h1; clear z1)
        | (go_at_call 48; refine (hWithin_any _ _ _ _).mono ?_; rintro e w' ⟨rfl, rfl⟩)
        | (refine wpList_ldS stPar rfl rfl w.heap.size 5 rfl _ rfl (par_rng h1) ?_))
    go_ret
    exact ⟨by rw [H.out]; rfl, f1⟩
  have cc := fun w => aCheck_any h.tim h.mem h.lan w hs.lan
  cases d6 : parG h.tim h.mem h.lan
  · have H := Lib.hid (show h.good = false by simp [HeadM.good, *])
    rw [d6] at cc
    have CC := Lib.hid cc
    clear cc d6
    go_enter Tryd.func19, Tryd.ntmps19
    go_wp2_with
      (first
        | (refine wpList_boxS rfl rfl h.cells rfl ?_; intro w1 h1 f1 z1; obtain ⟨c0, c1, c2, c3, c4, c5, c6, c7⟩ := head_cells h1; clear z1)
        | (go_at_call 48; refine (hWithin_any _ _ _ _).mono ?_; rintro e w' ⟨rfl, rfl⟩)
        | (refine wpList_ldS stPar rfl rfl w.heap.size 5 rfl _ rfl (par_rng h1) ?_))
    refine (CC.out _).mono ?_
    rintro e w2 ⟨rfl, f2⟩
    rw [show errG false 80 = 80 from rfl]
    go_wp2_with fail
    go_ret
    exact ⟨by rw [H.out]; rfl, f1.trans_nil f2⟩
  · have H := Lib.hid (show h.good = true by simp [HeadM.good, *])
    rw [d6] at cc
    have CC := Lib.hid cc
    clear cc d6
    go_enter Tryd.func19, Tryd.ntmps19
    go_wp2_with
      (first
        | (refine wpList_boxS rfl rfl h.cells rfl ?_; intro w1 h1 f1 z1; obtain ⟨c0, c1, c2, c3, c4, c5, c6, c7⟩ := head_cells h1; clear z1)
        | (go_at_call 48; refine (hWithin_any _ _ _ _).mono ?_; rintro e w' ⟨rfl, rfl⟩)
        | (refine wpList_ldS stPar rfl rfl w.heap.size 5 rfl _ rfl (par_rng h1) ?_))
    refine (CC.out _).mono ?_
    rintro e w2 ⟨rfl, f2⟩
    rw [show errG true 80 = 0 from rfl]
    go_wp2_with fail
    go_ret
    exact ⟨by rw [H.out]; rfl, f1.trans_nil f2⟩

set_option maxRecDepth 100000 in
set_option maxHeartbeats 4000000 in
theorem xhCheck_any (h : HeadM) (hs : h.ok) (w : World) : Calls Tryd.prog 20 #[.agg h.cells.toArray] w fun e w' => e = .returned (.int .i64 (errG h.good 1)) ∧ Fr [] w w' := by
  cases d0 : ((h.gen : Int) == 0)
  rotate_left
  · have k : (h.gen : Int) < 1 := by have := eq_of_beq d0; omega
    have H := Lib.hid (show h.good = false by simp [HeadM.good, *])
    go_enter Tryd.func20, Tryd.ntmps20
    go_wp2_with
      (first
        | (refine wpList_boxS rfl rfl h.cells rfl ?_; intro w1 h1 f1 z1; obtain ⟨c0, c1, c2, c3, c4, c5, c6, c7⟩ := head_cells h1; clear z1)
        | (refine wpList_ldS stPar rfl rfl w.heap.size 5 rfl _ rfl (par_rng h1) ?_))
    go_ret
    exact ⟨by rw [H.out]; rfl, f1⟩
  have k0 : ¬ ((h.gen : Int) < 1) := by have := ne_of_beq_false d0; omega
  cases d1 : wth h.sec 1 1024
  ·
    rcases wth_no d1 with k | k
    ·
      have H := Lib.hid (show h.good = false by simp [HeadM.good, *])
      go_enter Tryd.func20, Tryd.ntmps20
      go_wp2_with
        (first
          | (refine wpList_boxS rfl rfl h.cells rfl ?_; intro w1 h1 f1 z1; obtain ⟨c0, c1, c2, c3, c4, c5, c6, c7⟩ := head_cells h1; clear z1)
          | (refine wpList_ldS stPar rfl rfl w.heap.size 5 rfl _ rfl (par_rng h1) ?_))
      go_ret
      exact ⟨by rw [H.out]; rfl, f1⟩
    · have k' : ¬ (h.sec < 1) := by omega
      have H := Lib.hid (show h.good = false by simp [HeadM.good, *])
      go_enter Tryd.func20, Tryd.ntmps20
      go_wp2_with
        (first
          | (refine wpList_boxS rfl rfl h.cells rfl ?_; intro w1 h1 f1 z1; obtain ⟨c0, c1, c2, c3, c4, c5, c6, c7⟩ := head_cells h1; clear z1)
          | (refine wpList_ldS stPar rfl rfl w.heap.size 5 rfl _ rfl (par_rng h1) ?_))
      go_ret
      exact ⟨by rw [H.out]; rfl, f1⟩
  have k1 := wth_yes d1
  cases d2 : wth h.slo 1 8
  ·
    rcases wth_no d2 with k | k
    ·
      have H := Lib.hid (show h.good = false by simp [HeadM.good, *])
      go_enter Tryd.func20, Tryd.ntmps20
      go_wp2_with
        (first
          | (refine wpList_boxS rfl rfl h.cells rfl ?_; intro w1 h1 f1 z1; obtain ⟨c0, c1, c2, c3, c4, c5, c6, c7⟩ := head_cells h1; clear z1)
          | (refine wpList_ldS stPar rfl rfl w.heap.size 5 rfl _ rfl (par_rng h1) ?_))
      go_ret
      exact ⟨by rw [H.out]; rfl, f1⟩
    · have k' : ¬ (h.slo < 1) := by omega
      have H := Lib.hid (show h.good = false by simp [HeadM.good, *])
      go_enter Tryd.func20, Tryd.ntmps20
      go_wp2_with
        (first
          | (refine wpList_boxS rfl rfl h.cells rfl ?_; intro w1 h1 f1 z1; obtain ⟨c0, c1, c2, c3, c4, c5, c6, c7⟩ := head_cells h1; clear z1)
          | (refine wpList_ldS stPar rfl rfl w.heap.size 5 rfl _ rfl (par_rng h1) ?_))
      go_ret
      exact ⟨by rw [H.out]; rfl, f1⟩
  have k2 := wth_yes d2
  cases d3 : wth h.jou 16 256
  ·
    rcases wth_no d3 with k | k
    ·
      have H := Lib.hid (show h.good = false by simp [HeadM.good, *])
      go_enter Tryd.func20, Tryd.ntmps20
      go_wp2_with
        (first
          | (refine wpList_boxS rfl rfl h.cells rfl ?_; intro w1 h1 f1 z1; obtain ⟨c0, c1, c2, c3, c4, c5, c6, c7⟩ := head_cells h1; clear z1)
          | (refine wpList_ldS stPar rfl rfl w.heap.size 5 rfl _ rfl (par_rng h1) ?_))
      go_ret
      exact ⟨by rw [H.out]; rfl, f1⟩
    · have k' : ¬ (h.jou < 16) := by omega
      have H := Lib.hid (show h.good = false by simp [HeadM.good, *])
      go_enter Tryd.func20, Tryd.ntmps20
      go_wp2_with
        (first
          | (refine wpList_boxS rfl rfl h.cells rfl ?_; intro w1 h1 f1 z1; obtain ⟨c0, c1, c2, c3, c4, c5, c6, c7⟩ := head_cells h1; clear z1)
          | (refine wpList_ldS stPar rfl rfl w.heap.size 5 rfl _ rfl (par_rng h1) ?_))
      go_ret
      exact ⟨by rw [H.out]; rfl, f1⟩
  have k3 := wth_yes d3
  cases d4 : wth h.seg 1 16
  ·
    rcases wth_no d4 with k | k
    ·
      have H := Lib.hid (show h.good = false by simp [HeadM.good, *])
      go_enter Tryd.func20, Tryd.ntmps20
      go_wp2_with
        (first
          | (refine wpList_boxS rfl rfl h.cells rfl ?_; intro w1 h1 f1 z1; obtain ⟨c0, c1, c2, c3, c4, c5, c6, c7⟩ := head_cells h1; clear z1)
          | (refine wpList_ldS stPar rfl rfl w.heap.size 5 rfl _ rfl (par_rng h1) ?_))
      go_ret
      exact ⟨by rw [H.out]; rfl, f1⟩
    · have k' : ¬ (h.seg < 1) := by omega
      have H := Lib.hid (show h.good = false by simp [HeadM.good, *])
      go_enter Tryd.func20, Tryd.ntmps20
      go_wp2_with
        (first
          | (refine wpList_boxS rfl rfl h.cells rfl ?_; intro w1 h1 f1 z1; obtain ⟨c0, c1, c2, c3, c4, c5, c6, c7⟩ := head_cells h1; clear z1)
          | (refine wpList_ldS stPar rfl rfl w.heap.size 5 rfl _ rfl (par_rng h1) ?_))
      go_ret
      exact ⟨by rw [H.out]; rfl, f1⟩
  have k4 := wth_yes d4
  have hw : IntKind.i64.wrap (h.seg + 10) = h.seg + 10 := by rw [IntWalk.i64_in _ (by omega)]
  by_cases d5 : h.jou < h.seg + 10
  ·
    have H := Lib.hid (show h.good = false by simp [HeadM.good, *])
    go_enter Tryd.func20, Tryd.ntmps20
    go_wp2_with
      (first
        | (refine wpList_boxS rfl rfl h.cells rfl ?_; intro w1 h1 f1 z1; obtain ⟨c0, c1, c2, c3, c4, c5, c6, c7⟩ := head_cells h1; clear z1)
        | (refine wpList_ldS stPar rfl rfl w.heap.size 5 rfl _ rfl (par_rng h1) ?_))
    go_ret
    exact ⟨by rw [H.out]; rfl, f1⟩
  have cc := fun w => xaCheck_any h.tim h.mem h.lan w hs.lan
  cases d6 : parG h.tim h.mem h.lan
  · have H := Lib.hid (show h.good = false by simp [HeadM.good, *])
    rw [d6] at cc
    have CC := Lib.hid cc
    clear cc d6
    go_enter Tryd.func20, Tryd.ntmps20
    go_wp2_with
      (first
        | (refine wpList_boxS rfl rfl h.cells rfl ?_; intro w1 h1 f1 z1; obtain ⟨c0, c1, c2, c3, c4, c5, c6, c7⟩ := head_cells h1; clear z1)
        | (refine wpList_ldS stPar rfl rfl w.heap.size 5 rfl _ rfl (par_rng h1) ?_))
    refine (CC.out _).mono ?_
    rintro e w2 ⟨rfl, f2⟩
    rw [show errG false 80 = 80 from rfl]
    go_wp2_with fail
    go_ret
    exact ⟨by rw [H.out]; rfl, f1.trans_nil f2⟩
  · have H := Lib.hid (show h.good = true by simp [HeadM.good, *])
    rw [d6] at cc
    have CC := Lib.hid cc
    clear cc d6
    go_enter Tryd.func20, Tryd.ntmps20
    go_wp2_with
      (first
        | (refine wpList_boxS rfl rfl h.cells rfl ?_; intro w1 h1 f1 z1; obtain ⟨c0, c1, c2, c3, c4, c5, c6, c7⟩ := head_cells h1; clear z1)
        | (refine wpList_ldS stPar rfl rfl w.heap.size 5 rfl _ rfl (par_rng h1) ?_))
    refine (CC.out _).mono ?_
    rintro e w2 ⟨rfl, f2⟩
    rw [show errG true 80 = 0 from rfl]
    go_wp2_with fail
    go_ret
    exact ⟨by rw [H.out]; rfl, f1.trans_nil f2⟩
end Go.Proofs.YtlelgeigighecaaDoor
