/-
  Contracts of layer 11: Check and its reference.
-/
import Derived.Test.YtlelgeigighecaaDoorHeadA
set_option linter.unusedSimpArgs false
set_option linter.unusedVariables false
set_option linter.unnecessarySimpa false
namespace Go.Proofs.YtlelgeigighecaaDoor
open Go.RowKit

set_option maxRecDepth 100000 in
theorem stPar : StT Tryd.prog 24 3 [.int .i64 0, .int .i64 0, .int .i64 0] := ⟨⟨_, Tryd.underlying24, rfl⟩, by kernel_rfl, by decide, by kernel_rfl, by intro u hu; simp at hu; rw [hu]; rfl⟩

theorem hWithin_any (n a b : Int) (w : World) : Calls Tryd.prog 48 #[.int .i64 n, .int .i64 a, .int .i64 b] w fun e w' => e = .returned (.bool (wth n a b)) ∧ w = w' := by
  by_cases h1 : a ≤ n
  · by_cases h2 : n ≤ b
    · have H := Lib.hid (show wth n a b = true by simp [wth, h1, h2])
      go_enter Tryd.func48, Tryd.ntmps48
      go_wp2
      go_ret
      exact ⟨by rw [H.out]; rfl, rfl⟩
    · have H := Lib.hid (show wth n a b = false by simp [wth, h1, h2])
      go_enter Tryd.func48, Tryd.ntmps48
      go_wp2
      go_ret
      exact ⟨by rw [H.out]; rfl, rfl⟩
  · have H := Lib.hid (show wth n a b = false by simp [wth, h1])
    go_enter Tryd.func48, Tryd.ntmps48
    go_wp2
    go_ret
    exact ⟨by rw [H.out]; rfl, rfl⟩
theorem aWithin_any (n a b : Int) (w : World) : Calls Tryd.prog 86 #[.int .i64 n, .int .i64 a, .int .i64 b] w fun e w' => e = .returned (.bool (wth n a b)) ∧ w = w' := by
  by_cases h1 : a ≤ n
  · by_cases h2 : n ≤ b
    · have H := Lib.hid (show wth n a b = true by simp [wth, h1, h2])
      go_enter Tryd.func86, Tryd.ntmps86
      go_wp2
      go_ret
      exact ⟨by rw [H.out]; rfl, rfl⟩
    · have H := Lib.hid (show wth n a b = false by simp [wth, h1, h2])
      go_enter Tryd.func86, Tryd.ntmps86
      go_wp2
      go_ret
      exact ⟨by rw [H.out]; rfl, rfl⟩
  · have H := Lib.hid (show wth n a b = false by simp [wth, h1])
    go_enter Tryd.func86, Tryd.ntmps86
    go_wp2
    go_ret
    exact ⟨by rw [H.out]; rfl, rfl⟩

/-- What is told: nothing, or this. -/
def errG (b : Bool) (z : Int) : Int := if b then 0 else z
def parV (t m l : Int) : Value := .agg #[.int .i64 t, .int .i64 m, .int .i64 l]
set_option maxRecDepth 100000 in
set_option maxHeartbeats 1000000 in
theorem aCheck_any (t m l : Int) (w : World) (hl : in64 l) : Calls Tryd.prog 49 #[parV t m l] w fun e w' => e = .returned (.int .i64 (errG (parG t m l) 80)) ∧ Fr [] w w' := by
  unfold parV
  cases d1 : wth t 1 8
  · have H := Lib.hid (show parG t m l = false by simp [parG, d1])
    go_enter Tryd.func49, Tryd.ntmps49
    go_wp2_with
      (first
        | (refine wpList_boxS rfl rfl [.int .i64 t, .int .i64 m, .int .i64 l] rfl ?_; intro w1 h1 f1 z1; have c0 := h1.cell 0; have c1 := h1.cell 1; have c2 := h1.cell 2; simp at c0 c1 c2)
        | (go_at_call 86; refine (aWithin_any _ _ _ _).mono ?_; rintro e w' ⟨rfl, rfl⟩))
    go_ret
    exact ⟨by rw [H.out]; rfl, f1⟩
  · cases d2 : wth l 1 4
    · have H := Lib.hid (show parG t m l = false by simp [parG, d2])
      go_enter Tryd.func49, Tryd.ntmps49
      go_wp2_with
        (first
          | (refine wpList_boxS rfl rfl [.int .i64 t, .int .i64 m, .int .i64 l] rfl ?_; intro w1 h1 f1 z1; have c0 := h1.cell 0; have c1 := h1.cell 1; have c2 := h1.cell 2; simp at c0 c1 c2)
          | (go_at_call 86; refine (aWithin_any _ _ _ _).mono ?_; rintro e w' ⟨rfl, rfl⟩))
      go_ret
      exact ⟨by rw [H.out]; rfl, f1⟩
    · have hw : IntKind.i64.wrap (8 * l) = 8 * l := by have := wth_yes d2; rw [IntWalk.i64_in _ (by omega)]
      cases d3 : wth m (8 * l) 256
      · have H := Lib.hid (show parG t m l = false by simp [parG, d3])
        go_enter Tryd.func49, Tryd.ntmps49
        go_wp2_with
          (first
            | (refine wpList_boxS rfl rfl [.int .i64 t, .int .i64 m, .int .i64 l] rfl ?_; intro w1 h1 f1 z1; have c0 := h1.cell 0; have c1 := h1.cell 1; have c2 := h1.cell 2; simp at c0 c1 c2)
            | (go_at_call 86; refine (aWithin_any _ _ _ _).mono ?_; rintro e w' ⟨rfl, rfl⟩))
        go_ret
        exact ⟨by rw [H.out]; rfl, f1⟩
      · have H := Lib.hid (show parG t m l = true by simp [parG, d1, d2, d3])
        go_enter Tryd.func49, Tryd.ntmps49
        go_wp2_with
          (first
            | (refine wpList_boxS rfl rfl [.int .i64 t, .int .i64 m, .int .i64 l] rfl ?_; intro w1 h1 f1 z1; have c0 := h1.cell 0; have c1 := h1.cell 1; have c2 := h1.cell 2; simp at c0 c1 c2)
            | (go_at_call 86; refine (aWithin_any _ _ _ _).mono ?_; rintro e w' ⟨rfl, rfl⟩))
        go_ret
        exact ⟨by rw [H.out]; rfl, f1⟩

set_option maxRecDepth 100000 in
set_option maxHeartbeats 1000000 in
theorem xaCheck_any (t m l : Int) (w : World) (hl : in64 l) : Calls Tryd.prog 50 #[parV t m l] w fun e w' => e = .returned (.int .i64 (errG (parG t m l) 80)) ∧ Fr [] w w' := by
  unfold parV
  cases d1 : wth t 1 8
  · rcases wth_no d1 with k | k
    ·
      have H := Lib.hid (show parG t m l = false by simp [parG, *])
      go_enter Tryd.func50, Tryd.ntmps50
      go_wp2_with
        (first
          | (refine wpList_boxS rfl rfl [.int .i64 t, .int .i64 m, .int .i64 l] rfl ?_; intro w1 h1 f1 z1; have c0 := h1.cell 0; have c1 := h1.cell 1; have c2 := h1.cell 2; simp at c0 c1 c2))
      go_ret
      exact ⟨by rw [H.out]; rfl, f1⟩
    · have k' : ¬ (t < 1) := by omega
      have H := Lib.hid (show parG t m l = false by simp [parG, *])
      go_enter Tryd.func50, Tryd.ntmps50
      go_wp2_with
        (first
          | (refine wpList_boxS rfl rfl [.int .i64 t, .int .i64 m, .int .i64 l] rfl ?_; intro w1 h1 f1 z1; have c0 := h1.cell 0; have c1 := h1.cell 1; have c2 := h1.cell 2; simp at c0 c1 c2))
      go_ret
      exact ⟨by rw [H.out]; rfl, f1⟩
  · have k1 := wth_yes d1
    cases d2 : wth l 1 4
    · rcases wth_no d2 with k | k
      ·
        have H := Lib.hid (show parG t m l = false by simp [parG, *])
        go_enter Tryd.func50, Tryd.ntmps50
        go_wp2_with
          (first
            | (refine wpList_boxS rfl rfl [.int .i64 t, .int .i64 m, .int .i64 l] rfl ?_; intro w1 h1 f1 z1; have c0 := h1.cell 0; have c1 := h1.cell 1; have c2 := h1.cell 2; simp at c0 c1 c2))
        go_ret
        exact ⟨by rw [H.out]; rfl, f1⟩
      ·
        have H := Lib.hid (show parG t m l = false by simp [parG, *])
        go_enter Tryd.func50, Tryd.ntmps50
        go_wp2_with
          (first
            | (refine wpList_boxS rfl rfl [.int .i64 t, .int .i64 m, .int .i64 l] rfl ?_; intro w1 h1 f1 z1; have c0 := h1.cell 0; have c1 := h1.cell 1; have c2 := h1.cell 2; simp at c0 c1 c2))
        go_ret
        exact ⟨by rw [H.out]; rfl, f1⟩
    · have k2 := wth_yes d2
      have hw : IntKind.i64.wrap (8 * l) = 8 * l := by rw [IntWalk.i64_in _ (by omega)]
      cases d3 : wth m (8 * l) 256
      · rcases wth_no d3 with k | k
        ·
          have H := Lib.hid (show parG t m l = false by simp [parG, *])
          go_enter Tryd.func50, Tryd.ntmps50
          go_wp2_with
            (first
              | (refine wpList_boxS rfl rfl [.int .i64 t, .int .i64 m, .int .i64 l] rfl ?_; intro w1 h1 f1 z1; have c0 := h1.cell 0; have c1 := h1.cell 1; have c2 := h1.cell 2; simp at c0 c1 c2))
          go_ret
          exact ⟨by rw [H.out]; rfl, f1⟩
        ·
          have H := Lib.hid (show parG t m l = false by simp [parG, *])
          go_enter Tryd.func50, Tryd.ntmps50
          go_wp2_with
            (first
              | (refine wpList_boxS rfl rfl [.int .i64 t, .int .i64 m, .int .i64 l] rfl ?_; intro w1 h1 f1 z1; have c0 := h1.cell 0; have c1 := h1.cell 1; have c2 := h1.cell 2; simp at c0 c1 c2))
          go_ret
          exact ⟨by rw [H.out]; rfl, f1⟩
      · have k3 := wth_yes d3
        have H := Lib.hid (show parG t m l = true by simp [parG, *])
        go_enter Tryd.func50, Tryd.ntmps50
        go_wp2_with
          (first
            | (refine wpList_boxS rfl rfl [.int .i64 t, .int .i64 m, .int .i64 l] rfl ?_; intro w1 h1 f1 z1; have c0 := h1.cell 0; have c1 := h1.cell 1; have c2 := h1.cell 2; simp at c0 c1 c2))
        go_ret
        exact ⟨by rw [H.out]; rfl, f1⟩
end Go.Proofs.YtlelgeigighecaaDoor
