/-
  CodecNobody, the walk: calls of a nil Writer and a nil Reader.
-/
import Derived.Test.YtmonedfafechcaaCodH
import Derived.Test.YtmonedfafechcaaRow09
set_option linter.unusedSimpArgs false
set_option linter.unusedVariables false
set_option linter.unnecessarySimpa false
namespace Go.Proofs.Ytmonedfafechcaa
open Go.RowKit

theorem wRoom_nil (w : World) (n : Int) : Calls Try.prog 62 #[.pointer none, .int .i64 n] w fun e w' => e = .returned (.bool false) ∧ w = w' := by
  go_enter Try.func62, Try.ntmps62
  go_wp2
  go_ret
  exact ⟨rfl, rfl⟩

theorem wUint_nil (w : World) (n : Int) (x : Nat) : Calls Try.prog 21 #[.pointer none, .int .i64 n, .int .u64 x] w fun e w' => e = .returned (.tuple #[]) ∧ w = w' := by
  cases hw : wide n with
  | false =>
    have HW := Lib.hid hw
    clear hw
    go_enter Try.func21, Try.ntmps21
    go_wp2_with (first
      | (go_at_call 61; refine (isWide_any _ _).mono ?_; rw [HW.out]; rintro e w' ⟨rfl, rfl⟩)
      | (go_at_call 62; refine (wRoom_nil _ _).mono ?_; rintro e w' ⟨rfl, rfl⟩))
    go_returns
    exact ⟨rfl, rfl⟩
  | true =>
    have h0 : 0 ≤ n := by
      simp only [wide, Bool.or_eq_true, beq_iff_eq] at hw
      omega
    obtain ⟨n, rfl⟩ := Int.eq_ofNat_of_zero_le h0
    have n8 : n ≤ 8 := by
      simp only [wide, Bool.or_eq_true, beq_iff_eq] at hw
      omega
    have HW := Lib.hid hw
    clear h0 hw
    by_cases h8 : (n : Int) < 8
    · cases d : ((x : Int) / 2 ^ (8 * n) != 0)
      all_goals
        go_enter Try.func21, Try.ntmps21
        go_wp2_with (first
          | (go_at_call 61; refine (isWide_any _ _).mono ?_; rw [HW.out]; rintro e w' ⟨rfl, rfl⟩)
          | (go_at_call 62; refine (wRoom_nil _ _).mono ?_; rintro e w' ⟨rfl, rfl⟩))
        go_returns
        exact ⟨rfl, rfl⟩
    · go_enter Try.func21, Try.ntmps21
      go_wp2_with (first
        | (go_at_call 61; refine (isWide_any _ _).mono ?_; rw [HW.out]; rintro e w' ⟨rfl, rfl⟩)
        | (go_at_call 62; refine (wRoom_nil _ _).mono ?_; rintro e w' ⟨rfl, rfl⟩))
      go_returns
      exact ⟨rfl, rfl⟩

theorem wBytes_nil (w : World) (A : Option Addr) (n c : Nat) : Calls Try.prog 22 #[.pointer none, .slice A n c] w fun e w' => e = .returned (.tuple #[]) ∧ w = w' := by
  go_enter Try.func22, Try.ntmps22
  go_wp2_with (go_at_call 62; refine (wRoom_nil _ _).mono ?_; rintro e w' ⟨rfl, rfl⟩)
  go_returns
  exact ⟨rfl, rfl⟩
theorem wSkip_nil (w : World) (n : Int) : Calls Try.prog 30 #[.pointer none, .int .i64 n] w fun e w' => e = .returned (.tuple #[]) ∧ w = w' := by
  go_enter Try.func30, Try.ntmps30
  go_wp2_with (go_at_call 62; refine (wRoom_nil _ _).mono ?_; rintro e w' ⟨rfl, rfl⟩)
  go_returns
  exact ⟨rfl, rfl⟩
theorem rZeros_nil (w : World) (n : Int) : Calls Try.prog 27 #[.pointer none, .int .i64 n] w fun e w' => e = .returned (.tuple #[]) ∧ w = w' := by
  go_enter Try.func27, Try.ntmps27
  go_wp2
  go_returns
  exact ⟨rfl, rfl⟩
theorem wDone_nil (w : World) : Calls Try.prog 23 #[.pointer none] w fun e w' => e = .returned (.tuple #[.slice none 0 0, .int .i64 6]) ∧ w = w' := by
  go_enter Try.func23, Try.ntmps23
  go_wp2
  go_ret2
  exact ⟨rfl, rfl⟩
theorem wLeft_nil (w : World) : Calls Try.prog 31 #[.pointer none] w fun e w' => e = .returned (.int .i64 0) ∧ w = w' := by
  go_enter Try.func31, Try.ntmps31
  go_wp2
  go_ret
  exact ⟨rfl, rfl⟩
theorem rLeft_nil (w : World) : Calls Try.prog 17 #[.pointer none] w fun e w' => e = .returned (.int .i64 0) ∧ w = w' := by
  go_enter Try.func17, Try.ntmps17
  go_wp2
  go_ret
  exact ⟨rfl, rfl⟩
theorem rDone_nil (w : World) : Calls Try.prog 18 #[.pointer none] w fun e w' => e = .returned (.int .i64 6) ∧ w = w' := by
  go_enter Try.func18, Try.ntmps18
  go_wp2
  go_ret
  exact ⟨rfl, rfl⟩
theorem rBytes_nil (w : World) (n : Int) : Calls Try.prog 16 #[.pointer none, .int .i64 n] w fun e w' => e = .returned (.slice none 0 0) ∧ w = w' := by
  go_enter Try.func16, Try.ntmps16
  go_wp2
  go_ret
  exact ⟨rfl, rfl⟩
theorem rUint_nil (w : World) (n : Int) : Calls Try.prog 19 #[.pointer none, .int .i64 n] w fun e w' => e = .returned (.int .u64 0) ∧ w = w' := by
  cases hw : wide n
  all_goals
    have HW := Lib.hid hw
    clear hw
    go_enter Try.func19, Try.ntmps19
    go_wp2_with (first
      | (go_at_call 61; refine (isWide_any _ _).mono ?_; rw [HW.out]; rintro e w' ⟨rfl, rfl⟩)
      | (go_at_call 16; refine (rBytes_nil _ _).mono ?_; rintro e w' ⟨rfl, rfl⟩))
    go_loop [5, 15] (fun x i => x = .int .u64 0 ∧ i = .int .i64 0) (fun _ _ => 0)
    case atStart => exact ⟨rfl, rfl⟩
    case round =>
      obtain ⟨rfl, rfl⟩ := hrel
      go_wp2
      go_ret
      exact ⟨rfl, rfl⟩

set_option maxRecDepth 100000 in
set_option maxHeartbeats 1000000 in
theorem nobody_any (w : World) (o : OpM) (ho : o.ok w) : Calls Try.prog 6 #[.agg o.cells.toArray] w fun e w' => e = .returned (.bool true) ∧ Fr [] w w' := by
  obtain ⟨k, n, x, A, m, c, l⟩ := o
  show Calls Try.prog 6 #[.agg #[.int .i64 k, .int .i64 n, .int .u64 x, .slice A m c]] w _
  obtain ⟨b, hb⟩ : ∃ b, b = w.heap.size := ⟨_, rfl⟩
  obtain ⟨w1, hw1⟩ : ∃ w1, w.alloc (.cells #[.int .i64 k, .int .i64 n, .int .u64 x, .slice A m c] 36) = w1 := ⟨_, rfl⟩
  have hblk : Blk w1 b 36 #[.int .i64 k, .int .i64 n, .int .u64 x, .slice A m c] := by rw [← hw1, hb]; exact Blk.new _ _ _
  have f1 : Fr [] w w1 := by rw [← hw1]; exact (Fr.refl _ _).alloc _
  have cc0 := hblk.cell 0
  have cc1 := hblk.cell 1
  have cc2 := hblk.cell 2
  have cc3 := hblk.cell 3
  simp at cc0 cc1 cc2 cc3
  have HB := Lib.hid hb
  have HW1 := Lib.hid hw1
  clear hb hw1
  go_enter Try.func6, Try.ntmps6
  go_wp2_with fail
  rw [HW1.out, ← HB.out]
  refine (wUint_nil _ _ _).mono ?_
  rintro e w' ⟨rfl, rfl⟩
  go_wp2_with fail
  refine (wBytes_nil _ _ _ _).mono ?_
  rintro e w' ⟨rfl, rfl⟩
  go_wp2_with fail
  refine (wSkip_nil _ _).mono ?_
  rintro e w' ⟨rfl, rfl⟩
  go_wp2_with fail
  refine (rZeros_nil _ _).mono ?_
  rintro e w' ⟨rfl, rfl⟩
  go_wp2_with fail
  refine (wDone_nil _).mono ?_
  rintro e w' ⟨rfl, rfl⟩
  go_wp2_with fail
  refine (lives09_any w1).mono ?_
  rintro e w2 ⟨rfl, f2⟩
  have k2 := hblk.keep f2 (by simp)
  have e1 := k2.cell 1
  simp at e1
  go_wp2_with fail
  refine (wLeft_nil _).mono ?_
  rintro e w' ⟨rfl, rfl⟩
  go_wp2_with fail
  refine (rUint_nil _ _).mono ?_
  rintro e w' ⟨rfl, rfl⟩
  go_wp2_with fail
  refine (rBytes_nil _ _).mono ?_
  rintro e w' ⟨rfl, rfl⟩
  go_wp2_with fail
  refine (rLeft_nil _).mono ?_
  rintro e w' ⟨rfl, rfl⟩
  go_wp2_with fail
  refine (rDone_nil _).mono ?_
  rintro e w' ⟨rfl, rfl⟩
  go_wp2
  go_ret
  exact ⟨rfl, f1.trans_nil f2⟩
end Go.Proofs.Ytmonedfafechcaa
