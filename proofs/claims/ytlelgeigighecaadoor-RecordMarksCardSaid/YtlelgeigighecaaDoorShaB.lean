/-
  SHA-256: words turned, by the code and by the reference.
-/
import Derived.Test.YtlelgeigighecaaDoorProg
import Derived.Test.YtlelgeigighecaaDoorShaA
import Derived.Test.YtlelgeigighecaaDoorMem3
import Derived.Laws.Bits64b
set_option linter.unusedSimpArgs false
set_option linter.unusedVariables false
set_option linter.unnecessarySimpa false
namespace Go.Proofs.YtlelgeigighecaaDoor
open Go.RowKit

theorem and31 (n : Nat) (h0 : 0 < n) (h : n < 32) : bits .and .u64 (IntKind.u64.wrap (-(n : Int))) 31 = ((32 - n : Nat) : Int) := by
  have e : IntKind.u64.wrap (-(n : Int)) = ((18446744073709551616 - n : Nat) : Int) := by rw [IntKind.wrap_u64]; omega
  rw [e, show (31 : Int) = ((31 : Nat) : Int) from rfl, bits_and_u64_nat _ _ (by omega) (by decide), show (31 : Nat) = 2 ^ 5 - 1 by decide, Nat.and_two_pow_sub_one_eq_mod]
  omega
theorem rot32_any (x : UInt32) (n : Nat) (h0 : 0 < n) (h : n < 32) (w : World) :
    Calls Tryd.prog 107 #[.int .u32 (uw x), .int .i64 (-(n : Int))] w fun e w' => e = .returned (.int .u32 (uw (rotr x n))) ∧ w' = w := by
  have e1 := and31 n h0 h
  have e2 : IntKind.u64.wrap (32 - ((32 - n : Nat) : Int)) = (n : Int) := by rw [IntKind.wrap_u64]; omega
  have e3 := uw_shl x (32 - n)
  have e4 := uw_shr x n
  have e5 := uw_or (shl x (32 - n)) (shr x n)
  go_enter Tryd.func107, Tryd.ntmps107
  go_wp2
  go_ret
  exact ⟨rfl, rfl⟩
theorem right_any (x : UInt32) (n : Nat) (h0 : 0 < n) (h : n < 32) (w : World) :
    Calls Tryd.prog 105 #[.int .u32 (uw x), .int .i64 n] w fun e w' => e = .returned (.int .u32 (uw (rotr x n))) ∧ w' = w := by
  have e1 : IntKind.i64.wrap (-(n : Int)) = -(n : Int) := IntWalk.i64_in _ (by omega)
  go_enter Tryd.func105, Tryd.ntmps105
  go_wp2_with (refine (rot32_any x n h0 h _).mono ?_; rintro e w' ⟨rfl, rfl⟩)
  go_ret
  exact ⟨rfl, rfl⟩
theorem right_int (x : UInt32) (n : Int) (h0 : 0 < n) (h : n < 32) (w : World) :
    Calls Tryd.prog 105 #[.int .u32 (uw x), .int .i64 n] w fun e w' => e = .returned (.int .u32 (uw (rotr x n.toNat))) ∧ w' = w := by
  obtain ⟨m, rfl⟩ := Int.eq_ofNat_of_zero_le (Int.le_of_lt h0)
  exact right_any x m (by omega) (by omega) w
theorem turn_any (x : UInt32) (n : Nat) (h0 : 0 < n) (h : n < 32) (w : World) :
    Calls Tryd.prog 100 #[.int .i64 n, .int .u32 (uw x)] w fun e w' => e = .returned (.int .u32 (uw (rotr x n))) ∧ ∃ q, w' = w.drewN q := by
  have e2 : IntKind.i64.wrap (32 - (n : Int)) = ((32 - n : Nat) : Int) := by rw [IntWalk.i64_in _ (by omega)]; omega
  have e3 := uw_shl x (32 - n)
  have e4 := uw_shr x n
  have e5 : bits .or .u32 (uw (shr x n)) (uw (shl x (32 - n))) = uw (rotr x n) := by rw [uw_or, rotr']
  have p1 : (0 : Int) ≤ ((32 - n : Nat) : Int) := by omega
  go_enter Tryd.func100, Tryd.ntmps100
  go_wp2
  go_quiet (fail)
  go_wp2_with fail
  go_ret
  exact ⟨rfl, _, rfl⟩
theorem turn_int (x : UInt32) (n : Int) (h0 : 0 < n) (h : n < 32) (w : World) :
    Calls Tryd.prog 100 #[.int .i64 n, .int .u32 (uw x)] w fun e w' => e = .returned (.int .u32 (uw (rotr x n.toNat))) ∧ ∃ q, w' = w.drewN q := by
  obtain ⟨m, rfl⟩ := Int.eq_ofNat_of_zero_le (Int.le_of_lt h0)
  exact turn_any x m (by omega) (by omega) w
end Go.Proofs.YtlelgeigighecaaDoor
