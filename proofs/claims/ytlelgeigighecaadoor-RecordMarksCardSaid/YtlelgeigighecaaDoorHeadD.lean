/-
  Contracts of layer 11: number and value of the reference; bytes.Equal.
-/
import Derived.Test.YtlelgeigighecaaDoorHeadB
set_option linter.unusedSimpArgs false
set_option linter.unusedVariables false
set_option linter.unnecessarySimpa false
namespace Go.Proofs.YtlelgeigighecaaDoor
open Go.RowKit

theorem leB_byte2 (x k : Nat) : Value.int .u8 ((x : Int) / 2 ^ (8 * k) % 256) = bv (UInt8.ofNat (x / 256 ^ k % 256)) := by
  have := leB_byte x k
  rw [IntKind.wrap_u8, show (8 * (k : Int)).toNat = 8 * k by omega] at this
  exact this
set_option maxHeartbeats 400000 in
theorem xhNumber_any (n x : Nat) (w : World) (hn : n ≤ 8) (hx : x < 18446744073709551616) : Calls Tryd.prog 43 #[.int .i64 n, .int .u64 x] w fun e w' => ∃ v, e = .returned v ∧ Row w' w.heap.size 5 1 v n (bvs (leB n x)) ∧ Fr [] w w' := by
  go_enter Tryd.func43, Tryd.ntmps43
  go_wp2_with fail
  go_loopw [5, 6] (fun v i wr => ∃ k : Nat, k ≤ n ∧ i = .int .i64 k ∧ Row wr w.heap.size 5 1 v k (bvs (leB k x)) ∧ Fr [] w wr) (fun _ i _ => n - (intOf i).toNat)
  case atStart => exact ⟨0, Nat.zero_le _, rfl, Row.nil _ _ _ _, Fr.refl _ _⟩
  case round =>
    obtain ⟨k, hk, rfl, r4, F4⟩ := hrel
    obtain ⟨A4, cap4, rfl, -, -, -, -, -⟩ := r4.shape
    by_cases hlt : k < n
    · go_wp2_with
        (first
          | (at_builtin; refine wpList_app rfl rfl slB w.heap.size _ k (bvs (leB k x)) rfl (r4.alloc _) _ 1 1 [_] rfl rfl (Rd.one _ _ _) (by intro u hu; rw [List.mem_singleton.1 hu]; rfl) (fun h => by cases h) (by omega) (by have := F4.size; simp; omega) ?_; intro v5 w5 q1 q2 q3 q4))
      refine ⟨⟨k + 1, by omega, by go_num, ?_, (F4.alloc _).trans q2 (fun i hi => .inr (r4.lt i (mem_own.1 hi)).1)⟩, by simp [intOf]; omega⟩
      rw [leB_byte2, show ∀ x : UInt8, [bv x] = bvs [x] from fun _ => rfl, ← bvs_append, ← leB_succ] at q1
      exact q1
    · obtain rfl : k = n := by omega
      go_wp2_with fail
      go_ret
      exact ⟨_, rfl, r4, F4⟩

theorem bytesEq_any (A A' : Option Addr) (l l' : List UInt8) (n c n' c' : Nat) (w : World) (hn : l.length = n) (hr : Rd w A (bvs l)) (hA : A = none → n = 0) (hn' : l'.length = n') (hr' : Rd w A' (bvs l')) (hA' : A' = none → n' = 0) :
    Calls Tryd.prog 56 #[.slice A n c, .slice A' n' c'] w fun e w' => e = .returned (.bool (l == l')) ∧ w = w' := by
  have E1 := strB w A l n c hn hr hA
  have E2 := strB w A' l' n' c' hn' hr' hA'
  go_enter Tryd.func56, Tryd.ntmps56
  go_wp2_with fail
  go_ret
  exact ⟨by rfl, rfl⟩

set_option maxHeartbeats 400000 in
theorem xhValue_any (A : Option Addr) (l : List UInt8) (n c : Nat) (w : World) (hn : l.length = n) (hr : Rd w A (bvs l)) (h8 : n ≤ 8) : Calls Tryd.prog 57 #[.slice A n c] w fun e w' => e = .returned (.int .u64 (leN l)) ∧ w = w' := by
  have HL := Lib.hid hn
  clear hn
  go_enter Tryd.func57, Tryd.ntmps57
  go_wp2_with fail
  go_loop [3, 4] (fun x i => ∃ k : Nat, k ≤ n ∧ i = .int .i64 k ∧ x = .int .u64 (leN (l.take k))) (fun _ i => n - (intOf i).toNat)
  case atStart => exact ⟨0, Nat.zero_le _, rfl, rfl⟩
  case round =>
    obtain ⟨k, hk, rfl, rfl⟩ := hrel
    by_cases hlt : k < n
    · have hk' : k < l.length := by rw [HL.out]; exact hlt
      obtain ⟨g, o, rfl, hc⟩ := hr.byte hk'
      have hck := hc k hk'
      have E := Lib.hid (or_byte (leN (l.take k)) l[k].toNat k (leN_take_lt l k) l[k].toNat_lt (by omega))
      have T := Lib.hid (leN_take_succ l k hk')
      clear hc
      go_wp2
      go_round
      case rel => exact ⟨k + 1, by omega, by go_num, by rw [E.out, T.out]⟩
      case measure => simp [intOf]; omega
    · have hk2 : k = n := by omega
      have E : l.take k = l := by rw [hk2, ← HL.out, List.take_length]
      have HE := Lib.hid E
      clear E hk2
      go_wp2
      go_ret
      exact ⟨by rw [HE.out]; rfl, rfl⟩
end Go.Proofs.YtlelgeigighecaaDoor
