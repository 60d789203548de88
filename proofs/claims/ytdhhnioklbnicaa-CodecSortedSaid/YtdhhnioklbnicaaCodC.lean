/-
  Contracts of codec's Reader: Uint.
-/
import Derived.Test.YtdhhnioklbnicaaCodB
set_option linter.unusedSimpArgs false
set_option linter.unusedVariables false
set_option linter.unnecessarySimpa false
namespace Go.Proofs.Ytdhhnioklbnicaa
open Go.RowKit

def leN : List UInt8 → Nat
  | [] => 0
  | x :: r => x.toNat + 256 * leN r
theorem leN_append (a b : List UInt8) : leN (a ++ b) = leN a + 256 ^ a.length * leN b := by
  induction a with
  | nil => simp [leN]
  | cons x r ih => simp only [List.cons_append, leN, ih, List.length_cons, Nat.pow_succ]; rw [Nat.mul_add, Nat.mul_comm (256 ^ r.length) 256, Nat.mul_assoc, Nat.add_assoc]
theorem leN_lt (a : List UInt8) : leN a < 256 ^ a.length := by
  induction a with
  | nil => simp [leN]
  | cons x r ih => simp only [leN, List.length_cons, Nat.pow_succ]; have := x.toNat_lt; omega

theorem leN_take_succ (l : List UInt8) (k : Nat) (h : k < l.length) : leN (l.take (k + 1)) = leN (l.take k) + 256 ^ k * l[k].toNat := by
  rw [List.take_succ_eq_append_getElem h, leN_append, List.length_take, Nat.min_eq_left (by omega)]; simp [leN]
theorem leN_take_lt (l : List UInt8) (k : Nat) : leN (l.take k) < 256 ^ k := by
  refine Nat.lt_of_lt_of_le (leN_lt _) (Nat.pow_le_pow_right (by omega) ?_)
  rw [List.length_take]; omega
theorem pow256 (k : Nat) : (256 : Nat) ^ k = 2 ^ (8 * k) := by rw [Nat.pow_mul]
theorem pow256_le {k : Nat} (h : k < 8) : 256 ^ k * 256 ≤ 18446744073709551616 := by
  have : (256 : Nat) ^ (k + 1) ≤ 256 ^ 8 := Nat.pow_le_pow_right (by omega) (by omega)
  rw [Nat.pow_succ] at this
  omega
/-- A byte laid over a number, above all that it has. -/
theorem or_byte (x c k : Nat) (hx : x < 256 ^ k) (hc : c < 256) (hk : k < 8) :
    bits .or .u64 (x : Int) (IntKind.u64.wrap (IntKind.u64.wrap (c : Int) * 2 ^ (8 * k))) = ((x + 256 ^ k * c : Nat) : Int) := by
  have h1 := pow256_le hk
  have h2 : 256 ^ k * c < 18446744073709551616 := Nat.lt_of_lt_of_le (Nat.mul_lt_mul_of_pos_left hc (Nat.pow_pos (by omega))) h1
  have e1 : IntKind.u64.wrap (c : Int) = c := IntWalk.u64_in _ (by omega)
  have e2 : ((c : Int) * 2 ^ (8 * k)) = ((256 ^ k * c : Nat) : Int) := by rw [pow256]; push_cast; exact Int.mul_comm _ _
  have hx2 : x < 18446744073709551616 := by have := Nat.le_mul_of_pos_right (256 ^ k) (show 0 < 256 by omega); omega
  have e4 : x ||| 256 ^ k * c = x + 256 ^ k * c := by
    rw [Nat.or_comm, pow256, ← Nat.two_pow_add_eq_or_of_lt (by rw [← pow256]; exact hx), Nat.add_comm]
  rw [e1, e2]
  revert h2 e4
  generalize 256 ^ k * c = m
  intro h2 e4
  rw [IntWalk.u64_in _ (by omega), u64_or_nat x _ hx2 h2, e4]

def wide (n : Int) : Bool := n == 1 || n == 2 || n == 4 || n == 8
theorem isWide_any (w : World) (n : Int) : Calls Try.prog 70 #[.int .i64 n] w fun e w' => e = .returned (.bool (wide n)) ∧ w = w' := by
  go_enter Try.func70, Try.ntmps70
  go_wp2
  all_goals go_ret
  all_goals first | exact ⟨rfl, rfl⟩ | (rename_i h; subst h; exact ⟨rfl, rfl⟩)

set_option maxHeartbeats 400000 in
theorem rUint_ok {w : World} {p : Nat} {G : List Nat} {l : List UInt8} (h : Rdr 112 w p G l false) (n : Nat) (hn : n ≤ l.length) (hw : wide n = true) :
    Calls Try.prog 59 #[.pointer (some ⟨p, 0, none⟩), .int .i64 n] w fun e w' => e = .returned (.int .u64 (leN (l.take n))) ∧ Rdr 112 w' p G (l.drop n) false ∧ Fr [p] w w' := by
  obtain ⟨q, hq⟩ : ∃ q, l.take n = q := ⟨_, rfl⟩
  have hl : q.length = n := by rw [← hq, List.length_take]; omega
  have HW := Lib.hid hw
  have HL := Lib.hid hl
  have HQ := Lib.hid hq
  have n8 : n ≤ 8 := by
    simp only [wide, Bool.or_eq_true, beq_iff_eq] at hw
    omega
  clear hl hw hq
  go_enter Try.func59, Try.ntmps59
  go_wp2_with (first
    | (go_at_call 70; refine (isWide_any _ _).mono ?_; rw [HW.out]; rintro e w' ⟨rfl, rfl⟩)
    | (go_at_call 72; refine (rBytes_ok h n hn).mono ?_; rintro e w1 ⟨v, rfl, h1, h2, h3⟩; rw [HQ.out] at h1; obtain ⟨B, cap, rfl, -, -, hrd, -, -⟩ := h1.shape))
  go_loop [5, 15] (fun x i => ∃ k : Nat, k ≤ n ∧ i = .int .i64 k ∧ x = .int .u64 (leN (q.take k))) (fun _ i => n - (intOf i).toNat)
  case atStart => exact ⟨0, Nat.zero_le _, rfl, rfl⟩
  case round =>
    obtain ⟨k, hk, rfl, rfl⟩ := hrel
    by_cases hlt : k < n
    · have hk' : k < q.length := by rw [HL.out]; exact hlt
      obtain ⟨g, o, rfl, hc⟩ := hrd.byte hk'
      have hck := hc k hk'
      have E := Lib.hid (or_byte (leN (q.take k)) q[k].toNat k (leN_take_lt q k) q[k].toNat_lt (by omega))
      have T := Lib.hid (leN_take_succ q k hk')
      clear hc
      go_wp2
      go_round
      case rel => exact ⟨k + 1, by omega, by go_num, by rw [E.out, T.out]⟩
      case measure => simp [intOf]; omega
    · have hk2 : k = n := by omega
      have E : q.take k = q := by rw [hk2, ← HL.out, List.take_length]
      have HE := Lib.hid E
      clear E hk2
      go_wp2
      go_ret
      exact ⟨by rw [HE.out, HQ.out]; rfl, h2, h3⟩

theorem rUint_bad {w : World} {p : Nat} {G : List Nat} {l : List UInt8} {bad : Bool} (h : Rdr 112 w p G l bad) (n : Int) (hn : bad = true ∨ wide n = false ∨ (l.length : Int) < n) :
    Calls Try.prog 59 #[.pointer (some ⟨p, 0, none⟩), .int .i64 n] w fun e w' => e = .returned (.int .u64 0) ∧ Rdr 112 w' p G l true ∧ Fr [p] w w' := by
  cases hw : wide n with
  | true =>
    have HW := Lib.hid hw
    have hb : bad = true ∨ n < 0 ∨ (l.length : Int) < n := by
      rcases hn with h | h | h
      · exact .inl h
      · rw [hw] at h; cases h
      · exact .inr (.inr h)
    have HB := Lib.hid hb
    clear hw hn hb
    go_enter Try.func59, Try.ntmps59
    go_wp2_with (first
      | (go_at_call 70; refine (isWide_any _ _).mono ?_; rw [HW.out]; rintro e w' ⟨rfl, rfl⟩)
      | (go_at_call 72; refine (rBytes_bad h n HB.out).mono ?_; rintro e w1 ⟨rfl, h2, h3⟩))
    go_loop [5, 15] (fun x i => x = .int .u64 0 ∧ i = .int .i64 0) (fun _ _ => 0)
    case atStart => exact ⟨rfl, rfl⟩
    case round =>
      obtain ⟨rfl, rfl⟩ := hrel
      go_wp2
      go_ret
      exact ⟨rfl, h2, h3⟩
  | false =>
    have HW := Lib.hid hw
    clear hw hn
    go_enter Try.func59, Try.ntmps59
    go_wp2_with (first
      | (go_at_call 70; refine (isWide_any _ _).mono ?_; rw [HW.out]; rintro e w' ⟨rfl, rfl⟩)
      | (go_at_call 72; refine (rBytes_bad h (-1) (.inr (.inl (by decide)))).mono ?_; rintro e w1 ⟨rfl, h2, h3⟩))
    go_loop [5, 15] (fun x i => x = .int .u64 0 ∧ i = .int .i64 0) (fun _ _ => 0)
    case atStart => exact ⟨rfl, rfl⟩
    case round =>
      obtain ⟨rfl, rfl⟩ := hrel
      go_wp2
      go_ret
      exact ⟨rfl, h2, h3⟩
end Go.Proofs.Ytdhhnioklbnicaa
