/-
  Contracts of the reference's Reader: Uint, Zeros, Done.
-/
import Derived.Test.YtmonedfafechcaaCodD
set_option linter.unusedSimpArgs false
set_option linter.unusedVariables false
set_option linter.unnecessarySimpa false
namespace Go.Proofs.Ytmonedfafechcaa
open Go.RowKit

theorem xWide_any (w : World) (n : Int) : Calls Try.prog 63 #[.int .i64 n] w fun e w' => e = .returned (.bool (wide n)) ∧ w = w' := by
  go_enter Try.func63, Try.ntmps63
  go_wp2
  all_goals go_ret
  all_goals first | exact ⟨rfl, rfl⟩ | (rename_i h; subst h; exact ⟨rfl, rfl⟩)

set_option maxHeartbeats 400000 in
theorem xUint_ok {w : World} {p : Nat} {G : List Nat} {l : List UInt8} (h : Rdr 48 w p G l false) (n : Nat) (hn : n ≤ l.length) (hw : wide n = true) :
    Calls Try.prog 25 #[.pointer (some ⟨p, 0, none⟩), .int .i64 n] w fun e w' => e = .returned (.int .u64 (leN (l.take n))) ∧ Rdr 48 w' p G (l.drop n) false ∧ Fr [p] w w' := by
  obtain ⟨q, hq⟩ : ∃ q, l.take n = q := ⟨_, rfl⟩
  have hl : q.length = n := by rw [← hq, List.length_take]; omega
  have HW := Lib.hid hw
  have HL := Lib.hid hl
  have HQ := Lib.hid hq
  have n8 : n ≤ 8 := by
    simp only [wide, Bool.or_eq_true, beq_iff_eq] at hw
    omega
  clear hl hw hq
  go_enter Try.func25, Try.ntmps25
  go_wp2_with (first
    | (go_at_call 63; refine (xWide_any _ _).mono ?_; rw [HW.out]; rintro e w' ⟨rfl, rfl⟩)
    | (go_at_call 26; refine (xBytes_ok h n hn).mono ?_; rintro e w1 ⟨v, rfl, h1, h2, h3⟩; rw [HQ.out] at h1; obtain ⟨B, cap, rfl, -, -, hrd, -, -⟩ := h1.shape))
  go_loop [6, 7] (fun x i => ∃ k : Nat, k ≤ n ∧ i = .int .i64 k ∧ x = .int .u64 (leN (q.take k))) (fun _ i => n - (intOf i).toNat)
  case atStart => exact ⟨0, Nat.zero_le _, rfl, rfl⟩
  case round =>
    obtain ⟨k, hk, rfl, rfl⟩ := hrel
    by_cases hlt : k < n
    · have hk' : k < q.length := by rw [HL.out]; exact hlt
      obtain ⟨g, o, rfl, hc⟩ := hrd.byte hk'
      have hck := hc k hk'
      have E := Lib.hid (or_byte (leN (q.take k)) q[k].toNat k (leN_take_lt q k) q[k].toNat_lt (by omega))
      have T := Lib.hid (leN_take_succ q k hk')
      clear hc
      go_wp2
      go_round
      case rel => exact ⟨k + 1, by omega, by go_num, by rw [E.out, T.out]⟩
      case measure => simp [intOf]; omega
    · have hk2 : k = n := by omega
      have E : q.take k = q := by rw [hk2, ← HL.out, List.take_length]
      have HE := Lib.hid E
      clear E hk2
      go_wp2
      go_ret
      exact ⟨by rw [HE.out, HQ.out]; rfl, h2, h3⟩

theorem xUint_bad {w : World} {p : Nat} {G : List Nat} {l : List UInt8} {bad : Bool} (h : Rdr 48 w p G l bad) (n : Int) (hn : bad = true ∨ wide n = false ∨ (l.length : Int) < n) :
    Calls Try.prog 25 #[.pointer (some ⟨p, 0, none⟩), .int .i64 n] w fun e w' => e = .returned (.int .u64 0) ∧ Rdr 48 w' p G l true ∧ Fr [p] w w' := by
  cases hw : wide n with
  | true =>
    have HW := Lib.hid hw
    have hb : bad = true ∨ n < 0 ∨ (l.length : Int) < n := by
      rcases hn with h | h | h
      · exact .inl h
      · rw [hw] at h; cases h
      · exact .inr (.inr h)
    have HB := Lib.hid hb
    clear hw hn hb
    go_enter Try.func25, Try.ntmps25
    go_wp2_with (first
      | (go_at_call 63; refine (xWide_any _ _).mono ?_; rw [HW.out]; rintro e w' ⟨rfl, rfl⟩)
      | (go_at_call 26; refine (xBytes_bad h n HB.out).mono ?_; rintro e w1 ⟨rfl, h2, h3⟩))
    go_loop [6, 7] (fun x i => x = .int .u64 0 ∧ i = .int .i64 0) (fun _ _ => 0)
    case atStart => exact ⟨rfl, rfl⟩
    case round =>
      obtain ⟨rfl, rfl⟩ := hrel
      go_wp2
      go_ret
      exact ⟨rfl, h2, h3⟩
  | false =>
    have fin := rdr_refuse h
    obtain ⟨A, c, h1, h2, h3, h4, h5, h6⟩ := h
    have c1 := h1.cell 1
    have f1 := h1.frozen 1
    simp at c1
    have HW := Lib.hid hw
    clear hw hn
    go_enter Try.func25, Try.ntmps25
    go_wp2_with (go_at_call 63; refine (xWide_any _ _).mono ?_; rw [HW.out]; rintro e w' ⟨rfl, rfl⟩)
    go_ret
    exact ⟨rfl, fin⟩

theorem xZeros_bad {w : World} {p : Nat} {G : List Nat} {l : List UInt8} {bad : Bool} (h : Rdr 48 w p G l bad) (n : Int) (hn : bad = true ∨ n < 0 ∨ (l.length : Int) < n) :
    Calls Try.prog 28 #[.pointer (some ⟨p, 0, none⟩), .int .i64 n] w fun e w' => e = .returned (.tuple #[]) ∧ Rdr 48 w' p G l true ∧ Fr [p] w w' := by
  have fin := rdr_refuse h
  obtain ⟨A, c, h1, h2, h3, h4, h5, h6⟩ := h
  have c0 := h1.cell 0
  have c1 := h1.cell 1
  have f1 := h1.frozen 1
  simp at c0 c1
  cases bad with
  | true =>
    go_enter Try.func28, Try.ntmps28
    go_wp2
    go_returns
    exact ⟨rfl, fin⟩
  | false =>
    by_cases hn0 : n < 0
    · go_enter Try.func28, Try.ntmps28
      go_wp2
      go_returns
      exact ⟨rfl, fin⟩
    · have hn1 : (l.length : Int) < n := by simpa [hn0] using hn
      go_enter Try.func28, Try.ntmps28
      go_wp2
      go_returns
      exact ⟨rfl, fin⟩

/-- What Zeros leaves: over n bytes, all of them in reach. -/
theorem allZ_take_le {l : List UInt8} {k n : Nat} (hk : k ≤ n) (h : allZ (l.take n) = true) : allZ (l.take k) = true := by
  unfold allZ at *
  rw [List.all_eq_true] at *
  intro x hx
  exact h x (by rw [List.mem_take_iff_getElem] at *; obtain ⟨i, hi, e⟩ := hx; exact ⟨i, by omega, e⟩)

/-- What Zeros leaves, n in reach. -/
def ZPost (T : TypeId) (w : World) (p : Nat) (G : List Nat) (l : List UInt8) (n : Nat) : Prop :=
  (allZ (l.take n) = true ∧ Rdr T w p G (l.drop n) false) ∨ (allZ (l.take n) = false ∧ Rdr T w p G l true)

set_option maxHeartbeats 800000 in
theorem xZeros_in {w : World} {p : Nat} {G : List Nat} {l : List UInt8} (h : Rdr 48 w p G l false) (n : Nat) (hn : n ≤ l.length) :
    Calls Try.prog 28 #[.pointer (some ⟨p, 0, none⟩), .int .i64 n] w fun e w' => e = .returned (.tuple #[]) ∧ ZPost 48 w' p G l n ∧ Fr [p] w w' := by
  have fin := rdr_refuse h
  obtain ⟨A, c, h1, h2, h3, h4, h5, h6⟩ := h
  have c0 := h1.cell 0
  have c1 := h1.cell 1
  have f1 := h1.frozen 1
  have f0 := h1.frozen 0
  simp at c0 c1
  have m3 := h3
  unfold maxLen at h3
  have d0 : decide ((n : Int) < 0) = false := by simp
  have d1 : decide (l.length < n) = false := by simpa using hn
  go_enter Try.func28, Try.ntmps28
  go_wp2
  go_loop [4] (fun i => ∃ k : Nat, k ≤ n ∧ i = .int .i64 k ∧ allZ (l.take k) = true) (fun i => n - (intOf i).toNat)
  case atStart => exact ⟨0, Nat.zero_le _, rfl, rfl⟩
  case round =>
    obtain ⟨k, hk, rfl, hz⟩ := hrel
    have Hz := Lib.hid hz
    clear hz
    by_cases hlt : k < n
    · obtain ⟨g, o, rfl, hc⟩ := h5.byte (k := k) (by omega)
      have hlt2 : k < l.length := by omega
      have hck := hc k hlt2
      clear hc
      by_cases hx : l[k] = 0
      · have ht := allZ_take_succ l k hlt2
        have Ht : Hid (allZ (l.take (k + 1)) = true) := by rw [Hid, ht, Hz.out, hx]; rfl
        clear ht
        rw [hx] at hck
        clear hx
        go_wp2
        go_round
        case rel => exact ⟨k + 1, by omega, by go_num, Ht.out⟩
        case measure => simp [intOf]; omega
      · have e : allZ (l.take n) = false := by
          cases hh : allZ (l.take n) with
          | false => rfl
          | true =>
            have := allZ_take_le (show k + 1 ≤ n by omega) hh
            rw [allZ_take_succ l k hlt2] at this
            simp [hx] at this
        have H := Lib.hid e
        have hx1 := u8_ne hx
        clear e
        go_wp2
        go_returns
        exact ⟨rfl, .inr ⟨H.out, fin.1⟩, fin.2⟩
    · obtain rfl : k = n := by omega
      go_wp2
      all_goals
        go_returns
        exact ⟨rfl, .inl ⟨Hz.out, rdr_cut h1 h2 m3 h4 h5 h6 hn _ _ _ (by first | exact .inl ⟨rfl, by omega⟩ | exact .inr rfl) rfl (by omega)⟩, (Fr.refl _ _).setCell (.inl (by simp)) _⟩

set_option maxHeartbeats 800000 in
theorem xDone_any {w : World} {p : Nat} {G : List Nat} {l : List UInt8} {bad : Bool} (h : Rdr 48 w p G l bad) :
    Calls Try.prog 29 #[.pointer (some ⟨p, 0, none⟩)] w fun e w' => e = .returned (.int .i64 (doneE l bad)) ∧ w = w' := by
  obtain ⟨A, c, h1, h2, h3, h4, h5, h6⟩ := h
  have c0 := h1.cell 0
  have c1 := h1.cell 1
  simp at c0 c1
  go_enter Try.func29, Try.ntmps29
  go_wp2
  go_loop [3] (fun i => ∃ k : Nat, k ≤ l.length ∧ i = .int .i64 k ∧ allZ (l.take k) = true) (fun i => l.length - (intOf i).toNat)
  case atStart => exact ⟨0, Nat.zero_le _, rfl, rfl⟩
  case round =>
    obtain ⟨k, hk, rfl, hz⟩ := hrel
    have Hz := Lib.hid hz
    clear hz
    by_cases hlt : k < l.length
    · obtain ⟨g, o, rfl, hc⟩ := h5.byte (k := k) (by omega)
      have hck := hc k hlt
      clear hc
      by_cases hx : l[k] = 0
      · have ht := allZ_take_succ l k hlt
        have Ht : Hid (allZ (l.take (k + 1)) = true) := by rw [Hid, ht, Hz.out, hx]; rfl
        clear ht
        rw [hx] at hck
        clear hx
        go_wp2
        go_round
        case rel => exact ⟨k + 1, by omega, by go_num, Ht.out⟩
        case measure => simp [intOf]; omega
      · have e : doneE l bad = 90 := by
          have : allZ l = false := by
            cases hh : allZ l with
            | false => rfl
            | true =>
              have := allZ_take_le (l := l) (show k + 1 ≤ l.length by omega) (by rw [List.take_length]; exact hh)
              rw [allZ_take_succ l k hlt] at this
              simp [hx] at this
          simp [doneE, this]
        have H := Lib.hid e
        have hx1 := u8_ne hx
        clear e
        go_wp2
        go_ret
        exact ⟨by rw [H.out]; rfl, rfl⟩
    · have e : allZ l = true := by
        have h := Hz.out
        rw [show k = l.length by omega, List.take_length] at h
        exact h
      have H := Lib.hid e
      clear e
      cases bad with
      | true =>
        go_wp2
        go_ret
        exact ⟨rfl, rfl⟩
      | false =>
        go_wp2
        go_ret
        exact ⟨by simp [doneE, H.out], rfl⟩
end Go.Proofs.Ytmonedfafechcaa
