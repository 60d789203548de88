/-
  Contracts of both Readers at whatever number: one function of what is left tells what comes and what stays.
-/
import Derived.Test.YtlelgeigighecaaDoorCodH
set_option linter.unusedSimpArgs false
set_option linter.unusedVariables false
set_option linter.unnecessarySimpa false
namespace Go.Proofs.YtlelgeigighecaaDoor
open Go.RowKit

/-- May n bytes be read? -/
def inR (l : List UInt8) (bad : Bool) (n : Int) : Bool := !bad && decide (0 ≤ n) && decide (n ≤ l.length)
theorem inR_true {l : List UInt8} {bad : Bool} {n : Int} (h : inR l bad n = true) : bad = false ∧ ∃ m : Nat, n = m ∧ m ≤ l.length := by
  simp only [inR, Bool.and_eq_true, Bool.not_eq_true', decide_eq_true_eq] at h
  exact ⟨h.1.1, n.toNat, by omega, by omega⟩
theorem inR_false {l : List UInt8} {bad : Bool} {n : Int} (h : inR l bad n = false) : bad = true ∨ n < 0 ∨ (l.length : Int) < n := by
  simp only [inR, Bool.and_eq_false_iff, Bool.not_eq_false', decide_eq_false_iff_not] at h
  rcases h with (h | h) | h
  · exact .inl h
  · exact .inr (.inl (by omega))
  · exact .inr (.inr (by omega))

def stB (l : List UInt8) (bad : Bool) (n : Int) : List UInt8 := if inR l bad n then l.take n.toNat else []
def stL (l : List UInt8) (bad : Bool) (n : Int) : List UInt8 := if inR l bad n then l.drop n.toNat else l
def stUv (l : List UInt8) (bad : Bool) (n : Int) : Nat := if inR l bad n && wide n then leN (l.take n.toNat) else 0
def stUl (l : List UInt8) (bad : Bool) (n : Int) : List UInt8 := if inR l bad n && wide n then l.drop n.toNat else l
def stUb (l : List UInt8) (bad : Bool) (n : Int) : Bool := !(inR l bad n && wide n)
def stZl (l : List UInt8) (bad : Bool) (n : Int) : List UInt8 := if inR l bad n && allZ (l.take n.toNat) then l.drop n.toNat else l
def stZb (l : List UInt8) (bad : Bool) (n : Int) : Bool := !(inR l bad n && allZ (l.take n.toNat))
theorem stUv_lt (l : List UInt8) (bad : Bool) (n : Int) : stUv l bad n < 18446744073709551616 := by
  unfold stUv
  split
  · rename_i h
    simp only [Bool.and_eq_true] at h
    have h8 : n.toNat ≤ 8 := by
      have := h.2
      simp only [wide, Bool.or_eq_true, beq_iff_eq] at this
      omega
    exact Nat.lt_of_lt_of_le (leN_take_lt l _) (Nat.le_trans (Nat.pow_le_pow_right (by omega) h8) (by decide))
  · omega

section
variable {w : World} {p : Nat} {G : List Nat} {l : List UInt8} {bad : Bool}

theorem rUint_any (h : Rdr 108 w p G l bad) (n : Int) :
    Calls Tryd.prog 54 #[.pointer (some ⟨p, 0, none⟩), .int .i64 n] w fun e w' => e = .returned (.int .u64 (stUv l bad n)) ∧ Rdr 108 w' p G (stUl l bad n) (stUb l bad n) ∧ Fr [p] w w' := by
  cases h1 : (inR l bad n && wide n) with
  | true =>
    simp only [Bool.and_eq_true] at h1
    obtain ⟨rfl, m, rfl, hm⟩ := inR_true h1.1
    have e1 : stUv l false m = leN (l.take m) := by simp [stUv, h1.1, h1.2]
    have e2 : stUl l false m = l.drop m := by simp [stUl, h1.1, h1.2]
    have e3 : stUb l false m = false := by simp [stUb, h1.1, h1.2]
    rw [e1, e2, e3]
    exact rUint_ok h m hm h1.2
  | false =>
    have e1 : stUv l bad n = 0 := by simp [stUv, h1]
    have e2 : stUl l bad n = l := by simp [stUl, h1]
    have e3 : stUb l bad n = true := by simp [stUb, h1]
    rw [e1, e2, e3]
    refine rUint_bad h n ?_
    by_cases hw : wide n = true
    · have h2 : inR l bad n = false := by simpa [hw] using h1
      rcases inR_false h2 with h | h | h
      · exact .inl h
      · simp only [wide, Bool.or_eq_true, beq_iff_eq] at hw; omega
      · exact .inr (.inr h)
    · exact .inr (.inl (by simpa using hw))

theorem rBytes_any (h : Rdr 108 w p G l bad) (n : Int) :
    Calls Tryd.prog 52 #[.pointer (some ⟨p, 0, none⟩), .int .i64 n] w fun e w' => ∃ v, e = .returned v ∧ Row w' w.heap.size 5 1 v (stB l bad n).length (bvs (stB l bad n)) ∧ Rdr 108 w' p G (stL l bad n) (!inR l bad n) ∧ Fr [p] w w' := by
  cases h1 : inR l bad n with
  | true =>
    obtain ⟨rfl, m, rfl, hm⟩ := inR_true h1
    have e1 : stB l false m = l.take m := by simp [stB, h1]
    have e2 : stL l false m = l.drop m := by simp [stL, h1]
    rw [e1, e2, show (l.take m).length = m by rw [List.length_take]; omega]
    exact rBytes_ok h m hm
  | false =>
    have e1 : stB l bad n = [] := by simp [stB, h1]
    have e2 : stL l bad n = l := by simp [stL, h1]
    rw [e1, e2]
    exact (rBytes_bad h n (inR_false h1)).mono fun e w' ⟨h1, h2, h3⟩ => ⟨_, h1, Row.nil _ _ _ _, h2, h3⟩

end
end Go.Proofs.YtlelgeigighecaaDoor
