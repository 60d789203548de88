/-
  Contracts of the reference's Reader: Uint, Zeros, Done.
-/
import Derived.Test.YtdhhnioklbnicaaCodD
set_option linter.unusedSimpArgs false
set_option linter.unusedVariables false
set_option linter.unnecessarySimpa false
namespace Go.Proofs.Ytdhhnioklbnicaa
open Go.RowKit

/-- What Zeros leaves: over n bytes, all of them in reach. -/
theorem allZ_take_le {l : List UInt8} {k n : Nat} (hk : k ≤ n) (h : allZ (l.take n) = true) : allZ (l.take k) = true := by
  unfold allZ at *
  rw [List.all_eq_true] at *
  intro x hx
  exact h x (by rw [List.mem_take_iff_getElem] at *; obtain ⟨i, hi, e⟩ := hx; exact ⟨i, by omega, e⟩)

/-- What Zeros leaves, n in reach. -/
def ZPost (T : TypeId) (w : World) (p : Nat) (G : List Nat) (l : List UInt8) (n : Nat) : Prop :=
  (allZ (l.take n) = true ∧ Rdr T w p G (l.drop n) false) ∨ (allZ (l.take n) = false ∧ Rdr T w p G l true)

end Go.Proofs.Ytdhhnioklbnicaa
