/-
  What the layer's law asks of every program (lives), and calls of a nil Writer and a nil Reader.
-/
import Derived.Test.YtlelgeigighecaaDoorCodG
set_option linter.unusedSimpArgs false
set_option linter.unusedVariables false
set_option linter.unnecessarySimpa false
namespace Go.Proofs.YtlelgeigighecaaDoor
open Go.RowKit

theorem strB (w : World) (A : Option Addr) (l : List UInt8) (n c : Nat) (hn : l.length = n) (hr : Rd w A (bvs l)) (hA : A = none → n = 0) :
    (convert 28 9 (.slice A n c)).run Tryd.prog w = .ok (.string ⟨l.toArray⟩) w :=
  conv_str Tryd.underlying28 Tryd.underlying5 Tryd.underlying9 w A l n c hn hr hA

/-- What a row's slice reads as. -/
theorem Row.str {w : World} {B : Nat} {v : Value} {n : Nat} {l : List UInt8} (h : Row w B 5 1 v n (bvs l)) :
    (convert 28 9 v).run Tryd.prog w = .ok (.string ⟨l.toArray⟩) w := by
  obtain ⟨A, cap, rfl, -, -, hr, -, -⟩ := h.shape
  have hl : l.length = n := by have := h.1; rw [bvs_length] at this; omega
  refine strB w A l n cap hl hr (fun e => ?_)
  subst e
  rcases Nat.eq_zero_or_pos n with h0 | h0
  · exact h0
  · obtain ⟨g, o, e, _⟩ := hr (by intro h; have := congrArg List.length h; rw [bvs_length, List.length_nil] at this; omega)
    cases e

theorem Row.rd {w : World} {B : Nat} {A : Option Addr} {n n' c : Nat} {xs : List Value} {e : TypeId} {s : Nat} (h : Row w B e s (.slice A n' c) n xs) : Rd w A xs ∧ n' = n ∧ (A = none → n = 0) := by
  rcases h.2 with ⟨h1, h2⟩ | ⟨g, cap, cur, fz, h1, _⟩
  · cases h1
    obtain ⟨A', c', e', _, _, h3, _, _⟩ := h.shape
    cases e'
    exact ⟨h3, h2.symm, fun _ => h2⟩
  · cases h1
    obtain ⟨A', c', e', _, _, h3, _, _⟩ := h.shape
    cases e'
    exact ⟨h3, rfl, fun h => by cases h⟩

end Go.Proofs.YtlelgeigighecaaDoor
