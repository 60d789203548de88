/-
  What the layer's law asks of every program (lives), and calls of a nil Writer and a nil Reader.
-/
import Derived.Test.YtdhhnioklbnicaaCodG
set_option linter.unusedSimpArgs false
set_option linter.unusedVariables false
set_option linter.unnecessarySimpa false
namespace Go.Proofs.Ytdhhnioklbnicaa
open Go.RowKit

theorem strB (w : World) (A : Option Addr) (l : List UInt8) (n c : Nat) (hn : l.length = n) (hr : Rd w A (bvs l)) (hA : A = none → n = 0) :
    (convert 31 9 (.slice A n c)).run Try.prog w = .ok (.string ⟨l.toArray⟩) w :=
  conv_str Try.underlying31 Try.underlying5 Try.underlying9 w A l n c hn hr hA

/-- What a row's slice reads as. -/
theorem Row.str {w : World} {B : Nat} {v : Value} {n : Nat} {l : List UInt8} (h : Row w B 5 1 v n (bvs l)) :
    (convert 31 9 v).run Try.prog w = .ok (.string ⟨l.toArray⟩) w := by
  obtain ⟨A, cap, rfl, -, -, hr, -, -⟩ := h.shape
  have hl : l.length = n := by have := h.1; rw [bvs_length] at this; omega
  refine strB w A l n cap hl hr (fun e => ?_)
  subst e
  rcases Nat.eq_zero_or_pos n with h0 | h0
  · exact h0
  · obtain ⟨g, o, e, _⟩ := hr (by intro h; have := congrArg List.length h; rw [bvs_length, List.length_nil] at this; omega)
    cases e

theorem Row.rd {w : World} {B : Nat} {A : Option Addr} {n n' c : Nat} {xs : List Value} {e : TypeId} {s : Nat} (h : Row w B e s (.slice A n' c) n xs) : Rd w A xs ∧ n' = n ∧ (A = none → n = 0) := by
  rcases h.2 with ⟨h1, h2⟩ | ⟨g, cap, cur, fz, h1, _⟩
  · cases h1
    obtain ⟨A', c', e', _, _, h3, _, _⟩ := h.shape
    cases e'
    exact ⟨h3, h2.symm, fun _ => h2⟩
  · cases h1
    obtain ⟨A', c', e', _, _, h3, _, _⟩ := h.shape
    cases e'
    exact ⟨h3, rfl, fun h => by cases h⟩

set_option maxHeartbeats 1000000 in
theorem lives09_any (w : World) : Calls Try.prog 26 #[] w fun e w' => e = .returned (.bool true) ∧ Fr [] w w' := by
  go_enter Try.func26, Try.ntmps26
  go_wp2_with fail
  refine (newWriter_any 4 w).mono ?_
  rintro e w1 ⟨rfl, h1, f1, z1⟩
  rw [show sizeN 4 = 4 from rfl] at h1
  go_wp2_with fail
  refine (wUint_ok h1 2 258 rfl (by decide) (by decide) (by decide)).mono ?_
  rintro e w2 ⟨rfl, v2, h2, f2, z2⟩
  rw [show ([] : List UInt8) ++ leB 2 258 = [2, 1] from rfl] at h2
  have F2 : Fr [] w w2 := f1.trans f2 (fun i hi => by
    rcases List.mem_cons.1 hi with rfl | hi
    · exact .inr (Nat.le_refl _)
    · exact (own_nil.1 hi).elim)
  clear f1 f2 z2
  go_wp2_with fail
  refine (wDone_ok h2).mono ?_
  rintro e w3 ⟨r3, rfl, h3, f3⟩
  have F3 := F2.trans_nil f3
  clear F2 f3
  have hs3 := h3.str
  obtain ⟨A, cap, rfl, -, -, hrd, -, -⟩ := h3.shape
  go_wp2_with fail
  refine (newReader_any A [2, 1, 0, 0] 4 cap w3 rfl hrd h3.rd.2.2 (by decide)).mono ?_
  rintro e w4 ⟨p4, G4, rfl, h4, f4, z4, z5⟩
  have F4 := F3.trans_nil f4
  have hs4 := (h3.keep_nil f4).str
  clear f4 hs3
  go_wp2_with fail
  have c5 := rUint_ok h4 2 (by decide) rfl
  rw [show leN (List.take 2 [2, 1, 0, 0]) = 258 from rfl, show List.drop 2 ([2, 1, 0, 0] : List UInt8) = [0, 0] from rfl] at c5
  refine c5.mono ?_
  clear c5
  rintro e w5 ⟨rfl, h5, f5⟩
  have F5 := F4.trans f5 (fun i hi => .inr (by have := z4; have := F3.size; simp at hi; omega))
  go_wp2_with fail
  have c6 := rDone_any h5
  rw [show doneE [0, 0] false = 0 from rfl] at c6
  refine c6.mono ?_
  clear c6
  rintro e w6 ⟨rfl, rfl⟩
  go_wp2_with fail
  refine (rLeft_any h5).mono ?_
  rintro e w6 ⟨rfl, rfl⟩
  go_wp2
  go_ret
  exact ⟨rfl, F5⟩
end Go.Proofs.Ytdhhnioklbnicaa
