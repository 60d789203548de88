/-
  In a round of a range over a function: a region is walked as anywhere.
-/
import Derived.Test.YtdhhnioklbnicaaRngA
import Derived.Test.YtdhhnioklbnicaaRegT
set_option linter.unusedSimpArgs false
set_option linter.unusedVariables false
set_option linter.unnecessarySimpa false
namespace Go.Proofs.Ytdhhnioklbnicaa
open Go.RowKit Go.Shelf
section
variable {P : Program} {ops : Array Oper} {Q : Exit → Act → World → Prop} {md : Region.Mode} {l n : Nat}
/-- No operation is a defer statement, none calls a row of the library. -/
def plainOps (ops : Array Oper) : Bool := ops.all fun o => match o.op with | .defer _ => false | _ => true
theorem rowsIn_of {row : String} {args : Array Value} {w : World} {R : Value → World → Prop} (h : Go.Rows P row args w R) : RowsIn (Fence.wide.inRound l) n P row args w R := fun c cs _ => by
  obtain ⟨v, w', r, s⟩ := h c cs
  exact ⟨v, w', r, stepsIn_wide.2 s⟩
theorem wpOpIn_of {i : Nat} {o : Oper} {a : Act} {w : World} {K K' : Act → World → Prop} (hi : ops[i]? = some o) (hd : ∀ c, o.op ≠ .defer c) (hL : ¬ LetsOut Q) (hKK : ∀ a w, K a w → K' a w)
    (h : wpOp P ops Q i K a w) : wpOpIn (Fence.wide.inRound l) n P ops Q i K' a w := by
  unfold wpOp at h
  unfold wpOpIn
  rw [hi] at h ⊢
  dsimp only at h ⊢
  split
  · rename_i hw
    rw [if_pos hw] at h
    rcases h with h | ⟨_, h⟩
    · unfold Oper.wp at h
      unfold Oper.wpIn
      refine ⟨fun _ _ => trivial, ?_⟩
      rw [Oper.semAt_eq _ _ _ hd]
      generalize (execOp a.eval o).run P w = r at *
      cases r with
      | ok x w' =>
        cases x
        case value v => exact hKK _ _ h
        case skip => exact hKK _ _ h
        case defer d => exact hKK _ _ h
        case enter f args =>
          refine ⟨fun hd => (by cases hd), CallsIn.inRound l (callsIn_wide.2 ?_)⟩
          exact Calls.mono h (fun e w'' he => by cases e <;> first | exact hKK _ _ he | exact he)
        case row row args => exact ⟨fun hd => (by cases hd), rowsIn_of (Rows.mono h (fun _ _ he => hKK _ _ he))⟩
        all_goals exact (h : False).elim
      | halt x w' => cases x <;> first | exact h | exact (h : False).elim
    · exact absurd h hL
  · rename_i hw
    rw [if_neg hw] at h
    exact ⟨fun _ _ => trivial, hKK _ _ h⟩
theorem plainOps_at (h : plainOps ops = true) {i : Nat} {o : Oper} (hi : ops[i]? = some o) : ∀ c, o.op ≠ .defer c := fun c e => by
  have := Array.all_eq_true'.1 h o (Array.mem_of_getElem? hi)
  rw [e] at this
  cases this
theorem wpAnyIn_of (hd : plainOps ops = true) (hL : ¬ LetsOut Q) :
    ∀ (k : Nat) (listed : Array Bool) (a : Act) (w : World), wpAny P md ops Q k listed a w → wpAnyIn (Fence.wide.inRound l) n P md ops Q k listed a w
  | 0, _, _, _, h => h
  | k + 1, listed, a, w, h => ⟨h.1, fun i hi => by
      obtain ⟨-, o, ho, -⟩ := mem_ready.1 hi
      exact wpOpIn_of ho (plainOps_at hd ho) hL (fun a w h => wpAnyIn_of hd hL k _ a w h) (h.2 i hi)⟩
/-- A region that draws its order, in a round. -/
theorem wpIn_region_round {S : World → Prop} {id : Nat} {a : Act} {w : World} (z : Nat) (hm : P.follows .mixedOrders = true) (hd : plainOps ops = true) (hL : ¬ LetsOut Q)
    (h : wpAnyT P .any ops Q S z ops.size (Array.replicate ops.size false) a w.drew) : (Code.region id ops true).wpIn (Fence.wide.inRound l) n P Q a w :=
  wpIn_region_any hm (wpAnyIn_of hd hL _ _ _ _ (wpAny_of_T _ _ _ _ h))
end
end Go.Proofs.Ytdhhnioklbnicaa
