/-
  A range over a function: what a round keeps, in terms of frames.
-/
import Derived.RangeFuncNested
import Derived.RangeFuncBound
import Derived.RangeFuncCalls
import Derived.RangeFuncLeaves
import Derived.Shelf.Abstract
import Derived.Shelf.RegionOpen
import Derived.WalkKit
import Derived.OwnWalkIn
import Derived.TacticsInMore
import Derived.LoopNIn
import Derived.LoopIn
import Derived.Test.YtdhhnioklbnicaaMemA
set_option linter.unusedSimpArgs false
set_option linter.unusedVariables false
set_option linter.unnecessarySimpa false
namespace Go.Proofs.Ytdhhnioklbnicaa
open Go.RowKit Go.Shelf

/-- Cells, and what lies below B, are as they were, but for the blocks F. -/
structure KeepC (F : List Nat) (B : Nat) (A C : World) : Prop where
  size : A.heap.size ≤ C.heap.size
  same : ∀ k o, A.heap[k]? = some o → k ∉ F → (k < B ∨ o.isCells = true) → C.heap[k]? = some o
theorem keepC_t {F : List Nat} {B : Nat} {A C E : World} (h : KeepC F B A C) (k : KeepC F B C E) : KeepC F B A E :=
  ⟨Nat.le_trans h.size k.size, fun i o hi hF hB => k.same i o (h.same i o hi hF hB) hF hB⟩
theorem keepC_b {F : List Nat} {B : Nat} {w : World} (hB : B ≤ w.heap.size) (W : World) (l : Nat) (o o' : Obj) (hl : w.heap.size ≤ l) (h : W.heap[l]? = some o) (hc : o.isCells = false) (_ : o.isWalk = false) : KeepC F B W (W.putObj l o') := by
  have hg := grownBy_putObj' W l o'
  refine ⟨hg.size, fun k x hk _ hx => ?_⟩
  have hlt := (Array.getElem?_eq_some_iff.1 hk).1
  have hne : k ≠ l := fun e => by
    subst e
    rw [h] at hk
    cases hk
    rcases hx with hx | hx
    · omega
    · rw [hc] at hx; cases hx
  rw [hg.block k hlt (by simpa using hne)]
  exact hk
theorem KeepC.of_fr {F : List Nat} {B : Nat} {A C : World} (f : Fr F A C) : KeepC F B A C :=
  ⟨f.size, fun k o hk hF _ => by rw [f.same k (Array.getElem?_eq_some_iff.1 hk).1 hF]; exact hk⟩
theorem KeepC.cell {F : List Nat} {B : Nat} {A C : World} (h : KeepC F B A C) {a : Addr} (ha : a.block ∉ F) {v : Value} (hc : A.cell? a = some v) : C.cell? a = some v := by
  obtain ⟨g, i, s⟩ := a
  have : ∃ o, A.heap[g]? = some o ∧ o.isCells = true := by
    unfold World.cell? at hc
    dsimp only at hc
    cases hh : A.heap[g]? with
    | none => rw [hh] at hc; cases hc
    | some o =>
      rw [hh] at hc
      cases o <;> first | exact ⟨_, rfl, rfl⟩ | cases hc
  obtain ⟨o, ho, hoc⟩ := this
  have hC := h.same g o ho ha (.inr hoc)
  unfold World.cell? at hc ⊢
  dsimp only at hc ⊢
  rw [ho] at hc
  rw [hC]
  exact hc
theorem KeepC.blk {F : List Nat} {B : Nat} {A C : World} (h : KeepC F B A C) {g : Nat} {t : TypeId} {cs : Array Value} (hg : g ∉ F) (hb : Blk A g t cs) : Blk C g t cs := h.same g _ hb hg (.inr rfl)
theorem KeepC.row {F : List Nat} {B : Nat} {A C : World} (h : KeepC F B A C) {base : Nat} {e : TypeId} {size : Nat} {v : Value} {n : Nat} {xs : List Value} (hr : Row A base e size v n xs) (hv : ∀ g, v.ownBlock = some g → g ∉ F) : Row C base e size v n xs := by
  refine ⟨hr.1, ?_⟩
  rcases hr.2 with h0 | ⟨g, cap, cur, fz, rfl, hb, hg, rest⟩
  · exact .inl h0
  · exact .inr ⟨g, cap, cur, fz, rfl, hb, h.same g _ hg (hv g rfl) (.inr rfl), rest⟩
theorem fr_grown {A C : World} (f : Fr [] A C) : A.grownBy C none := ⟨f.os, f.tape, f.output, f.size, fun k hk _ => f.same k hk (by simp)⟩
theorem grown_fr {A C : World} {r : Option Nat} (h : A.grownBy C r) : Fr r.toList A C := ⟨h.os, h.tape, h.output, h.size, fun k hk hn => h.block k hk (by cases r <;> simp_all)⟩
theorem keepsO_of_fr {F : List Nat} {A C : World} (f : Fr F A C) (hF : ∀ k ∈ F, ∀ o, A.heap[k]? = some o → o.isCells = true) : KeepsOthers A C :=
  ⟨f.size, fun k o hk hc => by
    rw [f.same k (Array.getElem?_eq_some_iff.1 hk).1 (fun hm => by rw [hF k hm o hk] at hc; cases hc)]
    exact hk⟩
/-- A frame since the loop began. -/
theorem ownFrom_fr {β : Type} {F : List Nat} {w : World} : OwnFrom w.heap.size (fun (_ : β) W => Fr F w W) := fun s W W' row hs hg hr => by
  refine ⟨hg.os.trans hs.os, hg.tape.trans hs.tape, hg.output.trans hs.output, Nat.le_trans hs.size hg.size, fun k hk hF => ?_⟩
  rw [hg.block k (Nat.lt_of_lt_of_le hk hs.size) (fun e => by have := (hr k e.symm).1; omega)]
  exact hs.same k hk hF
theorem ownFrom_blk {β : Type} {B g : Nat} {t : TypeId} {cs : β → Array Value} : OwnFrom B (fun (s : β) W => Blk W g t (cs s)) := fun s W W' row hs hg hr => by
  have hs' : Blk W g t (cs s) := hs
  have hlt := hs'.lt
  show W'.heap[g]? = some _
  rw [hg.block g hlt (fun e => by
    obtain ⟨_, o, ho, hc⟩ := hr g e.symm
    rw [show W.heap[g]? = some _ from hs'] at ho
    cases ho
    cases hc)]
  exact hs'
end Go.Proofs.Ytdhhnioklbnicaa
