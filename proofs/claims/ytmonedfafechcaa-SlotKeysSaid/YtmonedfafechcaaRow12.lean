/-
  Arguments of layer 12's laws (a slot) as they come in.
-/
import Derived.Test.YtmonedfafechcaaProg
import Derived.Test.YtmonedfafechcaaRowB
import Derived.Test.YtmonedfafechcaaSlotA
import Derived.OpenShut
set_option linter.unusedSimpArgs false
set_option linter.unusedVariables false
set_option linter.unnecessarySimpa false
namespace Go.Proofs.Ytmonedfafechcaa
open Go.ChangeShapes Go.WideShapes Go.ChangeAt Go.RowKit

section
variable {H : Type} {enc : TypeId × Value → H} {P : Program} {W : World} {held : Bool}

/-- An array of bytes. -/
theorem open_barr {fuel n : Nat} {t e : TypeId} {cs : List Value} {x : DataW H × List MemPlace} (ht : P.underlying t = some (.array n e)) (he : P.underlying e = some (.int .u8)) (hc : P.cellsOf e = 1) (hn : P.cellsOf t = n)
    (h : DataW.trod enc P W 0 (fun _ => true) held fuel t cs = some x) : ∃ l : List UInt8, l.length = n ∧ cs = bvs l := by
  obtain ⟨xs, m, _, _, hl, hx, hall⟩ := DataW.trod_array ht h
  rw [hn] at hl
  have each : ∀ i (hi : i < cs.length), ∃ b : UInt8, cs[i] = bv b := by
    intro i hi
    have h1 := hall i (by omega)
    rw [hc, Nat.mul_one] at h1
    have h2 : (cs.drop i).take 1 = [cs[i]] := by rw [List.take_one, List.head?_drop, List.getElem?_eq_getElem hi]; rfl
    rw [h2, List.getElem?_eq_getElem (by omega)] at h1
    obtain ⟨z, e1, _, r⟩ := DataW.trod_int he h1
    obtain ⟨b, rfl⟩ := wf_u8 r
    simp only [List.cons.injEq, and_true] at e1
    exact ⟨b, e1⟩
  clear hall hx
  have key : ∀ (cs : List Value), (∀ i (hi : i < cs.length), ∃ b : UInt8, cs[i] = bv b) → ∃ l : List UInt8, cs = bvs l := by
    intro cs
    induction cs with
    | nil => exact fun _ => ⟨[], rfl⟩
    | cons v r ih =>
      intro hh
      obtain ⟨b, hb⟩ := hh 0 (by simp)
      obtain ⟨l, hl⟩ := ih (fun i hi => by
        obtain ⟨b, hb⟩ := hh (i + 1) (by simp; omega)
        exact ⟨b, by simpa using hb⟩)
      exact ⟨b :: l, by rw [hl]; simp at hb; rw [hb]; rfl⟩
  obtain ⟨l, rfl⟩ := key cs each
  exact ⟨l, by rw [bvs_length] at hl; exact hl, rfl⟩

set_option maxRecDepth 100000 in
theorem arg_slot {v : Value} {d : DataW H} {ps : List MemPlace} {r : Reach} {b0 : Nat} (hv : Value.okWide Try.prog W r b0 60 v) (h : DataW.Trod enc Try.prog W 0 (fun _ => true) held 60 v d ps) (hw : (DataW.weights Try.prog 60 d).all (· ≤ reachBytes) = true) :
    ∃ s : SlotM, v = .agg s.cells.toArray ∧ s.ok := by
  obtain ⟨arr, rfl, _⟩ := okWide_struct Try.underlying60 hv
  obtain ⟨fuel, hf⟩ := h
  obtain ⟨hl, m0, y0, t0, _⟩ := open_field Try.underlying60 hf hw 0 4 0 rfl
  obtain ⟨_, m1, y1, t1, _⟩ := open_field Try.underlying60 hf hw 1 57 1 rfl
  obtain ⟨_, m2, y2, t2, _⟩ := open_field Try.underlying60 hf hw 2 58 17 rfl
  obtain ⟨_, m3, y3, t3, _⟩ := open_field Try.underlying60 hf hw 3 58 49 rfl
  have c81 : Try.prog.cellsOf 60 = 81 := by kernel_rfl
  have cb : Try.prog.cellsOf 4 = 1 := by kernel_rfl
  have c16 : Try.prog.cellsOf 57 = 16 := by kernel_rfl
  have c32 : Try.prog.cellsOf 58 = 32 := by kernel_rfl
  have c8 : Try.prog.cellsOf 5 = 1 := by kernel_rfl
  obtain ⟨l1, e1, q1⟩ := open_barr Try.underlying57 Try.underlying5 c8 c16 t1
  obtain ⟨l2, e2, q2⟩ := open_barr Try.underlying58 Try.underlying5 c8 c32 t2
  obtain ⟨l3, e3, q3⟩ := open_barr Try.underlying58 Try.underlying5 c8 c32 t3
  rw [c81] at hl
  rw [c16] at q1
  rw [c32] at q2 q3
  rw [cb] at t0
  obtain ⟨b, q0, _⟩ := DataW.trod_bool Try.underlying4 t0
  clear t0 t1 t2 t3 hf hw hv
  rw [show (Value.agg arr).cells = arr from rfl] at hl q0 q1 q2 q3
  refine ⟨⟨b, l1, l2, l3⟩, ?_, e1, e2, e3⟩
  congr 1
  apply Array.ext'
  have hl' : arr.toList.length = 81 := hl
  generalize arr.toList = L at *
  rw [List.drop_zero] at q0
  show L = Value.bool b :: (bvs l1 ++ (bvs l2 ++ bvs l3))
  conv => lhs; rw [← List.take_append_drop 1 L, q0, ← List.take_append_drop 16 (L.drop 1), q1, List.drop_drop, ← List.take_append_drop 32 (L.drop (1 + 16)), show (1 + 16 : Nat) = 17 from rfl, q2, List.drop_drop, show (17 + 32 : Nat) = 49 from rfl]
  rw [← q3, List.take_of_length_le (by rw [List.length_drop, hl']; omega)]
  rfl
end
end Go.Proofs.Ytmonedfafechcaa
