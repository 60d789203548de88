/-
  Arguments of layer 11's laws (a header) as they come in.
-/
import Derived.Test.YtlelgeigighecaaDoorRowB
import Derived.Test.YtlelgeigighecaaDoorHeadA
import Derived.OpenShut
set_option linter.unusedSimpArgs false
set_option linter.unusedVariables false
set_option linter.unnecessarySimpa false
namespace Go.Proofs.YtlelgeigighecaaDoor
open Go.ChangeShapes Go.WideShapes Go.ChangeAt Go.RowKit

section
variable {H : Type} {enc : TypeId × Value → H} {P : Program} {W : World} {held : Bool}
/-- An array of bytes. -/
theorem open_barrH {fuel n : Nat} {t e : TypeId} {cs : List Value} {x : DataW H × List MemPlace} (ht : P.underlying t = some (.array n e)) (he : P.underlying e = some (.int .u8)) (hc : P.cellsOf e = 1) (hn : P.cellsOf t = n)
    (h : DataW.trod enc P W 0 (fun _ => true) held fuel t cs = some x) : ∃ l : List UInt8, l.length = n ∧ cs = bvs l := by
  obtain ⟨xs, m, _, _, hl, hx, hall⟩ := DataW.trod_array ht h
  rw [hn] at hl
  have each : ∀ i (hi : i < cs.length), ∃ b : UInt8, cs[i] = bv b := by
    intro i hi
    have h1 := hall i (by omega)
    rw [hc, Nat.mul_one] at h1
    have h2 : (cs.drop i).take 1 = [cs[i]] := by rw [List.take_one, List.head?_drop, List.getElem?_eq_getElem hi]; rfl
    rw [h2, List.getElem?_eq_getElem (by omega)] at h1
    obtain ⟨z, e1, _, r⟩ := DataW.trod_int he h1
    obtain ⟨b, rfl⟩ := wf_u8 r
    simp only [List.cons.injEq, and_true] at e1
    exact ⟨b, e1⟩
  clear hall hx
  have key : ∀ (cs : List Value), (∀ i (hi : i < cs.length), ∃ b : UInt8, cs[i] = bv b) → ∃ l : List UInt8, cs = bvs l := by
    intro cs
    induction cs with
    | nil => exact fun _ => ⟨[], rfl⟩
    | cons v r ih =>
      intro hh
      obtain ⟨b, hb⟩ := hh 0 (by simp)
      obtain ⟨l, hl⟩ := ih (fun i hi => by
        obtain ⟨b, hb⟩ := hh (i + 1) (by simp; omega)
        exact ⟨b, by simpa using hb⟩)
      exact ⟨b :: l, by rw [hl]; simp at hb; rw [hb]; rfl⟩
  obtain ⟨l, rfl⟩ := key cs each
  exact ⟨l, by rw [bvs_length] at hl; exact hl, rfl⟩
set_option maxRecDepth 100000 in
theorem arg_head {v : Value} {d : DataW H} {ps : List MemPlace} {r : Reach} {b0 : Nat} (hv : Value.okWide Tryd.prog W r b0 27 v) (h : DataW.Trod enc Tryd.prog W 0 (fun _ => true) held 27 v d ps) (hw : (DataW.weights Tryd.prog 27 d).all (· ≤ reachBytes) = true) :
    ∃ s : HeadM, v = .agg s.cells.toArray ∧ s.ok := by
  obtain ⟨arr, rfl, _⟩ := okWide_struct Tryd.underlying27 hv
  obtain ⟨fuel, hf⟩ := h
  obtain ⟨hl, m0, y0, t0, _⟩ := open_field Tryd.underlying27 hf hw 0 22 0 rfl
  obtain ⟨_, m1, y1, t1, _⟩ := open_field Tryd.underlying27 hf hw 1 3 1 rfl
  obtain ⟨_, m2, y2, t2, _⟩ := open_field Tryd.underlying27 hf hw 2 3 2 rfl
  obtain ⟨_, m3, y3, t3, _⟩ := open_field Tryd.underlying27 hf hw 3 3 3 rfl
  obtain ⟨_, m4, y4, t4, _⟩ := open_field Tryd.underlying27 hf hw 4 3 4 rfl
  obtain ⟨_, m5, y5, t5, w5⟩ := open_field Tryd.underlying27 hf hw 5 24 5 rfl
  obtain ⟨_, m6, y6, t6, _⟩ := open_field Tryd.underlying27 hf hw 6 25 8 rfl
  obtain ⟨_, n0, x0, p0, _⟩ := open_field Tryd.underlying24 t5 w5 0 3 0 rfl
  obtain ⟨_, n1, x1, p1, _⟩ := open_field Tryd.underlying24 t5 w5 1 3 1 rfl
  obtain ⟨_, n2, x2, p2, _⟩ := open_field Tryd.underlying24 t5 w5 2 3 2 rfl
  have c24 : Tryd.prog.cellsOf 27 = 24 := by kernel_rfl
  have cu : Tryd.prog.cellsOf 22 = 1 := by kernel_rfl
  have ci : Tryd.prog.cellsOf 3 = 1 := by kernel_rfl
  have cp : Tryd.prog.cellsOf 24 = 3 := by kernel_rfl
  have c16 : Tryd.prog.cellsOf 25 = 16 := by kernel_rfl
  have c8 : Tryd.prog.cellsOf 5 = 1 := by kernel_rfl
  obtain ⟨l1, e1, q1⟩ := open_barrH Tryd.underlying25 Tryd.underlying5 c8 c16 t6
  rw [c24] at hl
  rw [c16] at q1
  rw [cu] at t0
  rw [ci] at t1 t2 t3 t4 p0 p1 p2
  rw [cp] at p0 p1 p2
  obtain ⟨g0, k0, _, r0⟩ := DataW.trod_int Tryd.underlying22 t0
  obtain ⟨g1, k1, _, r1⟩ := DataW.trod_int Tryd.underlying3 t1
  obtain ⟨g2, k2, _, r2⟩ := DataW.trod_int Tryd.underlying3 t2
  obtain ⟨g3, k3, _, r3⟩ := DataW.trod_int Tryd.underlying3 t3
  obtain ⟨g4, k4, _, r4⟩ := DataW.trod_int Tryd.underlying3 t4
  obtain ⟨g5, k5, _, r5⟩ := DataW.trod_int Tryd.underlying3 p0
  obtain ⟨g6, k6, _, r6⟩ := DataW.trod_int Tryd.underlying3 p1
  obtain ⟨g7, k7, _, r7⟩ := DataW.trod_int Tryd.underlying3 p2
  obtain ⟨gn, rfl, hgn⟩ := wf_u64 r0
  clear t0 t1 t2 t3 t4 t5 t6 p0 p1 p2 hf hw hv w5
  rw [show (Value.agg arr).cells = arr from rfl] at hl k0 k1 k2 k3 k4 k5 k6 k7 q1
  refine ⟨⟨gn, g1, g2, g3, g4, g5, g6, g7, l1⟩, ?_, ⟨hgn, wf_i64 r1, wf_i64 r2, wf_i64 r3, wf_i64 r4, wf_i64 r5, wf_i64 r6, wf_i64 r7, e1⟩⟩
  congr 1
  apply Array.ext'
  have hl' : arr.toList.length = 24 := hl
  generalize arr.toList = L at *
  match L, hl', k0, k1, k2, k3, k4, k5, k6, k7, q1 with
  | [a0, a1, a2, a3, a4, a5, a6, a7, b0, b1, b2, b3, b4, b5, b6, b7, b8, b9, b10, b11, b12, b13, b14, b15], _, k0, k1, k2, k3, k4, k5, k6, k7, q1 =>
    simp at k0 k1 k2 k3 k4 k5 k6 k7
    subst k0 k1 k2 k3 k4 k5 k6 k7
    show _ = _ :: _ :: _ :: _ :: _ :: _ :: _ :: _ :: bvs l1
    rw [← q1]
    rfl
end
end Go.Proofs.YtlelgeigighecaaDoor
