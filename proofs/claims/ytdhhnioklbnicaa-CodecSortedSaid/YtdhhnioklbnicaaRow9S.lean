/-
  A call of Sorted's law (a struct of three fields) in a slice, as it comes in.
-/
import Derived.Test.YtdhhnioklbnicaaProg
import Derived.Test.YtdhhnioklbnicaaRowB
import Derived.OpenShut
import Derived.Test.YtdhhnioklbnicaaSrA
set_option linter.unusedSimpArgs false
set_option linter.unusedVariables false
set_option linter.unnecessarySimpa false
namespace Go.Proofs.Ytdhhnioklbnicaa
open Go.ChangeShapes Go.WideShapes Go.ChangeAt Go.RowKit

structure OA where
  kind : Int
  n : Int
  t : ByteArray
def OA.cells (o : OA) : List Value := [.int .i64 o.kind, .int .i64 o.n, .string o.t]
section
variable {H : Type} {enc : TypeId × Value → H} {W : World} {held : Bool}
set_option maxRecDepth 100000 in
theorem open_act {fuel : Nat} {cs : List Value} {x : DataW H × List MemPlace} (h : DataW.trod enc Try.prog W 0 (fun _ => true) held fuel 65 cs = some x) (hw : (DataW.weights Try.prog 65 x.1).all (· ≤ reachBytes) = true) :
    ∃ o : OA, cs = o.cells ∧ wfZ o.n := by
  obtain ⟨hl, m0, y0, t0, _⟩ := open_field Try.underlying65 h hw 0 3 0 rfl
  obtain ⟨_, m1, y1, t1, _⟩ := open_field Try.underlying65 h hw 1 3 1 rfl
  obtain ⟨_, m2, y2, t2, _⟩ := open_field Try.underlying65 h hw 2 9 2 rfl
  have c3 : Try.prog.cellsOf 65 = 3 := by kernel_rfl
  have ci : Try.prog.cellsOf 3 = 1 := by kernel_rfl
  have cb : Try.prog.cellsOf 9 = 1 := by kernel_rfl
  rw [c3] at hl
  match cs, hl with
  | [a, b, c], _ =>
    simp only [ci, cb, List.drop_zero, List.drop_succ_cons, List.take_succ_cons, List.take_zero] at t0 t1 t2
    obtain ⟨k, e0, _, r0⟩ := DataW.trod_int Try.underlying3 t0
    obtain ⟨n, e1, _, r1⟩ := DataW.trod_int Try.underlying3 t1
    obtain ⟨s, e2, _, _⟩ := DataW.trod_string Try.underlying9 t2
    simp only [List.cons.injEq, and_true] at e0 e1 e2
    subst e0 e1 e2
    exact ⟨⟨k, n, s⟩, rfl, wfZ_of (wf_i64 r1)⟩
structure ArgA (W : World) (A : Option Addr) (n cap : Nat) (l : List OA) : Prop where
  len : l.length = n
  rd : 0 < n → ∃ g o, A = some ⟨g, o, none⟩ ∧ g < W.heap.size ∧ ∀ i (hi : i < l.length) j, j < 3 → W.cell? ⟨g, o + i * 3 + j, none⟩ = l[i].cells[j]?
  nil : A = none → n = 0
  le : n ≤ cap
  cap : cap ≤ maxLen
  reach : n * 32 ≤ 140737488351232
  ok : ∀ o ∈ l, wfZ o.n
set_option maxRecDepth 100000 in
theorem arg_acts {v : Value} {d : DataW H} {ps : List MemPlace} {r : Reach} {b0 : Nat} (hv : Value.okWide Try.prog W r b0 54 v) (h : DataW.Trod enc Try.prog W 0 (fun _ => true) held 54 v d ps) (hw : (DataW.weights Try.prog 54 d).all (· ≤ reachBytes) = true) :
    ∃ A n cap l, v = .slice A n cap ∧ ArgA W A n cap l := by
  obtain ⟨A, n, cap, rfl⟩ := okWide_slice Try.underlying54 hv
  obtain ⟨fuel, hf⟩ := h
  have c3 : Try.prog.cellsOf 65 = 3 := by kernel_rfl
  have bb : Try.prog.bytesOf 65 = 32 := by kernel_rfl
  obtain ⟨A', n', cap', els, h1, h2⟩ := open_elems Try.underlying54 (by rw [c3]; omega) hf hw
  simp [Value.cells] at h1
  obtain ⟨rfl, rfl, rfl⟩ := h1
  have hm : ∀ x ∈ els, ∃ o : OA, x = o.cells ∧ wfZ o.n := fun x hx => by
    obtain ⟨_, m, y, e1, e2⟩ := h2.each x hx
    exact open_act e1 e2
  obtain ⟨l, hl⟩ : ∃ l : List OA, l.map OA.cells = els ∧ ∀ o ∈ l, wfZ o.n := by
    clear h2 hf
    induction els with
    | nil => exact ⟨[], rfl, by simp⟩
    | cons x r ih =>
      obtain ⟨o, h1, h2⟩ := hm x (by simp)
      obtain ⟨l, h3, h4⟩ := ih (fun y hy => hm y (by simp [hy]))
      exact ⟨o :: l, by rw [List.map_cons, h3, h1], by simpa using ⟨h2, h4⟩⟩
  obtain ⟨rfl, hok⟩ := hl
  refine ⟨A, n, cap, l, rfl, by simpa using h2.len, fun hn => ?_, h2.nil, h2.le, h2.cap, by rw [← bb]; exact h2.reach, hok⟩
  obtain ⟨g, o, e, hg, hc⟩ := h2.rd hn
  refine ⟨g, o, e, hg, fun i hi j hj => ?_⟩
  have := hc i (by simpa using hi) j (by rw [c3]; exact hj)
  rw [c3] at this
  simpa using this
end
theorem ArgA.cells {w w' : World} {A : Option Addr} {n c : Nat} {l : List OA} (h : ArgA w A n c l) (f : Fr [] w w') {k : Nat} (hk : k < n) : ∃ (o : OA) (g b : Nat), A = some ⟨g, b, none⟩ ∧ wfZ o.n ∧
    w'.cell? ⟨g, b + k * 3, none⟩ = some (.int .i64 o.kind) ∧ w'.cell? ⟨g, b + k * 3 + 1, none⟩ = some (.int .i64 o.n) ∧ w'.cell? ⟨g, b + k * 3 + 2, none⟩ = some (.string o.t) := by
  have hkl : k < l.length := by rw [h.len]; exact hk
  obtain ⟨g, b, e, -, hc⟩ := h.rd (by omega)
  refine ⟨l[k], g, b, e, h.ok _ (List.getElem_mem hkl), ?_, ?_, ?_⟩
  · exact f.cell (by simp) (hc k hkl 0 (by omega))
  · exact f.cell (by simp) (hc k hkl 1 (by omega))
  · exact f.cell (by simp) (hc k hkl 2 (by omega))
end Go.Proofs.Ytdhhnioklbnicaa
