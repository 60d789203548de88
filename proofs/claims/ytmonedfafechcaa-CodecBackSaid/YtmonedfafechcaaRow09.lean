/-
  A call of layer 9's laws (a struct of four fields), alone and in a slice, as it comes in.
-/
import Derived.Test.YtmonedfafechcaaProg
import Derived.Test.YtmonedfafechcaaRowB
set_option linter.unusedSimpArgs false
set_option linter.unusedVariables false
set_option linter.unnecessarySimpa false
namespace Go.Proofs.Ytmonedfafechcaa
open Go.ChangeShapes Go.WideShapes Go.ChangeAt Go.RowKit

structure OpM where
  kind : Int
  n : Int
  x : Nat
  A : Option Addr
  m : Nat
  c : Nat
  l : List UInt8

def OpM.cells (o : OpM) : List Value := [.int .i64 o.kind, .int .i64 o.n, .int .u64 o.x, .slice o.A o.m o.c]
structure OpM.ok (W : World) (o : OpM) : Prop where
  kind : -9223372036854775808 ≤ o.kind ∧ o.kind ≤ 9223372036854775807
  n : -9223372036854775808 ≤ o.n ∧ o.n ≤ 9223372036854775807
  x : o.x < 18446744073709551616
  b : ArgB W o.A o.m o.c o.l

section
variable {H : Type} {enc : TypeId × Value → H} {W : World} {held : Bool}
set_option maxRecDepth 100000 in
theorem open_op {fuel : Nat} {cs : List Value} {x : DataW H × List MemPlace} (h : DataW.trod enc Try.prog W 0 (fun _ => true) held fuel 36 cs = some x) (hw : (DataW.weights Try.prog 36 x.1).all (· ≤ reachBytes) = true) :
    ∃ o : OpM, cs = o.cells ∧ o.ok W := by
  obtain ⟨hl, m0, y0, t0, _⟩ := open_field Try.underlying36 h hw 0 3 0 rfl
  obtain ⟨_, m1, y1, t1, _⟩ := open_field Try.underlying36 h hw 1 3 1 rfl
  obtain ⟨_, m2, y2, t2, _⟩ := open_field Try.underlying36 h hw 2 30 2 rfl
  obtain ⟨_, m3, y3, t3, w3⟩ := open_field Try.underlying36 h hw 3 22 3 rfl
  have c4 : Try.prog.cellsOf 36 = 4 := by kernel_rfl
  have ci : Try.prog.cellsOf 3 = 1 := by kernel_rfl
  have cu : Try.prog.cellsOf 30 = 1 := by kernel_rfl
  have cb : Try.prog.cellsOf 22 = 1 := by kernel_rfl
  rw [c4] at hl
  match cs, hl with
  | [a, b, c, d], _ =>
    simp only [ci, cu, cb, List.drop_zero, List.drop_succ_cons, List.take_succ_cons, List.take_zero] at t0 t1 t2 t3
    obtain ⟨k, e0, _, r0⟩ := DataW.trod_int Try.underlying3 t0
    obtain ⟨n, e1, _, r1⟩ := DataW.trod_int Try.underlying3 t1
    obtain ⟨z, e2, _, r2⟩ := DataW.trod_int Try.underlying30 t2
    obtain ⟨A, m, cap, l, e3, hb⟩ := open_bytes Try.underlying22 Try.underlying5 (by kernel_rfl) (by kernel_rfl) t3 w3
    obtain ⟨x, rfl, hx⟩ := wf_u64 r2
    simp only [List.cons.injEq, and_true] at e0 e1 e2 e3
    subst e0 e1 e2 e3
    exact ⟨⟨k, n, x, A, m, cap, l⟩, rfl, wf_i64 r0, wf_i64 r1, hx, hb⟩

set_option maxRecDepth 100000 in
theorem arg_op {v : Value} {d : DataW H} {ps : List MemPlace} {r : Reach} {b0 : Nat} (hv : Value.okWide Try.prog W r b0 36 v) (h : DataW.Trod enc Try.prog W 0 (fun _ => true) held 36 v d ps) (hw : (DataW.weights Try.prog 36 d).all (· ≤ reachBytes) = true) :
    ∃ o : OpM, v = .agg o.cells.toArray ∧ o.ok W := by
  obtain ⟨cs, rfl, _⟩ := okWide_struct Try.underlying36 hv
  obtain ⟨fuel, hf⟩ := h
  obtain ⟨o, h1, h2⟩ := open_op hf hw
  refine ⟨o, ?_, h2⟩
  rw [← h1]
  simp [Value.cells]

/-- The slice of calls reads as this list. -/
structure ArgOps (W : World) (A : Option Addr) (n cap : Nat) (l : List OpM) : Prop where
  len : l.length = n
  rd : 0 < n → ∃ g o, A = some ⟨g, o, none⟩ ∧ g < W.heap.size ∧ ∀ i (hi : i < l.length) j, j < 4 → W.cell? ⟨g, o + i * 4 + j, none⟩ = l[i].cells[j]?
  nil : A = none → n = 0
  le : n ≤ cap
  cap : cap ≤ maxLen
  reach : n ≤ 140737488351232
  ok : ∀ o ∈ l, o.ok W

set_option maxRecDepth 100000 in
theorem arg_ops {v : Value} {d : DataW H} {ps : List MemPlace} {r : Reach} {b0 : Nat} (hv : Value.okWide Try.prog W r b0 34 v) (h : DataW.Trod enc Try.prog W 0 (fun _ => true) held 34 v d ps) (hw : (DataW.weights Try.prog 34 d).all (· ≤ reachBytes) = true) :
    ∃ A n cap l, v = .slice A n cap ∧ ArgOps W A n cap l := by
  obtain ⟨A, n, cap, rfl⟩ := okWide_slice Try.underlying34 hv
  obtain ⟨fuel, hf⟩ := h
  have c4 : Try.prog.cellsOf 36 = 4 := by kernel_rfl
  have bb : Try.prog.bytesOf 36 = 48 := by kernel_rfl
  obtain ⟨A', n', cap', els, h1, h2⟩ := open_elems Try.underlying34 (by rw [c4]; omega) hf hw
  simp [Value.cells] at h1
  obtain ⟨rfl, rfl, rfl⟩ := h1
  have hm : ∀ x ∈ els, ∃ o : OpM, x = o.cells ∧ o.ok W := fun x hx => by
    obtain ⟨_, m, y, e1, e2⟩ := h2.each x hx
    exact open_op e1 e2
  obtain ⟨l, hl⟩ : ∃ l : List OpM, l.map OpM.cells = els ∧ ∀ o ∈ l, o.ok W := by
    clear h2 hf
    induction els with
    | nil => exact ⟨[], rfl, by simp⟩
    | cons x r ih =>
      obtain ⟨o, h1, h2⟩ := hm x (by simp)
      obtain ⟨l, h3, h4⟩ := ih (fun y hy => hm y (by simp [hy]))
      exact ⟨o :: l, by rw [List.map_cons, h3, h1], by simpa using ⟨h2, h4⟩⟩
  obtain ⟨rfl, hok⟩ := hl
  have hr := h2.reach
  rw [bb] at hr
  refine ⟨A, n, cap, l, rfl, by simpa using h2.len, fun hn => ?_, h2.nil, h2.le, h2.cap, by omega, hok⟩
  obtain ⟨g, o, e, hg, hc⟩ := h2.rd hn
  refine ⟨g, o, e, hg, fun i hi j hj => ?_⟩
  have := hc i (by simpa using hi) j (by rw [c4]; exact hj)
  rw [c4] at this
  simpa using this
end

/-- It stays, whatever the call makes. -/
theorem ArgB.keep {W W' : World} {A : Option Addr} {n c : Nat} {l : List UInt8} (h : ArgB W A n c l) (hf : Fr [] W W') : ArgB W' A n c l :=
  ⟨h.len, h.rd.keep_nil hf, h.nil, h.le, h.cap, h.reach, fun g o e hl => by have := h.blk g o e hl; have := hf.size; omega⟩
theorem OpM.ok.keep {W W' : World} {o : OpM} (h : o.ok W) (hf : Fr [] W W') : o.ok W' := ⟨h.kind, h.n, h.x, h.b.keep hf⟩
theorem ArgOps.keep {W W' : World} {A : Option Addr} {n c : Nat} {l : List OpM} (h : ArgOps W A n c l) (hf : Fr [] W W') : ArgOps W' A n c l :=
  ⟨h.len, fun hn => by
    obtain ⟨g, o, e, hg, hc⟩ := h.rd hn
    refine ⟨g, o, e, by have := hf.size; omega, fun i hi j hj => ?_⟩
    have h1 := hc i hi j hj
    have h2 : j < l[i].cells.length := hj
    rw [List.getElem?_eq_getElem h2] at h1 ⊢
    exact hf.cell (p := ⟨g, o + i * 4 + j, none⟩) (by simp) h1, h.nil, h.le, h.cap, h.reach, fun o ho => (h.ok o ho).keep hf⟩
end Go.Proofs.Ytmonedfafechcaa
