/-
  A call of layer 10's laws (a struct of five fields), alone and in a slice, and what a crash keeps, as they come in.
-/
import Derived.Test.YtdhhnioklbnicaaProg
import Derived.Test.YtdhhnioklbnicaaRowB
import Derived.OpenShut
import Derived.Test.YtdhhnioklbnicaaDkI
set_option linter.unusedSimpArgs false
set_option linter.unusedVariables false
set_option linter.unnecessarySimpa false
namespace Go.Proofs.Ytdhhnioklbnicaa
open Go.ChangeShapes Go.WideShapes Go.ChangeAt Go.RowKit

theorem list_choiceK {α : Type} {p : Nat → α → Prop} : ∀ (n : Nat), (∀ i, i < n → ∃ y, p i y) → ∃ ys : List α, ys.length = n ∧ ∀ i (hi : i < ys.length), p i ys[i]
  | 0, _ => ⟨[], rfl, fun i hi => by simp at hi⟩
  | n + 1, h => by
    obtain ⟨ys, hl, hp⟩ := list_choiceK n (fun i hi => h i (by omega))
    obtain ⟨y, hy⟩ := h n (by omega)
    refine ⟨ys ++ [y], by rw [List.length_append, hl]; rfl, fun i hi => ?_⟩
    by_cases hlt : i < ys.length
    · rw [List.getElem_append_left hlt]; exact hp i hlt
    · have e : i = ys.length := by rw [List.length_append, List.length_singleton] at hi; omega
      subst e
      rw [List.getElem_append_right (Nat.le_refl _)]
      simpa [hl] using hy

/-- What a crash keeps, as it came in. -/
structure ArgK (W : World) (A : Option Addr) (n cap : Nat) (ks : List (Int × Int)) : Prop where
  rd : KRd W A n ks
  nil : A = none → n = 0
  le : n ≤ cap
  cap : cap ≤ maxLen
  reach : n * 16 ≤ 140737488351232
  blk : ∀ g o, A = some ⟨g, o, none⟩ → 0 < n → g < W.heap.size

structure O10 where
  kind : Int
  n : Int
  A : Option Addr
  m : Nat
  c : Nat
  l : List UInt8
  bad : Bool
  B : Option Addr
  k : Nat
  d : Nat
  ks : List (Int × Int)
def O10.cells (o : O10) : List Value := [.int .i64 o.kind, .int .i64 o.n, .slice o.A o.m o.c, .bool o.bad, .slice o.B o.k o.d]
structure O10.ok (W : World) (o : O10) : Prop where
  kind : -9223372036854775808 ≤ o.kind ∧ o.kind ≤ 9223372036854775807
  n : -9223372036854775808 ≤ o.n ∧ o.n ≤ 9223372036854775807
  b : ArgB W o.A o.m o.c o.l
  k : ArgK W o.B o.k o.d o.ks

section
variable {H : Type} {enc : TypeId × Value → H} {W : World} {held : Bool}
set_option maxRecDepth 100000 in
theorem open_kepts {fuel : Nat} {cs : List Value} {x : DataW H × List MemPlace} (hf : DataW.trod enc Try.prog W 0 (fun _ => true) held fuel 23 cs = some x) (hw : (DataW.weights Try.prog 23 x.1).all (· ≤ reachBytes) = true) :
    ∃ A n cap ks, cs = [.slice A n cap] ∧ ArgK W A n cap ks := by
  have c2 : Try.prog.cellsOf 77 = 2 := by kernel_rfl
  have b16 : Try.prog.bytesOf 77 = 16 := by kernel_rfl
  have ci : Try.prog.cellsOf 3 = 1 := by kernel_rfl
  obtain ⟨A, n, cap, els, e1, hS⟩ := open_elems Try.underlying23 (by rw [c2]; omega) hf hw
  obtain ⟨ys, hyl, hy⟩ := list_choiceK (p := fun i (y : Int × Int) => els[i]? = some [.int .i64 y.1, .int .i64 y.2] ∧ wfZ y.1 ∧ wfZ y.2) n (fun i hi => by
    have hi' : i < els.length := by rw [hS.len]; exact hi
    obtain ⟨hl, m, y, t, wt⟩ := hS.each els[i] (List.getElem_mem hi')
    obtain ⟨_, m0, y0, t0, _⟩ := open_field Try.underlying77 t wt 0 3 0 rfl
    obtain ⟨_, m1, y1, t1, _⟩ := open_field Try.underlying77 t wt 1 3 1 rfl
    rw [c2] at hl
    obtain ⟨cs, hcs⟩ : ∃ cs, els[i] = cs := ⟨_, rfl⟩
    rw [hcs] at hl t0 t1
    match cs, hl, hcs with
    | [a, b], _, hcs =>
      simp only [ci, List.drop_zero, List.drop_succ_cons, List.take_succ_cons, List.take_zero] at t0 t1
      obtain ⟨k, e0, _, r0⟩ := DataW.trod_int Try.underlying3 t0
      obtain ⟨k2, e2, _, r2⟩ := DataW.trod_int Try.underlying3 t1
      simp only [List.cons.injEq, and_true] at e0 e2
      subst e0 e2
      exact ⟨(k, k2), by rw [List.getElem?_eq_getElem hi', hcs], wfZ_of (wf_i64 r0), wfZ_of (wf_i64 r2)⟩)
  refine ⟨A, n, cap, ys, e1, ⟨⟨hyl, fun i hi => ?_, fun p hp => ?_⟩, hS.nil, hS.le, hS.cap, by rw [← b16]; exact hS.reach, fun g o e hn => ?_⟩⟩
  · obtain ⟨g, o, e, hg, hc⟩ := hS.rd (by omega)
    obtain ⟨h1, -, -⟩ := hy i hi
    have hi' : i < els.length := by rw [hS.len, ← hyl]; exact hi
    have k0 := hc i hi' 0 (by rw [c2]; omega)
    have k1 := hc i hi' 1 (by rw [c2]; omega)
    rw [List.getElem?_eq_getElem hi'] at h1
    rw [Option.some.inj h1, c2] at k0 k1
    exact ⟨g, o, e, by simpa using k0, by simpa using k1⟩
  · obtain ⟨i, hi, rfl⟩ := List.getElem_of_mem hp
    exact (hy i hi).2
  · obtain ⟨g', o', e', hg, _⟩ := hS.rd hn
    rw [e'] at e
    cases e
    exact hg
set_option maxRecDepth 100000 in
theorem arg_kepts {v : Value} {d : DataW H} {ps : List MemPlace} {r : Reach} {b0 : Nat} (hv : Value.okWide Try.prog W r b0 23 v) (h : DataW.Trod enc Try.prog W 0 (fun _ => true) held 23 v d ps) (hw : (DataW.weights Try.prog 23 d).all (· ≤ reachBytes) = true) :
    ∃ A n cap ks, v = .slice A n cap ∧ ArgK W A n cap ks := by
  obtain ⟨A, n, cap, rfl⟩ := okWide_slice Try.underlying23 hv
  obtain ⟨fuel, hf⟩ := h
  obtain ⟨A', n', cap', ks, e1, hS⟩ := open_kepts hf hw
  simp [Value.cells] at e1
  obtain ⟨rfl, rfl, rfl⟩ := e1
  exact ⟨_, _, _, ks, rfl, hS⟩
set_option maxRecDepth 100000 in
theorem open_op10 {fuel : Nat} {cs : List Value} {x : DataW H × List MemPlace} (h : DataW.trod enc Try.prog W 0 (fun _ => true) held fuel 34 cs = some x) (hw : (DataW.weights Try.prog 34 x.1).all (· ≤ reachBytes) = true) :
    ∃ o : O10, cs = o.cells ∧ o.ok W := by
  obtain ⟨hl, m0, y0, t0, _⟩ := open_field Try.underlying34 h hw 0 3 0 rfl
  obtain ⟨_, m1, y1, t1, _⟩ := open_field Try.underlying34 h hw 1 3 1 rfl
  obtain ⟨_, m2, y2, t2, w2⟩ := open_field Try.underlying34 h hw 2 31 2 rfl
  obtain ⟨_, m3, y3, t3, _⟩ := open_field Try.underlying34 h hw 3 4 3 rfl
  obtain ⟨_, m4, y4, t4, w4⟩ := open_field Try.underlying34 h hw 4 23 4 rfl
  have c5 : Try.prog.cellsOf 34 = 5 := by kernel_rfl
  have ci : Try.prog.cellsOf 3 = 1 := by kernel_rfl
  have cb : Try.prog.cellsOf 31 = 1 := by kernel_rfl
  have co : Try.prog.cellsOf 4 = 1 := by kernel_rfl
  have ck : Try.prog.cellsOf 23 = 1 := by kernel_rfl
  rw [c5] at hl
  match cs, hl with
  | [a, b, c, d, e], _ =>
    simp only [ci, cb, co, ck, List.drop_zero, List.drop_succ_cons, List.take_succ_cons, List.take_zero] at t0 t1 t2 t3 t4
    obtain ⟨k, e0, _, r0⟩ := DataW.trod_int Try.underlying3 t0
    obtain ⟨n, e1, _, r1⟩ := DataW.trod_int Try.underlying3 t1
    obtain ⟨A, m, cap, l, e2, hb⟩ := open_bytes Try.underlying31 Try.underlying5 (by kernel_rfl) (by kernel_rfl) t2 w2
    obtain ⟨z, e3, _⟩ := DataW.trod_bool Try.underlying4 t3
    obtain ⟨B, k2, d2, ks, e4, hk⟩ := open_kepts t4 w4
    simp only [List.cons.injEq, and_true] at e0 e1 e2 e3 e4
    subst e0 e1 e2 e3 e4
    exact ⟨⟨k, n, A, m, cap, l, z, B, k2, d2, ks⟩, rfl, wf_i64 r0, wf_i64 r1, hb, hk⟩
set_option maxRecDepth 100000 in
theorem arg_op10 {v : Value} {d : DataW H} {ps : List MemPlace} {r : Reach} {b0 : Nat} (hv : Value.okWide Try.prog W r b0 34 v) (h : DataW.Trod enc Try.prog W 0 (fun _ => true) held 34 v d ps) (hw : (DataW.weights Try.prog 34 d).all (· ≤ reachBytes) = true) :
    ∃ o : O10, v = .agg o.cells.toArray ∧ o.ok W := by
  obtain ⟨cs, rfl, _⟩ := okWide_struct Try.underlying34 hv
  obtain ⟨fuel, hf⟩ := h
  obtain ⟨o, h1, h2⟩ := open_op10 hf hw
  refine ⟨o, ?_, h2⟩
  rw [← h1]
  simp [Value.cells]
structure ArgO (W : World) (A : Option Addr) (n cap : Nat) (l : List O10) : Prop where
  len : l.length = n
  rd : 0 < n → ∃ g o, A = some ⟨g, o, none⟩ ∧ g < W.heap.size ∧ ∀ i (hi : i < l.length) j, j < 5 → W.cell? ⟨g, o + i * 5 + j, none⟩ = l[i].cells[j]?
  nil : A = none → n = 0
  le : n ≤ cap
  cap : cap ≤ maxLen
  reach : n * 72 ≤ 140737488351232
  ok : ∀ o ∈ l, o.ok W
set_option maxRecDepth 100000 in
theorem arg_op10s {v : Value} {d : DataW H} {ps : List MemPlace} {r : Reach} {b0 : Nat} (hv : Value.okWide Try.prog W r b0 22 v) (h : DataW.Trod enc Try.prog W 0 (fun _ => true) held 22 v d ps) (hw : (DataW.weights Try.prog 22 d).all (· ≤ reachBytes) = true) :
    ∃ A n cap l, v = .slice A n cap ∧ ArgO W A n cap l := by
  obtain ⟨A, n, cap, rfl⟩ := okWide_slice Try.underlying22 hv
  obtain ⟨fuel, hf⟩ := h
  have c5 : Try.prog.cellsOf 34 = 5 := by kernel_rfl
  have bb : Try.prog.bytesOf 34 = 72 := by kernel_rfl
  obtain ⟨A', n', cap', els, h1, h2⟩ := open_elems Try.underlying22 (by rw [c5]; omega) hf hw
  simp [Value.cells] at h1
  obtain ⟨rfl, rfl, rfl⟩ := h1
  have hm : ∀ x ∈ els, ∃ o : O10, x = o.cells ∧ o.ok W := fun x hx => by
    obtain ⟨_, m, y, e1, e2⟩ := h2.each x hx
    exact open_op10 e1 e2
  obtain ⟨l, hl⟩ : ∃ l : List O10, l.map O10.cells = els ∧ ∀ o ∈ l, o.ok W := by
    clear h2 hf
    induction els with
    | nil => exact ⟨[], rfl, by simp⟩
    | cons x r ih =>
      obtain ⟨o, h1, h2⟩ := hm x (by simp)
      obtain ⟨l, h3, h4⟩ := ih (fun y hy => hm y (by simp [hy]))
      exact ⟨o :: l, by rw [List.map_cons, h3, h1], by simpa using ⟨h2, h4⟩⟩
  obtain ⟨rfl, hok⟩ := hl
  refine ⟨A, n, cap, l, rfl, by simpa using h2.len, fun hn => ?_, h2.nil, h2.le, h2.cap, by rw [← bb]; exact h2.reach, hok⟩
  obtain ⟨g, o, e, hg, hc⟩ := h2.rd hn
  refine ⟨g, o, e, hg, fun i hi j hj => ?_⟩
  have := hc i (by simpa using hi) j (by rw [c5]; exact hj)
  rw [c5] at this
  simpa using this
end
theorem ArgB.keepD {W W' : World} {A : Option Addr} {n c : Nat} {l : List UInt8} (h : ArgB W A n c l) (hf : Fr [] W W') : ArgB W' A n c l :=
  ⟨h.len, h.rd.keep_nil hf, h.nil, h.le, h.cap, h.reach, fun g o e hl => by have := h.blk g o e hl; have := hf.size; omega⟩
theorem ArgK.keep {W W' : World} {A : Option Addr} {n c : Nat} {ks : List (Int × Int)} (h : ArgK W A n c ks) (hf : Fr [] W W') : ArgK W' A n c ks :=
  ⟨h.rd.keep_nil hf, h.nil, h.le, h.cap, h.reach, fun g o e hl => by have := h.blk g o e hl; have := hf.size; omega⟩
theorem O10.ok.keep {W W' : World} {o : O10} (h : o.ok W) (hf : Fr [] W W') : o.ok W' := ⟨h.kind, h.n, h.b.keepD hf, h.k.keep hf⟩
theorem ArgO.keep {W W' : World} {A : Option Addr} {n c : Nat} {l : List O10} (h : ArgO W A n c l) (hf : Fr [] W W') : ArgO W' A n c l :=
  ⟨h.len, fun hn => by
    obtain ⟨g, o, e, hg, hc⟩ := h.rd hn
    refine ⟨g, o, e, by have := hf.size; omega, fun i hi j hj => ?_⟩
    have h1 := hc i hi j hj
    have h2 : j < l[i].cells.length := hj
    rw [List.getElem?_eq_getElem h2] at h1 ⊢
    exact hf.cell (p := ⟨g, o + i * 5 + j, none⟩) (by simp) h1, h.nil, h.le, h.cap, h.reach, fun o ho => (h.ok o ho).keep hf⟩
end Go.Proofs.Ytdhhnioklbnicaa
