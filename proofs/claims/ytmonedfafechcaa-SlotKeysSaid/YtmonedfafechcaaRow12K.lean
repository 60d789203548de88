/-
  Arguments of layer 12's laws (keys) as they come in.
-/
import Derived.Test.YtmonedfafechcaaRow12
import Derived.Test.YtmonedfafechcaaKeysA
set_option linter.unusedSimpArgs false
set_option linter.unusedVariables false
set_option linter.unnecessarySimpa false
namespace Go.Proofs.Ytmonedfafechcaa
open Go.ChangeShapes Go.WideShapes Go.ChangeAt Go.RowKit

section
variable {H : Type} {enc : TypeId × Value → H} {W : World} {held : Bool}
set_option maxRecDepth 100000 in
theorem open_ep {fuel : Nat} {cs : List Value} {x : DataW H × List MemPlace} (h : DataW.trod enc Try.prog W 0 (fun _ => true) held fuel 102 cs = some x) (hw : (DataW.weights Try.prog 102 x.1).all (· ≤ reachBytes) = true) :
    ∃ e : EpM, cs = e.cells ∧ e.ok := by
  obtain ⟨hl, m0, y0, t0, _⟩ := open_field Try.underlying102 h hw 0 3 0 rfl
  obtain ⟨_, m1, y1, t1, _⟩ := open_field Try.underlying102 h hw 1 100 1 rfl
  have c65 : Try.prog.cellsOf 102 = 65 := by kernel_rfl
  have ci : Try.prog.cellsOf 3 = 1 := by kernel_rfl
  have c64 : Try.prog.cellsOf 100 = 64 := by kernel_rfl
  have c8 : Try.prog.cellsOf 5 = 1 := by kernel_rfl
  obtain ⟨l, e1, q1⟩ := open_barr Try.underlying100 Try.underlying5 c8 c64 t1
  rw [c65] at hl
  rw [c64] at q1
  rw [ci, List.drop_zero] at t0
  obtain ⟨k, e0, _, r0⟩ := DataW.trod_int Try.underlying3 t0
  obtain ⟨k1, k2⟩ := wf_i64 r0
  refine ⟨⟨k, l⟩, ?_, k1, k2, e1⟩
  show cs = Value.int .i64 k :: bvs l
  conv => lhs; rw [← List.take_append_drop 1 cs, e0]
  rw [← q1, List.take_of_length_le (by rw [List.length_drop, hl]; omega)]
  rfl

set_option maxRecDepth 100000 in
theorem arg_keys {v : Value} {d : DataW H} {ps : List MemPlace} {r : Reach} {b0 : Nat} (hv : Value.okWide Try.prog W r b0 68 v) (h : DataW.Trod enc Try.prog W 0 (fun _ => true) held 68 v d ps) (hw : (DataW.weights Try.prog 68 d).all (· ≤ reachBytes) = true) :
    ∃ A n c es tg, v = .agg (keyC A n c tg).toArray ∧ KOk W A n c es tg ∧ n * 72 ≤ 140737488351232 := by
  obtain ⟨arr, rfl, _⟩ := okWide_struct Try.underlying68 hv
  obtain ⟨fuel, hf⟩ := h
  obtain ⟨hl, m0, y0, t0, w0⟩ := open_field Try.underlying68 hf hw 0 66 0 rfl
  obtain ⟨_, m1, y1, t1, _⟩ := open_field Try.underlying68 hf hw 1 58 1 rfl
  have c33 : Try.prog.cellsOf 68 = 33 := by kernel_rfl
  have cs : Try.prog.cellsOf 66 = 1 := by kernel_rfl
  have c32 : Try.prog.cellsOf 58 = 32 := by kernel_rfl
  have c8 : Try.prog.cellsOf 5 = 1 := by kernel_rfl
  have c65 : Try.prog.cellsOf 102 = 65 := by kernel_rfl
  have bb : Try.prog.bytesOf 102 = 72 := by kernel_rfl
  obtain ⟨tg, e1, q1⟩ := open_barr Try.underlying58 Try.underlying5 c8 c32 t1
  obtain ⟨A, n, cap, els, q0, h2⟩ := open_elems Try.underlying66 (by rw [c65]; omega) t0 w0
  rw [c33] at hl
  rw [c32] at q1
  rw [cs] at q0
  have hm : ∀ x ∈ els, ∃ o : EpM, x = o.cells ∧ o.ok := fun x hx => by
    obtain ⟨_, m, y, e1, e2⟩ := h2.each x hx
    exact open_ep e1 e2
  obtain ⟨l, hl2⟩ : ∃ l : List EpM, l.map EpM.cells = els ∧ ∀ o ∈ l, o.ok := by
    clear h2 hf t0
    induction els with
    | nil => exact ⟨[], rfl, by simp⟩
    | cons x r ih =>
      obtain ⟨o, h1, h2⟩ := hm x (by simp)
      obtain ⟨l, h3, h4⟩ := ih (fun y hy => hm y (by simp [hy]))
      exact ⟨o :: l, by rw [List.map_cons, h3, h1], by simpa using ⟨h2, h4⟩⟩
  obtain ⟨rfl, hok⟩ := hl2
  have hr := h2.reach
  rw [bb] at hr
  clear t0 t1 hf hw hv w0 hm
  rw [show (Value.agg arr).cells = arr from rfl] at hl q0 q1
  have hlen : l.length = n := by simpa using h2.len
  have hz := epsC_length l hok
  refine ⟨A, n, cap, l, tg, ?_, ⟨hlen, fun hne => ?_, h2.nil, hok, e1, by omega, fun g o e hne => ?_⟩, hr⟩
  · congr 1
    apply Array.ext'
    have hl' : arr.toList.length = 33 := hl
    generalize arr.toList = L at *
    rw [List.drop_zero] at q0
    show L = Value.slice A n cap :: bvs tg
    conv => lhs; rw [← List.take_append_drop 1 L, q0]
    rw [← q1, List.take_of_length_le (by rw [List.length_drop, hl']; omega)]
    rfl
  · have hn : 0 < n := by
      rcases Nat.eq_zero_or_pos n with h0 | h0
      · exact absurd (List.eq_nil_of_length_eq_zero (by rw [hz, hlen, h0])) hne
      · exact h0
    obtain ⟨g, o, e, hg, hc⟩ := h2.rd hn
    refine ⟨g, o, e, fun j u hu => ?_⟩
    have hj := (List.getElem?_eq_some_iff.1 hu).1
    rw [hz] at hj
    have hk : j / 65 < l.length := by omega
    have hr : j % 65 < 65 := Nat.mod_lt _ (by omega)
    have e2 := epsC_at l hok (j / 65) (j % 65) hk hr
    rw [show j / 65 * 65 + j % 65 = j by omega, hu] at e2
    have := hc (j / 65) (by simpa using hk) (j % 65) (by rw [c65]; exact hr)
    rw [c65, show o + j / 65 * 65 + j % 65 = o + j by omega] at this
    rw [this, e2]
    simp
  · have hn : 0 < n := by
      rcases Nat.eq_zero_or_pos n with h0 | h0
      · exact absurd (List.eq_nil_of_length_eq_zero (by omega)) hne
      · exact h0
    obtain ⟨g', o', e', hg, _⟩ := h2.rd hn
    rw [e] at e'
    cases e'
    exact hg
end
end Go.Proofs.Ytmonedfafechcaa
