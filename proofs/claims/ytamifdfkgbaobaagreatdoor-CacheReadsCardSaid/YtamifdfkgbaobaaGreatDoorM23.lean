/-
  Texts of this claim, one behind the other: RowB, RowR, Row14, Row15, CacNb, RowL.
-/
import Derived.Test.YtamifdfkgbaobaaGreatDoorM22
import Derived.ChangeArms
import Derived.DataReads
import Derived.OpenShut
import Derived.Test.YtamifdfkgbaobaaGreatDoorRows
import Derived.ProofKit
import Derived.LaidMore
import Derived.Stop.Joined
/-
  From a row's reading of its arguments to the words of the walks: slices of structs, field by field.
-/
set_option linter.unusedSimpArgs false
set_option linter.unusedVariables false
set_option linter.unnecessarySimpa false
namespace Go.Proofs.YtamifdfkgbaobaaGreatDoor
open Go.ChangeShapes Go.WideShapes Go.ChangeAt Go.RowKit

section
variable {H : Type} {enc : TypeId × Value → H} {P : Program} {W : World} {fuel : Nat} {held : Bool}

/-- A slice that came in, its elements still unread: n of them, each of 'size' cells. -/
structure ArgS (enc : TypeId × Value → H) (P : Program) (W : World) (held : Bool) (e : TypeId) (A : Option Addr) (n cap : Nat) (els : List (List Value)) : Prop where
  len : els.length = n
  rd : 0 < n → ∃ g o, A = some ⟨g, o, none⟩ ∧ g < W.heap.size ∧ ∀ i (hi : i < els.length) j, j < P.cellsOf e → W.cell? ⟨g, o + i * P.cellsOf e + j, none⟩ = els[i][j]?
  nil : A = none → n = 0
  le : n ≤ cap
  cap : cap ≤ maxLen
  reach : n * P.bytesOf e ≤ 140737488351232
  each : ∀ x ∈ els, x.length = P.cellsOf e ∧ ∃ m y, DataW.trod enc P W 0 (fun _ => true) held m e x = some y ∧ (DataW.weights P e y.1).all (· ≤ reachBytes) = true

theorem weightsAll_mem {e : TypeId} : ∀ {l : List (DataW H)} {d : DataW H}, d ∈ l → ∀ n ∈ d.weights P e, n ∈ DataW.weightsAll P e l
  | d0 :: l, d, hd, n, hn => by
    rw [DataW.weightsAll, List.mem_append]
    rcases List.mem_cons.1 hd with rfl | h
    · exact .inl hn
    · exact .inr (weightsAll_mem h n hn)

theorem open_elems {t e : TypeId} {cs : List Value} {x : DataW H × List MemPlace} (ht : P.underlying t = some (.slice e)) (hpos : 0 < P.cellsOf e)
    (h : DataW.trod enc P W 0 (fun _ => true) held fuel t cs = some x) (hw : (DataW.weights P t x.1).all (· ≤ reachBytes) = true) :
    ∃ A n cap els, cs = [.slice A n cap] ∧ ArgS enc P W held e A n cap els := by
  rcases DataW.trod_slice ht h with ⟨rfl, rfl⟩ | ⟨a, len, cap, elems, rest, k, _, rfl, hx, hb, hl, hm, hlen, hel, hsp, _⟩
  · exact ⟨none, 0, 0, [], rfl, ⟨rfl, fun h => by omega, fun _ => rfl, Nat.le_refl _, by unfold maxLen; omega, by omega, by simp⟩⟩
  · have hread : ∀ i, i < len → ∃ cs' y, W.cells? 0 (a.add (i * P.cellsOf e)) (P.cellsOf e) = some cs' ∧ DataW.trod enc P W 0 (fun _ => true) held k e cs' = some y ∧ elems[i]? = some y := by
      intro i hi
      have h1 := hel i hi
      have h2 : elems[i]? = some elems[i] := List.getElem?_eq_getElem (by omega)
      rw [h2] at h1
      obtain ⟨cs', e1, e2⟩ := Option.bind_eq_some_iff.1 h1
      exact ⟨cs', _, e1, e2, h2⟩
    obtain ⟨els, hels⟩ : ∃ els : List (List Value), els = (List.range len).map fun i => (W.cells? 0 (a.add (i * P.cellsOf e)) (P.cellsOf e)).getD [] := ⟨_, rfl⟩
    have hel2 : els.length = len := by rw [hels]; simp
    have hat : ∀ i (hi : i < els.length), W.cells? 0 (a.add (i * P.cellsOf e)) (P.cellsOf e) = some els[i] := by
      intro i hi
      obtain ⟨cs', y, e1, _⟩ := hread i (by omega)
      subst hels
      simp [e1]
    refine ⟨some a, len, cap, els, rfl, ⟨hel2, fun hn => ?_, fun h => (by cases h), hl, hm, ?_, fun z hz => ?_⟩⟩
    · obtain ⟨g, o, sp⟩ := a
      have h0 := World.cells?_some (hat 0 (by omega))
      have c0 := h0.2.2 0 hpos
      rw [List.getElem?_eq_getElem (by omega)] at c0
      have hspot : sp = none := by simpa [Addr.add] using World.cell?_spot c0
      subst hspot
      refine ⟨g, o, rfl, ?_, fun i hi j hj => ?_⟩
      · have := World.block_lt_of_cell? W _ c0
        simpa [Addr.add] using this
      · have h1 := (World.cells?_some (hat i hi)).2.2 j hj
        rw [addr_add, addr_add] at h1
        exact h1
    · rw [hx] at hw
      have h2 := List.all_eq_true.1 hw (((elems.map (·.1)).length + (rest.map (·.1)).length) * P.bytesOf e) (by simp [DataW.weights, ht])
      have h3 : (elems.length + rest.length) * P.bytesOf e ≤ 140737488351232 := by simpa [reachBytes] using h2
      exact Nat.le_trans (Nat.mul_le_mul_right _ (by omega)) h3
    · obtain ⟨i, hi, rfl⟩ := List.getElem_of_mem hz
      obtain ⟨cs', y, e1, e2, e3⟩ := hread i (by omega)
      have e4 := hat i hi
      rw [e1] at e4
      cases e4
      refine ⟨(World.cells?_some e1).2.1, k, y, e2, ?_⟩
      rw [hx] at hw
      rw [List.all_eq_true] at hw ⊢
      intro n hn
      refine hw n ?_
      simp only [DataW.weights, ht, List.mem_cons, List.mem_append]
      exact .inr (.inl (weightsAll_mem (List.mem_map.2 ⟨y, List.mem_of_getElem? e3, rfl⟩) n hn))

/-- One field of a struct: its cells are read at its type, its weight is within reach. -/
theorem open_field {t : TypeId} {fs : Array Field} {cs : List Value} {x : DataW H × List MemPlace} (ht : P.underlying t = some (.struct fs))
    (h : DataW.trod enc P W 0 (fun _ => true) held fuel t cs = some x) (hw : (DataW.weights P t x.1).all (· ≤ reachBytes) = true) (i : Nat) (ft : TypeId) (off : Nat) (hf : (fs[i]?).map (fun f => (f.type, f.offset)) = some (ft, off)) :
    cs.length = P.cellsOf t ∧ ∃ m y, DataW.trod enc P W 0 (fun _ => true) held m ft ((cs.drop off).take (P.cellsOf ft)) = some y ∧ (DataW.weights P ft y.1).all (· ≤ reachBytes) = true := by
  obtain ⟨f, hf', e⟩ := Option.map_eq_some_iff.1 hf
  simp only [Prod.mk.injEq] at e
  obtain ⟨rfl, rfl⟩ := e
  obtain ⟨xs, m, _, hx, hcl, hxl, hall⟩ := DataW.trod_struct ht h
  have h1 := hall i f hf'
  have hi : i < fs.size := (Array.getElem?_eq_some_iff.1 hf').1
  have h2 : xs[i]? = some xs[i] := List.getElem?_eq_getElem (by omega)
  rw [h2] at h1
  refine ⟨hcl, m, _, h1, ?_⟩
  rw [hx] at hw
  simp only [DataW.weights, ht] at hw
  refine weights_at (j := i) hw ?_ ?_
  · simp [hf']
  · simp [h2]
end
end Go.Proofs.YtamifdfkgbaobaaGreatDoor
/-
  Arguments of layer 13's laws (slices of redos, slices of slices of bytes) as they come in.
-/
set_option linter.unusedSimpArgs false
set_option linter.unusedVariables false
set_option linter.unnecessarySimpa false
namespace Go.Proofs.YtamifdfkgbaobaaGreatDoor
open Go.ChangeShapes Go.WideShapes Go.ChangeAt Go.RowKit

theorem list_choice {α : Type} {p : Nat → α → Prop} : ∀ (n : Nat), (∀ i, i < n → ∃ y, p i y) → ∃ ys : List α, ys.length = n ∧ ∀ i (hi : i < ys.length), p i ys[i]
  | 0, _ => ⟨[], rfl, fun i hi => by simp at hi⟩
  | n + 1, h => by
    obtain ⟨ys, hl, hp⟩ := list_choice n (fun i hi => h i (by omega))
    obtain ⟨y, hy⟩ := h n (by omega)
    refine ⟨ys ++ [y], by rw [List.length_append, hl]; rfl, fun i hi => ?_⟩
    by_cases hlt : i < ys.length
    · rw [List.getElem_append_left hlt]; exact hp i hlt
    · have e : i = ys.length := by rw [List.length_append, List.length_singleton] at hi; omega
      subst e
      rw [List.getElem_append_right (Nat.le_refl _)]
      simpa [hl] using hy

/-- A slice of slices of bytes that came in. -/
structure ArgBB (W : World) (A : Option Addr) (n cap : Nat) (vs : List Value) (bs : List (List UInt8)) : Prop where
  len : bs.length = n
  rd : BRd W A vs bs
  nil : A = none → n = 0
  le : n ≤ cap
  reach : n * 24 ≤ 140737488351232
  each : ∀ b ∈ bs, b.length ≤ 140737488351232

section
variable {H : Type} {enc : TypeId × Value → H} {W : World} {held : Bool}
set_option maxRecDepth 100000 in
theorem arg_bytess {v : Value} {d : DataW H} {ps : List MemPlace} {r : Reach} {b0 : Nat} (hv : Value.okWide Tryz.prog W r b0 50 v) (h : DataW.Trod enc Tryz.prog W 0 (fun _ => true) held 50 v d ps) (hw : (DataW.weights Tryz.prog 50 d).all (· ≤ reachBytes) = true) :
    ∃ A n cap vs bs, v = .slice A n cap ∧ ArgBB W A n cap vs bs := by
  obtain ⟨A, n, cap, rfl⟩ := okWide_slice Tryz.underlying50 hv
  obtain ⟨fuel, hf⟩ := h
  obtain ⟨A', n', cap', els, e1, hS⟩ := open_elems Tryz.underlying50 (by rw [show Tryz.prog.cellsOf 41 = 1 by kernel_rfl]; omega) hf hw
  simp [Value.cells] at e1
  obtain ⟨rfl, rfl, rfl⟩ := e1
  have c1 : Tryz.prog.cellsOf 41 = 1 := by kernel_rfl
  have b24 : Tryz.prog.bytesOf 41 = 24 := by kernel_rfl
  obtain ⟨ys, hyl, hy⟩ := list_choice (p := fun i (y : Value × List UInt8) => els[i]? = some [y.1] ∧ SlB W y.1 y.2 ∧ y.2.length ≤ 140737488351232) n (fun i hi => by
    have hi' : i < els.length := by rw [hS.len]; exact hi
    obtain ⟨hl, m, y, t, wt⟩ := hS.each els[i] (List.getElem_mem hi')
    obtain ⟨B, k, c, l, e2, hb⟩ := open_bytes Tryz.underlying41 Tryz.underlying5 (by kernel_rfl) (by kernel_rfl) t wt
    exact ⟨(.slice B k c, l), by rw [List.getElem?_eq_getElem hi', e2], ⟨B, c, by rw [hb.len], hb.rd, fun h => by rw [hb.len]; exact hb.nil h, by rw [hb.len]; exact hb.le⟩, by rw [hb.len]; exact hb.reach⟩)
  refine ⟨A, n, cap, ys.map (·.1), ys.map (·.2), rfl, ⟨by rw [List.length_map, hyl], ⟨fun hne => ?_, by rw [List.length_map, List.length_map], fun i h1 h2 => ?_⟩, hS.nil, hS.le, by rw [← b24]; exact hS.reach, fun b hb => ?_⟩⟩
  · have hpos : 0 < n := by
      rw [← hyl]
      cases ys with
      | nil => simp at hne
      | cons y r => simp
    obtain ⟨g, o, rfl, -, hc⟩ := hS.rd hpos
    refine ⟨g, o, rfl, fun j u hu => ?_⟩
    have hj : j < ys.length := by
      have := (List.getElem?_eq_some_iff.1 hu).1
      simpa using this
    have h1 := hc j (by rw [hS.len, ← hyl]; exact hj) 0 (by rw [c1]; omega)
    rw [c1, Nat.mul_one, Nat.add_zero] at h1
    rw [h1]
    have h2 := (hy j hj).1
    rw [List.getElem?_eq_getElem (by rw [hS.len, ← hyl]; exact hj)] at h2
    rw [Option.some.inj h2]
    rw [List.getElem?_map, List.getElem?_eq_getElem hj] at hu
    exact hu
  · rw [List.length_map] at h1
    simp only [List.getElem_map]
    exact (hy i h1).2.1
  · obtain ⟨y, hy', rfl⟩ := List.mem_map.1 hb
    obtain ⟨i, hi, rfl⟩ := List.getElem_of_mem hy'
    exact (hy i hi).2.2

set_option maxRecDepth 100000 in
theorem arg_redos {v : Value} {d : DataW H} {ps : List MemPlace} {r : Reach} {b0 : Nat} (hv : Value.okWide Tryz.prog W r b0 32 v) (h : DataW.Trod enc Tryz.prog W 0 (fun _ => true) held 32 v d ps) (hw : (DataW.weights Tryz.prog 32 d).all (· ≤ reachBytes) = true) :
    ∃ A n cap rs, v = .slice A n cap ∧ RdR W A n cap rs := by
  obtain ⟨A, n, cap, rfl⟩ := okWide_slice Tryz.underlying32 hv
  obtain ⟨fuel, hf⟩ := h
  obtain ⟨A', n', cap', els, e1, hS⟩ := open_elems Tryz.underlying32 (by rw [show Tryz.prog.cellsOf 49 = 2 by kernel_rfl]; omega) hf hw
  simp [Value.cells] at e1
  obtain ⟨rfl, rfl, rfl⟩ := e1
  have c2 : Tryz.prog.cellsOf 49 = 2 := by kernel_rfl
  have b32 : Tryz.prog.bytesOf 49 = 32 := by kernel_rfl
  have ci : Tryz.prog.cellsOf 3 = 1 := by kernel_rfl
  have cb : Tryz.prog.cellsOf 41 = 1 := by kernel_rfl
  obtain ⟨ys, hyl, hy⟩ := list_choice (p := fun i (y : Int × Value × List UInt8) => els[i]? = some [.int .i64 y.1, y.2.1] ∧ in64 y.1 ∧ SlB W y.2.1 y.2.2 ∧ y.2.2.length ≤ 140737488355328) n (fun i hi => by
    have hi' : i < els.length := by rw [hS.len]; exact hi
    obtain ⟨hl, m, y, t, wt⟩ := hS.each els[i] (List.getElem_mem hi')
    obtain ⟨_, m0, y0, t0, _⟩ := open_field Tryz.underlying49 t wt 0 3 0 rfl
    obtain ⟨_, m1, y1, t1, w1⟩ := open_field Tryz.underlying49 t wt 1 41 1 rfl
    rw [c2] at hl
    obtain ⟨cs, hcs⟩ : ∃ cs, els[i] = cs := ⟨_, rfl⟩
    rw [hcs] at hl t0 t1
    match cs, hl, hcs with
    | [a, b], _, hcs =>
      simp only [ci, cb, List.drop_zero, List.drop_succ_cons, List.take_succ_cons, List.take_zero] at t0 t1
      obtain ⟨k, e0, _, r0⟩ := DataW.trod_int Tryz.underlying3 t0
      obtain ⟨B, k2, c, l, e2, hb⟩ := open_bytes Tryz.underlying41 Tryz.underlying5 (by kernel_rfl) (by kernel_rfl) t1 w1
      simp only [List.cons.injEq, and_true] at e0 e2
      subst e0 e2
      exact ⟨(k, .slice B k2 c, l), by rw [List.getElem?_eq_getElem hi', hcs], wf_i64 r0, ⟨B, c, by rw [hb.len], hb.rd, fun h => by rw [hb.len]; exact hb.nil h, by rw [hb.len]; exact hb.le⟩, by rw [hb.len]; have := hb.reach; omega⟩)
  refine ⟨A, n, cap, ys.map (fun y => (y.1, y.2.2)), rfl, ⟨by rw [List.length_map, hyl], fun hpos => ?_, hS.nil, hS.le, by rw [← b32]; exact hS.reach⟩⟩
  obtain ⟨g, o, rfl, hg, hc⟩ := hS.rd hpos
  refine ⟨g, o, rfl, hg, fun i hi => ?_⟩
  rw [List.length_map] at hi
  obtain ⟨h1, h2, h3, h4⟩ := hy i hi
  have hi' : i < els.length := by rw [hS.len, ← hyl]; exact hi
  have k0 := hc i hi' 0 (by rw [c2]; omega)
  have k1 := hc i hi' 1 (by rw [c2]; omega)
  rw [List.getElem?_eq_getElem hi'] at h1
  rw [Option.some.inj h1, c2] at k0 k1
  simp only [List.getElem_map]
  exact ⟨h2, by simpa using k0, _, by simpa using k1, h3, h4⟩
end
end Go.Proofs.YtamifdfkgbaobaaGreatDoor
/-
  A call of layer 14's laws (a struct of five fields: kind, redos, a number, bytes, what a crash keeps), alone and in a slice, as it comes in. Of the last three fields nothing is told.
-/
set_option linter.unusedSimpArgs false
set_option linter.unusedVariables false
set_option linter.unnecessarySimpa false
namespace Go.Proofs.YtamifdfkgbaobaaGreatDoor
open Go.ChangeShapes Go.WideShapes Go.ChangeAt Go.RowKit

structure O14 where
  kind : Int
  A : Option Addr
  m : Nat
  c : Nat
  rs : List (Int × List UInt8)
structure O14.ok (W : World) (o : O14) : Prop where
  kind : -9223372036854775808 ≤ o.kind ∧ o.kind ≤ 9223372036854775807
  r : RdR W o.A o.m o.c o.rs
section
variable {H : Type} {enc : TypeId × Value → H} {W : World} {held : Bool}
set_option maxRecDepth 100000 in
theorem open_redos {fuel : Nat} {cs0 : List Value} {x : DataW H × List MemPlace} (hf : DataW.trod enc Tryz.prog W 0 (fun _ => true) held fuel 32 cs0 = some x) (hw : (DataW.weights Tryz.prog 32 x.1).all (· ≤ reachBytes) = true) :
    ∃ A n cap rs, cs0 = [.slice A n cap] ∧ RdR W A n cap rs := by
  obtain ⟨A, n, cap, els, e1, hS⟩ := open_elems Tryz.underlying32 (by rw [show Tryz.prog.cellsOf 49 = 2 by kernel_rfl]; omega) hf hw
  have c2 : Tryz.prog.cellsOf 49 = 2 := by kernel_rfl
  have b32 : Tryz.prog.bytesOf 49 = 32 := by kernel_rfl
  have ci : Tryz.prog.cellsOf 3 = 1 := by kernel_rfl
  have cb : Tryz.prog.cellsOf 41 = 1 := by kernel_rfl
  obtain ⟨ys, hyl, hy⟩ := list_choice (p := fun i (y : Int × Value × List UInt8) => els[i]? = some [.int .i64 y.1, y.2.1] ∧ in64 y.1 ∧ SlB W y.2.1 y.2.2 ∧ y.2.2.length ≤ 140737488355328) n (fun i hi => by
    have hi' : i < els.length := by rw [hS.len]; exact hi
    obtain ⟨hl, m, y, t, wt⟩ := hS.each els[i] (List.getElem_mem hi')
    obtain ⟨_, m0, y0, t0, _⟩ := open_field Tryz.underlying49 t wt 0 3 0 rfl
    obtain ⟨_, m1, y1, t1, w1⟩ := open_field Tryz.underlying49 t wt 1 41 1 rfl
    rw [c2] at hl
    obtain ⟨cs, hcs⟩ : ∃ cs, els[i] = cs := ⟨_, rfl⟩
    rw [hcs] at hl t0 t1
    match cs, hl, hcs with
    | [a, b], _, hcs =>
      simp only [ci, cb, List.drop_zero, List.drop_succ_cons, List.take_succ_cons, List.take_zero] at t0 t1
      obtain ⟨k, e0, _, r0⟩ := DataW.trod_int Tryz.underlying3 t0
      obtain ⟨B, k2, c, l, e2, hb⟩ := open_bytes Tryz.underlying41 Tryz.underlying5 (by kernel_rfl) (by kernel_rfl) t1 w1
      simp only [List.cons.injEq, and_true] at e0 e2
      subst e0 e2
      exact ⟨(k, .slice B k2 c, l), by rw [List.getElem?_eq_getElem hi', hcs], wf_i64 r0, ⟨B, c, by rw [hb.len], hb.rd, fun h => by rw [hb.len]; exact hb.nil h, by rw [hb.len]; exact hb.le⟩, by rw [hb.len]; have := hb.reach; omega⟩)
  refine ⟨A, n, cap, ys.map (fun y => (y.1, y.2.2)), e1, ⟨by rw [List.length_map, hyl], fun hpos => ?_, hS.nil, hS.le, by rw [← b32]; exact hS.reach⟩⟩
  obtain ⟨g, o, rfl, hg, hc⟩ := hS.rd hpos
  refine ⟨g, o, rfl, hg, fun i hi => ?_⟩
  rw [List.length_map] at hi
  obtain ⟨h1, h2, h3, h4⟩ := hy i hi
  have hi' : i < els.length := by rw [hS.len, ← hyl]; exact hi
  have k0 := hc i hi' 0 (by rw [c2]; omega)
  have k1 := hc i hi' 1 (by rw [c2]; omega)
  rw [List.getElem?_eq_getElem hi'] at h1
  rw [Option.some.inj h1, c2] at k0 k1
  simp only [List.getElem_map]
  exact ⟨h2, by simpa using k0, _, by simpa using k1, h3, h4⟩
structure ArgO14 (W : World) (A : Option Addr) (n cap : Nat) (l : List O14) : Prop where
  len : l.length = n
  rd : 0 < n → ∃ g o, A = some ⟨g, o, none⟩ ∧ g < W.heap.size ∧ ∀ i (hi : i < l.length), W.cell? ⟨g, o + i * 5, none⟩ = some (.int .i64 l[i].kind) ∧ W.cell? ⟨g, o + i * 5 + 1, none⟩ = some (.slice l[i].A l[i].m l[i].c)
  nil : A = none → n = 0
  le : n ≤ cap
  cap : cap ≤ maxLen
  ok : ∀ o ∈ l, o.ok W
end
theorem O14.ok.keep {W W' : World} {o : O14} (h : o.ok W) (hf : Fr [] W W') : o.ok W' := ⟨h.kind, h.r.keep_nil hf⟩
theorem ArgO14.keep {W W' : World} {A : Option Addr} {n c : Nat} {l : List O14} (h : ArgO14 W A n c l) (hf : Fr [] W W') : ArgO14 W' A n c l :=
  ⟨h.len, fun hn => by
    obtain ⟨g, o, e, hg, hc⟩ := h.rd hn
    exact ⟨g, o, e, by have := hf.size; omega, fun i hi => ⟨hf.cell (by simp) (hc i hi).1, hf.cell (by simp) (hc i hi).2⟩⟩, h.nil, h.le, h.cap, fun o ho => (h.ok o ho).keep hf⟩
end Go.Proofs.YtamifdfkgbaobaaGreatDoor
/-
  A call of layer 15's laws (a struct of four fields: kind, redos, a number, what a crash keeps), alone and in a slice, as it comes in. Of the last field nothing is told.
-/
set_option linter.unusedSimpArgs false
set_option linter.unusedVariables false
set_option linter.unnecessarySimpa false
namespace Go.Proofs.YtamifdfkgbaobaaGreatDoor
open Go.ChangeShapes Go.WideShapes Go.ChangeAt Go.RowKit

structure O15 where
  kind : Int
  A : Option Addr
  m : Nat
  c : Nat
  rs : List (Int × List UInt8)
  n : Int
  k : Value
def O15.cells (o : O15) : List Value := [.int .i64 o.kind, .slice o.A o.m o.c, .int .i64 o.n, o.k]
structure O15.ok (W : World) (o : O15) : Prop where
  kind : -9223372036854775808 ≤ o.kind ∧ o.kind ≤ 9223372036854775807
  r : RdR W o.A o.m o.c o.rs
  n : -9223372036854775808 ≤ o.n ∧ o.n ≤ 9223372036854775807
section
variable {H : Type} {enc : TypeId × Value → H} {W : World} {held : Bool}
set_option maxRecDepth 100000 in
theorem open_op15 {fuel : Nat} {cs : List Value} {x : DataW H × List MemPlace} (h : DataW.trod enc Tryz.prog W 0 (fun _ => true) held fuel 35 cs = some x) (hw : (DataW.weights Tryz.prog 35 x.1).all (· ≤ reachBytes) = true) :
    ∃ o : O15, cs = o.cells ∧ o.ok W := by
  obtain ⟨hl, m0, y0, t0, _⟩ := open_field Tryz.underlying35 h hw 0 3 0 rfl
  obtain ⟨_, m1, y1, t1, w1⟩ := open_field Tryz.underlying35 h hw 1 32 1 rfl
  obtain ⟨_, m2, y2, t2, _⟩ := open_field Tryz.underlying35 h hw 2 3 2 rfl
  have c4 : Tryz.prog.cellsOf 35 = 4 := by kernel_rfl
  have ci : Tryz.prog.cellsOf 3 = 1 := by kernel_rfl
  have ck : Tryz.prog.cellsOf 32 = 1 := by kernel_rfl
  rw [c4] at hl
  match cs, hl with
  | [a, b, c, d], _ =>
    simp only [ci, ck, List.drop_zero, List.drop_succ_cons, List.take_succ_cons, List.take_zero] at t0 t1 t2
    obtain ⟨k, e0, _, r0⟩ := DataW.trod_int Tryz.underlying3 t0
    obtain ⟨A, m, cap, rs, e1, hr⟩ := open_redos t1 w1
    obtain ⟨n, e2, _, r2⟩ := DataW.trod_int Tryz.underlying3 t2
    simp only [List.cons.injEq, and_true] at e0 e1 e2
    subst e0 e1 e2
    exact ⟨⟨k, A, m, cap, rs, n, d⟩, rfl, wf_i64 r0, hr, wf_i64 r2⟩
set_option maxRecDepth 100000 in
theorem arg_op15 {v : Value} {d : DataW H} {ps : List MemPlace} {r : Reach} {b0 : Nat} (hv : Value.okWide Tryz.prog W r b0 35 v) (h : DataW.Trod enc Tryz.prog W 0 (fun _ => true) held 35 v d ps) (hw : (DataW.weights Tryz.prog 35 d).all (· ≤ reachBytes) = true) :
    ∃ o : O15, v = .agg o.cells.toArray ∧ o.ok W := by
  obtain ⟨cs, rfl, _⟩ := okWide_struct Tryz.underlying35 hv
  obtain ⟨fuel, hf⟩ := h
  obtain ⟨o, h1, h2⟩ := open_op15 hf hw
  refine ⟨o, ?_, h2⟩
  rw [← h1]
  simp [Value.cells]
structure ArgO15 (W : World) (A : Option Addr) (n cap : Nat) (l : List O15) : Prop where
  len : l.length = n
  rd : 0 < n → ∃ g o, A = some ⟨g, o, none⟩ ∧ g < W.heap.size ∧ ∀ i (hi : i < l.length) j, j < 4 → W.cell? ⟨g, o + i * 4 + j, none⟩ = l[i].cells[j]?
  nil : A = none → n = 0
  le : n ≤ cap
  cap : cap ≤ maxLen
  ok : ∀ o ∈ l, o.ok W
set_option maxRecDepth 100000 in
theorem arg_op15s {v : Value} {d : DataW H} {ps : List MemPlace} {r : Reach} {b0 : Nat} (hv : Value.okWide Tryz.prog W r b0 22 v) (h : DataW.Trod enc Tryz.prog W 0 (fun _ => true) held 22 v d ps) (hw : (DataW.weights Tryz.prog 22 d).all (· ≤ reachBytes) = true) :
    ∃ A n cap l, v = .slice A n cap ∧ ArgO15 W A n cap l := by
  obtain ⟨A, n, cap, rfl⟩ := okWide_slice Tryz.underlying22 hv
  obtain ⟨fuel, hf⟩ := h
  have c4 : Tryz.prog.cellsOf 35 = 4 := by kernel_rfl
  obtain ⟨A', n', cap', els, h1, h2⟩ := open_elems Tryz.underlying22 (by rw [c4]; omega) hf hw
  simp [Value.cells] at h1
  obtain ⟨rfl, rfl, rfl⟩ := h1
  have hm : ∀ x ∈ els, ∃ o : O15, x = o.cells ∧ o.ok W := fun x hx => by
    obtain ⟨_, m, y, e1, e2⟩ := h2.each x hx
    exact open_op15 e1 e2
  obtain ⟨l, hl⟩ : ∃ l : List O15, l.map O15.cells = els ∧ ∀ o ∈ l, o.ok W := by
    clear h2 hf
    induction els with
    | nil => exact ⟨[], rfl, by simp⟩
    | cons x r ih =>
      obtain ⟨o, h1, h2⟩ := hm x (by simp)
      obtain ⟨l, h3, h4⟩ := ih (fun y hy => hm y (by simp [hy]))
      exact ⟨o :: l, by rw [List.map_cons, h3, h1], by simpa using ⟨h2, h4⟩⟩
  obtain ⟨rfl, hok⟩ := hl
  refine ⟨A, n, cap, l, rfl, by simpa using h2.len, fun hn => ?_, h2.nil, h2.le, h2.cap, hok⟩
  obtain ⟨g, o, e, hg, hc⟩ := h2.rd hn
  refine ⟨g, o, e, hg, fun i hi j hj => ?_⟩
  have := hc i (by simpa using hi) j (by rw [c4]; exact hj)
  rw [c4] at this
  simpa using this
end
end Go.Proofs.YtamifdfkgbaobaaGreatDoor
/-
  CacheNobody: the walk.
-/
set_option linter.unusedSimpArgs false
set_option linter.unusedVariables false
set_option linter.unnecessarySimpa false
namespace Go.Proofs.YtamifdfkgbaobaaGreatDoor
open Go.RowKit
set_option maxRecDepth 100000

set_option maxHeartbeats 4000000 in
theorem caNobody_any (w : World) (o : O15) (hK : KG w) : Calls Tryz.prog 4 #[.agg o.cells.toArray] w fun e w' => e = .returned (.bool true) ∧ Fr [] w w' := by
  obtain ⟨k, A, m, c, rs, n, kv⟩ := o
  show Calls Tryz.prog 4 #[.agg #[.int .i64 k, .slice A m c, .int .i64 n, kv]] w _
  have kb := Blk.new w 35 #[.int .i64 k, .slice A m c, .int .i64 n, kv]
  have f0 : Fr [] w (w.alloc (.cells #[.int .i64 k, .slice A m c, .int .i64 n, kv] 35)) := (Fr.refl [] w).alloc _
  obtain ⟨w1, hw1⟩ : ∃ y, w.alloc (.cells #[.int .i64 k, .slice A m c, .int .i64 n, kv] 35) = y := ⟨_, rfl⟩
  obtain ⟨gb, hgb⟩ : ∃ y, w.heap.size = y := ⟨_, rfl⟩
  rw [hw1] at kb f0
  rw [hgb] at kb
  have c1 : w1.cell? ⟨gb, 1, none⟩ = some (.slice A m c) := kb.cell 1
  have c2 : w1.cell? ⟨gb, 2, none⟩ = some (.int .i64 n) := kb.cell 2
  clear kb
  go_enter Tryz.func4, Tryz.ntmps4
  go_wp2_with (go_at_call 15; refine (caRead_nil _ _).mono ?_; rintro e w' ⟨rfl, rfl⟩)
  refine (lives15_any w1 (hK.keep f0)).mono ?_
  rintro e w2 ⟨rfl, f⟩
  replace c1 := f.cell (by simp) c1
  replace f0 := f0.trans_nil f
  clear f c2
  go_wp2_with fail
  refine (caCommit_nil _ _ _ _).mono ?_
  rintro e w3 ⟨rfl, f⟩
  replace f0 := f0.trans_nil f
  clear f c1
  go_wp2_with fail
  refine (caFlush_nil _).mono ?_
  rintro e w4 ⟨rfl, f⟩
  replace f0 := f0.trans_nil f
  clear f
  go_wp2_with fail
  refine (caCheck_nil _).mono ?_
  rintro e w5 ⟨rfl, f⟩
  replace f0 := f0.trans_nil f
  clear f
  go_wp2_with fail
  refine (caClean_nil _).mono ?_
  rintro e w6 ⟨rfl, f⟩
  replace f0 := f0.trans_nil f
  clear f
  go_wp2_with (first | (go_at_call 13; refine (caDirty_nil _).mono ?_; rintro e w' ⟨rfl, rfl⟩) | (go_at_call 12; refine (caUsed_nil _).mono ?_; rintro e w' ⟨rfl, rfl⟩) | (go_at_call 18; refine (caMost_nil _).mono ?_; rintro e w' ⟨rfl, rfl⟩))
  go_ret
  exact ⟨rfl, f0⟩
end Go.Proofs.YtamifdfkgbaobaaGreatDoor
/-
  What the listed variable (SHA-256's constants) gives the walks; the door's own heap meets the condition.
-/
set_option linter.unusedSimpArgs false
set_option linter.unusedVariables false
set_option linter.unnecessarySimpa false
namespace Go.Proofs.YtamifdfkgbaobaaGreatDoor
open Go.ChangeShapes Go.WideShapes Go.ChangeAt Go.RowKit

abbrev laidK {H : Type} : List (String × DataW H) := [("casket/sha.constants", Rows.laid_casket_sha_constants)]
theorem gConst : Tryz.prog.globalNamed "casket/sha.constants" = some 0 := by kernel_rfl
theorem tConst : (Tryz.prog.globals[0]?).map (·.type) = some 157 := by kernel_rfl
theorem laid_eq {H : Type} : (Rows.laid_casket_sha_constants : DataW H) = .agg (kC.map fun k => .lit (.int .u32 (uw k))) := by kernel_rfl

theorem door_met (os : Os) (args : Array Value) : laidMetH Tryz.prog laidK ((World.doorLaid Tryz.prog 400 os).forCall (fun _ _ => 0) ⟨#[], args, []⟩).memory :=
  laidMetH_of_parts3 (fuel := 8) (laidMet_of_run' 8 (by kernel_rfl) (by kernel_rfl)) (by kernel_rfl) (by kernel_rfl)

set_option maxRecDepth 100000 in
theorem kg_of_laid {W : World} (h : laidMetH Tryz.prog laidK W) : KG W := by
  rw [MakeChecks.laidMetH_plain _ _ _ (by kernel_rfl)] at h
  obtain ⟨ps, ⟨g0, t0, cs0, f0, p0, q0, hg0, ht0, hv0, hd0, _, _⟩, _, _⟩ := h
  obtain rfl := Option.some.inj (gConst.symm.trans hg0)
  obtain rfl := Option.some.inj (tConst.symm.trans ht0)
  obtain ⟨xs, m1, rfl, hx1, hlen, hn3, hel⟩ := DataW.trod_array Tryz.underlying157 hd0
  have c32 : Tryz.prog.cellsOf 138 = 1 := by kernel_rfl
  have c64 : Tryz.prog.cellsOf 157 = 64 := by kernel_rfl
  rw [c64] at hlen
  have hxs : xs.map (·.1) = kC.map fun k => .lit (.int .u32 (uw k)) := by
    have e := (Prod.mk.inj hx1).1
    rw [laid_eq] at e
    exact (DataW.agg.inj e).symm
  intro j u hu
  have hj : j < kC.length := by
    have := (List.getElem?_eq_some_iff.1 hu).1
    rwa [wvs_length] at this
  have hj64 : j < 64 := hj
  rw [wvs_at hj] at hu
  cases hu
  have h1 := hel j hj64
  rw [c32, Nat.mul_one] at h1
  have hl : j < cs0.toList.length := by rw [hlen]; exact hj64
  have h2 : (cs0.toList.drop j).take 1 = [cs0.toList[j]] := by rw [List.take_one, List.head?_drop, List.getElem?_eq_getElem hl]; rfl
  have hxl : j < xs.length := by rw [hn3]; exact hj64
  rw [h2, List.getElem?_eq_getElem hxl] at h1
  obtain ⟨z, e1, e2, _⟩ := DataW.trod_int Tryz.underlying138 h1
  have e3 : (xs.map (·.1))[j]? = some (.lit (.int .u32 (uw kC[j]))) := by rw [hxs, List.getElem?_map, List.getElem?_eq_getElem hj]; rfl
  rw [List.getElem?_map, List.getElem?_eq_getElem hxl, Option.map_some] at e3
  have e4 : z = uw kC[j] := by
    rw [e2] at e3
    simpa using e3
  have e5 : cs0.toList[j] = .int .u32 z := by simpa using e1
  have := World.var?_cell hg0 hv0 j
  rw [Nat.zero_add, this, ← Array.getElem?_toList, List.getElem?_eq_getElem hl, e5, e4]
  rfl
end Go.Proofs.YtamifdfkgbaobaaGreatDoor
