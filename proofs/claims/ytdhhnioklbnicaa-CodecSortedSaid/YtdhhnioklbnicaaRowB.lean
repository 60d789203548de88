/-
  From a row's reading of its arguments to the words of the walks: slices of structs, field by field.
-/
import Derived.Test.YtdhhnioklbnicaaRowA
import Derived.ChangeArms
import Derived.DataReads
set_option linter.unusedSimpArgs false
set_option linter.unusedVariables false
set_option linter.unnecessarySimpa false
namespace Go.Proofs.Ytdhhnioklbnicaa
open Go.ChangeShapes Go.WideShapes Go.ChangeAt Go.RowKit

section
variable {H : Type} {enc : TypeId × Value → H} {P : Program} {W : World} {fuel : Nat} {held : Bool}

/-- A slice that came in, its elements still unread: n of them, each of 'size' cells. -/
structure ArgS (enc : TypeId × Value → H) (P : Program) (W : World) (held : Bool) (e : TypeId) (A : Option Addr) (n cap : Nat) (els : List (List Value)) : Prop where
  len : els.length = n
  rd : 0 < n → ∃ g o, A = some ⟨g, o, none⟩ ∧ g < W.heap.size ∧ ∀ i (hi : i < els.length) j, j < P.cellsOf e → W.cell? ⟨g, o + i * P.cellsOf e + j, none⟩ = els[i][j]?
  nil : A = none → n = 0
  le : n ≤ cap
  cap : cap ≤ maxLen
  reach : n * P.bytesOf e ≤ 140737488351232
  each : ∀ x ∈ els, x.length = P.cellsOf e ∧ ∃ m y, DataW.trod enc P W 0 (fun _ => true) held m e x = some y ∧ (DataW.weights P e y.1).all (· ≤ reachBytes) = true

theorem weightsAll_mem {e : TypeId} : ∀ {l : List (DataW H)} {d : DataW H}, d ∈ l → ∀ n ∈ d.weights P e, n ∈ DataW.weightsAll P e l
  | d0 :: l, d, hd, n, hn => by
    rw [DataW.weightsAll, List.mem_append]
    rcases List.mem_cons.1 hd with rfl | h
    · exact .inl hn
    · exact .inr (weightsAll_mem h n hn)

theorem open_elems {t e : TypeId} {cs : List Value} {x : DataW H × List MemPlace} (ht : P.underlying t = some (.slice e)) (hpos : 0 < P.cellsOf e)
    (h : DataW.trod enc P W 0 (fun _ => true) held fuel t cs = some x) (hw : (DataW.weights P t x.1).all (· ≤ reachBytes) = true) :
    ∃ A n cap els, cs = [.slice A n cap] ∧ ArgS enc P W held e A n cap els := by
  rcases DataW.trod_slice ht h with ⟨rfl, rfl⟩ | ⟨a, len, cap, elems, rest, k, _, rfl, hx, hb, hl, hm, hlen, hel, hsp, _⟩
  · exact ⟨none, 0, 0, [], rfl, ⟨rfl, fun h => by omega, fun _ => rfl, Nat.le_refl _, by unfold maxLen; omega, by omega, by simp⟩⟩
  · have hread : ∀ i, i < len → ∃ cs' y, W.cells? 0 (a.add (i * P.cellsOf e)) (P.cellsOf e) = some cs' ∧ DataW.trod enc P W 0 (fun _ => true) held k e cs' = some y ∧ elems[i]? = some y := by
      intro i hi
      have h1 := hel i hi
      have h2 : elems[i]? = some elems[i] := List.getElem?_eq_getElem (by omega)
      rw [h2] at h1
      obtain ⟨cs', e1, e2⟩ := Option.bind_eq_some_iff.1 h1
      exact ⟨cs', _, e1, e2, h2⟩
    obtain ⟨els, hels⟩ : ∃ els : List (List Value), els = (List.range len).map fun i => (W.cells? 0 (a.add (i * P.cellsOf e)) (P.cellsOf e)).getD [] := ⟨_, rfl⟩
    have hel2 : els.length = len := by rw [hels]; simp
    have hat : ∀ i (hi : i < els.length), W.cells? 0 (a.add (i * P.cellsOf e)) (P.cellsOf e) = some els[i] := by
      intro i hi
      obtain ⟨cs', y, e1, _⟩ := hread i (by omega)
      subst hels
      simp [e1]
    refine ⟨some a, len, cap, els, rfl, ⟨hel2, fun hn => ?_, fun h => (by cases h), hl, hm, ?_, fun z hz => ?_⟩⟩
    · obtain ⟨g, o, sp⟩ := a
      have h0 := World.cells?_some (hat 0 (by omega))
      have c0 := h0.2.2 0 hpos
      rw [List.getElem?_eq_getElem (by omega)] at c0
      have hspot : sp = none := by simpa [Addr.add] using World.cell?_spot c0
      subst hspot
      refine ⟨g, o, rfl, ?_, fun i hi j hj => ?_⟩
      · have := World.block_lt_of_cell? W _ c0
        simpa [Addr.add] using this
      · have h1 := (World.cells?_some (hat i hi)).2.2 j hj
        rw [addr_add, addr_add] at h1
        exact h1
    · rw [hx] at hw
      have h2 := List.all_eq_true.1 hw (((elems.map (·.1)).length + (rest.map (·.1)).length) * P.bytesOf e) (by simp [DataW.weights, ht])
      have h3 : (elems.length + rest.length) * P.bytesOf e ≤ 140737488351232 := by simpa [reachBytes] using h2
      exact Nat.le_trans (Nat.mul_le_mul_right _ (by omega)) h3
    · obtain ⟨i, hi, rfl⟩ := List.getElem_of_mem hz
      obtain ⟨cs', y, e1, e2, e3⟩ := hread i (by omega)
      have e4 := hat i hi
      rw [e1] at e4
      cases e4
      refine ⟨(World.cells?_some e1).2.1, k, y, e2, ?_⟩
      rw [hx] at hw
      rw [List.all_eq_true] at hw ⊢
      intro n hn
      refine hw n ?_
      simp only [DataW.weights, ht, List.mem_cons, List.mem_append]
      exact .inr (.inl (weightsAll_mem (List.mem_map.2 ⟨y, List.mem_of_getElem? e3, rfl⟩) n hn))

/-- One field of a struct: its cells are read at its type, its weight is within reach. -/
theorem open_field {t : TypeId} {fs : Array Field} {cs : List Value} {x : DataW H × List MemPlace} (ht : P.underlying t = some (.struct fs))
    (h : DataW.trod enc P W 0 (fun _ => true) held fuel t cs = some x) (hw : (DataW.weights P t x.1).all (· ≤ reachBytes) = true) (i : Nat) (ft : TypeId) (off : Nat) (hf : (fs[i]?).map (fun f => (f.type, f.offset)) = some (ft, off)) :
    cs.length = P.cellsOf t ∧ ∃ m y, DataW.trod enc P W 0 (fun _ => true) held m ft ((cs.drop off).take (P.cellsOf ft)) = some y ∧ (DataW.weights P ft y.1).all (· ≤ reachBytes) = true := by
  obtain ⟨f, hf', e⟩ := Option.map_eq_some_iff.1 hf
  simp only [Prod.mk.injEq] at e
  obtain ⟨rfl, rfl⟩ := e
  obtain ⟨xs, m, _, hx, hcl, hxl, hall⟩ := DataW.trod_struct ht h
  have h1 := hall i f hf'
  have hi : i < fs.size := (Array.getElem?_eq_some_iff.1 hf').1
  have h2 : xs[i]? = some xs[i] := List.getElem?_eq_getElem (by omega)
  rw [h2] at h1
  refine ⟨hcl, m, _, h1, ?_⟩
  rw [hx] at hw
  simp only [DataW.weights, ht] at hw
  refine weights_at (j := i) hw ?_ ?_
  · simp [hf']
  · simp [h2]
end
end Go.Proofs.Ytdhhnioklbnicaa
