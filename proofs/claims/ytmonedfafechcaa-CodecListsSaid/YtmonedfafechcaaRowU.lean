/-
  A slice of uint64 as it comes in.
-/
import Derived.Test.YtmonedfafechcaaRowA
import Derived.Test.YtmonedfafechcaaLists
set_option linter.unusedSimpArgs false
set_option linter.unusedVariables false
set_option linter.unnecessarySimpa false
namespace Go.Proofs.Ytmonedfafechcaa
open Go.ChangeShapes Go.WideShapes Go.ChangeAt Go.RowKit

structure ArgU (W : World) (A : Option Addr) (n cap : Nat) (us : List Nat) : Prop where
  len : us.length = n
  rd : Rd W A (us.map uv)
  nil : A = none → n = 0
  blk : ∀ g o, A = some ⟨g, o, none⟩ → us ≠ [] → g < W.heap.size
  lt : ∀ x ∈ us, x < 18446744073709551616
  reach : n * 8 ≤ 140737488351232

set_option maxRecDepth 100000 in
theorem arg_nums {H : Type} {enc : TypeId × Value → H} {W : World} {v : Value} {d : DataW H} {ps : List MemPlace} {held : Bool} {r : Reach} {b0 : Nat}
    (hv : Value.okWide Try.prog W r b0 51 v) (h : DataW.Trod enc Try.prog W 0 (fun _ => true) held 51 v d ps) (hw : (DataW.weights Try.prog 51 d).all (· ≤ reachBytes) = true) :
    ∃ A n cap us, v = .slice A n cap ∧ ArgU W A n cap us := by
  obtain ⟨A, len, cap, rfl⟩ := okWide_slice Try.underlying51 hv
  obtain ⟨fuel, hf⟩ := h
  rcases open_ints Try.underlying51 Try.underlying30 (by kernel_rfl) hf with ⟨hcs, hx⟩ | ⟨a, l, c, zs, hcs, _, hl, hm, hz, hx, hcell, hwz⟩
  · simp [Value.cells] at hcs
    obtain ⟨rfl, rfl, rfl⟩ := hcs
    exact ⟨none, 0, 0, [], rfl, rfl, Rd.nil _ _, fun _ => rfl, fun g o e => (by cases e), by simp, by omega⟩
  · simp [Value.cells] at hcs
    obtain ⟨rfl, rfl, rfl⟩ := hcs
    simp only [if_true] at hz
    have hnn : ∀ z ∈ zs, z = ((z.toNat : Nat) : Int) ∧ z.toNat < 18446744073709551616 := fun z hzz => by
      obtain ⟨n, rfl, hn⟩ := wf_u64 (hwz z hzz)
      exact ⟨by simp, by simpa using hn⟩
    refine ⟨some a, len, cap, (zs.take len).map Int.toNat, rfl, by simp; omega, ?_, fun h => (by cases h), ?_, ?_, ?_⟩
    · intro hne
      have hpos : 0 < zs.length := by
        cases zs with
        | nil => simp at hne
        | cons z r => simp
      obtain ⟨g, o, sp⟩ := a
      have hsp : sp = none := by simpa [Addr.add] using World.cell?_spot (hcell 0 hpos)
      subst hsp
      refine ⟨g, o, rfl, fun j u hu => ?_⟩
      have hj : j < (zs.take len).length := by
        have := (List.getElem?_eq_some_iff.1 hu).1
        simpa using this
      have hj' : j < zs.length := by rw [List.length_take] at hj; omega
      have h1 := hcell j hj'
      rw [addr_add] at h1
      rw [h1]
      have h2 : zs.getD j 0 = zs[j] := by simp [List.getD, hj']
      rw [h2]
      simp only [List.map_map, List.getElem?_map, List.getElem?_eq_getElem hj, Option.map_some, Function.comp, List.getElem_take] at hu
      rw [← hu]
      unfold uv
      rw [← (hnn _ (List.getElem_mem hj')).1]
    · intro g o e1 hne
      cases e1
      have hpos : 0 < zs.length := by
        cases zs with
        | nil => simp at hne
        | cons z r => simp
      have h1 := hcell 0 hpos
      exact World.block_lt_of_cell? W _ (by rw [addr_add] at h1; exact h1)
    · intro x hx
      obtain ⟨z, hz1, rfl⟩ := List.mem_map.1 hx
      exact (hnn z (List.mem_of_mem_take hz1)).2
    · obtain ⟨rfl, _⟩ := Prod.mk.inj hx
      have h1 : (lits (H := H) .u64 (zs.take len)).length + (lits (H := H) .u64 (zs.drop len)).length = zs.length := by
        simp [lits]
        omega
      have h2 := List.all_eq_true.1 hw (((lits (H := H) .u64 (zs.take len)).length + (lits (H := H) .u64 (zs.drop len)).length) * Try.prog.bytesOf 30) (by simp [DataW.weights, Try.underlying51])
      rw [h1, show Try.prog.bytesOf 30 = 8 from by kernel_rfl] at h2
      have : zs.length * 8 ≤ reachBytes := by simpa using h2
      unfold reachBytes at this
      omega
end Go.Proofs.Ytmonedfafechcaa
