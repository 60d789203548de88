/-
  A struct that is built out of parts of many cells. No program of the seat is named here.
-/
import Derived.Test.YtlelgeigighecaaDoorBig
set_option linter.unusedSimpArgs false
set_option linter.unusedVariables false
set_option linter.unnecessarySimpa false
namespace Go.Proofs.YtlelgeigighecaaDoor
open Go.RowKit

theorem foldl_splice (off : Nat) (new : List Value) (cells : List Value) (hle : off + new.length ≤ cells.length) :
    (new.toArray.zipIdx.foldl (fun cs (x : Value × Nat) => cs.setIfInBounds (off + x.2) x.1) cells.toArray) = (cells.take off ++ new ++ cells.drop (off + new.length)).toArray := by
  obtain ⟨h1, h2⟩ := Great.foldl_set off new 0 cells.toArray
  rw [← Array.foldl_toList, Array.toList_zipIdx, List.toList_toArray]
  apply Array.ext_getElem?
  intro k
  rw [h2 k, List.getElem?_toArray, List.getElem?_toArray, List.size_toArray, Nat.add_zero]
  split
  · rename_i h
    rw [List.getElem?_append_left (by rw [List.length_append, List.length_take]; omega), List.getElem?_append_right (by rw [List.length_take]; omega), List.length_take, Nat.min_eq_left (by omega)]
  · rename_i h
    by_cases hk : k < off
    · rw [List.append_assoc, List.getElem?_append_left (by rw [List.length_take]; omega), List.getElem?_take, if_pos hk]
    · by_cases hk2 : off + new.length ≤ k
      · rw [List.getElem?_append_right (by rw [List.length_append, List.length_take]; omega), List.getElem?_drop, List.length_append, List.length_take]
        congr 1
        omega
      · have : cells.length ≤ k := by omega
        rw [List.getElem?_eq_none this, List.getElem?_eq_none (by simp only [List.length_append, List.length_take, List.length_drop]; omega)]

theorem fill_part {place : Nat → Option (Nat × Nat)} {i off : Nat} {v : Value} {new cells : List Value} {rest : List (Nat × Value)} {r : Array Value} (hp : place i = some (off, new.length)) (hv : v.cells = new.toArray) (hle : off + new.length ≤ cells.length)
    (h : Instr.fill place (cells.take off ++ new ++ cells.drop (off + new.length)).toArray rest = some r) : Instr.fill place cells.toArray ((i, v) :: rest) = some r := by
  unfold Instr.fill
  simp only [hp, hv]
  rw [if_neg (by simp; omega)]
  rw [← h]
  congr 1
  exact foldl_splice off new cells hle

section
variable {P : Program} {t : TypeId} {n : Nat} {z : List Value}
theorem build_fill (hT : StT P t n z) {fs : Array Field} (hu : P.underlying t = some (.struct fs)) {pl : Array (Nat × Nat)} (w : World) (hp : Sem.run P (fs.mapM fun f => do pure (f.offset, ← sizeOf f.type)) w = .ok pl w) (parts : Array (Nat × Value)) (cells : List Value) (hf : Instr.fill (pl[·]?) z.toArray parts.toList = some cells.toArray) :
    (Instr.build t parts).run P w = .ok (.agg cells.toArray) w := by
  unfold Instr.build
  simp only [Sem.run_bind, hT.zv, Result.andThen_ok, run_underlying hu, hp, Value.cells, hf, Sem.run_pure]
end
end Go.Proofs.YtlelgeigighecaaDoor
