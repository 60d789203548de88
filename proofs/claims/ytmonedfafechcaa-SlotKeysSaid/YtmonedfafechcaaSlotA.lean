/-
  A slot (layer 12) as a value: its cells, its equality, its block's bytes.
-/
import Derived.Test.YtmonedfafechcaaCodI
import Derived.Test.YtmonedfafechcaaBig
import Derived.Test.YtmonedfafechcaaReg
import Derived.Deep.DeepCutAuto
import Derived.Deep.CutBlock
set_option linter.unusedSimpArgs false
set_option linter.unusedVariables false
set_option linter.unnecessarySimpa false
namespace Go.Proofs.Ytmonedfafechcaa
open Go.RowKit

structure SlotM where
  act : Bool
  sa : List UInt8
  wr : List UInt8
  tg : List UInt8
def SlotM.cells (s : SlotM) : List Value := .bool s.act :: (bvs s.sa ++ (bvs s.wr ++ bvs s.tg))
structure SlotM.ok (s : SlotM) : Prop where
  sa : s.sa.length = 16
  wr : s.wr.length = 32
  tg : s.tg.length = 32
def zeroS : SlotM := ⟨false, List.replicate 16 0, List.replicate 32 0, List.replicate 32 0⟩
theorem zeroS_ok : zeroS.ok := ⟨rfl, rfl, rfl⟩
def SlotM.eqB (a b : SlotM) : Bool := a.act == b.act && (a.sa == b.sa && (a.wr == b.wr && (a.tg == b.tg && true)))
theorem SlotM.eqB_iff (a b : SlotM) : a.eqB b = true ↔ a = b := by
  obtain ⟨a1, a2, a3, a4⟩ := a
  obtain ⟨b1, b2, b3, b4⟩ := b
  simp [SlotM.eqB]
theorem SlotM.len {s : SlotM} (h : s.ok) : s.cells.length = 81 := by simp [SlotM.cells, bvs, h.sa, h.wr, h.tg]
theorem SlotM.ones (s : SlotM) : ∀ u ∈ s.cells, u.oneCell' = true := by
  intro u hu
  simp only [SlotM.cells, List.mem_cons, List.mem_append] at hu
  rcases hu with rfl | hu | hu | hu
  · rfl
  all_goals exact bvs_one _ u hu

set_option maxRecDepth 100000 in
theorem stSlot : StT Try.prog 60 81 zeroS.cells := ⟨⟨_, Try.underlying60, rfl⟩, by kernel_rfl, by decide, by kernel_rfl, zeroS.ones⟩

set_option maxRecDepth 100000 in
theorem slotZero (w : World) : (Instr.build 60 #[]).run Try.prog w = .ok (.agg zeroS.cells.toArray) w := by kernel_rfl

set_option maxRecDepth 100000 in
theorem slot_eq {a b : SlotM} (ha : a.ok) (hb : b.ok) (w : World) : (Op.equalIn 10000 60 (.agg a.cells.toArray) (.agg b.cells.toArray)).run Try.prog w = .ok (a.eqB b) w := by
  rw [run_equalIn_struct w 9999 60 _ _ (by kernel_rfl) (by kernel_rfl)]
  simp only [Program.fieldsOf, Try.underlying60]
  have h16 : (Try.prog.info? 57).map (·.size) = some 16 := by kernel_rfl
  have h32 : (Try.prog.info? 58).map (·.size) = some 32 := by kernel_rfl
  have h8 : (Try.prog.info? 5).map (·.size) = some 1 := by kernel_rfl
  have p1 : ∀ {s : SlotM}, s.ok → (s.cells.toArray.toList.drop 1).take 16 = bvs s.sa := fun {s} h => by
    show (bvs s.sa ++ _).take 16 = _
    rw [List.take_left' (by rw [bvs_length, h.sa])]
  have p2 : ∀ {s : SlotM}, s.ok → (s.cells.toArray.toList.drop 17).take 32 = bvs s.wr := fun {s} h => by
    show ((bvs s.sa ++ (bvs s.wr ++ bvs s.tg)).drop 16).take 32 = _
    rw [List.drop_left' (by rw [bvs_length, h.sa]), List.take_left' (by rw [bvs_length, h.wr])]
  have p3 : ∀ {s : SlotM}, s.ok → (s.cells.toArray.toList.drop 49).take 32 = bvs s.tg := fun {s} h => by
    show ((bvs s.sa ++ (bvs s.wr ++ bvs s.tg)).drop 48).take 32 = _
    rw [← List.append_assoc, List.drop_left' (by rw [List.length_append, bvs_length, bvs_length, h.sa, h.wr]), List.take_of_length_le (by rw [bvs_length, h.tg]; exact Nat.le_refl _)]
  refine eqF_step _ _ _ _ _ (of_decide_eq_true (by kernel_rfl)) (.bool a.act) (.bool b.act) ?_ ?_ _ _ ?_ (eqF_step _ _ _ _ _ (of_decide_eq_true (by kernel_rfl)) (.agg (bvs a.sa).toArray) (.agg (bvs b.sa).toArray) ?_ ?_ _ _ ?_ (eqF_step _ _ _ _ _ (of_decide_eq_true (by kernel_rfl)) (.agg (bvs a.wr).toArray) (.agg (bvs b.wr).toArray) ?_ ?_ _ _ ?_ (eqF_step _ _ _ _ _ (of_decide_eq_true (by kernel_rfl)) (.agg (bvs a.tg).toArray) (.agg (bvs b.tg).toArray) ?_ ?_ _ _ ?_ rfl)))
  · exact part_one Try.underlying4 rfl _ _ _ rfl
  · exact part_one Try.underlying4 rfl _ _ _ rfl
  · exact run_equalIn_bool w _ _ _ _ Try.underlying4
  · exact part_bytes Try.underlying57 h16 _ _ _ ha.sa (p1 ha)
  · exact part_bytes Try.underlying57 h16 _ _ _ hb.sa (p1 hb)
  · exact eq_bytes 9997 Try.underlying57 Try.underlying5 h8 _ _ ha.sa hb.sa
  · exact part_bytes Try.underlying58 h32 _ _ _ ha.wr (p2 ha)
  · exact part_bytes Try.underlying58 h32 _ _ _ hb.wr (p2 hb)
  · exact eq_bytes 9997 Try.underlying58 Try.underlying5 h8 _ _ ha.wr hb.wr
  · exact part_bytes Try.underlying58 h32 _ _ _ ha.tg (p3 ha)
  · exact part_bytes Try.underlying58 h32 _ _ _ hb.tg (p3 hb)
  · exact eq_bytes 9997 Try.underlying58 Try.underlying5 h8 _ _ ha.tg hb.tg
end Go.Proofs.Ytmonedfafechcaa
