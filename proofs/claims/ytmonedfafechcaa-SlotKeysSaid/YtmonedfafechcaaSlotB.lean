/-
  Contracts of layer 12: block, EncodeSlot and its reference.
-/
import Derived.Test.YtmonedfafechcaaSlotA
set_option linter.unusedSimpArgs false
set_option linter.unusedVariables false
set_option linter.unnecessarySimpa false
namespace Go.Proofs.Ytmonedfafechcaa
open Go.RowKit

def markS : List UInt8 := [83, 76, 79, 84]
def SlotM.body (s : SlotM) : List UInt8 := markS ++ s.sa ++ s.wr ++ s.tg
def SlotM.good (s : SlotM) : Bool := s.act || s.eqB zeroS
def SlotM.bytes (s : SlotM) : List UInt8 := if s.act then s.body ++ List.replicate 428 0 else List.replicate 512 0
theorem SlotM.body_len {s : SlotM} (h : s.ok) : s.body.length = 84 := by simp [SlotM.body, markS, h.sa, h.wr, h.tg]
theorem SlotM.bytes_len {s : SlotM} (h : s.ok) : s.bytes.length = 512 := by
  unfold SlotM.bytes
  split
  · rw [List.length_append, List.length_replicate, SlotM.body_len h]
  · rw [List.length_replicate]

section
variable {w w' : World} {g : Nat} {s : SlotM}
/-- The parts of a slot that lies in a block. -/
theorem SlotM.cells_get {s : SlotM} (h : s.ok) : (∀ j u, (bvs s.sa)[j]? = some u → s.cells.toArray[1 + j]? = some u) ∧ (∀ j u, (bvs s.wr)[j]? = some u → s.cells.toArray[17 + j]? = some u) ∧ (∀ j u, (bvs s.tg)[j]? = some u → s.cells.toArray[49 + j]? = some u) := by
  have l1 : (bvs s.sa).length = 16 := by rw [bvs_length, h.sa]
  have l2 : (bvs s.wr).length = 32 := by rw [bvs_length, h.wr]
  refine ⟨fun j u hu => ?_, fun j u hu => ?_, fun j u hu => ?_⟩
  · have hj := (List.getElem?_eq_some_iff.1 hu).1
    rw [List.getElem?_toArray, show 1 + j = j + 1 by omega, SlotM.cells, List.getElem?_cons_succ, List.getElem?_append_left hj, hu]
  · have hj := (List.getElem?_eq_some_iff.1 hu).1
    rw [List.getElem?_toArray, show 17 + j = (16 + j) + 1 by omega, SlotM.cells, List.getElem?_cons_succ, List.getElem?_append_right (by omega), List.getElem?_append_left (by omega), l1, Nat.add_sub_cancel_left, hu]
  · rw [List.getElem?_toArray, show 49 + j = (48 + j) + 1 by omega, SlotM.cells, List.getElem?_cons_succ, List.getElem?_append_right (by omega), List.getElem?_append_right (by omega), l1, l2, show 48 + j - 16 - 32 = j by omega, hu]
theorem slot_rd (h : s.ok) (hb : Blk w g 60 s.cells.toArray) : Rd w (some ⟨g, 1, none⟩) (bvs s.sa) ∧ Rd w (some ⟨g, 17, none⟩) (bvs s.wr) ∧ Rd w (some ⟨g, 49, none⟩) (bvs s.tg) :=
  ⟨Rd.of_blk hb _ _ (SlotM.cells_get h).1, Rd.of_blk hb _ _ (SlotM.cells_get h).2.1, Rd.of_blk hb _ _ (SlotM.cells_get h).2.2⟩

theorem Blk.keep_nil {t : TypeId} {cs : Array Value} (h : Blk w g t cs) (hf : Fr [] w w') : Blk w' g t cs := h.keep hf (by simp)
theorem WPost.blk {p B size : Nat} {v : Value} {bad : Bool} {l q : List UInt8} (h : WPost w w' p B v size q) (h0 : Wrt w p B v size bad l) {T : TypeId} {cs : Array Value} (hb : Blk w g T cs) (h1 : T ≠ 97) (h2 : T ≠ 5) : Blk w' g T cs := by
  obtain ⟨v', a, f, b⟩ := h
  refine hb.keep f (fun hm => ?_)
  rcases List.mem_cons.1 hm with e | hm
  · exact hb.ne_ h0.1 h1 e
  · exact h0.2.1.ne_blk hb h2 (mem_own.1 hm)

/-- The const bytes '[]byte("..")'. -/
theorem Rd.mark (w : World) (xs : List UInt8) (t : TypeId) (fz : Nat × Nat) : Rd (w.alloc (.cells (bvs xs).toArray t fz)) (some ⟨w.heap.size, 0, none⟩) (bvs xs) := fun _ =>
  ⟨w.heap.size, 0, rfl, fun j u hu => by rw [cell_of_row _ _ _ _ _ _ (heap_alloc_new w _), Nat.zero_add]; simpa using hu⟩

set_option maxRecDepth 100000 in
set_option maxHeartbeats 1000000 in
theorem encSlot1_ok {p B : Nat} {v : Value} (h : Wrt w p B v 512 false []) (hs : s.ok) (hb : Blk w g 60 s.cells.toArray) :
    Calls Try.prog 65 #[.pointer (some ⟨p, 0, none⟩), .pointer (some ⟨g, 0, none⟩)] w fun e w' => e = .returned (.tuple #[]) ∧ WPost w w' p B v 512 s.body := by
  have kc := fun (w : World) (C : Array Value) (n c : Nat) => Lib.run_convert_bytes_const (P := Try.prog) w 22 5 C n c Try.underlying22 Try.underlying5
  have hpg : p ≠ g := fun e => (hb.ne_ h.1 (by decide)) e.symm
  go_enter Try.func65, Try.ntmps65
  go_wp2_with fail
  have ra := Rd.mark w markS 5 (4, 5)
  have fa : Fr [] w (w.alloc (.cells (bvs markS).toArray 5 (4, 5))) := (Fr.refl _ _).alloc _
  refine (wBytes_ok (h.keep_nil fa) _ 4 4 markS rfl ra (by simp) (fun g o e _ => by cases e; have := h.lt; omega) (by simp)).mono ?_
  rintro e w1 ⟨rfl, x1⟩
  have b1 := x1.blk (h.keep_nil fa) (hb.keep_nil fa) (by decide) (by decide)
  have y1 := WPost.trans (fa.mono (by simp)) (fun g hg => .inl hg) x1
  clear ra fa x1 hb
  obtain ⟨v1, h1, f1, g1⟩ := y1
  rw [List.nil_append] at h1
  go_wp2_with fail
  refine (wBytes_ok h1 _ 16 16 s.sa hs.sa (slot_rd hs b1).1 (by simp) (fun g o e _ => by cases e; exact hpg.symm) (by rw [show markS.length = 4 from rfl]; omega)).mono ?_
  rintro e w2 ⟨rfl, x2⟩
  have b2 := x2.blk h1 b1 (by decide) (by decide)
  obtain ⟨v2, h2, f2, g2⟩ := WPost.trans f1 g1 x2
  clear x2 b1 f1 g1 h1
  go_wp2_with fail
  refine (wBytes_ok h2 _ 32 32 s.wr hs.wr (slot_rd hs b2).2.1 (by simp) (fun g o e _ => by cases e; exact hpg.symm) (by rw [List.length_append, hs.sa, show markS.length = 4 from rfl]; omega)).mono ?_
  rintro e w3 ⟨rfl, x3⟩
  have b3 := x3.blk h2 b2 (by decide) (by decide)
  obtain ⟨v3, h3, f3, g3⟩ := WPost.trans f2 g2 x3
  clear x3 b2 f2 g2 h2
  go_wp2_with fail
  refine (wBytes_ok h3 _ 32 32 s.tg hs.tg (slot_rd hs b3).2.2 (by simp) (fun g o e _ => by cases e; exact hpg.symm) (by rw [List.length_append, List.length_append, hs.sa, hs.wr, show markS.length = 4 from rfl]; omega)).mono ?_
  rintro e w4 ⟨rfl, x4⟩
  have y4 := WPost.trans f3 g3 x4
  go_wp2_with fail
  go_returns
  exact ⟨rfl, y4⟩

set_option maxHeartbeats 1000000 in
theorem sBlock_encSlot1 (w : World) (g : Nat) (q : List UInt8) (hq : q.length ≤ 512) (hc : ∀ w1 p B v, Fr [] w w1 → w.heap.size ≤ p → w.heap.size ≤ B → Wrt w1 p B v 512 false [] → Calls Try.prog 65 #[.pointer (some ⟨p, 0, none⟩), .pointer (some ⟨g, 0, none⟩)] w1 fun e w' => e = .returned (.tuple #[]) ∧ WPost w1 w' p B v 512 q) :
    Calls Try.prog 64 #[.func (.func 65) #[] #[.pointer (some ⟨g, 0, none⟩)]] w fun e w' => ∃ r, e = .returned (.tuple #[r, .int .i64 0]) ∧ Row w' w.heap.size 5 1 r 512 (bvs (q ++ List.replicate (512 - q.length) 0)) ∧ Fr [] w w' := by
  go_enter Try.func64, Try.ntmps64
  go_wp2_with fail
  have cc := newWriter_any 512 w
  rw [show sizeN 512 = 512 from rfl] at cc
  refine cc.mono ?_
  clear cc
  rintro e w1 ⟨rfl, h1, f1, z1⟩
  go_wp2_with fail
  refine (hc w1 _ _ _ f1 (Nat.le_refl _) (Nat.le_refl _) h1).mono ?_
  rintro e w2 ⟨rfl, v2, h2, f2, g2⟩
  have F2 : Fr [] w w2 := f1.trans f2 (fun i hi => by
    rcases List.mem_cons.1 hi with rfl | hi
    · exact .inr (Nat.le_refl _)
    · exact (own_nil.1 hi).elim)
  go_wp2_with fail
  refine (wDone_ok h2).mono ?_
  rintro e w3 ⟨r, rfl, h3, f3⟩
  go_wp2_with fail
  go_ret2
  exact ⟨r, rfl, h3.mono F2.size, F2.trans_nil f3⟩

/-- EncodeSlot. -/
def EncS (w : World) (s : SlotM) (e : Ending) (w' : World) : Prop :=
  ∃ v, e = .returned (.tuple #[v, .int .i64 (if s.good then 0 else 1)]) ∧ Row w' w.heap.size 5 1 v (if s.good then 512 else 0) (bvs (if s.good then s.bytes else [])) ∧ Fr [] w w'


set_option maxRecDepth 100000 in
set_option maxHeartbeats 1000000 in
theorem encSlot_any (w : World) (s : SlotM) (hs : s.ok) : Calls Try.prog 36 #[.agg s.cells.toArray] w (EncS w s) := by
  cases ha : s.act
  · cases hz : s.eqB zeroS
    · have hg : s.good = false := by simp [SlotM.good, ha, hz]
      have H := Lib.hid hg
      clear hg
      go_enter Try.func36, Try.ntmps36
      go_wp2_with
          (first
            | (refine wpList_boxS rfl rfl s.cells rfl ?_; intro wb hb fb zb; have c0 := hb.cell 0; (rw [show s.cells.toArray[0]? = some (.bool s.act) from rfl, ha] at c0))
            | (refine wpList_ldS stSlot rfl rfl w.heap.size 0 rfl s.cells (SlotM.len hs) hb.range0 ?_)
            | (refine wpList_bld rfl rfl (.agg zeroS.cells.toArray) ?_ ?_; exact slotZero _)
            | (refine wpList_eqS stSlot rfl rfl (by decide) rfl rfl false ((slot_eq hs zeroS_ok _).trans (by rw [hz])) ?_)
            | (at_make; refine wpList_mk1 rfl rfl slB rfl .i64 .i64 _ _ 512 rfl rfl rfl rfl (by omega) ?_; intro w1 g1 g2 g3 g4))
      go_ret2
      refine ⟨_, by rw [H.out]; rfl, by rw [H.out]; exact Row.nil _ _ _ _, fb⟩
    · have hg : s.good = true := by simp [SlotM.good, hz]
      have hby : s.bytes = List.replicate 512 0 := by simp [SlotM.bytes, ha]
      have H := Lib.hid hg
      have H2 := Lib.hid hby
      clear hg hby
      go_enter Try.func36, Try.ntmps36
      go_wp2_with
          (first
            | (refine wpList_boxS rfl rfl s.cells rfl ?_; intro wb hb fb zb; have c0 := hb.cell 0; (rw [show s.cells.toArray[0]? = some (.bool s.act) from rfl, ha] at c0))
            | (refine wpList_ldS stSlot rfl rfl w.heap.size 0 rfl s.cells (SlotM.len hs) hb.range0 ?_)
            | (refine wpList_bld rfl rfl (.agg zeroS.cells.toArray) ?_ ?_; exact slotZero _)
            | (refine wpList_eqS stSlot rfl rfl (by decide) rfl rfl true ((slot_eq hs zeroS_ok _).trans (by rw [hz])) ?_)
            | (at_make; refine wpList_mk1 rfl rfl slB rfl .i64 .i64 _ _ 512 rfl rfl rfl rfl (by omega) ?_; intro w1 g1 g2 g3 g4))
      go_ret2
      refine ⟨_, by rw [H.out]; rfl, ?_, fb.trans_nil g3⟩
      rw [H.out, if_pos rfl, if_pos rfl, H2.out, bvs_replicate]
      rw [zb] at g2
      exact g2.mono (Nat.le_succ _)
  · have hz := 0
    have hg : s.good = true := by simp [SlotM.good, ha]
    have hby : s.bytes = s.body ++ List.replicate 428 0 := by simp [SlotM.bytes, ha]
    have H := Lib.hid hg
    have H2 := Lib.hid hby
    clear hg hby
    go_enter Try.func36, Try.ntmps36
    go_wp2_with
        (first
          | (refine wpList_boxS rfl rfl s.cells rfl ?_; intro wb hb fb zb; have c0 := hb.cell 0; (rw [show s.cells.toArray[0]? = some (.bool s.act) from rfl, ha] at c0))
          | (refine wpList_ldS stSlot rfl rfl w.heap.size 0 rfl s.cells (SlotM.len hs) hb.range0 ?_)
          | (refine wpList_bld rfl rfl (.agg zeroS.cells.toArray) ?_ ?_; exact slotZero _)
          | (refine wpList_eqS stSlot rfl rfl (by decide) rfl rfl true ((slot_eq hs zeroS_ok _).trans (by rw [hz])) ?_)
          | (at_make; refine wpList_mk1 rfl rfl slB rfl .i64 .i64 _ _ 512 rfl rfl rfl rfl (by omega) ?_; intro w1 g1 g2 g3 g4))
    have cc := sBlock_encSlot1 wb w.heap.size s.body (by rw [SlotM.body_len hs]; omega) (fun w1 p B v f _ _ h => encSlot1_ok h hs (hb.keep_nil f))
    refine cc.mono ?_
    clear cc
    rintro e w2 ⟨r, rfl, r2, f2⟩
    go_wp2_with fail
    go_ret2
    refine ⟨_, by rw [H.out]; rfl, ?_, fb.trans_nil f2⟩
    rw [H.out, if_pos rfl, if_pos rfl, H2.out]
    rw [SlotM.body_len hs] at r2
    exact r2.mono fb.size
end
end Go.Proofs.Ytmonedfafechcaa
