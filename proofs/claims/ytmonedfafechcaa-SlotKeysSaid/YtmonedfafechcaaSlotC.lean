/-
  Contracts of layer 12: the reference's EncodeSlot.
-/
import Derived.Test.YtmonedfafechcaaSlotB
set_option linter.unusedSimpArgs false
set_option linter.unusedVariables false
set_option linter.unnecessarySimpa false
namespace Go.Proofs.Ytmonedfafechcaa
open Go.RowKit

section
variable {w w' : World}

/-- fill: zeros up to 512. -/
theorem fill12_any {B : Nat} {v : Value} {q : List UInt8} (h : Row w B 5 1 v q.length (bvs q)) (hq : q.length ≤ 512) (hB : B ≤ w.heap.size) :
    Calls Try.prog 66 #[v] w fun e w' => ∃ r, e = .returned r ∧ Row w' B 5 1 r 512 (bvs (q ++ List.replicate (512 - q.length) 0)) ∧ Fr v.ownBlock.toList w w' := by
  obtain ⟨A, cap, rfl, -, -, -, -, -⟩ := h.shape
  go_enter Try.func66, Try.ntmps66
  go_wp2_with (at_builtin; refine wpList_appz rfl rfl slB rfl rfl Try.underlying3 B _ q.length (bvs q) rfl h .i64 (512 - q.length) _ rfl (by omega) (by omega) hB ?_; intro v2 w2 g1 g2 g3)
  go_ret
  refine ⟨_, rfl, ?_, g2⟩
  rw [bvs_append, bvs_replicate]
  rw [show q.length + (512 - q.length) = 512 by omega] at g1
  exact g1

set_option maxRecDepth 100000 in
set_option maxHeartbeats 1000000 in
theorem xEncSlot_any (w : World) (s : SlotM) (hs : s.ok) : Calls Try.prog 37 #[.agg s.cells.toArray] w (EncS w s) := by
  cases ha : s.act
  · cases hz : s.eqB zeroS
    · have hg : s.good = false := by simp [SlotM.good, ha, hz]
      have H := Lib.hid hg
      clear hg
      go_enter Try.func37, Try.ntmps37
      go_wp2_with
          (first
            | (refine wpList_boxS rfl rfl s.cells rfl ?_; intro wb hb fb zb; have c0 := hb.cell 0; (rw [show s.cells.toArray[0]? = some (.bool s.act) from rfl, ha] at c0))
            | (refine wpList_ldS stSlot rfl rfl w.heap.size 0 rfl s.cells (SlotM.len hs) hb.range0 ?_)
            | (refine wpList_bld rfl rfl (.agg zeroS.cells.toArray) ?_ ?_; exact slotZero _)
            | (refine wpList_eqS stSlot rfl rfl (by decide) rfl rfl false ((slot_eq hs zeroS_ok _).trans (by rw [hz])) ?_)
            | (at_make; refine wpList_mk1 rfl rfl slB rfl .i64 .i64 _ _ 512 rfl rfl rfl rfl (by omega) ?_; intro w1 g1 g2 g3 g4))
      go_ret2
      refine ⟨_, by rw [H.out]; rfl, by rw [H.out]; exact Row.nil _ _ _ _, fb⟩
    · have hg : s.good = true := by simp [SlotM.good, hz]
      have hby : s.bytes = List.replicate 512 0 := by simp [SlotM.bytes, ha]
      have H := Lib.hid hg
      have H2 := Lib.hid hby
      clear hg hby
      go_enter Try.func37, Try.ntmps37
      go_wp2_with
          (first
            | (refine wpList_boxS rfl rfl s.cells rfl ?_; intro wb hb fb zb; have c0 := hb.cell 0; (rw [show s.cells.toArray[0]? = some (.bool s.act) from rfl, ha] at c0))
            | (refine wpList_ldS stSlot rfl rfl w.heap.size 0 rfl s.cells (SlotM.len hs) hb.range0 ?_)
            | (refine wpList_bld rfl rfl (.agg zeroS.cells.toArray) ?_ ?_; exact slotZero _)
            | (refine wpList_eqS stSlot rfl rfl (by decide) rfl rfl true ((slot_eq hs zeroS_ok _).trans (by rw [hz])) ?_)
            | (at_make; refine wpList_mk1 rfl rfl slB rfl .i64 .i64 _ _ 512 rfl rfl rfl rfl (by omega) ?_; intro w1 g1 g2 g3 g4))
      go_ret2
      refine ⟨_, by rw [H.out]; rfl, ?_, fb.trans_nil g3⟩
      rw [H.out, if_pos rfl, if_pos rfl, H2.out, bvs_replicate]
      rw [zb] at g2
      exact g2.mono (Nat.le_succ _)
  · have hz := 0
    have hg : s.good = true := by simp [SlotM.good, ha]
    have hby : s.bytes = s.body ++ List.replicate 428 0 := by simp [SlotM.bytes, ha]
    have H := Lib.hid hg
    have H2 := Lib.hid hby
    clear hg hby
    have kc := fun (w : World) (C : Array Value) (n c : Nat) => Lib.run_convert_bytes_const (P := Try.prog) w 22 5 C n c Try.underlying22 Try.underlying5
    go_enter Try.func37, Try.ntmps37
    go_wp2_with
      (first
        | (refine wpList_boxS rfl rfl s.cells rfl ?_; intro wb hb fb zb; have ZB := Lib.hid zb; clear zb; have c0 := hb.cell 0; (rw [show s.cells.toArray[0]? = some (.bool s.act) from rfl, ha] at c0); have rm := Row.new wb (bvs markS).toArray 5 1 4 (4, 5) (free_end _ _) (by unfold maxLen; omega) rfl (Nat.le_refl _); have rb := (slot_rd hs (hb.keep_nil ((Fr.refl _ _).alloc (.cells (bvs markS).toArray 5 (4, 5))))).1)
        | (at_builtin; refine wpList_app rfl rfl slB wb.heap.size _ 4 (bvs markS) rfl rm _ 16 16 (bvs s.sa) rfl (by rw [bvs_length, hs.sa]) rb (bvs_one _) (by simp) (by omega) (by simp) ?_; intro v1 w1 q1 q2 q3 q4))
    rw [show bvs markS ++ bvs s.sa = bvs (markS ++ s.sa) from (bvs_append _ _).symm] at q1
    have f1 : Fr [] w w1 := (fb.alloc _).trans q2 (fun i hi => by have := own_mem.1 hi; have := fb.size; exact .inr (by omega))
    have n1 : ∀ g, v1.ownBlock = some g → g ≠ w.heap.size := fun g hg => by have := q1.lt g hg; have := ZB.out; omega
    have b1 : Blk w1 w.heap.size 60 s.cells.toArray := (hb.keep_nil ((Fr.refl _ _).alloc _)).keep q2 (fun hm => by have := own_mem.1 hm; have := ZB.out; omega)
    have s1 : wb.heap.size ≤ w1.heap.size := by have := q2.size; simp at this; omega
    clear q2 q3 q4 rm rb c0 kc
    obtain ⟨A1, cap1, rfl, -, -, -, -, -⟩ := q1.shape
    refine wp_region_held_drew (S := fun _ => True) (by kernel_rfl) trivial (fun hHeld => ?_)
    refine take_w 0 (some 17) (v := ?_) rfl rfl (by kernel_rfl) (by kernel_rfl) (by kernel_rfl) (fun _ _ _ h => h) (by rfl) ?_ hHeld ?_
    rotate_left
    · (intro w hSw; (try dsimp only at hSw); go_simp; try with_reducible rfl)
    simp only [Act.put, List.setIfInBounds_toArray, List.set_cons_zero, List.set_cons_succ]
    refine take_w 1 (some 18) (v := ?_) rfl rfl (by kernel_rfl) (by kernel_rfl) (by kernel_rfl) (fun _ _ _ h => h) (by rfl) ?_ hHeld ?_
    rotate_left
    · (intro w hSw; (try dsimp only at hSw); go_simp; try with_reducible rfl)
    simp only [Act.put, List.setIfInBounds_toArray, List.set_cons_zero, List.set_cons_succ]
    refine take_w 2 (some 19) (v := ?_) rfl rfl (by kernel_rfl) (by kernel_rfl) (by kernel_rfl) (fun _ _ _ h => h) (by rfl) ?_ hHeld ?_
    rotate_left
    · (intro w hSw; (try dsimp only at hSw); go_simp; try with_reducible rfl)
    simp only [Act.put, List.setIfInBounds_toArray, List.set_cons_zero, List.set_cons_succ]
    refine take_w 4 (some 21) (v := ?_) rfl rfl (by kernel_rfl) (by kernel_rfl) (by kernel_rfl) (fun _ _ _ h => h) (by rfl) ?_ hHeld ?_
    rotate_left
    · (intro w hSw; (try dsimp only at hSw); go_simp; try with_reducible rfl)
    simp only [Act.put, List.setIfInBounds_toArray, List.set_cons_zero, List.set_cons_succ]
    refine take_w 5 (some 22) (v := ?_) rfl rfl (by kernel_rfl) (by kernel_rfl) (by kernel_rfl) (fun _ _ _ h => h) (by rfl) ?_ hHeld ?_
    rotate_left
    · (intro w hSw; (try dsimp only at hSw); go_simp; try with_reducible rfl)
    simp only [Act.put, List.setIfInBounds_toArray, List.set_cons_zero, List.set_cons_succ]
    refine take_cd 3 (some 20) rfl rfl (by kernel_rfl) (by rfl) (fun K hK => wp_app rfl slB wb.heap.size _ 20 (bvs (markS ++ s.sa)) rfl (q1.keep_nil ((Fr.refl _ _).drew)) _ 32 32 (bvs s.wr) rfl (by rw [bvs_length, hs.wr]) ((slot_rd hs (b1.keep_nil ((Fr.refl _ _).drew))).2.1) (bvs_one _) (by simp) (by omega) s1 fun v2 w2 r1 r2 r3 r4 => hK v2 w2 trivial fun hHeld => ?_)
    clear hK K
    try simp only [Act.put, List.setIfInBounds_toArray, List.set_cons_zero, List.set_cons_succ]
    rw [← bvs_append] at r1
    have F2 : Fr [] w w2 := f1.drew.trans r2 (fun i hi => by have := (q1.lt i (mem_own.1 hi)).1; have := fb.size; exact .inr (by omega))
    have b2 : Blk w2 w.heap.size 60 s.cells.toArray := (b1.keep_nil ((Fr.refl _ _).drew)).keep r2 (fun hm => n1 _ (mem_own.1 hm) rfl)
    have s2 : wb.heap.size ≤ w2.heap.size := by have := r2.size; simp at this; omega
    have n2 : ∀ g, v2.ownBlock = some g → g ≠ w.heap.size := fun g hg => by have := r1.lt g hg; have := ZB.out; omega
    clear r2 r3 r4 q1 b1 n1 f1 s1
    obtain ⟨A2, cap2, rfl, -, -, -, -, -⟩ := r1.shape
    refine take_cd 6 (some 23) rfl rfl (by kernel_rfl) (by rfl) (fun K hK => wp_app rfl slB wb.heap.size _ 52 (bvs (markS ++ s.sa ++ s.wr)) rfl r1 _ 32 32 (bvs s.tg) rfl (by rw [bvs_length, hs.tg]) ((slot_rd hs b2).2.2) (bvs_one _) (by simp) (by omega) s2 fun v3 w3 p1 p2 p3 p4 => hK v3 w3 trivial fun hHeld => ?_)
    clear hK K
    try simp only [Act.put, List.setIfInBounds_toArray, List.set_cons_zero, List.set_cons_succ]
    rw [← bvs_append, show markS ++ s.sa ++ s.wr ++ s.tg = s.body from rfl] at p1
    have F3 : Fr [] w w3 := F2.trans p2 (fun i hi => by have := (r1.lt i (mem_own.1 hi)).1; have := fb.size; exact .inr (by omega))
    have s3 : wb.heap.size ≤ w3.heap.size := by have := p2.size; omega
    clear p2 p3 p4 r1 b2 n2 F2 s2
    obtain ⟨A3, cap3, rfl, -, -, -, -, -⟩ := p1.shape
    have hl := SlotM.body_len hs
    have p1' := p1
    rw [show 52 + 32 = s.body.length by omega] at p1
    refine take_c 7 rfl (by kernel_rfl) (by rfl) (fun K hK => ?_)
    go_simp
    rw [show (84 : Nat) = s.body.length by omega]
    refine (fill12_any p1 (by omega) s3).mono ?_
    rintro e w4 ⟨r, rfl, t1, t2⟩
    obtain ⟨A4, cap4, rfl, -, -, -, -, -⟩ := t1.shape
    refine hK.out _ _ trivial (fun hHeld => ?_)
    clear hK K
    try simp only [Act.put, List.setIfInBounds_toArray, List.set_cons_zero, List.set_cons_succ]
    refine take_w 8 (some 2) (v := ?_) rfl rfl (by kernel_rfl) (by kernel_rfl) (by kernel_rfl) (fun _ _ _ h => h) (by rfl) ?_ hHeld ?_
    rotate_left
    · (intro w hSw; (try dsimp only at hSw); go_simp; try with_reducible rfl)
    simp only [Act.put, List.setIfInBounds_toArray, List.set_cons_zero, List.set_cons_succ]
    refine take_w 9 (some 3) (v := ?_) rfl rfl (by kernel_rfl) (by kernel_rfl) (by kernel_rfl) (fun _ _ _ h => h) (by rfl) ?_ hHeld ?_
    rotate_left
    · (intro w hSw; (try dsimp only at hSw); go_simp; try with_reducible rfl)
    simp only [Act.put, List.setIfInBounds_toArray, List.set_cons_zero, List.set_cons_succ]
    refine wpAnyH_done (by kernel_rfl) ?_ _
    go_wp2_with fail
    go_ret2
    refine ⟨_, by rw [H.out]; rfl, ?_, F3.trans t2 (fun i hi => by have := (p1.lt i (mem_own.1 hi)).1; have := fb.size; exact .inr (by omega))⟩
    rw [H.out, if_pos rfl, if_pos rfl, H2.out]
    rw [hl] at t1
    exact t1.mono fb.size
end
end Go.Proofs.Ytmonedfafechcaa
