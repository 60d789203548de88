/-
  Contracts of layer 12: DecodeSlot.
-/
import Derived.Test.YtmonedfafechcaaSlotC
set_option linter.unusedSimpArgs false
set_option linter.unusedVariables false
set_option linter.unnecessarySimpa false
namespace Go.Proofs.Ytmonedfafechcaa
open Go.RowKit

def decS (l : List UInt8) : Option SlotM :=
  if l.length = 512 then
    if allZ l then some zeroS
    else if l.take 4 = markS ∧ allZ (l.drop 84) = true then some ⟨true, (l.drop 4).take 16, (l.drop 20).take 32, (l.drop 52).take 32⟩
    else none
  else none
theorem decS_ok {l : List UInt8} {s : SlotM} (h : decS l = some s) : s.ok := by
  unfold decS at h
  split at h
  · rename_i hl
    split at h
    · cases h; exact zeroS_ok
    · split at h
      · cases h
        exact ⟨by simp; omega, by simp; omega, by simp; omega⟩
      · cases h
  · cases h
def decV (l : List UInt8) : SlotM := (decS l).getD zeroS
theorem decV_ok (l : List UInt8) : (decV l).ok := by
  unfold decV
  cases h : decS l with
  | none => exact zeroS_ok
  | some s => exact decS_ok h
def DecS (w : World) (l : List UInt8) (e : Ending) (w' : World) : Prop :=
  e = .returned (.tuple #[.agg (decV l).cells.toArray, .int .i64 (if (decS l).isSome then 0 else 110)]) ∧ Fr [] w w'


def actS : SlotM := ⟨true, List.replicate 16 0, List.replicate 32 0, List.replicate 32 0⟩
theorem actS_ok : actS.ok := ⟨rfl, rfl, rfl⟩
set_option maxRecDepth 100000 in
theorem slotAct (w : World) : (Instr.build 60 #[(0, .bool true)]).run Try.prog w = .ok (.agg actS.cells.toArray) w := by kernel_rfl

/-- A field of a slot is written over. -/
theorem set_sa {s : SlotM} (h : s.ok) (q : List UInt8) (hq : q.length = 16) : (s.cells.toArray.toList.take 1 ++ bvs q ++ s.cells.toArray.toList.drop (1 + (bvs q).length)).toArray = ({ s with sa := q } : SlotM).cells.toArray := by
  have e1 : s.cells.toArray.toList.take 1 = [.bool s.act] := rfl
  have e2 : s.cells.toArray.toList.drop (1 + (bvs q).length) = bvs s.wr ++ bvs s.tg := by
    rw [bvs_length, hq]
    show (bvs s.sa ++ _).drop 16 = _
    rw [List.drop_left' (by rw [bvs_length, h.sa])]
  rw [e1, e2]
  rfl
theorem set_wr {s : SlotM} (h : s.ok) (q : List UInt8) (hq : q.length = 32) : (s.cells.toArray.toList.take 17 ++ bvs q ++ s.cells.toArray.toList.drop (17 + (bvs q).length)).toArray = ({ s with wr := q } : SlotM).cells.toArray := by
  have e1 : s.cells.toArray.toList.take 17 = .bool s.act :: bvs s.sa := by
    show Value.bool s.act :: (bvs s.sa ++ _).take 16 = _
    rw [List.take_left' (by rw [bvs_length, h.sa])]
  have e2 : s.cells.toArray.toList.drop (17 + (bvs q).length) = bvs s.tg := by
    rw [bvs_length, hq]
    show (bvs s.sa ++ (bvs s.wr ++ bvs s.tg)).drop 48 = _
    rw [← List.append_assoc, List.drop_left' (by rw [List.length_append, bvs_length, bvs_length, h.sa, h.wr])]
  rw [e1, e2]
  simp [SlotM.cells]
theorem set_tg {s : SlotM} (h : s.ok) (q : List UInt8) (hq : q.length = 32) : (s.cells.toArray.toList.take 49 ++ bvs q ++ s.cells.toArray.toList.drop (49 + (bvs q).length)).toArray = ({ s with tg := q } : SlotM).cells.toArray := by
  have e1 : s.cells.toArray.toList.take 49 = .bool s.act :: (bvs s.sa ++ bvs s.wr) := by
    show Value.bool s.act :: (bvs s.sa ++ (bvs s.wr ++ bvs s.tg)).take 48 = _
    rw [← List.append_assoc, List.take_left' (by rw [List.length_append, bvs_length, bvs_length, h.sa, h.wr])]
  have e2 : s.cells.toArray.toList.drop (49 + (bvs q).length) = [] := List.drop_of_length_le (by rw [bvs_length, hq]; show s.cells.length ≤ _; rw [SlotM.len h]; omega)
  rw [e1, e2]
  simp [SlotM.cells]

set_option maxRecDepth 100000 in
set_option maxHeartbeats 1000000 in
theorem decSlot_any (w : World) (A : Option Addr) (l : List UInt8) (n c : Nat) (hn : l.length = n) (hr : Rd w A (bvs l)) (hA : A = none → n = 0) (hl : n ≤ 140737488355328) :
    Calls Try.prog 39 #[.slice A n c] w (DecS w l) := by
  by_cases h512 : n = 512
  · subst h512
    have HN := Lib.hid hn
    cases hz : allZ l
    · have HZ := Lib.hid hz
      clear hz hn
      go_enter Try.func39, Try.ntmps39
      go_wp2_with
        (first
          | (refine wpList_alS stSlot rfl rfl ?_; intro wb hb fb zb; have ZB := Lib.hid zb; clear zb)
          | (refine wpList_bld rfl rfl (.agg zeroS.cells.toArray) ?_ ?_; exact slotZero _)
          | (refine wpList_stB stSlot rfl rfl w.heap.size rfl zeroS.cells rfl (SlotM.len zeroS_ok) zeroS.ones zeroS.cells (SlotM.len zeroS_ok) hb ?_; intro wc hc fc zc))
      refine (newReader_any A l 512 c wb HN.out (hr.keep_nil fb) hA (by omega)).mono ?_
      rintro e w4 ⟨p4, G4, rfl, x4, f4, z4, g4⟩
      have F4 := fb.trans_nil f4
      have o4 := hb.keep_nil f4
      have q4 := x4.lt
      have z0 := ZB.out
      go_wp2_with fail
      have cc := rDone_any x4
      rw [show doneE l false = 90 by simp [doneE, HZ.out]] at cc
      refine cc.mono ?_
      clear cc
      rintro e w5 ⟨rfl, rfl⟩
      go_wp2_with fail
      refine (rBytes_ok x4 4 (by rw [HN.out]; omega)).mono ?_
      rintro e w5 ⟨v5, rfl, r5, x5, f5⟩
      have E5 := r5.str
      have F5 := F4.trans f5 (fun i hi => .inr (by simp at hi; omega))
      have o5 := o4.keep f5 (by simp; omega)
      have s5 := f5.size
      clear r5 x4 o4 hb
      go_wp2_with
        (first
          | (refine wpList_bld rfl rfl (.agg actS.cells.toArray) ?_ ?_; exact slotAct _)
          | (refine wpList_alS stSlot rfl rfl ?_; intro w6 h6 f6 z6; have Z6 := Lib.hid z6; clear z6; obtain ⟨gs, hgs⟩ : ∃ gs, w5.heap.size = gs := ⟨_, rfl⟩; rw [hgs] at h6; rw [hgs]; have HGS := Lib.hid hgs; clear hgs)
          | (refine wpList_stB stSlot rfl rfl gs rfl actS.cells rfl (SlotM.len actS_ok) actS.ones zeroS.cells (SlotM.len zeroS_ok) h6 ?_; intro w7 h7 f7 z7; have Z7 := Lib.hid z7; clear z7))
      have gw : w.heap.size < gs := by have := HGS.out; have := F5.size; have := o5.lt; omega
      have gp : p4 < gs := by have := HGS.out; omega
      have gG : ∀ g ∈ G4, g < gs := fun g hg => by have := (g4 g hg).2.1; have := HGS.out; omega
      have F7 : Fr [] w w7 := (F5.trans_nil f6).trans f7 (fun i hi => .inr (by simp at hi; omega))
      have x7 := (x5.keep f6 (by simp) (by simp)).keep f7 (by simp; omega) (fun g hg => by have := g4 g hg; have := HGS.out; simp; omega)
      have o7 := (o5.keep_nil f6).keep f7 (by simp; omega)
      have k0 := h7
      have o0 := o7
      have x0 := x7
      have F0 := F7
      clear h7 o7 x7 F7 f7 f6 h6 x5 o5 F5 f5 E5 f4 F4 fb
      try simp only [Act.put, List.setIfInBounds_toArray, List.set_cons_zero, List.set_cons_succ]
      refine wp_region_held_drew (S := fun _ => True) (by kernel_rfl) trivial (fun hHeld => ?_)
      refine take_w 0 (some 21) (v := ?_) rfl rfl (by kernel_rfl) (by kernel_rfl) (by kernel_rfl) (fun _ _ _ h => h) (by rfl) ?_ hHeld ?_
      rotate_left
      · (intro w hSw; (try dsimp only at hSw); go_simp; try with_reducible rfl)
      simp only [Act.put, List.setIfInBounds_toArray, List.set_cons_zero, List.set_cons_succ]
      refine take_w 1 (some 22) (v := ?_) rfl rfl (by kernel_rfl) (by kernel_rfl) (by kernel_rfl) (fun _ _ _ h => h) (by rfl) ?_ hHeld ?_
      rotate_left
      · (intro w hSw; (try dsimp only at hSw); go_simp; try with_reducible rfl)
      simp only [Act.put, List.setIfInBounds_toArray, List.set_cons_zero, List.set_cons_succ]
      refine take_w 2 (some 23) (v := ?_) rfl rfl (by kernel_rfl) (by kernel_rfl) (by kernel_rfl) (fun _ _ _ h => h) (by rfl) ?_ hHeld ?_
      rotate_left
      · (intro w hSw; (try dsimp only at hSw); go_simp; try with_reducible rfl)
      simp only [Act.put, List.setIfInBounds_toArray, List.set_cons_zero, List.set_cons_succ]
      refine take_c 3 rfl (by kernel_rfl) (by rfl) (fun K hK => ?_)
      go_simp
      refine (rBytes_ok (x0.keep ((Fr.refl [] _).drew) (by simp) (by simp)) 16 (by rw [List.length_drop, HN.out]; omega)).mono ?_
      rintro e w7 ⟨v7, rfl, r7, x7, f7⟩
      obtain ⟨A7, cap7, rfl, -, -, rd7, -, -⟩ := r7.shape
      have F7 := F0.drew.trans f7 (fun i hi => .inr (by simp at hi; omega))
      have k7 : Blk w7 gs 60 (SlotM.cells actS).toArray := (k0.keep_nil ((Fr.refl _ _).drew)).keep f7 (by simp; omega)
      have o7 := (o0.keep_nil ((Fr.refl _ _).drew)).keep f7 (by simp; omega)
      refine hK.out _ _ trivial (fun hHeld => ?_)
      clear hK K
      try simp only [Act.put, List.setIfInBounds_toArray, List.set_cons_zero, List.set_cons_succ]
      refine take_cd 4 (some 25) rfl rfl (by kernel_rfl) (by rfl) (fun K hK => wp_cp rfl Try.underlying22 (by kernel_rfl) _ _ 16 16 16 cap7 rfl rfl (bvs ((l.drop 4).take 16)) (by rw [bvs_length, List.length_take, List.length_drop, HN.out]; simp) rd7 (bvs_one _) gs 1 (fun _ => rfl) (SlotM.cells actS).toArray 60 (0, 0) k7 (free_zero _) (by rw [bvs_length, List.length_take, List.length_drop, HN.out, List.size_toArray, SlotM.len actS_ok]; omega) fun w8 c1 c2 => hK _ w8 trivial fun hHeld => ?_)
      clear hK K
      try simp only [Act.put, List.setIfInBounds_toArray, List.set_cons_zero, List.set_cons_succ]
      refine wpAnyH_done (by kernel_rfl) ?_ _
      have k8 : Blk w8 gs 60 _ := c1
      rw [set_sa actS_ok _ (by rw [List.length_take, List.length_drop, HN.out]; rfl)] at k8
      have x8 := x7.keep c2 (by simp; omega) (fun g hg => by have := gG g hg; simp; omega)
      have o8 := o7.keep c2 (by simp; omega)
      have F8 := F7.trans c2 (fun i hi => .inr (by simp at hi; omega))
      rw [List.drop_drop] at x8
      clear x7 F7 k7 o7 f7 c1 c2 rd7 r7 x0 F0 k0 o0
      rename_i w1
      have k1 := k8
      have o1 := o8
      have x1 := x8
      have F1 := F8
      clear k8 o8 x8 F8
      have ok1 : ({ actS with sa := (l.drop 4).take 16 } : SlotM).ok := ⟨by rw [List.length_take, List.length_drop, HN.out]; rfl, rfl, rfl⟩
      generalize hs1 : ({ actS with sa := (l.drop 4).take 16 } : SlotM) = s1 at k1 ok1
      have HS1 := Lib.hid hs1
      clear hs1
      go_wp2_with fail
      refine wp_region_held_drew (S := fun _ => True) (by kernel_rfl) trivial (fun hHeld => ?_)
      refine take_w 0 (some 26) (v := ?_) rfl rfl (by kernel_rfl) (by kernel_rfl) (by kernel_rfl) (fun _ _ _ h => h) (by rfl) ?_ hHeld ?_
      rotate_left
      · (intro w hSw; (try dsimp only at hSw); go_simp; try with_reducible rfl)
      simp only [Act.put, List.setIfInBounds_toArray, List.set_cons_zero, List.set_cons_succ]
      refine take_w 1 (some 27) (v := ?_) rfl rfl (by kernel_rfl) (by kernel_rfl) (by kernel_rfl) (fun _ _ _ h => h) (by rfl) ?_ hHeld ?_
      rotate_left
      · (intro w hSw; (try dsimp only at hSw); go_simp; try with_reducible rfl)
      simp only [Act.put, List.setIfInBounds_toArray, List.set_cons_zero, List.set_cons_succ]
      refine take_w 2 (some 28) (v := ?_) rfl rfl (by kernel_rfl) (by kernel_rfl) (by kernel_rfl) (fun _ _ _ h => h) (by rfl) ?_ hHeld ?_
      rotate_left
      · (intro w hSw; (try dsimp only at hSw); go_simp; try with_reducible rfl)
      simp only [Act.put, List.setIfInBounds_toArray, List.set_cons_zero, List.set_cons_succ]
      refine take_c 3 rfl (by kernel_rfl) (by rfl) (fun K hK => ?_)
      go_simp
      refine (rBytes_ok (x1.keep ((Fr.refl [] _).drew) (by simp) (by simp)) 32 (by rw [List.length_drop, HN.out]; omega)).mono ?_
      rintro e w7 ⟨v7, rfl, r7, x7, f7⟩
      obtain ⟨A7, cap7, rfl, -, -, rd7, -, -⟩ := r7.shape
      have F7 := F1.drew.trans f7 (fun i hi => .inr (by simp at hi; omega))
      have k7 : Blk w7 gs 60 (SlotM.cells s1).toArray := (k1.keep_nil ((Fr.refl _ _).drew)).keep f7 (by simp; omega)
      have o7 := (o1.keep_nil ((Fr.refl _ _).drew)).keep f7 (by simp; omega)
      refine hK.out _ _ trivial (fun hHeld => ?_)
      clear hK K
      try simp only [Act.put, List.setIfInBounds_toArray, List.set_cons_zero, List.set_cons_succ]
      refine take_cd 4 (some 30) rfl rfl (by kernel_rfl) (by rfl) (fun K hK => wp_cp rfl Try.underlying22 (by kernel_rfl) _ _ 32 32 32 cap7 rfl rfl (bvs ((l.drop 20).take 32)) (by rw [bvs_length, List.length_take, List.length_drop, HN.out]; simp) rd7 (bvs_one _) gs 17 (fun _ => rfl) (SlotM.cells s1).toArray 60 (0, 0) k7 (free_zero _) (by rw [bvs_length, List.length_take, List.length_drop, HN.out, List.size_toArray, SlotM.len ok1]; omega) fun w8 c1 c2 => hK _ w8 trivial fun hHeld => ?_)
      clear hK K
      try simp only [Act.put, List.setIfInBounds_toArray, List.set_cons_zero, List.set_cons_succ]
      refine wpAnyH_done (by kernel_rfl) ?_ _
      have k8 : Blk w8 gs 60 _ := c1
      rw [set_wr ok1 _ (by rw [List.length_take, List.length_drop, HN.out]; rfl)] at k8
      have x8 := x7.keep c2 (by simp; omega) (fun g hg => by have := gG g hg; simp; omega)
      have o8 := o7.keep c2 (by simp; omega)
      have F8 := F7.trans c2 (fun i hi => .inr (by simp at hi; omega))
      rw [List.drop_drop] at x8
      clear x7 F7 k7 o7 f7 c1 c2 rd7 r7 x1 F1 k1 o1
      have k2 := k8
      have o2 := o8
      have x2 := x8
      have F2 := F8
      clear k8 o8 x8 F8
      have ok2 : ({ s1 with wr := (l.drop 20).take 32 } : SlotM).ok := ⟨ok1.sa, by rw [List.length_take, List.length_drop, HN.out]; rfl, ok1.tg⟩
      generalize hs2 : ({ s1 with wr := (l.drop 20).take 32 } : SlotM) = s2 at k2 ok2
      have HS2 := Lib.hid hs2
      clear hs2
      go_wp2_with fail
      refine wp_region_held_drew (S := fun _ => True) (by kernel_rfl) trivial (fun hHeld => ?_)
      refine take_w 0 (some 31) (v := ?_) rfl rfl (by kernel_rfl) (by kernel_rfl) (by kernel_rfl) (fun _ _ _ h => h) (by rfl) ?_ hHeld ?_
      rotate_left
      · (intro w hSw; (try dsimp only at hSw); go_simp; try with_reducible rfl)
      simp only [Act.put, List.setIfInBounds_toArray, List.set_cons_zero, List.set_cons_succ]
      refine take_w 1 (some 32) (v := ?_) rfl rfl (by kernel_rfl) (by kernel_rfl) (by kernel_rfl) (fun _ _ _ h => h) (by rfl) ?_ hHeld ?_
      rotate_left
      · (intro w hSw; (try dsimp only at hSw); go_simp; try with_reducible rfl)
      simp only [Act.put, List.setIfInBounds_toArray, List.set_cons_zero, List.set_cons_succ]
      refine take_w 2 (some 33) (v := ?_) rfl rfl (by kernel_rfl) (by kernel_rfl) (by kernel_rfl) (fun _ _ _ h => h) (by rfl) ?_ hHeld ?_
      rotate_left
      · (intro w hSw; (try dsimp only at hSw); go_simp; try with_reducible rfl)
      simp only [Act.put, List.setIfInBounds_toArray, List.set_cons_zero, List.set_cons_succ]
      refine take_c 3 rfl (by kernel_rfl) (by rfl) (fun K hK => ?_)
      go_simp
      refine (rBytes_ok (x2.keep ((Fr.refl [] _).drew) (by simp) (by simp)) 32 (by rw [List.length_drop, HN.out]; omega)).mono ?_
      rintro e w7 ⟨v7, rfl, r7, x7, f7⟩
      obtain ⟨A7, cap7, rfl, -, -, rd7, -, -⟩ := r7.shape
      have F7 := F2.drew.trans f7 (fun i hi => .inr (by simp at hi; omega))
      have k7 : Blk w7 gs 60 (SlotM.cells s2).toArray := (k2.keep_nil ((Fr.refl _ _).drew)).keep f7 (by simp; omega)
      have o7 := (o2.keep_nil ((Fr.refl _ _).drew)).keep f7 (by simp; omega)
      refine hK.out _ _ trivial (fun hHeld => ?_)
      clear hK K
      try simp only [Act.put, List.setIfInBounds_toArray, List.set_cons_zero, List.set_cons_succ]
      refine take_cd 4 (some 35) rfl rfl (by kernel_rfl) (by rfl) (fun K hK => wp_cp rfl Try.underlying22 (by kernel_rfl) _ _ 32 32 32 cap7 rfl rfl (bvs ((l.drop 52).take 32)) (by rw [bvs_length, List.length_take, List.length_drop, HN.out]; simp) rd7 (bvs_one _) gs 49 (fun _ => rfl) (SlotM.cells s2).toArray 60 (0, 0) k7 (free_zero _) (by rw [bvs_length, List.length_take, List.length_drop, HN.out, List.size_toArray, SlotM.len ok2]; omega) fun w8 c1 c2 => hK _ w8 trivial fun hHeld => ?_)
      clear hK K
      try simp only [Act.put, List.setIfInBounds_toArray, List.set_cons_zero, List.set_cons_succ]
      refine wpAnyH_done (by kernel_rfl) ?_ _
      have k8 : Blk w8 gs 60 _ := c1
      rw [set_tg ok2 _ (by rw [List.length_take, List.length_drop, HN.out]; rfl)] at k8
      have x8 := x7.keep c2 (by simp; omega) (fun g hg => by have := gG g hg; simp; omega)
      have o8 := o7.keep c2 (by simp; omega)
      have F8 := F7.trans c2 (fun i hi => .inr (by simp at hi; omega))
      rw [List.drop_drop] at x8
      clear x7 F7 k7 o7 f7 c1 c2 rd7 r7 x2 F2 k2 o2
      have ok3 : ({ s2 with tg := (l.drop 52).take 32 } : SlotM).ok := ⟨ok2.sa, ok2.wr, by rw [List.length_take, List.length_drop, HN.out]; rfl⟩
      have hs3 : ({ s2 with tg := (l.drop 52).take 32 } : SlotM) = ⟨true, (l.drop 4).take 16, (l.drop 20).take 32, (l.drop 52).take 32⟩ := by
        have h1 := HS1.out
        have h2 := HS2.out
        rw [← h2, ← h1]
        rfl
      rw [hs3] at k8 ok3
      generalize hs4 : (⟨true, (l.drop 4).take 16, (l.drop 20).take 32, (l.drop 52).take 32⟩ : SlotM) = s4 at k8 ok3
      have HS4 := Lib.hid hs4
      clear hs3 hs4
      have x9 : Rdr 95 w8 p4 G4 (l.drop 84) false := x8
      clear x8
      cases hz8 : allZ (l.drop 84)
      · have hd : decS l = none := by simp [decS, HN.out, HZ.out, hz8]
        have HD := Lib.hid hd
        have cc := rDone_any x9
        rw [show doneE (l.drop 84) false = 90 by simp [doneE, hz8]] at cc
        clear hd hz8
        go_wp2_with fail
        refine cc.mono ?_
        rintro e w9 ⟨rfl, rfl⟩
        go_wp2_with
          (first
            | (refine wpList_bld rfl rfl (.agg zeroS.cells.toArray) ?_ ?_; exact slotZero _)
            | (refine wpList_ldS stSlot rfl rfl gs 0 rfl s4.cells (SlotM.len ok3) k8.range0 ?_)
            | (refine wpList_stB stSlot rfl rfl w.heap.size rfl zeroS.cells rfl (SlotM.len zeroS_ok) zeroS.ones zeroS.cells (SlotM.len zeroS_ok) o8 ?_; intro wc hc fc zc))
        try simp only [Exit.inBlock, Exit.then]
        refine bodyPost_ret (results_cell2 stSlot rfl rfl (SlotM.len (by first | exact zeroS_ok | exact ok3)) hc) rfl ?_
        exact ⟨by simp only [decV, HD.out]; rfl, F8.trans fc (fun i hi => .inr (by simp at hi; omega))⟩
      · by_cases hm : l.take 4 = markS
        · have hd : decS l = some s4 := by simp only [decS, HN.out, HZ.out, hz8, hm]; rw [← HS4.out]; simp
          have HD := Lib.hid hd
          have cc := rDone_any x9
          rw [show doneE (l.drop 84) false = 0 by simp [doneE, hz8]] at cc
          clear hd hz8
          rw [show (l.take 4).toArray = #[83, 76, 79, 84] by rw [hm]; rfl]
          clear hm
          go_wp2_with fail
          refine cc.mono ?_
          rintro e w9 ⟨rfl, rfl⟩
          go_wp2_with
            (first
              | (refine wpList_bld rfl rfl (.agg zeroS.cells.toArray) ?_ ?_; exact slotZero _)
              | (refine wpList_ldS stSlot rfl rfl gs 0 rfl s4.cells (SlotM.len ok3) k8.range0 ?_)
              | (refine wpList_stB stSlot rfl rfl w.heap.size rfl s4.cells rfl (SlotM.len ok3) s4.ones zeroS.cells (SlotM.len zeroS_ok) o8 ?_; intro wc hc fc zc))
          try simp only [Exit.inBlock, Exit.then]
          refine bodyPost_ret (results_cell2 stSlot rfl rfl (SlotM.len (by first | exact zeroS_ok | exact ok3)) hc) rfl ?_
          exact ⟨by simp only [decV, HD.out]; rfl, F8.trans fc (fun i hi => .inr (by simp at hi; omega))⟩
        · have hd : decS l = none := by simp [decS, HN.out, HZ.out, hz8, hm]
          have HD := Lib.hid hd
          have cc := rDone_any x9
          rw [show doneE (l.drop 84) false = 0 by simp [doneE, hz8]] at cc
          clear hd hz8
          have hmb : (l.take 4 == [83, 76, 79, 84]) = false := by rw [beq_eq_false_iff_ne]; exact hm
          clear hm
          go_wp2_with fail
          refine cc.mono ?_
          rintro e w9 ⟨rfl, rfl⟩
          go_wp2_with
            (first
              | (refine wpList_bld rfl rfl (.agg zeroS.cells.toArray) ?_ ?_; exact slotZero _)
              | (refine wpList_ldS stSlot rfl rfl gs 0 rfl s4.cells (SlotM.len ok3) k8.range0 ?_)
              | (refine wpList_stB stSlot rfl rfl w.heap.size rfl zeroS.cells rfl (SlotM.len zeroS_ok) zeroS.ones zeroS.cells (SlotM.len zeroS_ok) o8 ?_; intro wc hc fc zc))
          try simp only [Exit.inBlock, Exit.then]
          refine bodyPost_ret (results_cell2 stSlot rfl rfl (SlotM.len (by first | exact zeroS_ok | exact ok3)) hc) rfl ?_
          exact ⟨by simp only [decV, HD.out]; rfl, F8.trans fc (fun i hi => .inr (by simp at hi; omega))⟩
    · have hd : decS l = some zeroS := by simp [decS, hn, hz]
      have HD := Lib.hid hd
      have HZ := Lib.hid hz
      clear hz hn hd
      go_enter Try.func39, Try.ntmps39
      go_wp2_with
        (first
          | (refine wpList_alS stSlot rfl rfl ?_; intro wb hb fb zb; have ZB := Lib.hid zb; clear zb)
          | (refine wpList_bld rfl rfl (.agg zeroS.cells.toArray) ?_ ?_; exact slotZero _)
          | (refine wpList_stB stSlot rfl rfl w.heap.size rfl zeroS.cells rfl (SlotM.len zeroS_ok) zeroS.ones zeroS.cells (SlotM.len zeroS_ok) hb ?_; intro wc hc fc zc))
      refine (newReader_any A l 512 c wb HN.out (hr.keep_nil fb) hA (by omega)).mono ?_
      rintro e w4 ⟨p4, G4, rfl, x4, f4, z4, g4⟩
      have F4 := fb.trans_nil f4
      have o8 := hb.keep_nil f4
      have z0 := ZB.out
      go_wp2_with fail
      have cc := rDone_any x4
      rw [show doneE l false = 0 by simp [doneE, HZ.out]] at cc
      refine cc.mono ?_
      clear cc
      rintro e w5 ⟨rfl, rfl⟩
      go_wp2_with
        (first
          | (refine wpList_bld rfl rfl (.agg zeroS.cells.toArray) ?_ ?_; exact slotZero _)
          | (refine wpList_stB stSlot rfl rfl w.heap.size rfl zeroS.cells rfl (SlotM.len zeroS_ok) zeroS.ones zeroS.cells (SlotM.len zeroS_ok) o8 ?_; intro wc hc fc zc))
      try simp only [Exit.inBlock, Exit.then]
      refine bodyPost_ret (results_cell2 stSlot rfl rfl (SlotM.len zeroS_ok) hc) rfl ?_
      exact ⟨by simp only [decV, HD.out]; rfl, F4.trans fc (fun i hi => .inr (by simp at hi; omega))⟩
  · have hd : decS l = none := by simp [decS]; omega
    have HD := Lib.hid hd
    have d : ((n : Int) == 512) = false := by rw [beq_eq_false_iff_ne]; omega
    go_enter Try.func39, Try.ntmps39
    go_wp2_with
      (first
        | (refine wpList_alS stSlot rfl rfl ?_; intro wb hb fb zb; have ZB := Lib.hid zb; clear zb)
        | (refine wpList_bld rfl rfl (.agg zeroS.cells.toArray) ?_ ?_; exact slotZero _)
        | (refine wpList_stB stSlot rfl rfl w.heap.size rfl zeroS.cells rfl (SlotM.len zeroS_ok) zeroS.ones zeroS.cells (SlotM.len zeroS_ok) hb ?_; intro wc hc fc zc))
    try simp only [Exit.inBlock, Exit.then]
    refine bodyPost_ret (results_cell2 stSlot rfl rfl (SlotM.len zeroS_ok) hc) rfl ?_
    refine ⟨by simp only [decV, HD.out]; rfl, fb.trans fc (fun i hi => .inr (by simp at hi; omega))⟩
end Go.Proofs.Ytmonedfafechcaa
