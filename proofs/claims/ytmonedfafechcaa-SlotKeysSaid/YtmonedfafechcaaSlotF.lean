/-
  Contracts of layer 12: the reference's DecodeSlot, the walk.
-/
import Derived.Test.YtmonedfafechcaaSlotE
import Derived.Deep.LoopGhost
set_option linter.unusedSimpArgs false
set_option linter.unusedVariables false
set_option linter.unnecessarySimpa false
namespace Go.Proofs.Ytmonedfafechcaa
open Go.RowKit

set_option maxRecDepth 100000 in
set_option maxHeartbeats 8000000 in
theorem xDecSlot_any (w : World) (A : Option Addr) (l : List UInt8) (n c : Nat) (hn : l.length = n) (hr : Rd w A (bvs l)) (hA : A = none → n = 0) (hl : n ≤ 140737488355328) :
    Calls Try.prog 40 #[.slice A n c] w (DecS w l) := by
  by_cases h512 : n = 512
  · subst h512
    obtain ⟨g, o, rfl, hcell⟩ := hr.byte (k := 0) (by omega)
    go_enter Try.func40, Try.ntmps40
    go_upto_region 3 with
      (first
        | (refine wpList_alS stSlot rfl rfl ?_; intro wb hb fb zb; have ZB := Lib.hid zb; clear zb)
        | (refine wpList_bld rfl rfl (.agg zeroS.cells.toArray) ?_ ?_; exact slotZero _)
        | (refine wpList_stB stSlot rfl rfl w.heap.size rfl zeroS.cells rfl (SlotM.len zeroS_ok) zeroS.ones zeroS.cells (SlotM.len zeroS_ok) hb ?_; intro wc hc fc zc))
    go_upto_region 4 with
      (first
        | (refine wpList_alS stSlot rfl rfl ?_; intro w1 h1 f1 z1; have Z1 := Lib.hid z1; clear z1; obtain ⟨gs, hgs⟩ : ∃ gs, wb.heap.size = gs := ⟨_, rfl⟩; rw [hgs] at h1; rw [hgs]; have HGS := Lib.hid hgs; clear hgs)
        | (refine wpList_bld rfl rfl (.agg zeroS.cells.toArray) ?_ ?_; exact slotZero _)
        | (refine wpList_stB stSlot rfl rfl gs rfl zeroS.cells rfl (SlotM.len zeroS_ok) zeroS.ones zeroS.cells (SlotM.len zeroS_ok) h1 ?_; intro w2 h2 f2 z2; have Z2 := Lib.hid z2; clear z2; have F2 : Fr [] w w2 := (fb.trans_nil f1).trans f2 (fun i hi => by have := HGS.out; have := fb.size; exact .inr (by simp at hi; omega)); have c0 := F2.cell (p := ⟨g, o + 0, none⟩) (by simp) (hcell 0 (by omega)); rw [Nat.add_zero] at c0))
    have gw : w.heap.size < gs := by have := HGS.out; have := hb.lt; omega
    have ob := (hb.keep_nil f1).keep f2 (by simp; omega)
    have lw : 512 ≤ l.length := by omega
    clear h1 f1 f2 fb hb
    try simp only [Act.put, List.setIfInBounds_toArray, List.set_cons_zero, List.set_cons_succ]
    have q16 : ((l.drop 4).take 16).length = 16 := by rw [List.length_take, List.length_drop, hn]; rfl
    have q32 : ((l.drop 20).take 32).length = 32 := by rw [List.length_take, List.length_drop, hn]; rfl
    have r32 : ((l.drop 52).take 32).length = 32 := by rw [List.length_take, List.length_drop, hn]; rfl
    by_cases h0 : l[0] = 0
    · have hd := decS_not hn h0
      rw [h0] at c0
      have HG := Lib.hid (show zeroS.good = true from rfl)
      go_wp2_with
        (first
          | (refine wpList_ldS stSlot rfl rfl gs 0 rfl (zeroS).cells (SlotM.len zeroS_ok) (h2).range0 ?_))
      refine (xEncSlot_any _ _ zeroS_ok).mono ?_
      rintro e w6 ⟨v6, rfl, r6, f6⟩
      rw [HG.out, if_pos rfl, if_pos rfl] at r6
      have F6 := (F2).trans_nil f6
      have E6 := r6.str
      have E7 := strB w6 (some ⟨g, o, none⟩) l 512 c hn (hr.keep_nil F6) hA
      have k6 := (h2).keep_nil f6
      have o6 := (ob).keep_nil f6
      obtain ⟨A6, cap6, rfl, -, -, -, -, -⟩ := r6.shape
      by_cases hb : (zeroS).bytes = l
      · rw [if_pos hb] at hd
        have HD := Lib.hid hd
        have hmb : ((zeroS).bytes == l) = true := by rw [beq_iff_eq]; exact hb
        clear hb hd
        go_wp2_with
          (first
            | (refine wpList_ldS stSlot rfl rfl gs 0 rfl (zeroS).cells (SlotM.len zeroS_ok) k6.range0 ?_)
            | (refine wpList_stB stSlot rfl rfl w.heap.size rfl (zeroS).cells rfl (SlotM.len zeroS_ok) (zeroS).ones zeroS.cells (SlotM.len zeroS_ok) o6 ?_; intro wc hc fc zc))
        try simp only [Exit.inBlock, Exit.then]
        refine bodyPost_ret (results_cell2 stSlot rfl rfl (SlotM.len zeroS_ok) hc) rfl ?_
        exact ⟨by simp only [decV, HD.out]; rfl, F6.trans fc (fun i hi => .inr (by simp at hi; omega))⟩
      · rw [if_neg hb] at hd
        have HD := Lib.hid hd
        have hmb : ((zeroS).bytes == l) = false := by rw [beq_eq_false_iff_ne]; exact hb
        clear hb hd
        go_wp2_with
          (first
            | (refine wpList_bld rfl rfl (.agg zeroS.cells.toArray) ?_ ?_; exact slotZero _)
            | (refine wpList_stB stSlot rfl rfl w.heap.size rfl zeroS.cells rfl (SlotM.len zeroS_ok) zeroS.ones zeroS.cells (SlotM.len zeroS_ok) o6 ?_; intro wc hc fc zc))
        try simp only [Exit.inBlock, Exit.then]
        refine bodyPost_ret (results_cell2 stSlot rfl rfl (SlotM.len zeroS_ok) hc) rfl ?_
        exact ⟨by simp only [decV, HD.out]; rfl, F6.trans fc (fun i hi => .inr (by simp at hi; omega))⟩
    · have hd := decS_act hn h0
      have hx := u8_ne h0
      have e0 := h2.cell 0
      have fz0 := h2.frozen 0
      rw [show zeroS.cells.toArray[0]? = some (.bool false) from rfl] at e0
      have k2 : Blk (w2.setCell ⟨gs, 0, none⟩ (.bool true)) gs 60 actS.cells.toArray := h2.set_ 0 (.bool true)
      obtain ⟨w3, hw3⟩ : ∃ w3, w2.setCell ⟨gs, 0, none⟩ (.bool true) = w3 := ⟨_, rfl⟩
      rw [hw3] at k2
      have f3 : Fr [gs] w2 w3 := by rw [← hw3]; exact (Fr.refl _ _).setCell (.inl (by simp)) _
      have F3 := F2.trans f3 (fun i hi => .inr (by simp at hi; omega))
      have o3 := ob.keep f3 (by simp; omega)
      have HW3 := Lib.hid hw3
      clear hw3 h2 f3 ob F2
      go_upto_block 0 with fail
      rw [HW3.out]
      clear e0 fz0 hx
      go_wp2_with fail
      go_loopw [5] (fun i wr => ∃ k : Nat, k ≤ 16 ∧ i = .int .i64 k ∧ Blk wr gs 60 (⟨true, pl ((l.drop 4).take 16) k 16, List.replicate 32 0, List.replicate 32 0⟩ : SlotM).cells.toArray ∧ Fr [gs] w3 wr) (fun i _ => 16 - (intOf i).toNat)
      case atStart => exact ⟨0, Nat.zero_le _, rfl, by rw [pl_zero]; exact k2, Fr.refl _ _⟩
      case round =>
        obtain ⟨k, hk, rfl, k3, f3⟩ := hrel
        have F4 := F3.trans f3 (fun i hi => .inr (by simp at hi; omega))
        by_cases hlt : k < 16
        · have c4 := F4.cell (p := ⟨g, o + (4 + k), none⟩) (by simp) (hcell (4 + k) (by omega))
          obtain ⟨v4, e4⟩ := slot_at ⟨pl_len _ k 16 q16 hk, rfl, rfl⟩ k3 (1 + k) (by omega)
          have z4 := k3.frozen (1 + k)
          go_wp2_with fail
          refine ⟨⟨k + 1, by omega, by go_num, slot_sa q16 rfl rfl hlt k3 _ (by simp), f3.setCell (.inl (by simp)) _⟩, by simp [intOf]; omega⟩
        · obtain rfl : k = 16 := by omega
          rw [pl_all _ _ q16] at k3
          have o4 := o3.keep f3 (by simp; omega)
          clear o3 f3 F3 k2
          go_wp2_with fail
          go_loopw [6] (fun i w5 => ∃ k : Nat, k ≤ 32 ∧ i = .int .i64 k ∧ Blk w5 gs 60 (⟨true, (l.drop 4).take 16, pl ((l.drop 20).take 32) k 32, pl ((l.drop 52).take 32) k 32⟩ : SlotM).cells.toArray ∧ Blk w5 w.heap.size 60 zeroS.cells.toArray ∧ Fr [] w w5) (fun i _ => 32 - (intOf i).toNat)
          case atStart => exact ⟨0, Nat.zero_le _, rfl, by rw [pl_zero, pl_zero]; exact k3, o4, F4⟩
          case round =>
            obtain ⟨k, hk, rfl, k5, o5, F5⟩ := hrel
            clear F4 o4 k3
            by_cases hlt : k < 32
            · have c5 := F5.cell (p := ⟨g, o + (20 + k), none⟩) (by simp) (hcell (20 + k) (by omega))
              have d5 := F5.cell (p := ⟨g, o + (52 + k), none⟩) (by simp) (hcell (52 + k) (by omega))
              have ok5 : (⟨true, (l.drop 4).take 16, pl ((l.drop 20).take 32) k 32, pl ((l.drop 52).take 32) k 32⟩ : SlotM).ok := ⟨q16, pl_len _ k 32 q32 hk, pl_len _ k 32 r32 hk⟩
              obtain ⟨v4, e4⟩ := slot_at ok5 k5 (17 + k) (by omega)
              obtain ⟨v5, e5⟩ := slot_at ok5 k5 (49 + k) (by omega)
              have z4 := k5.frozen (17 + k)
              have z5 := k5.frozen (49 + k)
              go_wp2_with fail
              go_region
              have k6 := slot_wt q16 q32 r32 hlt k5 (l[20 + k]'(by omega)) (l[52 + k]'(by omega)) (by simp) (by simp)
              obtain ⟨w6, hw6⟩ : ∃ w6, ((wr.setCell ⟨gs, 17 + k, none⟩ (.int .u8 (l[20 + k]'(by omega)).toNat)).setCell ⟨gs, 49 + k, none⟩ (.int .u8 (l[52 + k]'(by omega)).toNat)).drew = w6 := ⟨_, rfl⟩
              rw [hw6]
              have k7 : Blk w6 gs 60 (⟨true, (l.drop 4).take 16, pl ((l.drop 20).take 32) (k + 1) 32, pl ((l.drop 52).take 32) (k + 1) 32⟩ : SlotM).cells.toArray := by rw [← hw6]; exact k6.keep_nil ((Fr.refl _ _).drew)
              have f7 : Fr [gs] wr w6 := by rw [← hw6]; exact (((Fr.refl [gs] wr).setCell (p := ⟨gs, 17 + k, none⟩) (.inl (by simp)) _).setCell (p := ⟨gs, 49 + k, none⟩) (.inl (by simp)) _).drew
              clear hw6 k6
              go_wp2_with fail
              exact ⟨⟨k + 1, by omega, by go_num, k7, o5.keep f7 (by simp; omega), F5.trans f7 (fun i hi => .inr (by simp at hi; omega))⟩, by simp [intOf]; omega⟩
            · obtain rfl : k = 32 := by omega
              rw [pl_all _ _ q32, pl_all _ _ r32] at k5
              have HG := Lib.hid (show (sOf l).good = true from rfl)
              have okl := sOf_ok hn
              have k8 : Blk wr gs 60 (sOf l).cells.toArray := k5
              clear k5
              go_wp2_with
                (first
                  | (refine wpList_ldS stSlot rfl rfl gs 0 rfl ((sOf l)).cells (SlotM.len okl) (k8).range0 ?_))
              refine (xEncSlot_any _ _ okl).mono ?_
              rintro e w6 ⟨v6, rfl, r6, f6⟩
              rw [HG.out, if_pos rfl, if_pos rfl] at r6
              have F6 := (F5).trans_nil f6
              have E6 := r6.str
              have E7 := strB w6 (some ⟨g, o, none⟩) l 512 c hn (hr.keep_nil F6) hA
              have k6 := (k8).keep_nil f6
              have o6 := (o5).keep_nil f6
              obtain ⟨A6, cap6, rfl, -, -, -, -, -⟩ := r6.shape
              by_cases hb : ((sOf l)).bytes = l
              · rw [if_pos hb] at hd
                have HD := Lib.hid hd
                have hmb : (((sOf l)).bytes == l) = true := by rw [beq_iff_eq]; exact hb
                clear hb hd
                go_wp2_with
                  (first
                    | (refine wpList_ldS stSlot rfl rfl gs 0 rfl ((sOf l)).cells (SlotM.len okl) k6.range0 ?_)
                    | (refine wpList_stB stSlot rfl rfl w.heap.size rfl ((sOf l)).cells rfl (SlotM.len okl) ((sOf l)).ones zeroS.cells (SlotM.len zeroS_ok) o6 ?_; intro wc hc fc zc))
                try simp only [Exit.inBlock, Exit.then]
                refine bodyPost_ret (results_cell2 stSlot rfl rfl (SlotM.len okl) hc) rfl ?_
                exact ⟨by simp only [decV, HD.out]; rfl, F6.trans fc (fun i hi => .inr (by simp at hi; omega))⟩
              · rw [if_neg hb] at hd
                have HD := Lib.hid hd
                have hmb : (((sOf l)).bytes == l) = false := by rw [beq_eq_false_iff_ne]; exact hb
                clear hb hd
                go_wp2_with
                  (first
                    | (refine wpList_bld rfl rfl (.agg zeroS.cells.toArray) ?_ ?_; exact slotZero _)
                    | (refine wpList_stB stSlot rfl rfl w.heap.size rfl zeroS.cells rfl (SlotM.len zeroS_ok) zeroS.ones zeroS.cells (SlotM.len zeroS_ok) o6 ?_; intro wc hc fc zc))
                try simp only [Exit.inBlock, Exit.then]
                refine bodyPost_ret (results_cell2 stSlot rfl rfl (SlotM.len zeroS_ok) hc) rfl ?_
                exact ⟨by simp only [decV, HD.out]; rfl, F6.trans fc (fun i hi => .inr (by simp at hi; omega))⟩
  · have hd : decS l = none := by simp [decS]; omega
    have HD := Lib.hid hd
    have d : ((n : Int) == 512) = false := by rw [beq_eq_false_iff_ne]; omega
    go_enter Try.func40, Try.ntmps40
    go_wp2_with
      (first
        | (refine wpList_alS stSlot rfl rfl ?_; intro wb hb fb zb; have ZB := Lib.hid zb; clear zb)
        | (refine wpList_bld rfl rfl (.agg zeroS.cells.toArray) ?_ ?_; exact slotZero _)
        | (refine wpList_stB stSlot rfl rfl w.heap.size rfl zeroS.cells rfl (SlotM.len zeroS_ok) zeroS.ones zeroS.cells (SlotM.len zeroS_ok) hb ?_; intro wc hc fc zc))
    try simp only [Exit.inBlock, Exit.then]
    refine bodyPost_ret (results_cell2 stSlot rfl rfl (SlotM.len zeroS_ok) hc) rfl ?_
    refine ⟨by simp only [decV, HD.out]; rfl, fb.trans fc (fun i hi => .inr (by simp at hi; omega))⟩
end Go.Proofs.Ytmonedfafechcaa
