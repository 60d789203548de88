/-
  The reference's DecodeKeys, the walk.
-/
import Derived.Test.YtmonedfafechcaaKeysK
import Derived.Deep.LoopGhost
set_option linter.unusedSimpArgs false
set_option linter.unusedVariables false
set_option linter.unnecessarySimpa false
namespace Go.Proofs.Ytmonedfafechcaa
open Go.RowKit

section
theorem hy_bld {P : Program} {o : Oper} {a : Act} {w : World} {t : TypeId} {ps : Array (Nat × Operand)} {ps' : Array (Nat × Value)} (ho : o.op = .build t ps) (he : (ps.map fun (i, x) => (i, a.eval x)) = ps') (v : Value) (hv : (Instr.build t ps').run P w = .ok v w) : (execOp a.eval o).run P w = .ok (.value v) w := by
  unfold execOp
  simp only [ho, he, Sem.run_bind, Sem.run_pure, Result.andThen_ok, hv]
variable {P : Program} {o : Oper} {a : Act} {w : World} {K : Act → World → Prop} {Q : Exit → Act → World → Prop} {t : TypeId} {n : Nat} {z : List Value}
theorem wp_alS (hT : StT P t n z) (ho : o.op = .alloc t)
    (h : ∀ w', Blk w' w.heap.size t z.toArray → Fr [] w w' → w'.heap.size = w.heap.size + 1 → K (a.put o.dst (.pointer (some ⟨w.heap.size, 0, none⟩))) w') : o.wp P a w K Q := by
  refine wp_val (.pointer (some ⟨w.heap.size, 0, none⟩)) (w.alloc (.cells z.toArray t)) ?_ (h _ (Blk.new _ _ _) ((Fr.refl _ _).alloc _) (by simp))
  unfold execOp
  simp [ho, Instr.alloc, hT.zv, newVar, newRow, Value.cells]
theorem wp_stB {x y : Operand} (hT : StT P t n z) (ho : o.op = .store t x y) (g : Nat) (hx : a.eval x = .pointer (some ⟨g, 0, none⟩)) (new : List Value) (hy : a.eval y = .agg new.toArray) (hn : new.length = n) (h1 : ∀ u ∈ new, u.oneCell' = true) (cur : List Value) (hc : cur.length = n) (hb : Blk w g t cur.toArray)
    (h : ∀ w', Blk w' g t new.toArray → Fr [g] w w' → w'.heap.size = w.heap.size → K (a.put o.dst undef) w') : o.wp P a w K Q :=
  wp_stS hT ho g 0 hx new hy hn h1 cur.toArray t (0, 0) hb (free_zero _) (by simp; omega) fun w' h1 h2 h3 => h w' (by
    have e : (cur.toArray.toList.take 0 ++ new ++ cur.toArray.toList.drop (0 + new.length)).toArray = new.toArray := by
      rw [List.take_zero, List.nil_append, Nat.zero_add, List.drop_of_length_le (by rw [hn, ← hc]; exact Nat.le_refl _), List.append_nil]
    rw [e] at h1
    exact h1) h2 h3
end

set_option maxRecDepth 100000 in
set_option maxHeartbeats 8000000 in
theorem xDecKeys_any (w : World) (A : Option Addr) (l : List UInt8) (n c : Nat) (hn : l.length = n) (hr : Rd w A (bvs l)) (hA : A = none → n = 0) (hl : n ≤ 140737488355328) :
    Calls Try.prog 42 #[.slice A n c] w (DecK w l) := by
  by_cases h512 : n = 512
  · subst h512
    obtain ⟨g, o, rfl, hcell⟩ := hr.byte (k := 0) (by omega)
    have hnk := nK_at hn
    have c0 := hcell 4 (by omega)
    rw [← hnk] at c0
    have c1 := c0
    clear hnk
    have HCELL := Lib.hid hcell
    have HN := Lib.hid hn
    clear hcell hn
    by_cases h0 : (nK l : Int) < 1
    · have hd := okK_no (l := l) (.inr (.inl (by omega)))
      have HD := Lib.hid hd
      clear hd
      go_enter Try.func42, Try.ntmps42
      go_wp2_with
        (first
          | (refine wpList_alS stKeys rfl rfl ?_; intro wb hb fb zb; have ZB := Lib.hid zb; clear zb; (try have c0 := fb.cell (p := ⟨g, o + 4, none⟩) (by simp) c0))
          | (refine wpList_bld rfl rfl (.agg (keyC none 0 0 zT).toArray) ?_ ?_; exact keysZero _)
          | (refine wpList_stB stKeys rfl rfl w.heap.size rfl (keyC none 0 0 zT) rfl (keyC_len _ _ _ zT_len) (keyC_ones _ _ _ _) (keyC none 0 0 zT) (keyC_len _ _ _ zT_len) hb ?_; intro wc hc fc zc))
      try simp only [Exit.inBlock, Exit.then]
      refine bodyPost_ret (results_cell2 stKeys rfl rfl (keyC_len _ _ _ zT_len) hc) rfl ?_
      exact DecK.no HD.out (fb.trans fc (fun i hi => .inr (by simp at hi; omega)))
    · by_cases h2 : 2 < (nK l : Int)
      · have hd := okK_no (l := l) (.inr (.inr (by omega)))
        have HD := Lib.hid hd
        clear hd
        go_enter Try.func42, Try.ntmps42
        go_wp2_with
          (first
            | (refine wpList_alS stKeys rfl rfl ?_; intro wb hb fb zb; have ZB := Lib.hid zb; clear zb; (try have c0 := fb.cell (p := ⟨g, o + 4, none⟩) (by simp) c0))
            | (refine wpList_bld rfl rfl (.agg (keyC none 0 0 zT).toArray) ?_ ?_; exact keysZero _)
            | (refine wpList_stB stKeys rfl rfl w.heap.size rfl (keyC none 0 0 zT) rfl (keyC_len _ _ _ zT_len) (keyC_ones _ _ _ _) (keyC none 0 0 zT) (keyC_len _ _ _ zT_len) hb ?_; intro wc hc fc zc))
        try simp only [Exit.inBlock, Exit.then]
        refine bodyPost_ret (results_cell2 stKeys rfl rfl (keyC_len _ _ _ zT_len) hc) rfl ?_
        exact DecK.no HD.out (fb.trans fc (fun i hi => .inr (by simp at hi; omega)))
      · have n1 : 1 ≤ nK l := by omega
        have n2 : nK l ≤ 2 := by omega
        have hw : IntKind.i64.wrap (nK l : Int) = nK l := IntWalk.i64_in _ (by omega)
        go_enter Try.func42, Try.ntmps42
        go_upto_region 3 with
          (first
            | (refine wpList_alS stKeys rfl rfl ?_; intro wb hb fb zb; have ZB := Lib.hid zb; clear zb; (try have c0 := fb.cell (p := ⟨g, o + 4, none⟩) (by simp) c0))
            | (refine wpList_bld rfl rfl (.agg (keyC none 0 0 zT).toArray) ?_ ?_; exact keysZero _)
            | (refine wpList_stB stKeys rfl rfl w.heap.size rfl (keyC none 0 0 zT) rfl (keyC_len _ _ _ zT_len) (keyC_ones _ _ _ _) (keyC none 0 0 zT) (keyC_len _ _ _ zT_len) hb ?_; intro wc hc fc zc))
        go_wp2_with
          (first
            | (refine wpList_alS stKeys rfl rfl ?_; intro w1 h1 f1 z1; have Z1 := Lib.hid z1; clear z1; obtain ⟨gs, hgs⟩ : ∃ gs, wb.heap.size = gs := ⟨_, rfl⟩; rw [hgs] at h1; rw [hgs]; have HGS := Lib.hid hgs; clear hgs)
            | (refine wpList_bld rfl rfl (.agg (keyC none 0 0 zT).toArray) ?_ ?_; exact keysZero _)
            | (refine wpList_stB stKeys rfl rfl gs rfl (keyC none 0 0 zT) rfl (keyC_len _ _ _ zT_len) (keyC_ones _ _ _ _) (keyC none 0 0 zT) (keyC_len _ _ _ zT_len) h1 ?_; intro w2 h2' f2 z2; have Z2 := Lib.hid z2; clear z2))
        have gw : w.heap.size < gs := by have := HGS.out; have := hb.lt; omega
        have F2 : Fr [] w w2 := (fb.trans_nil f1).trans f2 (fun i hi => by have := HGS.out; have := fb.size; exact .inr (by simp at hi; omega))
        have ob := (hb.keep_nil f1).keep f2 (by simp; omega)
        clear h1 f1 f2 fb hb
        go_loopw [5, 6] (fun at_ i wr => ∃ k q : Nat, k ≤ nK l ∧ q = 5 + 68 * k ∧ at_ = .int .i64 q ∧ i = .int .i64 k ∧ ∃ A c, Blk wr gs 68 (keyC A k c zT).toArray ∧ Row wr gs 102 65 (.slice A k c) k (epsC (epsOf (l.drop 5) k)) ∧ Blk wr w.heap.size 68 (keyC none 0 0 zT).toArray ∧ Fr [] w wr) (fun _ i _ => nK l - (intOf i).toNat)
        case atStart => exact ⟨0, 5, Nat.zero_le _, rfl, rfl, rfl, none, 0, h2', Row.nil _ _ _ _, ob, F2⟩
        case round =>
          obtain ⟨k, q, hk, hq, rfl, rfl, A3, c3, k3, r3, o3, F3⟩ := hrel
          have c4 := F3.cell (p := ⟨g, o + 4, none⟩) (by simp) c1
          by_cases hlt : k < nK l
          · have hq3 : q + 68 + 68 ≤ 512 := by omega
            have HQ := Lib.hid hq
            clear hq
            have lq : q + 4 ≤ l.length := by rw [HN.out]; omega
            have e0 := F3.cell (p := ⟨g, o + q, none⟩) (by simp) (HCELL.out q (by omega))
            have e1 := F3.cell (p := ⟨g, o + (q + 1), none⟩) (by simp) (HCELL.out (q + 1) (by omega))
            have e2 := F3.cell (p := ⟨g, o + (q + 2), none⟩) (by simp) (HCELL.out (q + 2) (by omega))
            have e3 := F3.cell (p := ⟨g, o + (q + 3), none⟩) (by simp) (HCELL.out (q + 3) (by omega))
            have hep := leN_at4 lq
            obtain ⟨b0, hb0⟩ : ∃ b : Nat, (l[q]'(by omega)).toNat = b := ⟨_, rfl⟩
            obtain ⟨b1, hb1⟩ : ∃ b : Nat, (l[q + 1]'(by omega)).toNat = b := ⟨_, rfl⟩
            obtain ⟨b2, hb2⟩ : ∃ b : Nat, (l[q + 2]'(by omega)).toNat = b := ⟨_, rfl⟩
            obtain ⟨b3, hb3⟩ : ∃ b : Nat, (l[q + 3]'(by omega)).toNat = b := ⟨_, rfl⟩
            have B0 : b0 < 256 := by rw [← hb0]; exact UInt8.toNat_lt _
            have B1 : b1 < 256 := by rw [← hb1]; exact UInt8.toNat_lt _
            have B2 : b2 < 256 := by rw [← hb2]; exact UInt8.toNat_lt _
            have B3 : b3 < 256 := by rw [← hb3]; exact UInt8.toNat_lt _
            rw [hb0] at e0
            rw [hb1] at e1
            rw [hb2] at e2
            rw [hb3] at e3
            rw [hb0, hb1, hb2, hb3] at hep
            have HEP := Lib.hid hep
            clear hep hb0 hb1 hb2 hb3
            go_wp2_with fail
            have u1 : IntKind.i64.wrap ((q : Int) + 1) = q + 1 := IntWalk.i64_in _ (by omega)
            have u2 : IntKind.i64.wrap ((q : Int) + 2) = q + 2 := IntWalk.i64_in _ (by omega)
            have u3 : IntKind.i64.wrap ((q : Int) + 3) = q + 3 := IntWalk.i64_in _ (by omega)
            have a0 : (q : Int) < 512 := by omega
            have a1 : (q : Int) + 1 < 512 := by omega
            have a2 : (q : Int) + 2 < 512 := by omega
            have a3 : (q : Int) + 3 < 512 := by omega
            have p1 : 0 ≤ (q : Int) + 1 := by omega
            have p2 : 0 ≤ (q : Int) + 2 := by omega
            have p3 : 0 ≤ (q : Int) + 3 := by omega
            have t1 : ((q : Int) + 1).toNat = q + 1 := by omega
            have t2 : ((q : Int) + 2).toNat = q + 2 := by omega
            have t3 : ((q : Int) + 3).toNat = q + 3 := by omega
            have v0 : IntKind.i64.wrap (b0 : Int) = b0 := IntWalk.i64_in _ (by omega)
            have v1 : IntKind.i64.wrap (b1 : Int) = b1 := IntWalk.i64_in _ (by omega)
            have v2 : IntKind.i64.wrap (b2 : Int) = b2 := IntWalk.i64_in _ (by omega)
            have v3 : IntKind.i64.wrap (b3 : Int) = b3 := IntWalk.i64_in _ (by omega)
            refine wp_region_held_drew (S := fun w' => w'.cell? ⟨g, o + q, none⟩ = some (.int .u8 b0) ∧ w'.cell? ⟨g, o + (q + 1), none⟩ = some (.int .u8 b1) ∧ w'.cell? ⟨g, o + (q + 2), none⟩ = some (.int .u8 b2) ∧ w'.cell? ⟨g, o + (q + 3), none⟩ = some (.int .u8 b3)) (by kernel_rfl) ⟨e0, e1, e2, e3⟩ (fun hHeld => ?_)
            refine take_w 0 (some 37) (v := ?_) rfl rfl (by kernel_rfl) (by kernel_rfl) (by kernel_rfl) (fun _ _ _ h => h) (by rfl) ?_ hHeld ?_
            rotate_left
            · (intro w hSw; (try dsimp only at hSw); go_simp; try with_reducible rfl)
            simp only [Act.put, List.setIfInBounds_toArray, List.set_cons_zero, List.set_cons_succ]
            refine take_w 1 (some 38) (v := ?_) rfl rfl (by kernel_rfl) (by kernel_rfl) (by kernel_rfl) (fun _ _ _ h => h) (by rfl) ?_ hHeld ?_
            rotate_left
            · (intro w hSw; (try dsimp only at hSw); go_simp; try with_reducible rfl)
            simp only [Act.put, List.setIfInBounds_toArray, List.set_cons_zero, List.set_cons_succ]
            refine take_w 2 (some 39) (v := ?_) rfl rfl (by kernel_rfl) (by kernel_rfl) (by kernel_rfl) (fun _ _ _ h => h) (by rfl) ?_ hHeld ?_
            rotate_left
            · (intro w hSw; (try dsimp only at hSw); go_simp; try with_reducible rfl)
            simp only [Act.put, List.setIfInBounds_toArray, List.set_cons_zero, List.set_cons_succ]
            refine take_w 3 (some 40) (v := ?_) rfl rfl (by kernel_rfl) (by kernel_rfl) (by kernel_rfl) (fun _ _ _ h => h) (by rfl) ?_ hHeld ?_
            rotate_left
            · (intro w hSw; (try dsimp only at hSw); go_simp; try with_reducible rfl)
            simp only [Act.put, List.setIfInBounds_toArray, List.set_cons_zero, List.set_cons_succ]
            refine take_w 4 (some 41) (v := ?_) rfl rfl (by kernel_rfl) (by kernel_rfl) (by kernel_rfl) (fun _ _ _ h => h) (by rfl) ?_ hHeld ?_
            rotate_left
            · (intro w hSw; (try dsimp only at hSw); go_simp; try with_reducible rfl)
            simp only [Act.put, List.setIfInBounds_toArray, List.set_cons_zero, List.set_cons_succ]
            refine take_w 5 (some 42) (v := ?_) rfl rfl (by kernel_rfl) (by kernel_rfl) (by kernel_rfl) (fun _ _ _ h => h) (by rfl) ?_ hHeld ?_
            rotate_left
            · (intro w hSw; (try dsimp only at hSw); go_simp; try with_reducible rfl)
            simp only [Act.put, List.setIfInBounds_toArray, List.set_cons_zero, List.set_cons_succ]
            refine take_w 6 (some 43) (v := ?_) rfl rfl (by kernel_rfl) (by kernel_rfl) (by kernel_rfl) (fun _ _ _ h => h) (by rfl) ?_ hHeld ?_
            rotate_left
            · (intro w hSw; (try dsimp only at hSw); go_simp; try with_reducible rfl)
            simp only [Act.put, List.setIfInBounds_toArray, List.set_cons_zero, List.set_cons_succ]
            refine take_w 7 (some 44) (v := ?_) rfl rfl (by kernel_rfl) (by kernel_rfl) (by kernel_rfl) (fun _ _ _ h => h) (by rfl) ?_ hHeld ?_
            rotate_left
            · (intro w hSw; (try dsimp only at hSw); go_simp; try with_reducible rfl)
            simp only [Act.put, List.setIfInBounds_toArray, List.set_cons_zero, List.set_cons_succ]
            refine take_w 8 (some 45) (v := ?_) rfl rfl (by kernel_rfl) (by kernel_rfl) (by kernel_rfl) (fun _ _ _ h => h) (by rfl) ?_ hHeld ?_
            rotate_left
            · (intro w hSw; (try dsimp only at hSw); go_simp; try with_reducible rfl)
            simp only [Act.put, List.setIfInBounds_toArray, List.set_cons_zero, List.set_cons_succ]
            refine take_w 9 (some 46) (v := ?_) rfl rfl (by kernel_rfl) (by kernel_rfl) (by kernel_rfl) (fun _ _ _ h => h) (by rfl) ?_ hHeld ?_
            rotate_left
            · (intro w hSw; (try dsimp only at hSw); go_simp; try with_reducible rfl)
            simp only [Act.put, List.setIfInBounds_toArray, List.set_cons_zero, List.set_cons_succ]
            refine take_w 10 (some 47) (v := ?_) rfl rfl (by kernel_rfl) (by kernel_rfl) (by kernel_rfl) (fun _ _ _ h => h) (by rfl) ?_ hHeld ?_
            rotate_left
            · (intro w hSw; (try dsimp only at hSw); go_simp; try with_reducible rfl)
            simp only [Act.put, List.setIfInBounds_toArray, List.set_cons_zero, List.set_cons_succ]
            refine take_w 11 (some 48) (v := ?_) rfl rfl (by kernel_rfl) (by kernel_rfl) (by kernel_rfl) (fun _ _ _ h => h) (by rfl) ?_ hHeld ?_
            rotate_left
            · (intro w hSw; (try dsimp only at hSw); go_simp; try with_reducible rfl)
            simp only [Act.put, List.setIfInBounds_toArray, List.set_cons_zero, List.set_cons_succ]
            refine take_w 12 (some 49) (v := ?_) rfl rfl (by kernel_rfl) (by kernel_rfl) (by kernel_rfl) (fun _ _ _ h => h) (by rfl) ?_ hHeld ?_
            rotate_left
            · (intro w hSw; (try dsimp only at hSw); go_simp; try with_reducible rfl)
            simp only [Act.put, List.setIfInBounds_toArray, List.set_cons_zero, List.set_cons_succ]
            refine take_w 13 (some 50) (v := ?_) rfl rfl (by kernel_rfl) (by kernel_rfl) (by kernel_rfl) (fun _ _ _ h => h) (by rfl) ?_ hHeld ?_
            rotate_left
            · (intro w hSw; (try dsimp only at hSw); go_simp; try with_reducible rfl)
            simp only [Act.put, List.setIfInBounds_toArray, List.set_cons_zero, List.set_cons_succ]
            refine take_w 14 (some 51) (v := ?_) rfl rfl (by kernel_rfl) (by kernel_rfl) (by kernel_rfl) (fun _ _ _ h => h) (by rfl) ?_ hHeld ?_
            rotate_left
            · (intro w hSw; (try dsimp only at hSw); go_simp; try with_reducible rfl)
            simp only [Act.put, List.setIfInBounds_toArray, List.set_cons_zero, List.set_cons_succ]
            refine take_w 15 (some 52) (v := ?_) rfl rfl (by kernel_rfl) (by kernel_rfl) (by kernel_rfl) (fun _ _ _ h => h) (by rfl) ?_ hHeld ?_
            rotate_left
            · (intro w hSw; (try dsimp only at hSw); go_simp; try with_reducible rfl)
            simp only [Act.put, List.setIfInBounds_toArray, List.set_cons_zero, List.set_cons_succ]
            refine take_w 16 (some 53) (v := ?_) rfl rfl (by kernel_rfl) (by kernel_rfl) (by kernel_rfl) (fun _ _ _ h => h) (by rfl) ?_ hHeld ?_
            rotate_left
            · (intro w hSw; (try dsimp only at hSw); go_simp; try with_reducible rfl)
            simp only [Act.put, List.setIfInBounds_toArray, List.set_cons_zero, List.set_cons_succ]
            refine take_w 17 (some 54) (v := ?_) rfl rfl (by kernel_rfl) (by kernel_rfl) (by kernel_rfl) (fun _ _ _ h => h) (by rfl) ?_ hHeld ?_
            rotate_left
            · (intro w hSw; (try dsimp only at hSw); go_simp; try with_reducible rfl)
            simp only [Act.put, List.setIfInBounds_toArray, List.set_cons_zero, List.set_cons_succ]
            refine take_w 18 (some 55) (v := ?_) rfl rfl (by kernel_rfl) (by kernel_rfl) (by kernel_rfl) (fun _ _ _ h => h) (by rfl) ?_ hHeld ?_
            rotate_left
            · (intro w hSw; (try dsimp only at hSw); go_simp; try with_reducible rfl)
            simp only [Act.put, List.setIfInBounds_toArray, List.set_cons_zero, List.set_cons_succ]
            refine take_w 19 (some 56) (v := ?_) rfl rfl (by kernel_rfl) (by kernel_rfl) (by kernel_rfl) (fun _ _ _ h => h) (by rfl) ?_ hHeld ?_
            rotate_left
            · (intro w hSw; (try dsimp only at hSw); go_simp; try with_reducible rfl)
            simp only [Act.put, List.setIfInBounds_toArray, List.set_cons_zero, List.set_cons_succ]
            refine take_w 20 (some 57) (v := ?_) rfl rfl (by kernel_rfl) (by kernel_rfl) (by kernel_rfl) (fun _ _ _ h => h) (by rfl) ?_ hHeld ?_
            rotate_left
            · (intro w hSw; (try dsimp only at hSw); go_simp; try with_reducible rfl)
            simp only [Act.put, List.setIfInBounds_toArray, List.set_cons_zero, List.set_cons_succ]
            refine take_w 21 (some 58) (v := ?_) rfl rfl (by kernel_rfl) (by kernel_rfl) (by kernel_rfl) (fun _ _ _ h => h) (by rfl) ?_ hHeld ?_
            rotate_left
            · (intro w hSw; (try dsimp only at hSw); go_simp; try with_reducible rfl)
            simp only [Act.put, List.setIfInBounds_toArray, List.set_cons_zero, List.set_cons_succ]
            refine take_w 22 (some 59) (v := ?_) rfl rfl (by kernel_rfl) (by kernel_rfl) (by kernel_rfl) (fun _ _ _ h => h) (by rfl) ?_ hHeld ?_
            rotate_left
            · (intro w hSw; (try dsimp only at hSw); go_simp; try with_reducible rfl)
            simp only [Act.put, List.setIfInBounds_toArray, List.set_cons_zero, List.set_cons_succ]
            refine take_w 23 (some 60) (v := ?_) rfl rfl (by kernel_rfl) (by kernel_rfl) (by kernel_rfl) (fun _ _ _ h => h) (by rfl) ?_ hHeld ?_
            rotate_left
            · (intro w hSw; (try dsimp only at hSw); go_simp; try with_reducible rfl)
            simp only [Act.put, List.setIfInBounds_toArray, List.set_cons_zero, List.set_cons_succ]
            refine take_w 24 (some 61) (v := ?_) rfl rfl (by kernel_rfl) (by kernel_rfl) (by kernel_rfl) (fun _ _ _ h => h) (by rfl) ?_ hHeld ?_
            rotate_left
            · (intro w hSw; (try dsimp only at hSw); go_simp; try with_reducible rfl)
            simp only [Act.put, List.setIfInBounds_toArray, List.set_cons_zero, List.set_cons_succ]
            refine take_w 25 (some 62) (v := ?_) rfl rfl (by kernel_rfl) (by kernel_rfl) (by kernel_rfl) (fun _ _ _ h => h) (by rfl) ?_ hHeld ?_
            rotate_left
            · (intro w hSw; (try dsimp only at hSw); go_simp; try with_reducible rfl)
            simp only [Act.put, List.setIfInBounds_toArray, List.set_cons_zero, List.set_cons_succ]
            refine take_w 26 (some 63) (v := ?_) rfl rfl (by kernel_rfl) (by kernel_rfl) (by kernel_rfl) (fun _ _ _ h => h) (by rfl) ?_ hHeld ?_
            rotate_left
            · (intro w hSw; (try dsimp only at hSw); go_simp; try with_reducible rfl)
            simp only [Act.put, List.setIfInBounds_toArray, List.set_cons_zero, List.set_cons_succ]
            refine take_w 27 (some 64) (v := ?_) rfl rfl (by kernel_rfl) (by kernel_rfl) (by kernel_rfl) (fun _ _ _ h => h) (by rfl) ?_ hHeld ?_
            rotate_left
            · (intro w hSw; (try dsimp only at hSw); go_simp; try with_reducible rfl)
            simp only [Act.put, List.setIfInBounds_toArray, List.set_cons_zero, List.set_cons_succ]
            have hy0 : bits .or .i64 (bits .or .i64 (bits .or .i64 (b0 : Int) (IntKind.i64.wrap ((b1 : Int) * 256))) (IntKind.i64.wrap ((b2 : Int) * 65536))) (IntKind.i64.wrap ((b3 : Int) * 16777216)) = ((leN ((l.drop q).take 4) : Nat) : Int) := by rw [HEP.out]; exact or4 b0 b1 b2 b3 B0 B1 B2 B3
            have hyl := leN_take_lt (l.drop q) 4
            rw [show (256 : Nat) ^ 4 = 4294967296 by decide] at hyl
            obtain ⟨y, hy⟩ : ∃ y, leN ((l.drop q).take 4) = y := ⟨_, rfl⟩
            rw [hy] at hy0 hyl
            have oky : (epY y).ok := ⟨by simp only [epY]; omega, by simp only [epY]; omega, rfl⟩
            have HY := Lib.hid hy
            clear hy
            refine take_w 28 (some 65) (v := .int .i64 (y : Int)) rfl rfl (by kernel_rfl) (by kernel_rfl) (by kernel_rfl) (fun _ _ _ h => h) (by rfl) (fun w hSw => ?_) hHeld ?_
            · go_simp
            try simp only [Act.put, List.setIfInBounds_toArray, List.set_cons_zero, List.set_cons_succ]
            refine take_w 29 (some 66) (v := .agg (epY y).cells.toArray) rfl rfl (by kernel_rfl) (by kernel_rfl) (by kernel_rfl) (fun _ _ _ h => h) (by rfl) (fun w hSw => ?_) hHeld ?_
            · refine hy_bld (ps' := #[(0, .int .i64 (y : Int))]) rfl (by kernel_rfl) _ ?_
              exact epBuild y w
            try simp only [Act.put, List.setIfInBounds_toArray, List.set_cons_zero, List.set_cons_succ]
            refine take_c 30 rfl (by kernel_rfl) (by rfl) (fun K hK => ?_)
            refine wp_alS stEp rfl (fun w5 h5 f5 z5 => ?_)
            refine hK.out _ _ ⟨f5.cell (by simp) hHeld.1, f5.cell (by simp) hHeld.2.1, f5.cell (by simp) hHeld.2.2.1, f5.cell (by simp) hHeld.2.2.2⟩ (fun hH2 => ?_)
            clear hK K
            try simp only [Act.put, List.setIfInBounds_toArray, List.set_cons_zero, List.set_cons_succ]
            obtain ⟨ge, hge⟩ : ∃ ge, wr.drew.heap.size = ge := ⟨_, rfl⟩
            rw [hge] at h5
            rw [hge]
            have gew : wr.heap.size = ge := hge
            have gg : g < ge := by have := World.block_lt_of_cell? wr ⟨g, o + q, none⟩ e0; rw [← gew]; exact this
            have gsl : gs < ge := by have := k3.lt; omega
            have HGE := Lib.hid hge
            clear hge
            refine take_c 31 rfl (by kernel_rfl) (by rfl) (fun K hK => ?_)
            refine wp_stB stEp rfl ge rfl (epY y).cells rfl (EpM.len oky) (epY y).ones zeroE.cells (EpM.len ⟨by decide, by decide, rfl⟩) h5 (fun w6 h6 f6 z6 => ?_)
            refine hK.out _ _ ⟨f6.cell (by simp; omega) hH2.1, f6.cell (by simp; omega) hH2.2.1, f6.cell (by simp; omega) hH2.2.2.1, f6.cell (by simp; omega) hH2.2.2.2⟩ (fun hH3 => ?_)
            clear hK K
            try simp only [Act.put, List.setIfInBounds_toArray, List.set_cons_zero, List.set_cons_succ]
            refine wpAnyH_done (by kernel_rfl) ?_ _
            have F6 : Fr [] wr w6 := (((Fr.refl [] wr).drew).trans_nil f5).trans f6 (fun i hi => .inr (by simp at hi; omega))
            have RLT := Lib.hid (show ∀ g, (Value.slice A3 k c3).ownBlock = some g → g < ge from fun g hg => by have := (r3.lt g hg).2; omega)
            have k6 := k3.keep_nil F6
            have r6 := r3.keep_nil F6
            have o6 := o3.keep_nil F6
            have G6 := F3.trans_nil F6
            clear hH2 hH3 hHeld h5 f5 f6 z5 z6 k3 r3 o3 F3 F6 u1 u2 u3 a0 a1 a2 a3 p1 p2 p3 t1 t2 t3 v0 v1 v2 v3 hy0 e0 e1 e2 e3 HEP c4
            have q64 : ((l.drop (q + 4)).take 64).length = 64 := by rw [List.length_take, List.length_drop, HN.out]; omega
            have h6' : Blk w6 ge 102 (⟨y, pl ((l.drop (q + 4)).take 64) 0 64⟩ : EpM).cells.toArray := by rw [pl_zero]; exact h6
            have Q64 := Lib.hid q64
            clear h6 q64
            go_wp2_with fail
            go_loopw [8] (fun i wi => ∃ m : Nat, m ≤ 64 ∧ i = .int .i64 m ∧ Blk wi ge 102 (⟨y, pl ((l.drop (q + 4)).take 64) m 64⟩ : EpM).cells.toArray ∧ Fr [ge] w6 wi) (fun i _ => 64 - (intOf i).toNat)
            case atStart => exact ⟨0, Nat.zero_le _, rfl, h6', Fr.refl _ _⟩
            case round =>
              obtain ⟨m, hm, rfl, h7, f7⟩ := hrel
              have F7 := G6.trans f7 (fun i hi => .inr (by simp at hi; omega))
              by_cases hlm : m < 64
              · have e7 := F7.cell (p := ⟨g, o + (q + 4 + m), none⟩) (by simp) (HCELL.out (q + 4 + m) (by rw [HN.out]; omega))
                obtain ⟨v8, e8⟩ := ep_at (e := ⟨y, pl ((l.drop (q + 4)).take 64) m 64⟩) ⟨oky.lo, oky.hi, pl_len _ m 64 Q64.out hm⟩ h7 (1 + m) (by omega)
                have z8 := h7.frozen (1 + m)
                go_wp2_with fail
                refine ⟨⟨m + 1, by omega, by go_num, ep_wr Q64.out hlm h7 _ (by simp), f7.setCell (.inl (by simp)) _⟩, by simp [intOf]; omega⟩
              · obtain rfl : m = 64 := by omega
                have k7 := k6.keep f7 (by simp; omega)
                have r7 := r6.keep f7 (fun g hg => by have := RLT.out g hg; simp; omega)
                have o7 := o6.keep f7 (by simp; omega)
                rw [pl_all _ _ Q64.out] at h7
                have okE : (⟨y, (l.drop (q + 4)).take 64⟩ : EpM).ok := ⟨oky.lo, oky.hi, Q64.out⟩
                have T : epsC (epsOf (l.drop 5) (k + 1)) = epsC (epsOf (l.drop 5) k) ++ (⟨y, (l.drop (q + 4)).take 64⟩ : EpM).cells := by
                  rw [epsOf_succ, epsC_append, List.drop_drop, ← HQ.out, epOf, HY.out, List.drop_drop]
                  simp [epsC]
                have HT := Lib.hid T
                have c8 := k7.cell 0
                rw [show (keyC A3 k c3 zT).toArray[0]? = some (.slice A3 k c3) from rfl] at c8
                have hqk : q = 5 + 68 * k := HQ.out
                have hk2 : k + 1 ≤ 2 := by omega
                have HQK := Lib.hid hqk
                have nb := r7.ne_blk k7 (by decide)
                have NB := Lib.hid nb
                clear T h6' f7 k6 r6 o6 G6 hqk nb
                go_wp2_with
                  (first
                    | (refine wpList_ldS stEp rfl rfl ge 0 rfl (⟨y, (l.drop (q + 4)).take 64⟩ : EpM).cells (EpM.len okE) h7.range0 ?_)
                    | (refine wpList_bs1 stEp Try.underlying66 (by omega) (by decide) rfl rfl (⟨y, (l.drop (q + 4)).take 64⟩ : EpM).cells rfl (EpM.len okE) ?_; intro w8 b8 f8 z8; have Z8 := Lib.hid z8; clear z8)
                    | (at_builtin; refine wpList_app rfl rfl slEp gs (.slice A3 k c3) k (epsC (epsOf (l.drop 5) k)) rfl (r7.keep_nil f8) _ 1 1 (⟨y, (l.drop (q + 4)).take 64⟩ : EpM).cells rfl (by rw [EpM.len okE]) (Rd.of_blk b8 0 _ (fun j u hu => by rw [Nat.zero_add]; simpa using hu)) (EpM.ones _) (by simp) (by omega) (by have := k7.lt; have := f8.size; omega) ?_; intro v9 w9 q1 q2 q3 q4; have i9 := (k7.keep_nil f8).keep q2 (fun hm => NB.out (mem_own.1 hm)); have e9 := i9.cell 0; (rw [show (keyC A3 k c3 zT).toArray[0]? = some (.slice A3 k c3) from rfl] at e9); have z9 := i9.frozen 0; have q1' := q1; obtain ⟨A9, c9, rfl, -, -, -, -, -⟩ := q1.shape; have o9 := (o7.keep_nil f8).keep q2 (fun hm => by have := (r7.lt _ (mem_own.1 hm)).1; omega); have F9 := (F7.trans_nil f8).trans q2 (fun i hi => .inr (by have := (r7.lt i (mem_own.1 hi)).1; omega)); clear q2 q3 q4))
                refine ⟨⟨k + 1, q + 68, by omega, by have := HQK.out; omega, by go_num, by go_num, A9, c9, i9.set_ 0 _, ?_, ?_, ?_⟩, by simp [intOf]; omega⟩
                · rw [HT.out]
                  exact q1'.keep ((Fr.refl [gs] _).setCell (.inl (by simp)) _) (fun g hg hm => (q1'.ne_blk i9 (by decide)) (by rw [hg]; simp at hm; rw [hm]))
                · exact o9.keep ((Fr.refl [gs] _).setCell (.inl (by simp)) _) (by simp; omega)
                · exact F9.setCell (.inr (by simp; omega)) _
          · obtain rfl : k = nK l := by omega
            have hes : esK l = epsOf (l.drop 5) (nK l) := rfl
            rw [← hes] at r3
            have HQ := Lib.hid hq
            have lt32 : ((l.drop q).take 32).length = 32 := by rw [List.length_take, List.length_drop, HN.out]; omega
            have htg : tgK l = (l.drop q).take 32 := by rw [tgK, ← hq]
            have hq2 : q ≤ 141 := by omega
            rw [← htg] at lt32
            have LT32 := Lib.hid lt32
            have HTG := Lib.hid htg
            have k4 : Blk wr gs 68 (keyC A3 (nK l) c3 (pl (tgK l) 0 32)).toArray := by rw [pl_zero]; exact k3
            clear hes hq htg lt32 k3
            go_wp2_with fail
            go_loopw [9] (fun i wi => ∃ m : Nat, m ≤ 32 ∧ i = .int .i64 m ∧ Blk wi gs 68 (keyC A3 (nK l) c3 (pl (tgK l) m 32)).toArray ∧ Fr [gs] wr wi) (fun i _ => 32 - (intOf i).toNat)
            case atStart => exact ⟨0, Nat.zero_le _, rfl, k4, Fr.refl _ _⟩
            case round =>
              obtain ⟨m, hm, rfl, k5, f5⟩ := hrel
              have F5 := F3.trans f5 (fun i hi => .inr (by simp at hi; omega))
              by_cases hlm : m < 32
              · have e5 := F5.cell (p := ⟨g, o + (q + m), none⟩) (by simp) (HCELL.out (q + m) (by rw [HN.out]; omega))
                obtain ⟨v8, e8⟩ := key_at (pl_len _ m 32 LT32.out hm) k5 (1 + m) (by omega)
                have z8 := k5.frozen (1 + m)
                go_wp2_with fail
                refine ⟨⟨m + 1, by omega, by go_num, key_tw LT32.out hlm k5 _ (by simp [HTG.out]), f5.setCell (.inl (by simp)) _⟩, by simp [intOf]; omega⟩
              · obtain rfl : m = 32 := by omega
                rw [pl_all _ _ LT32.out] at k5
                have hne := r3.ne_blk k4 (by decide)
                have r5 := r3.keep f5 (fun g hg hm => hne (by rw [hg]; simp at hm; rw [hm]))
                have o5 := o3.keep f5 (by simp; omega)
                clear k4 hne f5 F3
                have hok8 : ∀ e ∈ esK l, e.ok := fun e he => (epsOf_fit (l := l.drop 5) (n := nK l) (by rw [List.length_drop, HN.out]; omega) e he).ok
                have hle : (esK l).length = nK l := epsOf_length _ _
                have K5 := r5.kok hle hok8 LT32.out (by omega)
                have EK := Lib.hid (okK_eq HN.out n2)
                have HLE := Lib.hid hle
                clear hle hok8
                go_wp2_with
                  (first
                    | (refine wpList_ldS stKeys rfl rfl gs 0 rfl (keyC A3 (nK l) c3 (tgK l)) (keyC_len _ _ _ LT32.out) k5.range0 ?_))
                have cc := xEncKeys_any _ K5
                unfold EncK at cc
                cases hr8 : rightB (esK l)
                · have hd : okK l = false := by rw [EK.out, hr8]; rfl
                  have HD := Lib.hid hd
                  rw [hr8] at cc
                  clear hd hr8
                  refine cc.mono ?_
                  clear cc
                  rintro e w6 ⟨v6, rfl, r6, f6⟩
                  have o6 := o5.keep_nil f6
                  have F6 := F5.trans_nil f6
                  clear r6 r5 o5 F5 k5 K5
                  go_wp2_with
                    (first
                      | (refine wpList_bld rfl rfl (.agg (keyC none 0 0 zT).toArray) ?_ ?_; exact keysZero _)
                      | (refine wpList_stB stKeys rfl rfl w.heap.size rfl (keyC none 0 0 zT) rfl (keyC_len _ _ _ zT_len) (keyC_ones _ _ _ _) (keyC none 0 0 zT) (keyC_len _ _ _ zT_len) o6 ?_; intro wc hc fc zc))
                  try simp only [Exit.inBlock, Exit.then]
                  refine bodyPost_ret (results_cell2 stKeys rfl rfl (keyC_len _ _ _ zT_len) hc) rfl ?_
                  exact DecK.no HD.out (F6.trans fc (fun i hi => .inr (by simp at hi; omega)))
                · have ek : okK l = decide (keyBytes (esK l) (tgK l) = l) := by rw [EK.out, hr8]; rfl
                  have EK2 := Lib.hid ek
                  rw [hr8] at cc
                  clear ek hr8
                  refine cc.mono ?_
                  clear cc
                  rintro e w6 ⟨v6, rfl, r6, f6⟩
                  rw [if_pos rfl, if_pos rfl] at r6
                  have E6 := r6.str
                  have E7 := strB w6 (some ⟨g, o, none⟩) l 512 c HN.out (hr.keep_nil (F5.trans_nil f6)) hA
                  have o6 := o5.keep_nil f6
                  have F6 := F5.trans_nil f6
                  have k6 := k5.keep_nil f6
                  have r7 := r5.keep_nil f6
                  obtain ⟨A6, cap6, rfl, -, -, -, -, -⟩ := r6.shape
                  clear r6 r5 o5 F5 k5 K5 f6
                  by_cases hb : keyBytes (esK l) (tgK l) = l
                  · have hd : okK l = true := by rw [EK2.out, decide_eq_true_iff]; exact hb
                    have HD := Lib.hid hd
                    have hmb : (keyBytes (esK l) (tgK l) == l) = true := by rw [beq_iff_eq]; exact hb
                    clear hb hd
                    go_wp2_with
                      (first
                        | (refine wpList_ldS stKeys rfl rfl gs 0 rfl (keyC A3 (nK l) c3 (tgK l)) (keyC_len _ _ _ LT32.out) k6.range0 ?_)
                        | (refine wpList_stB stKeys rfl rfl w.heap.size rfl (keyC A3 (nK l) c3 (tgK l)) rfl (keyC_len _ _ _ LT32.out) (keyC_ones _ _ _ _) (keyC none 0 0 zT) (keyC_len _ _ _ zT_len) o6 ?_; intro wc hc fc zc))
                    try simp only [Exit.inBlock, Exit.then]
                    refine bodyPost_ret (results_cell2 stKeys rfl rfl (keyC_len _ _ _ LT32.out) hc) rfl ?_
                    have hdk : decK l = (esK l, tgK l) := by rw [decK, HD.out]; rfl
                    refine ⟨A3, c3, by rw [hdk, HD.out]; simp only [HLE.out]; rfl, ?_, F6.trans fc (fun i hi => .inr (by simp at hi; omega))⟩
                    rw [hdk]
                    simp only [HLE.out]
                    exact (r7.keep fc (fun g hg => by have := r7.lt g hg; simp; omega)).mono (by omega)
                  · have hd : okK l = false := by rw [EK2.out, decide_eq_false_iff_not]; exact hb
                    have HD := Lib.hid hd
                    have hmb : (keyBytes (esK l) (tgK l) == l) = false := by rw [beq_eq_false_iff_ne]; exact hb
                    clear hb hd
                    go_wp2_with
                      (first
                        | (refine wpList_bld rfl rfl (.agg (keyC none 0 0 zT).toArray) ?_ ?_; exact keysZero _)
                        | (refine wpList_stB stKeys rfl rfl w.heap.size rfl (keyC none 0 0 zT) rfl (keyC_len _ _ _ zT_len) (keyC_ones _ _ _ _) (keyC none 0 0 zT) (keyC_len _ _ _ zT_len) o6 ?_; intro wc hc fc zc))
                    try simp only [Exit.inBlock, Exit.then]
                    refine bodyPost_ret (results_cell2 stKeys rfl rfl (keyC_len _ _ _ zT_len) hc) rfl ?_
                    exact DecK.no HD.out (F6.trans fc (fun i hi => .inr (by simp at hi; omega)))
  · have hd : okK l = false := okK_no (.inl (by omega))
    have HD := Lib.hid hd
    have d : ((n : Int) == 512) = false := by rw [beq_eq_false_iff_ne]; omega
    go_enter Try.func42, Try.ntmps42
    go_wp2_with
      (first
        | (refine wpList_alS stKeys rfl rfl ?_; intro wb hb fb zb; have ZB := Lib.hid zb; clear zb; (try have c0 := fb.cell (p := ⟨g, o + 4, none⟩) (by simp) c0))
        | (refine wpList_bld rfl rfl (.agg (keyC none 0 0 zT).toArray) ?_ ?_; exact keysZero _)
        | (refine wpList_stB stKeys rfl rfl w.heap.size rfl (keyC none 0 0 zT) rfl (keyC_len _ _ _ zT_len) (keyC_ones _ _ _ _) (keyC none 0 0 zT) (keyC_len _ _ _ zT_len) hb ?_; intro wc hc fc zc))
    try simp only [Exit.inBlock, Exit.then]
    refine bodyPost_ret (results_cell2 stKeys rfl rfl (keyC_len _ _ _ zT_len) hc) rfl ?_
    exact DecK.no HD.out (fb.trans fc (fun i hi => .inr (by simp at hi; omega)))
end Go.Proofs.Ytmonedfafechcaa
