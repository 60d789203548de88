/-
  Same (layer 12's laws): keys that read alike are the same.
-/
import Derived.Test.YtmonedfafechcaaKeysH
import Derived.Test.YtmonedfafechcaaSlotF
set_option linter.unusedSimpArgs false
set_option linter.unusedVariables false
set_option linter.unnecessarySimpa false
namespace Go.Proofs.Ytmonedfafechcaa
open Go.RowKit

theorem stA32 : StT Try.prog 58 32 (bvs zT) := ⟨⟨_, Try.underlying58, rfl⟩, by kernel_rfl, by decide, by kernel_rfl, bvs_one _⟩
set_option maxRecDepth 100000 in
theorem ep_eq {a : EpM} (ha : a.ok) (w : World) : (Op.equalIn 10000 102 (.agg a.cells.toArray) (.agg a.cells.toArray)).run Try.prog w = .ok true w := by
  rw [run_equalIn_struct w 9999 102 _ _ (by kernel_rfl) (by kernel_rfl)]
  simp only [Program.fieldsOf, Try.underlying102]
  have h64 : (Try.prog.info? 100).map (·.size) = some 64 := by kernel_rfl
  have h8 : (Try.prog.info? 5).map (·.size) = some 1 := by kernel_rfl
  have p1 : (a.cells.toArray.toList.drop 1).take 64 = bvs a.wr := by
    show (bvs a.wr).take 64 = _
    rw [List.take_of_length_le (by rw [bvs_length, ha.wr]; exact Nat.le_refl _)]
  refine (eqF_step _ _ _ _ _ (of_decide_eq_true (by kernel_rfl)) (.int .i64 a.ep) (.int .i64 a.ep) ?_ ?_ (a.ep == a.ep) _ ?_ (eqF_step _ _ _ _ _ (of_decide_eq_true (by kernel_rfl)) (.agg (bvs a.wr).toArray) (.agg (bvs a.wr).toArray) ?_ ?_ (a.wr == a.wr) true ?_ rfl)).trans ?_
  · exact part_one Try.underlying3 rfl _ _ _ rfl
  · exact part_one Try.underlying3 rfl _ _ _ rfl
  · exact run_equalIn_int w 9998 _ .i64 .i64 a.ep a.ep Try.underlying3
  · exact part_bytes Try.underlying100 h64 _ _ _ ha.wr p1
  · exact part_bytes Try.underlying100 h64 _ _ _ ha.wr p1
  · exact eq_bytes 9997 Try.underlying100 Try.underlying5 h8 _ _ ha.wr ha.wr
  · simp
theorem a32_eq {a : List UInt8} (ha : a.length = 32) (w : World) : (Op.equalIn 10000 58 (.agg (bvs a).toArray) (.agg (bvs a).toArray)).run Try.prog w = .ok true w := by
  have h8 : (Try.prog.info? 5).map (·.size) = some 1 := by kernel_rfl
  have := eq_bytes (P := Try.prog) (w := w) 9998 Try.underlying58 Try.underlying5 h8 a a ha ha
  rw [this, beq_self_eq_true]
section
variable {P : Program} {o : Oper} {a : Act} {w : World} {t : TypeId} {n : Nat} {z : List Value}
theorem hy_ld {x : Operand} (hT : StT P t n z) (ho : o.op = .load t x) (g off : Nat) (hx : a.eval x = .pointer (some ⟨g, off, none⟩)) (cs : List Value) (hn : cs.length = n) (hc : w.rangeAt g off cs) : (execOp a.eval o).run P w = .ok (.value (.agg cs.toArray)) w := by
  obtain ⟨d, hu, hd⟩ := hT.und
  unfold execOp
  simp only [ho, hx, Instr.loadAt, Instr.sureAddr, Sem.run_bind, Sem.run_pure, Result.andThen_ok, run_loadVar_mid w g off t cs d hc hu hd (by rw [hT.sz, hn])]
theorem hy_eq {op : BinOp} {x y : Operand} {ty : TypeId} {xs ys : Array Value} (hT : StT P t n z) (ho : o.op = .binOp op t x y ty) (hop : op = .eql ∨ op = .neq) (hx : a.eval x = .agg xs) (hy : a.eval y = .agg ys) (b : Bool) (he : (Op.equalIn 10000 t (.agg xs) (.agg ys)).run P w = .ok b w) : (execOp a.eval o).run P w = .ok (.value (.bool (if op = .eql then b else !b))) w := by
  have := run_eqS (x := x) (y := y) hT hop b he
  rw [Sem.run_bind] at this
  unfold execOp
  simp only [ho, hx, hy, Sem.run_bind, Sem.run_pure, this, Result.andThen_ok]
theorem hy_ne {x y : Operand} {ty : TypeId} {xs ys : Array Value} (hT : StT P t n z) (ho : o.op = .binOp .neq t x y ty) (hx : a.eval x = .agg xs) (hy : a.eval y = .agg ys) (he : (Op.equalIn 10000 t (.agg xs) (.agg ys)).run P w = .ok true w) : (execOp a.eval o).run P w = .ok (.value (.bool false)) w := hy_eq hT ho (.inr rfl) hx hy true he
end
theorem keyRange {w : World} {g : Nat} {A : Option Addr} {n c : Nat} {tg : List UInt8} (hb : Blk w g 68 (keyC A n c tg).toArray) : w.rangeAt g 1 (bvs tg) := hb.range 1 _ key_tg

set_option maxRecDepth 100000 in
set_option maxHeartbeats 4000000 in
theorem same_yes (w : World) {A B : Option Addr} {n c d : Nat} {es : List EpM} {tg : List UInt8} (hK : KOk w A n c es tg) (hJ : KOk w B n d es tg) :
    Calls Try.prog 43 #[.agg (keyC A n c tg).toArray, .agg (keyC B n d tg).toArray] w fun e w' => e = .returned (.bool true) ∧ Fr [] w w' := by
  have HN := Lib.hid hK.len
  have hn1 := hK.reach
  go_enter Try.func43, Try.ntmps43
  go_wp2_with
    (first
      | (refine wpList_boxS rfl rfl (keyC A n c tg) rfl ?_; intro wb hb fb zb; have ZB := Lib.hid zb; clear zb; obtain ⟨ga, hga⟩ : ∃ ga, w.heap.size = ga := ⟨_, rfl⟩; rw [hga] at hb; rw [hga]; have HGA := Lib.hid hga; clear hga)
      | (refine wpList_boxS rfl rfl (keyC B n d tg) rfl ?_; intro wc hc fc zc; have ZC := Lib.hid zc; clear zc; obtain ⟨gb, hgb⟩ : ∃ gb, wb.heap.size = gb := ⟨_, rfl⟩; rw [hgb] at hc; rw [hgb]; have HGB := Lib.hid hgb; clear hgb; have hb2 := hb.keep_nil fc; have ca := hb2.cell 0; have cb := hc.cell 0; (rw [show (keyC A n c tg).toArray[0]? = some (.slice A n c) from rfl] at ca); (rw [show (keyC B n d tg).toArray[0]? = some (.slice B n d) from rfl] at cb))
      | (refine wpList_ldS stA32 rfl rfl ga 1 rfl (bvs tg) (by rw [bvs_length, hK.tg]) (keyRange hb2) ?_)
      | (refine wpList_ldS stA32 rfl rfl gb 1 rfl (bvs tg) (by rw [bvs_length, hK.tg]) (keyRange hc) ?_)
      | (refine wpList_eqS stA32 rfl rfl (by decide) rfl rfl true (a32_eq hK.tg _) ?_))
  have F := fb.trans_nil fc
  have K2 := hK.keep_nil F
  have J2 := hJ.keep_nil F
  go_loopw [5] (fun i wr => ∃ k : Nat, k ≤ n ∧ i = .int .i64 k ∧ ∃ q, wr = wc.drewN q) (fun i _ => n - (intOf i).toNat)
  case atStart => exact ⟨0, Nat.zero_le _, rfl, 0, rfl⟩
  case round =>
    obtain ⟨k, hk, rfl, q, rfl⟩ := hrel
    by_cases hlt : k < n
    · have hkl : k < es.length := by rw [HN.out]; exact hlt
      obtain ⟨g, o, rfl, -, hc1⟩ := K2.range hkl
      obtain ⟨g', o', rfl, -, hc2⟩ := J2.range hkl
      have ck := hc1 k hkl
      have cj := hc2 k hkl
      have hfk := hK.each _ (List.getElem_mem hkl)
      clear hc1 hc2
      generalize es[k] = x at *
      go_wp2_with fail
      refine wp_region_held_drew (S := fun w' => w'.cell? ⟨ga, 0, none⟩ = some (.slice (some ⟨g, o, none⟩) n c) ∧ w'.cell? ⟨gb, 0, none⟩ = some (.slice (some ⟨g', o', none⟩) n d) ∧ w'.rangeAt g (o + k * 65) x.cells ∧ w'.rangeAt g' (o' + k * 65) x.cells) (by kernel_rfl) ⟨ca, cb, ck, cj⟩ (fun hHeld => ?_)
      refine take_w 0 (some 27) (v := ?_) rfl rfl (by kernel_rfl) (by kernel_rfl) (by kernel_rfl) (fun _ _ _ h => h) (by rfl) ?_ hHeld ?_
      rotate_left
      · (intro w hSw; (try dsimp only at hSw); go_simp; try with_reducible rfl)
      simp only [Act.put, List.setIfInBounds_toArray, List.set_cons_zero, List.set_cons_succ]
      refine take_w 1 (some 28) (v := ?_) rfl rfl (by kernel_rfl) (by kernel_rfl) (by kernel_rfl) (fun _ _ _ h => h) (by rfl) ?_ hHeld ?_
      rotate_left
      · (intro w hSw; (try dsimp only at hSw); go_simp; try with_reducible rfl)
      simp only [Act.put, List.setIfInBounds_toArray, List.set_cons_zero, List.set_cons_succ]
      refine take_w 2 (some 29) (v := ?_) rfl rfl (by kernel_rfl) (by kernel_rfl) (by kernel_rfl) (fun _ _ _ h => h) (by rfl) ?_ hHeld ?_
      rotate_left
      · (intro w hSw; (try dsimp only at hSw); go_simp; try with_reducible rfl)
      simp only [Act.put, List.setIfInBounds_toArray, List.set_cons_zero, List.set_cons_succ]
      refine take_w 3 (some 30) (v := ?_) rfl rfl (by kernel_rfl) (by kernel_rfl) (by kernel_rfl) (fun _ _ _ h => h) (by rfl) ?_ hHeld ?_
      rotate_left
      · (intro w hSw; (try dsimp only at hSw); go_simp; try with_reducible rfl)
      simp only [Act.put, List.setIfInBounds_toArray, List.set_cons_zero, List.set_cons_succ]
      refine take_w 4 (some 31) (v := .agg x.cells.toArray) rfl rfl (by kernel_rfl) (by kernel_rfl) (by kernel_rfl) (fun _ _ _ h => h) (by rfl) (fun w hS => hy_ld stEp rfl g (o + k * 65) rfl x.cells (EpM.len hfk) hS.2.2.1) hHeld ?_
      try simp only [Act.put, List.setIfInBounds_toArray, List.set_cons_zero, List.set_cons_succ]
      refine take_w 5 (some 32) (v := ?_) rfl rfl (by kernel_rfl) (by kernel_rfl) (by kernel_rfl) (fun _ _ _ h => h) (by rfl) ?_ hHeld ?_
      rotate_left
      · (intro w hSw; (try dsimp only at hSw); go_simp; try with_reducible rfl)
      simp only [Act.put, List.setIfInBounds_toArray, List.set_cons_zero, List.set_cons_succ]
      refine take_w 6 (some 33) (v := ?_) rfl rfl (by kernel_rfl) (by kernel_rfl) (by kernel_rfl) (fun _ _ _ h => h) (by rfl) ?_ hHeld ?_
      rotate_left
      · (intro w hSw; (try dsimp only at hSw); go_simp; try with_reducible rfl)
      simp only [Act.put, List.setIfInBounds_toArray, List.set_cons_zero, List.set_cons_succ]
      refine take_w 7 (some 34) (v := ?_) rfl rfl (by kernel_rfl) (by kernel_rfl) (by kernel_rfl) (fun _ _ _ h => h) (by rfl) ?_ hHeld ?_
      rotate_left
      · (intro w hSw; (try dsimp only at hSw); go_simp; try with_reducible rfl)
      simp only [Act.put, List.setIfInBounds_toArray, List.set_cons_zero, List.set_cons_succ]
      refine take_w 8 (some 35) (v := ?_) rfl rfl (by kernel_rfl) (by kernel_rfl) (by kernel_rfl) (fun _ _ _ h => h) (by rfl) ?_ hHeld ?_
      rotate_left
      · (intro w hSw; (try dsimp only at hSw); go_simp; try with_reducible rfl)
      simp only [Act.put, List.setIfInBounds_toArray, List.set_cons_zero, List.set_cons_succ]
      refine take_w 9 (some 36) (v := .agg x.cells.toArray) rfl rfl (by kernel_rfl) (by kernel_rfl) (by kernel_rfl) (fun _ _ _ h => h) (by rfl) (fun w hS => hy_ld stEp rfl g' (o' + k * 65) rfl x.cells (EpM.len hfk) hS.2.2.2) hHeld ?_
      try simp only [Act.put, List.setIfInBounds_toArray, List.set_cons_zero, List.set_cons_succ]
      refine take_w 10 (some 37) (v := .bool false) rfl rfl (by kernel_rfl) (by kernel_rfl) (by kernel_rfl) (fun _ _ _ h => h) (by rfl) (fun w hS => hy_ne stEp rfl rfl rfl (ep_eq hfk w)) hHeld ?_
      try simp only [Act.put, List.setIfInBounds_toArray, List.set_cons_zero, List.set_cons_succ]
      refine wpAnyH_done (by kernel_rfl) ?_ _
      go_wp2_with fail
      exact ⟨⟨k + 1, by omega, by go_num, q + 1, rfl⟩, by simp [intOf]; omega⟩
    · go_wp2
      go_ret
      exact ⟨rfl, F.drewN _⟩
end Go.Proofs.Ytmonedfafechcaa
