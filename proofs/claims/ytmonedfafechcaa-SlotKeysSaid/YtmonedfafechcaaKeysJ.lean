/-
  What layer 12's laws ask of every program (lives).
-/
import Derived.Test.YtmonedfafechcaaKeysI
set_option linter.unusedSimpArgs false
set_option linter.unusedVariables false
set_option linter.unnecessarySimpa false
namespace Go.Proofs.Ytmonedfafechcaa
open Go.RowKit

def s0 : SlotM := ⟨true, 1 :: List.replicate 15 0, List.replicate 32 0, 2 :: List.replicate 31 0⟩
theorem s0_ok : s0.ok := ⟨rfl, rfl, rfl⟩
def es0 : List EpM := [epY 7, epY 8]
def tg0 : List UInt8 := 3 :: List.replicate 31 0
theorem epY_ok (y : Int) (h : 0 ≤ y ∧ y ≤ 100) : (epY y).ok := ⟨by simp only [epY]; omega, by simp only [epY]; omega, rfl⟩
theorem es0_ok : ∀ e ∈ es0, e.ok := by
  intro e he
  simp [es0] at he
  rcases he with rfl | rfl <;> exact epY_ok _ (by omega)
set_option maxRecDepth 100000 in
theorem b1 (w : World) : (Instr.build 57 #[(0, .int .u8 1)]).run Try.prog w = .ok (.agg (bvs s0.sa).toArray) w := by kernel_rfl
set_option maxRecDepth 100000 in
theorem b2 (w : World) : (Instr.build 58 #[(0, .int .u8 2)]).run Try.prog w = .ok (.agg (bvs s0.tg).toArray) w := by kernel_rfl
set_option maxRecDepth 100000 in
theorem b3 (w : World) : (Instr.build 60 #[(0, .bool true), (1, .agg (bvs s0.sa).toArray), (3, .agg (bvs s0.tg).toArray)]).run Try.prog w = .ok (.agg s0.cells.toArray) w := by kernel_rfl
set_option maxRecDepth 100000 in
theorem b4 (w : World) : (Instr.build 58 #[(0, .int .u8 3)]).run Try.prog w = .ok (.agg (bvs tg0).toArray) w := by kernel_rfl
set_option maxRecDepth 100000 in
theorem b5 (w : World) (g : Nat) : (Instr.build 68 #[(0, .slice (some ⟨g, 0, none⟩) 2 2), (1, .agg (bvs tg0).toArray)]).run Try.prog w = .ok (.agg (keyC (some ⟨g, 0, none⟩) 2 2 tg0).toArray) w := by kernel_rfl
set_option maxRecDepth 100000 in
theorem d1 : decS s0.bytes = some s0 := by kernel_rfl
set_option maxRecDepth 100000 in
theorem d2 : okK (keyBytes es0 tg0) = true := by kernel_rfl
set_option maxRecDepth 100000 in
theorem d3 : esK (keyBytes es0 tg0) = es0 := by kernel_rfl
set_option maxRecDepth 100000 in
theorem d4 : tgK (keyBytes es0 tg0) = tg0 := by kernel_rfl
theorem d5 : rightB es0 = true := by decide

section
variable {P : Program} {ops : Array Oper} {rest : List Oper} {o : Oper} {a : Act} {w : World} {Q : Exit → Act → World → Prop} {t : TypeId} {n : Nat} {z : List Value}
theorem wpList_bs2 {ts : TypeId} {x y : Operand} (hT : StT P t n z) (ht : P.underlying ts = some (.slice t)) (hpos : 0 < n) (hsm : 2 * n ≤ 2 ^ 24) (hw : Region.wanted o (yielded ops a.tmps) = true) (ho : o.op = .buildSlice ts 2 #[(0, x), (1, y)]) (cs ds : List Value) (hx : a.eval x = .agg cs.toArray) (hy : a.eval y = .agg ds.toArray) (hn : cs.length = n) (hm : ds.length = n)
    (h : ∀ w', Blk w' w.heap.size t (cs ++ ds).toArray → Fr [] w w' → w'.heap.size = w.heap.size + 1 → wpList P ops Q rest (a.put o.dst (.slice (some ⟨w.heap.size, 0, none⟩) 2 2)) w') : wpList P ops Q (o :: rest) a w :=
  wpList_want hw fun _ hK => by
    refine wp_val (.slice (some ⟨w.heap.size, 0, none⟩) 2 2) (w.alloc (.cells (cs ++ ds).toArray t)) ?_ (hK _ _ (h _ (Blk.new _ _ _) ((Fr.refl _ _).alloc _) (by simp)))
    have hr := run_bs (w := w) hT ht hpos [.agg cs.toArray, .agg ds.toArray] (by intro v hv; simp at hv; rcases hv with rfl | rfl <;> simpa [Value.cells]) (by simp) (by simpa using hsm)
    have e1 : ([Value.agg cs.toArray, Value.agg ds.toArray].flatMap fun v => v.cells.toList).toArray = (cs ++ ds).toArray := by simp [Value.cells]
    rw [e1] at hr
    unfold execOp
    simp only [ho, Sem.run_bind, Sem.run_pure, Result.andThen_ok]
    have e2 : (#[((0 : Nat), x), (1, y)].map fun (i, x) => (i, a.eval x)) = (([Value.agg cs.toArray, Value.agg ds.toArray].zipIdx 0).map fun x => (x.2, x.1)).toArray := by simp [hx, hy]
    rw [e2]
    show ((Instr.buildSlice ts [Value.agg cs.toArray, Value.agg ds.toArray].length _).run P w).andThen _ = _
    rw [hr]
    rfl
end

set_option maxRecDepth 100000 in
set_option maxHeartbeats 8000000 in
theorem lives12_any (w : World) : Calls Try.prog 38 #[] w fun e w' => e = .returned (.bool true) ∧ Fr [] w w' := by
  go_enter Try.func38, Try.ntmps38
  go_wp2_with
    (first
      | (refine wpList_bld rfl rfl (.agg (bvs s0.sa).toArray) ?_ ?_; exact b1 _)
      | (refine wpList_bld rfl rfl (.agg (bvs s0.tg).toArray) ?_ ?_; exact b2 _)
      | (refine wpList_bld rfl rfl (.agg s0.cells.toArray) ?_ ?_; exact b3 _)
      | (refine wpList_alS stSlot rfl rfl ?_; intro w1 h1 f1 z1; have Z1 := Lib.hid z1; clear z1; obtain ⟨g1, hg1⟩ : ∃ g1, w.heap.size = g1 := ⟨_, rfl⟩; rw [hg1] at h1; rw [hg1]; have HG1 := Lib.hid hg1; clear hg1)
      | (refine wpList_stB stSlot rfl rfl g1 rfl s0.cells rfl (SlotM.len s0_ok) s0.ones zeroS.cells (SlotM.len zeroS_ok) h1 ?_; intro w2 h2 f2 z2; have Z2 := Lib.hid z2; clear z2)
      | (refine wpList_ldS stSlot rfl rfl g1 0 rfl s0.cells (SlotM.len s0_ok) h2.range0 ?_))
  have F2 : Fr [] w w2 := f1.trans f2 (fun i hi => .inr (by have := HG1.out; simp at hi; omega))
  refine (encSlot_any w2 s0 s0_ok).mono ?_
  rintro e w3 ⟨v3, rfl, r3, f3⟩
  rw [show s0.good = true from rfl, if_pos rfl, if_pos rfl] at r3
  rw [show s0.good = true from rfl]
  have F3 := F2.trans_nil f3
  have h3 := h2.keep_nil f3
  obtain ⟨A3, cap3, rfl, -, -, rd3, -, -⟩ := r3.shape
  have n3 := r3.rd.2.2
  clear f1 f2 h1 h2 F2
  go_wp2_with fail
  have cc := decSlot_any w3 A3 s0.bytes 512 cap3 (SlotM.bytes_len s0_ok) rd3 n3 (by omega)
  unfold DecS at cc
  rw [show decV s0.bytes = s0 by rw [decV, d1]; rfl, d1] at cc
  refine cc.mono ?_
  clear cc
  rintro e w4 ⟨rfl, f4⟩
  have F4 := F3.trans_nil f4
  have h4 := h3.keep_nil f4
  have r4 := r3.keep_nil f4
  clear h3 f3 F3 r3
  go_wp2_with
    (first
      | (refine wpList_alS stSlot rfl rfl ?_; intro w5 h5 f5 z5; have Z5 := Lib.hid z5; clear z5; obtain ⟨g4, hg4⟩ : ∃ g4, w4.heap.size = g4 := ⟨_, rfl⟩; rw [hg4] at h5; rw [hg4]; have HG4 := Lib.hid hg4; clear hg4)
      | (refine wpList_stB stSlot rfl rfl g4 rfl s0.cells rfl (SlotM.len s0_ok) s0.ones zeroS.cells (SlotM.len zeroS_ok) h5 ?_; intro w6 h6 f6 z6; have Z6 := Lib.hid z6; clear z6)
      | (refine wpList_bld rfl rfl (.agg (epY 7).cells.toArray) ?_ ?_; exact epBuild 7 _)
      | (refine wpList_bld rfl rfl (.agg (epY 8).cells.toArray) ?_ ?_; exact epBuild 8 _)
      | (refine wpList_bs2 stEp Try.underlying66 (by omega) (by decide) rfl rfl (epY 7).cells (epY 8).cells rfl rfl (EpM.len (epY_ok 7 (by omega))) (EpM.len (epY_ok 8 (by omega))) ?_; intro w7 h7 f7 z7; have Z7 := Lib.hid z7; clear z7; obtain ⟨ge, hge⟩ : ∃ ge, w6.heap.size = ge := ⟨_, rfl⟩; rw [hge] at h7; rw [hge]; have HGE := Lib.hid hge; clear hge)
      | (refine wpList_bld rfl rfl (.agg (bvs tg0).toArray) ?_ ?_; exact b4 _)
      | (refine wpList_bld rfl rfl (.agg (keyC (some ⟨ge, 0, none⟩) 2 2 tg0).toArray) ?_ ?_; exact b5 _ _)
      | (refine wpList_alS stKeys rfl rfl ?_; intro w8 h8 f8 z8; have Z8 := Lib.hid z8; clear z8; obtain ⟨g6, hg6⟩ : ∃ g6, w7.heap.size = g6 := ⟨_, rfl⟩; rw [hg6] at h8; rw [hg6]; have HG6 := Lib.hid hg6; clear hg6)
      | (refine wpList_stB stKeys rfl rfl g6 rfl (keyC (some ⟨ge, 0, none⟩) 2 2 tg0) rfl (keyC_len _ _ _ rfl) (keyC_ones _ _ _ _) (keyC none 0 0 zT) (keyC_len _ _ _ zT_len) h8 ?_; intro w9 h9 f9 z9; have Z9 := Lib.hid z9; clear z9)
      | (refine wpList_ldS stKeys rfl rfl g6 0 rfl (keyC (some ⟨ge, 0, none⟩) 2 2 tg0) (keyC_len _ _ _ rfl) h9.range0 ?_))
  have l4 := h4.lt
  have a1 : w4.heap.size = g4 := HG4.out
  have a2 : w6.heap.size = ge := HGE.out
  have a3 : w7.heap.size = g6 := HG6.out
  have a4 := h6.lt
  have a5 := h7.lt
  have a6 : w.heap.size = g1 := HG1.out
  have F6 : Fr [] w4 w6 := f5.trans f6 (fun i hi => .inr (by simp at hi; omega))
  have F9 : Fr [] w6 w9 := (f7.trans_nil f8).trans f9 (fun i hi => .inr (by have := f7.size; simp at hi; omega))
  have FF := (F4.trans_nil F6).trans_nil F9
  have i1 := (h4.keep_nil F6).keep_nil F9
  have i4 := h6.keep_nil F9
  have ie := (h7.keep_nil f8).keep f9 (by simp; omega)
  have r9 := (r4.keep_nil F6).keep_nil F9
  have he0 : Rd w9 (some ⟨ge, 0, none⟩) (epsC es0) := Rd.of_blk ie 0 _ (fun j u hu => by
    rw [Nat.zero_add, List.getElem?_toArray]
    rw [show epsC es0 = (epY 7).cells ++ (epY 8).cells by simp [epsC, es0]] at hu
    exact hu)
  have K9 : KOk w9 (some ⟨ge, 0, none⟩) 2 2 es0 tg0 := ⟨rfl, he0, (fun h => by cases h), es0_ok, rfl, by omega, fun g o e _ => by cases e; exact ie.lt⟩
  clear h4 h6 h7 h5 h8 r4 he0 f4 F4 F6 F9 f5 f6 f7 f8 f9 a1 a2 a3 a4 a5 a6 l4 ie
  have cc := encKeys_any w9 K9
  unfold EncK at cc
  rw [show rightB es0 = true from d5] at cc
  simp only [if_true] at cc
  refine cc.mono ?_
  clear cc
  rintro e w10 ⟨v10, rfl, r10, f10⟩
  have hl10 : (keyBytes es0 tg0).length = 512 := keyBytes_len es0_ok rfl (by decide)
  rw [hl10] at r10
  have i1 := i1.keep_nil f10
  have i4 := i4.keep_nil f10
  have i6 := h9.keep_nil f10
  have K10 := K9.keep_nil f10
  have r9 := r9.keep_nil f10
  have FF := FF.trans_nil f10
  obtain ⟨A10, cap10, rfl, -, -, rd10, -, -⟩ := r10.shape
  have n10 := r10.rd.2.2
  clear f10 K9 h9
  go_wp2_with fail
  have cc := decKeys_any w10 A10 (keyBytes es0 tg0) 512 cap10 hl10 rd10 n10 (by omega)
  unfold DecK at cc
  rw [show decK (keyBytes es0 tg0) = (es0, tg0) by rw [decK, d2, d3, d4]; rfl, d2] at cc
  simp only [if_true, show es0.length = 2 from rfl] at cc
  refine cc.mono ?_
  clear cc
  rintro e w11 ⟨A11, cap11, rfl, r11, f11⟩
  have i1 := i1.keep_nil f11
  have i4 := i4.keep_nil f11
  have i6 := i6.keep_nil f11
  have K11 := K10.keep_nil f11
  have r9 := r9.keep_nil f11
  have FF := FF.trans_nil f11
  clear f11 K10 r10 rd10 n10
  have KZ : ∀ W, KOk W none 0 0 [] zT := fun W => ⟨rfl, Rd.nil _ _, (fun _ => rfl), (by simp), rfl, by omega, (fun g o e => by cases e)⟩
  go_wp2_with
    (first
      | (refine wpList_alS stKeys rfl rfl ?_; intro w12 h12 f12 z12; have Z12 := Lib.hid z12; clear z12; obtain ⟨g9, hg9⟩ : ∃ g9, w11.heap.size = g9 := ⟨_, rfl⟩; rw [hg9] at h12; rw [hg9]; have HG9 := Lib.hid hg9; clear hg9)
      | (refine wpList_stB stKeys rfl rfl g9 rfl (keyC A11 2 cap11 tg0) rfl (keyC_len _ _ _ rfl) (keyC_ones _ _ _ _) (keyC none 0 0 zT) (keyC_len _ _ _ zT_len) h12 ?_; intro w13 h13 f13 z13; have Z13 := Lib.hid z13; clear z13)
      | (refine wpList_bld rfl rfl (.agg (keyC none 0 0 zT).toArray) ?_ ?_; exact keysZero _))
  have a1 : w11.heap.size = g9 := HG9.out
  have l1 := i1.lt
  have l4 := i4.lt
  have l6 := i6.lt
  have F13 : Fr [] w11 w13 := f12.trans f13 (fun i hi => .inr (by simp at hi; omega))
  have i1 := i1.keep_nil F13
  have i4 := i4.keep_nil F13
  have i6 := i6.keep_nil F13
  have K13 := K11.keep_nil F13
  have r9 := r9.keep_nil F13
  have r13 := r11.keep_nil F13
  have FF := FF.trans_nil F13
  clear F13 f12 f13 h12 K11 r11 a1 l1 l4 l6
  have cc := encKeys_any w13 (KZ w13)
  unfold EncK at cc
  rw [show rightB [] = false from rfl] at cc
  refine cc.mono ?_
  clear cc
  rintro e w14 ⟨v14, rfl, r14, f14⟩
  have i1 := i1.keep_nil f14
  have i4 := i4.keep_nil f14
  have i6 := i6.keep_nil f14
  have i9 := h13.keep_nil f14
  have K14 := K13.keep_nil f14
  have r9 := r9.keep_nil f14
  have r13 := r13.keep_nil f14
  have FF := FF.trans_nil f14
  have J14 : KOk w14 A11 2 cap11 es0 tg0 := Row.kok r13 rfl es0_ok rfl (by omega)
  clear f14 K13 h13 r14 KZ
  have rd9 := r9.rd.1
  have E4 := strB w14 A3 (s0.bytes.take 4) 4 cap3 (by decide) (by rw [bvs_take]; exact rd9.take 4) (fun h => by have := r9.rd.2.2 h; omega)
  rw [show (s0.bytes.take 4).toArray = #[83, 76, 79, 84] from rfl] at E4
  obtain ⟨A3', c3', e3', hle3, -, -, -, -⟩ := r9.shape
  cases e3'
  clear rd9 r9 r13
  go_wp2_with
    (first
      | (refine wpList_ldS stSlot rfl rfl g4 0 rfl s0.cells (SlotM.len s0_ok) i4.range0 ?_)
      | (refine wpList_ldS stSlot rfl rfl g1 0 rfl s0.cells (SlotM.len s0_ok) i1.range0 ?_)
      | (refine wpList_eqS stSlot rfl rfl (.inl rfl) rfl rfl true ((slot_eq s0_ok s0_ok _).trans (by rw [(SlotM.eqB_iff s0 s0).2 rfl])) ?_)
      | (refine wpList_ldS stKeys rfl rfl g9 0 rfl (keyC A11 2 cap11 tg0) (keyC_len _ _ _ rfl) i9.range0 ?_)
      | (refine wpList_ldS stKeys rfl rfl g6 0 rfl (keyC (some ⟨ge, 0, none⟩) 2 2 tg0) (keyC_len _ _ _ rfl) i6.range0 ?_))
  refine (same_yes w14 J14 K14).mono ?_
  rintro e w15 ⟨rfl, f15⟩
  go_wp2_with fail
  go_ret
  exact ⟨rfl, FF.trans_nil f15⟩
end Go.Proofs.Ytmonedfafechcaa
