/-
  Texts of this claim, one behind the other: FreD, FreE.
-/
import Derived.Test.YtbanogfljpkbkaaGreatDoorF4
import Derived.Test.YtbanogfljpkbkaaGreatDoorF8
import Derived.Test.YtbanogfljpkbkaaGreatDoorF6
import Derived.Handy
import Derived.Sort.CutIn
import Derived.Sort.QuietIn
import Derived.Test.YtbanogfljpkbkaaGreatDoorF29
import Derived.Test.YtbanogfljpkbkaaGreatDoorF19
import Derived.Test.YtbanogfljpkbkaaGreatDoorF28
set_option linter.unusedSimpArgs false
set_option linter.unusedVariables false
set_option linter.unnecessarySimpa false
namespace Go.Proofs.YtbanogfljpkbkaaGreatDoor
section
open Go.RowKit Go.Shelf
attribute [local go_sem] Oper.semAt_some encC
set_option maxRecDepth 100000
def AbvI (wL : World) (gb : Nat) (hs : List (List UInt8)) (pre : List Nat) (W : World) : Prop := ∃ v vs, Blk W gb 42 #[v] ∧ BRow W wL.heap.size v vs (pre.map fun i => nodeB ((hs.drop (16 * i)).take 16)) ∧ Fr [gb] wL W
theorem abvI_own {wL : World} {gb : Nat} {hs : List (List UInt8)} : OwnFrom wL.heap.size (AbvI wL gb hs) := ownFrom_of fun s W W' F h fr hT hF => by
 obtain ⟨v, vs, h1, h2, h3⟩ := h
 exact ⟨v, vs, h1.keep fr (fun hm => hT _ _ hm _ _ h1), h2.keepT fr (hT _) (hT _), h3.trans fr (fun i hi => .inr (hF i hi))⟩
set_option maxHeartbeats 4000000 in
theorem trAbove_any {w : World} {g o n c : Nat} {hs : List (List UInt8)} (hn : hs.length = n) (hb : 1 ≤ n ∧ n ≤ 128) (h32 : ∀ x ∈ hs, x.length = 32) (hr : Rd w (some ⟨g, o, none⟩) (bvs hs.flatten)) (hc : n ≤ c) :
  Calls Tryz.prog 105 #[.slice (some ⟨g, o, none⟩) n c] w fun e w' => ∃ v vs, e = .returned v ∧ BRow w' w.heap.size v vs (lev1 hs) ∧ Fr [] w w' := by
 have k1 := Blk.new w 42 #[.slice none 0 0]
 have f1 : Fr [] w (w.alloc (.cells #[.slice none 0 0] 42)) := (Fr.refl _ _).alloc _
 obtain ⟨w1, hw1⟩ : ∃ y, w.alloc (.cells #[.slice none 0 0] 42) = y := ⟨_, rfl⟩
 obtain ⟨gb, hgb⟩ : ∃ g, w.heap.size = g := ⟨_, rfl⟩
 rw [hw1] at k1 f1
 rw [hgb] at k1
 have z1 : w1.heap.size = gb + 1 := by rw [← hw1, ← hgb]; simp
 have HR := Lib.hid (And.intro hn (And.intro h32 (And.intro hr hgb)))
 have HF1 := Lib.hid (And.intro k1 f1)
 clear hn h32 hr k1 f1
 refine (callsIn_wide (n := 5)).1 ?_
 refine callsIn_of_wp_marks Tryz.func105 rfl trivial ?_ rfl
 simp only [Tryz.ntmps105, List.size_toArray, List.length_cons, List.length_nil, Nat.reduceAdd, Nat.reduceSub, Array.replicate_succ, Array.replicate_zero, List.push_toArray, List.append_toArray, List.nil_append, List.cons_append]
 refine wpIn_wide.2 ?_
 go_wp2_with (go_at_call 156; refine (slChunk_any _ _ _ _).mono ?_; rintro e wL ⟨rfl, kc1, kc2, fL, zL⟩)
 rw [z1] at kc1 kc2 zL
 have kb := HF1.out.1.keep_nil fL
 have FL := Lib.hid (And.intro HF1.out.2 fL)
 have ow : ownC wL gb = none := ownC_blk kb
 have HSEQ := Lib.hid (slChunk1_stopsK 4 (by omega) (gb + 1) (gb + 1 + 1) g o n c hb hc (KeepO gb wL.heap.size) wL kc1 kc2 (fun W hW => keepS_box hW (by omega) (by omega) (by omega) (by omega) (by omega) (by omega) (by omega) (Nat.le_refl _) (fun k hk => by rw [ow] at hk; cases hk)) (fun A => ⟨Nat.le_refl _, fun _ _ h _ _ _ => h, fun _ h => .inl h⟩))
 have HZL := Lib.hid (And.intro z1 zL)
 clear hw1 hgb fL kc1 kc2 z1 zL
 refine (wpIn_wide (n := 5)).1 ?_
 apply wpIn_rangeFunc_ownF (hro := rfl) (h1 := by omega) (gf := 194) (lb := #[.pointer (some ⟨gb + 1, 0, none⟩), .pointer (some ⟨gb + 1 + 1, 0, none⟩)]) (hg := rfl) (hFg := trivial) (eg := enters_of Tryz.func194 (by kernel_rfl) rfl) (encs := encC g o n) (Kp := KeepO gb wL.heap.size) (hseq := HSEQ.out) (hKt := keepO_t) (hKb := keepO_b (Nat.le_refl _) kb.lt) (hb0 := Below.refl _ _) (hps := fun _ => rfl) (I := AbvI wL gb hs) (Ix := fun _ _ _ => False) (hI := abvI_own) (hIx := fun _ _ _ _ _ h => h.elim) (h0 := ⟨_, _, kb, BRow.nil _ _, Fr.refl _ _⟩)
 case hassign =>
  intro l x W K hK
  gi_wp2
  exact hK
 case hbody =>
  rintro l pre x W hI hlen
  obtain ⟨v, vs, b1, R1, F1⟩ := id hI
  have hgW : gb < W.heap.size := b1.lt
  gi_upto_region 4 with (fail)
  refine wpIn_region_roundL (by kernel_rfl) (by rintro ⟨a, w, h⟩; exact h) ?_
  simp only [Array.toList]
  refine wpList_mkS (v := .int .u8 0) rfl rfl slB rfl .i64 .i64 0 512 0 512 rfl rfl rfl rfl (Nat.zero_le _) (by decide) ?_
  intro w4 k4 f4 z4
  obtain ⟨ga, hga⟩ : ∃ ga, W.heap.size = ga := ⟨_, rfl⟩
  rw [hga] at k4 hgW
  rw [hga]
  go_wp2_with fail
  obtain ⟨l', hl'⟩ : ∃ l', (hs.drop (16 * x)).take 16 = l' := ⟨_, rfl⟩
  obtain ⟨hn, h32, hr, hgb⟩ := HR.out
  have hll : l'.length = min 16 (n - 16 * x) := by rw [← hl', List.length_take, List.length_drop, hn]
  have hl32 : ∀ y ∈ l', y.length = 32 := by rw [← hl']; exact chunk_mem h32 x
  obtain ⟨E, hE⟩ : ∃ E, min 16 (n - 16 * x) = E := ⟨_, rfl⟩
  rw [hE] at hll
  rw [hE]
  have hE16 : E ≤ 16 := by omega
  have hrW : Rd W (some ⟨g, o, none⟩) (bvs hs.flatten) := ((hr.keep_nil FL.out.1).keep_nil FL.out.2).keep F1 (fun g' o' e => by
   cases e
   obtain ⟨g2, o2, e2, h2⟩ := hr.lt (by intro h0; have := congrArg List.length h0; rw [bvs_length, flat_len hs h32] at this; simp at this; omega)
   cases e2
   simp; omega)
  have hgn : g ≠ ga := by
   obtain ⟨g2, o2, e2, h2⟩ := hr.lt (by intro h0; have := congrArg List.length h0; rw [bvs_length, flat_len hs h32] at this; simp at this; omega)
   cases e2
   omega
  have HCX := Lib.hid (fun (wx : World) (fx : Fr [ga] w4 wx) (q : Nat) (hq : q < l'.length) => show wx.rangeAt g (o + 512 * x + q * 32) (bvs l'[q]) from by
   obtain ⟨g', o', e', hc⟩ := ((hrW.keep_nil f4).keep fx (fun g' o' e => by cases e; simpa using hgn)) (by intro h0; have := congrArg List.length h0; rw [bvs_length, flat_len hs h32] at this; simp at this; omega)
   cases e'
   intro j u hu
   have hj : 16 * x + q < hs.length := by omega
   have hlx : l'[q] = hs[16 * x + q] := by subst hl'; simp
   have hjl : j < 32 := by
    have := (List.getElem?_eq_some_iff.1 hu).1
    rw [bvs_length, hl32 _ (List.getElem_mem hq)] at this
    exact this
   have e1 := flat_at h32 hj hjl
   have e2 : u = .int .u8 ((hs[16 * x + q].getD j 0).toNat : Int) := by
    rw [hlx] at hu
    have h3 : j < hs[16 * x + q].length := by rw [h32 _ (List.getElem_mem hj)]; exact hjl
    rw [bvs, List.getElem?_map, List.getElem?_eq_getElem h3] at hu
    rw [List.getD_eq_getElem?_getD, List.getElem?_eq_getElem h3]
    exact (Option.some.inj hu).symm
   rw [e2, ← hc _ _ e1]
   congr 2
   omega)
  have HLL := Lib.hid (And.intro hll (And.intro hl32 (And.intro hl' hga)))
  have HB := Lib.hid (And.intro b1 (And.intro R1 (And.intro F1 (And.intro f4 hgW))))
  have HZ4 := Lib.hid z4
  have k5 : Blk w4 ga 5 (bvs (nodeB (l'.take 0))).toArray := by
   have e0 : bvs (nodeB (l'.take 0)) = List.replicate 512 (Value.int .u8 0) := nodeB_zero
   rw [e0]
   exact k4
  clear b1 R1 F1 f4 z4 k4 hl' hll hrW hgn hr hn h32 hgb hI hga hE hgW
  have K0 := Lib.hid k5
  clear k5
  gi_wp2
  gi_loopw [5, 14] (fun v5 t wr => ∃ q : Nat, q ≤ E ∧ t = .int .i64 q ∧ v5 = .slice (some ⟨ga, 0, none⟩) (32 * q) 512 ∧ Blk wr ga 5 (bvs (nodeB (l'.take q))).toArray ∧ Fr [ga] w4 wr) (fun _ t _ => E - (intOf t).toNat)
  case atStart => exact ⟨0, Nat.zero_le _, rfl, rfl, K0.out, Fr.refl _ _⟩
  case round =>
   clear K0
   obtain ⟨q, hq, rfl, rfl, kq, fq⟩ := hrel
   by_cases hqE : q < E
   ·have d0 : (q : Int) < E := by omega
    have hql : q < l'.length := by rw [HLL.out.1]; exact hqE
    have cx := HCX.out wr fq q hql
    obtain ⟨d, hd⟩ : ∃ d, l'[q] = d := ⟨_, rfl⟩
    have hst := nodeB_step HLL.out.2.1 hql (by omega)
    have hdl : d.length = 32 := by rw [← hd]; exact HLL.out.2.1 _ (List.getElem_mem hql)
    rw [hd] at cx hst
    have hn5 : (nodeB (l'.take q)).length = 512 := nodeB_len (fun x hx => HLL.out.2.1 x (List.mem_of_mem_take hx)) (by rw [List.length_take]; omega)
    have HD := Lib.hid (And.intro hdl (And.intro hst hn5))
    have HKQ := Lib.hid (And.intro kq fq)
    clear hql hd hst hdl hn5 kq fq
    gi_upto_region 7 with (fail)
    refine wpIn_region_roundL (by kernel_rfl) (by rintro ⟨a, w, h⟩; exact h) ?_
    go_wp2_with (first
     | (refine wpList_ldS stA32 rfl rfl g (o + 512 * x + q * 32) rfl (bvs d) (by rw [bvs_length, HD.out.1]) cx ?_)
     | (refine wpList_alS stA32 (o := ⟨some 7, _, _, _, _, _⟩) rfl rfl ?_; intro w6 k6 f6 z6; have Z6 := Lib.hid z6; clear z6; obtain ⟨g6, hg6⟩ : ∃ g6, wr.heap.size = g6 := ⟨_, rfl⟩; rw [hg6] at k6; rw [hg6]; have HG6 := Lib.hid hg6; clear hg6)
     | (refine wpList_stB stA32 rfl rfl g6 rfl (bvs d) rfl (by rw [bvs_length, HD.out.1]) (bvs_one _) (bvs (zB 32)) rfl k6 ?_; intro w7 k7 f7 z7; have Z7 := Lib.hid z7; clear z7))
    have hg6 := HG6.out
    have hga : ga < wr.heap.size := HKQ.out.1.lt
    have k8 : Blk w7 ga 5 (bvs (nodeB (l'.take q))).toArray := (HKQ.out.1.keep_nil f6).keep f7 (by simp; omega)
    have F8 := Lib.hid (show Fr [ga] w4 w7 from (HKQ.out.2.trans_nil f6).trans f7 (fun i hi => .inr (by rw [List.mem_singleton.1 hi]; have := HKQ.out.2.size; omega)))
    clear k6 f6 f7 hg6 cx
    gi_upto_region 8 with (fail)
    refine wpIn_region_roundL (by kernel_rfl) (by rintro ⟨a, w, h⟩; exact h) ?_
    go_wp2_with (at_builtin; refine wpList_appR rfl rfl slB ga (32 * q) 512 rfl _ k8 (by simp [bvs_length, HD.out.2.2]) _ 32 32 rfl (bvs d) (by rw [bvs_length, HD.out.1]) (Rd.of_blk k7 0 _ (fun j u hu => by rw [Nat.zero_add]; simpa using hu)) (by intro h0; have := congrArg List.length h0; rw [bvs_length, HD.out.1] at this; cases this) (bvs_one _) (by omega) ?_; intro w9 k9 f9)
    gi_wp2
    refine ⟨⟨q + 1, by omega, by go_num, rfl, ?_, F8.out.trans_same f9⟩, by simp [intOf]; omega⟩
    have e9 : ((bvs (nodeB (l'.take q))).toArray.toList.take (32 * q * 1) ++ bvs d ++ (bvs (nodeB (l'.take q))).toArray.toList.drop (32 * q * 1 + (bvs d).length)) = bvs (nodeB (l'.take (q + 1))) := by
     rw [← HD.out.2.1, setP, bvs_append, bvs_append, bvs_take, bvs_drop, Nat.mul_one, bvs_length, HD.out.1, show d.take 32 = d from List.take_of_length_le (by rw [HD.out.1]; exact Nat.le_refl _)]
    rw [e9] at k9
    exact k9
   ·have d0 : ¬ ((q : Int) < E) := by omega
    obtain rfl : q = E := by omega
    rw [List.take_of_length_le (by rw [HLL.out.1]; exact Nat.le_refl _)] at kq
    obtain ⟨b1, R1, F1, f4, hgW⟩ := HB.out
    have hga := HLL.out.2.2.2
    have F0 : Fr [] W wr := (f4.mono (by simp)).trans fq (fun i hi => .inr (by rw [List.mem_singleton.1 hi, hga]; exact Nat.le_refl _))
    have hn5 : (nodeB l').length = 512 := nodeB_len HLL.out.2.1 (by rw [HLL.out.1]; exact hE16)
    obtain ⟨wD, hwD⟩ : ∃ wD, wr.drew = wD := ⟨_, rfl⟩
    have F0D : Fr [] W wD := by rw [← hwD]; exact F0.drew
    have hWL := F1.size
    have rb : Row wD wL.heap.size 5 1 (.slice (some ⟨ga, 0, none⟩) 512 512) 512 (bvs (nodeB l')) := ⟨by rw [bvs_length, hn5], .inr ⟨ga, 512, _, (0, 0), rfl, by omega, (by rw [← hwD]; exact kq), free_zero _, Nat.le_refl _, by unfold maxLen; omega, by simp [bvs_length, hn5], by rw [Nat.mul_one]; show List.take 512 (bvs (nodeB l')) = _; rw [List.take_of_length_le (by rw [bvs_length, hn5]; exact Nat.le_refl _)]⟩⟩
    have hS0 : wD.cell? ⟨gb, 0, none⟩ = some v := (b1.keep_nil F0D).cell 0
    have r1 := R1.row.keep_nil F0D
    obtain ⟨pl, hpl⟩ : ∃ pl, (pre.map fun i => nodeB ((hs.drop (16 * i)).take 16)).length = pl := ⟨_, rfl⟩
    rw [hpl] at r1
    have hpl8 : pl < 8 := by rw [← hpl, List.length_map]; exact hlen
    have HX := Lib.hid (And.intro b1 (And.intro R1 (And.intro F1 (And.intro F0D (And.intro rb hpl)))))
    have HN5 := Lib.hid hn5
    clear b1 R1 F1 f4 F0 F0D rb kq fq hpl hn5 hga
    gi_upto_region 10 with (fail)
    refine wpIn_region_round 5 (S := fun w' => w'.cell? ⟨gb, 0, none⟩ = some v) (by kernel_rfl) (by kernel_rfl) (by rintro ⟨a, w, h⟩; exact h) ?_
    rw [hwD]
    have hHeld := hS0
    clear hS0 hwD
    refine takeT_w 0 (some 22) (v := ?_) rfl rfl (by kernel_rfl) (by kernel_rfl) (by kernel_rfl) (by kernel_rfl) (fun _ _ _ h => h) (by rfl) ?_ hHeld ?_
    rotate_left
    ·(intro w hSw; (try dsimp only at hSw); go_simp; try with_reducible rfl)
    simp only [Act.put, p1, p2, p3]
    refine takeT_w 1 (some 23) (v := ?_) rfl rfl (by kernel_rfl) (by kernel_rfl) (by kernel_rfl) (by kernel_rfl) (fun _ _ _ h => h) (by rfl) ?_ hHeld ?_
    rotate_left
    ·(intro w hSw; (try dsimp only at hSw); go_simp; try with_reducible rfl)
    simp only [Act.put, p1, p2, p3]
    refine takeT_w 2 (some 24) (v := .slice (some ⟨ga, 0, none⟩) 512 512) rfl rfl (by kernel_rfl) (by kernel_rfl) (by kernel_rfl) (by kernel_rfl) (fun _ _ _ h => h) (by rfl) (fun w _ => hy_sliceH (s := 1) Tryz.underlying27 (by kernel_rfl) rfl rfl 512 rfl (by omega)) hHeld ?_
    try simp only [Act.put, p1, p2, p3]
    refine takeT_c 3 rfl (by kernel_rfl) (by rfl) (fun K hK => ?_)
    refine wp_bsL (n := 1) slBB rfl [.slice (some ⟨ga, 0, none⟩) 512 512] rfl (by kernel_rfl) (by intro v hv; simp at hv; rw [hv]; rfl) (by simp) (by simp) (fun wb D fD zD => hK.out _ _ (fun _ => fD.cell (by simp) hHeld) (fun hHx => ?_))
    clear hK
    try simp only [Act.put, p1, p2, p3]
    obtain ⟨g3, hg3⟩ : ∃ g3, wD.heap.size = g3 := ⟨_, rfl⟩
    rw [hg3] at D ⊢
    refine takeT_c 4 rfl (by kernel_rfl) (by rfl) (fun K hK => ?_)
    have hno : gb ∉ v.ownBlock.toList := fun hm => (HX.out.2.1.row.ne_blk HX.out.1 (by decide)) (mem_own.1 hm)
    refine wp_app rfl slBB wL.heap.size v pl vs rfl (r1.keep_nil fD) _ 1 1 [.slice (some ⟨ga, 0, none⟩) 512 512] rfl rfl (Rd.of_blk D 0 _ (fun j u hu => by rw [Nat.zero_add]; simpa using hu)) (by intro u hu; rw [List.mem_singleton.1 hu]; rfl) (fun h => by cases h) (by omega) (by have := HX.out.2.2.2.1.size; have := fD.size; omega) (fun v7 wx q1 q2 q3 q4 => hK.out _ _ (fun _ => q2.cell hno (hHx (by decide))) (fun hHy => ?_))
    clear hK
    try simp only [Act.put, p1, p2, p3]
    obtain ⟨A7, c7, rfl, -, -, -, -, -⟩ := q1.shape
    obtain ⟨b1, R1, F1, F0D, rb, hpl⟩ := HX.out
    have bx : Blk wx gb 42 #[v] := ((b1.keep_nil F0D).keep_nil fD).keep q2 hno
    refine takeT_c 5 rfl (by kernel_rfl) (by rfl) (fun K hK => ?_)
    refine wp_st1 rfl (by kernel_rfl) gb 0 rfl (.slice A7 (pl + 1) c7) rfl rfl rfl (bx.cell 0) (bx.frozen 0) (hK.out _ _ (fun h => absurd rfl h) (fun hHz => ?_))
    clear hK
    try simp only [Act.put, p1, p2, p3]
    refine wpAnyT_done (by kernel_rfl) ?_ _
    obtain ⟨z1, z2, z3, z4⟩ := box_fr (v' := .slice A7 (pl + 1) c7) b1 (R1.row) (F0D.trans_nil fD) q2 q3 F1.size bx wL.heap.size
    have HZ := Lib.hid (And.intro z1 (And.intro z2 (And.intro z3 (And.intro z4 (And.intro q1 (And.intro bx (And.intro fD q2)))))))
    clear z1 z2 z3 z4 q1 q2 q3 q4 bx D hHx hHy hHz hHeld hno fD zD r1
    go_wp2_with fail
    obtain ⟨z1, z2, z3, z4, q1, bx, fD, q2⟩ := HZ.out
    refine ⟨z1, z2, _, vs ++ [.slice (some ⟨ga, 0, none⟩) 512 512], z4, ?_, F1.trans z3 (fun i hi => ?_)⟩
    ·have fx : Fr [gb] wx (wx.setCell ⟨gb, 0, none⟩ (.slice A7 (pl + 1) c7)) := (Fr.refl [gb] wx).setCell (p := ⟨gb, 0, none⟩) (.inl (by simp)) _
     have R2 := ((R1.keep_nil F0D).keep_nil fD).snoc (b := nodeB l') (by rw [HN5.out]; exact rb.keep_nil fD) q2 (by rw [hpl]; exact q1)
     rw [List.map_append, List.map_singleton, HLL.out.2.2.1]
     exact R2.keepT fx (bx.noTyOf (by decide)) (bx.noTyOf (by decide))
    ·rcases List.mem_cons.1 hi with rfl | hi
     ·exact .inl (by simp)
     ·exact .inr (R1.row.lt i (mem_own.1 hi)).1
 case hstop =>
  intro D c pre W hD hS hIx hK
  exact hIx.elim
 case hdone =>
  intro D xs W hD hS hI hDef
  subst hS
  obtain ⟨v, vs, b1, R1, F1⟩ := hI
  have c1 := b1.cell 0
  have HI := Lib.hid (And.intro R1 F1)
  have HDf := Lib.hid hDef
  clear R1 F1 hDef kb
  go_wp2_with fail
  obtain ⟨R1, F1⟩ := HI.out
  have fP : Fr [D] W (W.putObj D (.deferred none)) := fr_putObjC _
  have hno : ∀ e, NoTy W [D] e := fun e i hi cs fz hc => by
   rw [List.mem_singleton.1 hi, HDf.out] at hc
   cases hc
  obtain ⟨hn, -, -, hgb⟩ := HR.out
  have hz := HZL.out
  have fw : Fr [] w W := (FL.out.1.trans_nil FL.out.2).trans F1 (fun i hi => .inr (by rw [List.mem_singleton.1 hi, hgb]; exact Nat.le_refl _))
  refine ⟨by simp, .inl ⟨_, _, rfl, run_takeDeferred HDf.out, ?_⟩⟩
  refine ⟨v, by simp [results, Tryz.f105, go_sem], v, vs, rfl, ?_, fw.trans fP (fun i hi => .inr (by rw [List.mem_singleton.1 hi]; omega))⟩
  have e : (List.range (upN n)).map (fun i => nodeB ((hs.drop (16 * i)).take 16)) = lev1 hs := by rw [lev1, hn]
  rw [e] at R1
  exact (R1.keepT fP (hno _) (hno _)).mono (by omega)
end
section
open Go.RowKit
set_option maxRecDepth 100000
set_option maxHeartbeats 4000000 in
theorem trBuild_any {w : World} {A : Option Addr} {n c : Nat} {hs : List (List UInt8)} (hn : hs.length = n) (hb : 1 ≤ n ∧ n ≤ 128) (h32 : ∀ x ∈ hs, x.length = 32) (hr : Rd w A (bvs hs.flatten)) (hc : n ≤ c) (hK : KG w) :
  Calls Tryz.prog 63 #[.slice A n c] w (BldC w hs) := by
 subst hn
 have c1 := fun w1 => trLevels_any hs.length w1 hb
 unfold LevC at c1
 have hA : ∃ g o, A = some ⟨g, o, none⟩ := by
  obtain ⟨g, o, e, -⟩ := hr.lt (by intro h0; have := congrArg List.length h0; rw [bvs_length, flat_len hs h32] at this; simp at this; omega)
  exact ⟨g, o, e⟩
 obtain ⟨gA, oA, rfl⟩ := hA
 have HR := Lib.hid (And.intro hr (And.intro h32 (And.intro hK hc)))
 have HL := Lib.hid (levsN_len hs.length)
 have hL1 : 1 ≤ (levsN hs.length).length ∧ (levsN hs.length).length ≤ 2 := by rw [levsN_len]; split <;> omega
 have HA := Lib.hid (fun k hk => bldN_at (hs := hs) (k := k) hb hk)
 have HBL := Lib.hid (bldN_len hs)
 have HT := Lib.hid (topB_eq hb)
 have HHB := Lib.hid (hvK_b hb)
 have HH32 := Lib.hid (hvK_32 h32)
 obtain ⟨N, hN⟩ : ∃ N, hs.length = N := ⟨_, rfl⟩
 obtain ⟨lev, hlev⟩ : ∃ lev, levsN N = lev := ⟨_, rfl⟩
 obtain ⟨L, hL⟩ : ∃ L, lev.length = L := ⟨_, rfl⟩
 rw [hN] at c1 hb HL HA HBL HT hL1 ⊢
 rw [hlev] at c1 HL HA HBL HT hL1
 rw [hL] at c1 HL HA HBL HT hL1
 have HN := Lib.hid (And.intro hN (And.intro hlev hL))
 clear hr h32 hlev hL hN hK hc
 go_enter Tryz.func63, Tryz.ntmps63
 go_wp2_with
  (first
   | (refine wpList_alS stA32 (o := ⟨some 3, _, _, _, _, _⟩) rfl rfl ?_; intro w1 h3 f1 z1; have Z1 := Lib.hid z1; clear z1; obtain ⟨g3, hg3⟩ : ∃ g1, w.heap.size = g1 := ⟨_, rfl⟩; rw [hg3] at h3; rw [hg3]; have HG3 := Lib.hid hg3; clear hg3)
   | (go_at_call 103; refine (trIsCount_any N _ (by omega)).mono ?_; rintro e w' ⟨rfl, rfl⟩))
 refine (c1 w1).mono ?_
 rintro e w2 ⟨v5, rfl, r5, f2⟩
 obtain ⟨A5, c5, rfl, -, -, -, -, -⟩ := r5.shape
 have F2 := f1.trans_nil f2
 have k3 := h3.keep_nil f2
 clear c1 f1 f2 h3
 have hl3 := k3.lt
 have HZ2 := Lib.hid F2.size
 have H5 := Lib.hid r5
 clear r5
 go_wp2_with fail
 go_loopw [5, 6, 22] (fun v5 v6 t wr => ∃ k : Nat, k ≤ L ∧ t = .int .i64 k ∧ Fr [] w2 wr ∧ (∃ us, BBRow wr w2.heap.size v5 us ((bldN hs).take k)) ∧ ∃ g7 o7 c7, v6 = .slice (some ⟨g7, o7, none⟩) (hvK hs k).length c7 ∧ (hvK hs k).length ≤ c7 ∧ Rd wr (some ⟨g7, o7, none⟩) (bvs (hvK hs k).flatten)) (fun _ _ t _ => L - (intOf t).toNat)
 case atStart => exact ⟨0, Nat.zero_le _, rfl, Fr.refl _ _, ⟨[], BBRow.nil _ _⟩, gA, oA, c, by rw [← HN.out.1]; rfl, HR.out.2.2.2, HR.out.1.keep_nil F2⟩
 case round =>
  obtain ⟨wo, hwo⟩ : ∃ wo, wo = wr := ⟨_, rfl⟩
  subst hwo
  obtain ⟨k, hk, rfl, F, ⟨us, R6⟩, g7, o7, c7, rfl, hc7, R7⟩ := hrel
  have HTL6 := Lib.hid (show ((bldN hs).take k).length = k by rw [List.length_take, HBL.out]; omega)
  have r6 := R6.row
  rw [HTL6.out] at r6
  obtain ⟨A6, c6, rfl, -, -, -, -, -⟩ := r6.shape
  by_cases hlt : k < L
  ·have d0 : (k : Int) < L := by omega
   have hvb := HHB.out k
   obtain ⟨ha1, ha2⟩ := HA.out k hlt
   have hv32 := HH32.out k
   obtain ⟨hv, hhv⟩ : ∃ hv, hvK hs k = hv := ⟨_, rfl⟩
   have HNX := Lib.hid (show hvK hs (k + 1) = (lev1 hv).map (nodeH (UInt8.ofNat k)) by rw [hvK, hhv])
   rw [hhv] at hvb ha1 ha2 hv32 R7 hc7
   rw [hhv]
   have HU := Lib.hid (upN_b hvb)
   have hU : 1 ≤ upN hv.length ∧ upN hv.length ≤ 8 := HU.out
   have H1L := Lib.hid (lev1_len hv)
   have HL5 := Lib.hid (lev1_512 hv32)
   obtain ⟨U, hUU⟩ : ∃ U, upN hv.length = U := ⟨_, rfl⟩
   obtain ⟨M, hM⟩ : ∃ M, hv.length = M := ⟨_, rfl⟩
   rw [hUU] at ha2 hU H1L
   rw [hM] at hvb hc7 ⊢
   have HM := Lib.hid hM
   have HV := Lib.hid (And.intro hv32 (And.intro ha1 hhv))
   have ca := trAbove_any hM hvb hv32 R7 hc7
   have HF := Lib.hid (And.intro F R6)
   clear hv32 ha1 ha2 hhv hUU hM F R6 R7 r6 hc7
   go_wp2_with fail
   refine ca.mono ?_
   rintro e w3 ⟨v8, vs, rfl, R8, f3⟩
   have r8 := R8.row
   rw [H1L.out] at r8
   obtain ⟨g8, c8, e8⟩ := r8.hdD (by omega)
   subst e8
   have HC8 := Lib.hid (fun (wx : World) (f : Fr [] w3 wx) (i : Nat) (hi : i < U) => show ∃ gb cb, wx.cell? ⟨g8, i, none⟩ = some (.slice (some ⟨gb, 0, none⟩) 512 cb) ∧ 512 ≤ cb ∧ Rd wx (some ⟨gb, 0, none⟩) (bvs ((lev1 hv).getD i [])) ∧ ((lev1 hv).getD i []).length = 512 from by
    have hil : i < (lev1 hv).length := by rw [H1L.out]; exact hi
    have hiv : i < vs.length := by rw [R8.vlen]; exact hil
    have hri := (R8.keep_nil f).each i hiv hil
    have h5 := HL5.out _ (List.getElem_mem hil)
    rw [h5] at hri
    obtain ⟨gb, cb, e⟩ := hri.hdD (by omega)
    rw [e] at hri
    have he : (lev1 hv).getD i [] = (lev1 hv)[i] := by rw [List.getD_eq_getElem?_getD, List.getElem?_eq_getElem hil]; rfl
    refine ⟨gb, cb, ?_, hri.rdD.2.1 ▸ (by obtain ⟨A', c', e', hh, -⟩ := hri.shape; cases e'; exact hh), by rw [he]; exact hri.rdD.1, by rw [he]; exact h5⟩
    obtain ⟨g', o', e', hc⟩ := (r8.keep_nil f).rdD.1 (by intro h0; rw [h0] at hiv; exact absurd hiv (by simp))
    cases e'
    have := hc i vs[i] (List.getElem?_eq_getElem hiv)
    rw [Nat.zero_add] at this
    rw [this, e])
   have HF3 := Lib.hid (And.intro R8 f3)
   clear ca R8 f3 r8
   go_wp2_with fail
   go_loopw [6, 29] (fun v6 t wr => ∃ i : Nat, i ≤ U ∧ t = .int .i64 i ∧ Row wr w3.heap.size 39 32 v6 i (bvs (((lev1 hv).take i).map (nodeH (UInt8.ofNat k))).flatten) ∧ Fr [] w3 wr) (fun _ t _ => U - (intOf t).toNat)
   case atStart => exact ⟨0, Nat.zero_le _, rfl, Row.nil _ _ _ _, Fr.refl _ _⟩
   case round =>
    obtain ⟨w4, hw4⟩ : ∃ w4, w4 = wr := ⟨_, rfl⟩
    subst hw4
    obtain ⟨i, hi, rfl, R10, F4⟩ := hrel
    obtain ⟨A10, c10, rfl, -, -, -, -, -⟩ := R10.shape
    by_cases hiU : i < U
    ·have d1 : (i : Int) < U := by omega
     obtain ⟨gb, cb, hcell, hcb, hrd, h5⟩ := HC8.out w4 F4 i hiU
     obtain ⟨b, hb⟩ : ∃ b, (lev1 hv).getD i [] = b := ⟨_, rfl⟩
     have hbi : (lev1 hv)[i]'(by rw [H1L.out]; exact hiU) = b := by rw [← hb, List.getD_eq_getElem?_getD, List.getElem?_eq_getElem (by rw [H1L.out]; exact hiU)]; rfl
     have HTK := Lib.hid (show (((lev1 hv).take (i + 1)).map (nodeH (UInt8.ofNat k))).flatten = (((lev1 hv).take i).map (nodeH (UInt8.ofNat k))).flatten ++ nodeH (UInt8.ofNat k) b by rw [List.take_succ_eq_append_getElem (by rw [H1L.out]; exact hiU), hbi]; simp)
     rw [hb] at hrd h5
     have hw4 := F4.size
     have cn := trNode_any k (by omega) (some ⟨gb, 0, none⟩) b 512 cb w4 h5 hrd (by simp) hcb (by omega) ((((HR.out.2.2.1.keep F2).keep HF.out.1).keep HF3.out.2).keep F4)
     obtain ⟨dg, hdg⟩ : ∃ dg, nodeH (UInt8.ofNat k) b = dg := ⟨_, rfl⟩
     rw [hdg] at cn
     have HDG := Lib.hid (And.intro hdg (show dg.length = 32 by rw [← hdg]; exact shaSum_length _))
     have HR10 := Lib.hid (And.intro R10 F4)
     clear hb hbi hrd h5 hdg R10 F4
     go_wp2_with fail
     refine cn.mono ?_
     rintro e w9 ⟨rfl, f9⟩
     have R10y := HR10.out.1.keep_nil f9
     have hFy := f9.size
     have HXX := Lib.hid f9
     clear cn f9
     go_wp2_with
      (first
       | (refine wpList_bs1 stA32 Tryz.underlying48 (by omega) (by decide) rfl rfl (bvs dg) rfl (by rw [bvs_length, HDG.out.2]) ?_; intro w10 b10 f10 z10; have Z10 := Lib.hid z10; clear z10)
       | (at_builtin; refine wpList_app rfl rfl slA w3.heap.size _ i _ rfl (R10y.keep_nil f10) _ 1 1 (bvs dg) rfl (by rw [bvs_length, HDG.out.2]) (Rd.of_blk b10 0 _ (fun j u hu => by rw [Nat.zero_add]; simpa using hu)) (bvs_one _) (by simp) (by omega) (by have := f10.size; omega) ?_; intro v11 w11 p1 p2 p3 p4))
     rw [← bvs_append, ← HDG.out.1, ← HTK.out] at p1
     exact ⟨⟨i + 1, by omega, by go_num, p1, ((HR10.out.2.trans_nil HXX.out).trans_nil f10).trans p2 (fun g hg => .inr ((R10y.keep_nil f10).lt g (mem_own.1 hg)).1)⟩, by simp [intOf]; omega⟩
    ·obtain rfl : i = U := by omega
     have d1 : ¬ ((i : Int) < i) := by omega
     have hall : (lev1 hv).take i = lev1 hv := List.take_of_length_le (by rw [H1L.out]; exact Nat.le_refl _)
     rw [hall, ← HNX.out] at R10
     have HLN := Lib.hid (show (hvK hs (k + 1)).length = i by rw [HNX.out, List.length_map, H1L.out])
     obtain ⟨F, R6⟩ := HF.out
     obtain ⟨R8, f3⟩ := HF3.out
     have f34 := f3.trans_nil F4
     replace R6 := R6.keep_nil f34
     have r6 := R6.row
     rw [HTL6.out] at r6
     have hwo := F.size
     have hw3 := f3.size
     have hw4 := F4.size
     have hF2 := HZ2.out
     have H3 := Lib.hid (And.intro (R8.keep_nil F4) (And.intro R10 (And.intro R6 (F.trans_nil f34))))
     clear R8 R10 R6 F f3 F4 f34 hall
     go_wp2_with (at_builtin; refine wpList_app rfl rfl slBBB w2.heap.size _ k us rfl (r6.alloc _) _ 1 1 [_] rfl rfl (Rd.one _ _ _) (by intro u hu; rw [List.mem_singleton.1 hu]; rfl) (fun h => by cases h) (by omega) (by simp; omega) ?_; intro v7 wx q1 q2 q3 q4)
     obtain ⟨R8, R10, R6, F3⟩ := H3.out
     have fa : Fr [] w4 (w4.alloc (.cells #[.slice (some ⟨g8, 0, none⟩) i c8] 42)) := (Fr.refl [] w4).alloc _
     replace q2 : Fr (Value.slice A6 k c6).ownBlock.toList (w4.alloc (.cells #[.slice (some ⟨g8, 0, none⟩) i c8] 42)) wx := q2
     have na : NoTy (w4.alloc (.cells #[.slice (some ⟨g8, 0, none⟩) i c8] 42)) (Value.slice A6 k c6).ownBlock.toList 39 := (r6.alloc _).noTy (by decide)
     have R6x := (R6.keep_nil fa).snoc ((R8.keep_nil fa).mono (by omega)) q2 (by rw [HTL6.out]; exact q1)
     rw [← HV.out.2.1] at R6x
     have R10x := (R10.keep_nil fa).keepT q2 na
     obtain ⟨g10, c10', e10⟩ := R10x.hdD (by omega)
     have hcc := R10x.shape
     obtain ⟨A', c', e', hh, -, -, -, -⟩ := hcc
     rw [e10] at R10x e'
     cases e'
     exact ⟨⟨k + 1, by omega, by go_num, (F3.trans_nil fa).trans q2 (fun g hg => .inr (r6.lt g (mem_own.1 hg)).1), ⟨_, R6x⟩, g10, 0, c10', by rw [HLN.out]; exact e10, by rw [HLN.out]; exact hh, R10x.rdD.1⟩, by simp [intOf]; omega⟩
  ·obtain rfl : k = L := by omega
   have d0 : ¬ ((k : Int) < k) := by omega
   obtain ⟨q, hq⟩ : ∃ q, k = q + 1 := ⟨k - 1, by omega⟩
   have hqk : q < k := by omega
   obtain ⟨ha1, -⟩ := HA.out q hqk
   have hlq : lev1 (hvK hs q) = (bldN hs).getD q [] := by
    have hbl := HBL.out
    have := congrArg (fun l => l[q]?) ha1
    simp only [List.getElem?_take] at this
    rw [if_pos (by omega), List.getElem?_append_right (by rw [List.length_take]; omega)] at this
    rw [List.getD_eq_getElem?_getD, this, List.length_take, show q - min q (bldN hs).length = 0 by omega]
    rfl
   have hu := upN_b (HHB.out q)
   have h5 : (((bldN hs).getD q []).getD 0 []).length = 512 := by rw [← hlq]; exact lev1_getD_512 (HH32.out q) (by omega)
   have htop := HT.out
   rw [HBL.out, show k - 1 = q by omega] at htop
   rw [List.take_of_length_le (by rw [HBL.out]; exact Nat.le_refl _)] at R6
   have hul := R6.len
   rw [HBL.out] at hul
   obtain ⟨g6, c6', e6⟩ := r6.hdD (by omega)
   cases e6
   obtain ⟨vs, hvs⟩ := R6.each q (by omega) (by rw [HBL.out]; omega)
   have hbq : (bldN hs)[q]'(by rw [HBL.out]; omega) = (bldN hs).getD q [] := by rw [List.getD_eq_getElem?_getD, List.getElem?_eq_getElem (by rw [HBL.out]; omega)]; rfl
   rw [hbq] at hvs
   have hll : 0 < ((bldN hs).getD q []).length := by rw [← hlq, lev1_len]; omega
   have hvl := hvs.vlen
   obtain ⟨g9, c9, e9⟩ := hvs.row.hdD hll
   have hb0 := hvs.each 0 (by omega) hll
   have hb0e : ((bldN hs).getD q [])[0]'hll = ((bldN hs).getD q []).getD 0 [] := by rw [List.getD_eq_getElem?_getD (l := (bldN hs).getD q []), List.getElem?_eq_getElem hll]; rfl
   rw [hb0e] at hb0
   obtain ⟨b, hb⟩ : ∃ b, ((bldN hs).getD q []).getD 0 [] = b := ⟨_, rfl⟩
   rw [hb] at h5 htop hb0
   rw [h5] at hb0
   obtain ⟨gb, cb, eb⟩ := hb0.hdD (by omega)
   rw [eb] at hb0
   have hcb : 512 ≤ cb := by obtain ⟨A', c', e', hh, -⟩ := hb0.shape; cases e'; exact hh
   have rdb := hb0.rdD.1
   have c6q : wo.cell? ⟨g6, q, none⟩ = some us[q] := by
    obtain ⟨g', o', e', hc⟩ := R6.row.rdD.1 (by intro h0; rw [h0] at hul; simp at hul; omega)
    cases e'
    have := hc q _ (List.getElem?_eq_getElem (by omega))
    rwa [Nat.zero_add] at this
   have hvr := hvs.row
   rw [e9] at c6q hvr
   have c90 : wo.cell? ⟨g9, 0, none⟩ = some vs[0] := by
    obtain ⟨g', o', e', hc⟩ := hvr.rdD.1 (by intro h0; rw [h0, List.length_nil] at hvl; omega)
    cases e'
    have := hc 0 _ (List.getElem?_eq_getElem (by omega))
    rwa [Nat.zero_add] at this
   rw [eb] at c90
   obtain ⟨m9, hm9⟩ : ∃ m, ((bldN hs).getD q []).length = m := ⟨_, rfl⟩
   rw [hm9] at c6q hll
   have cc := trRoot_any N q (by omega) (by omega) (some ⟨gb, 0, none⟩) b 512 cb wo h5 rdb (by simp) hcb (by omega) ((HR.out.2.2.1.keep F2).keep F)
   obtain ⟨D, hD⟩ : ∃ D, bldR hs = D := ⟨_, rfl⟩
   rw [hD] at htop
   rw [← htop] at cc
   have HDD := Lib.hid (And.intro hD (show D.length = 32 by rw [← hD]; exact shaSum_length _))
   have HR6 := Lib.hid (And.intro R6 F)
   replace k3 := k3.keep_nil F
   have hw2 := HZ2.out
   have F' := F2.trans_nil F
   clear ha1 hlq hu h5 htop hul hvs hbq hvl e9 hb0 hb0e hb eb rdb hvr hm9 hD R6 F r6 R7 hcb hc7
   subst hq
   go_wp2_with fail
   refine cc.mono ?_
   rintro e w3 ⟨rfl, f3⟩
   have k3' := k3.keep_nil f3
   have HNO := Lib.hid (And.intro (k3.noTyOf (show 39 ≠ 42 by decide)) (And.intro (k3.noTyOf (show 39 ≠ 27 by decide)) (k3.noTyOf (show 39 ≠ 5 by decide))))
   have HF3 := Lib.hid f3
   clear cc c6q c90 k3 f3
   go_wp2_with
    (first
     | (refine wpList_stB stA32 rfl rfl g3 rfl (bvs D) rfl (by rw [bvs_length, HDD.out.2]) (bvs_one _) (bvs (zB 32)) rfl k3' ?_; intro wc hc fc zc; clear zc))
   try simp only [Exit.inBlock, Exit.then]
   refine bodyPost_ret (results_tct stA32 rfl rfl (by rw [bvs_length, HDD.out.2]) hc) rfl ?_
   obtain ⟨R6, F⟩ := HR6.out
   have fx : Fr [g3] wo wc := (HF3.out.mono (by simp)).trans fc (fun i hi => .inl hi)
   have R6w := R6.keepT fx HNO.out.1 HNO.out.2.1 HNO.out.2.2
   exact ⟨_, us, by rw [HDD.out.1]; rfl, R6w.mono (by omega), (F'.trans fx (fun i hi => .inr (by rw [List.mem_singleton.1 hi]; have := HG3.out; omega)))⟩
end
end Go.Proofs.YtbanogfljpkbkaaGreatDoor
