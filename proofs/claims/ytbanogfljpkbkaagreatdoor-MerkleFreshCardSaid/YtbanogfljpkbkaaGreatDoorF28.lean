/-
  Texts of this claim, one behind the other: TreC, TreD.
-/
import Derived.Test.YtbanogfljpkbkaaGreatDoorF20
import Derived.Test.YtbanogfljpkbkaaGreatDoorF21
import Derived.Test.YtbanogfljpkbkaaGreatDoorF27
set_option linter.unusedSimpArgs false
set_option linter.unusedVariables false
set_option linter.unnecessarySimpa false
namespace Go.Proofs.YtbanogfljpkbkaaGreatDoor
section
open Go.RowKit
set_option maxRecDepth 100000
theorem results_tct {P : Program} {w : World} {t : TypeId} {n : Nat} {z : List Value} (hT : StT P t n z) {fn : Func} {p q r : Tmp} (hr : fn.results = #[.tmp q, .cell p t, .tmp r]) {tmps : Array Value} {g : Nat} {cs : List Value} (hv : tmps.getD p undef = .pointer (some ⟨g, 0, none⟩)) (hn : cs.length = n) (hb : Blk w g t cs.toArray) :
  (results fn tmps).run P w = .ok (.tuple #[tmps.getD q undef, .agg cs.toArray, tmps.getD r undef]) w := by
 have hl := run_loadB hT hn hb
 have ha : (asAddr (.pointer (some ⟨g, 0, none⟩))).run P w = .ok ⟨g, 0, none⟩ w := rfl
 have hv' : tmps[p]?.getD undef = .pointer (some ⟨g, 0, none⟩) := by simpa using hv
 simp [results, hr, hv', ha, hl]
theorem Row.splice {w : World} {B g c at_ : Nat} {b d : List UInt8} (h : Row w B 5 1 (.slice (some ⟨g, 0, none⟩) 512 c) 512 (bvs b)) (hd : at_ + d.length ≤ 512) :
  ∃ cur fz, w.heap[g]? = some (.cells cur 5 fz) ∧ Free cur.size fz ∧ at_ + (bvs d).length ≤ cur.size ∧ ∀ w', w'.heap[g]? = some (.cells (cur.toList.take at_ ++ bvs d ++ cur.toList.drop (at_ + (bvs d).length)).toArray 5 fz) →
   Row w' B 5 1 (.slice (some ⟨g, 0, none⟩) 512 c) 512 (bvs (b.take at_ ++ d ++ b.drop (at_ + d.length))) := by
 have hb : b.length = 512 := by have := h.1; rw [bvs_length] at this; omega
 rcases h.2 with ⟨e, _⟩ | ⟨g', cap, cur, fz, e, hB, hg, hf, hnc, hcm, hcs, ht⟩
 ·cases e
 ·cases e
  rw [Nat.mul_one] at hcs ht
  have hsz : (cur.toList.take at_ ++ bvs d ++ cur.toList.drop (at_ + (bvs d).length)).toArray.size = cur.size := by
   simp only [List.size_toArray, List.length_append, List.length_take, List.length_drop, Array.length_toList, bvs_length]
   omega
  refine ⟨cur, fz, hg, hf, by rw [bvs_length]; omega, fun w' hw' => ⟨?_, .inr ⟨g, c, _, fz, rfl, hB, hw', by rw [hsz]; exact hf, hnc, hcm, by rw [hsz, hcs, Nat.mul_one], ?_⟩⟩⟩
  ·simp only [bvs_length, List.length_append, List.length_take, List.length_drop]
   omega
  ·rw [Nat.mul_one]
   have hdb : (bvs d).length = d.length := bvs_length d
   show List.take 512 (cur.toList.take at_ ++ bvs d ++ cur.toList.drop (at_ + (bvs d).length)) = _
   rw [List.take_append, List.take_of_length_le (by simp only [List.length_append, List.length_take, Array.length_toList]; omega)]
   have e1 : (cur.toList.take at_ ++ bvs d).length = at_ + d.length := by
    simp only [List.length_append, List.length_take, Array.length_toList, bvs_length]; omega
   rw [e1, bvs_append, bvs_append, bvs_take, bvs_drop, ← ht, List.take_take, List.drop_take, hdb, show min at_ 512 = at_ by omega]
theorem Blk.noTyOf {w : World} {g : Nat} {t e : TypeId} {cs : Array Value} (h : Blk w g t cs) (he : t ≠ e) : NoTy w [g] e := fun i hi cs' fz hc => by
 rw [List.mem_singleton.1 hi] at hc
 unfold Blk at h
 rw [h] at hc
 injection hc with hc
 injection hc with _ hc
 exact he hc
def ChgC (w : World) (n i : Nat) (leaf : List UInt8) (path : List (List UInt8)) (e : Ending) (w' : World) : Prop :=
 ∃ v vs, e = .returned (.tuple #[v, .agg (bvs (rootP n (chL path i leaf))).toArray, .int .i64 0]) ∧ BRow w' w.heap.size v vs (chL path i leaf) ∧ Fr [] w w'
theorem chL_take {path : List (List UInt8)} {i : Nat} {leaf : List UInt8} {k : Nat} (h : k < path.length) : (chL path i leaf).take (k + 1) = (chL path i leaf).take k ++ [chB path i leaf k] := by
 rw [List.take_succ_eq_append_getElem (by rw [chL_len]; exact h)]
 congr 2
 simp [chL]
section
variable {w w' : World} {A : Option Addr} {m c n i : Nat} {vs : List Value} {path : List (List UInt8)} {leaf : List UInt8}
set_option maxHeartbeats 4000000 in
theorem trChange_any (h : PathW w A m c vs n path) (hi : i < n) (hl : leaf.length = 32) (hj : joinB i path = true) (hK : KG w) (hc : c ≤ 9223372036854775807) :
  Calls Tryz.prog 43 #[.int .i64 n, .int .i64 i, .agg (bvs leaf).toArray, .slice A m c] w (ChgC w n i leaf path) := by
 have HH := Lib.hid h
 have HLL := Lib.hid hl
 have hm := h.mb
 have hn := h.n
 have hp0 := hK.pos
 have cr := fun w1 (f : Fr [] w w1) => trRight_any (h.keep_nil f)
 have CR := Lib.hid cr
 have cj := fun w1 (f : Fr [] w w1) => trJoined_any (i := i) (h.keep_nil f) (by omega) (hK.keep f) hc
 rw [hj] at cj
 have CJ := Lib.hid cj
 have d0 : (i : Int) < n := by omega
 clear h hl hj cr cj
 go_enter Tryz.func43, Tryz.ntmps43
 go_wp2_with
  (first
   | (refine wpList_boxS (o := ⟨some 6, _, _, _, _, _⟩) rfl rfl (bvs leaf) rfl ?_; intro w1 h6 f1 z1; have Z1 := Lib.hid z1; clear z1; obtain ⟨g6, hg6⟩ : ∃ g, w.heap.size = g := ⟨_, rfl⟩; rw [hg6] at h6; rw [hg6]; have HG6 := Lib.hid hg6; clear hg6)
   | (refine wpList_alS stA32 (o := ⟨some 9, _, _, _, _, _⟩) rfl rfl ?_; intro w2 h9 f2 z2; have Z2 := Lib.hid z2; clear z2; obtain ⟨g9, hg9⟩ : ∃ g, w1.heap.size = g := ⟨_, rfl⟩; rw [hg9] at h9; rw [hg9]; have HG9 := Lib.hid hg9; clear hg9; have h6 := h6.keep_nil f2))
 have F2 := f1.trans_nil f2
 refine (CR.out w2 F2).mono ?_
 rintro e w3 ⟨rfl, f3⟩
 have F3 := F2.trans_nil f3
 go_wp2_with fail
 refine (CJ.out w3 F3).mono ?_
 rintro e w4 ⟨rfl, f4⟩
 have F4 := F3.trans_nil f4
 replace h6 := (h6.keep_nil f3).keep_nil f4
 replace h9 := (h9.keep_nil f3).keep_nil f4
 clear f1 f2 f3 f4 F2 F3 CR CJ
 go_wp2_with
  (first
   | (refine wpList_ldS stA32 rfl rfl g6 0 rfl (bvs leaf) (by rw [bvs_length, HLL.out]) h6.range0 ?_)
   | (refine wpList_alS stA32 (o := ⟨some 12, _, _, _, _, _⟩) rfl rfl ?_; intro w5 h12 f5 z5; have Z5 := Lib.hid z5; clear z5; obtain ⟨g12, hg12⟩ : ∃ g, w4.heap.size = g := ⟨_, rfl⟩; rw [hg12] at h12; rw [hg12]; have HG12 := Lib.hid hg12; clear hg12)
   | (refine wpList_stB stA32 rfl rfl g12 rfl (bvs leaf) rfl (by rw [bvs_length, HLL.out]) (bvs_one _) (bvs (zB 32)) rfl h12 ?_; intro w6 h12' f6 z6; have Z6 := Lib.hid z6; clear z6))
 have ne9 : g9 < g12 := by have := h9.lt; have := HG12.out; omega
 have hg12 : w.heap.size ≤ g12 := by have := HG12.out; have := F4.size; omega
 have hg9 : w.heap.size ≤ g9 := by have := HG9.out; have := HG6.out; have := Z1.out; omega
 have f56 : Fr [] w4 w6 := f5.trans f6 (fun i hi => .inr (by have := HG12.out; simp at hi; omega))
 have F6 := F4.trans_nil f56
 have k9 := h9.keep_nil f56
 clear h6 h9 h12 f5 f6 f56 F4
 go_loopw [1, 11, 41] (fun t1 t11 t41 wr => ∃ k : Nat, k ≤ m ∧ t41 = .int .i64 k ∧ t1 = .int .i64 ((i / 16 ^ k : Nat) : Int) ∧ Blk wr g12 39 (bvs (chD path i leaf k)).toArray ∧ Blk wr g9 39 (bvs (zB 32)).toArray ∧ (∃ us, BRow wr w.heap.size t11 us ((chL path i leaf).take k)) ∧ Fr [] w wr) (fun _ _ t _ => m - (intOf t).toNat)
 case atStart => exact ⟨0, Nat.zero_le _, rfl, by simp, h12', k9, ⟨[], by simpa using BRow.nil _ _⟩, F6⟩
 case round =>
  clear h12' k9 F6
  obtain ⟨k, hk, rfl, rfl, h12, h9, ⟨us, R⟩, F⟩ := hrel
  have hkl : ((chL path i leaf).take k).length = k := by rw [List.length_take, chL_len, HH.out.len]; omega
  have r11 := R.row
  rw [hkl] at r11
  obtain ⟨A11, c11, rfl, hc11, -, -, -, -⟩ := r11.shape
  by_cases hlt : k < m
  ·obtain ⟨g, o, gb, ob, cb, rfl, ck, hcb, rb, lb, -⟩ := (HH.out.keep_nil F).at hlt
   obtain ⟨j, hj⟩ : ∃ j, i / 16 ^ k = j := ⟨_, rfl⟩
   have hj1 : j ≤ i := by rw [← hj]; exact Nat.div_le_self _ _
   have hj2 : j ≤ 4096 := by omega
   obtain ⟨b, hb⟩ : ∃ b, path.getD k [] = b := ⟨_, rfl⟩
   obtain ⟨d, hd⟩ : ∃ d, chD path i leaf k = d := ⟨_, rfl⟩
   have hdl : d.length = 32 := by rw [← hd]; exact chD_len shaSum_length HLL.out k
   have hB : setB b j d = chB path i leaf k := by rw [← hb, ← hj, ← hd]; rfl
   have hN : nodeH (UInt8.ofNat k) (setB b j d) = chD path i leaf (k + 1) := by rw [← hb, ← hj, ← hd]; rfl
   have hjn : (j : Int) / 16 = ((i / 16 ^ (k + 1) : Nat) : Int) := by rw [Nat.pow_succ, ← Nat.div_div_eq_div_mul, hj]; omega
   have HJN := Lib.hid hjn
   have HBN := Lib.hid (And.intro hB hN)
   have HDL := Lib.hid hdl
   have HT := Lib.hid (chL_take (path := path) (i := i) (leaf := leaf) (k := k) (by rw [HH.out.len]; exact hlt))
   rw [hd] at h12
   rw [hb] at rb lb
   rw [hj]
   have HLB := Lib.hid lb
   have HR := Lib.hid R
   have HKL := Lib.hid hkl
   clear hj hb hd hB hN hjn hdl hkl
   have cc := clone_any (some ⟨gb, ob, none⟩) b 512 cb wr lb rb (by simp) (by omega)
   have l12 := h12.lt
   have l9 := h9.lt
   have hwr := F.size
   clear rb lb
   go_wp2_with fail
   refine cc.mono ?_
   rintro e w5 ⟨v5, rfl, r5, f5⟩
   obtain ⟨gk, ckk, rfl⟩ := r5.hdD (by omega)
   have hgk := r5.lt gk rfl
   have hckk : 512 ≤ ckk := by obtain ⟨A', c', e', hnc, -⟩ := r5.shape; cases e'; exact hnc
   have fD := f5.drew
   have F5 := F.trans_nil fD
   replace h12 := h12.keep_nil fD
   replace h9 := h9.keep_nil fD
   replace R := R.keep_nil fD
   have r5D := r5.keep_nil ((Fr.refl [] w5).drew)
   have cch := trChild_any gk 0 ckk j w5.drew hckk (by omega)
   rw [Nat.zero_add] at cch
   obtain ⟨cur, fz, q1, q2, q3, q4⟩ := r5D.splice (at_ := 32 * (j % 16)) (d := d) (by rw [HDL.out]; omega)
   have rd12 : Rd w5.drew (some ⟨g12, 0, none⟩) (bvs d) := Rd.of_blk h12 0 _ (fun j u hu => by rw [Nat.zero_add]; simpa using hu)
   have sz5 : w5.drew.heap.size = w5.heap.size := rfl
   have HFD := Lib.hid (And.intro fD F)
   clear cc f5 fD r5 r5D ck F r11 R
   go_upto_region 11 with fail
   refine wp_region_held_drew (S := fun _ => True) (by kernel_rfl) trivial (fun hHeld => ?_)
   refine tw 0 48 hHeld ?_
   refine tw 1 49 hHeld ?_
   refine tw 3 51 hHeld ?_
   refine tc 2 (fun K hK => ?_)
   go_simp
   refine (cch).mono ?_
   rintro e w' ⟨rfl, rfl⟩
   refine hK.out _ _ hHeld (fun hHn => ?_)
   clear hHn
   clear hK K
   try simp only [Act.put, p1, p2, p3]
   refine tcd 4 (some 52) (fun K hK => wp_cp rfl Tryz.underlying27 (by kernel_rfl) _ _ 32 (ckk - 32 * (j % 16)) 32 32 rfl rfl (bvs d) (by rw [bvs_length, HDL.out]; rfl) rd12 (bvs_one _) gk (32 * (j % 16)) (fun _ => rfl) cur 5 fz q1 q2 q3 fun w8 c1 c2 => hK _ w8 trivial fun hHeld => ?_)
   clear hK K
   try simp only [Act.put, p1, p2, p3]
   refine wpAnyH_done (by kernel_rfl) ?_ _
   have r8 := q4 w8 c1
   have ne12 : g12 ≠ gk := by omega
   have ne9k : g9 ≠ gk := by omega
   have k12 := h12.keep c2 (by simpa using ne12)
   have k9 := h9.keep c2 (by simpa using ne9k)
   have fw8 : Fr [gk] wr w8 := (HFD.out.1.mono (by simp)).trans c2 (fun i hi => .inl hi)
   have hno : ∀ e, NoTy wr [gk] e := fun e i hi cs fz => by
    rw [List.mem_singleton.1 hi, Array.getElem?_eq_none hgk.1]; intro h; cases h
   have R8 := HR.out.keepT fw8 (hno _) (hno _)
   have r11 := R8.row
   rw [HKL.out] at r11
   have F8 : Fr [] w w8 := HFD.out.2.trans fw8 (fun i hi => .inr (by rw [List.mem_singleton.1 hi]; omega))
   have rB : Row w8 wr.heap.size 5 1 (.slice (some ⟨gk, 0, none⟩) 512 ckk) 512 (bvs (setB b j d)) := r8
   have rlt := HR.out.row.lt
   have RLT := Lib.hid rlt
   have H8 := Lib.hid (And.intro k12 (And.intro k9 (And.intro R8 (And.intro F8 rB))))
   have hw8 := F8.size
   clear k12 k9 R8 fw8 hno c1 c2 r8 rB q4 q1 q2 q3 h12 h9 rd12 cch hHeld HR rlt F8
   go_wp2_with (at_builtin; refine wpList_app rfl rfl slBB w.heap.size _ k us rfl (r11.alloc _) _ 1 1 [_] rfl rfl (Rd.one _ _ _) (by intro u hu; rw [List.mem_singleton.1 hu]; rfl) (fun h => by cases h) (by omega) (by simp; omega) ?_; intro v7 wx q1 q2 q3 q4)
   replace q2 : Fr (Value.slice A11 k c11).ownBlock.toList (w8.alloc (.cells #[.slice (some ⟨gk, 0, none⟩) 512 ckk] 27)) wx := q2
   have fa : Fr [] w8 (w8.alloc (.cells #[.slice (some ⟨gk, 0, none⟩) 512 ckk] 27)) := (Fr.refl [] w8).alloc _
   obtain ⟨k12, k9, R8, F8, rB⟩ := H8.out
   have hA : ∀ i ∈ (Value.slice A11 k c11).ownBlock.toList, w.heap.size ≤ i ∧ i < wr.heap.size := fun i hi => RLT.out i (mem_own.1 hi)
   have hl5 : (setB b j d).length = 512 := setB_len HLB.out HDL.out
   have kx12 := (k12.keep_nil fa).keep q2 (fun hm => r11.ne_blk k12 (by decide) (mem_own.1 hm))
   have kx9 := (k9.keep_nil fa).keep q2 (fun hm => r11.ne_blk k9 (by decide) (mem_own.1 hm))
   have rx := (rB.keep_nil fa).keep q2 (fun g hg hm => by
    have := hA g hm
    have : g = gk := by simpa [Value.ownBlock] using hg.symm
    omega)
   have Fx : Fr [] w wx := (F8.trans_nil fa).trans q2 (fun i hi => .inr (hA i hi).1)
   have Rx := (R8.keep_nil fa).snoc (b := setB b j d) (by rw [hl5]; exact (rB.keep_nil fa).mono hwr) q2 (by rw [HKL.out]; exact q1)
   rw [HBN.out.1, ← HT.out] at Rx
   have cn := trNode_any k (by omega) (some ⟨gk, 0, none⟩) (setB b j d) 512 ckk wx hl5 rx.rdD.1 (by simp) hckk (by omega) (hK.keep Fx)
   rw [HBN.out.2] at cn
   obtain ⟨d1, hd1⟩ : ∃ d1, chD path i leaf (k + 1) = d1 := ⟨_, rfl⟩
   have hd1l : d1.length = 32 := by rw [← hd1]; exact chD_len shaSum_length HLL.out (k + 1)
   rw [hd1] at cn
   have HD1 := Lib.hid (And.intro hd1 hd1l)
   obtain ⟨A7, c7, rfl, -, -, -, -, -⟩ := q1.shape
   have HX := Lib.hid (And.intro Rx (And.intro Fx kx9))
   have HNO := Lib.hid (And.intro (kx12.noTyOf (show 39 ≠ 27 by decide)) (kx12.noTyOf (show 39 ≠ 5 by decide)))
   clear k12 k9 R8 F8 rB hl5 hA fa q1 q2 q3 q4 rx Rx Fx kx9 hd1 hd1l r11 H8
   refine cn.mono ?_
   rintro e w9 ⟨rfl, f9⟩
   have kz := kx12.keep_nil f9
   clear cn kx12
   go_wp2_with
    (first
     | (refine wpList_stB stA32 rfl rfl g12 rfl (bvs d1) rfl (by rw [bvs_length, HD1.out.2]) (bvs_one _) (bvs d) (by rw [bvs_length, HDL.out]) kz ?_; intro wz hz fz zz; clear zz))
   obtain ⟨Rx, Fx, kx9⟩ := HX.out
   have fz2 : Fr [g12] wx wz := (f9.mono (by simp)).trans fz (fun i hi => .inl hi)
   exact ⟨⟨k + 1, by omega, by go_num, by rw [HJN.out], by rw [HD1.out.1]; exact hz, kx9.keep fz2 (by simp; omega), ⟨_, Rx.keepT fz2 HNO.out.1 HNO.out.2⟩, Fx.trans fz2 (fun i hi => .inr (by rw [List.mem_singleton.1 hi]; exact hg12))⟩, by simp [intOf]; omega⟩
  ·obtain rfl : k = m := by omega
   have hD32 : (rootP n (chL path i leaf)).length = 32 := rootP_len _ _
   rw [List.take_of_length_le (by rw [chL_len, HH.out.len]; exact Nat.le_refl _)] at R
   have hp : PathW wr A11 k c11 us n (chL path i leaf) := ⟨R.brd, by rw [chL_len, HH.out.len], hc11, HH.out.lev, chL_512 HLL.out HH.out.l5, HH.out.n⟩
   have cc := trRootP_any hp (hK.keep F)
   unfold RootC at cc
   obtain ⟨D, hD⟩ : ∃ D, rootP n (chL path i leaf) = D := ⟨_, rfl⟩
   rw [hD] at cc hD32
   have HDD := Lib.hid hD
   have HDL := Lib.hid hD32
   have HR := Lib.hid (And.intro R F)
   have HNO := Lib.hid (And.intro (h9.noTyOf (show 39 ≠ 27 by decide)) (h9.noTyOf (show 39 ≠ 5 by decide)))
   have l9 := h9.lt
   clear hp R F r11 hkl hD hD32 h12
   go_wp2_with fail
   refine cc.mono ?_
   rintro e w2 ⟨rfl, f2⟩
   replace h9 := h9.keep_nil f2
   have hw2 := f2.size
   clear cc
   go_upto_region 17 with
    (first
     | (refine wpList_alS stA32 (o := ⟨some 15, _, _, _, _, _⟩) rfl rfl ?_; intro w3 h15 f3 z3; have Z3 := Lib.hid z3; clear z3; obtain ⟨g15, hg15⟩ : ∃ g, w2.heap.size = g := ⟨_, rfl⟩; rw [hg15] at h15; rw [hg15]; have HG15 := Lib.hid hg15; clear hg15)
     | (refine wpList_stB stA32 rfl rfl g15 rfl (bvs D) rfl (by rw [bvs_length, HDL.out]) (bvs_one _) (bvs (zB 32)) rfl h15 ?_; intro w4 h15' f4 z4; have Z4 := Lib.hid z4; clear z4))
   have f24 : Fr [] w2 w4 := f3.trans f4 (fun i hi => .inr (by have := HG15.out; simp at hi; omega))
   have ne15 : g15 ≠ g9 := by have := HG15.out; omega
   replace h9 := h9.keep_nil f24
   obtain ⟨wD, hwD⟩ : ∃ wD, w4.drew = wD := ⟨_, rfl⟩
   have fD : Fr [] w4 wD := by rw [← hwD]; exact (Fr.refl [] w4).drew
   replace h9 := h9.keep_nil fD
   have k15 := h15'.keep_nil fD
   have HF := Lib.hid ((f2.trans_nil f24).trans_nil fD)
   clear f2 f3 f4 f24 fD h15 h15'
   refine wp_region_held_drew (S := fun w' => Fr [g9] wD w') (by kernel_rfl) (by rw [hwD]; exact Fr.refl _ _) (fun hHeld => ?_)
   rw [hwD] at hHeld ⊢
   clear hwD
   refine tw 0 69 hHeld ?_
   refine tw 1 70 hHeld ?_ (v := .agg (bvs D).toArray) (hy := (fun w hSw => hy_ld stA32 rfl g15 0 rfl (bvs D) (by rw [bvs_length, HDL.out]) (k15.keep hSw (by simpa using ne15)).range0))
   refine tw 2 71 hHeld ?_
   refine tw 3 8 hHeld ?_
   refine tcd 4 none (fun K hK => ?_)
   refine wp_stB stA32 rfl g9 rfl (bvs D) rfl (by rw [bvs_length, HDL.out]) (bvs_one _) (bvs (zB 32)) rfl h9 (fun wz hz fz zz => hK _ wz (hHeld.trans_same fz) fun hHx => ?_)
   clear hHeld
   have hHeld := hHx
   clear hHx
   clear hK K
   try simp only [Act.put, p1, p2, p3]
   refine tw 5 10 hHeld ?_
   refine wpAnyH_done (by kernel_rfl) ?_ _
   go_wp2_with fail
   try simp only [Exit.inBlock, Exit.then]
   refine bodyPost_ret (results_tct stA32 rfl rfl (by rw [bvs_length, HDL.out]) hz) rfl ?_
   obtain ⟨R, F⟩ := HR.out
   have fz9 : Fr [g9] wr wz := (HF.out.mono (by simp)).trans hHeld (fun i hi => .inl hi)
   exact ⟨_, us, by rw [HDD.out]; rfl, R.keepT fz9 HNO.out.1 HNO.out.2, F.trans fz9 (fun i hi => .inr (by rw [List.mem_singleton.1 hi]; exact hg9))⟩
end
end
section
open Go.RowKit
set_option maxRecDepth 100000
def setP (b : List UInt8) (a : Nat) (d : List UInt8) (q : Nat) : List UInt8 := b.take a ++ d.take q ++ b.drop (a + q)
theorem setP_zero (b : List UInt8) (a : Nat) (d : List UInt8) : setP b a d 0 = b := by simp [setP]
theorem setP_all {b d : List UInt8} {a : Nat} : setP b a d d.length = b.take a ++ d ++ b.drop (a + d.length) := by simp [setP]
theorem setP_succ {b d : List UInt8} {a q : Nat} (hq : q < d.length) (hb : a + q < b.length) : (setP b a d q).set (a + q) d[q] = setP b a d (q + 1) := by
 have h1 : (b.take a ++ d.take q).length = a + q := by simp only [List.length_append, List.length_take]; omega
 unfold setP
 rw [List.set_append_right _ _ (by omega), h1, Nat.sub_self, List.drop_eq_getElem_cons hb, List.set_cons_zero]
 rw [List.take_succ_eq_append_getElem hq]
 simp only [List.append_assoc, List.cons_append, List.nil_append, Nat.add_assoc]
end
end Go.Proofs.YtbanogfljpkbkaaGreatDoor
