/-
  Texts of this claim, one behind the other: FreF, HeadK, MerH.
-/
import Derived.Test.YtbanogfljpkbkaaGreatDoorF30
import Derived.Test.YtbanogfljpkbkaaGreatDoorF38
import Derived.Test.YtbanogfljpkbkaaGreatDoorF18
import Derived.Test.YtbanogfljpkbkaaGreatDoorF9
set_option linter.unusedSimpArgs false
set_option linter.unusedVariables false
set_option linter.unnecessarySimpa false
namespace Go.Proofs.YtbanogfljpkbkaaGreatDoor
section
open Go.RowKit
set_option maxRecDepth 100000
theorem wp_bs1 {P : Program} {o : Oper} {a : Act} {w : World} {K : Act → World → Prop} {Q : Exit → Act → World → Prop} {t : TypeId} {n : Nat} {z : List Value} {ts : TypeId} {x : Operand} (hT : StT P t n z) (ht : P.underlying ts = some (.slice t)) (hpos : 0 < n) (hsm : n ≤ 2 ^ 24) (ho : o.op = .buildSlice ts 1 #[(0, x)]) (cs : List Value) (hx : a.eval x = .agg cs.toArray) (hn : cs.length = n)
  (h : ∀ w', Blk w' w.heap.size t cs.toArray → Fr [] w w' → w'.heap.size = w.heap.size + 1 → K (a.put o.dst (.slice (some ⟨w.heap.size, 0, none⟩) 1 1)) w') : o.wp P a w K Q := by
 refine wp_val (.slice (some ⟨w.heap.size, 0, none⟩) 1 1) (w.alloc (.cells cs.toArray t)) ?_ (h _ (Blk.new _ _ _) ((Fr.refl _ _).alloc _) (by simp))
 have hr := run_bs (w := w) hT ht hpos [.agg cs.toArray] (by intro v hv; rw [List.mem_singleton.1 hv]; simpa [Value.cells] using hn) (by simp) (by simpa using hsm)
 have e1 : ([Value.agg cs.toArray].flatMap fun v => v.cells.toList).toArray = cs.toArray := by simp [Value.cells]
 rw [e1] at hr
 unfold execOp
 simp only [ho, Sem.run_bind, Sem.run_pure, Result.andThen_ok]
 have e2 : (#[((0 : Nat), x)].map fun (i, x) => (i, a.eval x)) = (([Value.agg cs.toArray].zipIdx 0).map fun x => (x.2, x.1)).toArray := by simp [hx]
 rw [e2]
 show ((Instr.buildSlice ts [Value.agg cs.toArray].length _).run P w).andThen _ = _
 rw [hr]
 rfl
theorem repB_fresh (n : Nat) : repB fleaf n = (fresh n).flatten := rfl
section
variable {w w' : World} {L : LyM} {A : Option Addr} {c n : Nat}
set_option maxHeartbeats 2000000 in
theorem meFresh_any (h : LyW w A c L n) (hK : KG w) : Calls Tryz.prog 26 #[.agg (L.cells (.slice A L.lev.length c)).toArray] w (FrsC w n) := by
 have hnb := h.nb
 have CL := Lib.hid (fun w1 (f : Fr [] w w1) => meLeaves_any (h.keep_nil f))
 have HKG := Lib.hid hK
 clear h hK
 obtain ⟨Cs, hCs⟩ : ∃ Cs, L.cells (.slice A L.lev.length c) = Cs := ⟨_, rfl⟩
 have HCL := Lib.hid (show Cs.length = 9 by rw [← hCs]; rfl)
 rw [hCs] at CL ⊢
 clear hCs
 have emx : max (n : Int) 0 = n := by omega
 go_enter Tryz.func26, Tryz.ntmps26
 go_wp2_with
  (first
   | (refine wpList_boxS (o := ⟨some 1, _, _, _, _, _⟩) rfl rfl Cs rfl ?_; intro w1 hB f1 z1; have Z1 := Lib.hid z1; clear z1; obtain ⟨gB, hgB⟩ : ∃ g, w.heap.size = g := ⟨_, rfl⟩; rw [hgB] at hB; rw [hgB]; have HGB := Lib.hid hgB; clear hgB)
   | (refine wpList_alS stA32 (o := ⟨some 3, _, _, _, _, _⟩) rfl rfl ?_; intro w2 h3 f2 z2; have Z2 := Lib.hid z2; clear z2; obtain ⟨g3, hg3⟩ : ∃ g1, w1.heap.size = g1 := ⟨_, rfl⟩; rw [hg3] at h3; rw [hg3]; have HG3 := Lib.hid hg3; clear hg3))
 have F2 := f1.trans_nil f2
 have b2 := hB.keep_nil f2
 have HW3 := Lib.hid (show w.heap.size ≤ g3 by have := HG3.out; have := Z1.out; omega)
 obtain ⟨D, hD⟩ : ∃ D, fleaf = D := ⟨_, rfl⟩
 have HFL := Lib.hid (show D.length = 32 by rw [← hD]; exact shaSum_length _)
 have HD := Lib.hid hD
 have H3 := Lib.hid (And.intro h3 F2)
 clear f1 f2 hB h3 hD
 try simp only [Act.put, p1, p2, p3]
 go_cut [4] from 8 to 14 (fun v wx => ∃ A4 c4, v = .slice A4 n c4 ∧ n ≤ c4 ∧ Rd wx A4 (bvs (fresh n).flatten) ∧ Fr [] w2 wx)
 case first =>
  go_upto_region 1 with fail
  obtain ⟨wD, hwD⟩ : ∃ wD, w2.drew = wD := ⟨_, rfl⟩
  have fD : Fr [] w2 wD := by rw [← hwD]; exact (Fr.refl [] w2).drew
  have FDD := Lib.hid (And.intro (F2.trans_nil fD) fD)
  have bD := b2.keep_nil fD
  clear b2 F2 fD
  refine wp_region_held_drew (S := fun w' => Fr [] wD w') (by kernel_rfl) (by rw [hwD]; exact Fr.refl _ _) (fun hHeld => ?_)
  rw [hwD] at hHeld ⊢
  clear hwD
  refine tw 3 11 hHeld ?_ (v := .agg Cs.toArray) (hy := fun w hSw => hy_ld stLay rfl gB 0 rfl Cs HCL.out (bD.keep_nil hSw).range0)
  refine tcd 0 (some 8) (fun K hK => ?_)
  refine wp_mkS (v := .int .u8 0) rfl slB rfl .i64 .i64 512 512 512 512 rfl rfl rfl rfl (Nat.le_refl _) (by decide) (fun wm km fm zm => hK _ _ fm (fun hHx => ?_))
  obtain ⟨gm, hgm⟩ : ∃ gm, wD.heap.size = gm := ⟨_, rfl⟩
  rw [hgm] at km ⊢
  have rdm : Rd wm (some ⟨gm, 0, none⟩) (bvs zB512) := Rd.of_blk km 0 _ (fun j u hu => by rw [zB512_vs] at hu; rw [Nat.zero_add]; simpa using hu)
  clear hK km fm zm hgm hHeld
  have hHeld := hHx
  clear hHx
  try simp only [Act.put, p1, p2, p3]
  refine tc 1 (fun K hK => ?_)
  go_simp
  refine (trLeaf_any _ zB512 512 512 wm zB512_len rdm (by simp) (by omega) (by omega) (HKG.out.keep (FDD.out.1.trans_nil hHeld))).mono ?_
  rw [show leafH zB512 = fleaf from rfl, HD.out]
  rintro e w5 ⟨rfl, f5⟩
  refine hK.out _ _ (hHeld.trans_nil f5) (fun hHx => ?_)
  clear hK hHeld rdm f5
  have hHeld := hHx
  clear hHx
  try simp only [Act.put, p1, p2, p3]
  refine take_2c 2 4 rfl rfl (by kernel_rfl) (by rfl) (by rfl) (fun K hK => ?_) (fun K hK => ?_)
  ·skip
   refine wp_bs1 stA32 Tryz.underlying48 (by omega) (by decide) rfl (bvs D) rfl (by rw [bvs_length, HFL.out]) (fun w6 hb fb zb => hK.out _ _ (hHeld.trans_nil fb) (fun hHx => ?_))
   obtain ⟨gs, hgs⟩ : ∃ gs, w5.heap.size = gs := ⟨_, rfl⟩
   rw [hgs] at hb
   have hrd : Rd w6 (some ⟨gs, 0, none⟩) (bvs D) := Rd.of_blk hb 0 _ (fun j u hu => by rw [Nat.zero_add]; simpa using hu)
   clear hK hHeld hb fb zb
   have hHeld := hHx
   clear hHx
   rw [hgs]
   clear hgs
   (try dsimp only)
   try simp only [Act.put, p1, p2, p3]
   refine tc 4 (fun K hK => ?_)
   go_simp
   refine (CL.out w6 (FDD.out.1.trans_nil hHeld)).mono ?_
   rintro e w7 ⟨rfl, f7⟩
   refine hK.out _ _ (hHeld.trans_nil f7) (fun hHx => ?_)
   clear hK hHeld
   have hHeld := hHx
   clear hHx
   try simp only [Act.put, p1, p2, p3]
   refine tw 5 13 hHeld ?_
   replace hrd := hrd.keep_nil f7
   clear f7
   refine tc 6 (fun K hK => ?_)
   go_simp
   refine (slRepeat_any (c := 1) HFL.out hrd hnb).mono ?_
   rintro e wr ⟨v4, rfl, R4, f9⟩
   refine hK.out _ _ (hHeld.trans_nil f9) (fun hHx => ?_)
   have FX := hHeld.trans_nil f9
   clear hK hHeld
   try simp only [Act.put, p1, p2, p3]
   have hHeld := hHx
   refine tw 7 4 hHeld ?_
   refine wpAnyH_done (by kernel_rfl) ?_ _
   clear hHeld hHx
   go_wp2_with fail
   go_meet
   obtain ⟨A4, c4, e4, hc4, -, -, -, -⟩ := R4.shape
   subst e4
   have rd4 := R4.rdD.1
   rw [← HD.out, repB_fresh] at rd4
   exact ⟨A4, c4, rfl, hc4, rd4, FDD.out.2.trans_nil FX⟩
  ·skip
   go_simp
   refine (CL.out w5 (FDD.out.1.trans_nil hHeld)).mono ?_
   rintro e w6 ⟨rfl, f7⟩
   refine hK.out _ _ (hHeld.trans_nil f7) (fun hHx => ?_)
   clear hK hHeld
   have hHeld := hHx
   clear hHx
   try simp only [Act.put, p1, p2, p3]
   refine tw 5 13 hHeld ?_
   clear f7
   refine tc 2 (fun K hK => ?_)
   refine wp_bs1 stA32 Tryz.underlying48 (by omega) (by decide) rfl (bvs D) rfl (by rw [bvs_length, HFL.out]) (fun w7 hb fb zb => hK.out _ _ (hHeld.trans_nil fb) (fun hHx => ?_))
   obtain ⟨gs, hgs⟩ : ∃ gs, w6.heap.size = gs := ⟨_, rfl⟩
   rw [hgs] at hb
   have hrd : Rd w7 (some ⟨gs, 0, none⟩) (bvs D) := Rd.of_blk hb 0 _ (fun j u hu => by rw [Nat.zero_add]; simpa using hu)
   clear hK hHeld hb fb zb
   have hHeld := hHx
   clear hHx
   rw [hgs]
   clear hgs
   (try dsimp only)
   try simp only [Act.put, p1, p2, p3]
   refine tc 6 (fun K hK => ?_)
   go_simp
   refine (slRepeat_any (c := 1) HFL.out hrd hnb).mono ?_
   rintro e wr ⟨v4, rfl, R4, f9⟩
   refine hK.out _ _ (hHeld.trans_nil f9) (fun hHx => ?_)
   have FX := hHeld.trans_nil f9
   clear hK hHeld
   try simp only [Act.put, p1, p2, p3]
   have hHeld := hHx
   refine tw 7 4 hHeld ?_
   refine wpAnyH_done (by kernel_rfl) ?_ _
   clear hHeld hHx
   go_wp2_with fail
   go_meet
   obtain ⟨A4, c4, e4, hc4, -, -, -, -⟩ := R4.shape
   subst e4
   have rd4 := R4.rdD.1
   rw [← HD.out, repB_fresh] at rd4
   exact ⟨A4, c4, rfl, hc4, rd4, FDD.out.2.trans_nil FX⟩
 case rest =>
  obtain ⟨A4, c4, rfl, hc4, rd4, fc⟩ := hcut
  obtain ⟨h3, -⟩ := H3.out
  have k3 := h3.keep_nil fc
  have Fc := F2.trans_nil fc
  have cc := trBuild_any (w := wc) (fresh_len n) hnb (fresh_32 n) rd4 hc4 (HKG.out.keep Fc)
  have HF := Lib.hid Fc
  clear b2 F2 fc Fc h3 rd4 hc4 emx
  go_wp2_with fail
  refine cc.mono ?_
  rintro e w8 ⟨v, us, rfl, RB, f8⟩
  have hDL : (bldR (fresh n)).length = 32 := shaSum_length _
  obtain ⟨E, hE⟩ : ∃ E, bldR (fresh n) = E := ⟨_, rfl⟩
  rw [hE] at hDL ⊢
  have HEL := Lib.hid (And.intro hDL hE)
  have k3x := k3.keep_nil f8
  have l3 := k3x.lt
  clear cc k3 hDL hE
  go_upto_region 3 with
   (first
    | (refine wpList_alS stA32 (o := ⟨some 6, _, _, _, _, _⟩) rfl rfl ?_; intro w9 h9 f9 z9; have Z9 := Lib.hid z9; clear z9; obtain ⟨g9, hg9⟩ : ∃ g, w8.heap.size = g := ⟨_, rfl⟩; rw [hg9] at h9; rw [hg9]; have HG9 := Lib.hid hg9; clear hg9)
    | (refine wpList_stB stA32 rfl rfl g9 rfl (bvs E) rfl (by rw [bvs_length, HEL.out.1]) (bvs_one _) (bvs (zB 32)) rfl h9 ?_; intro w10 h10 f10 z10; have Z10 := Lib.hid z10; clear z10))
  have f8a : Fr [] w8 w10 := f9.trans f10 (fun i hi => .inr (by have := HG9.out; simp at hi; omega))
  have ne9 : g9 ≠ g3 := by have := HG9.out; omega
  replace k3x := k3x.keep_nil f8a
  obtain ⟨wD, hwD⟩ : ∃ wD, w10.drew = wD := ⟨_, rfl⟩
  have fD : Fr [] w10 wD := by rw [← hwD]; exact (Fr.refl [] w10).drew
  replace k3x := k3x.keep_nil fD
  have k9 := h10.keep_nil fD
  have HB := Lib.hid (And.intro ((HF.out.trans_nil f8).trans_nil (f8a.trans_nil fD)) ((RB.keep_nil f8a).keep_nil fD))
  have HWS := Lib.hid (HF.out.size)
  clear f9 f10 f8a fD h9 h10 RB f8
  refine wp_region_held_drew (S := fun w' => Fr [g3] wD w') (by kernel_rfl) (by rw [hwD]; exact Fr.refl _ _) (fun hHeld => ?_)
  rw [hwD] at hHeld ⊢
  clear hwD
  try simp only [Act.put, p1, p2, p3]
  refine tw 0 21 hHeld ?_
  refine tw 1 22 hHeld ?_ (v := .agg (bvs E).toArray) (hy := (fun w hSw => hy_ld stA32 rfl g9 0 rfl (bvs E) (by rw [bvs_length, HEL.out.1]) (k9.keep hSw (by simpa using ne9)).range0))
  refine tw 2 2 hHeld ?_
  refine tcd 3 none (fun K hK => ?_)
  refine wp_stB stA32 rfl g3 rfl (bvs E) rfl (by rw [bvs_length, HEL.out.1]) (bvs_one _) (bvs (zB 32)) rfl k3x (fun wz hz fz zz => hK _ wz (hHeld.trans_same fz) fun hHx => ?_)
  clear hHeld
  refine wpAnyH_done (by kernel_rfl) ?_ _
  go_wp2_with fail
  try simp only [Exit.inBlock, Exit.then]
  refine bodyPost_ret (results_tc stA32 rfl rfl (by rw [bvs_length, HEL.out.1]) hz) rfl ?_
  have hno : ∀ e, e ≠ 39 → NoTy wD [g3] e := fun e he => k3x.noTyOf (fun h => he h.symm)
  exact ⟨v, us, by rw [HEL.out.2]; rfl, (HB.out.2.keepT fz (hno _ (by decide)) (hno _ (by decide)) (hno _ (by decide))).mono (by have := HWS.out; omega), HB.out.1.trans fz (fun i hi => .inr (by rw [List.mem_singleton.1 hi]; exact HW3.out))⟩
end
end
section
open Go.RowKit
def XSt (s : Nat) (done : List Nat) (cur : Nat) : Prop := (done = [] ∧ cur = oneN s) ∨ (done = [oneN s] ∧ cur = 1 ∧ 1 < oneN s)
theorem XSt.next {s : Nat} {done : List Nat} {cur : Nat} (hs : 1 ≤ s ∧ s ≤ 1024) (h : XSt s done cur) : done.length ≤ 1 ∧ cur ≤ 8 ∧ sumL done ≤ 8 ∧ ((1 < cur ∧ XSt s (done ++ [cur]) 1 ∧ (cur + 15) / 16 = 1) ∨ (cur = 1 ∧ done ++ [cur] = levN s)) := by
 have b2 := oneN_b hs
 rcases h with ⟨rfl, rfl⟩ | ⟨rfl, rfl, h⟩
 ·refine ⟨by simp, by omega, by simp [sumL], ?_⟩
  by_cases h1 : 1 < oneN s
  ·exact .inl ⟨h1, .inr ⟨rfl, rfl, h1⟩, by omega⟩
  ·have h2 : oneN s = 1 := by omega
   exact .inr ⟨h2, by rw [levN, if_pos h2, h2]; rfl⟩
 ·exact ⟨by simp, by omega, by rw [sumL_one]; omega, .inr ⟨rfl, by rw [levN, if_neg (by omega)]; rfl⟩⟩
set_option maxRecDepth 100000 in
set_option maxHeartbeats 4000000 in
theorem xhLayout_any (w : World) (h : HeadM) (hs : h.ok) : Calls Tryz.prog 18 #[.agg h.cells.toArray] w (LayH w h) := by
 cases hg : h.good
 ·have HG := Lib.hid hg
  have cc := fun w => xhCheck_any h hs w
  rw [hg] at cc
  have CC := Lib.hid cc
  clear cc hg
  go_enter Tryz.func18, Tryz.ntmps18
  go_wp2_with
   (first
    | (refine wpList_boxS rfl rfl h.cells rfl ?_; intro w1 h1 f1 z1; have Z1 := Lib.hid z1; clear z1; obtain ⟨g, hg⟩ : ∃ g, w.heap.size = g := ⟨_, rfl⟩; rw [hg] at h1; rw [hg]; have HGG := Lib.hid hg; clear hg)
    | (refine wpList_alS stLay (o := ⟨some 2, _, _, _, _, _⟩) rfl rfl ?_; intro w2 h2 f2 z2; have Z2 := Lib.hid z2; clear z2; obtain ⟨g2, hg2⟩ : ∃ g2, w1.heap.size = g2 := ⟨_, rfl⟩; rw [hg2] at h2; rw [hg2]; have HG2 := Lib.hid hg2; clear hg2; have h1 := h1.keep_nil f2)
    | (refine wpList_ldS stHead rfl rfl g 0 rfl h.cells (HeadM.len hs) h1.range0 ?_))
  refine (CC.out _).mono ?_
  rintro e w3 ⟨rfl, f3⟩
  rw [show errG false 1 = 1 from rfl]
  have i2 := h2.keep_nil f3
  have z0 := HGG.out
  have z2 := HG2.out
  have s1 := f1.size
  go_wp2_with
   (first
    | (refine wpList_bld rfl rfl (.agg zeroL.toArray) ?_ ?_; exact layZero _)
    | (refine wpList_stB stLay rfl rfl g2 rfl zeroL rfl rfl layC_ones zeroL rfl i2 ?_; intro wc hc fc zc))
  try simp only [Exit.inBlock, Exit.then]
  refine bodyPost_ret (results_cell2 stLay rfl rfl rfl hc) rfl ?_
  exact ⟨.slice none 0 0, by rw [HG.out]; rfl, by rw [HG.out]; exact Row.nil _ _ _ _, ((f1.trans_nil f2).trans_nil f3).trans fc (fun i hi => .inr (by simp at hi; omega))⟩
 ·have HG := Lib.hid hg
  have I := HeadM.in_of hg
  obtain ⟨ns, nl, nj, ne, nt, nm, na, NN⟩ := HeadM.nat_of I
  have HN := Lib.hid NN
  have B1 := NN.bs
  have B2 := NN.bl
  have B3 := NN.bj
  have cc := fun w => xhCheck_any h hs w
  rw [hg] at cc
  have CC := Lib.hid cc
  clear cc hg I NN
  obtain ⟨k1, hk1⟩ : ∃ k : Nat, k = 2 + nl := ⟨_, rfl⟩
  obtain ⟨k2, hk2⟩ : ∃ k : Nat, k = 3 + nl := ⟨_, rfl⟩
  obtain ⟨k3, hk3⟩ : ∃ k : Nat, k = 4 + nl := ⟨_, rfl⟩
  obtain ⟨k4, hk4⟩ : ∃ k : Nat, k = 4 + nl + nj := ⟨_, rfl⟩
  have E1 : (2 : Int) + (nl : Int) = (k1 : Int) := by omega
  have E2 : (3 : Int) + (nl : Int) = (k2 : Int) := by omega
  have E3 : (4 : Int) + (nl : Int) = (k3 : Int) := by omega
  have E4 : (k3 : Int) + (nj : Int) = (k4 : Int) := by omega
  have HK := Lib.hid (And.intro hk1 (And.intro hk2 (And.intro hk3 hk4)))
  have K3 : k3 ≤ 12 := by omega
  have K4 : k4 ≤ 300 := by omega
  clear hk1 hk2 hk3 hk4
  go_enter Tryz.func18, Tryz.ntmps18
  go_wp2_with
   (first
    | (refine wpList_boxS rfl rfl h.cells rfl ?_; intro w1 h1 f1 z1; have Z1 := Lib.hid z1; clear z1; obtain ⟨g, hg⟩ : ∃ g, w.heap.size = g := ⟨_, rfl⟩; rw [hg] at h1; rw [hg]; have HGG := Lib.hid hg; clear hg)
    | (refine wpList_alS stLay (o := ⟨some 2, _, _, _, _, _⟩) rfl rfl ?_; intro w2 h2 f2 z2; have Z2 := Lib.hid z2; clear z2; obtain ⟨g2, hg2⟩ : ∃ g2, w1.heap.size = g2 := ⟨_, rfl⟩; rw [hg2] at h2; rw [hg2]; have HG2 := Lib.hid hg2; clear hg2; have h1 := h1.keep_nil f2)
    | (refine wpList_ldS stHead rfl rfl g 0 rfl h.cells (HeadM.len hs) h1.range0 ?_))
  refine (CC.out _).mono ?_
  rintro e w3 ⟨rfl, f3⟩
  rw [show errG true 1 = 0 from rfl]
  have i2 := h2.keep_nil f3
  have i1 := h1.keep_nil f3
  have F3 := (f1.trans_nil f2).trans_nil f3
  have z0 := HGG.out
  have z2 := HG2.out
  have s1 := h1.lt
  have s2 := i2.lt
  have s3 := f1.size
  clear h1 h2 f1 f2 f3
  obtain ⟨-, -, c2, c3, -, -, -, -⟩ := head_cellsN HN.out i1
  go_upto_region 4 with
   (first
    | (refine wpList_bldK (o := ⟨some 26, _, _, _, _, _⟩) rfl rfl #[(0, .int .i64 2), (1, .int .i64 (k1 : Int)), (2, .int .i64 (k2 : Int)), (3, .int .i64 (k3 : Int)), (4, .int .i64 (k4 : Int))] (by kernel_rfl) (.agg (layC 2 k1 k2 k3 k4 (.slice none 0 0) 0 0 0).toArray) (layFive _ k1 k2 k3 k4) ?_)
    | (refine wpList_alS stLay (o := ⟨some 4, _, _, _, _, _⟩) rfl rfl ?_; intro w4 h4 f4 z4; have Z4 := Lib.hid z4; clear z4; obtain ⟨g5, hg5⟩ : ∃ g5, w3.heap.size = g5 := ⟨_, rfl⟩; rw [hg5] at h4; rw [hg5]; have HG5 := Lib.hid hg5; clear hg5)
    | (refine wpList_stB stLay rfl rfl g5 rfl (layC 2 k1 k2 k3 k4 (.slice none 0 0) 0 0 0) rfl rfl layC_ones zeroL rfl h4 ?_; intro w5 h5 f5 z5; have Z5 := Lib.hid z5; clear z5))
  have ne1 : g < g5 := by have := HG5.out; omega
  have ne3 : g2 < g5 := by have := HG5.out; omega
  have j1 := (i1.keep_nil f4).keep f5 (by simp; omega)
  replace i2 := (i2.keep_nil f4).keep f5 (by simp; omega)
  have F : Fr [] w w5 := (F3.trans_nil f4).trans f5 (fun i hi => .inr (by simp at hi; omega))
  clear F3 f4 f5 h4 i1 c2 c3 E1 E2 E3 E4
  obtain ⟨-, c1, -, -, -, -, -, -⟩ := head_cellsN HN.out j1
  go_wp2_with fail
  have cc := xhUp_any ns 8 w5 (by omega) (.inl rfl)
  rw [show ((ns + (8 - 1)) / 8 : Nat) = tagsN ns from rfl] at cc
  refine cc.mono ?_
  clear cc
  rintro e w' ⟨rfl, rfl⟩
  have T0 := tagsN_b B1
  have O0 := oneN_b B1
  obtain ⟨T, hT⟩ : ∃ T, tagsN ns = T := ⟨_, rfl⟩
  have hO : (T + 15) / 16 = oneN ns := by rw [← hT]; rfl
  rw [hT]
  rw [hT] at T0
  have HT := Lib.hid hT
  have HO := Lib.hid hO
  clear hT hO c1
  have e4 := h5.cell 4
  have e6 := h5.cell 6
  have y6 := h5.frozen 6
  simp [layC] at e4 e6
  go_upto_region 6 with fail
  have fs := (Fr.refl [g5] w5).setCell (p := ⟨g5, 6, none⟩) (.inl (by simp)) (.int .i64 (k4 : Int))
  have h6 := h5.set_ 6 (.int .i64 (k4 : Int))
  replace j1 := j1.keep fs (by simp; omega)
  skip
  replace i2 := i2.keep fs (by simp; omega)
  replace F := F.trans fs (fun i hi => .inr (by simp at hi; omega))
  generalize World.setCell w5 ⟨g5, 6, none⟩ (.int .i64 (k4 : Int)) = w6 at *
  clear h5 fs e4 e6 y6
  have h5 : Blk w6 g5 38 (layC 2 k1 k2 k3 k4 (.slice none 0 0) k4 0 0).toArray := h6
  clear h6
  go_wp2_with fail
  have cc := xhUp_any T 16 w6 (by omega) (.inr rfl)
  rw [show ((T + (16 - 1)) / 16 : Nat) = oneN ns from HO.out] at cc
  refine cc.mono ?_
  clear cc
  rintro e w' ⟨rfl, rfl⟩
  go_wp2_with fail
  go_loopw [6] (fun n wr => ∃ done cur A m c, n = .int .i64 ((cur : Nat) : Int) ∧ XSt ns done cur ∧ m = done.length ∧ Blk wr g5 38 (layC 2 k1 k2 k3 k4 (.slice A m c) (k4 + sumL done) 0 0).toArray ∧ Row wr w.heap.size 3 1 (.slice A m c) m (ivs done) ∧ Blk wr g 62 h.cells.toArray ∧ Blk wr g2 38 zeroL.toArray ∧ Fr [] w wr) (fun _ wr => 3 - lenAt wr g5)
  case atStart => exact ⟨[], oneN ns, none, 0, 0, rfl, .inl ⟨rfl, rfl⟩, rfl, h5, Row.nil _ _ _ _, j1, i2, F⟩
  case round =>
   clear h5 j1 i2 F
   obtain ⟨done, cur, A, m, c, rfl, hst, hm, h5, r5, j1, i2, F⟩ := hrel
   subst hm
   obtain ⟨hdl, hcur, hsb, hnext⟩ := hst.next B1
   obtain ⟨S, hS⟩ : ∃ S, k4 + sumL done = S := ⟨_, rfl⟩
   have hS' : k4 + sumL (done ++ [cur]) = S + cur := by rw [sumL_append, sumL_one]; omega
   have HS' := Lib.hid hS'
   have HNX := Lib.hid hnext
   rw [hS] at h5
   have Sb : S ≤ 310 := by omega
   have c5 := h5.cell 5
   have c6 := h5.cell 6
   have y5 := h5.frozen 5
   have y6 := h5.frozen 6
   simp [layC] at c5 c6
   have hlen : lenAt wr g5 = done.length := by simp [lenAt, c5]
   have HLEN := Lib.hid hlen
   obtain ⟨dl, hdl'⟩ : ∃ n, done.length = n := ⟨_, rfl⟩
   rw [hdl'] at h5 r5 c5 hdl
   have HDL := Lib.hid hdl'
   clear hnext hS hS' hst hsb hlen
   go_upto_region 10 with
    (first
     | (at_builtin; refine wpList_app rfl rfl slI w.heap.size _ dl (ivs done) rfl (r5.alloc _) _ 1 1 [_] rfl rfl (Rd.one _ _ _) (by intro u hu; rw [List.mem_singleton.1 hu]; rfl) (fun h => by cases h) (by omega) (by have := F.size; simp; omega) ?_; intro v7 w7 q1 q2 q3 q4; have h7 := (h5.alloc (.cells #[.int .i64 (cur : Int)] 3)).keep q2 (fun hm => r5.ne_blk h5 (by decide) (mem_own.1 hm)); have d5 := h7.cell 5; have d6 := h7.cell 6; have x5 := h7.frozen 5; have x6 := h7.frozen 6; simp [layC] at d5 d6; obtain ⟨A7, cap7, rfl, -, -, -, -, -⟩ := q1.shape))
   have F7 : Fr [] w w7 := (F.alloc _).trans q2 (fun i hi => .inr (r5.lt i (mem_own.1 hi)).1)
   have j7 := (j1.alloc (.cells #[.int .i64 (cur : Int)] 3)).keep q2 (fun hm => r5.ne_blk j1 (by decide) (mem_own.1 hm))
   have i7 := (i2.alloc (.cells #[.int .i64 (cur : Int)] 3)).keep q2 (fun hm => r5.ne_blk i2 (by decide) (mem_own.1 hm))
   have n7 := q1.ne_blk h7 (by decide)
   rw [show ivs done ++ [Value.int .i64 (cur : Int)] = ivs (done ++ [cur]) by rw [ivs_append]; rfl] at q1
   have h8 := (h7.set_ 5 (.slice A7 (dl + 1) cap7)).set_ 6 (.int .i64 ((S : Int) + (cur : Int)))
   have fs : Fr [g5] w7 ((w7.setCell ⟨g5, 5, none⟩ (.slice A7 (dl + 1) cap7)).setCell ⟨g5, 6, none⟩ (.int .i64 ((S : Int) + (cur : Int)))) := ((Fr.refl [g5] w7).setCell (p := ⟨g5, 5, none⟩) (.inl (by simp)) _).setCell (p := ⟨g5, 6, none⟩) (.inl (by simp)) _
   have hl8 : lenAt ((w7.setCell ⟨g5, 5, none⟩ (.slice A7 (dl + 1) cap7)).setCell ⟨g5, 6, none⟩ (.int .i64 ((S : Int) + (cur : Int)))) g5 = dl + 1 := by
    have := h8.cell 5
    simp [layC] at this
    simp [lenAt, this]
   replace j1 := j7.keep fs (by simp; omega)
   replace i2 := i7.keep fs (by simp; omega)
   replace F := F7.trans fs (fun i hi => .inr (by simp at hi; omega))
   replace r5 := q1.keep fs (fun i hi hm => n7 (by rw [hi]; simp at hm; rw [hm]))
   have h9 : Blk ((w7.setCell ⟨g5, 5, none⟩ (.slice A7 (dl + 1) cap7)).setCell ⟨g5, 6, none⟩ (.int .i64 ((S : Int) + (cur : Int)))) g5 38 (layC 2 k1 k2 k3 k4 (.slice A7 (dl + 1) cap7) (S + cur) 0 0).toArray := h8
   have HL8 := Lib.hid hl8
   clear hl8 h8 fs j7 i7 F7 q1 q2 q3 q4 h7 d5 d6 x5 x6 h5 c5 c6 y5 y6
   generalize (w7.setCell ⟨g5, 5, none⟩ (.slice A7 (dl + 1) cap7)).setCell ⟨g5, 6, none⟩ (.int .i64 ((S : Int) + (cur : Int))) = w8 at *
   rcases HNX.out with ⟨h1, hnx, hup⟩ | ⟨h1, hlev⟩
   ·have K : ((cur : Int) == 1) = false := by rw [beq_eq_false_iff_ne]; omega
    have HN1 := Lib.hid hnx
    have HUP := Lib.hid hup
    clear h1 hnx hup
    go_wp2_with fail
    have cc := xhUp_any cur 16 w8 (by omega) (.inr rfl)
    rw [show ((cur + (16 - 1)) / 16 : Nat) = 1 from HUP.out] at cc
    refine cc.mono ?_
    clear cc
    rintro e w' ⟨rfl, rfl⟩
    go_wp2_with fail
    refine ⟨⟨done ++ [cur], 1, A7, dl + 1, cap7, rfl, HN1.out, by rw [List.length_append, HDL.out]; rfl, by rw [HS'.out]; exact h9, r5, j1, i2, F⟩, by rw [HL8.out, HLEN.out, HDL.out]; omega⟩
   ·subst h1
    obtain ⟨S1, hS1⟩ : ∃ S1, S1 = S + 1 := ⟨_, rfl⟩
    rw [← hS1] at h9
    have S1b : S1 ≤ 311 := by omega
    obtain ⟨S2, hS2⟩ : ∃ S2, S2 = S1 + T := ⟨_, rfl⟩
    obtain ⟨S3, hS3⟩ : ∃ S3, S3 = S2 + ns := ⟨_, rfl⟩
    have E5 : (S1 : Int) + (T : Int) = (S2 : Int) := by omega
    have E6 : (S2 : Int) + (ns : Int) = (S3 : Int) := by omega
    have S2b : S2 ≤ 440 := by omega
    have HS2 := Lib.hid (And.intro hS2 hS3)
    have HS1 := Lib.hid (show k4 + sumL (done ++ [1]) = S1 by rw [HS'.out, hS1])
    have HLV := Lib.hid hlev
    obtain ⟨a, rfl⟩ : ∃ a, A7 = some a := by
     cases A7 with
     | none => exact absurd (r5.rd.2.2 rfl) (by omega)
     | some a => exact ⟨a, rfl⟩
    have h5 := h9
    clear h9 hS1 hS2 hS3 hlev
    have hne5 := r5.ne_blk h5 (by decide)
    have c6 := h5.cell 6
    have c7 := h5.cell 7
    have y7 := h5.frozen 7
    simp [layC] at c6 c7
    go_upto_region 12 with fail
    have fs := (Fr.refl [g5] w8).setCell (p := ⟨g5, 7, none⟩) (.inl (by simp)) (.int .i64 (S2 : Int))
    have h6 := h5.set_ 7 (.int .i64 (S2 : Int))
    replace j1 := j1.keep fs (by simp; omega)
    replace r5 := r5.keep fs (fun i hi hm => hne5 (by rw [hi]; simp at hm; rw [hm]))
    replace i2 := i2.keep fs (by simp; omega)
    replace F := F.trans fs (fun i hi => .inr (by simp at hi; omega))
    generalize World.setCell w8 ⟨g5, 7, none⟩ (.int .i64 (S2 : Int)) = w6 at *
    clear h5 fs c6 c7 y7
    have h5 : Blk w6 g5 38 (layC 2 k1 k2 k3 k4 (.slice (some a) (dl + 1) cap7) S1 S2 0).toArray := h6
    clear h6
    obtain ⟨-, c1, -, -, -, -, -, -⟩ := head_cellsN HN.out j1
    have c7 := h5.cell 7
    have c8 := h5.cell 8
    have y8 := h5.frozen 8
    simp [layC] at c7 c8
    go_upto_region 13 with fail
    have fs := (Fr.refl [g5] w6).setCell (p := ⟨g5, 8, none⟩) (.inl (by simp)) (.int .i64 (S3 : Int))
    have h6 := h5.set_ 8 (.int .i64 (S3 : Int))
    replace j1 := j1.keep fs (by simp; omega)
    replace r5 := r5.keep fs (fun i hi hm => hne5 (by rw [hi]; simp at hm; rw [hm]))
    replace i2 := i2.keep fs (by simp; omega)
    replace F := F.trans fs (fun i hi => .inr (by simp at hi; omega))
    generalize World.setCell w6 ⟨g5, 8, none⟩ (.int .i64 (S3 : Int)) = w6 at *
    clear h5 fs c1 c7 c8 y8
    have h5 : Blk w6 g5 38 (layC 2 k1 k2 k3 k4 (.slice (some a) (dl + 1) cap7) S1 S2 S3).toArray := h6
    clear h6
    go_wp2_with
     (first
      | (refine wpList_ldS stLay rfl rfl g5 0 rfl (layC 2 k1 k2 k3 k4 (.slice (some a) (dl + 1) cap7) S1 S2 S3) rfl h5.range0 ?_)
      | (refine wpList_stB stLay rfl rfl g2 rfl (layC 2 k1 k2 k3 k4 (.slice (some a) (dl + 1) cap7) S1 S2 S3) rfl rfl layC_ones zeroL rfl i2 ?_; intro wc hc fc zc))
    try simp only [Exit.inBlock, Exit.then]
    refine bodyPost_ret (results_cell2 stLay rfl rfl rfl hc) rfl ?_
    obtain ⟨hk1, hk2, hk3, hk4⟩ := HK.out
    have e : layH h.sec.toNat h.slo.toNat h.jou.toNat (.slice (some a) (dl + 1) cap7) = layC 2 k1 k2 k3 k4 (.slice (some a) (dl + 1) cap7) S1 S2 S3 := by
     rw [HN.out.sec, HN.out.slo, HN.out.jou]
     simp only [Int.toNat_natCast]
     unfold layH
     rw [← hk4, ← hk3, ← hk1, ← hk2, ← HLV.out, HS1.out, HT.out, ← HS2.out.1, ← HS2.out.2]
    have e2 : levN h.sec.toNat = done ++ [1] := by rw [HN.out.sec, Int.toNat_natCast, HLV.out]
    refine ⟨.slice (some a) (dl + 1) cap7, by rw [HG.out, if_pos rfl, e]; rfl, ?_, F.trans fc (fun i hi => .inr (by simp at hi; omega))⟩
    rw [HG.out, if_pos rfl, if_pos rfl, e2, List.length_append, HDL.out]
    exact r5.keep fc (fun i hi hm => (r5.ne_blk i2 (by decide)) (by rw [hi]; simp at hm; rw [hm]))
end
section
open Go.RowKit
set_option maxRecDepth 100000
def hdM (s : Int) : HeadM := ⟨1, s, 1, 40, 2, 1, 8, 1, List.replicate 16 0⟩
theorem hdM_ok {s : Int} (h : in64 s) : (hdM s).ok := ⟨by show (1 : Nat) < _; decide, h, (⟨by decide, by decide⟩ : in64 1), (⟨by decide, by decide⟩ : in64 40), (⟨by decide, by decide⟩ : in64 2), (⟨by decide, by decide⟩ : in64 1), (⟨by decide, by decide⟩ : in64 8), (⟨by decide, by decide⟩ : in64 1), rfl⟩
theorem hdM_good {s : Nat} (h : 1 ≤ s ∧ s ≤ 1024) : (hdM s).good = true := HeadM.good_of ⟨by show 1 ≤ 1; decide, by show (1 : Int) ≤ s ∧ (s : Int) ≤ 1024; omega, by show (1 : Int) ≤ 1 ∧ (1 : Int) ≤ 8; decide, by show (16 : Int) ≤ 40 ∧ (40 : Int) ≤ 256; decide, by show (1 : Int) ≤ 2 ∧ (2 : Int) ≤ 16; decide, by show (2 : Int) + 10 ≤ 40; decide, by show (1 : Int) ≤ 1 ∧ (1 : Int) ≤ 8; decide, by show (1 : Int) ≤ 1 ∧ (1 : Int) ≤ 4; decide, by show (8 : Int) * 1 ≤ 8 ∧ (8 : Int) ≤ 256; decide⟩
theorem head17B (w : World) (s : Int) : (Instr.build 62 #[(0, .int .u64 1), (1, .int .i64 s), (2, .int .i64 1), (3, .int .i64 40), (4, .int .i64 2), (5, .agg #[.int .i64 1, .int .i64 8, .int .i64 1])]).run Tryz.prog w = .ok (.agg (hdM s).cells.toArray) w := by kernel_rfl
theorem par17B (w : World) : (Instr.build 59 #[(0, .int .i64 1), (1, .int .i64 8), (2, .int .i64 1)]).run Tryz.prog w = .ok (.agg #[.int .i64 1, .int .i64 8, .int .i64 1]) w := by kernel_rfl
set_option maxHeartbeats 1000000 in
theorem head17_any (w : World) (s : Int) : Calls Tryz.prog 19 #[.int .i64 s] w fun e w' => e = .returned (.agg (hdM s).cells.toArray) ∧ Fr [] w w' := by
 obtain ⟨H, hH⟩ : ∃ H, (hdM s).cells = H := ⟨_, rfl⟩
 have HL := Lib.hid (show H.length = 24 by rw [← hH]; simp [HeadM.cells, hdM, bvs])
 have HO := Lib.hid (show ∀ u ∈ H, u.oneCell' = true by rw [← hH]; exact HeadM.ones _)
 have HB := Lib.hid (show ∀ w, _ from fun w => head17B w s)
 rw [hH] at HB ⊢
 clear hH
 go_enter Tryz.func19, Tryz.ntmps19
 go_wp2_with
  (first
   | (refine wpList_alS stHead (o := ⟨some 2, _, _, _, _, _⟩) rfl rfl ?_; intro w1 h1 f1 z1; have Z1 := Lib.hid z1; clear z1; obtain ⟨g1, hg1⟩ : ∃ g1, w.heap.size = g1 := ⟨_, rfl⟩; rw [hg1] at h1; rw [hg1]; have HG1 := Lib.hid hg1; clear hg1)
   | (refine wpList_bldK (o := ⟨some 4, _, _, _, _, _⟩) rfl rfl #[(0, .int .i64 1), (1, .int .i64 8), (2, .int .i64 1)] (by kernel_rfl) (.agg #[.int .i64 1, .int .i64 8, .int .i64 1]) (par17B _) ?_)
   | (refine wpList_bldK (o := ⟨some 5, _, _, _, _, _⟩) rfl rfl #[(0, .int .u64 1), (1, .int .i64 s), (2, .int .i64 1), (3, .int .i64 40), (4, .int .i64 2), (5, .agg #[.int .i64 1, .int .i64 8, .int .i64 1])] (by kernel_rfl) (.agg H.toArray) (HB.out _) ?_)
   | (refine wpList_stB stHead rfl rfl g1 rfl H rfl HL.out HO.out zeroH.cells (HeadM.len zeroH_ok) h1 ?_; intro wc hc fc zc; clear zc))
 try simp only [Exit.inBlock, Exit.then]
 refine bodyPost_ret (results_cell stHead rfl rfl HL.out hc) rfl ?_
 exact ⟨rfl, f1.trans fc (fun i hi => .inr (by have := HG1.out; simp at hi; omega))⟩
end
end Go.Proofs.YtbanogfljpkbkaaGreatDoor
