/-
  Texts of this claim, one behind the other: MerR.
-/
import Derived.Test.YtbanogfljpkbkaaGreatDoorF47
import Derived.Test.YtbanogfljpkbkaaGreatDoorF37
set_option linter.unusedSimpArgs false
set_option linter.unusedVariables false
set_option linter.unnecessarySimpa false
namespace Go.Proofs.YtbanogfljpkbkaaGreatDoor
section
open Go.RowKit
set_option maxRecDepth 100000
set_option maxHeartbeats 4000000 in
theorem lives17_any (w : World) (hK : KG w) : Calls Tryz.prog 9 #[] w fun e w' => e = .returned (.bool true) ∧ Fr [] w w' := by
 have cb := begin17_any w 99 ⟨by decide, by decide⟩ hK
 have hsb : secB 99 = 100 := by decide
 rw [hsb] at cb
 have HK := Lib.hid hK
 clear hsb hK
 go_enter Tryz.func9, Tryz.ntmps9
 go_wp2_with fail
 refine cb.mono ?_
 rintro e w1 ⟨P, O, OX, B, rfl, hB⟩
 have h0 := LvS.of hB
 have FW := hB.frW
 have T13 : tagsN 100 = 13 := by decide
 rw [T13] at h0
 obtain ⟨p1, p2, p3, p4, p5, p6, p7, p8, p9, p10⟩ := livesP h0.sg
 have HP := Lib.hid (And.intro p1 (And.intro p2 (And.intro p3 (And.intro p4 (And.intro p5 (And.intro p6 (And.intro p7 (And.intro p8 (And.intro p9 p10)))))))))
 have H0 := Lib.hid h0
 have HFW := Lib.hid FW
 obtain ⟨Cs, hCs⟩ : ∃ Cs, (lyB 100).cells (.slice P.A (lyB 100).lev.length P.c) = Cs := ⟨_, rfl⟩
 have HCs := Lib.hid hCs
 have HCL := Lib.hid (show Cs.length = 9 by rw [← hCs]; rfl)
 obtain ⟨R, hR⟩ : ∃ R, bldR (fresh 13) = R := ⟨_, rfl⟩
 have HR := Lib.hid hR
 have HRL := Lib.hid (show (bvs R).length = 32 by rw [← hR, bvs_length]; exact h0.rl)
 have HPB := Lib.hid (show P.b ∉ [P.S.m] from fun hm => h0.sm.2 (List.mem_singleton.1 hm).symm)
 have hc := h0.cells
 rw [hCs, hR] at hc
 have cl := meLeaves_any h0.lyW
 rw [hCs] at cl
 have l4 := hc.2.1
 clear cb hB h0 FW p1 p2 p3 p4 p5 p6 p7 p8 p9 p10 hCs hR hc T13
 go_wp2_with
  (first
   | (refine wpList_ldS stLay rfl rfl P.b 4 rfl Cs HCL.out l4 ?_))
 refine cl.mono ?_
 rintro e w2 ⟨rfl, f2⟩
 have H2 := Lib.hid (H0.out.keep f2)
 clear cl f2 l4 H0
 go_upto_region 4 with fail
 obtain ⟨wD, hwD⟩ : ∃ wD, w2.drew = wD := ⟨_, rfl⟩
 have fD : Fr [] w2 wD := by rw [← hwD]; exact (Fr.refl [] _).drew
 have HD := Lib.hid (H2.out.keep fD)
 have hc := HD.out.cells
 rw [HCs.out, HR.out] at hc
 have HLD := Lib.hid hc
 have HFD := Lib.hid fD
 clear hc fD
 refine wp_region_held_drew (S := fun w' => Fr [P.S.m] wD w') (by kernel_rfl) (by rw [hwD]; exact Fr.refl _ _) (fun hHeld => ?_)
 rw [hwD] at hHeld ⊢
 clear hwD
 refine tw 0 22 hHeld ?_
 refine tw 1 23 hHeld ?_
 refine tw 2 24 hHeld ?_
 refine tw 3 25 hHeld ?_ (v := .pointer (some ⟨P.S.g, 0, none⟩)) (hy := (fun w hSw => by have c := hSw.cell HPB.out HLD.out.1; go_simp))
 refine tw 4 26 hHeld ?_
 refine tw 5 27 hHeld ?_
 refine tw 6 28 hHeld ?_
 refine tw 7 29 hHeld ?_ (v := .agg Cs.toArray) (hy := (fun w hSw => hy_ld stLay rfl P.b 4 rfl Cs HCL.out (rangeAt_keep HLD.out.2.1 hSw HPB.out)))
 refine tw 8 30 hHeld ?_
 refine tw 9 31 hHeld ?_
 refine tw 10 32 hHeld ?_
 refine tw 11 33 hHeld ?_ (v := .agg (bvs R).toArray) (hy := (fun w hSw => hy_ld stA32 rfl P.b 13 rfl (bvs R) HRL.out (rangeAt_keep HLD.out.2.2 hSw HPB.out)))
 have cc := meCheck_any HD.out.sg HD.out.lyW (i := 12) (by decide) (HP.out.1.leaf HD.out.sg (by decide)) HD.out.rl (HK.out.keep (HFW.out.trans_nil HD.out.fr))
 rw [HR.out, HCs.out] at cc
 refine tc 12 (fun K hK => ?_)
 go_simp
 refine cc.mono ?_
 rintro e w3 hC
 obtain ⟨vb, rfl, rb, fb⟩ : ∃ vb, e = .returned (.tuple #[vb, .int .i64 0]) ∧ Row w3 wD.heap.size 5 1 vb 512 (bvs (rdS (mB 100) (((lyB 100).tags + 12 : Nat) : Int))) ∧ Fr [] wD w3 := by
  rcases hC with ⟨-, h⟩ | ⟨hb, -⟩
  ·exact h
  ·rw [(show lookB (mB 100) (lyB 100) 13 12 R = true by rw [← HR.out]; exact HP.out.2.1)] at hb; cases hb
 refine hK.out _ _ (hHeld.trans_nil fb) (fun hHx => ?_)
 clear hHeld hHx hK cc
 have hHeld : Fr [P.S.m] wD w3 := (Fr.refl _ _).trans_nil fb
 try simp only [Act.put, p1, p2, p3]
 refine tw 13 21 hHeld ?_
 refine tw 14 35 hHeld ?_
 refine tw 15 36 hHeld ?_
 refine tw 16 2 hHeld ?_
 refine tw 17 3 hHeld ?_
 refine wpAnyH_done (by kernel_rfl) ?_ _
 obtain ⟨A2, c2, rfl, -, -, -, -, -⟩ := rb.shape
 have H3 := Lib.hid (HD.out.keep fb)
 clear hHeld rb fb HLD HD HFD H2
 have HR1 := Lib.hid (show rL1.length = 32 from shaSum_length _)
 go_upto_region 5 with fail
 go_cut [4, 5] from 37 to 55 (fun s4 s5 wx => ∃ g4, s4 = .pointer (some ⟨g4, 0, none⟩) ∧ s5 = .int .i64 0 ∧ Blk wx g4 39 (bvs rL1).toArray ∧ LvS B wx P (lyB 100) 13 (bldR (fresh 13)) O mL1 (0 + 3))
 case first =>
  go_wp2_with fail
  obtain ⟨wD, hwD⟩ : ∃ wD, w3.drew = wD := ⟨_, rfl⟩
  have fD : Fr [] w3 wD := by rw [← hwD]; exact (Fr.refl [] _).drew
  have HD := Lib.hid (H3.out.keep fD)
  have hc := HD.out.cells
  rw [HCs.out, HR.out] at hc
  have HLD := Lib.hid hc
  have HFD := Lib.hid fD
  clear hc fD
  refine wp_region_held_drew (S := fun w' => Fr [P.S.m] wD w') (by kernel_rfl) (by rw [hwD]; exact Fr.refl _ _) (fun hHeld => ?_)
  rw [hwD] at hHeld ⊢
  clear hwD
  have HBL := Lib.hid (And.intro HD.out.sg.belowW HD.out.blk.lt)
  refine tw 0 38 hHeld ?_
  refine tw 1 39 hHeld ?_
  refine tw 2 40 hHeld ?_
  refine tw 3 41 hHeld ?_ (v := .pointer (some ⟨P.S.g, 0, none⟩)) (hy := (fun w hSw => by have c := hSw.cell HPB.out HLD.out.1; go_simp))
  refine tw 4 42 hHeld ?_
  refine tw 5 43 hHeld ?_
  refine tw 6 44 hHeld ?_
  refine tw 7 45 hHeld ?_ (v := .agg Cs.toArray) (hy := (fun w hSw => hy_ld stLay rfl P.b 4 rfl Cs HCL.out (rangeAt_keep HLD.out.2.1 hSw HPB.out)))
  refine tw 11 49 hHeld ?_
  refine tw 12 50 hHeld ?_
  refine tw 13 51 hHeld ?_
  refine tw 14 52 hHeld ?_ (v := .agg (bvs R).toArray) (hy := (fun w hSw => hy_ld stA32 rfl P.b 13 rfl (bvs R) HRL.out (rangeAt_keep HLD.out.2.2 hSw HPB.out)))
  have FQ : Fr [] wD wD := Fr.refl _ _
  refine take_2c 8 19 rfl rfl (by kernel_rfl) (by rfl) (by rfl) (fun K hK => ?_) (fun K hK => ?_)
  ·skip
   go_simp
   refine hK.out _ _ (hHeld.alloc _) (fun hHx => ?_)
   clear hK
   have k8 := Blk.new wD 5 #[.int .u8 116]
   obtain ⟨g8, hg8⟩ : ∃ g, wD.heap.size = g := ⟨_, rfl⟩
   have FQ := FQ.alloc (.cells #[.int .u8 116] 5)
   obtain ⟨w5, hv⟩ : ∃ v, wD.alloc (.cells #[.int .u8 116] 5) = v := ⟨_, rfl⟩
   rw [hv] at hHx k8 FQ ⊢
   rw [hg8] at k8 ⊢
   (have H8 := Lib.hid (show wD.heap.size ≤ g8 by rw [← hg8]; exact hHeld.size))
   clear hv hg8 hHeld
   have hHeld := hHx
   clear hHx
   try simp only [Act.put, p1, p2, p3]
   refine take_2c 9 19 rfl rfl (by kernel_rfl) (by rfl) (by rfl) (fun K hK => ?_) (fun K hK => ?_)
   ·skip
    obtain ⟨w6, hrun, hheap, fcv⟩ := convW (n := 1) (c := 1) k8
    have hcv := hrun
    clear hrun
    go_simp
    have hg8s : wD.heap.size ≤ g8 := H8.out
    have fcv' : Fr [] wD w6 := FQ.trans fcv (fun i hi => .inr (by rw [List.mem_singleton.1 hi]; exact hg8s))
    refine hK.out _ _ (hHeld.trans fcv (fun i hi => .inr (by rw [List.mem_singleton.1 hi]; exact hg8s))) (fun hHx => ?_)
    clear hK hcv
    skip
    have FQ := fcv'
    have rdk := convW_rd (l := [116]) hheap
    clear fcv' fcv hHeld k8 hheap
    have hHeld := hHx
    clear hHx
    try simp only [Act.put, p1, p2, p3]
    refine take_2c 10 19 rfl rfl (by kernel_rfl) (by rfl) (by rfl) (fun K hK => ?_) (fun K hK => ?_)
    ·skip
     have cbk := dkBlock_any w6 (some ⟨g8, 0, none⟩) 1 1 [116] rfl rdk (by omega)
     go_simp
     refine cbk.mono ?_
     rintro e w7 ⟨vq, rfl, rq, fq⟩
     obtain ⟨Aq, cq, rfl, hcq, -, -, -, -⟩ := rq.shape
     refine hK.out _ _ (hHeld.trans_nil fq) (fun hHx => ?_)
     clear hK cbk
     have FQ := FQ.trans_nil fq
     skip
     clear fq hHeld rdk
     have hHeld := hHx
     clear hHx
     try simp only [Act.put, p1, p2, p3]
     refine take_2c 15 19 rfl rfl (by kernel_rfl) (by rfl) (by rfl) (fun K hK => ?_) (fun K hK => ?_)
     ·skip
      have cg := meChange_any (HD.out.keep FQ).sg (by omega) (HD.out.keep FQ).lyW (i := 12) (by decide) (HP.out.1.leaf (HD.out.keep FQ).sg (by decide)) HD.out.rl (HK.out.keep (HFW.out.trans_nil (HD.out.keep FQ).fr)) (b := bT) bT_len rq.rdD.1 rq.rdD.2.2 hcq
      rw [HR.out, HCs.out] at cg
      go_simp
      refine cg.mono ?_
      rintro e w8 hC
      obtain ⟨rfl, hsg, fg⟩ : e = .returned (.tuple #[.agg (bvs rL1).toArray, .int .i64 0]) ∧ SgW w8 P.S O mL1 (0 + 3) ∧ Fr [P.S.m] w7 w8 := by
       rcases hC with ⟨-, -, h⟩ | ⟨-, hb, -⟩ | ⟨hb, -⟩
       ·exact h
       ·exact absurd bT_len hb
       ·rw [show lookB (mB 100) (lyB 100) 13 12 R = true by rw [← HR.out]; exact HP.out.2.1] at hb; cases hb
      refine hK.out _ _ (hHeld.trans_same fg) (fun hHx => ?_)
      clear hK cg
      have LL := (HD.out.keep FQ).chg hsg fg
      skip
      clear hsg fg hHeld FQ rq
      have hHeld := hHx
      clear hHx
      try simp only [Act.put, p1, p2, p3]
      refine tw 16 37 hHeld ?_
      refine tw 17 54 hHeld ?_
      refine tw 18 55 hHeld ?_
      refine tc 19 (fun K hK => ?_)
      refine wp_alS stA32 rfl (fun w9 k4 f4 z4 => hK.out _ _ (hHeld.trans_nil f4) (fun hHx => ?_))
      clear hK
      obtain ⟨g4, hg4⟩ : ∃ g, w8.heap.size = g := ⟨_, rfl⟩
      rw [hg4] at k4 ⊢
      have H4 := Lib.hid (show wD.heap.size ≤ g4 by rw [← hg4]; exact hHeld.size)
      (have LL := LL.keep f4)
      clear hHeld z4 hg4 f4
      have hHeld := hHx
      clear hHx
      try simp only [Act.put, p1, p2, p3]
      have hg4 := H4.out
      have hbl := HBL.out.1
      have hpb := HBL.out.2
      refine tcd 20 none (fun K hK => ?_)
      refine wp_stB stA32 rfl g4 rfl (bvs rL1) rfl (by rw [bvs_length]; exact HR1.out) (bvs_one _) (bvs (zB 32)) rfl k4 (fun wz hz fz zz => hK _ wz (hHeld.trans fz (fun i hi => .inr (by rw [List.mem_singleton.1 hi]; exact hg4))) fun hHx => ?_)
      have LZ := LL.put hbl hpb hg4 fz (k4.noTyOf (by decide))
      clear hHeld hK
      have hHeld := hHx
      clear hHx
      try simp only [Act.put, p1, p2, p3]
      refine tw 21 5 hHeld ?_
      refine wpAnyH_done (by kernel_rfl) ?_ _
      clear hHeld
      go_wp2_with fail
      go_meet
      exact ⟨g4, rfl, rfl, hz, LZ⟩
     ·skip
      refine wp_alS stA32 rfl (fun w8 k4 f4 z4 => hK.out _ _ (hHeld.trans_nil f4) (fun hHx => ?_))
      clear hK
      obtain ⟨g4, hg4⟩ : ∃ g, w7.heap.size = g := ⟨_, rfl⟩
      rw [hg4] at k4 ⊢
      have H4 := Lib.hid (show wD.heap.size ≤ g4 by rw [← hg4]; exact hHeld.size)
      (have FQ := FQ.trans_nil f4; have rq := rq.keep_nil f4)
      clear hHeld z4 hg4 f4
      have hHeld := hHx
      clear hHx
      try simp only [Act.put, p1, p2, p3]
      refine tc 15 (fun K hK => ?_)
      have cg := meChange_any (HD.out.keep FQ).sg (by omega) (HD.out.keep FQ).lyW (i := 12) (by decide) (HP.out.1.leaf (HD.out.keep FQ).sg (by decide)) HD.out.rl (HK.out.keep (HFW.out.trans_nil (HD.out.keep FQ).fr)) (b := bT) bT_len rq.rdD.1 rq.rdD.2.2 hcq
      rw [HR.out, HCs.out] at cg
      go_simp
      refine cg.mono ?_
      rintro e w9 hC
      obtain ⟨rfl, hsg, fg⟩ : e = .returned (.tuple #[.agg (bvs rL1).toArray, .int .i64 0]) ∧ SgW w9 P.S O mL1 (0 + 3) ∧ Fr [P.S.m] w8 w9 := by
       rcases hC with ⟨-, -, h⟩ | ⟨-, hb, -⟩ | ⟨hb, -⟩
       ·exact h
       ·exact absurd bT_len hb
       ·rw [show lookB (mB 100) (lyB 100) 13 12 R = true by rw [← HR.out]; exact HP.out.2.1] at hb; cases hb
      refine hK.out _ _ (hHeld.trans_same fg) (fun hHx => ?_)
      clear hK cg
      have LL := (HD.out.keep FQ).chg hsg fg
      (have k4 := k4.keep fg ((HD.out.keep FQ).sg.offF k4))
      clear hsg fg hHeld FQ rq
      have hHeld := hHx
      clear hHx
      try simp only [Act.put, p1, p2, p3]
      refine tw 16 37 hHeld ?_
      refine tw 17 54 hHeld ?_
      refine tw 18 55 hHeld ?_
      have hg4 := H4.out
      have hbl := HBL.out.1
      have hpb := HBL.out.2
      refine tcd 20 none (fun K hK => ?_)
      refine wp_stB stA32 rfl g4 rfl (bvs rL1) rfl (by rw [bvs_length]; exact HR1.out) (bvs_one _) (bvs (zB 32)) rfl k4 (fun wz hz fz zz => hK _ wz (hHeld.trans fz (fun i hi => .inr (by rw [List.mem_singleton.1 hi]; exact hg4))) fun hHx => ?_)
      have LZ := LL.put hbl hpb hg4 fz (k4.noTyOf (by decide))
      clear hHeld hK
      have hHeld := hHx
      clear hHx
      try simp only [Act.put, p1, p2, p3]
      refine tw 21 5 hHeld ?_
      refine wpAnyH_done (by kernel_rfl) ?_ _
      clear hHeld
      go_wp2_with fail
      go_meet
      exact ⟨g4, rfl, rfl, hz, LZ⟩
    ·skip
     refine wp_alS stA32 rfl (fun w7 k4 f4 z4 => hK.out _ _ (hHeld.trans_nil f4) (fun hHx => ?_))
     clear hK
     obtain ⟨g4, hg4⟩ : ∃ g, w6.heap.size = g := ⟨_, rfl⟩
     rw [hg4] at k4 ⊢
     have H4 := Lib.hid (show wD.heap.size ≤ g4 by rw [← hg4]; exact hHeld.size)
     (have FQ := FQ.trans_nil f4; have rdk := rdk.keep_nil f4)
     clear hHeld z4 hg4 f4
     have hHeld := hHx
     clear hHx
     try simp only [Act.put, p1, p2, p3]
     refine tc 10 (fun K hK => ?_)
     have cbk := dkBlock_any w7 (some ⟨g8, 0, none⟩) 1 1 [116] rfl rdk (by omega)
     go_simp
     refine cbk.mono ?_
     rintro e w8 ⟨vq, rfl, rq, fq⟩
     obtain ⟨Aq, cq, rfl, hcq, -, -, -, -⟩ := rq.shape
     refine hK.out _ _ (hHeld.trans_nil fq) (fun hHx => ?_)
     clear hK cbk
     have FQ := FQ.trans_nil fq
     (have k4 := k4.keep_nil fq)
     clear fq hHeld rdk
     have hHeld := hHx
     clear hHx
     try simp only [Act.put, p1, p2, p3]
     refine tc 15 (fun K hK => ?_)
     have cg := meChange_any (HD.out.keep FQ).sg (by omega) (HD.out.keep FQ).lyW (i := 12) (by decide) (HP.out.1.leaf (HD.out.keep FQ).sg (by decide)) HD.out.rl (HK.out.keep (HFW.out.trans_nil (HD.out.keep FQ).fr)) (b := bT) bT_len rq.rdD.1 rq.rdD.2.2 hcq
     rw [HR.out, HCs.out] at cg
     go_simp
     refine cg.mono ?_
     rintro e w9 hC
     obtain ⟨rfl, hsg, fg⟩ : e = .returned (.tuple #[.agg (bvs rL1).toArray, .int .i64 0]) ∧ SgW w9 P.S O mL1 (0 + 3) ∧ Fr [P.S.m] w8 w9 := by
      rcases hC with ⟨-, -, h⟩ | ⟨-, hb, -⟩ | ⟨hb, -⟩
      ·exact h
      ·exact absurd bT_len hb
      ·rw [show lookB (mB 100) (lyB 100) 13 12 R = true by rw [← HR.out]; exact HP.out.2.1] at hb; cases hb
     refine hK.out _ _ (hHeld.trans_same fg) (fun hHx => ?_)
     clear hK cg
     have LL := (HD.out.keep FQ).chg hsg fg
     (have k4 := k4.keep fg ((HD.out.keep FQ).sg.offF k4))
     clear hsg fg hHeld FQ rq
     have hHeld := hHx
     clear hHx
     try simp only [Act.put, p1, p2, p3]
     refine tw 16 37 hHeld ?_
     refine tw 17 54 hHeld ?_
     refine tw 18 55 hHeld ?_
     have hg4 := H4.out
     have hbl := HBL.out.1
     have hpb := HBL.out.2
     refine tcd 20 none (fun K hK => ?_)
     refine wp_stB stA32 rfl g4 rfl (bvs rL1) rfl (by rw [bvs_length]; exact HR1.out) (bvs_one _) (bvs (zB 32)) rfl k4 (fun wz hz fz zz => hK _ wz (hHeld.trans fz (fun i hi => .inr (by rw [List.mem_singleton.1 hi]; exact hg4))) fun hHx => ?_)
     have LZ := LL.put hbl hpb hg4 fz (k4.noTyOf (by decide))
     clear hHeld hK
     have hHeld := hHx
     clear hHx
     try simp only [Act.put, p1, p2, p3]
     refine tw 21 5 hHeld ?_
     refine wpAnyH_done (by kernel_rfl) ?_ _
     clear hHeld
     go_wp2_with fail
     go_meet
     exact ⟨g4, rfl, rfl, hz, LZ⟩
   ·skip
    refine wp_alS stA32 rfl (fun w6 k4 f4 z4 => hK.out _ _ (hHeld.trans_nil f4) (fun hHx => ?_))
    clear hK
    obtain ⟨g4, hg4⟩ : ∃ g, w5.heap.size = g := ⟨_, rfl⟩
    rw [hg4] at k4 ⊢
    have H4 := Lib.hid (show wD.heap.size ≤ g4 by rw [← hg4]; exact hHeld.size)
    (have FQ := FQ.trans_nil f4; have k8 := k8.keep_nil f4)
    clear hHeld z4 hg4 f4
    have hHeld := hHx
    clear hHx
    try simp only [Act.put, p1, p2, p3]
    refine tc 9 (fun K hK => ?_)
    obtain ⟨w7, hrun, hheap, fcv⟩ := convW (n := 1) (c := 1) k8
    have hcv := hrun
    clear hrun
    go_simp
    have hg8s : wD.heap.size ≤ g8 := H8.out
    have fcv' : Fr [] wD w7 := FQ.trans fcv (fun i hi => .inr (by rw [List.mem_singleton.1 hi]; exact hg8s))
    refine hK.out _ _ (hHeld.trans fcv (fun i hi => .inr (by rw [List.mem_singleton.1 hi]; exact hg8s))) (fun hHx => ?_)
    clear hK hcv
    (have k4 := k4.keep fcv (Blk.notin k4 (k8.noTyOf (by decide))))
    have FQ := fcv'
    have rdk := convW_rd (l := [116]) hheap
    clear fcv' fcv hHeld k8 hheap
    have hHeld := hHx
    clear hHx
    try simp only [Act.put, p1, p2, p3]
    refine tc 10 (fun K hK => ?_)
    have cbk := dkBlock_any w7 (some ⟨g8, 0, none⟩) 1 1 [116] rfl rdk (by omega)
    go_simp
    refine cbk.mono ?_
    rintro e w8 ⟨vq, rfl, rq, fq⟩
    obtain ⟨Aq, cq, rfl, hcq, -, -, -, -⟩ := rq.shape
    refine hK.out _ _ (hHeld.trans_nil fq) (fun hHx => ?_)
    clear hK cbk
    have FQ := FQ.trans_nil fq
    (have k4 := k4.keep_nil fq)
    clear fq hHeld rdk
    have hHeld := hHx
    clear hHx
    try simp only [Act.put, p1, p2, p3]
    refine tc 15 (fun K hK => ?_)
    have cg := meChange_any (HD.out.keep FQ).sg (by omega) (HD.out.keep FQ).lyW (i := 12) (by decide) (HP.out.1.leaf (HD.out.keep FQ).sg (by decide)) HD.out.rl (HK.out.keep (HFW.out.trans_nil (HD.out.keep FQ).fr)) (b := bT) bT_len rq.rdD.1 rq.rdD.2.2 hcq
    rw [HR.out, HCs.out] at cg
    go_simp
    refine cg.mono ?_
    rintro e w9 hC
    obtain ⟨rfl, hsg, fg⟩ : e = .returned (.tuple #[.agg (bvs rL1).toArray, .int .i64 0]) ∧ SgW w9 P.S O mL1 (0 + 3) ∧ Fr [P.S.m] w8 w9 := by
     rcases hC with ⟨-, -, h⟩ | ⟨-, hb, -⟩ | ⟨hb, -⟩
     ·exact h
     ·exact absurd bT_len hb
     ·rw [show lookB (mB 100) (lyB 100) 13 12 R = true by rw [← HR.out]; exact HP.out.2.1] at hb; cases hb
    refine hK.out _ _ (hHeld.trans_same fg) (fun hHx => ?_)
    clear hK cg
    have LL := (HD.out.keep FQ).chg hsg fg
    (have k4 := k4.keep fg ((HD.out.keep FQ).sg.offF k4))
    clear hsg fg hHeld FQ rq
    have hHeld := hHx
    clear hHx
    try simp only [Act.put, p1, p2, p3]
    refine tw 16 37 hHeld ?_
    refine tw 17 54 hHeld ?_
    refine tw 18 55 hHeld ?_
    have hg4 := H4.out
    have hbl := HBL.out.1
    have hpb := HBL.out.2
    refine tcd 20 none (fun K hK => ?_)
    refine wp_stB stA32 rfl g4 rfl (bvs rL1) rfl (by rw [bvs_length]; exact HR1.out) (bvs_one _) (bvs (zB 32)) rfl k4 (fun wz hz fz zz => hK _ wz (hHeld.trans fz (fun i hi => .inr (by rw [List.mem_singleton.1 hi]; exact hg4))) fun hHx => ?_)
    have LZ := LL.put hbl hpb hg4 fz (k4.noTyOf (by decide))
    clear hHeld hK
    have hHeld := hHx
    clear hHx
    try simp only [Act.put, p1, p2, p3]
    refine tw 21 5 hHeld ?_
    refine wpAnyH_done (by kernel_rfl) ?_ _
    clear hHeld
    go_wp2_with fail
    go_meet
    exact ⟨g4, rfl, rfl, hz, LZ⟩
  ·skip
   refine wp_alS stA32 rfl (fun w5 k4 f4 z4 => hK.out _ _ (hHeld.trans_nil f4) (fun hHx => ?_))
   clear hK
   obtain ⟨g4, hg4⟩ : ∃ g, wD.heap.size = g := ⟨_, rfl⟩
   rw [hg4] at k4 ⊢
   have H4 := Lib.hid (show wD.heap.size ≤ g4 by rw [← hg4]; exact hHeld.size)
   (have FQ := FQ.trans_nil f4)
   clear hHeld z4 hg4 f4
   have hHeld := hHx
   clear hHx
   try simp only [Act.put, p1, p2, p3]
   refine tc 8 (fun K hK => ?_)
   go_simp
   refine hK.out _ _ (hHeld.alloc _) (fun hHx => ?_)
   clear hK
   have k8 := Blk.new w5 5 #[.int .u8 116]
   obtain ⟨g8, hg8⟩ : ∃ g, w5.heap.size = g := ⟨_, rfl⟩
   have FQ := FQ.alloc (.cells #[.int .u8 116] 5)
   obtain ⟨w6, hv⟩ : ∃ v, w5.alloc (.cells #[.int .u8 116] 5) = v := ⟨_, rfl⟩
   rw [hv] at hHx k8 FQ ⊢
   rw [hg8] at k8 ⊢
   (have H8 := Lib.hid (show wD.heap.size ≤ g8 by rw [← hg8]; exact hHeld.size); have k4 : Blk w6 g4 39 (bvs (zB 32)).toArray := (by rw [← hv]; exact k4.alloc _))
   clear hv hg8 hHeld
   have hHeld := hHx
   clear hHx
   try simp only [Act.put, p1, p2, p3]
   refine tc 9 (fun K hK => ?_)
   obtain ⟨w7, hrun, hheap, fcv⟩ := convW (n := 1) (c := 1) k8
   have hcv := hrun
   clear hrun
   go_simp
   have hg8s : wD.heap.size ≤ g8 := H8.out
   have fcv' : Fr [] wD w7 := FQ.trans fcv (fun i hi => .inr (by rw [List.mem_singleton.1 hi]; exact hg8s))
   refine hK.out _ _ (hHeld.trans fcv (fun i hi => .inr (by rw [List.mem_singleton.1 hi]; exact hg8s))) (fun hHx => ?_)
   clear hK hcv
   (have k4 := k4.keep fcv (Blk.notin k4 (k8.noTyOf (by decide))))
   have FQ := fcv'
   have rdk := convW_rd (l := [116]) hheap
   clear fcv' fcv hHeld k8 hheap
   have hHeld := hHx
   clear hHx
   try simp only [Act.put, p1, p2, p3]
   refine tc 10 (fun K hK => ?_)
   have cbk := dkBlock_any w7 (some ⟨g8, 0, none⟩) 1 1 [116] rfl rdk (by omega)
   go_simp
   refine cbk.mono ?_
   rintro e w8 ⟨vq, rfl, rq, fq⟩
   obtain ⟨Aq, cq, rfl, hcq, -, -, -, -⟩ := rq.shape
   refine hK.out _ _ (hHeld.trans_nil fq) (fun hHx => ?_)
   clear hK cbk
   have FQ := FQ.trans_nil fq
   (have k4 := k4.keep_nil fq)
   clear fq hHeld rdk
   have hHeld := hHx
   clear hHx
   try simp only [Act.put, p1, p2, p3]
   refine tc 15 (fun K hK => ?_)
   have cg := meChange_any (HD.out.keep FQ).sg (by omega) (HD.out.keep FQ).lyW (i := 12) (by decide) (HP.out.1.leaf (HD.out.keep FQ).sg (by decide)) HD.out.rl (HK.out.keep (HFW.out.trans_nil (HD.out.keep FQ).fr)) (b := bT) bT_len rq.rdD.1 rq.rdD.2.2 hcq
   rw [HR.out, HCs.out] at cg
   go_simp
   refine cg.mono ?_
   rintro e w9 hC
   obtain ⟨rfl, hsg, fg⟩ : e = .returned (.tuple #[.agg (bvs rL1).toArray, .int .i64 0]) ∧ SgW w9 P.S O mL1 (0 + 3) ∧ Fr [P.S.m] w8 w9 := by
    rcases hC with ⟨-, -, h⟩ | ⟨-, hb, -⟩ | ⟨hb, -⟩
    ·exact h
    ·exact absurd bT_len hb
    ·rw [show lookB (mB 100) (lyB 100) 13 12 R = true by rw [← HR.out]; exact HP.out.2.1] at hb; cases hb
   refine hK.out _ _ (hHeld.trans_same fg) (fun hHx => ?_)
   clear hK cg
   have LL := (HD.out.keep FQ).chg hsg fg
   (have k4 := k4.keep fg ((HD.out.keep FQ).sg.offF k4))
   clear hsg fg hHeld FQ rq
   have hHeld := hHx
   clear hHx
   try simp only [Act.put, p1, p2, p3]
   refine tw 16 37 hHeld ?_
   refine tw 17 54 hHeld ?_
   refine tw 18 55 hHeld ?_
   have hg4 := H4.out
   have hbl := HBL.out.1
   have hpb := HBL.out.2
   refine tcd 20 none (fun K hK => ?_)
   refine wp_stB stA32 rfl g4 rfl (bvs rL1) rfl (by rw [bvs_length]; exact HR1.out) (bvs_one _) (bvs (zB 32)) rfl k4 (fun wz hz fz zz => hK _ wz (hHeld.trans fz (fun i hi => .inr (by rw [List.mem_singleton.1 hi]; exact hg4))) fun hHx => ?_)
   have LZ := LL.put hbl hpb hg4 fz (k4.noTyOf (by decide))
   clear hHeld hK
   have hHeld := hHx
   clear hHx
   try simp only [Act.put, p1, p2, p3]
   refine tw 21 5 hHeld ?_
   refine wpAnyH_done (by kernel_rfl) ?_ _
   clear hHeld
   go_wp2_with fail
   go_meet
   exact ⟨g4, rfl, rfl, hz, LZ⟩
 case rest =>
  clear H3
  obtain ⟨g4, rfl, rfl, h4, LZ⟩ := hcut
  have H4 := Lib.hid LZ
  have HB4 := Lib.hid h4
  clear LZ h4
  go_upto_region 6 with fail
  obtain ⟨wD, hwD⟩ : ∃ wD, wc.drew = wD := ⟨_, rfl⟩
  have fD : Fr [] wc wD := by rw [← hwD]; exact (Fr.refl [] _).drew
  have HD := Lib.hid (H4.out.keep fD)
  have hc := HD.out.cells
  rw [HCs.out, HR.out] at hc
  have HLD := Lib.hid hc
  have HFD := Lib.hid fD
  clear hc fD
  refine wp_region_held_drew (S := fun w' => Fr [P.S.m] wD w') (by kernel_rfl) (by rw [hwD]; exact Fr.refl _ _) (fun hHeld => ?_)
  rw [hwD] at hHeld ⊢
  clear hwD
  have k4 := HB4.out.keep_nil HFD.out
  have HO4 := Lib.hid (HD.out.sg.offF k4)
  refine tw 0 57 hHeld ?_
  refine tw 1 58 hHeld ?_
  refine tw 2 59 hHeld ?_
  refine tw 3 60 hHeld ?_ (v := .pointer (some ⟨P.S.g, 0, none⟩)) (hy := (fun w hSw => by have c := hSw.cell HPB.out HLD.out.1; go_simp))
  refine tw 4 61 hHeld ?_
  refine tw 5 62 hHeld ?_
  refine tw 6 63 hHeld ?_
  refine tw 7 64 hHeld ?_ (v := .agg Cs.toArray) (hy := (fun w hSw => hy_ld stLay rfl P.b 4 rfl Cs HCL.out (rangeAt_keep HLD.out.2.1 hSw HPB.out)))
  refine tw 8 65 hHeld ?_ (v := .agg (bvs rL1).toArray) (hy := (fun w hSw => hy_ld stA32 rfl g4 0 rfl (bvs rL1) (by rw [bvs_length]; exact HR1.out) (k4.keep hSw HO4.out).range0))
  have cc := meCheck_any HD.out.sg HD.out.lyW (i := 12) (by decide) (HP.out.2.2.1.leaf HD.out.sg (by decide)) HR1.out (HK.out.keep (HFW.out.trans_nil HD.out.fr))
  rw [HCs.out] at cc
  refine tc 9 (fun K hK => ?_)
  go_simp
  refine cc.mono ?_
  rintro e w5 hC
  obtain ⟨vb, rfl, rb, fb⟩ : ∃ vb, e = .returned (.tuple #[vb, .int .i64 0]) ∧ Row w5 wD.heap.size 5 1 vb 512 (bvs (rdS mL1 (((lyB 100).tags + 12 : Nat) : Int))) ∧ Fr [] wD w5 := by
   rcases hC with ⟨-, h⟩ | ⟨hb, -⟩
   ·exact h
   ·rw [(show lookB mL1 (lyB 100) 13 12 rL1 = true from HP.out.2.2.2.1)] at hb; cases hb
  refine hK.out _ _ (hHeld.trans_nil fb) (fun hHx => ?_)
  clear hHeld hHx hK cc
  have hHeld : Fr [P.S.m] wD w5 := (Fr.refl _ _).trans_nil fb
  try simp only [Act.put, p1, p2, p3]
  rw [HP.out.2.2.2.2.2.2.2.2.1] at rb
  refine tw 10 56 hHeld ?_
  refine tw 11 67 hHeld ?_
  refine tw 12 68 hHeld ?_
  refine tw 13 6 hHeld ?_
  refine tw 14 7 hHeld ?_
  refine wpAnyH_done (by kernel_rfl) ?_ _
  obtain ⟨g6, c6, rfl⟩ := rb.hdD (by omega)
  have H5 := Lib.hid (HD.out.keep fb)
  have HRB := Lib.hid rb
  clear hHeld rb fb HLD HD HFD H4 k4 HO4 HB4
  go_upto_region 7 with fail
  obtain ⟨wD, hwD⟩ : ∃ wD, w5.drew = wD := ⟨_, rfl⟩
  have fD : Fr [] w5 wD := by rw [← hwD]; exact (Fr.refl [] _).drew
  have HD := Lib.hid (H5.out.keep fD)
  have hc := HD.out.cells
  rw [HCs.out, HR.out] at hc
  have HLD := Lib.hid hc
  have HFD := Lib.hid fD
  clear hc fD
  refine wp_region_held_drew (S := fun w' => Fr [P.S.m] wD w') (by kernel_rfl) (by rw [hwD]; exact Fr.refl _ _) (fun hHeld => ?_)
  rw [hwD] at hHeld ⊢
  clear hwD
  refine tw 0 70 hHeld ?_
  refine tw 1 71 hHeld ?_
  refine tw 2 72 hHeld ?_
  refine tw 3 73 hHeld ?_ (v := .pointer (some ⟨P.S.g, 0, none⟩)) (hy := (fun w hSw => by have c := hSw.cell HPB.out HLD.out.1; go_simp))
  refine tw 4 74 hHeld ?_
  refine tw 5 75 hHeld ?_
  refine tw 6 76 hHeld ?_
  refine tw 7 77 hHeld ?_ (v := .agg Cs.toArray) (hy := (fun w hSw => hy_ld stLay rfl P.b 4 rfl Cs HCL.out (rangeAt_keep HLD.out.2.1 hSw HPB.out)))
  refine tw 8 78 hHeld ?_
  refine tw 9 79 hHeld ?_
  refine tw 10 80 hHeld ?_
  refine tw 11 81 hHeld ?_ (v := .agg (bvs R).toArray) (hy := (fun w hSw => hy_ld stA32 rfl P.b 13 rfl (bvs R) HRL.out (rangeAt_keep HLD.out.2.2 hSw HPB.out)))
  have cc := meCheck_any HD.out.sg HD.out.lyW (i := 12) (by decide) (HP.out.2.2.1.leaf HD.out.sg (by decide)) HD.out.rl (HK.out.keep (HFW.out.trans_nil HD.out.fr))
  rw [HR.out, HCs.out] at cc
  refine tc 12 (fun K hK => ?_)
  go_simp
  refine cc.mono ?_
  rintro e w6 hC
  obtain ⟨rfl, fb⟩ : e = .returned (.tuple #[.slice none 0 0, .int .i64 160]) ∧ Fr [] wD w6 := by
   rcases hC with ⟨hb, -⟩ | ⟨-, h⟩
   ·rw [(show lookB mL1 (lyB 100) 13 12 R = false by rw [← HR.out]; exact HP.out.2.2.2.2.1)] at hb; cases hb
   ·exact h
  refine hK.out _ _ (hHeld.trans_nil fb) (fun hHx => ?_)
  clear hHeld hHx hK cc
  have hHeld : Fr [P.S.m] wD w6 := (Fr.refl _ _).trans_nil fb
  try simp only [Act.put, p1, p2, p3]
  refine tw 13 69 hHeld ?_
  refine tw 14 83 hHeld ?_
  refine tw 15 84 hHeld ?_
  refine tw 16 8 hHeld ?_
  refine tw 17 9 hHeld ?_
  refine wpAnyH_done (by kernel_rfl) ?_ _
  have rb := HRB.out.keep_nil (HFD.out.trans_nil fb)
  have c60 : w6.cell? ⟨g6, 0, none⟩ = some (.int .u8 116) := by
   obtain ⟨g', o', e', hc⟩ := rb.rdD.1 (by intro h0; have := congrArg List.length h0; rw [bvs_length, bT_len] at this; cases this)
   cases e'
   exact hc 0 _ bT_0
  have H6 := Lib.hid (HD.out.keep fb)
  clear hHeld rb fb HLD HD HFD H5 HRB
  have cb := H6.out.cells.1
  have cL := sgLen_any H6.out.sg
  rw [HP.out.2.2.2.2.2.1] at cL
  go_wp2_with fail
  refine cL.mono ?_
  rintro e w7 ⟨rfl, rfl⟩
  have hpos : 0 < B.heap.size := by have := kg_pos HK.out; have := HFW.out.size; omega
  have hC := HP.out.2.2.2.2.2.2.2.2.2
  have cco := sgCommit_any H6.out.sg HP.out.2.2.1.g (by rw [hC]; show 1 + 1200 < _; decide) (HK.out.keep (HFW.out.trans_nil H6.out.fr)) (fun hm => by have := (H6.out.new 0 hm).1; omega) (fun x => by rw [hC]; have := (begF 100 (by decide)).uns x; show ((dB2 100).uns x).length + 6000 ≤ _; omega) (by omega)
  rw [HP.out.2.2.2.2.2.2.1] at cco
  clear hpos hC cL
  go_wp2_with fail
  refine cco.mono ?_
  rintro e w8 ⟨rfl, ha⟩
  obtain ⟨O', h8⟩ := H6.out.aft ha
  have cb := h8.cells.1
  have cL := sgLen_any h8.sg
  rw [HP.out.2.2.2.2.2.2.2.1] at cL
  have H8 := Lib.hid h8
  clear cco ha h8
  go_wp2_with fail
  refine cL.mono ?_
  rintro e w9 ⟨rfl, rfl⟩
  clear cL
  go_wp2_with fail
  go_ret
  exact ⟨rfl, HFW.out.trans_nil H8.out.fr⟩
end
end Go.Proofs.YtbanogfljpkbkaaGreatDoor
