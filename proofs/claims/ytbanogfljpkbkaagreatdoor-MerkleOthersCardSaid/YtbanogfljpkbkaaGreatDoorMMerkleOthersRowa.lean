/-
  Texts of this claim, one behind the other: MerT.
-/
import Derived.Test.YtbanogfljpkbkaaGreatDoorM24
import Derived.Test.YtbanogfljpkbkaaGreatDoorM25
set_option linter.unusedSimpArgs false
set_option linter.unusedVariables false
set_option linter.unnecessarySimpa false
namespace Go.Proofs.YtbanogfljpkbkaaGreatDoor
section
open Go.RowKit
set_option maxRecDepth 100000
set_option maxHeartbeats 4000000 in
theorem meOthers_any (w : World) (z x : Int) (hz : in64 z) (hx : in64 x) (A : Option Addr) (m c : Nat) (l : List UInt8) (hb : ArgB w A m c l) (hK : KG w) : Calls Tryz.prog 6 #[.int .i64 z, .int .i64 x, .slice A m c] w fun e w' => e = .returned (.bool true) ∧ Fr [] w w' := by
 have cb := begin17_any w z hz hK
 have hs := secB_b z
 obtain ⟨s, hse⟩ : ∃ s, secB z = s := ⟨_, rfl⟩
 rw [hse] at cb hs
 have HK := Lib.hid hK
 have HB := Lib.hid hb
 have hT := tagsN_b hs
 have HS := Lib.hid hs
 clear hK hb hse hs hz
 go_enter Tryz.func6, Tryz.ntmps6
 go_wp2_with fail
 refine cb.mono ?_
 rintro e w1 ⟨P, O, OX, B, rfl, hBg⟩
 have h0 := LvS.of hBg
 have HFW := Lib.hid hBg.frW
 have cl := lives17_any w1 (HK.out.keep (HFW.out.trans_nil h0.fr))
 have H1 := Lib.hid h0
 clear cb hBg h0
 go_wp2_with fail
 refine cl.mono ?_
 rintro e w2 ⟨rfl, f2⟩
 have H0 := Lib.hid (H1.out.keep f2)
 clear cl f2 H1
 obtain ⟨T, hTT⟩ : ∃ T, tagsN s = T := ⟨_, rfl⟩
 have HTT := Lib.hid hTT
 have HGx := Lib.hid (TrG.beg HS.out)
 rw [hTT] at HGx hT
 have h0 := H0.out
 rw [hTT] at h0
 have H2 := Lib.hid h0
 obtain ⟨Cs, hCs⟩ : ∃ Cs, (lyB s).cells (.slice P.A (lyB s).lev.length P.c) = Cs := ⟨_, rfl⟩
 have HCs := Lib.hid hCs
 have HCL := Lib.hid (show Cs.length = 9 by rw [← hCs]; rfl)
 obtain ⟨R, hR⟩ : ∃ R, bldR (fresh T) = R := ⟨_, rfl⟩
 have HR := Lib.hid hR
 have HRL := Lib.hid (show (bvs R).length = 32 by rw [← hR, bvs_length]; exact h0.rl)
 have HPB := Lib.hid (show P.b ∉ [P.S.m] from fun hm => h0.sm.2 (List.mem_singleton.1 hm).symm)
 have hc := h0.cells
 rw [hCs, hR] at hc
 have cl := meLeaves_any h0.lyW
 rw [hCs] at cl
 have l4 := hc.2.1
 clear hCs hR hc h0 hTT H0
 go_wp2_with
  (first
   | (refine wpList_ldS stLay rfl rfl P.b 4 rfl Cs HCL.out l4 ?_))
 refine cl.mono ?_
 rintro e w3 ⟨rfl, f3⟩
 have H3 := Lib.hid (H2.out.keep f3)
 clear cl f3 l4 H2
 have d0 : ((T : Int) == 0) = false := by rw [beq_eq_false_iff_ne]; omega
 obtain ⟨r, hr⟩ : ∃ r, x.tmod T = r := ⟨_, rfl⟩
 have t1 := Int.tmod_lt_of_pos x (show (0 : Int) < T by omega)
 have t2 := Int.lt_tmod_of_pos x (show (0 : Int) < T by omega)
 rw [hr] at t1 t2
 obtain ⟨at_, hat⟩ : ∃ a : Nat, (if r < 0 then r + T else r) = (a : Int) := ⟨(if r < 0 then r + T else r).toNat, by split <;> omega⟩
 have hatT : at_ < T := by split at hat <;> omega
 have HAt := Lib.hid hat
 have HXX := Lib.hid hx
 clear hat hx
 go_upto_if 33 with fail
 go_cut [9] from 34 to 36 (fun v wx => v = .int .i64 (at_ : Int) ∧ wx = w3)
 case first =>
  have E4 : IntKind.i64.wrap (r + T) = r + T := IntWalk.i64_in _ (by omega)
  by_cases hneg : r < 0
  ·go_wp2_with fail
   go_meet
   exact ⟨by rw [← HAt.out, if_pos hneg], rfl⟩
  ·go_wp2_with fail
   go_meet
   exact ⟨by rw [← HAt.out, if_neg (by omega)], rfl⟩
 case rest =>
  obtain ⟨rfl, hwc⟩ := hcut
  subst hwc
  clear t1 t2 hr
  have hat2 : at_ < tagsN s := by rw [HTT.out]; exact hatT
  have HAT := Lib.hid (And.intro hatT hat2)
  have hg := HGx.out
  obtain ⟨g1, g2, g3, -⟩ := hg.chg (i := at_) (b := blkOf l) H3.out.sg hat2 (blkOf_len _)
  have hlk := hg.look hat2
  rw [HTT.out] at hlk
  rw [fresh_map, HR.out] at hlk
  have hml := mS_len (M := mB s) (b := blkOf l) HS.out hat2 rfl
  have HG := Lib.hid (show TrG s (mB s) (List.replicate T zB512) from hg)
  have HLK := Lib.hid hlk
  obtain ⟨M1, hM1⟩ : ∃ M1, mS s (mB s) at_ (blkOf l) = M1 := ⟨_, rfl⟩
  obtain ⟨R1, hR1⟩ : ∃ R1, rS s (mB s) at_ (blkOf l) = R1 := ⟨_, rfl⟩
  have HRr := Lib.hid (show rootP T (chL (pathS (mB s) (lyB s).tree (lyB s).lev at_) at_ (leafH (blkOf l))) = R1 ∧ chgS (mB s) (lyB s).tree (lyB s).tags (lyB s).lev at_ (blkOf l) = M1 from ⟨by rw [← hR1, rS, HTT.out]; rfl, by rw [← hM1]; rfl⟩)
  have HR1 := Lib.hid (And.intro trivial (show R1.length = 32 by rw [← hR1]; exact shaSum_length _))
  rw [hM1] at g1 hml
  rw [hR1] at g2
  have HG1 := Lib.hid (And.intro g1 (And.intro g2 hml))
  clear g1 g2 g3 hlk hml hM1 hR1 hg hat2
  go_upto_region 8 with fail
  go_cut [10, 11] from 37 to 55 (fun s10 s11 wx => ∃ g4, s10 = .pointer (some ⟨g4, 0, none⟩) ∧ s11 = .int .i64 0 ∧ Blk wx g4 39 (bvs R1).toArray ∧ LvS B wx P (lyB s) T (bldR (fresh T)) O M1 (0 + 3) ∧ True)
  case first =>
   go_wp2_with fail
   obtain ⟨wD, hwD⟩ : ∃ wD, wc.drew = wD := ⟨_, rfl⟩
   have fD : Fr [] wc wD := by rw [← hwD]; exact (Fr.refl [] _).drew
   have HD := Lib.hid (H3.out.keep fD)
   have hc := HD.out.cells
   rw [HCs.out, HR.out] at hc
   have HLD := Lib.hid hc
   have HFD := Lib.hid fD
   clear hc fD
   refine wp_region_held_drew (S := fun w' => Fr [P.S.m] wD w') (by kernel_rfl) (by rw [hwD]; exact Fr.refl _ _) (fun hHeld => ?_)
   rw [hwD] at hHeld ⊢
   clear hwD
   have HBL := Lib.hid (And.intro HD.out.sg.belowW HD.out.blk.lt)
   refine tw 0 38 hHeld ?_
   refine tw 1 39 hHeld ?_
   refine tw 2 40 hHeld ?_
   refine tw 3 41 hHeld ?_ (v := .pointer (some ⟨P.S.g, 0, none⟩)) (hy := (fun w hSw => by have c := hSw.cell HPB.out HLD.out.1; go_simp))
   refine tw 4 42 hHeld ?_
   refine tw 5 43 hHeld ?_
   refine tw 6 44 hHeld ?_
   refine tw 7 45 hHeld ?_ (v := .agg Cs.toArray) (hy := (fun w hSw => hy_ld stLay rfl P.b 4 rfl Cs HCL.out (rangeAt_keep HLD.out.2.1 hSw HPB.out)))
   refine tw 8 46 hHeld ?_
   refine tw 9 47 hHeld ?_
   refine tw 11 49 hHeld ?_
   refine tw 12 50 hHeld ?_
   refine tw 13 51 hHeld ?_
   refine tw 14 52 hHeld ?_ (v := .agg (bvs R).toArray) (hy := (fun w hSw => hy_ld stA32 rfl P.b 13 rfl (bvs R) HRL.out (rangeAt_keep HLD.out.2.2 hSw HPB.out)))
   have FQ : Fr [] wD wD := Fr.refl _ _
   refine take_2c 10 19 rfl rfl (by kernel_rfl) (by rfl) (by rfl) (fun K hK => ?_) (fun K hK => ?_)
   ·skip
    have cbk := dkBlock_any wD A m c l HB.out.len ((fun (f : Fr [] wD wD) => HB.out.rd.keep_nil (HFW.out.trans_nil (HD.out.fr.trans_nil f))) FQ) (by have := HB.out.reach; omega)
    go_simp
    refine cbk.mono ?_
    rintro e wa ⟨vq, rfl, rq, fq⟩
    obtain ⟨Aq, cq, rfl, hcq, -, -, -, -⟩ := rq.shape
    refine hK.out _ _ (hHeld.trans_nil fq) (fun hHx => ?_)
    clear hK cbk
    have FQ := FQ.trans_nil fq
    skip
    clear fq hHeld
    have hHeld := hHx
    clear hHx
    try simp only [Act.put, p1, p2, p3]
    refine take_2c 15 19 rfl rfl (by kernel_rfl) (by rfl) (by rfl) (fun K hK => ?_) (fun K hK => ?_)
    ·skip
     have cg := meChange_any (HD.out.keep FQ).sg (by omega) (HD.out.keep FQ).lyW (i := at_) HAT.out.1 (HG.out.leaf (HD.out.keep FQ).sg HAT.out.2) HD.out.rl (HK.out.keep (HFW.out.trans_nil (HD.out.keep FQ).fr)) (b := blkOf l) (blkOf_len _) rq.rdD.1 rq.rdD.2.2 hcq
     rw [HR.out, HCs.out] at cg
     go_simp
     refine cg.mono ?_
     rintro e wb hC
     obtain ⟨rfl, hsg, fg⟩ : e = .returned (.tuple #[.agg (bvs R1).toArray, .int .i64 0]) ∧ SgW wb P.S O M1 (0 + 3) ∧ Fr [P.S.m] wa wb := by
      rcases hC with ⟨-, -, h⟩ | ⟨-, hb, -⟩ | ⟨hb, -⟩
      ·rw [HRr.out.1, HRr.out.2] at h; exact h
      ·exact absurd (blkOf_len _) hb
      ·rw [HLK.out] at hb; cases hb
     refine hK.out _ _ (hHeld.trans_same fg) (fun hHx => ?_)
     clear hK cg
     have LL := (HD.out.keep FQ).chg hsg fg
     skip
     clear hsg fg hHeld FQ rq
     have hHeld := hHx
     clear hHx
     try simp only [Act.put, p1, p2, p3]
     refine tw 16 37 hHeld ?_
     refine tw 17 54 hHeld ?_
     refine tw 18 55 hHeld ?_
     refine tc 19 (fun K hK => ?_)
     refine wp_alS stA32 rfl (fun wc2 k4 f4 z4 => hK.out _ _ (hHeld.trans_nil f4) (fun hHx => ?_))
     clear hK
     obtain ⟨g4, hg4⟩ : ∃ g, wb.heap.size = g := ⟨_, rfl⟩
     rw [hg4] at k4 ⊢
     have H4 := Lib.hid (show wD.heap.size ≤ g4 by rw [← hg4]; exact hHeld.size)
     (have LL := LL.keep f4)
     clear hHeld z4 hg4 f4
     have hHeld := hHx
     clear hHx
     try simp only [Act.put, p1, p2, p3]
     have hg4 := H4.out
     have hbl := HBL.out.1
     have hpb := HBL.out.2
     refine tcd 20 none (fun K hK => ?_)
     refine wp_stB stA32 rfl g4 rfl (bvs R1) rfl (by rw [bvs_length]; exact HR1.out.2) (bvs_one _) (bvs (zB 32)) rfl k4 (fun wz hz fz zz => hK _ wz (hHeld.trans fz (fun i hi => .inr (by rw [List.mem_singleton.1 hi]; exact hg4))) fun hHx => ?_)
     have LZ := LL.put hbl hpb hg4 fz (k4.noTyOf (by decide))
     have FZ := hHx
     clear hHeld hK
     have hHeld := hHx
     clear hHx
     try simp only [Act.put, p1, p2, p3]
     refine tw 21 11 hHeld ?_
     refine wpAnyH_done (by kernel_rfl) ?_ _
     clear hHeld
     go_wp2_with fail
     go_meet
     exact ⟨g4, rfl, rfl, hz, LZ, trivial⟩
    ·skip
     refine wp_alS stA32 rfl (fun wb k4 f4 z4 => hK.out _ _ (hHeld.trans_nil f4) (fun hHx => ?_))
     clear hK
     obtain ⟨g4, hg4⟩ : ∃ g, wa.heap.size = g := ⟨_, rfl⟩
     rw [hg4] at k4 ⊢
     have H4 := Lib.hid (show wD.heap.size ≤ g4 by rw [← hg4]; exact hHeld.size)
     (have FQ := FQ.trans_nil f4; have rq := rq.keep_nil f4)
     clear hHeld z4 hg4 f4
     have hHeld := hHx
     clear hHx
     try simp only [Act.put, p1, p2, p3]
     refine tc 15 (fun K hK => ?_)
     have cg := meChange_any (HD.out.keep FQ).sg (by omega) (HD.out.keep FQ).lyW (i := at_) HAT.out.1 (HG.out.leaf (HD.out.keep FQ).sg HAT.out.2) HD.out.rl (HK.out.keep (HFW.out.trans_nil (HD.out.keep FQ).fr)) (b := blkOf l) (blkOf_len _) rq.rdD.1 rq.rdD.2.2 hcq
     rw [HR.out, HCs.out] at cg
     go_simp
     refine cg.mono ?_
     rintro e wc2 hC
     obtain ⟨rfl, hsg, fg⟩ : e = .returned (.tuple #[.agg (bvs R1).toArray, .int .i64 0]) ∧ SgW wc2 P.S O M1 (0 + 3) ∧ Fr [P.S.m] wb wc2 := by
      rcases hC with ⟨-, -, h⟩ | ⟨-, hb, -⟩ | ⟨hb, -⟩
      ·rw [HRr.out.1, HRr.out.2] at h; exact h
      ·exact absurd (blkOf_len _) hb
      ·rw [HLK.out] at hb; cases hb
     refine hK.out _ _ (hHeld.trans_same fg) (fun hHx => ?_)
     clear hK cg
     have LL := (HD.out.keep FQ).chg hsg fg
     (have k4 := k4.keep fg ((HD.out.keep FQ).sg.offF k4))
     clear hsg fg hHeld FQ rq
     have hHeld := hHx
     clear hHx
     try simp only [Act.put, p1, p2, p3]
     refine tw 16 37 hHeld ?_
     refine tw 17 54 hHeld ?_
     refine tw 18 55 hHeld ?_
     have hg4 := H4.out
     have hbl := HBL.out.1
     have hpb := HBL.out.2
     refine tcd 20 none (fun K hK => ?_)
     refine wp_stB stA32 rfl g4 rfl (bvs R1) rfl (by rw [bvs_length]; exact HR1.out.2) (bvs_one _) (bvs (zB 32)) rfl k4 (fun wz hz fz zz => hK _ wz (hHeld.trans fz (fun i hi => .inr (by rw [List.mem_singleton.1 hi]; exact hg4))) fun hHx => ?_)
     have LZ := LL.put hbl hpb hg4 fz (k4.noTyOf (by decide))
     have FZ := hHx
     clear hHeld hK
     have hHeld := hHx
     clear hHx
     try simp only [Act.put, p1, p2, p3]
     refine tw 21 11 hHeld ?_
     refine wpAnyH_done (by kernel_rfl) ?_ _
     clear hHeld
     go_wp2_with fail
     go_meet
     exact ⟨g4, rfl, rfl, hz, LZ, trivial⟩
   ·skip
    refine wp_alS stA32 rfl (fun wa k4 f4 z4 => hK.out _ _ (hHeld.trans_nil f4) (fun hHx => ?_))
    clear hK
    obtain ⟨g4, hg4⟩ : ∃ g, wD.heap.size = g := ⟨_, rfl⟩
    rw [hg4] at k4 ⊢
    have H4 := Lib.hid (show wD.heap.size ≤ g4 by rw [← hg4]; exact hHeld.size)
    (have FQ := FQ.trans_nil f4)
    clear hHeld z4 hg4 f4
    have hHeld := hHx
    clear hHx
    try simp only [Act.put, p1, p2, p3]
    refine tc 10 (fun K hK => ?_)
    have cbk := dkBlock_any wa A m c l HB.out.len ((fun (f : Fr [] wD wa) => HB.out.rd.keep_nil (HFW.out.trans_nil (HD.out.fr.trans_nil f))) FQ) (by have := HB.out.reach; omega)
    go_simp
    refine cbk.mono ?_
    rintro e wb ⟨vq, rfl, rq, fq⟩
    obtain ⟨Aq, cq, rfl, hcq, -, -, -, -⟩ := rq.shape
    refine hK.out _ _ (hHeld.trans_nil fq) (fun hHx => ?_)
    clear hK cbk
    have FQ := FQ.trans_nil fq
    (have k4 := k4.keep_nil fq)
    clear fq hHeld
    have hHeld := hHx
    clear hHx
    try simp only [Act.put, p1, p2, p3]
    refine tc 15 (fun K hK => ?_)
    have cg := meChange_any (HD.out.keep FQ).sg (by omega) (HD.out.keep FQ).lyW (i := at_) HAT.out.1 (HG.out.leaf (HD.out.keep FQ).sg HAT.out.2) HD.out.rl (HK.out.keep (HFW.out.trans_nil (HD.out.keep FQ).fr)) (b := blkOf l) (blkOf_len _) rq.rdD.1 rq.rdD.2.2 hcq
    rw [HR.out, HCs.out] at cg
    go_simp
    refine cg.mono ?_
    rintro e wc2 hC
    obtain ⟨rfl, hsg, fg⟩ : e = .returned (.tuple #[.agg (bvs R1).toArray, .int .i64 0]) ∧ SgW wc2 P.S O M1 (0 + 3) ∧ Fr [P.S.m] wb wc2 := by
     rcases hC with ⟨-, -, h⟩ | ⟨-, hb, -⟩ | ⟨hb, -⟩
     ·rw [HRr.out.1, HRr.out.2] at h; exact h
     ·exact absurd (blkOf_len _) hb
     ·rw [HLK.out] at hb; cases hb
    refine hK.out _ _ (hHeld.trans_same fg) (fun hHx => ?_)
    clear hK cg
    have LL := (HD.out.keep FQ).chg hsg fg
    (have k4 := k4.keep fg ((HD.out.keep FQ).sg.offF k4))
    clear hsg fg hHeld FQ rq
    have hHeld := hHx
    clear hHx
    try simp only [Act.put, p1, p2, p3]
    refine tw 16 37 hHeld ?_
    refine tw 17 54 hHeld ?_
    refine tw 18 55 hHeld ?_
    have hg4 := H4.out
    have hbl := HBL.out.1
    have hpb := HBL.out.2
    refine tcd 20 none (fun K hK => ?_)
    refine wp_stB stA32 rfl g4 rfl (bvs R1) rfl (by rw [bvs_length]; exact HR1.out.2) (bvs_one _) (bvs (zB 32)) rfl k4 (fun wz hz fz zz => hK _ wz (hHeld.trans fz (fun i hi => .inr (by rw [List.mem_singleton.1 hi]; exact hg4))) fun hHx => ?_)
    have LZ := LL.put hbl hpb hg4 fz (k4.noTyOf (by decide))
    have FZ := hHx
    clear hHeld hK
    have hHeld := hHx
    clear hHx
    try simp only [Act.put, p1, p2, p3]
    refine tw 21 11 hHeld ?_
    refine wpAnyH_done (by kernel_rfl) ?_ _
    clear hHeld
    go_wp2_with fail
    go_meet
    exact ⟨g4, rfl, rfl, hz, LZ, trivial⟩
  case rest =>
   obtain ⟨g4, rfl, rfl, h4, LZ, -⟩ := hcut
   clear H3
   have H3 := Lib.hid LZ
   have HB4 := Lib.hid h4
   have hT128 : T ≤ 128 := hT.2
   obtain ⟨nl, hnl⟩ : ∃ nl, (lyB s).lev.length = nl := ⟨_, rfl⟩
   have hnl2 : nl ≤ 2 := by rw [← hnl]; exact lev_len s HS.out
   have HNL := Lib.hid hnl
   clear LZ h4 hnl
   go_upto_region 9 with fail
   obtain ⟨wD, hwD⟩ : ∃ wD, wc.drew = wD := ⟨_, rfl⟩
   have fD : Fr [] wc wD := by rw [← hwD]; exact (Fr.refl [] _).drew
   have HD := Lib.hid (H3.out.keep fD)
   have hc := HD.out.cells
   rw [HCs.out, HR.out] at hc
   have HLD := Lib.hid hc
   have HFD := Lib.hid fD
   clear hc fD
   refine wp_region_held_drew (S := fun w' => Fr [P.S.m] wD w') (by kernel_rfl) (by rw [hwD]; exact Fr.refl _ _) (fun hHeld => ?_)
   rw [hwD] at hHeld ⊢
   clear hwD
   have hc9 : wD.cell? ⟨P.b, 9, none⟩ = some (.slice P.A nl P.c) := by rw [← HNL.out]; exact HD.out.blk.cell 9
   have HC9 := Lib.hid hc9
   have e14 : IntKind.i64.wrap (1 + (nl : Int)) = 1 + nl := IntWalk.i64_in _ (by omega)
   have csl := sgLen_any HD.out.sg
   rw [HG1.out.2.2, HNL.out, show ((1 + nl : Nat) : Int) = 1 + (nl : Int) by omega] at csl
   clear hc9
   refine tw 0 56 hHeld ?_
   refine tw 1 57 hHeld ?_
   refine tw 2 58 hHeld ?_
   refine tw 3 59 hHeld ?_
   refine tw 4 60 hHeld ?_
   refine tw 5 61 hHeld ?_
   refine tw 6 62 hHeld ?_ (v := .pointer (some ⟨P.S.g, 0, none⟩)) (hy := (fun w hSw => by have c := hSw.cell HPB.out HLD.out.1; go_simp))
   refine tw 8 64 hHeld ?_
   refine tw 9 65 hHeld ?_
   refine tw 10 66 hHeld ?_
   refine tw 11 67 hHeld ?_
   refine tw 12 68 hHeld ?_ (v := .slice P.A nl P.c) (hy := (fun w hSw => by have c := hSw.cell HPB.out HC9.out; go_simp))
   refine tw 13 69 hHeld ?_
   refine tw 14 70 hHeld ?_
   refine tc 7 (fun K hK => ?_)
   go_simp
   refine csl.mono ?_
   rintro e w' ⟨rfl, rfl⟩
   refine hK.out _ _ hHeld (fun hHx => ?_)
   clear hHx hK csl
   try simp only [Act.put, p1, p2, p3]
   refine tw 15 71 hHeld ?_
   refine tw 16 72 hHeld ?_
   refine wpAnyH_done (by kernel_rfl) ?_ _
   have H4 := Lib.hid HD.out
   have HB5 := Lib.hid (HB4.out.keep_nil HFD.out)
   obtain ⟨w5, hw5⟩ : ∃ w5, w5 = wD := ⟨_, rfl⟩
   rw [← hw5] at H4 HB5 ⊢
   clear hHeld HLD HC9 HD HFD hw5 H3 HB4 e14
   go_wp2_with fail
   go_loopw [12] (fun t12 wr => ∃ i : Nat, i ≤ T ∧ t12 = .int .i64 i ∧ Fr [] w5 wr) (fun t _ => T - (intOf t).toNat)
   case atStart => exact ⟨0, Nat.zero_le _, rfl, Fr.refl _ _⟩
   case round =>
    obtain ⟨i, hi, rfl, fr⟩ := hrel
    have H6 := Lib.hid (H4.out.keep fr)
    have HB6 := Lib.hid (HB5.out.keep_nil fr)
    obtain ⟨w6, hw6⟩ : ∃ w6, w6 = wr := ⟨_, rfl⟩
    subst hw6
    by_cases hend : i < T ∧ i < 24
    ·obtain ⟨hiT, hi24⟩ := hend
     have hiS : i < tagsN s := by rw [HTT.out]; exact hiT
     go_upto_region 14 with fail
     obtain ⟨wD, hwD⟩ : ∃ wD, w6.drew = wD := ⟨_, rfl⟩
     have fD : Fr [] w6 wD := by rw [← hwD]; exact (Fr.refl [] _).drew
     have HD := Lib.hid (H6.out.keep fD)
     have hc := HD.out.cells
     rw [HCs.out, HR.out] at hc
     have HLD := Lib.hid hc
     have HFD := Lib.hid fD
     clear hc fD
     refine wp_region_held_drew (S := fun w' => Fr [P.S.m] wD w') (by kernel_rfl) (by rw [hwD]; exact Fr.refl _ _) (fun hHeld => ?_)
     rw [hwD] at hHeld ⊢
     clear hwD
     have k4 := HB6.out.keep_nil HFD.out
     have HO4 := Lib.hid (HD.out.sg.offF k4)
     have hg1 := HG1.out.1
     have hlk := hg1.look hiS
     rw [← HG1.out.2.1, HTT.out] at hlk
     have hilen : i < ((List.replicate T zB512).set at_ (blkOf l)).length := by rw [hg1.n]; exact hiS
     have htag := hg1.tagI hilen
     have hx5 := hg1.l5 _ (List.getElem_mem hilen)
     obtain ⟨XB, hXB⟩ : ∃ XB, ((List.replicate T zB512).set at_ (blkOf l))[i]'hilen = XB := ⟨_, rfl⟩
     have HXE := Lib.hid (show (i = at_ → XB = blkOf l) ∧ (i ≠ at_ → XB = zB512) from ⟨fun e => by rw [← hXB]; subst e; exact List.getElem_set_self _, fun e => by rw [← hXB, List.getElem_set_ne (fun h => e h.symm), List.getElem_replicate]⟩)
     rw [hXB] at htag hx5
     have HXB := Lib.hid hx5
     have HTG := Lib.hid htag
     have HLL := Lib.hid hlk
     have cc := meCheck_any HD.out.sg HD.out.lyW (i := i) hiT (hg1.leaf HD.out.sg hiS) HR1.out.2 (HK.out.keep (HFW.out.trans_nil HD.out.fr))
     rw [HCs.out] at cc
     clear hg1 hlk htag hx5 hXB hilen
     refine tw 0 83 hHeld ?_
     refine tw 1 84 hHeld ?_
     refine tw 2 85 hHeld ?_
     refine tw 3 86 hHeld ?_ (v := .pointer (some ⟨P.S.g, 0, none⟩)) (hy := (fun w hSw => by have c := hSw.cell HPB.out HLD.out.1; go_simp))
     refine tw 4 87 hHeld ?_
     refine tw 5 88 hHeld ?_
     refine tw 6 89 hHeld ?_
     refine tw 7 90 hHeld ?_ (v := .agg Cs.toArray) (hy := (fun w hSw => hy_ld stLay rfl P.b 4 rfl Cs HCL.out (rangeAt_keep HLD.out.2.1 hSw HPB.out)))
     refine tw 8 91 hHeld ?_
     refine tw 9 92 hHeld ?_ (v := .agg (bvs R1).toArray) (hy := (fun w hSw => hy_ld stA32 rfl g4 0 rfl (bvs R1) (by rw [bvs_length]; exact HR1.out.2) (k4.keep hSw HO4.out).range0))
     refine tc 10 (fun K hK => ?_)
     go_simp
     refine cc.mono ?_
     rintro e w7 hC
     obtain ⟨vb, rfl, rb, fb⟩ : ∃ vb, e = .returned (.tuple #[vb, .int .i64 0]) ∧ Row w7 wD.heap.size 5 1 vb 512 (bvs (rdS M1 (((lyB s).tags + i : Nat) : Int))) ∧ Fr [] wD w7 := by
      rcases hC with ⟨-, h⟩ | ⟨hb, -⟩
      ·exact h
      ·rw [HLL.out] at hb; cases hb
     refine hK.out _ _ (hHeld.trans_nil fb) (fun hHx => ?_)
     clear hHeld hHx hK cc
     have hHeld : Fr [P.S.m] wD w7 := (Fr.refl _ _).trans_nil fb
     try simp only [Act.put, p1, p2, p3]
     rw [HTG.out] at rb
     refine tw 11 82 hHeld ?_
     refine tw 12 94 hHeld ?_
     refine tw 13 95 hHeld ?_
     refine tw 14 13 hHeld ?_
     refine tw 15 14 hHeld ?_
     refine wpAnyH_done (by kernel_rfl) ?_ _
     obtain ⟨g5, c5, rfl⟩ := rb.hdD (by omega)
     have FR := fr.trans_nil (HFD.out.trans_nil fb)
     have HFR := Lib.hid FR
     have HRB := Lib.hid rb.rdD.1
     clear hHeld rb fb HLD HD HFD k4 HO4 H6 HB6 FR fr
     go_upto_region 15 with fail
     obtain ⟨wD, hwD⟩ : ∃ wD, w7.drew = wD := ⟨_, rfl⟩
     have fD : Fr [] w7 wD := by rw [← hwD]; exact (Fr.refl [] _).drew
     have HFD := Lib.hid (HFR.out.trans_nil fD)
     have HRD := Lib.hid (HRB.out.keep_nil fD)
     obtain ⟨SX, hSX⟩ : ∃ SX : ByteArray, (⟨XB.toArray⟩ : ByteArray) = SX := ⟨_, rfl⟩
     have HSX := Lib.hid hSX
     clear fD hSX HRB HFR
     have mkS : ∀ w' : World, Fr [] wD w' → (convert 27 9 (.slice (some ⟨g5, 0, none⟩) 512 c5)).run Tryz.prog w' = .ok (.string SX) w' := fun w' f => by
      rw [← HSX.out]
      exact conv_str Tryz.underlying27 Tryz.underlying5 Tryz.underlying9 w' _ XB 512 c5 HXB.out (HRD.out.keep_nil f) (fun h => by cases h)
     have MK := Lib.hid mkS
     clear mkS
     refine wp_region_held_drew (S := fun w' => Fr [] wD w') (by kernel_rfl) (by rw [hwD]; exact Fr.refl _ _) (fun hHeld => ?_)
     rw [hwD] at hHeld ⊢
     clear hwD
     by_cases hia : i = at_
     ·have hXe := HXE.out.1 hia
      have HXQ := Lib.hid hXe
      clear hXe
      have hia2 : ((i : Int) == (at_ : Int)) = true := by rw [hia]; simp
      have HIA := Lib.hid hia2
      clear hia2
      refine tw 0 96 hHeld ?_
      refine tw 1 97 hHeld ?_
      refine tw 2 98 hHeld ?_
      refine tw 3 99 hHeld ?_
      refine tw 4 100 hHeld ?_
      refine tw 5 101 hHeld ?_ (v := .bool false) (hy := (fun w hSw => by have e := HIA.out; go_simp; try omega))
      refine tw 6 102 hHeld ?_
      refine tu 7 103 hHeld ?_
      refine tu 8 104 hHeld ?_
      refine tu 9 105 hHeld ?_
      refine tu 10 106 hHeld ?_
      refine tu 11 107 hHeld ?_
      refine tw 12 108 hHeld ?_
      refine tw 13 109 hHeld ?_
      refine tw 14 110 hHeld ?_
      refine tw 15 111 hHeld ?_
      refine tw 16 112 hHeld ?_
      refine tw 17 113 hHeld ?_ (v := .bool true) (hy := (fun w hSw => by have e := HIA.out; go_simp; try omega))
      refine tw 18 114 hHeld ?_
      refine tw 19 115 hHeld ?_
      refine tw 20 116 hHeld ?_ (v := .string SX) (hy := (fun w hSw => by have := MK.out _ hSw; go_simp))
      refine tw 21 117 hHeld ?_
      refine tc 22 (fun K hK => ?_)
      have cbk := dkBlock_any wD A m c l HB.out.len (HB.out.rd.keep_nil (HFW.out.trans_nil (H4.out.fr.trans_nil HFD.out))) (by have := HB.out.reach; omega)
      go_simp
      refine cbk.mono ?_
      rintro e w8 ⟨vq, rfl, rq, fq⟩
      obtain ⟨Aq, cq, rfl, -, -, -, -, -⟩ := rq.shape
      have cv8 : (convert 27 9 (.slice Aq 512 cq)).run Tryz.prog w8 = .ok (.string SX) w8 := by
       rw [← HSX.out, HXQ.out]
       exact conv_str Tryz.underlying27 Tryz.underlying5 Tryz.underlying9 w8 _ (blkOf l) 512 cq (blkOf_len _) rq.rdD.1 rq.rdD.2.2
      refine hK.out _ _ (hHeld.trans_nil fq) (fun hHx => ?_)
      clear hK cbk rq fq hHeld
      have hHeld := hHx
      clear hHx
      try simp only [Act.put, p1, p2, p3]
      refine tc 23 (fun K hK => ?_)
      go_simp
      refine hK.out _ _ hHeld (fun hHx => ?_)
      clear hK hHx cv8
      try simp only [Act.put, p1, p2, p3]
      refine tw 24 120 hHeld ?_
      refine tw 25 121 hHeld ?_
      refine tw 26 122 hHeld ?_
      refine wpAnyH_done (by kernel_rfl) ?_ _
      go_wp2_with fail
      exact ⟨⟨i + 1, by omega, by go_num, HFD.out.trans_nil hHeld⟩, by simp [intOf]; omega⟩
     ·have hXe := HXE.out.2 hia
      have HXQ := Lib.hid hXe
      clear hXe
      have hia2 : ((i : Int) == (at_ : Int)) = false := by rw [beq_eq_false_iff_ne]; omega
      have HIA := Lib.hid hia2
      clear hia2
      obtain ⟨Z, hZ⟩ : ∃ Z, (List.replicate 512 (Value.int .u8 0)).toArray = Z := ⟨_, rfl⟩
      have rmk : ∀ W : World, (Instr.makeSlice 27 (.int .i64 512) (.int .i64 512)).run Tryz.prog W = .ok (.slice (some ⟨W.heap.size, 0, none⟩) 512 512) (W.alloc (.cells Z 5)) := fun W => by
       rw [← hZ]
       exact run_mk1 slB rfl W .i64 .i64 512 (by omega)
      have cvn : (convert 27 9 (.slice (some ⟨wD.heap.size, 0, none⟩) 512 512)).run Tryz.prog (wD.alloc (.cells Z 5)) = .ok (.string SX) (wD.alloc (.cells Z 5)) := by
       rw [← HSX.out, HXQ.out]
       exact conv_str Tryz.underlying27 Tryz.underlying5 Tryz.underlying9 _ _ zB512 512 512 zB512_len (Rd.of_blk (Blk.new wD 5 Z) 0 _ (fun j u hu => by
        rw [zB512_vs] at hu
        rw [← hZ, Nat.zero_add, List.getElem?_toArray]
        exact hu)) (fun h => by cases h)
      have HCV := Lib.hid cvn
      clear hZ cvn
      refine tw 0 96 hHeld ?_
      refine tw 1 97 hHeld ?_
      refine tw 2 98 hHeld ?_
      refine tw 3 99 hHeld ?_
      refine tw 4 100 hHeld ?_
      refine tw 5 101 hHeld ?_ (v := .bool true) (hy := (fun w hSw => by have e := HIA.out; go_simp; try omega))
      refine tw 6 102 hHeld ?_
      refine tw 7 103 hHeld ?_
      refine tw 8 104 hHeld ?_ (v := .string SX) (hy := (fun w hSw => by have := MK.out _ hSw; go_simp))
      refine tc 9 (fun K hK => ?_)
      go_simp
      have fz : Fr [] wD (wD.alloc (.cells Z 5)) := (Fr.refl [] wD).alloc _
      refine hK.out _ _ fz (fun hHx => ?_)
      clear hK hHeld
      try simp only [Act.put, p1, p2, p3]
      have cv := HCV.out
      generalize wD.alloc (.cells Z 5) = wE at *
      refine tc 10 (fun K hK => ?_)
      go_simp
      refine hK.out _ _ fz (fun hHeld => ?_)
      clear hK hHx cv
      try simp only [Act.put, p1, p2, p3]
      refine tw 11 107 hHeld ?_
      refine tw 12 108 hHeld ?_
      refine tw 13 109 hHeld ?_
      refine tw 14 110 hHeld ?_
      refine tw 15 111 hHeld ?_
      refine tw 16 112 hHeld ?_
      refine tw 17 113 hHeld ?_ (v := .bool false) (hy := (fun w hSw => by have e := HIA.out; go_simp; try omega))
      refine tw 18 114 hHeld ?_
      refine tu 19 115 hHeld ?_
      refine tu 20 116 hHeld ?_
      refine tu 21 117 hHeld ?_
      refine tu 22 118 hHeld ?_
      refine tu 23 119 hHeld ?_
      refine tu 24 120 hHeld ?_
      refine tw 25 121 hHeld ?_
      refine tw 26 122 hHeld ?_
      refine wpAnyH_done (by kernel_rfl) ?_ _
      go_wp2_with fail
      exact ⟨⟨i + 1, by omega, by go_num, HFD.out.trans_nil hHeld⟩, by simp [intOf]; omega⟩
    ·by_cases hiT : i < T
     ·have hi24 : ¬ i < 24 := fun h => hend ⟨hiT, h⟩
      clear hend
      go_upto_region 17 with fail
      obtain ⟨wD, hwD⟩ : ∃ wD, w6.drew = wD := ⟨_, rfl⟩
      have fD : Fr [] w6 wD := by rw [← hwD]; exact (Fr.refl [] _).drew
      have HD := Lib.hid (H6.out.keep fD)
      have hc := HD.out.cells
      rw [HCs.out, HR.out] at hc
      have HLD := Lib.hid hc
      have HFD := Lib.hid fD
      clear hc fD
      refine wp_region_held_drew (S := fun w' => Fr [P.S.m] wD w') (by kernel_rfl) (by rw [hwD]; exact Fr.refl _ _) (fun hHeld => ?_)
      rw [hwD] at hHeld ⊢
      clear hwD
      have cc := mePath_any HD.out.sg HD.out.lyW (i := at_) HAT.out.1 (HG1.out.1.leaf HD.out.sg HAT.out.2).pe
      rw [HCs.out] at cc
      have hc9 : wD.cell? ⟨P.b, 9, none⟩ = some (.slice P.A nl P.c) := by rw [← HNL.out]; exact HD.out.blk.cell 9
      have HC9 := Lib.hid hc9
      clear hc9
      refine tw 0 124 hHeld ?_
      refine tw 1 125 hHeld ?_
      refine tw 2 126 hHeld ?_
      refine tw 3 127 hHeld ?_ (v := .pointer (some ⟨P.S.g, 0, none⟩)) (hy := (fun w hSw => by have c := hSw.cell HPB.out HLD.out.1; go_simp))
      refine tw 4 128 hHeld ?_
      refine tw 5 129 hHeld ?_
      refine tw 6 130 hHeld ?_
      refine tw 7 131 hHeld ?_ (v := .agg Cs.toArray) (hy := (fun w hSw => hy_ld stLay rfl P.b 4 rfl Cs HCL.out (rangeAt_keep HLD.out.2.1 hSw HPB.out)))
      refine tw 8 132 hHeld ?_
      refine tc 9 (fun K hK => ?_)
      go_simp
      refine cc.mono ?_
      rintro e w7 ⟨vp, vs, rfl, rp, fp⟩
      refine hK.out _ _ (hHeld.trans_nil fp) (fun hHx => ?_)
      clear hHeld hHx hK cc
      have hHeld : Fr [P.S.m] wD w7 := (Fr.refl _ _).trans_nil fp
      try simp only [Act.put, p1, p2, p3]
      refine tw 10 123 hHeld ?_
      refine tw 11 134 hHeld ?_
      refine tw 12 135 hHeld ?_
      refine tw 13 15 hHeld ?_
      refine tw 14 11 hHeld ?_
      refine wpAnyH_done (by kernel_rfl) ?_ _
      have rr := rp.row
      rw [show (pathS M1 (lyB s).tree (lyB s).lev at_).length = nl by rw [pathS, List.length_map, plcL_len, HNL.out]] at rr
      obtain ⟨Ap, cp, rfl, -, -, -, -, -⟩ := rr.shape
      have c9 := fp.cell (by simp) HC9.out
      have HFE := Lib.hid (HFW.out.trans_nil (HD.out.keep fp).fr)
      clear hHeld HLD HD HFD rr rp fp HC9
      go_wp2_with fail
      go_ret
      exact ⟨rfl, HFE.out⟩
     ·clear hend
      go_upto_region 17 with fail
      obtain ⟨wD, hwD⟩ : ∃ wD, w6.drew = wD := ⟨_, rfl⟩
      have fD : Fr [] w6 wD := by rw [← hwD]; exact (Fr.refl [] _).drew
      have HD := Lib.hid (H6.out.keep fD)
      have hc := HD.out.cells
      rw [HCs.out, HR.out] at hc
      have HLD := Lib.hid hc
      have HFD := Lib.hid fD
      clear hc fD
      refine wp_region_held_drew (S := fun w' => Fr [P.S.m] wD w') (by kernel_rfl) (by rw [hwD]; exact Fr.refl _ _) (fun hHeld => ?_)
      rw [hwD] at hHeld ⊢
      clear hwD
      have cc := mePath_any HD.out.sg HD.out.lyW (i := at_) HAT.out.1 (HG1.out.1.leaf HD.out.sg HAT.out.2).pe
      rw [HCs.out] at cc
      have hc9 : wD.cell? ⟨P.b, 9, none⟩ = some (.slice P.A nl P.c) := by rw [← HNL.out]; exact HD.out.blk.cell 9
      have HC9 := Lib.hid hc9
      clear hc9
      refine tw 0 124 hHeld ?_
      refine tw 1 125 hHeld ?_
      refine tw 2 126 hHeld ?_
      refine tw 3 127 hHeld ?_ (v := .pointer (some ⟨P.S.g, 0, none⟩)) (hy := (fun w hSw => by have c := hSw.cell HPB.out HLD.out.1; go_simp))
      refine tw 4 128 hHeld ?_
      refine tw 5 129 hHeld ?_
      refine tw 6 130 hHeld ?_
      refine tw 7 131 hHeld ?_ (v := .agg Cs.toArray) (hy := (fun w hSw => hy_ld stLay rfl P.b 4 rfl Cs HCL.out (rangeAt_keep HLD.out.2.1 hSw HPB.out)))
      refine tw 8 132 hHeld ?_
      refine tc 9 (fun K hK => ?_)
      go_simp
      refine cc.mono ?_
      rintro e w7 ⟨vp, vs, rfl, rp, fp⟩
      refine hK.out _ _ (hHeld.trans_nil fp) (fun hHx => ?_)
      clear hHeld hHx hK cc
      have hHeld : Fr [P.S.m] wD w7 := (Fr.refl _ _).trans_nil fp
      try simp only [Act.put, p1, p2, p3]
      refine tw 10 123 hHeld ?_
      refine tw 11 134 hHeld ?_
      refine tw 12 135 hHeld ?_
      refine tw 13 15 hHeld ?_
      refine tw 14 11 hHeld ?_
      refine wpAnyH_done (by kernel_rfl) ?_ _
      have rr := rp.row
      rw [show (pathS M1 (lyB s).tree (lyB s).lev at_).length = nl by rw [pathS, List.length_map, plcL_len, HNL.out]] at rr
      obtain ⟨Ap, cp, rfl, -, -, -, -, -⟩ := rr.shape
      have c9 := fp.cell (by simp) HC9.out
      have HFE := Lib.hid (HFW.out.trans_nil (HD.out.keep fp).fr)
      clear hHeld HLD HD HFD rr rp fp HC9
      go_wp2_with fail
      go_ret
      exact ⟨rfl, HFE.out⟩
end
end Go.Proofs.YtbanogfljpkbkaaGreatDoor
