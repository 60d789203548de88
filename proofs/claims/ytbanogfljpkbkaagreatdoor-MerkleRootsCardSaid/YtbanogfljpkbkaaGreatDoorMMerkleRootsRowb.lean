/-
  Texts of this claim, one behind the other: MerV.
-/
import Derived.Test.YtbanogfljpkbkaaGreatDoorMMerkleRootsRowa
set_option linter.unusedSimpArgs false
set_option linter.unusedVariables false
set_option linter.unnecessarySimpa false
namespace Go.Proofs.YtbanogfljpkbkaaGreatDoor
section
open Go.RowKit
set_option maxRecDepth 100000
theorem ArgO17.cells {w w' : World} {A : Option Addr} {n c : Nat} {l : List O17} (h : ArgO17 w A n c l) (f : Fr [] w w') {k : Nat} (hk : k < n) : ∃ (o : O17) (g b : Nat), l[k]? = some o ∧ A = some ⟨g, b, none⟩ ∧ o.ok w ∧
  w'.cell? ⟨g, b + k * 4, none⟩ = some (.int .i64 o.kind) ∧ w'.cell? ⟨g, b + k * 4 + 1, none⟩ = some (.int .i64 o.n) ∧ w'.cell? ⟨g, b + k * 4 + 2, none⟩ = some (.slice o.A o.m o.c) ∧ w'.cell? ⟨g, b + k * 4 + 3, none⟩ = some (.bool o.bad) := by
 have hkl : k < l.length := by rw [h.len]; exact hk
 obtain ⟨g, b, e, -, hc⟩ := h.rd (by omega)
 refine ⟨l[k], g, b, List.getElem?_eq_getElem hkl, e, h.ok _ (List.getElem_mem hkl), ?_, ?_, ?_, ?_⟩
 ·exact f.cell (by simp) (hc k hkl 0 (by omega))
 ·exact f.cell (by simp) (hc k hkl 1 (by omega))
 ·exact f.cell (by simp) (hc k hkl 2 (by omega))
 ·exact f.cell (by simp) (hc k hkl 3 (by omega))
theorem rep_set {α : Type} (a b : α) {i T : Nat} (h : i < T) : (List.replicate i a ++ List.replicate (T - i) b).set i a = List.replicate (i + 1) a ++ List.replicate (T - (i + 1)) b := by
 obtain ⟨d, rfl⟩ : ∃ d, T = i + 1 + d := ⟨T - (i + 1), by omega⟩
 rw [show i + 1 + d - i = d + 1 by omega, show i + 1 + d - (i + 1) = d by omega, List.set_append_right _ _ (by simp), List.length_replicate, Nat.sub_self, show (List.replicate (d + 1) b).set 0 a = a :: List.replicate d b by rw [List.replicate_succ]; rfl, List.replicate_succ', List.append_assoc]
 rfl
theorem BRow.keepW {w w' : World} {F : List Nat} {B g n c : Nat} {us : List Value} {bs : List (List UInt8)} (h : BRow w B (.slice (some ⟨g, 0, none⟩) n c) us bs) (f : Fr F w w') (hg : g ∉ F) (h8 : NoTy w F 5) : BRow w' B (.slice (some ⟨g, 0, none⟩) n c) us bs :=
 ⟨h.row.keep f (fun g' e => by cases e; exact hg), fun i a b => (h.each i a b).keepT f h8⟩
theorem SgW.own8 {w : World} {S : SgP} {O : List Nat} {M : StM} {k : Nat} (h : SgW w S O M k) : NoTy w (S.own O) 5 := fun i hi => by
 rcases List.mem_cons.1 hi with h1 | h1
 ·exact h.no8 i (List.mem_singleton.2 h1)
 ·exact h.ca.no8 i h1
structure RtI (B wr : World) (B0 : Nat) (P : BgP) (s T gh : Nat) (i : Nat) (ts : List (List UInt8)) (O : List Nat) (M : StM) (k : Nat) (us : List Value) : Prop where
 lv : LvS B wr P (lyB s) T (bldR (ts.map leafH)) O M k
 g : TrG s M ts
 hv : BRow wr B0 (.slice (some ⟨gh, 0, none⟩) T T) us ts
 go : gh ∉ P.S.own O
 st : M.st.length ≤ 3 * (i % 4)
 num : M.C.J.num ≤ 1 + 257 * i
 uns : ∀ x, (M.C.D.uns x).length ≤ 2 + 67 * i
 kk : k ≤ 3 * i
set_option maxHeartbeats 4000000 in
theorem meRoots_any (w : World) (z : Int) (hz : in64 z) (A : Option Addr) (m c : Nat) (l : List O17) (hb : ArgO17 w A m c l) (hK : KG w) : Calls Tryz.prog 4 #[.int .i64 z, .slice A m c] w fun e w' => e = .returned (.bool true) ∧ Fr [] w w' := by
 have cb := begin17_any w z hz hK
 have hs := secB_b z
 obtain ⟨s, hse⟩ : ∃ s, secB z = s := ⟨_, rfl⟩
 rw [hse] at cb hs
 have HK := Lib.hid hK
 have HB := Lib.hid hb
 have hT := tagsN_b hs
 have HS := Lib.hid hs
 clear hK hb hse hs hz
 go_enter Tryz.func4, Tryz.ntmps4
 go_wp2_with fail
 refine cb.mono ?_
 rintro e w1 ⟨P, O, OX, B, rfl, hBg⟩
 have h0 := LvS.of hBg
 have HFW := Lib.hid hBg.frW
 have cl := lives17_any w1 (HK.out.keep (HFW.out.trans_nil h0.fr))
 have H1 := Lib.hid h0
 clear cb hBg h0
 go_wp2_with fail
 refine cl.mono ?_
 rintro e w2 ⟨rfl, f2⟩
 have H0 := Lib.hid (H1.out.keep f2)
 clear cl f2 H1
 obtain ⟨T, hTT⟩ : ∃ T, tagsN s = T := ⟨_, rfl⟩
 have HTT := Lib.hid hTT
 have HGx := Lib.hid (TrG.beg HS.out)
 rw [hTT] at HGx hT
 have h0 := H0.out
 rw [hTT] at h0
 have H2 := Lib.hid h0
 obtain ⟨Cs, hCs⟩ : ∃ Cs, (lyB s).cells (.slice P.A (lyB s).lev.length P.c) = Cs := ⟨_, rfl⟩
 have HCs := Lib.hid hCs
 have HCL := Lib.hid (show Cs.length = 9 by rw [← hCs]; rfl)
 obtain ⟨R, hR⟩ : ∃ R, bldR (fresh T) = R := ⟨_, rfl⟩
 have HR := Lib.hid hR
 have HRL := Lib.hid (show (bvs R).length = 32 by rw [← hR, bvs_length]; exact h0.rl)
 have HPB := Lib.hid (show P.b ∉ [P.S.m] from fun hm => h0.sm.2 (List.mem_singleton.1 hm).symm)
 have hc := h0.cells
 rw [hCs, hR] at hc
 have cl := meLeaves_any h0.lyW
 rw [hCs] at cl
 have l4 := hc.2.1
 clear hCs hR hc h0 hTT H0
 go_wp2_with
  (first
   | (refine wpList_ldS stLay rfl rfl P.b 4 rfl Cs HCL.out l4 ?_))
 refine cl.mono ?_
 rintro e w3 ⟨rfl, f3⟩
 have H3 := Lib.hid (H2.out.keep f3)
 clear cl f3 l4 H2
 have hT128 : T ≤ 128 := hT.2
 go_wp2_with (first | (refine wpList_mk1 rfl rfl slBB rfl .i64 .i64 _ _ T rfl rfl rfl rfl (by omega) ?_; intro w4 k4 r4 f4 z4))
 obtain ⟨gh, hgh⟩ : ∃ g, w3.heap.size = g := ⟨_, rfl⟩
 rw [hgh] at r4 k4 ⊢
 have HGH := Lib.hid (And.intro hgh (show ∀ i ∈ P.S.own O, i ≠ gh from fun i hi => by have := H3.out.sg.own_lt i hi; omega))
 have H4 := Lib.hid (H3.out.keep f4)
 have R4 : BRow w4 gh (.slice (some ⟨gh, 0, none⟩) T T) (List.replicate T (.slice none 0 0)) (List.replicate T []) := ⟨by rw [List.length_replicate]; exact r4, fun i a b => by rw [List.getElem_replicate, List.getElem_replicate]; exact Row.nil _ _ _ _⟩
 have HR4 := Lib.hid R4
 clear k4 r4 f4 z4 hgh R4
 go_loopw [8] (fun t8 wr => ∃ i : Nat, i ≤ T ∧ t8 = .int .i64 i ∧ Fr [gh] w4 wr ∧ ∃ us, BRow wr gh (.slice (some ⟨gh, 0, none⟩) T T) us (List.replicate i zB512 ++ List.replicate (T - i) [])) (fun t _ => T - (intOf t).toNat)
 case atStart => exact ⟨0, Nat.zero_le _, rfl, Fr.refl _ _, _, HR4.out⟩
 case round =>
  have HR4o := HR4
  clear HR4
  obtain ⟨i, hi, rfl, fr, us, R⟩ := hrel
  obtain ⟨w5, hw5⟩ : ∃ w5, w5 = wr := ⟨_, rfl⟩
  subst hw5
  have hbl : (List.replicate i zB512 ++ List.replicate (T - i) ([] : List UInt8)).length = T := by simp; omega
  have hul : us.length = T := by have := R.vlen; omega
  by_cases hlt : i < T
  ·have HBL := Lib.hid hbl
   have HFR := Lib.hid fr
   have h5s := fr.size
   have hg4 := H4.out
   have hgl : gh < w5.heap.size := (R.row.lt gh rfl).2
   clear hbl fr hg4
   go_wp2_with (first | (refine wpList_mk1 rfl rfl slB rfl .i64 .i64 _ _ 512 rfl rfl rfl rfl (by omega) ?_; intro w6 k6 r6 f6 z6; have R6 := R.keep_nil f6; rw [← zB512_vs] at r6; obtain ⟨c1, z1, R7⟩ := R6.set_ HBL.out hlt (b := zB512) (by rw [zB512_len]; exact r6.mono (by omega)); rw [List.getElem?_eq_getElem (by omega)] at c1; have HR7 := Lib.hid (And.intro R7 f6); obtain ⟨y, hy⟩ : ∃ y, us[i]'(by omega) = y := ⟨_, rfl⟩; rw [hy] at c1; clear R7 R6 hy r6 k6 z6))
   refine ⟨⟨i + 1, by omega, by go_num, (HFR.out.trans_nil HR7.out.2).setCell (.inl (by simp)) _, us.set i (.slice (some ⟨w5.heap.size, 0, none⟩) 512 512), ?_⟩, by simp [intOf]; omega⟩
   rw [← rep_set zB512 [] hlt]
   exact HR7.out.1
  ·obtain rfl : i = T := by omega
   rw [Nat.sub_self] at R
   replace R : BRow w5 gh (.slice (some ⟨gh, 0, none⟩) i i) us (List.replicate i zB512) := by simpa using R
   have h8 : NoTy w4 [gh] 5 ∧ ∀ e, e ≠ 27 → NoTy w4 [gh] e := by
    have r4 := (HR4o.out).row
    have := fun e (he : e ≠ 27) => r4.noTy (d := e) (fun h => he h.symm)
    exact ⟨fun j hj => this _ (by decide) j (mem_own.2 (by rw [List.mem_singleton.1 hj]; rfl)), fun e he j hj => this e he j (mem_own.2 (by rw [List.mem_singleton.1 hj]; rfl))⟩
   have hgo : gh ∉ P.S.own O := fun hm => HGH.out.2 gh hm rfl
   have hBg : B.heap.size ≤ gh := by have := H3.out.fr.size; have := HGH.out.1; omega
   have L5 := H4.out.row fr h8.1 hgo hBg h8.2
   have hf0 : bldR ((List.replicate i zB512).map leafH) = bldR (fresh i) := by rw [fresh_map]
   have hTs := HTT.out
   have I0 : RtI B w5 gh P s i gh 0 (List.replicate i zB512) O (mB s) 0 us := ⟨by rw [hf0]; exact L5, HGx.out, R, hgo, Nat.zero_le _, by show 1 ≤ 1 + 257 * 0; omega, fun x => by have := (begF s HS.out).uns x; show ((dB2 s).uns x).length ≤ 2 + 67 * 0; omega, Nat.zero_le _⟩
   have HI0 := Lib.hid I0
   have HBG := Lib.hid hBg
   clear h8 hgo hBg L5 hf0 hTs I0 R fr hul hbl H3 H4 HGH HGx
   have d0 : ((i : Int) == 0) = false := by rw [beq_eq_false_iff_ne]; omega
   go_wp2_with fail
   go_loopw [9] (fun t9 wr => ∃ q : Nat, q ≤ m ∧ q ≤ 60 ∧ t9 = .int .i64 q ∧ ∃ ts O M k us, RtI B wr gh P s i gh q ts O M k us) (fun t _ => m - (intOf t).toNat)
   case atStart => exact ⟨0, by omega, by omega, rfl, _, _, _, _, _, HI0.out⟩
   case round =>
    clear HI0
    obtain ⟨q, hq, hq60, rfl, ts, O, M, k, us2, I⟩ := hrel
    obtain ⟨w6, hw6⟩ : ∃ w6, w6 = wr := ⟨_, rfl⟩
    subst hw6
    by_cases hend : q < m ∧ q < 60
    ·obtain ⟨hqm, hq6⟩ := hend
     have hqmi : (q : Int) < m := by omega
     have hq6i : (q : Int) < 60 := by omega
     have hgA : ∀ g b, A = some ⟨g, b, none⟩ → g < w.heap.size := fun g b e => by
      obtain ⟨g', b', e', h, -⟩ := HB.out.rd (by omega)
      rw [e] at e'; cases e'; exact h
     obtain ⟨o, gA, bA, hol, hA, hoo, co0, co1, co2, -⟩ := HB.out.cells (HFW.out.trans_nil I.lv.fr) hqm
     have HOL := Lib.hid hol
     have hgA := hgA _ _ hA
     subst hA
     have HGA := Lib.hid (show gA ∉ [P.S.m] from fun hm => by have := I.lv.sm.1; have := HFW.out.size; have := List.mem_singleton.1 hm; omega)
     have HOB := Lib.hid hoo.b
     have HON := Lib.hid hoo.n
     have HI := Lib.hid I
     have HCO := Lib.hid co2
     have d0 : ((i : Int) == 0) = false := by rw [beq_eq_false_iff_ne]; omega
     obtain ⟨r, hr⟩ : ∃ r, o.n.tmod i = r := ⟨_, rfl⟩
     have t1 := Int.tmod_lt_of_pos o.n (show (0 : Int) < i by omega)
     have t2 := Int.lt_tmod_of_pos o.n (show (0 : Int) < i by omega)
     rw [hr] at t1 t2
     obtain ⟨at_, hat⟩ : ∃ a : Nat, (if r < 0 then r + i else r) = (a : Int) := ⟨(if r < 0 then r + i else r).toNat, by split <;> omega⟩
     have hatT : at_ < i := by split at hat <;> omega
     have HAt := Lib.hid hat
     clear hat hoo I co0 co2 hgA hol
     go_upto_if 63 with fail
     go_cut [10] from 64 to 66 (fun v wx => v = .int .i64 (at_ : Int) ∧ wx = w6)
     case first =>
      have E4 : IntKind.i64.wrap (r + i) = r + i := IntWalk.i64_in _ (by omega)
      by_cases hneg : r < 0
      ·go_wp2_with fail
       go_meet
       exact ⟨by rw [← HAt.out, if_pos hneg], rfl⟩
      ·go_wp2_with fail
       go_meet
       exact ⟨by rw [← HAt.out, if_neg (by omega)], rfl⟩
     case rest =>
      obtain ⟨rfl, hwc⟩ := hcut
      subst hwc
      clear t1 t2 hr co1
      have hat2 : at_ < tagsN s := by rw [HTT.out]; exact hatT
      have HAT := Lib.hid (And.intro hatT hat2)
      have hg := HI.out.g
      obtain ⟨g1, g2, g3, g4'⟩ := hg.chg (i := at_) (b := blkOf o.l) HI.out.lv.sg hat2 (blkOf_len _)
      have hlk := hg.look hat2
      rw [HTT.out] at hlk
      have HG := Lib.hid hg
      obtain ⟨M1, hM1⟩ : ∃ M1, mS s M at_ (blkOf o.l) = M1 := ⟨_, rfl⟩
      obtain ⟨R1, hR1⟩ : ∃ R1, rS s M at_ (blkOf o.l) = R1 := ⟨_, rfl⟩
      obtain ⟨R, hR⟩ : ∃ R, bldR (ts.map leafH) = R := ⟨_, rfl⟩
      have HR := Lib.hid hR
      have HRL := Lib.hid (show (bvs R).length = 32 by rw [← hR, bvs_length]; exact HI.out.lv.rl)
      have HPB := Lib.hid (show P.b ∉ [P.S.m] from fun hm => HI.out.lv.sm.2 (List.mem_singleton.1 hm).symm)
      rw [hR] at hlk
      have HLK := Lib.hid hlk
      have HRr := Lib.hid (show rootP i (chL (pathS M (lyB s).tree (lyB s).lev at_) at_ (leafH (blkOf o.l))) = R1 ∧ chgS M (lyB s).tree (lyB s).tags (lyB s).lev at_ (blkOf o.l) = M1 from ⟨by rw [← hR1, rS, HTT.out]; rfl, by rw [← hM1]; rfl⟩)
      have HR1 := Lib.hid (And.intro trivial (show R1.length = 32 by rw [← hR1]; exact shaSum_length _))
      rw [hM1] at g1 g3 g4'
      rw [hR1] at g2
      have HG1 := Lib.hid (And.intro g1 (And.intro g2 (And.intro g3 g4')))
      have H6 := Lib.hid HI.out.lv
      have hkk : k ≤ 180 := by have := HI.out.kk; omega
      clear g1 g2 g3 g4' hlk hM1 hR1 hR hg hat2
      go_upto_region 16 with fail
      go_cut [11, 12] from 67 to 89 (fun s11 s12 wx => ∃ g4, s11 = .pointer (some ⟨g4, 0, none⟩) ∧ s12 = .int .i64 0 ∧ Blk wx g4 39 (bvs R1).toArray ∧ LvS B wx P (lyB s) i (bldR (ts.map leafH)) O M1 (k + 3) ∧ BRow wx gh (.slice (some ⟨gh, 0, none⟩) i i) us2 ts)
      case first =>
       go_wp2_with fail
       obtain ⟨wD, hwD⟩ : ∃ wD, wc.drew = wD := ⟨_, rfl⟩
       have fD : Fr [] wc wD := by rw [← hwD]; exact (Fr.refl [] _).drew
       have HD := Lib.hid (H6.out.keep fD)
       have hc := HD.out.cells
       rw [HCs.out, HR.out] at hc
       have HLD := Lib.hid hc
       have HFD := Lib.hid fD
       clear hc fD
       refine wp_region_held_drew (S := fun w' => Fr [P.S.m] wD w') (by kernel_rfl) (by rw [hwD]; exact Fr.refl _ _) (fun hHeld => ?_)
       rw [hwD] at hHeld ⊢
       clear hwD
       have HBL := Lib.hid (And.intro HD.out.sg.belowW HD.out.blk.lt)
       have co2 := HFD.out.cell (by simp) HCO.out
       refine tw 0 68 hHeld ?_
       refine tw 1 69 hHeld ?_
       refine tw 2 70 hHeld ?_
       refine tw 3 71 hHeld ?_ (v := .pointer (some ⟨P.S.g, 0, none⟩)) (hy := (fun w hSw => by have c := hSw.cell HPB.out HLD.out.1; go_simp))
       refine tw 4 72 hHeld ?_
       refine tw 5 73 hHeld ?_
       refine tw 6 74 hHeld ?_
       refine tw 7 75 hHeld ?_ (v := .agg Cs.toArray) (hy := (fun w hSw => hy_ld stLay rfl P.b 4 rfl Cs HCL.out (rangeAt_keep HLD.out.2.1 hSw HPB.out)))
       refine tw 8 76 hHeld ?_
       refine tw 9 77 hHeld ?_
       refine tw 10 78 hHeld ?_
       refine tw 11 79 hHeld ?_
       refine tw 12 80 hHeld ?_
       refine tw 13 81 hHeld ?_ (v := .slice o.A o.m o.c) (hy := (fun w hSw => by have c := hSw.cell HGA.out co2; go_simp))
       refine tw 15 83 hHeld ?_
       refine tw 16 84 hHeld ?_
       refine tw 17 85 hHeld ?_
       refine tw 18 86 hHeld ?_ (v := .agg (bvs R).toArray) (hy := (fun w hSw => hy_ld stA32 rfl P.b 13 rfl (bvs R) HRL.out (rangeAt_keep HLD.out.2.2 hSw HPB.out)))
       have FQ : Fr [] wD wD := Fr.refl _ _
       refine take_2c 14 23 rfl rfl (by kernel_rfl) (by rfl) (by rfl) (fun K hK => ?_) (fun K hK => ?_)
       ·skip
        have cbk := dkBlock_any wD o.A o.m o.c o.l HOB.out.len ((fun (f : Fr [] wD wD) => HOB.out.rd.keep_nil (HFW.out.trans_nil (HD.out.fr.trans_nil f))) FQ) (by have := HOB.out.reach; omega)
        go_simp
        refine cbk.mono ?_
        rintro e wa ⟨vq, rfl, rq, fq⟩
        obtain ⟨Aq, cq, rfl, hcq, -, -, -, -⟩ := rq.shape
        refine hK.out _ _ (hHeld.trans_nil fq) (fun hHx => ?_)
        clear hK cbk
        have FQ := FQ.trans_nil fq
        skip
        clear fq hHeld
        have hHeld := hHx
        clear hHx
        try simp only [Act.put, p1, p2, p3]
        refine take_2c 19 23 rfl rfl (by kernel_rfl) (by rfl) (by rfl) (fun K hK => ?_) (fun K hK => ?_)
        ·skip
         have cg := meChange_any (HD.out.keep FQ).sg (by omega) (HD.out.keep FQ).lyW (i := at_) HAT.out.1 (HG.out.leaf (HD.out.keep FQ).sg HAT.out.2) HD.out.rl (HK.out.keep (HFW.out.trans_nil (HD.out.keep FQ).fr)) (b := blkOf o.l) (blkOf_len _) rq.rdD.1 rq.rdD.2.2 hcq
         rw [HR.out, HCs.out] at cg
         go_simp
         refine cg.mono ?_
         rintro e wb hC
         obtain ⟨rfl, hsg, fg⟩ : e = .returned (.tuple #[.agg (bvs R1).toArray, .int .i64 0]) ∧ SgW wb P.S O M1 (k + 3) ∧ Fr [P.S.m] wa wb := by
          rcases hC with ⟨-, -, h⟩ | ⟨-, hb, -⟩ | ⟨hb, -⟩
          ·rw [HRr.out.1, HRr.out.2] at h; exact h
          ·exact absurd (blkOf_len _) hb
          ·rw [HLK.out] at hb; cases hb
         refine hK.out _ _ (hHeld.trans_same fg) (fun hHx => ?_)
         clear hK cg
         have LL := (HD.out.keep FQ).chg hsg fg
         skip
         clear hsg fg hHeld FQ rq
         have hHeld := hHx
         clear hHx
         try simp only [Act.put, p1, p2, p3]
         refine tw 20 67 hHeld ?_
         refine tw 21 88 hHeld ?_
         refine tw 22 89 hHeld ?_
         refine tc 23 (fun K hK => ?_)
         refine wp_alS stA32 rfl (fun wc2 k4 f4 z4 => hK.out _ _ (hHeld.trans_nil f4) (fun hHx => ?_))
         clear hK
         obtain ⟨g4, hg4⟩ : ∃ g, wb.heap.size = g := ⟨_, rfl⟩
         rw [hg4] at k4 ⊢
         have H4 := Lib.hid (show wD.heap.size ≤ g4 by rw [← hg4]; exact hHeld.size)
         (have LL := LL.keep f4)
         clear hHeld z4 hg4 f4
         have hHeld := hHx
         clear hHx
         try simp only [Act.put, p1, p2, p3]
         have hg4 := H4.out
         have hbl := HBL.out.1
         have hpb := HBL.out.2
         refine tcd 24 none (fun K hK => ?_)
         refine wp_stB stA32 rfl g4 rfl (bvs R1) rfl (by rw [bvs_length]; exact HR1.out.2) (bvs_one _) (bvs (zB 32)) rfl k4 (fun wz hz fz zz => hK _ wz (hHeld.trans fz (fun i hi => .inr (by rw [List.mem_singleton.1 hi]; exact hg4))) fun hHx => ?_)
         have LZ := LL.put hbl hpb hg4 fz (k4.noTyOf (by decide))
         have FZ := hHx
         clear hHeld hK
         have hHeld := hHx
         clear hHx
         try simp only [Act.put, p1, p2, p3]
         refine tw 25 12 hHeld ?_
         refine wpAnyH_done (by kernel_rfl) ?_ _
         clear hHeld
         go_wp2_with fail
         go_meet
         exact ⟨g4, rfl, rfl, hz, LZ, ((HI.out.hv.keep_nil HFD.out).keepT FZ (HD.out.sg.noM _) (HD.out.sg.noM _))⟩
        ·skip
         refine wp_alS stA32 rfl (fun wb k4 f4 z4 => hK.out _ _ (hHeld.trans_nil f4) (fun hHx => ?_))
         clear hK
         obtain ⟨g4, hg4⟩ : ∃ g, wa.heap.size = g := ⟨_, rfl⟩
         rw [hg4] at k4 ⊢
         have H4 := Lib.hid (show wD.heap.size ≤ g4 by rw [← hg4]; exact hHeld.size)
         (have FQ := FQ.trans_nil f4; have rq := rq.keep_nil f4)
         clear hHeld z4 hg4 f4
         have hHeld := hHx
         clear hHx
         try simp only [Act.put, p1, p2, p3]
         refine tc 19 (fun K hK => ?_)
         have cg := meChange_any (HD.out.keep FQ).sg (by omega) (HD.out.keep FQ).lyW (i := at_) HAT.out.1 (HG.out.leaf (HD.out.keep FQ).sg HAT.out.2) HD.out.rl (HK.out.keep (HFW.out.trans_nil (HD.out.keep FQ).fr)) (b := blkOf o.l) (blkOf_len _) rq.rdD.1 rq.rdD.2.2 hcq
         rw [HR.out, HCs.out] at cg
         go_simp
         refine cg.mono ?_
         rintro e wc2 hC
         obtain ⟨rfl, hsg, fg⟩ : e = .returned (.tuple #[.agg (bvs R1).toArray, .int .i64 0]) ∧ SgW wc2 P.S O M1 (k + 3) ∧ Fr [P.S.m] wb wc2 := by
          rcases hC with ⟨-, -, h⟩ | ⟨-, hb, -⟩ | ⟨hb, -⟩
          ·rw [HRr.out.1, HRr.out.2] at h; exact h
          ·exact absurd (blkOf_len _) hb
          ·rw [HLK.out] at hb; cases hb
         refine hK.out _ _ (hHeld.trans_same fg) (fun hHx => ?_)
         clear hK cg
         have LL := (HD.out.keep FQ).chg hsg fg
         (have k4 := k4.keep fg ((HD.out.keep FQ).sg.offF k4))
         clear hsg fg hHeld FQ rq
         have hHeld := hHx
         clear hHx
         try simp only [Act.put, p1, p2, p3]
         refine tw 20 67 hHeld ?_
         refine tw 21 88 hHeld ?_
         refine tw 22 89 hHeld ?_
         have hg4 := H4.out
         have hbl := HBL.out.1
         have hpb := HBL.out.2
         refine tcd 24 none (fun K hK => ?_)
         refine wp_stB stA32 rfl g4 rfl (bvs R1) rfl (by rw [bvs_length]; exact HR1.out.2) (bvs_one _) (bvs (zB 32)) rfl k4 (fun wz hz fz zz => hK _ wz (hHeld.trans fz (fun i hi => .inr (by rw [List.mem_singleton.1 hi]; exact hg4))) fun hHx => ?_)
         have LZ := LL.put hbl hpb hg4 fz (k4.noTyOf (by decide))
         have FZ := hHx
         clear hHeld hK
         have hHeld := hHx
         clear hHx
         try simp only [Act.put, p1, p2, p3]
         refine tw 25 12 hHeld ?_
         refine wpAnyH_done (by kernel_rfl) ?_ _
         clear hHeld
         go_wp2_with fail
         go_meet
         exact ⟨g4, rfl, rfl, hz, LZ, ((HI.out.hv.keep_nil HFD.out).keepT FZ (HD.out.sg.noM _) (HD.out.sg.noM _))⟩
       ·skip
        refine wp_alS stA32 rfl (fun wa k4 f4 z4 => hK.out _ _ (hHeld.trans_nil f4) (fun hHx => ?_))
        clear hK
        obtain ⟨g4, hg4⟩ : ∃ g, wD.heap.size = g := ⟨_, rfl⟩
        rw [hg4] at k4 ⊢
        have H4 := Lib.hid (show wD.heap.size ≤ g4 by rw [← hg4]; exact hHeld.size)
        (have FQ := FQ.trans_nil f4)
        clear hHeld z4 hg4 f4
        have hHeld := hHx
        clear hHx
        try simp only [Act.put, p1, p2, p3]
        refine tc 14 (fun K hK => ?_)
        have cbk := dkBlock_any wa o.A o.m o.c o.l HOB.out.len ((fun (f : Fr [] wD wa) => HOB.out.rd.keep_nil (HFW.out.trans_nil (HD.out.fr.trans_nil f))) FQ) (by have := HOB.out.reach; omega)
        go_simp
        refine cbk.mono ?_
        rintro e wb ⟨vq, rfl, rq, fq⟩
        obtain ⟨Aq, cq, rfl, hcq, -, -, -, -⟩ := rq.shape
        refine hK.out _ _ (hHeld.trans_nil fq) (fun hHx => ?_)
        clear hK cbk
        have FQ := FQ.trans_nil fq
        (have k4 := k4.keep_nil fq)
        clear fq hHeld
        have hHeld := hHx
        clear hHx
        try simp only [Act.put, p1, p2, p3]
        refine tc 19 (fun K hK => ?_)
        have cg := meChange_any (HD.out.keep FQ).sg (by omega) (HD.out.keep FQ).lyW (i := at_) HAT.out.1 (HG.out.leaf (HD.out.keep FQ).sg HAT.out.2) HD.out.rl (HK.out.keep (HFW.out.trans_nil (HD.out.keep FQ).fr)) (b := blkOf o.l) (blkOf_len _) rq.rdD.1 rq.rdD.2.2 hcq
        rw [HR.out, HCs.out] at cg
        go_simp
        refine cg.mono ?_
        rintro e wc2 hC
        obtain ⟨rfl, hsg, fg⟩ : e = .returned (.tuple #[.agg (bvs R1).toArray, .int .i64 0]) ∧ SgW wc2 P.S O M1 (k + 3) ∧ Fr [P.S.m] wb wc2 := by
         rcases hC with ⟨-, -, h⟩ | ⟨-, hb, -⟩ | ⟨hb, -⟩
         ·rw [HRr.out.1, HRr.out.2] at h; exact h
         ·exact absurd (blkOf_len _) hb
         ·rw [HLK.out] at hb; cases hb
        refine hK.out _ _ (hHeld.trans_same fg) (fun hHx => ?_)
        clear hK cg
        have LL := (HD.out.keep FQ).chg hsg fg
        (have k4 := k4.keep fg ((HD.out.keep FQ).sg.offF k4))
        clear hsg fg hHeld FQ rq
        have hHeld := hHx
        clear hHx
        try simp only [Act.put, p1, p2, p3]
        refine tw 20 67 hHeld ?_
        refine tw 21 88 hHeld ?_
        refine tw 22 89 hHeld ?_
        have hg4 := H4.out
        have hbl := HBL.out.1
        have hpb := HBL.out.2
        refine tcd 24 none (fun K hK => ?_)
        refine wp_stB stA32 rfl g4 rfl (bvs R1) rfl (by rw [bvs_length]; exact HR1.out.2) (bvs_one _) (bvs (zB 32)) rfl k4 (fun wz hz fz zz => hK _ wz (hHeld.trans fz (fun i hi => .inr (by rw [List.mem_singleton.1 hi]; exact hg4))) fun hHx => ?_)
        have LZ := LL.put hbl hpb hg4 fz (k4.noTyOf (by decide))
        have FZ := hHx
        clear hHeld hK
        have hHeld := hHx
        clear hHx
        try simp only [Act.put, p1, p2, p3]
        refine tw 25 12 hHeld ?_
        refine wpAnyH_done (by kernel_rfl) ?_ _
        clear hHeld
        go_wp2_with fail
        go_meet
        exact ⟨g4, rfl, rfl, hz, LZ, ((HI.out.hv.keep_nil HFD.out).keepT FZ (HD.out.sg.noM _) (HD.out.sg.noM _))⟩
      case rest =>
       obtain ⟨g4, rfl, rfl, h4, LZ, RZ⟩ := hcut
       have HLZ := Lib.hid (And.intro LZ RZ)
       have hbl := LZ.blk
       have hcz : (P.cells (lyB s) (bldR (ts.map leafH))).length = 45 := bothC_len _ _ _ _ _ _ rfl (by rw [bvs_length]; exact LZ.rl)
       have HCZ := Lib.hid hcz
       clear LZ RZ hcz H6
       go_upto_region 20 with
        (first
         | (refine wpList_ldS stA32 rfl rfl g4 0 rfl (bvs R1) (by rw [bvs_length]; exact HR1.out.2) h4.range0 ?_)
         | (refine wpList_stS stA32 rfl rfl P.b 13 rfl (bvs R1) rfl (by rw [bvs_length]; exact HR1.out.2) (bvs_one _) _ _ _ hbl (free_zero _) (by rw [List.size_toArray, HCZ.out]; decide) ?_; intro w7 h7 f7 z7; clear z7))
       have L7 := HLZ.out.1.toRoot HR1.out.2 f7 (by
        rw [show (P.cells (lyB s) (bldR (ts.map leafH))).toArray.toList.take 13 ++ bvs R1 ++ (P.cells (lyB s) (bldR (ts.map leafH))).toArray.toList.drop (13 + (bvs R1).length) = P.cells (lyB s) R1 from bothC_put _ _ _ _ _ _ _ rfl (by rw [bvs_length]; exact HLZ.out.1.rl) (by rw [bvs_length]; exact HR1.out.2)] at h7
        exact h7)
       have R7 := HLZ.out.2.keepT f7 (HLZ.out.1.blk.noTyOf (by decide)) (HLZ.out.1.blk.noTyOf (by decide))
       obtain ⟨o', gA', bA', hol', hA', -, -, -, co2, -⟩ := HB.out.cells (HFW.out.trans_nil L7.fr) hqm
       rw [HOL.out] at hol'
       cases hol'
       cases hA'
       have H7 := Lib.hid (And.intro L7 R7)
       clear h7 f7 L7 R7 hbl h4
       go_wp2_with fail
       have cbk := dkBlock_any w7 o.A o.m o.c o.l HOB.out.len (HOB.out.rd.keep_nil (HFW.out.trans_nil H7.out.1.fr)) (by have := HOB.out.reach; omega)
       refine cbk.mono ?_
       rintro e w8 ⟨vq, rfl, rq, fq⟩
       have L8 := H7.out.1.keep fq
       have R8 := H7.out.2.keep_nil fq
       have hgl := (R8.row.lt gh rfl)
       have hs7 := (H7.out.2.row.lt gh rfl).2
       obtain ⟨c1, z1, R9⟩ := R8.set_ (by rw [HI.out.g.n, HTT.out]) hatT (b := blkOf o.l) (by rw [blkOf_len]; exact rq.mono (by omega))
       have hul2 : us2.length = i := by have := HI.out.hv.vlen; rw [HI.out.g.n, HTT.out] at this; exact this
       rw [List.getElem?_eq_getElem (by omega)] at c1
       obtain ⟨y, hy⟩ : ∃ y, us2[at_]'(by omega) = y := ⟨_, rfl⟩
       rw [hy] at c1
       obtain ⟨Aq, cq, rfl, -, -, -, -, -⟩ := rq.shape
       have f9 : Fr [gh] w8 (w8.setCell ⟨gh, at_, none⟩ (.slice Aq 512 cq)) := (Fr.refl _ _).setCell (.inl (by simp)) _
       have hn8 : ∀ e, e ≠ 27 → NoTy w8 [gh] e := fun e he j hj => R8.row.noTy (d := e) (fun h => he h.symm) j (mem_own.2 (by rw [List.mem_singleton.1 hj]; rfl))
       have L9 := L8.row f9 (hn8 _ (by decide)) HI.out.go HBG.out hn8
       have H9 := Lib.hid (And.intro L9 R9)
       clear cbk L8 R8 R9 L9 hn8 f9 hy rq fq hul2 hs7 hgl co2
       have hmod : ((q : Int).tmod 4) = ((q % 4 : Nat) : Int) := (Int.ofNat_tmod _ _).symm
       by_cases h43 : q % 4 = 3
       ·have hmod3 : (q : Int).tmod 4 = 3 := by rw [hmod, h43]; rfl
        clear hmod
        have cbs := H9.out.1.cells.1
        have hnum : M1.C.J.num + 1200 < 9223372036854775808 := by rw [HG1.out.2.2.1]; have := HI.out.num; omega
        obtain ⟨k1, k2, k3, k4⟩ := HG1.out.1.com hnum
        have hst12 : M1.st.length ≤ 37 := by have := HG1.out.2.2.2; have := HI.out.st; omega
        obtain ⟨hE0, hst0⟩ := k4 hst12
        have hpos : 0 < B.heap.size := by have := kg_pos HK.out; have := HFW.out.size; omega
        have cco := sgCommit_any H9.out.1.sg HG1.out.1.g hnum (HK.out.keep (HFW.out.trans_nil H9.out.1.fr)) (fun hm => by have := (H9.out.1.new 0 hm).1; omega) (fun x => by rw [HG1.out.2.2.1]; have := HI.out.uns x; omega) (by omega)
        rw [hE0] at cco
        have HK1 := Lib.hid (And.intro k1 (And.intro k2 (And.intro k3 hst0)))
        clear hnum k1 k2 k3 k4 hst12 hE0 hst0 hpos
        go_wp2_with fail
        refine cco.mono ?_
        rintro e wA ⟨rfl, O', a1, a2, a3⟩
        have hgo' : gh ∉ P.S.own O' := fun hm => by
         rcases SgP.own_sub (S := P.S) (O := O) a2 gh hm with h | h
         ·exact HI.out.go h
         ·have := (H9.out.2.row.lt gh rfl).2; omega
        have RA := H9.out.2.keepW a3 HI.out.go H9.out.1.sg.own8
        obtain ⟨O3, LA⟩ : ∃ O3, LvS B wA P (lyB s) i R1 O3 (comSM M1) (k + 3) ∧ O3 = O' := by
         have hbl := H9.out.1.blk.lt
         have hs := H9.out.1.fr.size
         refine ⟨O', ⟨H9.out.1.blk.keep a3 (fun hm => (H9.out.1.new _ hm).2 rfl), H9.out.1.rl, H9.out.1.ly, a1, fun j hj => ?_, H9.out.1.pb, H9.out.1.fr.trans a3 (fun j hj => .inr (H9.out.1.new j hj).1)⟩, rfl⟩
         rcases SgP.own_sub (S := P.S) (O := O) a2 j hj with h4 | h4
         ·exact H9.out.1.new j h4
         ·exact ⟨by omega, by omega⟩
        obtain ⟨LA, rfl⟩ := LA
        have HA := Lib.hid (show RtI B wA gh P s i gh (q + 1) (ts.set at_ (blkOf o.l)) O3 (comSM M1) (k + 3) _ from ⟨by rw [← HG1.out.2.1]; exact LA, HK1.out.1, RA, hgo', by rw [HK1.out.2.2.2]; exact Nat.zero_le _, by have := HK1.out.2.1; rw [HG1.out.2.2.1] at this; have := HI.out.num; omega, fun x => by have := HK1.out.2.2.1 x; rw [HG1.out.2.2.1] at this; have := HI.out.uns x; omega, by have := HI.out.kk; omega⟩)
        clear cco a1 a2 a3 hgo' RA LA cbs
        go_wp2_with fail
        exact ⟨⟨q + 1, by omega, by omega, by go_num, _, _, _, _, _, HA.out⟩, by simp [intOf]; omega⟩
       ·have hmod3 : (((q : Int).tmod 4) == 3) = false := by rw [hmod, beq_eq_false_iff_ne]; omega
        clear hmod
        have HA := Lib.hid (show RtI B (w8.setCell ⟨gh, at_, none⟩ (.slice Aq 512 cq)) gh P s i gh (q + 1) (ts.set at_ (blkOf o.l)) O M1 (k + 3) _ from ⟨by rw [← HG1.out.2.1]; exact H9.out.1, HG1.out.1, H9.out.2, HI.out.go, by have := HG1.out.2.2.2; have := HI.out.st; omega, by rw [HG1.out.2.2.1]; have := HI.out.num; omega, fun x => by rw [HG1.out.2.2.1]; have := HI.out.uns x; omega, by have := HI.out.kk; omega⟩)
        go_wp2_with fail
        exact ⟨⟨q + 1, by omega, by omega, by go_num, _, _, _, _, _, HA.out⟩, by simp [intOf]; omega⟩
    ·by_cases hqm : q < m
     ·have hq6 : ¬ ((q : Int) < 60) := fun h => hend ⟨hqm, by omega⟩
      have hqmi : (q : Int) < m := by omega
      clear hend
      have HI := Lib.hid I
      have hTl : ts.length = i := by rw [I.g.n, HTT.out]
      have HTL := Lib.hid hTl
      clear I hTl
      go_wp2_with fail
      go_loopw [13, 14] (fun t13 t14 wr => ∃ j : Nat, j ≤ i ∧ t14 = .int .i64 j ∧ Row wr w6.heap.size 39 32 t13 j (bvs ((ts.take j).map leafH).flatten) ∧ Fr [] w6 wr) (fun _ t _ => i - (intOf t).toNat)
      case atStart => exact ⟨0, Nat.zero_le _, rfl, Row.nil _ _ _ _, Fr.refl _ _⟩
      case round =>
       obtain ⟨j, hj, rfl, RL, fl⟩ := hrel
       obtain ⟨w7, hw7⟩ : ∃ w7, w7 = wr := ⟨_, rfl⟩
       subst hw7
       obtain ⟨AL, cL, rfl, -, -, -, -, -⟩ := RL.shape
       by_cases hji : j < i
       ·have R7 := HI.out.hv.keep_nil fl
        have hvl := R7.vlen
        have hjt : j < ts.length := by rw [HTL.out]; exact hji
        have hju : j < us2.length := by omega
        have hx5 : (ts[j]'hjt).length = 512 := HI.out.g.l5 _ (List.getElem_mem hjt)
        have hrj := R7.each j hju hjt
        rw [hx5] at hrj
        obtain ⟨gj, cj, ej⟩ := hrj.hdD (by omega)
        rw [ej] at hrj
        have cj0 : w7.cell? ⟨gh, j, none⟩ = some (.slice (some ⟨gj, 0, none⟩) 512 cj) := by
         obtain ⟨g', o', e', hc⟩ := R7.row.rdD.1 (by intro h0; rw [h0] at hju; simp at hju)
         cases e'
         have := hc j _ (List.getElem?_eq_getElem hju)
         rw [Nat.zero_add, ej] at this
         exact this
        have HTK := Lib.hid (show ((ts.take (j + 1)).map leafH).flatten = ((ts.take j).map leafH).flatten ++ leafH ts[j] by rw [List.take_succ_eq_append_getElem hjt, List.map_append, List.flatten_append]; simp only [List.map_cons, List.map_nil, List.flatten_cons, List.flatten_nil, List.append_nil])
        obtain ⟨x, hx⟩ : ∃ x, ts[j]'hjt = x := ⟨_, rfl⟩
        rw [hx] at hrj hx5 HTK
        have cll := xtLeaf_any (some ⟨gj, 0, none⟩) x 512 cj w7 hx5 hrj.rdD.1 (by simp) (by omega)
        obtain ⟨D, hD⟩ : ∃ D, leafH x = D := ⟨_, rfl⟩
        rw [hD] at cll HTK
        have HDL := Lib.hid (show D.length = 32 by rw [← hD]; exact shaSum_length _)
        have HRL2 := Lib.hid (And.intro RL fl)
        have HFL := Lib.hid (show (bvs ((ts.take j).map leafH).flatten).length = 32 * j by rw [bvs_length, flat_len _ (leafs_32 _), List.length_map, List.length_take]; omega)
        have hfs := fl.size
        clear R7 hvl hju hx5 hrj ej hx hD RL fl
        go_wp2_with fail
        refine cll.mono ?_
        rintro e w8 ⟨rfl, f8⟩
        have HF8 := Lib.hid f8
        clear cll f8
        go_wp2_with
         (first
          | (refine wpList_bs1 stA32 Tryz.underlying48 (by omega) (by decide) rfl rfl (bvs D) rfl (by rw [bvs_length, HDL.out]) ?_; intro w9 h9 f9 z9; have Z9 := Lib.hid z9; clear z9)
          | (at_builtin; refine wpList_app rfl rfl slA w6.heap.size _ j _ rfl ((HRL2.out.1.keep_nil HF8.out).keep_nil f9) _ 1 1 (bvs D) rfl (by rw [bvs_length, HDL.out]) (Rd.of_blk h9 0 _ (fun j u hu => by rw [Nat.zero_add]; simpa using hu)) (bvs_one _) (by simp) (by omega) (by have := f9.size; have := HF8.out.size; omega) ?_; intro v11 w11 p1 p2 p3 p4))
        obtain ⟨RL, fl⟩ := HRL2.out
        rw [← bvs_append, ← HTK.out] at p1
        exact ⟨⟨j + 1, by omega, by go_num, p1, ((fl.trans_nil HF8.out).trans_nil f9).trans p2 (fun b hb => .inr (RL.lt b (mem_own.1 hb)).1)⟩, by simp [intOf]; omega⟩
       ·obtain rfl : j = i := by omega
        have hml : (ts.map leafH).length = j := by rw [List.length_map, HTL.out]
        have cbd := xtBuild_any (w := w7) (A := AL) (n := j) (c := cL) hml hT (leafs_32 ts) (by have := RL.rdD.1; rw [List.take_of_length_le (by rw [HTL.out]; exact Nat.le_refl _)] at this; exact this)
        have H7 := Lib.hid (HI.out.lv.keep fl)
        have RH := Lib.hid (HI.out.hv.keep_nil fl)
        have d0j : ¬ ((j : Int) < j) := by omega
        clear RL fl hml
        go_wp2_with fail
        refine cbd.mono ?_
        rintro e w8 ⟨vb, ub, rfl, -, f8⟩
        obtain ⟨R, hR⟩ : ∃ R, bldR (ts.map leafH) = R := ⟨_, rfl⟩
        have HRR := Lib.hid hR
        have HRL := Lib.hid (show R.length = 32 by rw [← hR]; exact shaSum_length _)
        rw [hR]
        clear cbd hR
        go_upto_region 29 with
         (first
          | (refine wpList_alS stA32 (o := ⟨some 16, _, _, _, _, _⟩) rfl rfl ?_; intro w9 h9 f9 z9; have Z9 := Lib.hid z9; clear z9; obtain ⟨g9, hg9⟩ : ∃ g, w8.heap.size = g := ⟨_, rfl⟩; rw [hg9] at h9; rw [hg9]; have HG9 := Lib.hid hg9; clear hg9)
          | (refine wpList_stB stA32 rfl rfl g9 rfl (bvs R) rfl (by rw [bvs_length, HRL.out]) (bvs_one _) (bvs (zB 32)) rfl h9 ?_; intro w10 h10 f10 z10; have Z10 := Lib.hid z10; clear z10))
        have f710 := f8.trans_nil (f9.trans f10 (fun a ha => .inr (by have := HG9.out; simp at ha; omega)) : Fr [] w8 w10)
        have HL10 := Lib.hid (H7.out.keep f710)
        have HR10 := Lib.hid (RH.out.keep_nil f710)
        have HB10 := Lib.hid h10
        clear f8 f9 f10 f710 h9 h10 H7 RH
        obtain ⟨wD, hwD⟩ : ∃ wD, w10.drew = wD := ⟨_, rfl⟩
        have fD : Fr [] w10 wD := by rw [← hwD]; exact (Fr.refl [] _).drew
        have L11 := HL10.out.keep fD
        have hc13 := L11.cells.2.2
        rw [HRR.out] at hc13
        have HC13 := Lib.hid hc13
        have h9 := HB10.out.keep_nil fD
        have HL11 := Lib.hid L11
        have HR11 := Lib.hid (HR10.out.keep_nil fD)
        clear fD hc13 L11
        refine wp_region_held_drew (S := fun w' => Fr [] wD w') (by kernel_rfl) (by rw [hwD]; exact Fr.refl _ _) (fun hHeld => ?_)
        rw [hwD] at hHeld ⊢
        clear hwD
        refine tw 0 135 hHeld ?_ (v := .agg (bvs R).toArray) (hy := (fun w hSw => hy_ld stA32 rfl g9 0 rfl (bvs R) (by rw [bvs_length]; exact HRL.out) (Blk.keep_nil h9 hSw).range0))
        refine tw 1 136 hHeld ?_
        refine tw 2 137 hHeld ?_
        refine tw 3 138 hHeld ?_
        refine tw 4 139 hHeld ?_ (v := .agg (bvs R).toArray) (hy := (fun w hSw => hy_ld stA32 rfl P.b 13 rfl (bvs R) (by rw [bvs_length]; exact HRL.out) (rangeAt_keep HC13.out hSw (by simp))))
        refine tw 5 140 hHeld ?_ (v := .bool false) (hy := (fun w hSw => hy_eq stA32 rfl (.inr rfl) rfl rfl (!false) ((eq_bytes 9998 Tryz.underlying39 Tryz.underlying5 (by kernel_rfl) R R HRL.out HRL.out).trans (by simp))))
        refine wpAnyH_done (by kernel_rfl) ?_ _
        clear hHeld h9 HB10 HR10 HL10 HC13
        go_wp2_with fail
        go_loopw [18] (fun t18 wr => ∃ p : Nat, p ≤ j ∧ t18 = .int .i64 p ∧ Fr [] wD wr) (fun t _ => j - (intOf t).toNat)
        case atStart => exact ⟨0, Nat.zero_le _, rfl, Fr.refl _ _⟩
        case round =>
         obtain ⟨p, hp, rfl, fp⟩ := hrel
         obtain ⟨w12, hw12⟩ : ∃ w12, w12 = wr := ⟨_, rfl⟩
         subst hw12
         have H12 := Lib.hid (HL11.out.keep fp)
         have HV12 := Lib.hid (HR11.out.keep_nil fp)
         have fp0 := Lib.hid fp
         clear fp
         by_cases hpe : p < j ∧ p < 20
         ·obtain ⟨hpj, hp20⟩ := hpe
          have hpji : (p : Int) < j := by omega
          have hp20i : (p : Int) < 20 := by omega
          have hpS : p < tagsN s := by rw [HTT.out]; exact hpj
          have HR := HRR
          have HRL2 := HRL
          have HRL := Lib.hid (show (bvs R).length = 32 by rw [bvs_length]; exact HRL2.out)
          have HPB := Lib.hid (show P.b ∉ [P.S.m] from fun hm => H12.out.sm.2 (List.mem_singleton.1 hm).symm)
          go_upto_region 34 with fail
          obtain ⟨wD, hwD⟩ : ∃ wD, w12.drew = wD := ⟨_, rfl⟩
          have fD : Fr [] w12 wD := by rw [← hwD]; exact (Fr.refl [] _).drew
          have HD := Lib.hid (H12.out.keep fD)
          have hc := HD.out.cells
          rw [HCs.out, HR.out] at hc
          have HLD := Lib.hid hc
          have HFD := Lib.hid fD
          clear hc fD
          refine wp_region_held_drew (S := fun w' => Fr [P.S.m] wD w') (by kernel_rfl) (by rw [hwD]; exact Fr.refl _ _) (fun hHeld => ?_)
          rw [hwD] at hHeld ⊢
          clear hwD
          have hg1 := HI.out.g
          have hlk := hg1.look hpS
          rw [HTT.out, HR.out] at hlk
          have hilen : p < ts.length := by rw [HTL.out]; exact hpj
          have htag := hg1.tagI hilen
          have hx5 := hg1.l5 _ (List.getElem_mem hilen)
          obtain ⟨XB, hXB⟩ : ∃ XB, (ts[p]'hilen) = XB := ⟨_, rfl⟩
          rw [hXB] at htag hx5
          have HXB := Lib.hid (And.intro hXB hx5)
          have HTG := Lib.hid htag
          have HLL := Lib.hid hlk
          have cc := meCheck_any HD.out.sg HD.out.lyW (i := p) hpj (hg1.leaf HD.out.sg hpS) HD.out.rl (HK.out.keep (HFW.out.trans_nil (HD.out.fr)))
          rw [HR.out, HCs.out] at cc
          clear hg1 hlk htag hx5 hXB
          refine tw 0 151 hHeld ?_
          refine tw 1 152 hHeld ?_
          refine tw 2 153 hHeld ?_
          refine tw 3 154 hHeld ?_ (v := .pointer (some ⟨P.S.g, 0, none⟩)) (hy := (fun w hSw => by have c := hSw.cell HPB.out HLD.out.1; go_simp))
          refine tw 4 155 hHeld ?_
          refine tw 5 156 hHeld ?_
          refine tw 6 157 hHeld ?_
          refine tw 7 158 hHeld ?_ (v := .agg Cs.toArray) (hy := (fun w hSw => hy_ld stLay rfl P.b 4 rfl Cs HCL.out (rangeAt_keep HLD.out.2.1 hSw HPB.out)))
          refine tw 8 159 hHeld ?_
          refine tw 9 160 hHeld ?_
          refine tw 10 161 hHeld ?_
          refine tw 11 162 hHeld ?_
          refine tw 12 163 hHeld ?_ (v := .agg (bvs R).toArray) (hy := (fun w hSw => hy_ld stA32 rfl P.b 13 rfl (bvs R) HRL.out (rangeAt_keep HLD.out.2.2 hSw HPB.out)))
          refine tc 13 (fun K hK => ?_)
          go_simp
          refine cc.mono ?_
          rintro e w13 hC
          obtain ⟨vb, rfl, rb, fb⟩ : ∃ vb, e = .returned (.tuple #[vb, .int .i64 0]) ∧ Row w13 wD.heap.size 5 1 vb 512 (bvs (rdS M (((lyB s).tags + p : Nat) : Int))) ∧ Fr [] wD w13 := by
           rcases hC with ⟨-, h⟩ | ⟨hb, -⟩
           ·exact h
           ·rw [HLL.out] at hb; cases hb
          refine hK.out _ _ (hHeld.trans_nil fb) (fun hHx => ?_)
          clear hHeld hHx hK cc
          have hHeld : Fr [P.S.m] wD w13 := (Fr.refl _ _).trans_nil fb
          try simp only [Act.put, p1, p2, p3]
          rw [HTG.out] at rb
          refine tw 14 150 hHeld ?_
          refine tw 15 165 hHeld ?_
          refine tw 16 166 hHeld ?_
          refine tw 17 19 hHeld ?_
          refine tw 18 20 hHeld ?_
          refine wpAnyH_done (by kernel_rfl) ?_ _
          obtain ⟨g5, c5, rfl⟩ := rb.hdD (by omega)
          have HRB := Lib.hid rb.rdD.1
          have HV13 := Lib.hid (HV12.out.keep_nil (HFD.out.trans_nil fb))
          have HFR := Lib.hid ((HD.out.keep fb).fr)
          have HF12 := Lib.hid (HFD.out.trans_nil fb)
          clear hHeld rb fb HLD HD HFD
          go_upto_region 35 with fail
          obtain ⟨wD, hwD⟩ : ∃ wD, w13.drew = wD := ⟨_, rfl⟩
          have fD : Fr [] w13 wD := by rw [← hwD]; exact (Fr.refl [] _).drew
          have HRD := Lib.hid (HRB.out.keep_nil fD)
          have HVD := HV13.out.keep_nil fD
          have hvl := HVD.vlen
          have hju : p < us2.length := by omega
          have hrj := HVD.each p hju hilen
          rw [HXB.out.1, HXB.out.2] at hrj
          obtain ⟨gj, cj, ej⟩ := hrj.hdD (by omega)
          rw [ej] at hrj
          have cj0 : wD.cell? ⟨gh, p, none⟩ = some (.slice (some ⟨gj, 0, none⟩) 512 cj) := by
           obtain ⟨g', o', e', hc⟩ := HVD.row.rdD.1 (by intro h0; rw [h0] at hju; simp at hju)
           cases e'
           have := hc p _ (List.getElem?_eq_getElem hju)
           rw [Nat.zero_add, ej] at this
           exact this
          have HRJ := Lib.hid hrj.rdD.1
          have HF13 := Lib.hid (HF12.out.trans_nil fD)
          obtain ⟨SX, hSX⟩ : ∃ SX : ByteArray, (⟨XB.toArray⟩ : ByteArray) = SX := ⟨_, rfl⟩
          have HSX := Lib.hid hSX
          have mkS : ∀ w' : World, Fr [] wD w' → (convert 27 9 (.slice (some ⟨g5, 0, none⟩) 512 c5)).run Tryz.prog w' = .ok (.string SX) w' := fun w' f => by
           rw [← HSX.out]
           exact conv_str Tryz.underlying27 Tryz.underlying5 Tryz.underlying9 w' _ XB 512 c5 HXB.out.2 (HRD.out.keep_nil f) (fun h => by cases h)
          have mkT : ∀ w' : World, Fr [] wD w' → (convert 27 9 (.slice (some ⟨gj, 0, none⟩) 512 cj)).run Tryz.prog w' = .ok (.string SX) w' := fun w' f => by
           rw [← HSX.out]
           exact conv_str Tryz.underlying27 Tryz.underlying5 Tryz.underlying9 w' _ XB 512 cj HXB.out.2 (HRJ.out.keep_nil f) (fun h => by cases h)
          have MK := Lib.hid mkS
          have MT := Lib.hid mkT
          clear fD hSX mkS mkT hrj ej hju hvl HVD
          refine wp_region_held_drew (S := fun w' => Fr [] wD w') (by kernel_rfl) (by rw [hwD]; exact Fr.refl _ _) (fun hHeld => ?_)
          rw [hwD] at hHeld ⊢
          clear hwD
          refine tw 0 167 hHeld ?_
          refine tw 1 168 hHeld ?_
          refine tw 2 169 hHeld ?_
          refine tw 3 170 hHeld ?_
          refine tw 4 171 hHeld ?_ (v := .string SX) (hy := (fun w hSw => by have := MK.out _ hSw; go_simp))
          refine tw 5 172 hHeld ?_
          refine tw 6 173 hHeld ?_
          refine tw 7 174 hHeld ?_
          refine tw 8 175 hHeld ?_ (v := .slice (some ⟨gj, 0, none⟩) 512 cj) (hy := (fun w hSw => by have c := Fr.cell hSw (by simp) cj0; go_simp))
          refine tw 9 176 hHeld ?_ (v := .string SX) (hy := (fun w hSw => by have := MT.out _ hSw; go_simp))
          refine tw 10 177 hHeld ?_
          refine tw 11 178 hHeld ?_
          refine wpAnyH_done (by kernel_rfl) ?_ _
          have HFE := Lib.hid (HF13.out.trans_nil hHeld)
          clear hHeld
          go_wp2_with fail
          exact ⟨⟨p + 1, by omega, by go_num, fp0.out.trans_nil HFE.out⟩, by simp [intOf]; omega⟩
         ·by_cases hpj : p < j
          ·have hp20 : ¬ ((p : Int) < 20) := fun h => hpe ⟨hpj, by omega⟩
           have hpji : (p : Int) < j := by omega
           clear hpe
           go_wp2_with fail
           go_ret
           exact ⟨rfl, HFW.out.trans_nil H12.out.fr⟩
          ·have hpji : ¬ ((p : Int) < j) := by omega
           clear hpe
           go_wp2_with fail
           go_ret
           exact ⟨rfl, HFW.out.trans_nil H12.out.fr⟩
     ·have hqmi : ¬ ((q : Int) < m) := by omega
      clear hend
      have HI := Lib.hid I
      have hTl : ts.length = i := by rw [I.g.n, HTT.out]
      have HTL := Lib.hid hTl
      clear I hTl
      go_wp2_with fail
      go_loopw [13, 14] (fun t13 t14 wr => ∃ j : Nat, j ≤ i ∧ t14 = .int .i64 j ∧ Row wr w6.heap.size 39 32 t13 j (bvs ((ts.take j).map leafH).flatten) ∧ Fr [] w6 wr) (fun _ t _ => i - (intOf t).toNat)
      case atStart => exact ⟨0, Nat.zero_le _, rfl, Row.nil _ _ _ _, Fr.refl _ _⟩
      case round =>
       obtain ⟨j, hj, rfl, RL, fl⟩ := hrel
       obtain ⟨w7, hw7⟩ : ∃ w7, w7 = wr := ⟨_, rfl⟩
       subst hw7
       obtain ⟨AL, cL, rfl, -, -, -, -, -⟩ := RL.shape
       by_cases hji : j < i
       ·have R7 := HI.out.hv.keep_nil fl
        have hvl := R7.vlen
        have hjt : j < ts.length := by rw [HTL.out]; exact hji
        have hju : j < us2.length := by omega
        have hx5 : (ts[j]'hjt).length = 512 := HI.out.g.l5 _ (List.getElem_mem hjt)
        have hrj := R7.each j hju hjt
        rw [hx5] at hrj
        obtain ⟨gj, cj, ej⟩ := hrj.hdD (by omega)
        rw [ej] at hrj
        have cj0 : w7.cell? ⟨gh, j, none⟩ = some (.slice (some ⟨gj, 0, none⟩) 512 cj) := by
         obtain ⟨g', o', e', hc⟩ := R7.row.rdD.1 (by intro h0; rw [h0] at hju; simp at hju)
         cases e'
         have := hc j _ (List.getElem?_eq_getElem hju)
         rw [Nat.zero_add, ej] at this
         exact this
        have HTK := Lib.hid (show ((ts.take (j + 1)).map leafH).flatten = ((ts.take j).map leafH).flatten ++ leafH ts[j] by rw [List.take_succ_eq_append_getElem hjt, List.map_append, List.flatten_append]; simp only [List.map_cons, List.map_nil, List.flatten_cons, List.flatten_nil, List.append_nil])
        obtain ⟨x, hx⟩ : ∃ x, ts[j]'hjt = x := ⟨_, rfl⟩
        rw [hx] at hrj hx5 HTK
        have cll := xtLeaf_any (some ⟨gj, 0, none⟩) x 512 cj w7 hx5 hrj.rdD.1 (by simp) (by omega)
        obtain ⟨D, hD⟩ : ∃ D, leafH x = D := ⟨_, rfl⟩
        rw [hD] at cll HTK
        have HDL := Lib.hid (show D.length = 32 by rw [← hD]; exact shaSum_length _)
        have HRL2 := Lib.hid (And.intro RL fl)
        have HFL := Lib.hid (show (bvs ((ts.take j).map leafH).flatten).length = 32 * j by rw [bvs_length, flat_len _ (leafs_32 _), List.length_map, List.length_take]; omega)
        have hfs := fl.size
        clear R7 hvl hju hx5 hrj ej hx hD RL fl
        go_wp2_with fail
        refine cll.mono ?_
        rintro e w8 ⟨rfl, f8⟩
        have HF8 := Lib.hid f8
        clear cll f8
        go_wp2_with
         (first
          | (refine wpList_bs1 stA32 Tryz.underlying48 (by omega) (by decide) rfl rfl (bvs D) rfl (by rw [bvs_length, HDL.out]) ?_; intro w9 h9 f9 z9; have Z9 := Lib.hid z9; clear z9)
          | (at_builtin; refine wpList_app rfl rfl slA w6.heap.size _ j _ rfl ((HRL2.out.1.keep_nil HF8.out).keep_nil f9) _ 1 1 (bvs D) rfl (by rw [bvs_length, HDL.out]) (Rd.of_blk h9 0 _ (fun j u hu => by rw [Nat.zero_add]; simpa using hu)) (bvs_one _) (by simp) (by omega) (by have := f9.size; have := HF8.out.size; omega) ?_; intro v11 w11 p1 p2 p3 p4))
        obtain ⟨RL, fl⟩ := HRL2.out
        rw [← bvs_append, ← HTK.out] at p1
        exact ⟨⟨j + 1, by omega, by go_num, p1, ((fl.trans_nil HF8.out).trans_nil f9).trans p2 (fun b hb => .inr (RL.lt b (mem_own.1 hb)).1)⟩, by simp [intOf]; omega⟩
       ·obtain rfl : j = i := by omega
        have hml : (ts.map leafH).length = j := by rw [List.length_map, HTL.out]
        have cbd := xtBuild_any (w := w7) (A := AL) (n := j) (c := cL) hml hT (leafs_32 ts) (by have := RL.rdD.1; rw [List.take_of_length_le (by rw [HTL.out]; exact Nat.le_refl _)] at this; exact this)
        have H7 := Lib.hid (HI.out.lv.keep fl)
        have RH := Lib.hid (HI.out.hv.keep_nil fl)
        have d0j : ¬ ((j : Int) < j) := by omega
        clear RL fl hml
        go_wp2_with fail
        refine cbd.mono ?_
        rintro e w8 ⟨vb, ub, rfl, -, f8⟩
        obtain ⟨R, hR⟩ : ∃ R, bldR (ts.map leafH) = R := ⟨_, rfl⟩
        have HRR := Lib.hid hR
        have HRL := Lib.hid (show R.length = 32 by rw [← hR]; exact shaSum_length _)
        rw [hR]
        clear cbd hR
        go_upto_region 29 with
         (first
          | (refine wpList_alS stA32 (o := ⟨some 16, _, _, _, _, _⟩) rfl rfl ?_; intro w9 h9 f9 z9; have Z9 := Lib.hid z9; clear z9; obtain ⟨g9, hg9⟩ : ∃ g, w8.heap.size = g := ⟨_, rfl⟩; rw [hg9] at h9; rw [hg9]; have HG9 := Lib.hid hg9; clear hg9)
          | (refine wpList_stB stA32 rfl rfl g9 rfl (bvs R) rfl (by rw [bvs_length, HRL.out]) (bvs_one _) (bvs (zB 32)) rfl h9 ?_; intro w10 h10 f10 z10; have Z10 := Lib.hid z10; clear z10))
        have f710 := f8.trans_nil (f9.trans f10 (fun a ha => .inr (by have := HG9.out; simp at ha; omega)) : Fr [] w8 w10)
        have HL10 := Lib.hid (H7.out.keep f710)
        have HR10 := Lib.hid (RH.out.keep_nil f710)
        have HB10 := Lib.hid h10
        clear f8 f9 f10 f710 h9 h10 H7 RH
        obtain ⟨wD, hwD⟩ : ∃ wD, w10.drew = wD := ⟨_, rfl⟩
        have fD : Fr [] w10 wD := by rw [← hwD]; exact (Fr.refl [] _).drew
        have L11 := HL10.out.keep fD
        have hc13 := L11.cells.2.2
        rw [HRR.out] at hc13
        have HC13 := Lib.hid hc13
        have h9 := HB10.out.keep_nil fD
        have HL11 := Lib.hid L11
        have HR11 := Lib.hid (HR10.out.keep_nil fD)
        clear fD hc13 L11
        refine wp_region_held_drew (S := fun w' => Fr [] wD w') (by kernel_rfl) (by rw [hwD]; exact Fr.refl _ _) (fun hHeld => ?_)
        rw [hwD] at hHeld ⊢
        clear hwD
        refine tw 0 135 hHeld ?_ (v := .agg (bvs R).toArray) (hy := (fun w hSw => hy_ld stA32 rfl g9 0 rfl (bvs R) (by rw [bvs_length]; exact HRL.out) (Blk.keep_nil h9 hSw).range0))
        refine tw 1 136 hHeld ?_
        refine tw 2 137 hHeld ?_
        refine tw 3 138 hHeld ?_
        refine tw 4 139 hHeld ?_ (v := .agg (bvs R).toArray) (hy := (fun w hSw => hy_ld stA32 rfl P.b 13 rfl (bvs R) (by rw [bvs_length]; exact HRL.out) (rangeAt_keep HC13.out hSw (by simp))))
        refine tw 5 140 hHeld ?_ (v := .bool false) (hy := (fun w hSw => hy_eq stA32 rfl (.inr rfl) rfl rfl (!false) ((eq_bytes 9998 Tryz.underlying39 Tryz.underlying5 (by kernel_rfl) R R HRL.out HRL.out).trans (by simp))))
        refine wpAnyH_done (by kernel_rfl) ?_ _
        clear hHeld h9 HB10 HR10 HL10 HC13
        go_wp2_with fail
        go_loopw [18] (fun t18 wr => ∃ p : Nat, p ≤ j ∧ t18 = .int .i64 p ∧ Fr [] wD wr) (fun t _ => j - (intOf t).toNat)
        case atStart => exact ⟨0, Nat.zero_le _, rfl, Fr.refl _ _⟩
        case round =>
         obtain ⟨p, hp, rfl, fp⟩ := hrel
         obtain ⟨w12, hw12⟩ : ∃ w12, w12 = wr := ⟨_, rfl⟩
         subst hw12
         have H12 := Lib.hid (HL11.out.keep fp)
         have HV12 := Lib.hid (HR11.out.keep_nil fp)
         have fp0 := Lib.hid fp
         clear fp
         by_cases hpe : p < j ∧ p < 20
         ·obtain ⟨hpj, hp20⟩ := hpe
          have hpji : (p : Int) < j := by omega
          have hp20i : (p : Int) < 20 := by omega
          have hpS : p < tagsN s := by rw [HTT.out]; exact hpj
          have HR := HRR
          have HRL2 := HRL
          have HRL := Lib.hid (show (bvs R).length = 32 by rw [bvs_length]; exact HRL2.out)
          have HPB := Lib.hid (show P.b ∉ [P.S.m] from fun hm => H12.out.sm.2 (List.mem_singleton.1 hm).symm)
          go_upto_region 34 with fail
          obtain ⟨wD, hwD⟩ : ∃ wD, w12.drew = wD := ⟨_, rfl⟩
          have fD : Fr [] w12 wD := by rw [← hwD]; exact (Fr.refl [] _).drew
          have HD := Lib.hid (H12.out.keep fD)
          have hc := HD.out.cells
          rw [HCs.out, HR.out] at hc
          have HLD := Lib.hid hc
          have HFD := Lib.hid fD
          clear hc fD
          refine wp_region_held_drew (S := fun w' => Fr [P.S.m] wD w') (by kernel_rfl) (by rw [hwD]; exact Fr.refl _ _) (fun hHeld => ?_)
          rw [hwD] at hHeld ⊢
          clear hwD
          have hg1 := HI.out.g
          have hlk := hg1.look hpS
          rw [HTT.out, HR.out] at hlk
          have hilen : p < ts.length := by rw [HTL.out]; exact hpj
          have htag := hg1.tagI hilen
          have hx5 := hg1.l5 _ (List.getElem_mem hilen)
          obtain ⟨XB, hXB⟩ : ∃ XB, (ts[p]'hilen) = XB := ⟨_, rfl⟩
          rw [hXB] at htag hx5
          have HXB := Lib.hid (And.intro hXB hx5)
          have HTG := Lib.hid htag
          have HLL := Lib.hid hlk
          have cc := meCheck_any HD.out.sg HD.out.lyW (i := p) hpj (hg1.leaf HD.out.sg hpS) HD.out.rl (HK.out.keep (HFW.out.trans_nil (HD.out.fr)))
          rw [HR.out, HCs.out] at cc
          clear hg1 hlk htag hx5 hXB
          refine tw 0 151 hHeld ?_
          refine tw 1 152 hHeld ?_
          refine tw 2 153 hHeld ?_
          refine tw 3 154 hHeld ?_ (v := .pointer (some ⟨P.S.g, 0, none⟩)) (hy := (fun w hSw => by have c := hSw.cell HPB.out HLD.out.1; go_simp))
          refine tw 4 155 hHeld ?_
          refine tw 5 156 hHeld ?_
          refine tw 6 157 hHeld ?_
          refine tw 7 158 hHeld ?_ (v := .agg Cs.toArray) (hy := (fun w hSw => hy_ld stLay rfl P.b 4 rfl Cs HCL.out (rangeAt_keep HLD.out.2.1 hSw HPB.out)))
          refine tw 8 159 hHeld ?_
          refine tw 9 160 hHeld ?_
          refine tw 10 161 hHeld ?_
          refine tw 11 162 hHeld ?_
          refine tw 12 163 hHeld ?_ (v := .agg (bvs R).toArray) (hy := (fun w hSw => hy_ld stA32 rfl P.b 13 rfl (bvs R) HRL.out (rangeAt_keep HLD.out.2.2 hSw HPB.out)))
          refine tc 13 (fun K hK => ?_)
          go_simp
          refine cc.mono ?_
          rintro e w13 hC
          obtain ⟨vb, rfl, rb, fb⟩ : ∃ vb, e = .returned (.tuple #[vb, .int .i64 0]) ∧ Row w13 wD.heap.size 5 1 vb 512 (bvs (rdS M (((lyB s).tags + p : Nat) : Int))) ∧ Fr [] wD w13 := by
           rcases hC with ⟨-, h⟩ | ⟨hb, -⟩
           ·exact h
           ·rw [HLL.out] at hb; cases hb
          refine hK.out _ _ (hHeld.trans_nil fb) (fun hHx => ?_)
          clear hHeld hHx hK cc
          have hHeld : Fr [P.S.m] wD w13 := (Fr.refl _ _).trans_nil fb
          try simp only [Act.put, p1, p2, p3]
          rw [HTG.out] at rb
          refine tw 14 150 hHeld ?_
          refine tw 15 165 hHeld ?_
          refine tw 16 166 hHeld ?_
          refine tw 17 19 hHeld ?_
          refine tw 18 20 hHeld ?_
          refine wpAnyH_done (by kernel_rfl) ?_ _
          obtain ⟨g5, c5, rfl⟩ := rb.hdD (by omega)
          have HRB := Lib.hid rb.rdD.1
          have HV13 := Lib.hid (HV12.out.keep_nil (HFD.out.trans_nil fb))
          have HFR := Lib.hid ((HD.out.keep fb).fr)
          have HF12 := Lib.hid (HFD.out.trans_nil fb)
          clear hHeld rb fb HLD HD HFD
          go_upto_region 35 with fail
          obtain ⟨wD, hwD⟩ : ∃ wD, w13.drew = wD := ⟨_, rfl⟩
          have fD : Fr [] w13 wD := by rw [← hwD]; exact (Fr.refl [] _).drew
          have HRD := Lib.hid (HRB.out.keep_nil fD)
          have HVD := HV13.out.keep_nil fD
          have hvl := HVD.vlen
          have hju : p < us2.length := by omega
          have hrj := HVD.each p hju hilen
          rw [HXB.out.1, HXB.out.2] at hrj
          obtain ⟨gj, cj, ej⟩ := hrj.hdD (by omega)
          rw [ej] at hrj
          have cj0 : wD.cell? ⟨gh, p, none⟩ = some (.slice (some ⟨gj, 0, none⟩) 512 cj) := by
           obtain ⟨g', o', e', hc⟩ := HVD.row.rdD.1 (by intro h0; rw [h0] at hju; simp at hju)
           cases e'
           have := hc p _ (List.getElem?_eq_getElem hju)
           rw [Nat.zero_add, ej] at this
           exact this
          have HRJ := Lib.hid hrj.rdD.1
          have HF13 := Lib.hid (HF12.out.trans_nil fD)
          obtain ⟨SX, hSX⟩ : ∃ SX : ByteArray, (⟨XB.toArray⟩ : ByteArray) = SX := ⟨_, rfl⟩
          have HSX := Lib.hid hSX
          have mkS : ∀ w' : World, Fr [] wD w' → (convert 27 9 (.slice (some ⟨g5, 0, none⟩) 512 c5)).run Tryz.prog w' = .ok (.string SX) w' := fun w' f => by
           rw [← HSX.out]
           exact conv_str Tryz.underlying27 Tryz.underlying5 Tryz.underlying9 w' _ XB 512 c5 HXB.out.2 (HRD.out.keep_nil f) (fun h => by cases h)
          have mkT : ∀ w' : World, Fr [] wD w' → (convert 27 9 (.slice (some ⟨gj, 0, none⟩) 512 cj)).run Tryz.prog w' = .ok (.string SX) w' := fun w' f => by
           rw [← HSX.out]
           exact conv_str Tryz.underlying27 Tryz.underlying5 Tryz.underlying9 w' _ XB 512 cj HXB.out.2 (HRJ.out.keep_nil f) (fun h => by cases h)
          have MK := Lib.hid mkS
          have MT := Lib.hid mkT
          clear fD hSX mkS mkT hrj ej hju hvl HVD
          refine wp_region_held_drew (S := fun w' => Fr [] wD w') (by kernel_rfl) (by rw [hwD]; exact Fr.refl _ _) (fun hHeld => ?_)
          rw [hwD] at hHeld ⊢
          clear hwD
          refine tw 0 167 hHeld ?_
          refine tw 1 168 hHeld ?_
          refine tw 2 169 hHeld ?_
          refine tw 3 170 hHeld ?_
          refine tw 4 171 hHeld ?_ (v := .string SX) (hy := (fun w hSw => by have := MK.out _ hSw; go_simp))
          refine tw 5 172 hHeld ?_
          refine tw 6 173 hHeld ?_
          refine tw 7 174 hHeld ?_
          refine tw 8 175 hHeld ?_ (v := .slice (some ⟨gj, 0, none⟩) 512 cj) (hy := (fun w hSw => by have c := Fr.cell hSw (by simp) cj0; go_simp))
          refine tw 9 176 hHeld ?_ (v := .string SX) (hy := (fun w hSw => by have := MT.out _ hSw; go_simp))
          refine tw 10 177 hHeld ?_
          refine tw 11 178 hHeld ?_
          refine wpAnyH_done (by kernel_rfl) ?_ _
          have HFE := Lib.hid (HF13.out.trans_nil hHeld)
          clear hHeld
          go_wp2_with fail
          exact ⟨⟨p + 1, by omega, by go_num, fp0.out.trans_nil HFE.out⟩, by simp [intOf]; omega⟩
         ·by_cases hpj : p < j
          ·have hp20 : ¬ ((p : Int) < 20) := fun h => hpe ⟨hpj, by omega⟩
           have hpji : (p : Int) < j := by omega
           clear hpe
           go_wp2_with fail
           go_ret
           exact ⟨rfl, HFW.out.trans_nil H12.out.fr⟩
          ·have hpji : ¬ ((p : Int) < j) := by omega
           clear hpe
           go_wp2_with fail
           go_ret
           exact ⟨rfl, HFW.out.trans_nil H12.out.fr⟩
end
end Go.Proofs.YtbanogfljpkbkaaGreatDoor
