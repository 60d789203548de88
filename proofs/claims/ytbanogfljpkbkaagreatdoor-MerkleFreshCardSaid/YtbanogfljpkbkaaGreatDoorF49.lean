/-
  Texts of this claim, one behind the other: FreW, RowA, RowB, RowH, RowL.
-/
import Derived.Test.YtbanogfljpkbkaaGreatDoorF39
import Derived.Test.YtbanogfljpkbkaaGreatDoorF48
import Derived.Test.YtbanogfljpkbkaaGreatDoorF1
import Derived.ProofKit
import Derived.OpenShut
import Derived.ShutString
import Derived.ChangeOld
import Derived.ChangeSlices
import Derived.SizedLaws
import Derived.Below
import Derived.Carry
import Derived.ChangeArms
import Derived.DataReads
import Derived.Test.YtbanogfljpkbkaaGreatDoorF9
import Derived.Test.YtbanogfljpkbkaaGreatDoorRows
import Derived.Test.YtbanogfljpkbkaaGreatDoorF10
import Derived.LaidMore
import Derived.Stop.Joined
set_option linter.unusedSimpArgs false
set_option linter.unusedVariables false
set_option linter.unnecessarySimpa false
namespace Go.Proofs.YtbanogfljpkbkaaGreatDoor
section
open Go.RowKit
set_option maxRecDepth 100000
def lyG (s l j : Nat) : LyM := ⟨2, 2 + l, 3 + l, 4 + l, 4 + l + j, levsN (tagsN s), 4 + l + j + sumL (levsN (tagsN s)), 4 + l + j + sumL (levsN (tagsN s)) + tagsN s, 4 + l + j + sumL (levsN (tagsN s)) + tagsN s + s⟩
def LayG (w : World) (h : HeadM) (e : Ending) (w' : World) : Prop :=
 ∃ L A c, e = .returned (.tuple #[.agg (L.cells (.slice A L.lev.length c)).toArray, .int .i64 0]) ∧ LyW w' A c L (tagsN h.sec.toNat) ∧ Fr [] w w'
theorem xhLayoutG {h : HeadM} (hs : h.ok) (hg : h.good = true) (w : World) : Calls Tryz.prog 18 #[.agg h.cells.toArray] w (LayG w h) := by
 have hI := HeadM.in_of hg
 refine (xhLayout_any w h hs).mono ?_
 rintro e w' ⟨v, rfl, r, f⟩
 rw [hg, if_pos rfl, if_pos rfl] at r
 rw [hg, if_pos rfl]
 obtain ⟨s, hs'⟩ : ∃ s, h.sec.toNat = s := ⟨_, rfl⟩
 obtain ⟨l, hl⟩ : ∃ l, h.slo.toNat = l := ⟨_, rfl⟩
 obtain ⟨j, hj⟩ : ∃ j, h.jou.toNat = j := ⟨_, rfl⟩
 have hsb : 1 ≤ s ∧ s ≤ 1024 := by have := hI.sec; omega
 have hlb : l ≤ 8 := by have := hI.slo; omega
 have hjb : j ≤ 256 := by have := hI.jou; omega
 rw [hs'] at r
 rw [hs', hl, hj]
 replace r : Row w' w.heap.size 3 1 v (lyG s l j).lev.length (ivs (lyG s l j).lev) := r
 obtain ⟨A, c, rfl, -, -, -, -, -⟩ := r.shape
 have hS := sumL_B s hsb
 unfold LayG
 rw [hs']
 exact ⟨lyG s l j, A, c, rfl, ⟨r.rdD.1, rfl, tagsN_b hsb, rfl, by show 4 + l + j ≤ 100000; omega, by show 4 + l + j + sumL (levsN (tagsN s)) ≤ 100000; omega⟩, f⟩
theorem BRow.at {w : World} {B : Nat} {v : Value} {vs : List Value} {bs : List (List UInt8)} (h : BRow w B v vs bs) {i : Nat} (hi : i < bs.length) : ∃ g c A n d, v = .slice (some ⟨g, 0, none⟩) bs.length c ∧ w.cell? ⟨g, i, none⟩ = some (.slice A n d) ∧ bs[i].length = n ∧ Rd w A (bvs bs[i]) ∧ (A = none → n = 0) := by
 have hv : i < vs.length := by rw [h.vlen]; exact hi
 obtain ⟨g, c, e⟩ := h.row.hdD (by omega)
 have hr := h.each i hv hi
 obtain ⟨A, d, e2, -⟩ := hr.shape
 have h1 := h.row
 rw [e] at h1
 rw [e2] at hr
 obtain ⟨g', o', e', hc⟩ := h1.rdD.1 (by intro h0; rw [h0] at hv; exact absurd hv (by simp))
 cases e'
 have := hc i vs[i] (List.getElem?_eq_getElem hv)
 rw [Nat.zero_add, e2] at this
 exact ⟨g, c, A, bs[i].length, d, e, this, rfl, hr.rdD.1, hr.rdD.2.2⟩
theorem BBRow.at {w : World} {B : Nat} {v : Value} {us : List Value} {ls : List (List (List UInt8))} (h : BBRow w B v us ls) {k : Nat} (hk : k < ls.length) : ∃ g c A d vs, v = .slice (some ⟨g, 0, none⟩) ls.length c ∧ w.cell? ⟨g, k, none⟩ = some (.slice A ls[k].length d) ∧ BRow w B (.slice A ls[k].length d) vs ls[k] := by
 have hv : k < us.length := by rw [h.len]; exact hk
 obtain ⟨g, c, e⟩ := h.row.hdD (by omega)
 obtain ⟨vs, hr⟩ := h.each k hv hk
 obtain ⟨A, d, e2, -⟩ := hr.row.shape
 have h1 := h.row
 rw [e] at h1
 rw [e2] at hr
 obtain ⟨g', o', e', hc⟩ := h1.rdD.1 (by intro h0; rw [h0] at hv; exact absurd hv (by simp))
 cases e'
 have := hc k us[k] (List.getElem?_eq_getElem hv)
 rw [Nat.zero_add, e2] at this
 exact ⟨g, c, A, d, vs, e, this, hr⟩
set_option maxHeartbeats 4000000 in
theorem meFreshLaw_any (W : World) (h : HeadM) (hs : h.ok) (HK : KG W) : Calls Tryz.prog 7 #[.agg h.cells.toArray] W fun e w' => e = .returned (.bool true) ∧ Fr [] W w' := by
 have HS := Lib.hid hs
 have HKG := Lib.hid HK
 have HCL := Lib.hid (HeadM.len hs)
 have HLG := Lib.hid (fun hg w => xhLayoutG hs hg w)
 have HLA := Lib.hid (fun w => xhLayout_any w h hs)
 obtain ⟨hcs, hhcs⟩ : ∃ hcs, h.cells = hcs := ⟨_, rfl⟩
 rw [hhcs] at HCL HLG HLA ⊢
 clear hs HK hhcs
 go_enter Tryz.func7, Tryz.ntmps7
 go_wp2_with
  (first
   | (refine wpList_boxS (o := ⟨some 1, _, _, _, _, _⟩) rfl rfl hcs rfl ?_; intro w1 hB f1 z1; have Z1 := Lib.hid z1; clear z1; obtain ⟨gB, hgB⟩ : ∃ g, W.heap.size = g := ⟨_, rfl⟩; rw [hgB] at hB; rw [hgB]; have HGB := Lib.hid hgB; clear hgB)
   | (refine wpList_ldS stHead rfl rfl gB 0 rfl hcs HCL.out hB.range0 ?_))
 cases hg : h.good
 ·have cl := HLA.out w1
  unfold LayH at cl
  rw [hg] at cl
  simp only [Bool.false_eq_true, if_false] at cl
  have HF1 := Lib.hid f1
  clear f1 hB
  refine cl.mono ?_
  rintro e w2 ⟨v, rfl, -, f2⟩
  rw [show errG false 1 = 1 from rfl]
  have F2 := HF1.out.trans_nil f2
  obtain ⟨Zs, hZs⟩ : ∃ Zs, zeroL = Zs := ⟨_, rfl⟩
  have HZ := Lib.hid (show Zs.length = 9 by rw [← hZs]; rfl)
  have HZ1 := Lib.hid (show ∀ u ∈ Zs, u.oneCell' = true by rw [← hZs]; exact stLay.ones)
  rw [hZs]
  have HZ0 := Lib.hid hZs
  clear cl f2 hZs
  go_wp2_with
   (first
    | (refine wpList_alS stLay (o := ⟨some 3, _, _, _, _, _⟩) rfl rfl ?_; intro w3 k3 f3 z3; have Z3 := Lib.hid z3; clear z3; obtain ⟨g3, hg3⟩ : ∃ g, w2.heap.size = g := ⟨_, rfl⟩; rw [hg3] at k3; rw [hg3]; have HG3 := Lib.hid hg3; clear hg3)
    | (refine wpList_stB stLay rfl rfl g3 rfl Zs rfl HZ.out HZ1.out zeroL rfl k3 ?_; intro w4 k4 f4 z4; have Z4 := Lib.hid z4; clear z4))
  have F4 := F2.trans_nil (f3.trans f4 (fun i hi => .inr (by have := HG3.out; simp at hi; omega)))
  have cv := lives17_any w4 (HKG.out.keep F4)
  clear F2 f3 f4 k3 k4
  refine cv.mono ?_
  rintro e w5 ⟨rfl, f5⟩
  have F5 := F4.trans_nil f5
  have cv := lives17_any w5 (HKG.out.keep F5)
  have HF5 := Lib.hid F5
  clear F4 f5 F5
  go_wp2_with fail
  refine cv.mono ?_
  rintro e w6 ⟨rfl, f6⟩
  have HF6 := Lib.hid f6
  clear cv f6
  go_wp2_with fail
  go_ret
  exact ⟨rfl, HF5.out.trans_nil HF6.out⟩
 ·have cl := HLG.out hg w1
  have HSN := Lib.hid (HeadM.in_of hg).sec
  have HF1 := Lib.hid f1
  clear f1 hB
  refine cl.mono ?_
  rintro e w2 ⟨L, A, c, rfl, hly, f2⟩
  have F2 := HF1.out.trans_nil f2
  obtain ⟨N, hN⟩ : ∃ N, tagsN h.sec.toNat = N := ⟨_, rfl⟩
  rw [hN] at hly
  have hnb := hly.nb
  have CA := Lib.hid (fun w' (f : Fr [] w2 w') => meFresh_any (hly.keep_nil f) (HKG.out.keep (F2.trans_nil f)))
  have CB := Lib.hid (fun w' (f : Fr [] w2 w') => xmFresh_any (hly.keep_nil f))
  have CC := Lib.hid (fun w' (f : Fr [] w2 w') => meLeaves_any (hly.keep_nil f))
  have CD := Lib.hid (fun w' (f : Fr [] w2 w') => xmLeaves_any (hly.keep_nil f))
  obtain ⟨Cs, hCs⟩ : ∃ Cs, L.cells (.slice A L.lev.length c) = Cs := ⟨_, rfl⟩
  have HC9 := Lib.hid (show Cs.length = 9 by rw [← hCs]; rfl)
  have HC1 := Lib.hid (show ∀ u ∈ Cs, u.oneCell' = true by rw [← hCs]; exact layC_ones')
  rw [hCs] at CA CB CC CD ⊢
  unfold FrsC at CA CB
  obtain ⟨R, hR⟩ : ∃ R, bldR (fresh N) = R := ⟨_, rfl⟩
  have HRL := Lib.hid (show R.length = 32 by rw [← hR]; exact shaSum_length _)
  obtain ⟨bl, hbl⟩ : ∃ bl, bldN (fresh N) = bl := ⟨_, rfl⟩
  rw [hR, hbl] at CA CB
  have HF2 := Lib.hid F2
  clear cl f2 hCs hly hN hR hbl F2 HLG HLA HS
  go_wp2_with
   (first
    | (refine wpList_alS stLay (o := ⟨some 3, _, _, _, _, _⟩) rfl rfl ?_; intro w3 k3 f3 z3; have Z3 := Lib.hid z3; clear z3; obtain ⟨g3, hg3⟩ : ∃ g, w2.heap.size = g := ⟨_, rfl⟩; rw [hg3] at k3; rw [hg3]; have HG3 := Lib.hid hg3; clear hg3)
    | (refine wpList_stB stLay rfl rfl g3 rfl Cs rfl HC9.out HC1.out zeroL rfl k3 ?_; intro w4 k4 f4 z4; have Z4 := Lib.hid z4; clear z4))
  have F4 : Fr [] w2 w4 := f3.trans f4 (fun i hi => .inr (by have := HG3.out; simp at hi; omega))
  have cv := lives17_any w4 (HKG.out.keep (HF2.out.trans_nil F4))
  clear f3 f4 k3
  refine cv.mono ?_
  rintro e w5 ⟨rfl, f5⟩
  have k5 := k4.keep_nil f5
  have F5 := F4.trans_nil f5
  have ca := CA.out w5 F5
  clear cv F4 f5 k4
  go_wp2_with (first | (refine wpList_ldS stLay rfl rfl g3 0 rfl Cs HC9.out k5.range0 ?_))
  refine ca.mono ?_
  rintro e w6 ⟨vx, ux, rfl, RX, f6⟩
  obtain ⟨Ax, cx, rfl, -, -, -, -, -⟩ := RX.row.shape
  have k6 := k5.keep_nil f6
  have F6 := F5.trans_nil f6
  have HX6 := Lib.hid RX
  clear ca F5 f6 k5 RX
  go_wp2_with
   (first
    | (refine wpList_alS stA32 (o := ⟨some 6, _, _, _, _, _⟩) rfl rfl ?_; intro w7 k7 f7 z7; have Z7 := Lib.hid z7; clear z7; obtain ⟨g6, hg6⟩ : ∃ g, w6.heap.size = g := ⟨_, rfl⟩; rw [hg6] at k7; rw [hg6]; have HG6 := Lib.hid hg6; clear hg6)
    | (refine wpList_stB stA32 rfl rfl g6 rfl (bvs R) rfl (by rw [bvs_length, HRL.out]) (bvs_one _) (bvs (zB 32)) rfl k7 ?_; intro w8 k8 f8 z8; have Z8 := Lib.hid z8; clear z8)
    | (refine wpList_ldS stLay rfl rfl g3 0 rfl Cs HC9.out (k6.keep_nil (f7.trans f8 (fun i hi => .inr (by have := HG6.out; simp at hi; omega)))).range0 ?_))
  have fr8 : Fr [] w6 w8 := f7.trans f8 (fun i hi => .inr (by have := HG6.out; simp at hi; omega))
  have F8 := F6.trans_nil fr8
  have k38 := k6.keep_nil fr8
  have HX8 := Lib.hid (HX6.out.keep_nil fr8)
  have cb := CB.out w8 F8
  clear f7 f8 fr8 F6 k6 k7 HX6
  refine cb.mono ?_
  rintro e w9 ⟨vy, uy, rfl, RY, f9⟩
  obtain ⟨Ay, cy, rfl, -, -, -, -, -⟩ := RY.row.shape
  have k39 := k38.keep_nil f9
  have k69 := k8.keep_nil f9
  have F9 := F8.trans_nil f9
  have HX9 := Lib.hid (And.intro (HX8.out.keep_nil f9) RY)
  clear cb F8 f9 k38 k8 RY HX8
  go_upto_region 6 with
   (first
    | (refine wpList_alS stA32 (o := ⟨some 8, _, _, _, _, _⟩) rfl rfl ?_; intro w10 k10 f10 z10; have Z10 := Lib.hid z10; clear z10; obtain ⟨g8, hg8⟩ : ∃ g, w9.heap.size = g := ⟨_, rfl⟩; rw [hg8] at k10; rw [hg8]; have HG8 := Lib.hid hg8; clear hg8)
    | (refine wpList_stB stA32 rfl rfl g8 rfl (bvs R) rfl (by rw [bvs_length, HRL.out]) (bvs_one _) (bvs (zB 32)) rfl k10 ?_; intro w11 k11 f11 z11; have Z11 := Lib.hid z11; clear z11))
  have fr11 : Fr [] w9 w11 := f10.trans f11 (fun i hi => .inr (by have := HG8.out; simp at hi; omega))
  obtain ⟨wD, hwD⟩ : ∃ wD, w11.drew = wD := ⟨_, rfl⟩
  have fD : Fr [] w11 wD := by rw [← hwD]; exact (Fr.refl [] w11).drew
  have fr := fr11.trans_nil fD
  have F := F9.trans_nil fr
  have k3 := k39.keep_nil fr
  have k6 := k69.keep_nil fr
  have k8 := k11.keep_nil fD
  have HX := Lib.hid (And.intro (HX9.out.1.keep_nil fr) (HX9.out.2.keep_nil fr))
  have HFD := Lib.hid F
  clear f10 f11 fr11 fD fr F9 k39 k69 k10 k11 HX9 F
  refine wp_region_held_drew (S := fun w' => Fr [] wD w') (by kernel_rfl) (by rw [hwD]; exact Fr.refl _ _) (fun hHeld => ?_)
  rw [hwD] at hHeld ⊢
  clear hwD
  try simp only [Act.put, p1, p2, p3]
  refine tw 0 33 hHeld ?_ (v := .agg (bvs R).toArray) (hy := fun w hSw => hy_ld stA32 rfl g6 0 rfl (bvs R) (by rw [bvs_length, HRL.out]) (k6.keep_nil hSw).range0)
  refine tw 1 34 hHeld ?_ (v := .agg (bvs R).toArray) (hy := fun w hSw => hy_ld stA32 rfl g8 0 rfl (bvs R) (by rw [bvs_length, HRL.out]) (k8.keep_nil hSw).range0)
  refine tw 2 35 hHeld ?_ (v := .bool false) (hy := fun w hSw => hy_eq stA32 rfl (.inr rfl) rfl rfl true ((eq_bytes 9998 Tryz.underlying39 Tryz.underlying5 (by kernel_rfl) R R HRL.out HRL.out).trans (by simp)))
  refine tw 3 36 hHeld ?_
  refine tw 4 37 hHeld ?_
  refine tw 5 38 hHeld ?_
  refine tw 6 39 hHeld ?_
  refine tw 7 40 hHeld ?_
  refine tw 8 41 hHeld ?_
  refine tw 9 42 hHeld ?_
  refine tw 10 43 hHeld ?_
  refine tw 11 44 hHeld ?_ (v := .agg Cs.toArray) (hy := fun w hSw => hy_ld stLay rfl g3 0 rfl Cs HC9.out (k3.keep_nil hSw).range0)
  refine tw 13 46 hHeld ?_ (v := .agg Cs.toArray) (hy := fun w hSw => hy_ld stLay rfl g3 0 rfl Cs HC9.out (k3.keep_nil hSw).range0)
  refine tc 12 (fun K hK => ?_)
  go_simp
  refine (CC.out wD HFD.out).mono ?_
  rintro e wE ⟨rfl, fE⟩
  refine hK.out _ _ fE (fun hHx => ?_)
  clear hK hHeld fE
  have hHeld := hHx
  clear hHx
  try simp only [Act.put, p1, p2, p3]
  refine tc 14 (fun K hK => ?_)
  go_simp
  refine (CD.out wE (HFD.out.trans_nil hHeld)).mono ?_
  rintro e wG ⟨rfl, fG⟩
  refine hK.out _ _ (hHeld.trans_nil fG) (fun hHx => ?_)
  clear hK hHeld fG
  have hHeld := hHx
  clear hHx
  try simp only [Act.put, p1, p2, p3]
  refine tw 15 48 hHeld ?_
  refine tw 16 49 hHeld ?_
  refine wpAnyH_done (by kernel_rfl) ?_ _
  have HXG := Lib.hid (And.intro (HX.out.1.keep_nil hHeld) (HX.out.2.keep_nil hHeld))
  have HFG := Lib.hid ((HF2.out.trans_nil HFD.out).trans_nil hHeld)
  clear hHeld k3 k6 k8 HX HFD
  obtain ⟨NB, hNB⟩ : ∃ NB, bl.length = NB := ⟨_, rfl⟩
  have HNB := Lib.hid hNB
  have hNBb : NB ≤ 9223372036854775807 := by
   obtain ⟨A', c', e', h1, h2, -⟩ := HXG.out.1.row.shape
   cases e'
   unfold maxLen at h2
   omega
  rw [hNB]
  clear hNB
  go_wp2_with fail
  go_loopw [9] (fun v wr => ∃ k : Nat, k ≤ NB ∧ v = .int .i64 k ∧ Fr [] wG wr) (fun v _ => NB - (intOf v).toNat)
  case atStart => exact ⟨0, Nat.zero_le _, rfl, Fr.refl _ _⟩
  case round =>
   obtain ⟨wo, hwo⟩ : ∃ wo, wo = wr := ⟨_, rfl⟩
   subst hwo
   obtain ⟨k, hk, rfl, fo⟩ := hrel
   by_cases hlt : k < NB
   ·have d0 : (k : Int) < NB := by omega
    have hkl : k < bl.length := by rw [HNB.out]; exact hlt
    obtain ⟨b, hb⟩ : ∃ b, bl[k] = b := ⟨_, rfl⟩
    obtain ⟨gx, cx', A1, dd1, v1, e1, c1, R1⟩ := (HXG.out.1.keep_nil fo).at hkl
    obtain ⟨gy, cy', A2, dd2, v2, e2, c2, R2⟩ := (HXG.out.2.keep_nil fo).at hkl
    cases e1
    cases e2
    rw [hb] at c1 c2 R1 R2
    obtain ⟨m, hm⟩ : ∃ m, b.length = m := ⟨_, rfl⟩
    rw [hm] at c1 c2
    have hmb : m ≤ 9223372036854775807 := by
     obtain ⟨A', c', e', h1, h2, -⟩ := R1.row.shape
     cases e'
     unfold maxLen at h2
     omega
    have HR := Lib.hid (And.intro R1 (And.intro R2 hm))
    have HFO := Lib.hid fo
    have c3 : wo.drew.cell? ⟨gx, k, none⟩ = some (.slice A1 m dd1) := c1
    have c4 : wo.drew.cell? ⟨gy, k, none⟩ = some (.slice A2 m dd2) := c2
    clear R1 R2 hm hb hkl fo
    go_upto_region 11 with fail
    refine wp_region_held_drew (S := fun w' => w'.cell? ⟨gx, k, none⟩ = some (.slice A1 m dd1) ∧ w'.cell? ⟨gy, k, none⟩ = some (.slice A2 m dd2)) (by kernel_rfl) ⟨c3, c4⟩ (fun hHeld => ?_)
    refine tw 0 56 hHeld ?_
    refine tw 1 57 hHeld ?_
    refine tw 2 58 hHeld ?_
    refine tw 3 59 hHeld ?_
    refine tw 4 60 hHeld ?_
    refine tw 5 61 hHeld ?_
    refine tw 6 62 hHeld ?_
    refine tw 7 63 hHeld ?_
    refine tw 8 64 hHeld ?_
    refine tw 9 65 hHeld ?_
    refine tw 10 66 hHeld ?_
    refine wpAnyH_done (by kernel_rfl) ?_ _
    clear hHeld
    have HC := Lib.hid (And.intro c3 c4)
    have HWD := Lib.hid (show Fr [] wo wo.drew from (Fr.refl [] wo).drew)
    obtain ⟨wD, hwD⟩ : ∃ wD, wo.drew = wD := ⟨_, rfl⟩
    rw [hwD] at HC HWD ⊢
    clear c1 c2 c3 c4 hwD
    go_wp2_with fail
    go_loopw [10] (fun v wr => ∃ i : Nat, i ≤ m ∧ v = .int .i64 i ∧ Fr [] wD wr) (fun v _ => m - (intOf v).toNat)
    case atStart => exact ⟨0, Nat.zero_le _, rfl, Fr.refl _ _⟩
    case round =>
     obtain ⟨w3, hw3⟩ : ∃ w3, w3 = wr := ⟨_, rfl⟩
     subst hw3
     obtain ⟨i, hi, rfl, f3⟩ := hrel
     have c3 := f3.cell (by simp) HC.out.1
     have c4 := f3.cell (by simp) HC.out.2
     by_cases him : i < m
     ·have d1 : (i : Int) < m := by omega
      have hib : i < b.length := by rw [HR.out.2.2]; exact him
      obtain ⟨g1, cc1, B1, n1, q1, e1, k1, l1, r1, a1⟩ := ((HR.out.1.keep_nil HWD.out).keep_nil f3).at hib
      obtain ⟨g2, cc2, B2, n2, q2, e2, k2, l2, r2, a2⟩ := ((HR.out.2.1.keep_nil HWD.out).keep_nil f3).at hib
      cases e1
      cases e2
      obtain rfl : n2 = n1 := by rw [← l1, ← l2]
      obtain ⟨SX, hSX⟩ : ∃ SX : ByteArray, ⟨b[i].toArray⟩ = SX := ⟨_, rfl⟩
      obtain ⟨wE, hwE⟩ : ∃ wE, w3.drew = wE := ⟨_, rfl⟩
      have fE : Fr [] w3 wE := by rw [← hwE]; exact (Fr.refl [] w3).drew
      have HS : ∀ w', Fr [] wE w' → (w'.cell? ⟨gx, k, none⟩ = some (.slice (some ⟨g1, 0, none⟩) m dd1) ∧ w'.cell? ⟨gy, k, none⟩ = some (.slice (some ⟨g2, 0, none⟩) m dd2) ∧ w'.cell? ⟨g1, i, none⟩ = some (.slice B1 n2 q1) ∧ w'.cell? ⟨g2, i, none⟩ = some (.slice B2 n2 q2)) ∧
        (convert 27 9 (.slice B1 n2 q1)).run Tryz.prog w' = .ok (.string SX) w' ∧ (convert 27 9 (.slice B2 n2 q2)).run Tryz.prog w' = .ok (.string SX) w' := fun w' f => by
       have ff := fE.trans_nil f
       refine ⟨⟨ff.cell (by simp) c3, ff.cell (by simp) c4, ff.cell (by simp) k1, ff.cell (by simp) k2⟩, ?_, ?_⟩
       ·rw [← hSX]
        exact conv_str Tryz.underlying27 Tryz.underlying5 Tryz.underlying9 _ _ _ _ _ l1 (r1.keep_nil ff) a1
       ·rw [← hSX]
        exact conv_str Tryz.underlying27 Tryz.underlying5 Tryz.underlying9 _ _ _ _ _ l2 (r2.keep_nil ff) a2
      have HSH := Lib.hid HS
      have HM := Lib.hid (And.intro f3 fE)
      have him' : (i : Int) < m := d1
      clear HS r1 r2 a1 a2 l1 l2 hSX k1 k2 fE f3 hib
      go_upto_region 16 with fail
      refine wp_region_held_drew (S := fun w' => Fr [] wE w') (by kernel_rfl) (by rw [hwE]; exact Fr.refl _ _) (fun hHeld => ?_)
      rw [hwE] at hHeld ⊢
      clear hwE
      refine tw 0 76 hHeld ?_
      refine tw 1 77 hHeld ?_
      refine tw 2 78 hHeld ?_
      refine tw 3 79 hHeld ?_ (v := .slice (some ⟨g1, 0, none⟩) m dd1) (hy := fun w hSw => by have := (HSH.out w hSw).1.1; go_simp)
      refine tw 4 80 hHeld ?_
      refine tw 5 81 hHeld ?_
      refine tw 6 82 hHeld ?_ (v := .slice B1 n2 q1) (hy := fun w hSw => by have := (HSH.out w hSw).1.2.2.1; go_simp)
      refine tw 7 83 hHeld ?_ (v := .string SX) (hy := fun w hSw => by have := (HSH.out w hSw).2.1; go_simp)
      refine tw 8 84 hHeld ?_
      refine tw 9 85 hHeld ?_
      refine tw 10 86 hHeld ?_
      refine tw 11 87 hHeld ?_ (v := .slice (some ⟨g2, 0, none⟩) m dd2) (hy := fun w hSw => by have := (HSH.out w hSw).1.2.1; go_simp)
      refine tw 12 88 hHeld ?_
      refine tw 13 89 hHeld ?_
      refine tw 14 90 hHeld ?_ (v := .slice B2 n2 q2) (hy := fun w hSw => by have := (HSH.out w hSw).1.2.2.2; go_simp)
      refine tw 15 91 hHeld ?_ (v := .string SX) (hy := fun w hSw => by have := (HSH.out w hSw).2.2; go_simp)
      refine tw 16 92 hHeld ?_
      refine wpAnyH_done (by kernel_rfl) ?_ _
      clear hHeld
      go_wp2_with fail
      exact ⟨⟨i + 1, by omega, by go_num, HM.out.1.trans_nil HM.out.2⟩, by simp [intOf]; omega⟩
     ·have d1 : ¬ ((i : Int) < m) := by omega
      obtain rfl : i = m := by omega
      go_wp2_with fail
      exact ⟨⟨k + 1, by omega, by go_num, (HFO.out.trans_nil HWD.out).trans_nil f3⟩, by simp [intOf]; omega⟩
   ·have d0 : ¬ ((k : Int) < NB) := by omega
    go_wp2_with fail
    go_ret
    exact ⟨rfl, HFG.out.trans_nil fo⟩
end
section
open Go.ChangeShapes Go.WideShapes Go.ChangeAt Go.RowKit
theorem weights_at {H : Type} {P : Program} {ts : List TypeId} {ds : List (DataW H)} (h : (DataW.weightsEach P ts ds).all (· ≤ reachBytes) = true) {j : Nat} {t : TypeId} {d : DataW H} (ht : ts[j]? = some t) (hd : ds[j]? = some d) :
  (DataW.weights P t d).all (· ≤ reachBytes) = true := by
 rw [List.all_eq_true] at h ⊢
 exact fun n hn => h n (DataW.weights_mem_each ht hd n hn)
theorem wf_i64 {z : Int} (h : (Lit.int .i64 z).wf = true) : -9223372036854775808 ≤ z ∧ z ≤ 9223372036854775807 := by
 simp [Lit.wf, IntKind.min, IntKind.max, IntKind.signed, IntKind.bits] at h
 exact h
theorem wf_u64 {z : Int} (h : (Lit.int .u64 z).wf = true) : ∃ n : Nat, z = n ∧ n < 18446744073709551616 := by
 simp [Lit.wf, IntKind.min, IntKind.max, IntKind.signed, IntKind.bits] at h
 exact ⟨z.toNat, by omega, by omega⟩
theorem wf_u8 {z : Int} (h : (Lit.int .u8 z).wf = true) : ∃ x : UInt8, z = (x.toNat : Int) := by
 simp [Lit.wf, IntKind.min, IntKind.max, IntKind.signed, IntKind.bits] at h
 refine ⟨UInt8.ofNat z.toNat, ?_⟩
 rw [UInt8.toNat_ofNat', Nat.mod_eq_of_lt (show z.toNat < 2 ^ 8 by omega)]
 omega
end
section
open Go.ChangeShapes Go.WideShapes Go.ChangeAt Go.RowKit
section
variable {H : Type} {enc : TypeId × Value → H} {P : Program} {W : World} {fuel : Nat} {held : Bool}
theorem open_field {t : TypeId} {fs : Array Field} {cs : List Value} {x : DataW H × List MemPlace} (ht : P.underlying t = some (.struct fs))
  (h : DataW.trod enc P W 0 (fun _ => true) held fuel t cs = some x) (hw : (DataW.weights P t x.1).all (· ≤ reachBytes) = true) (i : Nat) (ft : TypeId) (off : Nat) (hf : (fs[i]?).map (fun f => (f.type, f.offset)) = some (ft, off)) :
  cs.length = P.cellsOf t ∧ ∃ m y, DataW.trod enc P W 0 (fun _ => true) held m ft ((cs.drop off).take (P.cellsOf ft)) = some y ∧ (DataW.weights P ft y.1).all (· ≤ reachBytes) = true := by
 obtain ⟨f, hf', e⟩ := Option.map_eq_some_iff.1 hf
 simp only [Prod.mk.injEq] at e
 obtain ⟨rfl, rfl⟩ := e
 obtain ⟨xs, m, _, hx, hcl, hxl, hall⟩ := DataW.trod_struct ht h
 have h1 := hall i f hf'
 have hi : i < fs.size := (Array.getElem?_eq_some_iff.1 hf').1
 have h2 : xs[i]? = some xs[i] := List.getElem?_eq_getElem (by omega)
 rw [h2] at h1
 refine ⟨hcl, m, _, h1, ?_⟩
 rw [hx] at hw
 simp only [DataW.weights, ht] at hw
 refine weights_at (j := i) hw ?_ ?_
 ·simp [hf']
 ·simp [h2]
end
end
section
open Go.ChangeShapes Go.WideShapes Go.ChangeAt Go.RowKit
section
variable {H : Type} {enc : TypeId × Value → H} {P : Program} {W : World} {held : Bool}
theorem open_barrH {fuel n : Nat} {t e : TypeId} {cs : List Value} {x : DataW H × List MemPlace} (ht : P.underlying t = some (.array n e)) (he : P.underlying e = some (.int .u8)) (hc : P.cellsOf e = 1) (hn : P.cellsOf t = n)
  (h : DataW.trod enc P W 0 (fun _ => true) held fuel t cs = some x) : ∃ l : List UInt8, l.length = n ∧ cs = bvs l := by
 obtain ⟨xs, m, _, _, hl, hx, hall⟩ := DataW.trod_array ht h
 rw [hn] at hl
 have each : ∀ i (hi : i < cs.length), ∃ b : UInt8, cs[i] = bv b := by
  intro i hi
  have h1 := hall i (by omega)
  rw [hc, Nat.mul_one] at h1
  have h2 : (cs.drop i).take 1 = [cs[i]] := by rw [List.take_one, List.head?_drop, List.getElem?_eq_getElem hi]; rfl
  rw [h2, List.getElem?_eq_getElem (by omega)] at h1
  obtain ⟨z, e1, _, r⟩ := DataW.trod_int he h1
  obtain ⟨b, rfl⟩ := wf_u8 r
  simp only [List.cons.injEq, and_true] at e1
  exact ⟨b, e1⟩
 clear hall hx
 have key : ∀ (cs : List Value), (∀ i (hi : i < cs.length), ∃ b : UInt8, cs[i] = bv b) → ∃ l : List UInt8, cs = bvs l := by
  intro cs
  induction cs with
  | nil => exact fun _ => ⟨[], rfl⟩
  | cons v r ih =>
   intro hh
   obtain ⟨b, hb⟩ := hh 0 (by simp)
   obtain ⟨l, hl⟩ := ih (fun i hi => by
    obtain ⟨b, hb⟩ := hh (i + 1) (by simp; omega)
    exact ⟨b, by simpa using hb⟩)
   exact ⟨b :: l, by rw [hl]; simp at hb; rw [hb]; rfl⟩
 obtain ⟨l, rfl⟩ := key cs each
 exact ⟨l, by rw [bvs_length] at hl; exact hl, rfl⟩
set_option maxRecDepth 100000 in
theorem arg_head {v : Value} {d : DataW H} {ps : List MemPlace} {r : Reach} {b0 : Nat} (hv : Value.okWide Tryz.prog W r b0 62 v) (h : DataW.Trod enc Tryz.prog W 0 (fun _ => true) held 62 v d ps) (hw : (DataW.weights Tryz.prog 62 d).all (· ≤ reachBytes) = true) :
  ∃ s : HeadM, v = .agg s.cells.toArray ∧ s.ok := by
 obtain ⟨arr, rfl, _⟩ := okWide_struct Tryz.underlying62 hv
 obtain ⟨fuel, hf⟩ := h
 obtain ⟨hl, m0, y0, t0, _⟩ := open_field Tryz.underlying62 hf hw 0 57 0 rfl
 obtain ⟨_, m1, y1, t1, _⟩ := open_field Tryz.underlying62 hf hw 1 3 1 rfl
 obtain ⟨_, m2, y2, t2, _⟩ := open_field Tryz.underlying62 hf hw 2 3 2 rfl
 obtain ⟨_, m3, y3, t3, _⟩ := open_field Tryz.underlying62 hf hw 3 3 3 rfl
 obtain ⟨_, m4, y4, t4, _⟩ := open_field Tryz.underlying62 hf hw 4 3 4 rfl
 obtain ⟨_, m5, y5, t5, w5⟩ := open_field Tryz.underlying62 hf hw 5 59 5 rfl
 obtain ⟨_, m6, y6, t6, _⟩ := open_field Tryz.underlying62 hf hw 6 60 8 rfl
 obtain ⟨_, n0, x0, p0, _⟩ := open_field Tryz.underlying59 t5 w5 0 3 0 rfl
 obtain ⟨_, n1, x1, p1, _⟩ := open_field Tryz.underlying59 t5 w5 1 3 1 rfl
 obtain ⟨_, n2, x2, p2, _⟩ := open_field Tryz.underlying59 t5 w5 2 3 2 rfl
 have c24 : Tryz.prog.cellsOf 62 = 24 := by kernel_rfl
 have cu : Tryz.prog.cellsOf 57 = 1 := by kernel_rfl
 have ci : Tryz.prog.cellsOf 3 = 1 := by kernel_rfl
 have cp : Tryz.prog.cellsOf 59 = 3 := by kernel_rfl
 have c16 : Tryz.prog.cellsOf 60 = 16 := by kernel_rfl
 have c8 : Tryz.prog.cellsOf 5 = 1 := by kernel_rfl
 obtain ⟨l1, e1, q1⟩ := open_barrH Tryz.underlying60 Tryz.underlying5 c8 c16 t6
 rw [c24] at hl
 rw [c16] at q1
 rw [cu] at t0
 rw [ci] at t1 t2 t3 t4 p0 p1 p2
 rw [cp] at p0 p1 p2
 obtain ⟨g0, k0, _, r0⟩ := DataW.trod_int Tryz.underlying57 t0
 obtain ⟨g1, k1, _, r1⟩ := DataW.trod_int Tryz.underlying3 t1
 obtain ⟨g2, k2, _, r2⟩ := DataW.trod_int Tryz.underlying3 t2
 obtain ⟨g3, k3, _, r3⟩ := DataW.trod_int Tryz.underlying3 t3
 obtain ⟨g4, k4, _, r4⟩ := DataW.trod_int Tryz.underlying3 t4
 obtain ⟨g5, k5, _, r5⟩ := DataW.trod_int Tryz.underlying3 p0
 obtain ⟨g6, k6, _, r6⟩ := DataW.trod_int Tryz.underlying3 p1
 obtain ⟨g7, k7, _, r7⟩ := DataW.trod_int Tryz.underlying3 p2
 obtain ⟨gn, rfl, hgn⟩ := wf_u64 r0
 clear t0 t1 t2 t3 t4 t5 t6 p0 p1 p2 hf hw hv w5
 rw [show (Value.agg arr).cells = arr from rfl] at hl k0 k1 k2 k3 k4 k5 k6 k7 q1
 refine ⟨⟨gn, g1, g2, g3, g4, g5, g6, g7, l1⟩, ?_, ⟨hgn, wf_i64 r1, wf_i64 r2, wf_i64 r3, wf_i64 r4, wf_i64 r5, wf_i64 r6, wf_i64 r7, e1⟩⟩
 congr 1
 apply Array.ext'
 have hl' : arr.toList.length = 24 := hl
 generalize arr.toList = L at *
 match L, hl', k0, k1, k2, k3, k4, k5, k6, k7, q1 with
 | [a0, a1, a2, a3, a4, a5, a6, a7, b0, b1, b2, b3, b4, b5, b6, b7, b8, b9, b10, b11, b12, b13, b14, b15], _, k0, k1, k2, k3, k4, k5, k6, k7, q1 =>
  simp at k0 k1 k2 k3 k4 k5 k6 k7
  subst k0 k1 k2 k3 k4 k5 k6 k7
  show _ = _ :: _ :: _ :: _ :: _ :: _ :: _ :: _ :: bvs l1
  rw [← q1]
  rfl
end
end
section
open Go.ChangeShapes Go.WideShapes Go.ChangeAt Go.RowKit
abbrev laidK {H : Type} : List (String × DataW H) := [("casket/sha.constants", Rows.laid_casket_sha_constants)]
theorem gConst : Tryz.prog.globalNamed "casket/sha.constants" = some 0 := by kernel_rfl
theorem tConst : (Tryz.prog.globals[0]?).map (·.type) = some 188 := by kernel_rfl
theorem laid_eq {H : Type} : (Rows.laid_casket_sha_constants : DataW H) = .agg (kC.map fun k => .lit (.int .u32 (uw k))) := by kernel_rfl
theorem door_met (os : Os) (args : Array Value) : laidMetH Tryz.prog laidK ((World.doorLaid Tryz.prog 400 os).forCall (fun _ _ => 0) ⟨#[], args, []⟩).memory :=
 laidMetH_of_parts3 (fuel := 8) (laidMet_of_run' 8 (by kernel_rfl) (by kernel_rfl)) (by kernel_rfl) (by kernel_rfl)
set_option maxRecDepth 100000 in
theorem kg_of_laid {W : World} (h : laidMetH Tryz.prog laidK W) : KG W := by
 rw [MakeChecks.laidMetH_plain _ _ _ (by kernel_rfl)] at h
 obtain ⟨ps, ⟨g0, t0, cs0, f0, p0, q0, hg0, ht0, hv0, hd0, _, _⟩, _, _⟩ := h
 obtain rfl := Option.some.inj (gConst.symm.trans hg0)
 obtain rfl := Option.some.inj (tConst.symm.trans ht0)
 obtain ⟨xs, m1, rfl, hx1, hlen, hn3, hel⟩ := DataW.trod_array Tryz.underlying188 hd0
 have c32 : Tryz.prog.cellsOf 156 = 1 := by kernel_rfl
 have c64 : Tryz.prog.cellsOf 188 = 64 := by kernel_rfl
 rw [c64] at hlen
 have hxs : xs.map (·.1) = kC.map fun k => .lit (.int .u32 (uw k)) := by
  have e := (Prod.mk.inj hx1).1
  rw [laid_eq] at e
  exact (DataW.agg.inj e).symm
 intro j u hu
 have hj : j < kC.length := by
  have := (List.getElem?_eq_some_iff.1 hu).1
  rwa [wvs_length] at this
 have hj64 : j < 64 := hj
 rw [wvs_at hj] at hu
 cases hu
 have h1 := hel j hj64
 rw [c32, Nat.mul_one] at h1
 have hl : j < cs0.toList.length := by rw [hlen]; exact hj64
 have h2 : (cs0.toList.drop j).take 1 = [cs0.toList[j]] := by rw [List.take_one, List.head?_drop, List.getElem?_eq_getElem hl]; rfl
 have hxl : j < xs.length := by rw [hn3]; exact hj64
 rw [h2, List.getElem?_eq_getElem hxl] at h1
 obtain ⟨z, e1, e2, _⟩ := DataW.trod_int Tryz.underlying156 h1
 have e3 : (xs.map (·.1))[j]? = some (.lit (.int .u32 (uw kC[j]))) := by rw [hxs, List.getElem?_map, List.getElem?_eq_getElem hj]; rfl
 rw [List.getElem?_map, List.getElem?_eq_getElem hxl, Option.map_some] at e3
 have e4 : z = uw kC[j] := by
  rw [e2] at e3
  simpa using e3
 have e5 : cs0.toList[j] = .int .u32 z := by simpa using e1
 have := World.var?_cell hg0 hv0 j
 rw [Nat.zero_add, this, ← Array.getElem?_toList, List.getElem?_eq_getElem hl, e5, e4]
 rfl
end
end Go.Proofs.YtbanogfljpkbkaaGreatDoor
