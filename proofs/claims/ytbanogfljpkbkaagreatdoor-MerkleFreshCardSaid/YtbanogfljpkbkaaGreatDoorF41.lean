/-
  Texts of this claim, one behind the other: MerF, XdA.
-/
import Derived.Test.YtbanogfljpkbkaaGreatDoorF40
import Derived.Test.YtbanogfljpkbkaaGreatDoorF28
import Derived.Test.YtbanogfljpkbkaaGreatDoorF32
import Derived.Test.YtbanogfljpkbkaaGreatDoorF25
set_option linter.unusedSimpArgs false
set_option linter.unusedVariables false
set_option linter.unnecessarySimpa false
namespace Go.Proofs.YtbanogfljpkbkaaGreatDoor
section
open Go.RowKit
set_option maxRecDepth 100000
theorem zeroA (w : World) : (Instr.build 39 #[]).run Tryz.prog w = .ok (.agg (bvs (zB 32)).toArray) w := by kernel_rfl
section
variable {w w' : World} {S : SgP} {O : List Nat} {M : StM} {k : Nat} {L : LyM} {A : Option Addr} {c n : Nat} {root b : List UInt8}
theorem SgW.noM (h : SgW w S O M k) (e : TypeId) : NoTy w [S.m] e := by
 obtain ⟨v, k1, -⟩ := h.srt
 exact k1.noTy e
theorem SgW.offF (h : SgW w S O M k) {g : Nat} {t : TypeId} {cs : Array Value} (hb : Blk w g t cs) : g ∉ [S.m] := Blk.notin hb (h.noM t)
theorem SgW.rd (h : SgW w S O M k) {Ax : Option Addr} {xs : List Value} (r : Rd w Ax xs) (f : Fr [S.m] w w') : Rd w' Ax xs := fun hx => by
 obtain ⟨g, o, e, hc⟩ := r hx
 have hg : g ∉ [S.m] := fun hm => by
  obtain ⟨v, k1, -⟩ := h.srt
  obtain ⟨x, t, rfl⟩ : ∃ x t, xs = x :: t := by cases xs with | nil => exact absurd rfl hx | cons x t => exact ⟨x, t, rfl⟩
  have h1 := hc 0 x rfl
  rw [List.mem_singleton.1 hm, k1.map.no_cell] at h1
  cases h1
 exact r.keep f (fun g' o' e' => by rw [e] at e'; cases e'; exact hg) hx
theorem SgW.ly (h : SgW w S O M k) (hl : LyW w A c L n) (f : Fr [S.m] w w') : LyW w' A c L n := ⟨h.rd hl.rd f, hl.lev, hl.nb, hl.data, hl.tree, hl.tags⟩
def SgP.below (S : SgP) (O : List Nat) (B : Nat) : Prop := S.ca.c < B ∧ S.ca.g < B ∧ S.ca.s < B ∧ S.ca.b < B ∧ (∀ i ∈ O, i < B) ∧ S.g < B ∧ S.q < B ∧ S.m < B
theorem SgW.belowW (h : SgW w S O M k) : S.below O w.heap.size := by
 obtain ⟨a, b, c, d, e⟩ := h.ca.lts
 obtain ⟨f, g, i⟩ := h.lts
 exact ⟨a, b, c, d, e, f, g, i⟩
theorem SgW.keepN {F : List Nat} {B : Nat} (h : SgW w S O M k) (hb : S.below O B) (f : Fr F w w') (hF : ∀ i ∈ F, B ≤ i) (h8 : NoTy w F 5) : SgW w' S O M k := by
 obtain ⟨b1, b2, b3, b4, b5, b6, b7, b8⟩ := hb
 have key : ∀ i, i < B → i ∉ F := fun i hi hm => by have := hF i hm; omega
 exact h.keep f (key _ b1) (key _ b2) (key _ b3) (key _ b4) (fun i hi => key i (b5 i hi)) h8 (key _ b6) (key _ b7) (key _ b8)
def chgK (M : StM) (tree tags : Nat) (lev : List Nat) (i : Nat) (b : List UInt8) (q : Nat) : StM :=
 (((plcL tree lev i).zip (chL (pathS M tree lev i) i (leafH b))).take q).foldl (fun M p => wrSt M (p.1 : Int) p.2) (wrSt M ((tags + i : Nat) : Int) b)
theorem chgK_all (M : StM) (tree tags : Nat) (lev : List Nat) (i : Nat) (b : List UInt8) : chgK M tree tags lev i b lev.length = chgS M tree tags lev i b := by
 unfold chgK chgS
 rw [List.take_of_length_le]
 rw [List.length_zip, plcL_len]
 exact Nat.min_le_left _ _
theorem chgK_succ {M : StM} {tree tags : Nat} {lev : List Nat} {i : Nat} {b : List UInt8} {q : Nat} (hq : q < lev.length) : chgK M tree tags lev i b (q + 1) = wrSt (chgK M tree tags lev i b q) ((plcK tree lev i q : Nat) : Int) ((chL (pathS M tree lev i) i (leafH b)).getD q []) := by
 have h1 : (pathS M tree lev i).length = lev.length := by rw [pathS, List.length_map, plcL_len]
 have h2 : q < ((plcL tree lev i).zip (chL (pathS M tree lev i) i (leafH b))).length := by rw [List.length_zip, plcL_len, chL_len, h1]; omega
 unfold chgK
 rw [List.take_succ_eq_append_getElem h2, List.foldl_append]
 simp only [List.foldl_cons, List.foldl_nil, List.getElem_zip]
 congr 1
 ·simp [plcL]
 ·rw [List.getD_eq_getElem?_getD, List.getElem?_eq_getElem (by rw [chL_len, h1]; exact hq)]; rfl
def ChgS (w : World) (S : SgP) (O : List Nat) (M : StM) (k : Nat) (L : LyM) (n i : Nat) (b root : List UInt8) (e : Ending) (w' : World) : Prop :=
 (lookB M L n i root = true ∧ b.length = 512 ∧ e = .returned (.tuple #[.agg (bvs (rootP n (chL (pathS M L.tree L.lev i) i (leafH b)))).toArray, .int .i64 0]) ∧ SgW w' S O (chgS M L.tree L.tags L.lev i b) (k + 3) ∧ Fr [S.m] w w') ∨
 (lookB M L n i root = true ∧ b.length ≠ 512 ∧ e = .returned (.tuple #[.agg (bvs (zB 32)).toArray, .int .i64 101]) ∧ Fr [] w w') ∨
 (lookB M L n i root = false ∧ e = .returned (.tuple #[.agg (bvs (zB 32)).toArray, .int .i64 160]) ∧ Fr [] w w')
set_option maxHeartbeats 4000000 in
theorem meChange_any (h : SgW w S O M k) (hk0 : k ≤ 4398046511104) (hl : LyW w A c L n) {i : Nat} (hi : i < n) (hk : LeafOk M L i) (hr : root.length = 32) (hK : KG w) {Ab : Option Addr} {nb cb : Nat} (hb : b.length = nb) (rb : Rd w Ab (bvs b)) (hA : Ab = none → nb = 0) (hcb : nb ≤ cb) :
  Calls Tryz.prog 12 #[.pointer (some ⟨S.g, 0, none⟩), .agg (L.cells (.slice A L.lev.length c)).toArray, .int .i64 i, .slice Ab nb cb, .agg (bvs root).toArray] w (ChgS w S O M k L n i b root) := by
 have CL := Lib.hid (fun (w1 : World) (f : Fr [] w w1) => meLook_any (h.keep_nil f) (hl.keep_nil f) hi hk hr (hK.keep f))
 have HRL := Lib.hid hr
 have HH := Lib.hid (And.intro h (And.intro hl (And.intro hk (And.intro rb hA))))
 have HB := Lib.hid hb
 have hn := hl.nb
 have ht := hl.tags
 clear h hl hk hr rb hA
 go_enter Tryz.func12, Tryz.ntmps12
 go_wp2_with
  (first
   | (refine wpList_boxS (o := ⟨some 6, _, _, _, _, _⟩) rfl rfl (L.cells (.slice A L.lev.length c)) rfl ?_; intro w1 hB f1 z1; have Z1 := Lib.hid z1; clear z1; obtain ⟨gB, hgB⟩ : ∃ g, w.heap.size = g := ⟨_, rfl⟩; rw [hgB] at hB; rw [hgB]; have HGB := Lib.hid hgB; clear hgB)
   | (refine wpList_boxS (o := ⟨some 9, _, _, _, _, _⟩) rfl rfl (bvs root) rfl ?_; intro w2 hR f2 z2; have Z2 := Lib.hid z2; clear z2; obtain ⟨gR, hgR⟩ : ∃ g, w1.heap.size = g := ⟨_, rfl⟩; rw [hgR] at hR; rw [hgR]; have HGR := Lib.hid hgR; clear hgR; have hB := hB.keep_nil f2)
   | (refine wpList_alS stA32 (o := ⟨some 10, _, _, _, _, _⟩) rfl rfl ?_; intro w3 h10 f3 z3; have Z3 := Lib.hid z3; clear z3; obtain ⟨g10, hg10⟩ : ∃ g, w2.heap.size = g := ⟨_, rfl⟩; rw [hg10] at h10; rw [hg10]; have HG10 := Lib.hid hg10; clear hg10; have hB := hB.keep_nil f3; have hR := hR.keep_nil f3)
   | (refine wpList_ldS stLay rfl rfl gB 0 rfl (L.cells (.slice A L.lev.length c)) rfl hB.range0 ?_)
   | (refine wpList_ldS stA32 rfl rfl gR 0 rfl (bvs root) (by rw [bvs_length, HRL.out]) hR.range0 ?_)
   | fail)
 have F3 := (f1.trans_nil f2).trans_nil f3
 refine (CL.out _ F3).mono ?_
 have hF3 := F3.size
 have hg10 : w.heap.size ≤ g10 := by have := HG10.out; have := f1.size; have := f2.size; omega
 have HF3 := Lib.hid F3
 clear f1 f2 f3 F3 hR
 rintro e w4 (⟨hbo, vb, vp, us, rfl, -, Rp, f4⟩ | ⟨hbo, rfl, f4⟩)
 ·replace hB := hB.keep_nil f4
  have h10x := h10.keep_nil f4
  have HX := Lib.hid (And.intro hbo (HF3.out.trans_nil f4))
  have hpl : (pathS M L.tree L.lev i).length = L.lev.length := by rw [pathS, List.length_map, plcL_len]
  have rp := Rp.row
  rw [hpl] at rp
  obtain ⟨Ap, cp, rfl, -, -, -, -, -⟩ := rp.shape
  obtain ⟨hpw, hcp⟩ := pathW_of HH.out.2.1.lev hn rfl HH.out.2.2.1 Rp
  have HPW := Lib.hid hpw
  clear hbo f4 h10 hpl rp Rp hpw
  by_cases h5 : nb = 512
  ·subst h5
   have hjn : joinB i (pathS M L.tree L.lev i) = true := by
    have := HX.out.1
    unfold lookB okP at this
    simp only [Bool.and_eq_true] at this
    exact this.2
   have hm := HH.out.2.1.m.2
   have HLV := Lib.hid HH.out.2.1.lev
   have HJ := Lib.hid (And.intro hjn hcp)
   have hF4 := HX.out.2.size
   have H10 := Lib.hid h10x
   clear hjn hcp h10x
   go_wp2_with
    (first
     | (refine wpList_boxS (o := ⟨some 6, _, _, _, _, _⟩) rfl rfl (L.cells (.slice A L.lev.length c)) rfl ?_; intro w1 hB f1 z1; have Z1 := Lib.hid z1; clear z1; obtain ⟨gB, hgB⟩ : ∃ g, w.heap.size = g := ⟨_, rfl⟩; rw [hgB] at hB; rw [hgB]; have HGB := Lib.hid hgB; clear hgB)
     | (refine wpList_boxS (o := ⟨some 9, _, _, _, _, _⟩) rfl rfl (bvs root) rfl ?_; intro w2 hR f2 z2; have Z2 := Lib.hid z2; clear z2; obtain ⟨gR, hgR⟩ : ∃ g, w1.heap.size = g := ⟨_, rfl⟩; rw [hgR] at hR; rw [hgR]; have HGR := Lib.hid hgR; clear hgR; have hB := hB.keep_nil f2)
     | (refine wpList_alS stA32 (o := ⟨some 10, _, _, _, _, _⟩) rfl rfl ?_; intro w3 h10 f3 z3; have Z3 := Lib.hid z3; clear z3; obtain ⟨g10, hg10⟩ : ∃ g, w2.heap.size = g := ⟨_, rfl⟩; rw [hg10] at h10; rw [hg10]; have HG10 := Lib.hid hg10; clear hg10; have hB := hB.keep_nil f3; have hR := hR.keep_nil f3)
     | (refine wpList_ldS stLay rfl rfl gB 0 rfl (L.cells (.slice A L.lev.length c)) rfl hB.range0 ?_)
     | (refine wpList_ldS stA32 rfl rfl gR 0 rfl (bvs root) (by rw [bvs_length, HRL.out]) hR.range0 ?_)
     | fail)
   refine (meLeaves_any (HH.out.2.1.keep_nil HX.out.2)).mono ?_
   rintro e w5 ⟨rfl, f5⟩
   have F5 := HX.out.2.trans_nil f5
   go_wp2_with fail
   refine (trLeaf_any Ab b 512 cb w5 HB.out (HH.out.2.2.2.1.keep_nil F5) HH.out.2.2.2.2 hcb (by omega) (hK.keep F5)).mono ?_
   rintro e w6 ⟨rfl, f6⟩
   have F6 := F5.trans_nil f6
   have ct := trChange_any (HPW.out.keep_nil (f5.trans_nil f6)) hi (shaSum_length _) HJ.out.1 (hK.keep F6) HJ.out.2 (leaf := leafH b)
   go_wp2_with fail
   refine ct.mono ?_
   rintro e w7 ⟨v15, ns, rfl, Rn, f7⟩
   have F7 := F6.trans_nil f7
   have F47 := (f5.trans_nil f6).trans_nil f7
   have hB7 := (((hB.keep_nil f5).keep_nil f6).keep_nil f7)
   have b6 := (lay_box hB7).2.2.1
   have hnl : (chL (pathS M L.tree L.lev i) i (leafH b)).length = L.lev.length := by rw [chL_len, pathS, List.length_map, plcL_len]
   have rn := Rn.row
   rw [hnl] at rn
   obtain ⟨An, cn, rfl, -, -, -, -, -⟩ := rn.shape
   obtain ⟨D, hD⟩ : ∃ D, rootP n (chL (pathS M L.tree L.lev i) i (leafH b)) = D := ⟨_, rfl⟩
   have hDL : D.length = 32 := by rw [← hD]; exact rootP_len _ _
   rw [hD]
   have HDD := Lib.hid (And.intro hD hDL)
   clear ct f5 f6 F5 F6 hD hDL hB rn
   obtain ⟨p, hp⟩ : ∃ p, L.tags + i = p := ⟨_, rfl⟩
   have EP : (L.tags : Int) + (i : Int) = (p : Int) := by omega
   have EW : IntKind.i64.wrap ((L.tags : Int) + (i : Int)) = (p : Int) := by rw [EP]; exact IntWalk.i64_in _ (by omega)
   have hpb : p ≤ 200000 := by omega
   have HP := Lib.hid hp
   clear hp f7
   go_wp2_with
    (first
     | (refine wpList_alS stA32 (o := ⟨some 16, _, _, _, _, _⟩) rfl rfl ?_; intro w8 h16 f8 z8; have Z8 := Lib.hid z8; clear z8; obtain ⟨g16, hg16⟩ : ∃ g, w7.heap.size = g := ⟨_, rfl⟩; rw [hg16] at h16; rw [hg16]; have HG16 := Lib.hid hg16; clear hg16; have b6 := f8.cell (by simp) b6)
     | (refine wpList_stB stA32 rfl rfl g16 rfl (bvs D) rfl (by rw [bvs_length, HDD.out.2]) (bvs_one _) (bvs (zB 32)) rfl h16 ?_; intro w9 h16' f9 z9; clear z9; have b6 := f9.cell (by have := HG16.out; have := hB7.lt; simp; omega) b6))
   have f79 : Fr [] w7 w9 := f8.trans f9 (fun i hi => .inr (by have := HG16.out; simp at hi; omega))
   have F9 := F7.trans_nil f79
   have h10 := H10.out.keep_nil (F47.trans_nil f79)
   have hs9 := HH.out.1.keep_nil F9
   have cw := sgWrite_any hs9 (show k < maxLen by unfold maxLen; omega) (p : Int) (wfZ_of (by omega)) Ab cb b HB.out (HH.out.2.2.2.1.keep_nil F9) HH.out.2.2.2.2
   have l16 := h16'.lt
   have hw7 := F7.size
   have HS9 := Lib.hid (And.intro hs9 (And.intro (hB7.keep_nil f79) (And.intro h10 (And.intro h16' (And.intro (Rn.keep_nil f79) F9)))))
   clear f8 f9 f79 F7 F47 hB7 h16 h16' h10 hs9 F9 Rn b6
   refine cw.mono ?_
   rintro e wA ⟨rfl, sA, fA⟩
   obtain ⟨hs9, hB9, h10, h16, Rn, F9⟩ := HS9.out
   have hBA := hB9.keep fA (hs9.offF hB9)
   have HSA := Lib.hid (And.intro (h10.keep fA (hs9.offF h10)) (And.intro (h16.keep fA (hs9.offF h16)) (And.intro (Rn.keepT fA (hs9.noM _) (hs9.noM _)) (And.intro sA fA))))
   have cpl := mePlaces_any (hs9.ly (HH.out.2.1.keep_nil F9) fA) (i := i) (by omega)
   clear cw hB9 h10 h16 Rn hs9 F9 sA fA
   go_wp2_with (first | (refine wpList_ldS stLay rfl rfl gB 0 rfl (L.cells (.slice A L.lev.length c)) rfl hBA.range0 ?_))
   refine cpl.mono ?_
   rintro e wB ⟨vP, rfl, rP, fB⟩
   obtain ⟨AP, cP, rfl, -, -, -, -, -⟩ := rP.shape
   obtain ⟨h10, h16, Rn, sA, fA⟩ := HSA.out
   obtain ⟨m, hmm⟩ : ∃ m, L.lev.length = m := ⟨_, rfl⟩
   rw [hmm] at rP hm hnl
   have HM := Lib.hid (And.intro hmm hnl)
   have HSB := Lib.hid (And.intro (h10.keep_nil fB) (And.intro (h16.keep_nil fB) (And.intro (Rn.keep_nil fB) (And.intro (sA.keep_nil fB) (And.intro rP (HS9.out.2.2.2.2.2.mono (by simp) |>.trans fA (fun i hi => .inl hi) |>.trans_nil fB))))))
   have EK := Lib.hid (show chgK M L.tree L.tags L.lev i b 0 = wrSt M (p : Int) b by rw [← HP.out]; rfl)
   clear cpl hBA h10 h16 Rn sA fA rP fB hnl
   have hm2 : 1 ≤ m ∧ m ≤ 2 := hm
   clear hm
   go_wp2_with fail
   go_loopw [64] (fun t wr => ∃ q : Nat, q ≤ m ∧ t = .int .i64 q ∧ SgW wr S O (chgK M L.tree L.tags L.lev i b q) (k + 1 + q) ∧ Fr [S.m] wB wr) (fun t _ => m - (intOf t).toNat)
   case atStart => exact ⟨0, Nat.zero_le _, rfl, by rw [EK.out]; exact HSB.out.2.2.2.1, Fr.refl _ _⟩
   case round =>
    obtain ⟨q, hq, rfl, sr, fr⟩ := hrel
    obtain ⟨h10, h16, Rn, sB, rP, FB⟩ := HSB.out
    by_cases hlt : q < m
    ·have hkl : q < L.lev.length := by rw [HM.out.1]; exact hlt
     have hqp : q < (plcL L.tree L.lev i).length := by rw [plcL_len]; exact hkl
     obtain ⟨x, hx⟩ : ∃ x, plcK L.tree L.lev i q = x := ⟨_, rfl⟩
     have hxb : x ≤ 200000 := by
      have h1 := HH.out.2.1.tree
      have h2 : sumL (L.lev.take q) ≤ 9 := by rw [HLV.out]; exact sumL_le hn
      have h3 : i / 16 ^ (q + 1) ≤ i := Nat.div_le_self _ _
      rw [← hx]; unfold plcK; omega
     have hpx : (plcL L.tree L.lev i)[q] = x := by rw [← hx]; simp [plcL]
     obtain ⟨gP, oP, eP, hcP⟩ := (rP.keepT fr (sB.noM _)).rdD.1 (by intro h0; have := congrArg List.length h0; rw [ivs_len, List.length_nil] at this; omega)
     subst eP
     have cP := hcP q (.int .i64 (x : Int)) (by simp [ivs, hqp, hpx])
     have Rr := Rn.keepT fr (sB.noM _) (sB.noM _)
     have hvl := Rr.vlen
     have hql : q < (chL (pathS M L.tree L.lev i) i (leafH b)).length := by rw [HM.out.2]; exact hlt
     have hqn : q < ns.length := by omega
     obtain ⟨gN, oN, eN, hcN⟩ := Rr.row.rdD.1 (by intro h0; rw [h0] at hqn; simp at hqn)
     subst eN
     have cN := hcN q _ (List.getElem?_eq_getElem hqn)
     obtain ⟨y, hy⟩ : ∃ y, (chL (pathS M L.tree L.lev i) i (leafH b)).getD q [] = y := ⟨_, rfl⟩
     have hyq : (chL (pathS M L.tree L.lev i) i (leafH b))[q] = y := by rw [← hy, List.getD_eq_getElem?_getD, List.getElem?_eq_getElem hql]; rfl
     have hy5 : y.length = 512 := by rw [← hyq]; exact chL_512 (shaSum_length _) HPW.out.l5 _ (List.getElem_mem hql)
     have rq := Rr.each q hqn hql
     rw [hyq, hy5] at rq
     obtain ⟨gq, cq, eq⟩ := rq.hdD (by omega)
     rw [eq] at cN rq
     have cw := sgWrite_any sr (show k + 1 + q < maxLen by unfold maxLen; omega) (x : Int) (wfZ_of (by omega)) (some ⟨gq, 0, none⟩) cq y hy5 rq.rdD.1 (by simp)
     have hst := chgK_succ (M := M) (tree := L.tree) (tags := L.tags) (i := i) (b := b) hkl
     rw [hx, hy] at hst
     rw [← hst] at cw
     have HF := Lib.hid fr
     clear hst hkl hqp hx hpx hcP Rr hvl hql hqn hcN hy hyq hy5 rq eq h10 h16 Rn rP FB sr fr sB
     go_wp2_with fail
     refine cw.mono ?_
     rintro e wC ⟨rfl, sC, fC⟩
     have HC := Lib.hid (And.intro sC (HF.out.trans_same fC))
     clear cw sC fC cP cN
     go_wp2_with fail
     exact ⟨⟨q + 1, by omega, by go_num, HC.out.1, HC.out.2⟩, by simp [intOf]; omega⟩
    ·obtain rfl : q = m := by omega
     have k16 := h16.keep fr (sB.offF h16)
     have k10 := h10.keep fr (sB.offF h10)
     have HE := Lib.hid (And.intro sr (FB.trans fr (fun i hi => .inl hi)))
     have hall := Lib.hid (show chgK M L.tree L.tags L.lev i b q = chgS M L.tree L.tags L.lev i b by have := chgK_all M L.tree L.tags L.lev i b; rwa [HM.out.1] at this)
     clear h10 h16 Rn sB rP FB sr fr
     go_wp2_with
      (first
       | (refine wpList_ldS stA32 rfl rfl g16 0 rfl (bvs D) (by rw [bvs_length, HDD.out.2]) k16.range0 ?_)
       | (refine wpList_stB stA32 rfl rfl g10 rfl (bvs D) rfl (by rw [bvs_length, HDD.out.2]) (bvs_one _) (bvs (zB 32)) rfl k10 ?_; intro wc hc fc zc; clear zc))
     try simp only [Exit.inBlock, Exit.then]
     refine bodyPost_ret (results_cell2 stA32 rfl rfl (by rw [bvs_length, HDD.out.2]) hc) rfl ?_
     obtain ⟨sr, Fr0⟩ := HE.out
     rw [hall.out] at sr
     have sr2 := sr.keepN HH.out.1.belowW fc (fun j hj => by rw [List.mem_singleton.1 hj]; exact hg10) (k10.noTyOf (by decide))
     exact Or.inl ⟨HX.out.1, HB.out, by rw [HDD.out.1]; rfl, sr2.mono (by omega), Fr0.trans fc (fun i hi => .inr (by rw [List.mem_singleton.1 hi]; exact hg10))⟩
  ·have d0 : ((nb : Int) != 512) = true := by simp only [bne_iff_ne]; omega
   have H5 := Lib.hid h5
   clear h5
   go_wp2_with
    (first
     | (refine wpList_bld rfl rfl (.agg (bvs (zB 32)).toArray) (zeroA _) ?_)
     | (refine wpList_stB stA32 rfl rfl g10 rfl (bvs (zB 32)) rfl rfl (bvs_one _) (bvs (zB 32)) rfl h10x ?_; intro wc hc fc zc; clear zc))
   try simp only [Exit.inBlock, Exit.then]
   refine bodyPost_ret (results_cell2 stA32 rfl rfl rfl hc) rfl ?_
   exact Or.inr (Or.inl ⟨HX.out.1, by rw [HB.out]; exact H5.out, rfl, HX.out.2.trans fc (fun i hi => .inr (by rw [List.mem_singleton.1 hi]; exact hg10))⟩)
 ·have h10x := h10.keep_nil f4
  have HX := Lib.hid (And.intro hbo (HF3.out.trans_nil f4))
  clear hbo f4 h10
  go_wp2_with
   (first
    | (refine wpList_bld rfl rfl (.agg (bvs (zB 32)).toArray) (zeroA _) ?_)
    | (refine wpList_stB stA32 rfl rfl g10 rfl (bvs (zB 32)) rfl rfl (bvs_one _) (bvs (zB 32)) rfl h10x ?_; intro wc hc fc zc; clear zc))
  try simp only [Exit.inBlock, Exit.then]
  refine bodyPost_ret (results_cell2 stA32 rfl rfl rfl hc) rfl ?_
  exact Or.inr (Or.inr ⟨HX.out.1, rfl, HX.out.2.trans fc (fun i hi => .inr (by rw [List.mem_singleton.1 hi]; exact hg10))⟩)
end
end
section
open Go.RowKit
set_option maxRecDepth 100000
def strV (b : List UInt8) : Value := .string ⟨b.toArray⟩
theorem slStrX : SlT Tryz.prog 122 9 1 16 (.string ByteArray.empty) := ⟨Tryz.underlying122, by kernel_rfl, rfl, by decide, by decide⟩
theorem slXB : SlT Tryz.prog 119 124 2 40 (.agg #[.string ByteArray.empty, .slice none 0 0]) := ⟨Tryz.underlying119, by kernel_rfl, rfl, by decide, by decide⟩
theorem Row.setE {w : World} {B g n c s : Nat} {e : TypeId} {xs : List Value} (h : Row w B e s (.slice (some ⟨g, 0, none⟩) n c) n xs) (k : Nat) (hk : k < n * s) (y : Value) :
  w.cell? ⟨g, k, none⟩ = xs[k]? ∧ w.frozen? ⟨g, k, none⟩ = false ∧ Row (w.setCell ⟨g, k, none⟩ y) B e s (.slice (some ⟨g, 0, none⟩) n c) n (xs.set k y) := by
 rcases h.2 with ⟨e, _⟩ | ⟨g', cap, cur, fz, e, hb, hg, hf, hnc, hcm, hcs, ht⟩
 ·cases e
 ·cases e
  have hkc : k < cur.size := by rw [hcs]; exact Nat.lt_of_lt_of_le hk (Nat.mul_le_mul_right s hnc)
  refine ⟨?_, ?_, ?_⟩
  ·rw [cell_of_row w g k _ _ _ hg, ← ht, List.getElem?_take_of_lt hk, Array.getElem?_toList]
  ·have := hf k hkc
   simp only [World.frozen?, hg]
   simpa using this
  ·refine ⟨by rw [List.length_set]; exact h.1, .inr ⟨g, c, cur.setIfInBounds k y, fz, rfl, hb, ?_, by simpa using hf, hnc, hcm, by simpa using hcs, ?_⟩⟩
   ·simp [World.setCell, Array.getElem?_modify, hg]
   ·rw [Array.toList_setIfInBounds, List.take_set, ht]
def pcells (ps : List (List UInt8 × Value)) : List Value := ps.flatMap fun p => [strV p.1, p.2]
theorem pcells_len (ps : List (List UInt8 × Value)) : (pcells ps).length = ps.length * 2 := by
 induction ps with
 | nil => rfl
 | cons p r ih =>
  have : pcells (p :: r) = [strV p.1, p.2] ++ pcells r := rfl
  rw [this, List.length_append, ih, List.length_cons]
  simp only [List.length_cons, List.length_nil]
  omega
theorem pcells_app (a b : List (List UInt8 × Value)) : pcells (a ++ b) = pcells a ++ pcells b := List.flatMap_append
theorem pcells_0 (ps : List (List UInt8 × Value)) (i : Nat) (h : i < ps.length) : (pcells ps)[i * 2]? = some (strV ps[i].1) ∧ (pcells ps)[i * 2 + 1]? = some ps[i].2 := by
 induction ps generalizing i with
 | nil => cases h
 | cons p r ih =>
  cases i with
  | zero => exact ⟨rfl, rfl⟩
  | succ i =>
   have e : pcells (p :: r) = strV p.1 :: p.2 :: pcells r := rfl
   obtain ⟨h1, h2⟩ := ih i (by simpa using h)
   rw [e]
   refine ⟨?_, ?_⟩
   ·rw [show (i + 1) * 2 = i * 2 + 1 + 1 by omega, List.getElem?_cons_succ, List.getElem?_cons_succ, h1]; rfl
   ·rw [show (i + 1) * 2 + 1 = i * 2 + 1 + 1 + 1 by omega, List.getElem?_cons_succ, List.getElem?_cons_succ, h2]; rfl
theorem pcells_set0 (ps : List (List UInt8 × Value)) (i : Nat) (h : i < ps.length) (s : List UInt8) : (pcells ps).set (i * 2) (strV s) = pcells (ps.set i (s, ps[i].2)) := by
 induction ps generalizing i with
 | nil => cases h
 | cons p r ih =>
  cases i with
  | zero => rfl
  | succ i =>
   have e : pcells (p :: r) = strV p.1 :: p.2 :: pcells r := rfl
   rw [e, show (i + 1) * 2 = i * 2 + 1 + 1 by omega, List.set_cons_succ, List.set_cons_succ, ih i (by simpa using h)]
   rfl
theorem pcells_set1 (ps : List (List UInt8 × Value)) (i : Nat) (h : i < ps.length) (v : Value) : (pcells ps).set (i * 2 + 1) v = pcells (ps.set i (ps[i].1, v)) := by
 induction ps generalizing i with
 | nil => cases h
 | cons p r ih =>
  cases i with
  | zero => rfl
  | succ i =>
   have e : pcells (p :: r) = strV p.1 :: p.2 :: pcells r := rfl
   rw [e, show (i + 1) * 2 + 1 = i * 2 + 1 + 1 + 1 by omega, List.set_cons_succ, List.set_cons_succ, ih i (by simpa using h)]
   rfl
structure XdX where
 g : Nat
 c : Nat
 k : Int
 ps : List (List UInt8 × Value)
structure XdkX (w : World) (p : Nat) (O : List Nat) (D : DkM) (X : XdX) : Prop where
 pO : p ∈ O
 gO : X.g ∈ O
 blk : Blk w p 121 #[.slice (some ⟨X.g, 0, none⟩) D.sure.length X.c, .bool (!(D.calls == -1)), .int .i64 X.k]
 kk : D.calls ≠ -1 → X.k = D.calls
 k64 : -9223372036854775808 ≤ X.k ∧ X.k ≤ 9223372036854775807
 n1 : 1 ≤ D.sure.length ∧ D.sure.length ≤ 4096
 row : Row w 0 124 2 (.slice (some ⟨X.g, 0, none⟩) D.sure.length X.c) D.sure.length (pcells X.ps)
 at_ : ∀ i (h : i < X.ps.length), X.ps[i].1 = D.sureR i ∧ Row w 0 9 1 X.ps[i].2 (D.uns i).length ((D.uns i).map strV) ∧ ∀ g, X.ps[i].2.ownBlock = some g → g ∈ O
 rng : ∀ x, D.uns x ≠ [] → D.is x = true
 ss : ∀ i : Nat, i < D.sure.length → (D.sureR i).length = 512
 su : ∀ x, ∀ b ∈ D.uns x, b.length = 512
 no8 : NoTy w O 5
 lt : ∀ i ∈ O, i < w.heap.size
 calls : -1 ≤ D.calls ∧ D.calls ≤ 9223372036854775807
def Xdk (w : World) (p : Nat) (O : List Nat) (D : DkM) : Prop := ∃ X, XdkX w p O D X
def AftX (w : World) (p : Nat) (O : List Nat) (D' : DkM) (w' : World) : Prop := ∃ O', Xdk w' p O' D' ∧ (∀ i ∈ O', i ∈ O ∨ w.heap.size ≤ i) ∧ Fr O w w'
section
variable {w w' : World} {p : Nat} {O F : List Nat} {D D' : DkM} {X : XdX}
theorem XdkX.len (h : XdkX w p O D X) : X.ps.length = D.sure.length := by
 have := h.row.len; rw [pcells_len] at this; omega
theorem XdkX.pg (h : XdkX w p O D X) : p ≠ X.g := fun e => h.row.ne_blk h.blk (by decide) (by rw [e]; rfl)
theorem XdkX.keep (h : XdkX w p O D X) (f : Fr F w w') (hF : ∀ i ∈ O, i ∉ F) : XdkX w' p O D X :=
 ⟨h.pO, h.gO, h.blk.keep f (hF _ h.pO), h.kk, h.k64, h.n1, h.row.keep f (fun g hg => by simp [Value.ownBlock] at hg; rw [← hg]; exact hF _ h.gO), fun i hi => ⟨(h.at_ i hi).1, (h.at_ i hi).2.1.keep f (fun g hg => hF _ ((h.at_ i hi).2.2 g hg)), (h.at_ i hi).2.2⟩, h.rng, h.ss, h.su, h.no8.keep f (fun i hi => ⟨hF i hi, h.lt i hi⟩), fun i hi => Nat.lt_of_lt_of_le (h.lt i hi) f.size, h.calls⟩
theorem XdkX.keep_nil (h : XdkX w p O D X) (f : Fr [] w w') : XdkX w' p O D X := h.keep f (fun _ _ => by simp)
theorem Xdk.keep (h : Xdk w p O D) (f : Fr F w w') (hF : ∀ i ∈ O, i ∉ F) : Xdk w' p O D := h.imp fun _ h => h.keep f hF
theorem Xdk.keep_nil (h : Xdk w p O D) (f : Fr [] w w') : Xdk w' p O D := h.imp fun _ h => h.keep_nil f
theorem XdkX.eq (h : XdkX w p O D X) (hl : D'.sure.length = D.sure.length) (hs : ∀ i : Nat, i < D.sure.length → D'.sureR i = D.sureR i) (hu : D'.uns = D.uns) (hc : D'.calls = D.calls) : XdkX w p O D' X := by
 have hi : ∀ x, D'.is x = D.is x := fun x => by simp only [DkM.is, hl]
 refine ⟨h.pO, h.gO, by rw [hl, hc]; exact h.blk, by rw [hc]; exact h.kk, h.k64, by rw [hl]; exact h.n1, by rw [hl]; exact h.row, fun i hx => ?_, by rw [hu]; exact fun x hx => (hi x).trans (h.rng x hx), fun i hx => by rw [hs i (by omega)]; exact h.ss i (by omega), by rw [hu]; exact h.su, h.no8, h.lt, by rw [hc]; exact h.calls⟩
 rw [hs i (by rw [← h.len]; exact hx), hu]
 exact h.at_ i hx
theorem Xdk.eq (h : Xdk w p O D) (hl : D'.sure.length = D.sure.length) (hs : ∀ i : Nat, i < D.sure.length → D'.sureR i = D.sureR i) (hu : D'.uns = D.uns) (hc : D'.calls = D.calls) : Xdk w p O D' := h.imp fun _ h => h.eq hl hs hu hc
theorem AftX.same (h : Xdk w p O D) : AftX w p O D w := ⟨O, h, fun _ h => .inl h, Fr.refl _ _⟩
theorem AftX.pre {w0 : World} (f : Fr [] w0 w) (h : AftX w p O D w') : AftX w0 p O D w' := by
 obtain ⟨O', h1, h2, h3⟩ := h
 exact ⟨O', h1, fun i hi => (h2 i hi).imp id (fun h => Nat.le_trans f.size h), (f.mono (by simp)).trans h3 (fun i hi => .inl hi)⟩
theorem AftX.trans {w1 : World} {O1 : List Nat} (f : Fr O w w1) (h1 : ∀ i ∈ O1, i ∈ O ∨ w.heap.size ≤ i) (h : AftX w1 p O1 D w') : AftX w p O D w' := by
 obtain ⟨O', k1, k2, k3⟩ := h
 refine ⟨O', k1, fun i hi => ?_, f.trans k3 (fun i hi => h1 i hi)⟩
 rcases k2 i hi with h | h
 ·exact h1 i h
 ·exact .inr (Nat.le_trans f.size h)
theorem AftX.eq (h : AftX w p O D w') (e : D = D') : AftX w p O D' w' := e ▸ h
theorem XdkX.c0 (h : XdkX w p O D X) : w.cell? ⟨p, 0, none⟩ = some (.slice (some ⟨X.g, 0, none⟩) D.sure.length X.c) := h.blk.cell 0
theorem XdkX.c1 (h : XdkX w p O D X) : w.cell? ⟨p, 1, none⟩ = some (.bool (!(D.calls == -1))) := h.blk.cell 1
theorem XdkX.c2 (h : XdkX w p O D X) : w.cell? ⟨p, 2, none⟩ = some (.int .i64 X.k) := h.blk.cell 2
theorem XdkX.cp (h : XdkX w p O D X) {i : Nat} (hi : i < D.sure.length) : ∃ v, w.cell? ⟨X.g, i * 2, none⟩ = some (strV (D.sureR i)) ∧ w.cell? ⟨X.g, i * 2 + 1, none⟩ = some v ∧ Row w 0 9 1 v (D.uns i).length ((D.uns i).map strV) ∧ ∃ h : i < X.ps.length, X.ps[i].2 = v := by
 have hi' : i < X.ps.length := by rw [h.len]; exact hi
 obtain ⟨h1, h2, -⟩ := h.at_ i hi'
 obtain ⟨p1, p2⟩ := pcells_0 X.ps i hi'
 rw [h1] at p1
 exact ⟨X.ps[i].2, ((h.row.setE (i * 2) (by omega) undef).1).trans p1, ((h.row.setE (i * 2 + 1) (by omega) undef).1).trans p2, h2, hi', rfl⟩
theorem XdkX.setp (h : XdkX w p O D X) (f : Fr [p] w w') (c k : Int) (hc : -1 ≤ c ∧ c ≤ 9223372036854775807) (hk : c ≠ -1 → k = c) (h64 : -9223372036854775808 ≤ k ∧ k ≤ 9223372036854775807) (hb : Blk w' p 121 #[.slice (some ⟨X.g, 0, none⟩) D.sure.length X.c, .bool (!(c == -1)), .int .i64 k]) : XdkX w' p O { D with calls := c } { X with k := k } := by
 have hg : ∀ g, (Value.slice (some ⟨X.g, 0, none⟩) D.sure.length X.c).ownBlock = some g → g ∉ [p] := fun g hg => by
  simp [Value.ownBlock] at hg
  rw [← hg]; simpa using fun e => h.pg e.symm
 refine ⟨h.pO, h.gO, hb, hk, h64, h.n1, h.row.keep f hg, fun i hi => ⟨(h.at_ i hi).1, (h.at_ i hi).2.1.keep f (fun g hg hm => ?_), (h.at_ i hi).2.2⟩, h.rng, h.ss, h.su, fun i hi => ?_, fun i hi => Nat.lt_of_lt_of_le (h.lt i hi) f.size, hc⟩
 ·rw [List.mem_singleton.1 hm] at hg
  exact (h.at_ i hi).2.1.ne_blk h.blk (by decide) hg
 ·intro cs fz hcs
  by_cases e : i = p
  ·rw [e] at hcs
   unfold Blk at hb
   rw [hb] at hcs
   injection hcs with hcs
   injection hcs with _ hcs
   exact absurd hcs (by decide)
  ·rw [f.same i (h.lt i hi) (by simpa using e)] at hcs
   exact h.no8 i hi cs fz hcs
theorem xdOff_any (h : Xdk w p O D) : Calls Tryz.prog 168 #[.pointer (some ⟨p, 0, none⟩)] w fun e w' => e = .returned (.bool D.off) ∧ w = w' := by
 obtain ⟨X, h⟩ := h
 have c1 := h.c1
 have c2 := h.c2
 have kk := h.kk
 by_cases hc : D.calls = -1
 ·have HO := Lib.hid (show D.off = false by rw [DkM.off, hc]; rfl)
  rw [hc] at c1
  replace c1 : w.cell? ⟨p, 1, none⟩ = some (.bool false) := c1
  clear h kk hc
  go_enter Tryz.func168, Tryz.ntmps168
  go_wp2_with fail
  go_ret
  exact ⟨by rw [HO.out]; rfl, rfl⟩
 ·rw [kk hc] at c2
  have hb : (!(D.calls == -1)) = true := by simpa using hc
  rw [hb] at c1
  unfold DkM.off
  clear h kk hb hc
  go_enter Tryz.func168, Tryz.ntmps168
  go_wp2_with fail
  go_ret
  exact ⟨rfl, rfl⟩
end
end
end Go.Proofs.YtbanogfljpkbkaaGreatDoor
