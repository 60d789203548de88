/-
  Texts of this claim, one behind the other: MerE, MerF, XdA, XdB, XdC.
-/
import Derived.Test.YtbanogfljpkbkaaGreatDoorM18
import Derived.Test.YtbanogfljpkbkaaGreatDoorM19
import Derived.Test.YtbanogfljpkbkaaGreatDoorM14
import Derived.Test.YtbanogfljpkbkaaGreatDoorM20
import Derived.Test.YtbanogfljpkbkaaGreatDoorM12
import Derived.Test.YtbanogfljpkbkaaGreatDoorM4
import Derived.Lib.ConvBytes
set_option linter.unusedSimpArgs false
set_option linter.unusedVariables false
set_option linter.unnecessarySimpa false
namespace Go.Proofs.YtbanogfljpkbkaaGreatDoor
section
open Go.RowKit
set_option maxRecDepth 100000
structure LeafOk (M : StM) (L : LyM) (i : Nat) : Prop where
 pe : ∀ x ∈ plcL L.tree L.lev i, rdSE M (x : Int) = 0
 p5 : ∀ x ∈ plcL L.tree L.lev i, (rdS M (x : Int)).length = 512
 te : rdSE M ((L.tags + i : Nat) : Int) = 0
 t5 : (rdS M ((L.tags + i : Nat) : Int)).length = 512
def lookB (M : StM) (L : LyM) (n i : Nat) (root : List UInt8) : Bool := okP n i (leafH (rdS M ((L.tags + i : Nat) : Int))) (pathS M L.tree L.lev i) root
def LookC (w : World) (M : StM) (L : LyM) (n i : Nat) (root : List UInt8) (e : Ending) (w' : World) : Prop :=
 (lookB M L n i root = true ∧ ∃ vb vp us, e = .returned (.tuple #[vb, vp, .int .i64 0]) ∧ Row w' w.heap.size 5 1 vb 512 (bvs (rdS M ((L.tags + i : Nat) : Int))) ∧ BRow w' w.heap.size vp us (pathS M L.tree L.lev i) ∧ Fr [] w w') ∨
 (lookB M L n i root = false ∧ e = .returned (.tuple #[.slice none 0 0, .slice none 0 0, .int .i64 160]) ∧ Fr [] w w')
section
variable {w w' : World} {S : SgP} {O : List Nat} {M : StM} {k : Nat} {L : LyM} {A : Option Addr} {c n : Nat} {root : List UInt8}
theorem pathW_of {w : World} {B : Nat} {Ap : Option Addr} {m cp : Nat} {us : List Value} {L : LyM} {M : StM} {i : Nat} (hl : L.lev = levsN n) (hn : 1 ≤ n ∧ n ≤ 128) (hm : L.lev.length = m) (hk : LeafOk M L i) (R : BRow w B (.slice Ap m cp) us (pathS M L.tree L.lev i)) : PathW w Ap m cp us n (pathS M L.tree L.lev i) ∧ cp ≤ 9223372036854775807 := by
 have hp : (pathS M L.tree L.lev i).length = m := by rw [pathS, List.length_map, plcL_len, hm]
 have r := R.row
 rw [hp] at r
 obtain ⟨A', c', e', hnc, hcm, -, -, -⟩ := r.shape
 cases e'
 refine ⟨⟨R.brd, hp, hnc, by rw [← hl, hm], fun b hb => ?_, hn⟩, by unfold maxLen at hcm; omega⟩
 obtain ⟨x, hx, rfl⟩ := List.mem_map.1 hb
 exact hk.p5 x hx
set_option maxHeartbeats 4000000 in
theorem meLook_any (h : SgW w S O M k) (hl : LyW w A c L n) {i : Nat} (hi : i < n) (hk : LeafOk M L i) (hr : root.length = 32) (hK0 : KG w) :
  Calls Tryz.prog 42 #[.pointer (some ⟨S.g, 0, none⟩), .agg (L.cells (.slice A L.lev.length c)).toArray, .int .i64 i, .agg (bvs root).toArray] w (LookC w M L n i root) := by
 have hn := hl.nb
 have ht := hl.tags
 have CR := Lib.hid (fun (w1 : World) (f : Fr [] w w1) x hx => sgRead_any (h.keep_nil f) x hx)
 have CL := Lib.hid (fun (w1 : World) (f : Fr [] w w1) => meLeaves_any (hl.keep_nil f))
 have CP := Lib.hid (fun (w1 : World) (f : Fr [] w w1) => mePath_any (h.keep_nil f) (hl.keep_nil f) hi hk.pe)
 have HK := Lib.hid hk
 have HRL := Lib.hid hr
 have HLV := Lib.hid hl.lev
 have HM0 := Lib.hid hl.m.2
 obtain ⟨p, hp⟩ : ∃ p, L.tags + i = p := ⟨_, rfl⟩
 have EP : (L.tags : Int) + (i : Int) = (p : Int) := by omega
 have EW : IntKind.i64.wrap ((L.tags : Int) + (i : Int)) = (p : Int) := by rw [EP]; exact IntWalk.i64_in _ (by omega)
 have hpb : p ≤ 200000 := by omega
 obtain ⟨b, hb⟩ : ∃ b, rdS M (p : Int) = b := ⟨_, rfl⟩
 have hte : rdSE M (p : Int) = 0 := by rw [← hp]; exact hk.te
 have hb5 : b.length = 512 := by rw [← hb, ← hp]; exact hk.t5
 have HP := Lib.hid (And.intro hp (And.intro hb (And.intro hb5 hte)))
 clear h hl hk hr hp hb hb5 hte
 obtain ⟨bo, hbo⟩ : ∃ bo, okP n i (leafH b) (pathS M L.tree L.lev i) root = bo := ⟨_, rfl⟩
 have HLB := Lib.hid (show lookB M L n i root = bo by unfold lookB; rw [HP.out.1, HP.out.2.1, hbo])
 have HRD := Lib.hid (show rdS M ((L.tags + i : Nat) : Int) = b by rw [HP.out.1, HP.out.2.1])
 have HBO := Lib.hid hbo
 clear hbo
 go_enter Tryz.func42, Tryz.ntmps42
 go_wp2_with
  (first
   | (refine wpList_boxS (o := ⟨some 5, _, _, _, _, _⟩) rfl rfl (L.cells (.slice A L.lev.length c)) rfl ?_; intro w1 hB f1 z1; have Z1 := Lib.hid z1; clear z1; obtain ⟨gB, hgB⟩ : ∃ g, w.heap.size = g := ⟨_, rfl⟩; rw [hgB] at hB; rw [hgB]; have HGB := Lib.hid hgB; clear hgB)
   | (refine wpList_boxS (o := ⟨some 7, _, _, _, _, _⟩) rfl rfl (bvs root) rfl ?_; intro w2 hR f2 z2; have Z2 := Lib.hid z2; clear z2; obtain ⟨gR, hgR⟩ : ∃ g, w1.heap.size = g := ⟨_, rfl⟩; rw [hgR] at hR; rw [hgR]; have HGR := Lib.hid hgR; clear hgR; have hB := hB.keep_nil f2)
   | (refine wpList_ldS stLay rfl rfl gB 0 rfl (L.cells (.slice A L.lev.length c)) rfl hB.range0 ?_))
 have F2 := f1.trans_nil f2
 refine (CP.out _ F2).mono ?_
 rintro e w3 ⟨vp, us, rfl, Rp, f3⟩
 have F3 := F2.trans_nil f3
 have hF2 := F2.size
 have hpl : (pathS M L.tree L.lev i).length = L.lev.length := by rw [pathS, List.length_map, plcL_len]
 have rp := Rp.row
 rw [hpl] at rp
 obtain ⟨Ap, cp, rfl, -, -, -, -, -⟩ := rp.shape
 replace hB := hB.keep_nil f3
 replace hR := hR.keep_nil f3
 have b6 := (lay_box hB).2.2.1
 have cr := CR.out _ F3 (p : Int) (wfZ_of (by omega))
 rw [HP.out.2.2.2, HP.out.2.1] at cr
 have HRp := Lib.hid Rp
 clear f1 f2 f3 F2 hpl rp Rp
 go_wp2_with fail
 refine cr.mono ?_
 rintro e w4 ⟨vb, rfl, rb, f4⟩
 rw [HP.out.2.2.1] at rb
 obtain ⟨Ab, cb, rfl, hcb, -, -, -, -⟩ := rb.shape
 have F4 := F3.trans_nil f4
 replace hB := hB.keep_nil f4
 replace hR := hR.keep_nil f4
 have hF3 := F3.size
 obtain ⟨wD, hwD⟩ : ∃ wD, w4.drew = wD := ⟨_, rfl⟩
 have fD : Fr [] w4 wD := by rw [← hwD]; exact (Fr.refl [] w4).drew
 have HD := Lib.hid (And.intro (hB.keep_nil fD) (And.intro (hR.keep_nil fD) (And.intro (rb.keep_nil fD) (And.intro (((HRp.out.keep_nil f4).keep_nil fD)) (F4.trans_nil fD)))))
 clear cr b6 f4 F3 F4 hB hR rb fD
 go_upto_region 7 with fail
 as_aux_lemma =>
  refine wp_region_held_drew (S := fun w' => Fr [] wD w') (by kernel_rfl) (by rw [hwD]; exact Fr.refl _ _) (fun hHeld => ?_)
  rw [hwD] at hHeld ⊢
  clear hwD
  refine tw 0 36 hHeld ?_ (v := .agg (L.cells (.slice A L.lev.length c)).toArray) (hy := (fun w hSw => hy_ld stLay rfl gB 0 rfl (L.cells (.slice A L.lev.length c)) rfl (HD.out.1.keep_nil hSw).range0))
  refine tw 2 38 hHeld ?_
  refine tw 3 39 hHeld ?_
  refine tw 5 41 hHeld ?_
  refine tw 6 42 hHeld ?_ (v := .agg (bvs root).toArray) (hy := (fun w hSw => hy_ld stA32 rfl gR 0 rfl (bvs root) (by rw [bvs_length, HRL.out]) (HD.out.2.1.keep_nil hSw).range0))
  refine tc 1 (fun K hK => ?_)
  go_simp
  refine (CL.out _ (HD.out.2.2.2.2.trans_nil hHeld)).mono ?_
  rintro e w' ⟨rfl, fq⟩
  have hHx := hHeld.trans_nil fq
  refine hK.out _ _ hHx (fun hHy => ?_)
  clear hK fq hHeld hHy
  have hHeld := hHx
  clear hHx
  try simp only [Act.put, p1, p2, p3]
  refine tc 4 (fun K hK => ?_)
  go_simp
  refine (trLeaf_any Ab b 512 cb _ HP.out.2.2.1 (HD.out.2.2.1.keep_nil hHeld).rdD.1 (HD.out.2.2.1.keep_nil hHeld).rdD.2.2 hcb (by omega) (hK0.keep (HD.out.2.2.2.2.trans_nil hHeld))).mono ?_
  rintro e w' ⟨rfl, fq⟩
  have hHx := hHeld.trans_nil fq
  refine hK.out _ _ hHx (fun hHy => ?_)
  clear hK fq hHeld hHy
  have hHeld := hHx
  clear hHx
  try simp only [Act.put, p1, p2, p3]
  obtain ⟨hpw, hcp⟩ := pathW_of HLV.out hn rfl HK.out (HD.out.2.2.2.1.keep_nil hHeld)
  have cc := trCheck_any hpw hi (shaSum_length _) HRL.out (hK0.keep (HD.out.2.2.2.2.trans_nil hHeld)) hcp (leaf := leafH b) (want := root)
  rw [HBO.out] at cc
  clear hpw
  refine tc 7 (fun K hK => ?_)
  go_simp
  refine cc.mono ?_
  clear cc
  rintro e w' ⟨rfl, fq⟩
  have hHx := hHeld.trans_nil fq
  refine hK.out _ _ hHx (fun hHy => ?_)
  clear hK fq hHeld hHy
  have hHeld := hHx
  clear hHx
  try simp only [Act.put, p1, p2, p3]
  refine tw 8 44 hHeld ?_
  refine wpAnyH_done (by kernel_rfl) ?_ _
  have HX := Lib.hid hHeld
  clear hHeld
  cases bo
  ·rw [show chkE false = 160 from rfl]
   go_wp2_with fail
   (try simp only [Exit.inBlock, Exit.then]); refine bodyPost_ret (results_tmp3 rfl _ _ _) rfl ?_
   exact Or.inr ⟨HLB.out, rfl, HD.out.2.2.2.2.trans_nil HX.out⟩
  ·rw [show chkE true = 0 from rfl]
   go_wp2_with fail
   (try simp only [Exit.inBlock, Exit.then]); refine bodyPost_ret (results_tmp3 rfl _ _ _) rfl ?_
   have hsz := hF3
   exact Or.inl ⟨HLB.out, _, _, us, rfl, by rw [HRD.out]; exact (HD.out.2.2.1.keep_nil HX.out).mono (by omega), (HD.out.2.2.2.1.keep_nil HX.out).mono (by omega), HD.out.2.2.2.2.trans_nil HX.out⟩
def ChkC (w : World) (M : StM) (L : LyM) (n i : Nat) (root : List UInt8) (e : Ending) (w' : World) : Prop :=
 (lookB M L n i root = true ∧ ∃ vb, e = .returned (.tuple #[vb, .int .i64 0]) ∧ Row w' w.heap.size 5 1 vb 512 (bvs (rdS M ((L.tags + i : Nat) : Int))) ∧ Fr [] w w') ∨
 (lookB M L n i root = false ∧ e = .returned (.tuple #[.slice none 0 0, .int .i64 160]) ∧ Fr [] w w')
set_option maxHeartbeats 2000000 in
theorem meCheck_any (h : SgW w S O M k) (hl : LyW w A c L n) {i : Nat} (hi : i < n) (hk : LeafOk M L i) (hr : root.length = 32) (hK : KG w) :
  Calls Tryz.prog 17 #[.pointer (some ⟨S.g, 0, none⟩), .agg (L.cells (.slice A L.lev.length c)).toArray, .int .i64 i, .agg (bvs root).toArray] w (ChkC w M L n i root) := by
 have CL := Lib.hid (fun (w1 : World) (f : Fr [] w w1) => meLook_any (h.keep_nil f) (hl.keep_nil f) hi hk hr (hK.keep f))
 have HRL := Lib.hid hr
 clear h hl hk hr
 go_enter Tryz.func17, Tryz.ntmps17
 go_wp2_with
  (first
   | (refine wpList_boxS (o := ⟨some 5, _, _, _, _, _⟩) rfl rfl (L.cells (.slice A L.lev.length c)) rfl ?_; intro w1 hB f1 z1; have Z1 := Lib.hid z1; clear z1; obtain ⟨gB, hgB⟩ : ∃ g, w.heap.size = g := ⟨_, rfl⟩; rw [hgB] at hB; rw [hgB]; have HGB := Lib.hid hgB; clear hgB)
   | (refine wpList_boxS (o := ⟨some 7, _, _, _, _, _⟩) rfl rfl (bvs root) rfl ?_; intro w2 hR f2 z2; have Z2 := Lib.hid z2; clear z2; obtain ⟨gR, hgR⟩ : ∃ g, w1.heap.size = g := ⟨_, rfl⟩; rw [hgR] at hR; rw [hgR]; have HGR := Lib.hid hgR; clear hgR; have hB := hB.keep_nil f2)
   | (refine wpList_ldS stLay rfl rfl gB 0 rfl (L.cells (.slice A L.lev.length c)) rfl hB.range0 ?_)
   | (refine wpList_ldS stA32 rfl rfl gR 0 rfl (bvs root) (by rw [bvs_length, HRL.out]) hR.range0 ?_))
 have F2 := f1.trans_nil f2
 refine (CL.out _ F2).mono ?_
 have HF := Lib.hid F2
 clear f1 f2 F2 hB hR
 rintro e w3 (⟨hb, vb, vp, us, rfl, rb, -, f3⟩ | ⟨hb, rfl, f3⟩)
 ·have HX := Lib.hid (And.intro hb (And.intro rb f3))
  clear hb rb f3
  go_wp2_with fail
  go_ret2
  exact Or.inl ⟨HX.out.1, vb, rfl, HX.out.2.1.mono HF.out.size, HF.out.trans_nil HX.out.2.2⟩
 ·have HX := Lib.hid (And.intro hb f3)
  clear hb f3
  go_wp2_with fail
  go_ret2
  exact Or.inr ⟨HX.out.1, rfl, HF.out.trans_nil HX.out.2⟩
theorem meLook_err {E : Int} {pv v0 : Value} {i : Int} (hE : E ≠ 0) (hc : ∀ w1, Fr [] w w1 → Calls Tryz.prog 22 #[pv, .agg (L.cells v0).toArray, .int .i64 i] w1 fun e w' => e = .returned (.tuple #[.slice none 0 0, .int .i64 E]) ∧ Fr [] w1 w') (hr : root.length = 32) :
  Calls Tryz.prog 42 #[pv, .agg (L.cells v0).toArray, .int .i64 i, .agg (bvs root).toArray] w fun e w' => e = .returned (.tuple #[.slice none 0 0, .slice none 0 0, .int .i64 E]) ∧ Fr [] w w' := by
 have CP := Lib.hid hc
 have d0 : (E == 0) = false := beq_eq_false_iff_ne.2 hE
 clear hc hE
 go_enter Tryz.func42, Tryz.ntmps42
 go_wp2_with
  (first
   | (refine wpList_boxS (o := ⟨some 5, _, _, _, _, _⟩) rfl rfl (L.cells v0) rfl ?_; intro w1 hB f1 z1; have Z1 := Lib.hid z1; clear z1; obtain ⟨gB, hgB⟩ : ∃ g, w.heap.size = g := ⟨_, rfl⟩; rw [hgB] at hB; rw [hgB]; have HGB := Lib.hid hgB; clear hgB)
   | (refine wpList_boxS (o := ⟨some 7, _, _, _, _, _⟩) rfl rfl (bvs root) rfl ?_; intro w2 hR f2 z2; have Z2 := Lib.hid z2; clear z2; have hB := hB.keep_nil f2)
   | (refine wpList_ldS stLay rfl rfl gB 0 rfl (L.cells v0) rfl hB.range0 ?_))
 have F2 := f1.trans_nil f2
 refine (CP.out w2 F2).mono ?_
 rintro e w3 ⟨rfl, f3⟩
 have F3 := F2.trans_nil f3
 clear f1 f2 f3 F2 hB hR
 go_wp2_with fail
 (try simp only [Exit.inBlock, Exit.then]); refine bodyPost_ret (results_tmp3 rfl _ _ _) rfl ?_
 exact ⟨rfl, F3⟩
theorem meCheck_err {E : Int} {pv v0 : Value} {i : Int} (hE : E ≠ 0) (hc : ∀ w1, Fr [] w w1 → Calls Tryz.prog 22 #[pv, .agg (L.cells v0).toArray, .int .i64 i] w1 fun e w' => e = .returned (.tuple #[.slice none 0 0, .int .i64 E]) ∧ Fr [] w1 w') (hr : root.length = 32) :
  Calls Tryz.prog 17 #[pv, .agg (L.cells v0).toArray, .int .i64 i, .agg (bvs root).toArray] w fun e w' => e = .returned (.tuple #[.slice none 0 0, .int .i64 E]) ∧ Fr [] w w' := by
 have CL := Lib.hid (fun (w1 : World) (f : Fr [] w w1) => meLook_err (w := w1) (root := root) hE (fun w2 f2 => hc w2 (f.trans_nil f2)) hr)
 have HRL := Lib.hid hr
 clear hc hr hE
 go_enter Tryz.func17, Tryz.ntmps17
 go_wp2_with
  (first
   | (refine wpList_boxS (o := ⟨some 5, _, _, _, _, _⟩) rfl rfl (L.cells v0) rfl ?_; intro w1 hB f1 z1; have Z1 := Lib.hid z1; clear z1; obtain ⟨gB, hgB⟩ : ∃ g, w.heap.size = g := ⟨_, rfl⟩; rw [hgB] at hB; rw [hgB]; have HGB := Lib.hid hgB; clear hgB)
   | (refine wpList_boxS (o := ⟨some 7, _, _, _, _, _⟩) rfl rfl (bvs root) rfl ?_; intro w2 hR f2 z2; have Z2 := Lib.hid z2; clear z2; obtain ⟨gR, hgR⟩ : ∃ g, w1.heap.size = g := ⟨_, rfl⟩; rw [hgR] at hR; rw [hgR]; have HGR := Lib.hid hgR; clear hgR; have hB := hB.keep_nil f2)
   | (refine wpList_ldS stLay rfl rfl gB 0 rfl (L.cells v0) rfl hB.range0 ?_)
   | (refine wpList_ldS stA32 rfl rfl gR 0 rfl (bvs root) (by rw [bvs_length, HRL.out]) hR.range0 ?_))
 have F2 := f1.trans_nil f2
 refine (CL.out _ F2).mono ?_
 rintro e w3 ⟨rfl, f3⟩
 have F3 := F2.trans_nil f3
 clear f1 f2 f3 F2 hB hR
 go_wp2_with fail
 go_ret2
 exact ⟨rfl, F3⟩
end
end
section
open Go.RowKit
set_option maxRecDepth 100000
theorem zeroA (w : World) : (Instr.build 39 #[]).run Tryz.prog w = .ok (.agg (bvs (zB 32)).toArray) w := by kernel_rfl
section
variable {w w' : World} {S : SgP} {O : List Nat} {M : StM} {k : Nat} {L : LyM} {A : Option Addr} {c n : Nat} {root b : List UInt8}
theorem SgW.noM (h : SgW w S O M k) (e : TypeId) : NoTy w [S.m] e := by
 obtain ⟨v, k1, -⟩ := h.srt
 exact k1.noTy e
theorem SgW.offF (h : SgW w S O M k) {g : Nat} {t : TypeId} {cs : Array Value} (hb : Blk w g t cs) : g ∉ [S.m] := Blk.notin hb (h.noM t)
theorem SgW.rd (h : SgW w S O M k) {Ax : Option Addr} {xs : List Value} (r : Rd w Ax xs) (f : Fr [S.m] w w') : Rd w' Ax xs := fun hx => by
 obtain ⟨g, o, e, hc⟩ := r hx
 have hg : g ∉ [S.m] := fun hm => by
  obtain ⟨v, k1, -⟩ := h.srt
  obtain ⟨x, t, rfl⟩ : ∃ x t, xs = x :: t := by cases xs with | nil => exact absurd rfl hx | cons x t => exact ⟨x, t, rfl⟩
  have h1 := hc 0 x rfl
  rw [List.mem_singleton.1 hm, k1.map.no_cell] at h1
  cases h1
 exact r.keep f (fun g' o' e' => by rw [e] at e'; cases e'; exact hg) hx
theorem SgW.ly (h : SgW w S O M k) (hl : LyW w A c L n) (f : Fr [S.m] w w') : LyW w' A c L n := ⟨h.rd hl.rd f, hl.lev, hl.nb, hl.data, hl.tree, hl.tags⟩
def SgP.below (S : SgP) (O : List Nat) (B : Nat) : Prop := S.ca.c < B ∧ S.ca.g < B ∧ S.ca.s < B ∧ S.ca.b < B ∧ (∀ i ∈ O, i < B) ∧ S.g < B ∧ S.q < B ∧ S.m < B
theorem SgW.belowW (h : SgW w S O M k) : S.below O w.heap.size := by
 obtain ⟨a, b, c, d, e⟩ := h.ca.lts
 obtain ⟨f, g, i⟩ := h.lts
 exact ⟨a, b, c, d, e, f, g, i⟩
theorem SgW.keepN {F : List Nat} {B : Nat} (h : SgW w S O M k) (hb : S.below O B) (f : Fr F w w') (hF : ∀ i ∈ F, B ≤ i) (h8 : NoTy w F 5) : SgW w' S O M k := by
 obtain ⟨b1, b2, b3, b4, b5, b6, b7, b8⟩ := hb
 have key : ∀ i, i < B → i ∉ F := fun i hi hm => by have := hF i hm; omega
 exact h.keep f (key _ b1) (key _ b2) (key _ b3) (key _ b4) (fun i hi => key i (b5 i hi)) h8 (key _ b6) (key _ b7) (key _ b8)
def chgK (M : StM) (tree tags : Nat) (lev : List Nat) (i : Nat) (b : List UInt8) (q : Nat) : StM :=
 (((plcL tree lev i).zip (chL (pathS M tree lev i) i (leafH b))).take q).foldl (fun M p => wrSt M (p.1 : Int) p.2) (wrSt M ((tags + i : Nat) : Int) b)
theorem chgK_all (M : StM) (tree tags : Nat) (lev : List Nat) (i : Nat) (b : List UInt8) : chgK M tree tags lev i b lev.length = chgS M tree tags lev i b := by
 unfold chgK chgS
 rw [List.take_of_length_le]
 rw [List.length_zip, plcL_len]
 exact Nat.min_le_left _ _
theorem chgK_succ {M : StM} {tree tags : Nat} {lev : List Nat} {i : Nat} {b : List UInt8} {q : Nat} (hq : q < lev.length) : chgK M tree tags lev i b (q + 1) = wrSt (chgK M tree tags lev i b q) ((plcK tree lev i q : Nat) : Int) ((chL (pathS M tree lev i) i (leafH b)).getD q []) := by
 have h1 : (pathS M tree lev i).length = lev.length := by rw [pathS, List.length_map, plcL_len]
 have h2 : q < ((plcL tree lev i).zip (chL (pathS M tree lev i) i (leafH b))).length := by rw [List.length_zip, plcL_len, chL_len, h1]; omega
 unfold chgK
 rw [List.take_succ_eq_append_getElem h2, List.foldl_append]
 simp only [List.foldl_cons, List.foldl_nil, List.getElem_zip]
 congr 1
 ·simp [plcL]
 ·rw [List.getD_eq_getElem?_getD, List.getElem?_eq_getElem (by rw [chL_len, h1]; exact hq)]; rfl
def ChgS (w : World) (S : SgP) (O : List Nat) (M : StM) (k : Nat) (L : LyM) (n i : Nat) (b root : List UInt8) (e : Ending) (w' : World) : Prop :=
 (lookB M L n i root = true ∧ b.length = 512 ∧ e = .returned (.tuple #[.agg (bvs (rootP n (chL (pathS M L.tree L.lev i) i (leafH b)))).toArray, .int .i64 0]) ∧ SgW w' S O (chgS M L.tree L.tags L.lev i b) (k + 3) ∧ Fr [S.m] w w') ∨
 (lookB M L n i root = true ∧ b.length ≠ 512 ∧ e = .returned (.tuple #[.agg (bvs (zB 32)).toArray, .int .i64 101]) ∧ Fr [] w w') ∨
 (lookB M L n i root = false ∧ e = .returned (.tuple #[.agg (bvs (zB 32)).toArray, .int .i64 160]) ∧ Fr [] w w')
set_option maxHeartbeats 4000000 in
theorem meChange_any (h : SgW w S O M k) (hk0 : k ≤ 4398046511104) (hl : LyW w A c L n) {i : Nat} (hi : i < n) (hk : LeafOk M L i) (hr : root.length = 32) (hK : KG w) {Ab : Option Addr} {nb cb : Nat} (hb : b.length = nb) (rb : Rd w Ab (bvs b)) (hA : Ab = none → nb = 0) (hcb : nb ≤ cb) :
  Calls Tryz.prog 12 #[.pointer (some ⟨S.g, 0, none⟩), .agg (L.cells (.slice A L.lev.length c)).toArray, .int .i64 i, .slice Ab nb cb, .agg (bvs root).toArray] w (ChgS w S O M k L n i b root) := by
 have CL := Lib.hid (fun (w1 : World) (f : Fr [] w w1) => meLook_any (h.keep_nil f) (hl.keep_nil f) hi hk hr (hK.keep f))
 have HRL := Lib.hid hr
 have HH := Lib.hid (And.intro h (And.intro hl (And.intro hk (And.intro rb hA))))
 have HB := Lib.hid hb
 have hn := hl.nb
 have ht := hl.tags
 clear h hl hk hr rb hA
 go_enter Tryz.func12, Tryz.ntmps12
 go_wp2_with
  (first
   | (refine wpList_boxS (o := ⟨some 6, _, _, _, _, _⟩) rfl rfl (L.cells (.slice A L.lev.length c)) rfl ?_; intro w1 hB f1 z1; have Z1 := Lib.hid z1; clear z1; obtain ⟨gB, hgB⟩ : ∃ g, w.heap.size = g := ⟨_, rfl⟩; rw [hgB] at hB; rw [hgB]; have HGB := Lib.hid hgB; clear hgB)
   | (refine wpList_boxS (o := ⟨some 9, _, _, _, _, _⟩) rfl rfl (bvs root) rfl ?_; intro w2 hR f2 z2; have Z2 := Lib.hid z2; clear z2; obtain ⟨gR, hgR⟩ : ∃ g, w1.heap.size = g := ⟨_, rfl⟩; rw [hgR] at hR; rw [hgR]; have HGR := Lib.hid hgR; clear hgR; have hB := hB.keep_nil f2)
   | (refine wpList_alS stA32 (o := ⟨some 10, _, _, _, _, _⟩) rfl rfl ?_; intro w3 h10 f3 z3; have Z3 := Lib.hid z3; clear z3; obtain ⟨g10, hg10⟩ : ∃ g, w2.heap.size = g := ⟨_, rfl⟩; rw [hg10] at h10; rw [hg10]; have HG10 := Lib.hid hg10; clear hg10; have hB := hB.keep_nil f3; have hR := hR.keep_nil f3)
   | (refine wpList_ldS stLay rfl rfl gB 0 rfl (L.cells (.slice A L.lev.length c)) rfl hB.range0 ?_)
   | (refine wpList_ldS stA32 rfl rfl gR 0 rfl (bvs root) (by rw [bvs_length, HRL.out]) hR.range0 ?_)
   | fail)
 have F3 := (f1.trans_nil f2).trans_nil f3
 refine (CL.out _ F3).mono ?_
 have hF3 := F3.size
 have hg10 : w.heap.size ≤ g10 := by have := HG10.out; have := f1.size; have := f2.size; omega
 have HF3 := Lib.hid F3
 clear f1 f2 f3 F3 hR
 rintro e w4 (⟨hbo, vb, vp, us, rfl, -, Rp, f4⟩ | ⟨hbo, rfl, f4⟩)
 ·replace hB := hB.keep_nil f4
  have h10x := h10.keep_nil f4
  have HX := Lib.hid (And.intro hbo (HF3.out.trans_nil f4))
  have hpl : (pathS M L.tree L.lev i).length = L.lev.length := by rw [pathS, List.length_map, plcL_len]
  have rp := Rp.row
  rw [hpl] at rp
  obtain ⟨Ap, cp, rfl, -, -, -, -, -⟩ := rp.shape
  obtain ⟨hpw, hcp⟩ := pathW_of HH.out.2.1.lev hn rfl HH.out.2.2.1 Rp
  have HPW := Lib.hid hpw
  clear hbo f4 h10 hpl rp Rp hpw
  by_cases h5 : nb = 512
  ·subst h5
   have hjn : joinB i (pathS M L.tree L.lev i) = true := by
    have := HX.out.1
    unfold lookB okP at this
    simp only [Bool.and_eq_true] at this
    exact this.2
   have hm := HH.out.2.1.m.2
   have HLV := Lib.hid HH.out.2.1.lev
   have HJ := Lib.hid (And.intro hjn hcp)
   have hF4 := HX.out.2.size
   have H10 := Lib.hid h10x
   clear hjn hcp h10x
   go_wp2_with
    (first
     | (refine wpList_boxS (o := ⟨some 6, _, _, _, _, _⟩) rfl rfl (L.cells (.slice A L.lev.length c)) rfl ?_; intro w1 hB f1 z1; have Z1 := Lib.hid z1; clear z1; obtain ⟨gB, hgB⟩ : ∃ g, w.heap.size = g := ⟨_, rfl⟩; rw [hgB] at hB; rw [hgB]; have HGB := Lib.hid hgB; clear hgB)
     | (refine wpList_boxS (o := ⟨some 9, _, _, _, _, _⟩) rfl rfl (bvs root) rfl ?_; intro w2 hR f2 z2; have Z2 := Lib.hid z2; clear z2; obtain ⟨gR, hgR⟩ : ∃ g, w1.heap.size = g := ⟨_, rfl⟩; rw [hgR] at hR; rw [hgR]; have HGR := Lib.hid hgR; clear hgR; have hB := hB.keep_nil f2)
     | (refine wpList_alS stA32 (o := ⟨some 10, _, _, _, _, _⟩) rfl rfl ?_; intro w3 h10 f3 z3; have Z3 := Lib.hid z3; clear z3; obtain ⟨g10, hg10⟩ : ∃ g, w2.heap.size = g := ⟨_, rfl⟩; rw [hg10] at h10; rw [hg10]; have HG10 := Lib.hid hg10; clear hg10; have hB := hB.keep_nil f3; have hR := hR.keep_nil f3)
     | (refine wpList_ldS stLay rfl rfl gB 0 rfl (L.cells (.slice A L.lev.length c)) rfl hB.range0 ?_)
     | (refine wpList_ldS stA32 rfl rfl gR 0 rfl (bvs root) (by rw [bvs_length, HRL.out]) hR.range0 ?_)
     | fail)
   refine (meLeaves_any (HH.out.2.1.keep_nil HX.out.2)).mono ?_
   rintro e w5 ⟨rfl, f5⟩
   have F5 := HX.out.2.trans_nil f5
   go_wp2_with fail
   refine (trLeaf_any Ab b 512 cb w5 HB.out (HH.out.2.2.2.1.keep_nil F5) HH.out.2.2.2.2 hcb (by omega) (hK.keep F5)).mono ?_
   rintro e w6 ⟨rfl, f6⟩
   have F6 := F5.trans_nil f6
   have ct := trChange_any (HPW.out.keep_nil (f5.trans_nil f6)) hi (shaSum_length _) HJ.out.1 (hK.keep F6) HJ.out.2 (leaf := leafH b)
   go_wp2_with fail
   refine ct.mono ?_
   rintro e w7 ⟨v15, ns, rfl, Rn, f7⟩
   have F7 := F6.trans_nil f7
   have F47 := (f5.trans_nil f6).trans_nil f7
   have hB7 := (((hB.keep_nil f5).keep_nil f6).keep_nil f7)
   have b6 := (lay_box hB7).2.2.1
   have hnl : (chL (pathS M L.tree L.lev i) i (leafH b)).length = L.lev.length := by rw [chL_len, pathS, List.length_map, plcL_len]
   have rn := Rn.row
   rw [hnl] at rn
   obtain ⟨An, cn, rfl, -, -, -, -, -⟩ := rn.shape
   obtain ⟨D, hD⟩ : ∃ D, rootP n (chL (pathS M L.tree L.lev i) i (leafH b)) = D := ⟨_, rfl⟩
   have hDL : D.length = 32 := by rw [← hD]; exact rootP_len _ _
   rw [hD]
   have HDD := Lib.hid (And.intro hD hDL)
   clear ct f5 f6 F5 F6 hD hDL hB rn
   obtain ⟨p, hp⟩ : ∃ p, L.tags + i = p := ⟨_, rfl⟩
   have EP : (L.tags : Int) + (i : Int) = (p : Int) := by omega
   have EW : IntKind.i64.wrap ((L.tags : Int) + (i : Int)) = (p : Int) := by rw [EP]; exact IntWalk.i64_in _ (by omega)
   have hpb : p ≤ 200000 := by omega
   have HP := Lib.hid hp
   clear hp f7
   go_wp2_with
    (first
     | (refine wpList_alS stA32 (o := ⟨some 16, _, _, _, _, _⟩) rfl rfl ?_; intro w8 h16 f8 z8; have Z8 := Lib.hid z8; clear z8; obtain ⟨g16, hg16⟩ : ∃ g, w7.heap.size = g := ⟨_, rfl⟩; rw [hg16] at h16; rw [hg16]; have HG16 := Lib.hid hg16; clear hg16; have b6 := f8.cell (by simp) b6)
     | (refine wpList_stB stA32 rfl rfl g16 rfl (bvs D) rfl (by rw [bvs_length, HDD.out.2]) (bvs_one _) (bvs (zB 32)) rfl h16 ?_; intro w9 h16' f9 z9; clear z9; have b6 := f9.cell (by have := HG16.out; have := hB7.lt; simp; omega) b6))
   have f79 : Fr [] w7 w9 := f8.trans f9 (fun i hi => .inr (by have := HG16.out; simp at hi; omega))
   have F9 := F7.trans_nil f79
   have h10 := H10.out.keep_nil (F47.trans_nil f79)
   have hs9 := HH.out.1.keep_nil F9
   have cw := sgWrite_any hs9 (show k < maxLen by unfold maxLen; omega) (p : Int) (wfZ_of (by omega)) Ab cb b HB.out (HH.out.2.2.2.1.keep_nil F9) HH.out.2.2.2.2
   have l16 := h16'.lt
   have hw7 := F7.size
   have HS9 := Lib.hid (And.intro hs9 (And.intro (hB7.keep_nil f79) (And.intro h10 (And.intro h16' (And.intro (Rn.keep_nil f79) F9)))))
   clear f8 f9 f79 F7 F47 hB7 h16 h16' h10 hs9 F9 Rn b6
   refine cw.mono ?_
   rintro e wA ⟨rfl, sA, fA⟩
   obtain ⟨hs9, hB9, h10, h16, Rn, F9⟩ := HS9.out
   have hBA := hB9.keep fA (hs9.offF hB9)
   have HSA := Lib.hid (And.intro (h10.keep fA (hs9.offF h10)) (And.intro (h16.keep fA (hs9.offF h16)) (And.intro (Rn.keepT fA (hs9.noM _) (hs9.noM _)) (And.intro sA fA))))
   have cpl := mePlaces_any (hs9.ly (HH.out.2.1.keep_nil F9) fA) (i := i) (by omega)
   clear cw hB9 h10 h16 Rn hs9 F9 sA fA
   go_wp2_with (first | (refine wpList_ldS stLay rfl rfl gB 0 rfl (L.cells (.slice A L.lev.length c)) rfl hBA.range0 ?_))
   refine cpl.mono ?_
   rintro e wB ⟨vP, rfl, rP, fB⟩
   obtain ⟨AP, cP, rfl, -, -, -, -, -⟩ := rP.shape
   obtain ⟨h10, h16, Rn, sA, fA⟩ := HSA.out
   obtain ⟨m, hmm⟩ : ∃ m, L.lev.length = m := ⟨_, rfl⟩
   rw [hmm] at rP hm hnl
   have HM := Lib.hid (And.intro hmm hnl)
   have HSB := Lib.hid (And.intro (h10.keep_nil fB) (And.intro (h16.keep_nil fB) (And.intro (Rn.keep_nil fB) (And.intro (sA.keep_nil fB) (And.intro rP (HS9.out.2.2.2.2.2.mono (by simp) |>.trans fA (fun i hi => .inl hi) |>.trans_nil fB))))))
   have EK := Lib.hid (show chgK M L.tree L.tags L.lev i b 0 = wrSt M (p : Int) b by rw [← HP.out]; rfl)
   clear cpl hBA h10 h16 Rn sA fA rP fB hnl
   have hm2 : 1 ≤ m ∧ m ≤ 2 := hm
   clear hm
   go_wp2_with fail
   go_loopw [64] (fun t wr => ∃ q : Nat, q ≤ m ∧ t = .int .i64 q ∧ SgW wr S O (chgK M L.tree L.tags L.lev i b q) (k + 1 + q) ∧ Fr [S.m] wB wr) (fun t _ => m - (intOf t).toNat)
   case atStart => exact ⟨0, Nat.zero_le _, rfl, by rw [EK.out]; exact HSB.out.2.2.2.1, Fr.refl _ _⟩
   case round =>
    obtain ⟨q, hq, rfl, sr, fr⟩ := hrel
    obtain ⟨h10, h16, Rn, sB, rP, FB⟩ := HSB.out
    by_cases hlt : q < m
    ·have hkl : q < L.lev.length := by rw [HM.out.1]; exact hlt
     have hqp : q < (plcL L.tree L.lev i).length := by rw [plcL_len]; exact hkl
     obtain ⟨x, hx⟩ : ∃ x, plcK L.tree L.lev i q = x := ⟨_, rfl⟩
     have hxb : x ≤ 200000 := by
      have h1 := HH.out.2.1.tree
      have h2 : sumL (L.lev.take q) ≤ 9 := by rw [HLV.out]; exact sumL_le hn
      have h3 : i / 16 ^ (q + 1) ≤ i := Nat.div_le_self _ _
      rw [← hx]; unfold plcK; omega
     have hpx : (plcL L.tree L.lev i)[q] = x := by rw [← hx]; simp [plcL]
     obtain ⟨gP, oP, eP, hcP⟩ := (rP.keepT fr (sB.noM _)).rdD.1 (by intro h0; have := congrArg List.length h0; rw [ivs_len, List.length_nil] at this; omega)
     subst eP
     have cP := hcP q (.int .i64 (x : Int)) (by simp [ivs, hqp, hpx])
     have Rr := Rn.keepT fr (sB.noM _) (sB.noM _)
     have hvl := Rr.vlen
     have hql : q < (chL (pathS M L.tree L.lev i) i (leafH b)).length := by rw [HM.out.2]; exact hlt
     have hqn : q < ns.length := by omega
     obtain ⟨gN, oN, eN, hcN⟩ := Rr.row.rdD.1 (by intro h0; rw [h0] at hqn; simp at hqn)
     subst eN
     have cN := hcN q _ (List.getElem?_eq_getElem hqn)
     obtain ⟨y, hy⟩ : ∃ y, (chL (pathS M L.tree L.lev i) i (leafH b)).getD q [] = y := ⟨_, rfl⟩
     have hyq : (chL (pathS M L.tree L.lev i) i (leafH b))[q] = y := by rw [← hy, List.getD_eq_getElem?_getD, List.getElem?_eq_getElem hql]; rfl
     have hy5 : y.length = 512 := by rw [← hyq]; exact chL_512 (shaSum_length _) HPW.out.l5 _ (List.getElem_mem hql)
     have rq := Rr.each q hqn hql
     rw [hyq, hy5] at rq
     obtain ⟨gq, cq, eq⟩ := rq.hdD (by omega)
     rw [eq] at cN rq
     have cw := sgWrite_any sr (show k + 1 + q < maxLen by unfold maxLen; omega) (x : Int) (wfZ_of (by omega)) (some ⟨gq, 0, none⟩) cq y hy5 rq.rdD.1 (by simp)
     have hst := chgK_succ (M := M) (tree := L.tree) (tags := L.tags) (i := i) (b := b) hkl
     rw [hx, hy] at hst
     rw [← hst] at cw
     have HF := Lib.hid fr
     clear hst hkl hqp hx hpx hcP Rr hvl hql hqn hcN hy hyq hy5 rq eq h10 h16 Rn rP FB sr fr sB
     go_wp2_with fail
     refine cw.mono ?_
     rintro e wC ⟨rfl, sC, fC⟩
     have HC := Lib.hid (And.intro sC (HF.out.trans_same fC))
     clear cw sC fC cP cN
     go_wp2_with fail
     exact ⟨⟨q + 1, by omega, by go_num, HC.out.1, HC.out.2⟩, by simp [intOf]; omega⟩
    ·obtain rfl : q = m := by omega
     have k16 := h16.keep fr (sB.offF h16)
     have k10 := h10.keep fr (sB.offF h10)
     have HE := Lib.hid (And.intro sr (FB.trans fr (fun i hi => .inl hi)))
     have hall := Lib.hid (show chgK M L.tree L.tags L.lev i b q = chgS M L.tree L.tags L.lev i b by have := chgK_all M L.tree L.tags L.lev i b; rwa [HM.out.1] at this)
     clear h10 h16 Rn sB rP FB sr fr
     go_wp2_with
      (first
       | (refine wpList_ldS stA32 rfl rfl g16 0 rfl (bvs D) (by rw [bvs_length, HDD.out.2]) k16.range0 ?_)
       | (refine wpList_stB stA32 rfl rfl g10 rfl (bvs D) rfl (by rw [bvs_length, HDD.out.2]) (bvs_one _) (bvs (zB 32)) rfl k10 ?_; intro wc hc fc zc; clear zc))
     try simp only [Exit.inBlock, Exit.then]
     refine bodyPost_ret (results_cell2 stA32 rfl rfl (by rw [bvs_length, HDD.out.2]) hc) rfl ?_
     obtain ⟨sr, Fr0⟩ := HE.out
     rw [hall.out] at sr
     have sr2 := sr.keepN HH.out.1.belowW fc (fun j hj => by rw [List.mem_singleton.1 hj]; exact hg10) (k10.noTyOf (by decide))
     exact Or.inl ⟨HX.out.1, HB.out, by rw [HDD.out.1]; rfl, sr2.mono (by omega), Fr0.trans fc (fun i hi => .inr (by rw [List.mem_singleton.1 hi]; exact hg10))⟩
  ·have d0 : ((nb : Int) != 512) = true := by simp only [bne_iff_ne]; omega
   have H5 := Lib.hid h5
   clear h5
   go_wp2_with
    (first
     | (refine wpList_bld rfl rfl (.agg (bvs (zB 32)).toArray) (zeroA _) ?_)
     | (refine wpList_stB stA32 rfl rfl g10 rfl (bvs (zB 32)) rfl rfl (bvs_one _) (bvs (zB 32)) rfl h10x ?_; intro wc hc fc zc; clear zc))
   try simp only [Exit.inBlock, Exit.then]
   refine bodyPost_ret (results_cell2 stA32 rfl rfl rfl hc) rfl ?_
   exact Or.inr (Or.inl ⟨HX.out.1, by rw [HB.out]; exact H5.out, rfl, HX.out.2.trans fc (fun i hi => .inr (by rw [List.mem_singleton.1 hi]; exact hg10))⟩)
 ·have h10x := h10.keep_nil f4
  have HX := Lib.hid (And.intro hbo (HF3.out.trans_nil f4))
  clear hbo f4 h10
  go_wp2_with
   (first
    | (refine wpList_bld rfl rfl (.agg (bvs (zB 32)).toArray) (zeroA _) ?_)
    | (refine wpList_stB stA32 rfl rfl g10 rfl (bvs (zB 32)) rfl rfl (bvs_one _) (bvs (zB 32)) rfl h10x ?_; intro wc hc fc zc; clear zc))
  try simp only [Exit.inBlock, Exit.then]
  refine bodyPost_ret (results_cell2 stA32 rfl rfl rfl hc) rfl ?_
  exact Or.inr (Or.inr ⟨HX.out.1, rfl, HX.out.2.trans fc (fun i hi => .inr (by rw [List.mem_singleton.1 hi]; exact hg10))⟩)
theorem meChange_err {E : Int} {pv v0 vb : Value} {i : Int} (hE : E ≠ 0) (hc : ∀ w1, Fr [] w w1 → Calls Tryz.prog 22 #[pv, .agg (L.cells v0).toArray, .int .i64 i] w1 fun e w' => e = .returned (.tuple #[.slice none 0 0, .int .i64 E]) ∧ Fr [] w1 w') (hr : root.length = 32) :
  Calls Tryz.prog 12 #[pv, .agg (L.cells v0).toArray, .int .i64 i, vb, .agg (bvs root).toArray] w fun e w' => e = .returned (.tuple #[.agg (bvs (zB 32)).toArray, .int .i64 E]) ∧ Fr [] w w' := by
 have CL := Lib.hid (fun (w1 : World) (f : Fr [] w w1) => meLook_err (w := w1) (root := root) hE (fun w2 f2 => hc w2 (f.trans_nil f2)) hr)
 have HRL := Lib.hid hr
 have d0 : (E != 0) = true := by rw [bne_iff_ne]; exact hE
 have d1 : (E == 0) = false := beq_eq_false_iff_ne.2 hE
 clear hc hr hE
 go_enter Tryz.func12, Tryz.ntmps12
 go_wp2_with
  (first
   | (refine wpList_boxS (o := ⟨some 6, _, _, _, _, _⟩) rfl rfl (L.cells v0) rfl ?_; intro w1 hB f1 z1; have Z1 := Lib.hid z1; clear z1; obtain ⟨gB, hgB⟩ : ∃ g, w.heap.size = g := ⟨_, rfl⟩; rw [hgB] at hB; rw [hgB]; have HGB := Lib.hid hgB; clear hgB)
   | (refine wpList_boxS (o := ⟨some 9, _, _, _, _, _⟩) rfl rfl (bvs root) rfl ?_; intro w2 hR f2 z2; have Z2 := Lib.hid z2; clear z2; obtain ⟨gR, hgR⟩ : ∃ g, w1.heap.size = g := ⟨_, rfl⟩; rw [hgR] at hR; rw [hgR]; have HGR := Lib.hid hgR; clear hgR; have hB := hB.keep_nil f2)
   | (refine wpList_alS stA32 (o := ⟨some 10, _, _, _, _, _⟩) rfl rfl ?_; intro w3 h10 f3 z3; have Z3 := Lib.hid z3; clear z3; obtain ⟨g10, hg10⟩ : ∃ g, w2.heap.size = g := ⟨_, rfl⟩; rw [hg10] at h10; rw [hg10]; have HG10 := Lib.hid hg10; clear hg10; have hB := hB.keep_nil f3; have hR := hR.keep_nil f3)
   | (refine wpList_ldS stLay rfl rfl gB 0 rfl (L.cells v0) rfl hB.range0 ?_)
   | (refine wpList_ldS stA32 rfl rfl gR 0 rfl (bvs root) (by rw [bvs_length, HRL.out]) hR.range0 ?_))
 have F3 := (f1.trans_nil f2).trans_nil f3
 have hg10 : w.heap.size ≤ g10 := by have := HG10.out; have := f1.size; have := f2.size; omega
 refine (CL.out _ F3).mono ?_
 rintro e w4 ⟨rfl, f4⟩
 have F4 := F3.trans_nil f4
 have h10x := h10.keep_nil f4
 clear f1 f2 f3 F3 f4 hB hR h10
 go_wp2_with
  (first
   | (refine wpList_bld rfl rfl (.agg (bvs (zB 32)).toArray) (zeroA _) ?_)
   | (refine wpList_stB stA32 rfl rfl g10 rfl (bvs (zB 32)) rfl rfl (bvs_one _) (bvs (zB 32)) rfl h10x ?_; intro wc hc fc zc; clear zc))
 try simp only [Exit.inBlock, Exit.then]
 refine bodyPost_ret (results_cell2 stA32 rfl rfl rfl hc) rfl ?_
 exact ⟨rfl, F4.trans fc (fun i hi => .inr (by rw [List.mem_singleton.1 hi]; exact hg10))⟩
end
end
section
open Go.RowKit
set_option maxRecDepth 100000
def strV (b : List UInt8) : Value := .string ⟨b.toArray⟩
theorem slStrX : SlT Tryz.prog 122 9 1 16 (.string ByteArray.empty) := ⟨Tryz.underlying122, by kernel_rfl, rfl, by decide, by decide⟩
theorem slXB : SlT Tryz.prog 119 124 2 40 (.agg #[.string ByteArray.empty, .slice none 0 0]) := ⟨Tryz.underlying119, by kernel_rfl, rfl, by decide, by decide⟩
theorem Row.setE {w : World} {B g n c s : Nat} {e : TypeId} {xs : List Value} (h : Row w B e s (.slice (some ⟨g, 0, none⟩) n c) n xs) (k : Nat) (hk : k < n * s) (y : Value) :
  w.cell? ⟨g, k, none⟩ = xs[k]? ∧ w.frozen? ⟨g, k, none⟩ = false ∧ Row (w.setCell ⟨g, k, none⟩ y) B e s (.slice (some ⟨g, 0, none⟩) n c) n (xs.set k y) := by
 rcases h.2 with ⟨e, _⟩ | ⟨g', cap, cur, fz, e, hb, hg, hf, hnc, hcm, hcs, ht⟩
 ·cases e
 ·cases e
  have hkc : k < cur.size := by rw [hcs]; exact Nat.lt_of_lt_of_le hk (Nat.mul_le_mul_right s hnc)
  refine ⟨?_, ?_, ?_⟩
  ·rw [cell_of_row w g k _ _ _ hg, ← ht, List.getElem?_take_of_lt hk, Array.getElem?_toList]
  ·have := hf k hkc
   simp only [World.frozen?, hg]
   simpa using this
  ·refine ⟨by rw [List.length_set]; exact h.1, .inr ⟨g, c, cur.setIfInBounds k y, fz, rfl, hb, ?_, by simpa using hf, hnc, hcm, by simpa using hcs, ?_⟩⟩
   ·simp [World.setCell, Array.getElem?_modify, hg]
   ·rw [Array.toList_setIfInBounds, List.take_set, ht]
def pcells (ps : List (List UInt8 × Value)) : List Value := ps.flatMap fun p => [strV p.1, p.2]
theorem pcells_len (ps : List (List UInt8 × Value)) : (pcells ps).length = ps.length * 2 := by
 induction ps with
 | nil => rfl
 | cons p r ih =>
  have : pcells (p :: r) = [strV p.1, p.2] ++ pcells r := rfl
  rw [this, List.length_append, ih, List.length_cons]
  simp only [List.length_cons, List.length_nil]
  omega
theorem pcells_app (a b : List (List UInt8 × Value)) : pcells (a ++ b) = pcells a ++ pcells b := List.flatMap_append
theorem pcells_0 (ps : List (List UInt8 × Value)) (i : Nat) (h : i < ps.length) : (pcells ps)[i * 2]? = some (strV ps[i].1) ∧ (pcells ps)[i * 2 + 1]? = some ps[i].2 := by
 induction ps generalizing i with
 | nil => cases h
 | cons p r ih =>
  cases i with
  | zero => exact ⟨rfl, rfl⟩
  | succ i =>
   have e : pcells (p :: r) = strV p.1 :: p.2 :: pcells r := rfl
   obtain ⟨h1, h2⟩ := ih i (by simpa using h)
   rw [e]
   refine ⟨?_, ?_⟩
   ·rw [show (i + 1) * 2 = i * 2 + 1 + 1 by omega, List.getElem?_cons_succ, List.getElem?_cons_succ, h1]; rfl
   ·rw [show (i + 1) * 2 + 1 = i * 2 + 1 + 1 + 1 by omega, List.getElem?_cons_succ, List.getElem?_cons_succ, h2]; rfl
theorem pcells_set0 (ps : List (List UInt8 × Value)) (i : Nat) (h : i < ps.length) (s : List UInt8) : (pcells ps).set (i * 2) (strV s) = pcells (ps.set i (s, ps[i].2)) := by
 induction ps generalizing i with
 | nil => cases h
 | cons p r ih =>
  cases i with
  | zero => rfl
  | succ i =>
   have e : pcells (p :: r) = strV p.1 :: p.2 :: pcells r := rfl
   rw [e, show (i + 1) * 2 = i * 2 + 1 + 1 by omega, List.set_cons_succ, List.set_cons_succ, ih i (by simpa using h)]
   rfl
theorem pcells_set1 (ps : List (List UInt8 × Value)) (i : Nat) (h : i < ps.length) (v : Value) : (pcells ps).set (i * 2 + 1) v = pcells (ps.set i (ps[i].1, v)) := by
 induction ps generalizing i with
 | nil => cases h
 | cons p r ih =>
  cases i with
  | zero => rfl
  | succ i =>
   have e : pcells (p :: r) = strV p.1 :: p.2 :: pcells r := rfl
   rw [e, show (i + 1) * 2 + 1 = i * 2 + 1 + 1 + 1 by omega, List.set_cons_succ, List.set_cons_succ, ih i (by simpa using h)]
   rfl
structure XdX where
 g : Nat
 c : Nat
 k : Int
 ps : List (List UInt8 × Value)
structure XdkX (w : World) (p : Nat) (O : List Nat) (D : DkM) (X : XdX) : Prop where
 pO : p ∈ O
 gO : X.g ∈ O
 blk : Blk w p 121 #[.slice (some ⟨X.g, 0, none⟩) D.sure.length X.c, .bool (!(D.calls == -1)), .int .i64 X.k]
 kk : D.calls ≠ -1 → X.k = D.calls
 k64 : -9223372036854775808 ≤ X.k ∧ X.k ≤ 9223372036854775807
 n1 : 1 ≤ D.sure.length ∧ D.sure.length ≤ 4096
 row : Row w 0 124 2 (.slice (some ⟨X.g, 0, none⟩) D.sure.length X.c) D.sure.length (pcells X.ps)
 at_ : ∀ i (h : i < X.ps.length), X.ps[i].1 = D.sureR i ∧ Row w 0 9 1 X.ps[i].2 (D.uns i).length ((D.uns i).map strV) ∧ ∀ g, X.ps[i].2.ownBlock = some g → g ∈ O
 rng : ∀ x, D.uns x ≠ [] → D.is x = true
 ss : ∀ i : Nat, i < D.sure.length → (D.sureR i).length = 512
 su : ∀ x, ∀ b ∈ D.uns x, b.length = 512
 no8 : NoTy w O 5
 lt : ∀ i ∈ O, i < w.heap.size
 calls : -1 ≤ D.calls ∧ D.calls ≤ 9223372036854775807
def Xdk (w : World) (p : Nat) (O : List Nat) (D : DkM) : Prop := ∃ X, XdkX w p O D X
def AftX (w : World) (p : Nat) (O : List Nat) (D' : DkM) (w' : World) : Prop := ∃ O', Xdk w' p O' D' ∧ (∀ i ∈ O', i ∈ O ∨ w.heap.size ≤ i) ∧ Fr O w w'
section
variable {w w' : World} {p : Nat} {O F : List Nat} {D D' : DkM} {X : XdX}
theorem XdkX.len (h : XdkX w p O D X) : X.ps.length = D.sure.length := by
 have := h.row.len; rw [pcells_len] at this; omega
theorem XdkX.pg (h : XdkX w p O D X) : p ≠ X.g := fun e => h.row.ne_blk h.blk (by decide) (by rw [e]; rfl)
theorem XdkX.keep (h : XdkX w p O D X) (f : Fr F w w') (hF : ∀ i ∈ O, i ∉ F) : XdkX w' p O D X :=
 ⟨h.pO, h.gO, h.blk.keep f (hF _ h.pO), h.kk, h.k64, h.n1, h.row.keep f (fun g hg => by simp [Value.ownBlock] at hg; rw [← hg]; exact hF _ h.gO), fun i hi => ⟨(h.at_ i hi).1, (h.at_ i hi).2.1.keep f (fun g hg => hF _ ((h.at_ i hi).2.2 g hg)), (h.at_ i hi).2.2⟩, h.rng, h.ss, h.su, h.no8.keep f (fun i hi => ⟨hF i hi, h.lt i hi⟩), fun i hi => Nat.lt_of_lt_of_le (h.lt i hi) f.size, h.calls⟩
theorem XdkX.keep_nil (h : XdkX w p O D X) (f : Fr [] w w') : XdkX w' p O D X := h.keep f (fun _ _ => by simp)
theorem Xdk.keep (h : Xdk w p O D) (f : Fr F w w') (hF : ∀ i ∈ O, i ∉ F) : Xdk w' p O D := h.imp fun _ h => h.keep f hF
theorem Xdk.keep_nil (h : Xdk w p O D) (f : Fr [] w w') : Xdk w' p O D := h.imp fun _ h => h.keep_nil f
theorem XdkX.eq (h : XdkX w p O D X) (hl : D'.sure.length = D.sure.length) (hs : ∀ i : Nat, i < D.sure.length → D'.sureR i = D.sureR i) (hu : D'.uns = D.uns) (hc : D'.calls = D.calls) : XdkX w p O D' X := by
 have hi : ∀ x, D'.is x = D.is x := fun x => by simp only [DkM.is, hl]
 refine ⟨h.pO, h.gO, by rw [hl, hc]; exact h.blk, by rw [hc]; exact h.kk, h.k64, by rw [hl]; exact h.n1, by rw [hl]; exact h.row, fun i hx => ?_, by rw [hu]; exact fun x hx => (hi x).trans (h.rng x hx), fun i hx => by rw [hs i (by omega)]; exact h.ss i (by omega), by rw [hu]; exact h.su, h.no8, h.lt, by rw [hc]; exact h.calls⟩
 rw [hs i (by rw [← h.len]; exact hx), hu]
 exact h.at_ i hx
theorem Xdk.eq (h : Xdk w p O D) (hl : D'.sure.length = D.sure.length) (hs : ∀ i : Nat, i < D.sure.length → D'.sureR i = D.sureR i) (hu : D'.uns = D.uns) (hc : D'.calls = D.calls) : Xdk w p O D' := h.imp fun _ h => h.eq hl hs hu hc
theorem AftX.same (h : Xdk w p O D) : AftX w p O D w := ⟨O, h, fun _ h => .inl h, Fr.refl _ _⟩
theorem AftX.pre {w0 : World} (f : Fr [] w0 w) (h : AftX w p O D w') : AftX w0 p O D w' := by
 obtain ⟨O', h1, h2, h3⟩ := h
 exact ⟨O', h1, fun i hi => (h2 i hi).imp id (fun h => Nat.le_trans f.size h), (f.mono (by simp)).trans h3 (fun i hi => .inl hi)⟩
theorem AftX.trans {w1 : World} {O1 : List Nat} (f : Fr O w w1) (h1 : ∀ i ∈ O1, i ∈ O ∨ w.heap.size ≤ i) (h : AftX w1 p O1 D w') : AftX w p O D w' := by
 obtain ⟨O', k1, k2, k3⟩ := h
 refine ⟨O', k1, fun i hi => ?_, f.trans k3 (fun i hi => h1 i hi)⟩
 rcases k2 i hi with h | h
 ·exact h1 i h
 ·exact .inr (Nat.le_trans f.size h)
theorem AftX.eq (h : AftX w p O D w') (e : D = D') : AftX w p O D' w' := e ▸ h
theorem XdkX.c0 (h : XdkX w p O D X) : w.cell? ⟨p, 0, none⟩ = some (.slice (some ⟨X.g, 0, none⟩) D.sure.length X.c) := h.blk.cell 0
theorem XdkX.c1 (h : XdkX w p O D X) : w.cell? ⟨p, 1, none⟩ = some (.bool (!(D.calls == -1))) := h.blk.cell 1
theorem XdkX.c2 (h : XdkX w p O D X) : w.cell? ⟨p, 2, none⟩ = some (.int .i64 X.k) := h.blk.cell 2
theorem XdkX.cp (h : XdkX w p O D X) {i : Nat} (hi : i < D.sure.length) : ∃ v, w.cell? ⟨X.g, i * 2, none⟩ = some (strV (D.sureR i)) ∧ w.cell? ⟨X.g, i * 2 + 1, none⟩ = some v ∧ Row w 0 9 1 v (D.uns i).length ((D.uns i).map strV) ∧ ∃ h : i < X.ps.length, X.ps[i].2 = v := by
 have hi' : i < X.ps.length := by rw [h.len]; exact hi
 obtain ⟨h1, h2, -⟩ := h.at_ i hi'
 obtain ⟨p1, p2⟩ := pcells_0 X.ps i hi'
 rw [h1] at p1
 exact ⟨X.ps[i].2, ((h.row.setE (i * 2) (by omega) undef).1).trans p1, ((h.row.setE (i * 2 + 1) (by omega) undef).1).trans p2, h2, hi', rfl⟩
theorem XdkX.setp (h : XdkX w p O D X) (f : Fr [p] w w') (c k : Int) (hc : -1 ≤ c ∧ c ≤ 9223372036854775807) (hk : c ≠ -1 → k = c) (h64 : -9223372036854775808 ≤ k ∧ k ≤ 9223372036854775807) (hb : Blk w' p 121 #[.slice (some ⟨X.g, 0, none⟩) D.sure.length X.c, .bool (!(c == -1)), .int .i64 k]) : XdkX w' p O { D with calls := c } { X with k := k } := by
 have hg : ∀ g, (Value.slice (some ⟨X.g, 0, none⟩) D.sure.length X.c).ownBlock = some g → g ∉ [p] := fun g hg => by
  simp [Value.ownBlock] at hg
  rw [← hg]; simpa using fun e => h.pg e.symm
 refine ⟨h.pO, h.gO, hb, hk, h64, h.n1, h.row.keep f hg, fun i hi => ⟨(h.at_ i hi).1, (h.at_ i hi).2.1.keep f (fun g hg hm => ?_), (h.at_ i hi).2.2⟩, h.rng, h.ss, h.su, fun i hi => ?_, fun i hi => Nat.lt_of_lt_of_le (h.lt i hi) f.size, hc⟩
 ·rw [List.mem_singleton.1 hm] at hg
  exact (h.at_ i hi).2.1.ne_blk h.blk (by decide) hg
 ·intro cs fz hcs
  by_cases e : i = p
  ·rw [e] at hcs
   unfold Blk at hb
   rw [hb] at hcs
   injection hcs with hcs
   injection hcs with _ hcs
   exact absurd hcs (by decide)
  ·rw [f.same i (h.lt i hi) (by simpa using e)] at hcs
   exact h.no8 i hi cs fz hcs
theorem xdOff_any (h : Xdk w p O D) : Calls Tryz.prog 168 #[.pointer (some ⟨p, 0, none⟩)] w fun e w' => e = .returned (.bool D.off) ∧ w = w' := by
 obtain ⟨X, h⟩ := h
 have c1 := h.c1
 have c2 := h.c2
 have kk := h.kk
 by_cases hc : D.calls = -1
 ·have HO := Lib.hid (show D.off = false by rw [DkM.off, hc]; rfl)
  rw [hc] at c1
  replace c1 : w.cell? ⟨p, 1, none⟩ = some (.bool false) := c1
  clear h kk hc
  go_enter Tryz.func168, Tryz.ntmps168
  go_wp2_with fail
  go_ret
  exact ⟨by rw [HO.out]; rfl, rfl⟩
 ·rw [kk hc] at c2
  have hb : (!(D.calls == -1)) = true := by simpa using hc
  rw [hb] at c1
  unfold DkM.off
  clear h kk hb hc
  go_enter Tryz.func168, Tryz.ntmps168
  go_wp2_with fail
  go_ret
  exact ⟨rfl, rfl⟩
end
end
section
open Go.RowKit
set_option maxRecDepth 100000
def DkM.hasR (D : DkM) (x : Int) : List UInt8 := match (D.uns x).getLast? with | some b => b | none => D.sureR x
section
variable {w w' : World} {p : Nat} {O : List Nat} {D : DkM} {X : XdX}
theorem XdkX.hO (h : XdkX w p O D X) : ∀ i ∈ [p], i ∈ O := by simp [h.pO]
theorem xdDid_any (h : Xdk w p O D) (ho : D.off = false) : Calls Tryz.prog 169 #[.pointer (some ⟨p, 0, none⟩)] w fun e w' => e = .returned (.int .i64 0) ∧ AftX w p O D.dec w' := by
 obtain ⟨X, h⟩ := h
 have c1 := h.c1
 have c2 := h.c2
 have kk := h.kk
 have hcl := h.calls
 by_cases hc : D.calls = -1
 ·have HO := Lib.hid (show D.dec = D by obtain ⟨a, b, c⟩ := D; simp only at hc; subst hc; rfl)
  rw [hc] at c1
  replace c1 : w.cell? ⟨p, 1, none⟩ = some (.bool false) := c1
  have HH := Lib.hid h
  clear h kk hc ho
  go_enter Tryz.func169, Tryz.ntmps169
  go_wp2_with fail
  go_ret
  exact ⟨rfl, by rw [HO.out]; exact AftX.same ⟨X, HH.out⟩⟩
 ·rw [kk hc] at c2
  have hb : (!(D.calls == -1)) = true := by simpa using hc
  have hp : 1 ≤ D.calls := by
   have : D.calls ≠ 0 := by simpa [DkM.off] using ho
   omega
  have z2 := h.blk.frozen 2
  have kb := h.blk.set_ 2 (.int .i64 (D.calls - 1))
  have f : Fr [p] w (w.setCell ⟨p, 2, none⟩ (.int .i64 (D.calls - 1))) := (Fr.refl [p] w).setCell (.inl (by simp)) _
  have hS := h.setp f (D.calls - 1) (D.calls - 1) (by omega) (fun _ => rfl) (by omega) (by
   have e : (!(D.calls - 1 == -1)) = true := by
    have : D.calls - 1 ≠ -1 := by omega
    simpa using this
   have e2 : (!(D.calls == -1)) = true := hb
   rw [e]
   rw [e2] at kb
   exact kb)
  have HD := Lib.hid (show D.dec = { D with calls := D.calls - 1 } by rw [DkM.dec, if_pos (by omega)])
  have HS := Lib.hid (And.intro hS (And.intro f h))
  rw [hb] at c1
  clear h kk hb hc hS f kb ho
  go_enter Tryz.func169, Tryz.ntmps169
  go_wp2_with fail
  go_ret
  exact ⟨rfl, by rw [HD.out]; exact ⟨O, ⟨_, HS.out.1⟩, fun i hi => .inl hi, HS.out.2.1.mono HS.out.2.2.hO⟩⟩
theorem xdMay_any (h : Xdk w p O D) (x : Int) (A : Option Addr) (n c : Nat) : Calls Tryz.prog 69 #[.pointer (some ⟨p, 0, none⟩), .int .i64 x, .slice A n c] w fun e w' => e = .returned (.int .i64 (D.mayE x n)) ∧ w = w' := by
 obtain ⟨X, h⟩ := h
 have c0 := h.c0
 clear h
 by_cases h1 : x < 0
 ·have HE := Lib.hid (show D.mayE x n = 100 by
   have : D.is x = false := by rw [← Bool.not_eq_true, DkM.is_iff]; omega
   rw [DkM.mayE, if_pos this])
  have d1 : decide (x < 0) = true := by simpa using h1
  go_enter Tryz.func69, Tryz.ntmps69
  go_wp2_with fail
  go_ret
  exact ⟨by rw [HE.out]; rfl, rfl⟩
 have d1 : decide (x < 0) = false := by simpa using h1
 by_cases h2 : x < D.sure.length
 ·have hi : D.is x = true := DkM.is_iff.2 ⟨by omega, h2⟩
  have d2 : decide (x ≥ D.sure.length) = false := by simpa using h2
  by_cases h3 : n = 512
  ·have HE := Lib.hid (show D.mayE x n = 0 by rw [DkM.mayE, hi, if_neg (by decide), if_neg (by simpa using h3)])
   subst h3
   clear hi
   go_enter Tryz.func69, Tryz.ntmps69
   go_wp2_with fail
   go_ret
   exact ⟨by rw [HE.out]; rfl, rfl⟩
  ·have HE := Lib.hid (show D.mayE x n = 101 by rw [DkM.mayE, hi, if_neg (by decide), if_pos (by simpa using h3)])
   have d3 : (((n : Int)) != 512) = true := by simp; omega
   clear hi
   go_enter Tryz.func69, Tryz.ntmps69
   go_wp2_with fail
   go_ret
   exact ⟨by rw [HE.out]; rfl, rfl⟩
 ·have HE := Lib.hid (show D.mayE x n = 100 by
   have : D.is x = false := by rw [← Bool.not_eq_true, DkM.is_iff]; omega
   rw [DkM.mayE, if_pos this])
  have d2 : decide (x ≥ D.sure.length) = true := by simpa using h2
  go_enter Tryz.func69, Tryz.ntmps69
  go_wp2_with fail
  go_ret
  exact ⟨by rw [HE.out]; rfl, rfl⟩
theorem xdHas_any (h : Xdk w p O D) {i : Nat} (hi : i < D.sure.length) : Calls Tryz.prog 170 #[.pointer (some ⟨p, 0, none⟩), .int .i64 i] w fun e w' => e = .returned (strV (D.hasR i)) ∧ Fr [] w w' := by
 obtain ⟨X, h⟩ := h
 have c0 := h.c0
 obtain ⟨v, q0, q1, r, -⟩ := h.cp hi
 have hn := h.n1.2
 have hlt := h.lt _ h.gO
 clear h
 obtain ⟨L, hL⟩ : ∃ L, D.uns i = L := ⟨_, rfl⟩
 have hH : D.hasR i = match L.getLast? with | some b => b | none => D.sureR i := by rw [DkM.hasR, hL]
 rw [hL] at r
 obtain ⟨S, hS⟩ : ∃ S : ByteArray, (⟨(D.sureR i).toArray⟩ : ByteArray) = S := ⟨_, rfl⟩
 rw [show strV (D.sureR i) = .string S from congrArg Value.string hS] at q0
 obtain ⟨N, hN⟩ : ∃ N, D.sure.length = N := ⟨_, rfl⟩
 rw [hN] at hi hn c0
 have di : (i : Int) < N := by omega
 clear hN
 rcases List.eq_nil_or_concat L with e | ⟨L', b, e⟩
 ·subst e
  have HH := Lib.hid (show strV (D.hasR i) = .string S by rw [hH]; exact congrArg Value.string hS)
  obtain ⟨A, c, rfl, -, -, -, -, -⟩ := r.shape
  clear r hH hL hS
  go_enter Tryz.func170, Tryz.ntmps170
  go_wp2_with fail
  go_ret
  exact ⟨by rw [HH.out]; rfl, by first | exact (Fr.refl _ _).alloc _ | exact ((Fr.refl _ _).alloc _).trans (Fr.refl _ _) (by simp)⟩
 ·rw [List.concat_eq_append] at e
  subst e
  have hl2 : (L' ++ [b]).getLast? = some b := by simp
  rw [hl2] at hH
  obtain ⟨S2, hS2⟩ : ∃ S : ByteArray, (⟨b.toArray⟩ : ByteArray) = S := ⟨_, rfl⟩
  have HH := Lib.hid (show strV (D.hasR i) = .string S2 by rw [hH]; exact congrArg Value.string hS2)
  have hcap : (L' ++ [b]).length ≤ 9223372036854775807 := by obtain ⟨_, _, _, h1, h2, -⟩ := r.shape; unfold maxLen at h2; omega
  obtain ⟨m, hm⟩ : ∃ m, L'.length = m := ⟨_, rfl⟩
  have hlen : (L' ++ [b]).length = m + 1 := by simp [hm]
  obtain ⟨g, c, rfl⟩ := r.hdD (by omega)
  obtain ⟨g', o', e', hc⟩ := r.rdD.1 (by simp)
  cases e'
  have hgl : g < w.heap.size := (r.lt g rfl).2
  have cn := hc m (.string S2) (by rw [List.map_append, List.getElem?_append_right (by simp [hm])]; simp [hm, strV, hS2])
  rw [Nat.zero_add] at cn
  rw [hlen] at q1 hcap
  clear r hH hL hS hc hl2 hm hlen hS2
  have UM : IntKind.i64.wrap (((m + 1 : Nat) : Int) - 1) = m := by rw [show (((m + 1 : Nat) : Int) - 1) = m by omega]; exact IntWalk.i64_in _ (by omega)
  have KM : (m : Int) < ((m + 1 : Nat) : Int) := by omega
  have KP : 0 < m + 1 := by omega
  go_enter Tryz.func170, Tryz.ntmps170
  go_wp2_with fail
  go_ret
  exact ⟨by rw [HH.out]; rfl, by first | exact (Fr.refl _ _).alloc _ | exact ((Fr.refl _ _).alloc _).trans (Fr.refl _ _) (by simp)⟩
end
end
section
open Go.RowKit
set_option maxRecDepth 100000
theorem row_strX (W : World) (b : List UInt8) {B : Nat} (hB : B ≤ W.heap.size) : Row (W.alloc (.cells #[strV b] 9)) B 9 1 (.slice (some ⟨W.heap.size, 0, none⟩) 1 1) 1 ([b].map strV) :=
 Row.new W #[strV b] 9 1 1 (0, 0) (free_zero _) (by unfold maxLen; omega) rfl hB
theorem mem_nilO {i n c : Nat} {O : List Nat} (h : i ∈ (Value.slice none n c).ownBlock.toList ++ O) : i ∈ O := (List.mem_append.1 h).elim (fun h => (own_nil.1 h).elim) id
theorem conv_bytes {P : Program} {t d e : TypeId} {u : TypeDesc} (ht : P.underlying t = some u) (hd : P.underlying d = some (.slice e)) (he : P.underlying e = some (.int .u8)) (w : World) (l : List UInt8) (hl : l.length ≤ maxLen) :
  ∃ c w', (convert t d (.string ⟨l.toArray⟩)).run P w = .ok (.slice (some ⟨w.heap.size, 0, none⟩) l.length c) w' ∧ Row w' w.heap.size e 1 (.slice (some ⟨w.heap.size, 0, none⟩) l.length c) l.length (bvs l) ∧ Fr [] w w' := by
 have h := Lib.run_convert_string_bytes w t d e ⟨l.toArray⟩ ht hd he
 have hs : (⟨l.toArray⟩ : ByteArray).size = l.length := by simp [ByteArray.size]
 rw [hs] at h
 have hge := grownCap_ge w l.length 0 e
 have hle := grownCap_le_maxLen w l.length 0 e hl
 have hcs : (Lib.bytesCells w e ⟨l.toArray⟩).size = grownCap w l.length 0 e := by
  simp [Lib.bytesCells, hs]; omega
 refine ⟨_, _, h, ⟨by simp [bvs], .inr ⟨_, _, _, _, rfl, Nat.le_refl _, Lib.bytesWorld_at_new w e _, free_end _ _, hge, hle, by rw [hcs, Nat.mul_one], ?_⟩⟩, ?_⟩
 ·simp [Lib.bytesCells, bvs]
  exact fun a _ => rfl
 ·exact ⟨rfl, rfl, rfl, by rw [Lib.bytesWorld_size]; omega, fun k hk _ => Lib.bytesWorld_at_old w e _ k hk⟩
theorem DkM.hasR_len {D : DkM} (hss : ∀ i : Nat, i < D.sure.length → (D.sureR i).length = 512) (hsu : ∀ x, ∀ b ∈ D.uns x, b.length = 512) {i : Nat} (hi : i < D.sure.length) : (D.hasR i).length = 512 := by
 rw [DkM.hasR]
 cases h : (D.uns i).getLast? with
 | none => exact hss i hi
 | some b => exact hsu _ b (List.mem_of_getLast? h)
section
variable {w w' : World} {p : Nat} {O : List Nat} {D D' : DkM} {X : XdX}
theorem XdkX.put (h : XdkX w p O D X) {i : Nat} (hi : i < D.sure.length) {s : List UInt8} {L : List (List UInt8)} {v : Value} (hl : D'.sure.length = D.sure.length) (hs : ∀ j : Nat, j < D.sure.length → D'.sureR j = if j = i then s else D.sureR j)
  (hu : ∀ x, D'.uns x = if x = (i : Int) then L else D.uns x) (h5 : s.length = 512 ∧ ∀ b ∈ L, b.length = 512) (hc : D'.calls = D.calls) (f : Fr [X.g] w w') (row : Row w' 0 124 2 (.slice (some ⟨X.g, 0, none⟩) D.sure.length X.c) D.sure.length (pcells (X.ps.set i (s, v)))) (rv : Row w' 0 9 1 v L.length (L.map strV)) :
  XdkX w' p (v.ownBlock.toList ++ O) D' { X with ps := X.ps.set i (s, v) } := by
 have hix : ∀ x, D'.is x = D.is x := fun x => by simp only [DkM.is, hl]
 have hpl := h.len
 refine ⟨List.mem_append_right _ h.pO, List.mem_append_right _ h.gO, ?_, by rw [hc]; exact h.kk, h.k64, by rw [hl]; exact h.n1, by rw [hl]; exact row, fun j hj => ?_, fun x hx => ?_, fun j hj => ?_, fun x b hb => ?_, fun k hk => ?_, fun k hk => ?_, by rw [hc]; exact h.calls⟩
 ·rw [hl, hc]
  exact h.blk.keep f (by simpa using h.pg)
 ·have hj' : j < X.ps.length := by simpa using hj
  have hjn : j < D.sure.length := by omega
  show (X.ps.set i (s, v))[j].1 = _ ∧ Row _ _ _ _ (X.ps.set i (s, v))[j].2 _ _ ∧ ∀ g, (X.ps.set i (s, v))[j].2.ownBlock = some g → _
  rw [hs j hjn, hu]
  by_cases e : j = i
  ·subst e
   simp only [List.getElem_set_self, if_true]
   exact ⟨trivial, rv, fun g hg => List.mem_append_left _ (mem_own.2 hg)⟩
  ·simp only [List.getElem_set_ne (Ne.symm e)]
   rw [if_neg e, if_neg (by omega)]
   obtain ⟨h1, h2, h3⟩ := h.at_ j hj'
   exact ⟨h1, h2.keep f (fun g hg hm => by rw [List.mem_singleton.1 hm] at hg; exact h2.ne_rowD h.row (by decide) _ hg rfl), fun g hg => List.mem_append_right _ (h3 g hg)⟩
 ·rw [hix]
  rw [hu] at hx
  by_cases e : x = (i : Int)
  ·subst e; exact DkM.is_iff.2 ⟨by omega, by omega⟩
  ·rw [if_neg e] at hx; exact h.rng x hx
 ·rw [hs j (by omega)]
  split
  ·exact h5.1
  ·exact h.ss j (by omega)
 ·rw [hu] at hb
  split at hb
  ·exact h5.2 b hb
  ·exact h.su x b hb
 ·rcases List.mem_append.1 hk with hk | hk
  ·exact rv.noTy (by decide) k hk
  ·intro cs fz hcs
   by_cases e : k = X.g
   ·subst e
    exact row.noTy (e := 124) (d := 5) (by decide) _ (own_mem.2 rfl) cs fz hcs
   ·rw [f.same k (h.lt k hk) (by simpa using e)] at hcs
    exact h.no8 k hk cs fz hcs
 ·rcases List.mem_append.1 hk with hk | hk
  ·exact (rv.lt k (mem_own.1 hk)).2
  ·exact Nat.lt_of_lt_of_le (h.lt k hk) f.size
theorem DkM.readR_has {x : Int} (hx : D.is x = true) (ho : D.off = false) : D.readR x = D.hasR x := by rw [DkM.readR, hx, ho]; rfl
theorem xdRead_any (h : Xdk w p O D) (x : Int) : Calls Tryz.prog 121 #[.pointer (some ⟨p, 0, none⟩), .int .i64 x] w (ReadC w (D.readR x) (D.readE x)) := by
 have hof := xdOff_any h
 have hh := h
 obtain ⟨X, h⟩ := h
 have c0 := h.c0
 have hss := h.ss
 have hsu := h.su
 clear h
 by_cases hi : D.is x = true
 ·obtain ⟨h1, h2⟩ := DkM.is_iff.1 hi
  obtain ⟨i, rfl⟩ : ∃ i : Nat, x = i := ⟨x.toNat, by omega⟩
  have d1 : decide ((i : Int) < 0) = false := by simp
  have d2 : decide (D.sure.length ≤ i) = false := by simp; omega
  have cH := xdHas_any hh (i := i) (by omega)
  cases hf : D.off
  ·rw [hf] at hof
   have HE := Lib.hid (show D.readE i = 0 by rw [DkM.readE, hi, hf]; rfl)
   have HR := Lib.hid (DkM.readR_has hi hf)
   obtain ⟨R, hR⟩ : ∃ R, D.hasR i = R := ⟨_, rfl⟩
   have HRR := Lib.hid hR
   have HL5 := Lib.hid (show R.length = 512 by rw [← hR]; exact DkM.hasR_len hss hsu (by omega))
   rw [hR] at cH
   obtain ⟨S, hS⟩ : ∃ S : ByteArray, (⟨R.toArray⟩ : ByteArray) = S := ⟨_, rfl⟩
   rw [show strV R = .string S from congrArg Value.string hS] at cH
   have HS := Lib.hid hS
   clear hi hf hR hS h1 h2 hss hsu
   go_enter Tryz.func121, Tryz.ntmps121
   go_wp2_with fail
   refine hof.mono ?_
   rintro e w1 ⟨rfl, rfl⟩
   go_wp2_with fail
   refine cH.mono ?_
   rintro e w1 ⟨rfl, f1⟩
   have hl : R.length ≤ maxLen := by rw [HL5.out]; unfold maxLen; omega
   obtain ⟨c2, w2, hcv, r2, f2⟩ := conv_bytes Tryz.underlying9 Tryz.underlying27 Tryz.underlying5 w1 R hl
   rw [HS.out] at hcv
   clear hl
   go_wp2_with fail
   go_ret2
   exact ⟨_, by rw [HE.out]; rfl, by rw [HR.out, HRR.out]; exact r2.mono f1.size, f1.trans_nil f2⟩
  ·rw [hf] at hof
   have HE := Lib.hid (show D.readE i = 102 by rw [DkM.readE, hi, hf]; rfl)
   have HR := Lib.hid (show D.readR i = [] by rw [DkM.readR, hi, hf]; rfl)
   clear hi hf h1 h2 cH hss hsu
   go_enter Tryz.func121, Tryz.ntmps121
   go_wp2_with fail
   refine hof.mono ?_
   rintro e w1 ⟨rfl, rfl⟩
   go_wp2_with fail
   go_ret2
   exact ⟨_, by rw [HE.out]; rfl, by rw [HR.out]; exact Row.nil _ _ _ _, Fr.refl _ _⟩
 ·have hi' : D.is x = false := by simpa using hi
  have HE := Lib.hid (show D.readE x = 100 by rw [DkM.readE, if_pos hi'])
  have HR := Lib.hid (show D.readR x = [] by rw [DkM.readR, if_pos hi'])
  have hx : x < 0 ∨ ¬ x < 0 ∧ (D.sure.length : Int) ≤ x := by
   rw [DkM.is_iff] at hi; omega
  clear hi hi' hof hss hsu
  rcases hx with h1 | ⟨h1, h2⟩
  ·have d1 : decide (x < 0) = true := by simpa using h1
   go_enter Tryz.func121, Tryz.ntmps121
   go_wp2_with fail
   go_ret2
   exact ⟨_, by rw [HE.out]; rfl, by rw [HR.out]; exact Row.nil _ _ _ _, Fr.refl _ _⟩
  ·have d1 : decide (x < 0) = false := by simpa using h1
   have d2 : decide (x ≥ D.sure.length) = true := by simpa using h2
   go_enter Tryz.func121, Tryz.ntmps121
   go_wp2_with fail
   go_ret2
   exact ⟨_, by rw [HE.out]; rfl, by rw [HR.out]; exact Row.nil _ _ _ _, Fr.refl _ _⟩
end
end
end Go.Proofs.YtbanogfljpkbkaaGreatDoor
