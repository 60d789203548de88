/-
  Texts of this claim, one behind the other: MerQ, HeadH, HeadI, HeadL, MerE.
-/
import Derived.Test.YtbanogfljpkbkaaGreatDoorF38
import Derived.Test.YtbanogfljpkbkaaGreatDoorF34
import Derived.Test.YtbanogfljpkbkaaGreatDoorF25
import Derived.Test.YtbanogfljpkbkaaGreatDoorF18
import Derived.Test.YtbanogfljpkbkaaGreatDoorF39
import Derived.Test.YtbanogfljpkbkaaGreatDoorF20
set_option linter.unusedSimpArgs false
set_option linter.unusedVariables false
set_option linter.unnecessarySimpa false
namespace Go.Proofs.YtbanogfljpkbkaaGreatDoor
section
def tamK (D : DkM) (a : Nat) (nl : List (List UInt8)) : Nat → DkM
 | 0 => D
 | q + 1 => (tamK D a nl q).tamper ((a + q : Nat) : Int) (nl.getD q [])
section
variable {D : DkM} {n a : Nat} {nl : List (List UInt8)}
theorem On.tam (h : On D n) {x : Nat} {b : List UInt8} (hx : x < n) (hb : b.length = 512) :
  D.mayE x 512 = 0 ∧ On (D.tamper x b) n ∧ (∀ y : Int, (D.tamper x b).readR y = if y = x then b else D.readR y) ∧ ∀ y, ((D.tamper x b).uns y).length ≤ (D.uns y).length := by
 have his : D.is x = true := h.is.2 ⟨by omega, by omega⟩
 have hm : D.mayE x 512 = 0 := by rw [DkM.mayE, his]; rfl
 have ht : D.tamper x b = { D with sure := D.sure.set x (some b), uns := fun y => if y = x then [] else D.uns y } := by
  rw [DkM.tamper, hb, hm, if_neg (by simp), Int.toNat_natCast]
 have hon : On (D.tamper x b) n := by rw [ht]; exact ⟨h.calls, by rw [List.length_set]; exact h.len⟩
 refine ⟨hm, hon, fun y => ?_, fun y => ?_⟩
 ·have hisy : (D.tamper x b).is y = D.is y := by
   rw [DkM.is, DkM.is, hon.len, h.len]
  have hoff : (D.tamper x b).off = false := hon.off
  rw [DkM.readR, hisy, hoff, DkM.readR, h.off]
  by_cases e : y = x
  ·subst e
   rw [his, if_neg (by simp), if_neg (by simp), if_pos rfl]
   have hu : (D.tamper x b).uns x = [] := by rw [ht]; exact if_pos rfl
   rw [hu]
   show (D.tamper x b).sureR x = b
   rw [DkM.sureR, hisy, his, if_pos rfl, Int.toNat_natCast, ht]
   show ((D.sure.set x (some b)).getD x none).getD zB512 = b
   rw [List.getD_eq_getElem?_getD, List.getElem?_set_self (by rw [h.len]; exact hx)]
   rfl
  ·rw [if_neg e]
   cases hy : D.is y with
   | false => rfl
   | true =>
    have hu : (D.tamper x b).uns y = D.uns y := by rw [ht]; exact if_neg e
    have hyy := h.is.1 hy
    have hs : (D.tamper x b).sureR y = D.sureR y := by
     rw [DkM.sureR, DkM.sureR, hisy, ht]
     show (if D.is y = true then ((D.sure.set x (some b)).getD y.toNat none).getD zB512 else []) = _
     rw [List.getD_eq_getElem?_getD, List.getElem?_set_ne (by omega), ← List.getD_eq_getElem?_getD]
    rw [hu, hs]
 ·rw [ht]
  show (if y = x then [] else D.uns y).length ≤ _
  split
  ·exact Nat.zero_le _
  ·exact Nat.le_refl _
theorem tamK_on (h : On D n) (ha : a + nl.length ≤ n) (h5 : ∀ b ∈ nl, b.length = 512) : ∀ q, q ≤ nl.length → On (tamK D a nl q) n ∧ (∀ y : Int, (tamK D a nl q).readR y = if (a : Int) ≤ y ∧ y < ((a + q : Nat) : Int) then nl.getD (y - a).toNat [] else D.readR y) ∧ ∀ y, ((tamK D a nl q).uns y).length ≤ (D.uns y).length
 | 0, _ => ⟨h, fun y => by rw [if_neg (by omega)]; rfl, fun y => Nat.le_refl _⟩
 | q + 1, hq => by
  obtain ⟨h1, h2, h3⟩ := tamK_on h ha h5 q (by omega)
  have hb : (nl.getD q []).length = 512 := by
   rw [List.getD_eq_getElem?_getD, List.getElem?_eq_getElem (by omega)]
   exact h5 _ (List.getElem_mem _)
  obtain ⟨-, k1, k2, k3⟩ := h1.tam (x := a + q) (by omega) hb
  refine ⟨k1, fun y => ?_, fun y => Nat.le_trans (k3 y) (h3 y)⟩
  show ((tamK D a nl q).tamper ((a + q : Nat) : Int) (nl.getD q [])).readR y = _
  rw [k2, h2]
  by_cases e : y = ((a + q : Nat) : Int)
  ·rw [if_pos e, if_pos (by omega), e, show (((a + q : Nat) : Int) - a).toNat = q by omega]
  ·rw [if_neg e]
   by_cases e2 : (a : Int) ≤ y ∧ y < ((a + q : Nat) : Int)
   ·rw [if_pos e2, if_pos (by omega)]
   ·rw [if_neg e2, if_neg (by omega)]
end
def lyB (s : Nat) : LyM := ⟨2, 3, 4, 5, 45, levsN (tagsN s), 45 + sumL (levsN (tagsN s)), 45 + sumL (levsN (tagsN s)) + tagsN s, 45 + sumL (levsN (tagsN s)) + tagsN s + s⟩
def nodesB (s : Nat) : List (List UInt8) := (bldN (fresh (tagsN s))).flatten
def dB1 (s : Nat) : DkM := (mkE (newD (lyB s).blocks) 5 1).2
def dB2 (s : Nat) : DkM := tamK (dB1 s) 45 (nodesB s) (nodesB s).length
def mB (s : Nat) : StM := ⟨⟨dB2 s, openJ 5 40 1 0, fun _ => none⟩, []⟩
theorem sumL_B (s : Nat) (hs : 1 ≤ s ∧ s ≤ 1024) : sumL (levsN (tagsN s)) ≤ 9 ∧ 1 ≤ sumL (levsN (tagsN s)) := by
 have := upN_b (tagsN_b hs)
 rw [sumL_levs]
 split <;> omega
theorem lyB_w (s : Nat) (hs : 1 ≤ s ∧ s ≤ 1024) : (lyB s).blocks ≤ 1206 ∧ 48 ≤ (lyB s).blocks := by
 have := sumL_B s hs
 have := tagsN_b hs
 show 45 + sumL (levsN (tagsN s)) + tagsN s + s ≤ 1206 ∧ 48 ≤ 45 + sumL (levsN (tagsN s)) + tagsN s + s
 omega
theorem bldN_fr (n : Nat) (hn : 1 ≤ n ∧ n ≤ 128) : (bldN (fresh n)).flatten.length = sumL (levsN n) ∧ (∀ b ∈ (bldN (fresh n)).flatten, b.length = 512) ∧ (∀ k, k < upN n → (bldN (fresh n)).flatten.getD k [] = (lev1 (fresh n)).getD k []) ∧ (upN n ≠ 1 → (bldN (fresh n)).flatten.getD (upN n) [] = topB (fresh n)) := by
 have h32 := fresh_32 n
 have hl := fresh_len n
 have h1 := lev1_len (fresh n)
 rw [hl] at h1
 rw [bldN, topB, hl, sumL_levs]
 by_cases h : upN n = 1
 ·rw [if_pos h, if_pos h, if_pos h]
  simp only [List.flatten_cons, List.flatten_nil, List.append_nil]
  exact ⟨by omega, lev1_512 h32, fun _ _ => trivial, fun hh => absurd h hh⟩
 ·rw [if_neg h, if_neg h, if_neg h]
  simp only [List.flatten_cons, List.flatten_nil, List.append_nil]
  have h2 : (lev1 ((lev1 (fresh n)).map (nodeH 0))).length = 1 := by rw [lev1_len, List.length_map, h1]; exact upup hn
  refine ⟨by rw [List.length_append, h1, h2], fun b hb => ?_, fun k hk => ?_, fun _ => ?_⟩
  ·rcases List.mem_append.1 hb with hb | hb
   ·exact lev1_512 h32 b hb
   ·exact lev1_512 (map_node _) b hb
  ·rw [List.getD_eq_getElem?_getD, List.getElem?_append_left (by omega), ← List.getD_eq_getElem?_getD]
  ·rw [List.getD_eq_getElem?_getD, List.getElem?_append_right (by omega), h1, Nat.sub_self, ← List.getD_eq_getElem?_getD]
structure BegF (s : Nat) : Prop where
 n : 48 ≤ (lyB s).blocks ∧ (lyB s).blocks ≤ 1206
 r0 : jRight (newD (lyB s).blocks) 5 40 = true
 e0 : (mkE (newD (lyB s).blocks) 5 1).1 = 0
 on1 : On (dB1 s) (lyB s).blocks
 l5 : ∀ b ∈ nodesB s, b.length = 512
 ln : 45 + (nodesB s).length ≤ (lyB s).blocks
 on2 : On (dB2 s) (lyB s).blocks
 r2 : jRight (dB2 s) 5 40 = true
 m2 : rmV ((dB2 s).readR 5) = some 1
 sc : scanA (dB2 s) 5 40 1 = ([], 0, 1)
 tr : ∀ b ∈ areaK (dB2 s) (openJ 5 40 0 0) (((40 : Int)).toNat - 1), b = zB512
 g : StG (lyB s).blocks (mB s)
 tri : TrI (mB s) 45 (List.replicate (tagsN s) zB512)
 uns : ∀ x, ((dB2 s).uns x).length ≤ 2
theorem begF (s : Nat) (hs : 1 ≤ s ∧ s ≤ 1024) : BegF s := by
 have hn := lyB_w s hs
 have hT := tagsN_b hs
 have hS := sumL_B s hs
 obtain ⟨f1, f2, f3, f4⟩ := bldN_fr (tagsN s) hT
 have hNe : (lyB s).blocks = 45 + sumL (levsN (tagsN s)) + tagsN s + s := rfl
 obtain ⟨k1, k2, k3, -⟩ := mkE_ok (On.new (lyB s).blocks) (x := 5) (by omega) (by omega) (m := 1) (by decide)
 have k2 : On (dB1 s) (lyB s).blocks := k2
 have k3 : ∀ y, (dB1 s).readR y = if y = 5 then markB 1 else (newD (lyB s).blocks).readR y := k3
 have hun : ∀ x, ((dB1 s).uns x).length ≤ 2 := fun x => by have := mkE_uns (newD (lyB s).blocks) 5 1 x; have e : ((newD (lyB s).blocks).uns x).length = 0 := rfl; have e2 : (dB1 s).uns x = (mkE (newD (lyB s).blocks) 5 1).2.uns x := rfl; rw [e2]; omega
 have hnl : (nodesB s).length = sumL (levsN (tagsN s)) := f1
 have hln : 45 + (nodesB s).length ≤ (lyB s).blocks := by omega
 obtain ⟨t1, t2, t3⟩ := tamK_on k2 hln f2 (nodesB s).length (Nat.le_refl _)
 have t1 : On (dB2 s) (lyB s).blocks := t1
 have t2 : ∀ y : Int, (dB2 s).readR y = if ((45 : Nat) : Int) ≤ y ∧ y < ((45 + (nodesB s).length : Nat) : Int) then (nodesB s).getD (y - (45 : Nat)).toNat [] else (dB1 s).readR y := t2
 have hz : ∀ x : Int, 5 < x → x < ((lyB s).blocks : Int) → (x < 45 ∨ ((45 + (nodesB s).length : Nat) : Int) ≤ x) → (dB2 s).readR x = zB512 := fun x h0 h1 h2 => by
  rw [t2, if_neg (by omega), k3, if_neg (by omega)]
  exact (On.new_read (lyB s).blocks (by omega) (by omega)).1
 have hjr : ∀ D, On D (lyB s).blocks → jRight D 5 40 = true := fun D h => by
  rw [jRight, h.len]
  simp only [Bool.and_eq_true, decide_eq_true_eq]
  omega
 have hm : rmV ((dB2 s).readR 5) = some 1 := by rw [t2, if_neg (by omega), k3, if_pos rfl]; exact rmV_mark (by decide) (by decide)
 have htr : ∀ b ∈ areaK (dB2 s) (openJ 5 40 0 0) (((40 : Int)).toNat - 1), b = zB512 := by
  intro b hb
  obtain ⟨i, hi, rfl⟩ := List.mem_map.1 hb
  have hi2 : i < 39 := List.mem_range.1 hi
  show (dB2 s).readR (5 + 1 + ((i : Nat) : Int)) = zB512
  exact hz _ (by omega) (by omega) (by omega)
 have hg : CaG (lyB s).blocks (mB s).C := ⟨t1, by omega, ⟨by show (16 : Int) ≤ 40; decide, by show (40 : Int) ≤ 256; decide⟩, ⟨by show (0 : Int) ≤ 5; decide, by show (5 : Int) + 40 ≤ _; omega⟩, ⟨Int.le_refl _, by show (0 : Int) + 1 ≤ 40; decide⟩, rfl, by show 1 ≠ 0; decide, by show 1 < 9223372036854775808; decide, fun x l h => (by cases h), fun _ _ x => rfl⟩
 have hrd : ∀ x : Int, rdS (mB s) x = (dB2 s).readR x := fun x => rfl
 refine ⟨⟨hn.2, hn.1⟩, hjr _ (On.new _), k1, k2, f2, hln, t1, hjr _ t1, hm, ?_, htr, ⟨hg, List.Pairwise.nil, fun p hp => by cases hp⟩, ⟨fun k hk => ?_, fun hh => ?_, fun i hi => ?_⟩, fun x => Nat.le_trans (t3 x) (hun x)⟩
 ·rw [scanA]; exact scanJ_no (trV_zero htr)
 ·rw [List.length_replicate] at hk
  rw [hrd, t2, if_pos (by rw [hnl, sumL_levs]; split <;> omega), fresh_map, show (((45 + k : Nat) : Int) - ((45 : Nat) : Int)).toNat = k by omega]
  exact f3 k hk
 ·rw [List.length_replicate] at hh ⊢
  rw [hrd, t2, if_pos (by rw [hnl, sumL_levs, if_neg hh]; omega), fresh_map, show (((45 + upN (tagsN s) : Nat) : Int) - ((45 : Nat) : Int)).toNat = upN (tagsN s) by omega]
  exact f4 hh
 ·have hi' : i < tagsN s := by rwa [List.length_replicate] at hi
  rw [List.getElem_replicate, hrd, List.length_replicate]
  exact hz _ (by omega) (by omega) (by omega)
end
section
open Go.RowKit
end
section
open Go.RowKit
end
section
open Go.RowKit
end
section
open Go.RowKit
set_option maxRecDepth 100000
structure LeafOk (M : StM) (L : LyM) (i : Nat) : Prop where
 pe : ∀ x ∈ plcL L.tree L.lev i, rdSE M (x : Int) = 0
 p5 : ∀ x ∈ plcL L.tree L.lev i, (rdS M (x : Int)).length = 512
 te : rdSE M ((L.tags + i : Nat) : Int) = 0
 t5 : (rdS M ((L.tags + i : Nat) : Int)).length = 512
def lookB (M : StM) (L : LyM) (n i : Nat) (root : List UInt8) : Bool := okP n i (leafH (rdS M ((L.tags + i : Nat) : Int))) (pathS M L.tree L.lev i) root
def LookC (w : World) (M : StM) (L : LyM) (n i : Nat) (root : List UInt8) (e : Ending) (w' : World) : Prop :=
 (lookB M L n i root = true ∧ ∃ vb vp us, e = .returned (.tuple #[vb, vp, .int .i64 0]) ∧ Row w' w.heap.size 5 1 vb 512 (bvs (rdS M ((L.tags + i : Nat) : Int))) ∧ BRow w' w.heap.size vp us (pathS M L.tree L.lev i) ∧ Fr [] w w') ∨
 (lookB M L n i root = false ∧ e = .returned (.tuple #[.slice none 0 0, .slice none 0 0, .int .i64 160]) ∧ Fr [] w w')
section
variable {w w' : World} {S : SgP} {O : List Nat} {M : StM} {k : Nat} {L : LyM} {A : Option Addr} {c n : Nat} {root : List UInt8}
theorem pathW_of {w : World} {B : Nat} {Ap : Option Addr} {m cp : Nat} {us : List Value} {L : LyM} {M : StM} {i : Nat} (hl : L.lev = levsN n) (hn : 1 ≤ n ∧ n ≤ 128) (hm : L.lev.length = m) (hk : LeafOk M L i) (R : BRow w B (.slice Ap m cp) us (pathS M L.tree L.lev i)) : PathW w Ap m cp us n (pathS M L.tree L.lev i) ∧ cp ≤ 9223372036854775807 := by
 have hp : (pathS M L.tree L.lev i).length = m := by rw [pathS, List.length_map, plcL_len, hm]
 have r := R.row
 rw [hp] at r
 obtain ⟨A', c', e', hnc, hcm, -, -, -⟩ := r.shape
 cases e'
 refine ⟨⟨R.brd, hp, hnc, by rw [← hl, hm], fun b hb => ?_, hn⟩, by unfold maxLen at hcm; omega⟩
 obtain ⟨x, hx, rfl⟩ := List.mem_map.1 hb
 exact hk.p5 x hx
set_option maxHeartbeats 4000000 in
theorem meLook_any (h : SgW w S O M k) (hl : LyW w A c L n) {i : Nat} (hi : i < n) (hk : LeafOk M L i) (hr : root.length = 32) (hK0 : KG w) :
  Calls Tryz.prog 42 #[.pointer (some ⟨S.g, 0, none⟩), .agg (L.cells (.slice A L.lev.length c)).toArray, .int .i64 i, .agg (bvs root).toArray] w (LookC w M L n i root) := by
 have hn := hl.nb
 have ht := hl.tags
 have CR := Lib.hid (fun (w1 : World) (f : Fr [] w w1) x hx => sgRead_any (h.keep_nil f) x hx)
 have CL := Lib.hid (fun (w1 : World) (f : Fr [] w w1) => meLeaves_any (hl.keep_nil f))
 have CP := Lib.hid (fun (w1 : World) (f : Fr [] w w1) => mePath_any (h.keep_nil f) (hl.keep_nil f) hi hk.pe)
 have HK := Lib.hid hk
 have HRL := Lib.hid hr
 have HLV := Lib.hid hl.lev
 have HM0 := Lib.hid hl.m.2
 obtain ⟨p, hp⟩ : ∃ p, L.tags + i = p := ⟨_, rfl⟩
 have EP : (L.tags : Int) + (i : Int) = (p : Int) := by omega
 have EW : IntKind.i64.wrap ((L.tags : Int) + (i : Int)) = (p : Int) := by rw [EP]; exact IntWalk.i64_in _ (by omega)
 have hpb : p ≤ 200000 := by omega
 obtain ⟨b, hb⟩ : ∃ b, rdS M (p : Int) = b := ⟨_, rfl⟩
 have hte : rdSE M (p : Int) = 0 := by rw [← hp]; exact hk.te
 have hb5 : b.length = 512 := by rw [← hb, ← hp]; exact hk.t5
 have HP := Lib.hid (And.intro hp (And.intro hb (And.intro hb5 hte)))
 clear h hl hk hr hp hb hb5 hte
 obtain ⟨bo, hbo⟩ : ∃ bo, okP n i (leafH b) (pathS M L.tree L.lev i) root = bo := ⟨_, rfl⟩
 have HLB := Lib.hid (show lookB M L n i root = bo by unfold lookB; rw [HP.out.1, HP.out.2.1, hbo])
 have HRD := Lib.hid (show rdS M ((L.tags + i : Nat) : Int) = b by rw [HP.out.1, HP.out.2.1])
 have HBO := Lib.hid hbo
 clear hbo
 go_enter Tryz.func42, Tryz.ntmps42
 go_wp2_with
  (first
   | (refine wpList_boxS (o := ⟨some 5, _, _, _, _, _⟩) rfl rfl (L.cells (.slice A L.lev.length c)) rfl ?_; intro w1 hB f1 z1; have Z1 := Lib.hid z1; clear z1; obtain ⟨gB, hgB⟩ : ∃ g, w.heap.size = g := ⟨_, rfl⟩; rw [hgB] at hB; rw [hgB]; have HGB := Lib.hid hgB; clear hgB)
   | (refine wpList_boxS (o := ⟨some 7, _, _, _, _, _⟩) rfl rfl (bvs root) rfl ?_; intro w2 hR f2 z2; have Z2 := Lib.hid z2; clear z2; obtain ⟨gR, hgR⟩ : ∃ g, w1.heap.size = g := ⟨_, rfl⟩; rw [hgR] at hR; rw [hgR]; have HGR := Lib.hid hgR; clear hgR; have hB := hB.keep_nil f2)
   | (refine wpList_ldS stLay rfl rfl gB 0 rfl (L.cells (.slice A L.lev.length c)) rfl hB.range0 ?_))
 have F2 := f1.trans_nil f2
 refine (CP.out _ F2).mono ?_
 rintro e w3 ⟨vp, us, rfl, Rp, f3⟩
 have F3 := F2.trans_nil f3
 have hF2 := F2.size
 have hpl : (pathS M L.tree L.lev i).length = L.lev.length := by rw [pathS, List.length_map, plcL_len]
 have rp := Rp.row
 rw [hpl] at rp
 obtain ⟨Ap, cp, rfl, -, -, -, -, -⟩ := rp.shape
 replace hB := hB.keep_nil f3
 replace hR := hR.keep_nil f3
 have b6 := (lay_box hB).2.2.1
 have cr := CR.out _ F3 (p : Int) (wfZ_of (by omega))
 rw [HP.out.2.2.2, HP.out.2.1] at cr
 have HRp := Lib.hid Rp
 clear f1 f2 f3 F2 hpl rp Rp
 go_wp2_with fail
 refine cr.mono ?_
 rintro e w4 ⟨vb, rfl, rb, f4⟩
 rw [HP.out.2.2.1] at rb
 obtain ⟨Ab, cb, rfl, hcb, -, -, -, -⟩ := rb.shape
 have F4 := F3.trans_nil f4
 replace hB := hB.keep_nil f4
 replace hR := hR.keep_nil f4
 have hF3 := F3.size
 obtain ⟨wD, hwD⟩ : ∃ wD, w4.drew = wD := ⟨_, rfl⟩
 have fD : Fr [] w4 wD := by rw [← hwD]; exact (Fr.refl [] w4).drew
 have HD := Lib.hid (And.intro (hB.keep_nil fD) (And.intro (hR.keep_nil fD) (And.intro (rb.keep_nil fD) (And.intro (((HRp.out.keep_nil f4).keep_nil fD)) (F4.trans_nil fD)))))
 clear cr b6 f4 F3 F4 hB hR rb fD
 go_upto_region 7 with fail
 as_aux_lemma =>
  refine wp_region_held_drew (S := fun w' => Fr [] wD w') (by kernel_rfl) (by rw [hwD]; exact Fr.refl _ _) (fun hHeld => ?_)
  rw [hwD] at hHeld ⊢
  clear hwD
  refine tw 0 36 hHeld ?_ (v := .agg (L.cells (.slice A L.lev.length c)).toArray) (hy := (fun w hSw => hy_ld stLay rfl gB 0 rfl (L.cells (.slice A L.lev.length c)) rfl (HD.out.1.keep_nil hSw).range0))
  refine tw 2 38 hHeld ?_
  refine tw 3 39 hHeld ?_
  refine tw 5 41 hHeld ?_
  refine tw 6 42 hHeld ?_ (v := .agg (bvs root).toArray) (hy := (fun w hSw => hy_ld stA32 rfl gR 0 rfl (bvs root) (by rw [bvs_length, HRL.out]) (HD.out.2.1.keep_nil hSw).range0))
  refine tc 1 (fun K hK => ?_)
  go_simp
  refine (CL.out _ (HD.out.2.2.2.2.trans_nil hHeld)).mono ?_
  rintro e w' ⟨rfl, fq⟩
  have hHx := hHeld.trans_nil fq
  refine hK.out _ _ hHx (fun hHy => ?_)
  clear hK fq hHeld hHy
  have hHeld := hHx
  clear hHx
  try simp only [Act.put, p1, p2, p3]
  refine tc 4 (fun K hK => ?_)
  go_simp
  refine (trLeaf_any Ab b 512 cb _ HP.out.2.2.1 (HD.out.2.2.1.keep_nil hHeld).rdD.1 (HD.out.2.2.1.keep_nil hHeld).rdD.2.2 hcb (by omega) (hK0.keep (HD.out.2.2.2.2.trans_nil hHeld))).mono ?_
  rintro e w' ⟨rfl, fq⟩
  have hHx := hHeld.trans_nil fq
  refine hK.out _ _ hHx (fun hHy => ?_)
  clear hK fq hHeld hHy
  have hHeld := hHx
  clear hHx
  try simp only [Act.put, p1, p2, p3]
  obtain ⟨hpw, hcp⟩ := pathW_of HLV.out hn rfl HK.out (HD.out.2.2.2.1.keep_nil hHeld)
  have cc := trCheck_any hpw hi (shaSum_length _) HRL.out (hK0.keep (HD.out.2.2.2.2.trans_nil hHeld)) hcp (leaf := leafH b) (want := root)
  rw [HBO.out] at cc
  clear hpw
  refine tc 7 (fun K hK => ?_)
  go_simp
  refine cc.mono ?_
  clear cc
  rintro e w' ⟨rfl, fq⟩
  have hHx := hHeld.trans_nil fq
  refine hK.out _ _ hHx (fun hHy => ?_)
  clear hK fq hHeld hHy
  have hHeld := hHx
  clear hHx
  try simp only [Act.put, p1, p2, p3]
  refine tw 8 44 hHeld ?_
  refine wpAnyH_done (by kernel_rfl) ?_ _
  have HX := Lib.hid hHeld
  clear hHeld
  cases bo
  ·rw [show chkE false = 160 from rfl]
   go_wp2_with fail
   (try simp only [Exit.inBlock, Exit.then]); refine bodyPost_ret (results_tmp3 rfl _ _ _) rfl ?_
   exact Or.inr ⟨HLB.out, rfl, HD.out.2.2.2.2.trans_nil HX.out⟩
  ·rw [show chkE true = 0 from rfl]
   go_wp2_with fail
   (try simp only [Exit.inBlock, Exit.then]); refine bodyPost_ret (results_tmp3 rfl _ _ _) rfl ?_
   have hsz := hF3
   exact Or.inl ⟨HLB.out, _, _, us, rfl, by rw [HRD.out]; exact (HD.out.2.2.1.keep_nil HX.out).mono (by omega), (HD.out.2.2.2.1.keep_nil HX.out).mono (by omega), HD.out.2.2.2.2.trans_nil HX.out⟩
def ChkC (w : World) (M : StM) (L : LyM) (n i : Nat) (root : List UInt8) (e : Ending) (w' : World) : Prop :=
 (lookB M L n i root = true ∧ ∃ vb, e = .returned (.tuple #[vb, .int .i64 0]) ∧ Row w' w.heap.size 5 1 vb 512 (bvs (rdS M ((L.tags + i : Nat) : Int))) ∧ Fr [] w w') ∨
 (lookB M L n i root = false ∧ e = .returned (.tuple #[.slice none 0 0, .int .i64 160]) ∧ Fr [] w w')
set_option maxHeartbeats 2000000 in
theorem meCheck_any (h : SgW w S O M k) (hl : LyW w A c L n) {i : Nat} (hi : i < n) (hk : LeafOk M L i) (hr : root.length = 32) (hK : KG w) :
  Calls Tryz.prog 17 #[.pointer (some ⟨S.g, 0, none⟩), .agg (L.cells (.slice A L.lev.length c)).toArray, .int .i64 i, .agg (bvs root).toArray] w (ChkC w M L n i root) := by
 have CL := Lib.hid (fun (w1 : World) (f : Fr [] w w1) => meLook_any (h.keep_nil f) (hl.keep_nil f) hi hk hr (hK.keep f))
 have HRL := Lib.hid hr
 clear h hl hk hr
 go_enter Tryz.func17, Tryz.ntmps17
 go_wp2_with
  (first
   | (refine wpList_boxS (o := ⟨some 5, _, _, _, _, _⟩) rfl rfl (L.cells (.slice A L.lev.length c)) rfl ?_; intro w1 hB f1 z1; have Z1 := Lib.hid z1; clear z1; obtain ⟨gB, hgB⟩ : ∃ g, w.heap.size = g := ⟨_, rfl⟩; rw [hgB] at hB; rw [hgB]; have HGB := Lib.hid hgB; clear hgB)
   | (refine wpList_boxS (o := ⟨some 7, _, _, _, _, _⟩) rfl rfl (bvs root) rfl ?_; intro w2 hR f2 z2; have Z2 := Lib.hid z2; clear z2; obtain ⟨gR, hgR⟩ : ∃ g, w1.heap.size = g := ⟨_, rfl⟩; rw [hgR] at hR; rw [hgR]; have HGR := Lib.hid hgR; clear hgR; have hB := hB.keep_nil f2)
   | (refine wpList_ldS stLay rfl rfl gB 0 rfl (L.cells (.slice A L.lev.length c)) rfl hB.range0 ?_)
   | (refine wpList_ldS stA32 rfl rfl gR 0 rfl (bvs root) (by rw [bvs_length, HRL.out]) hR.range0 ?_))
 have F2 := f1.trans_nil f2
 refine (CL.out _ F2).mono ?_
 have HF := Lib.hid F2
 clear f1 f2 F2 hB hR
 rintro e w3 (⟨hb, vb, vp, us, rfl, rb, -, f3⟩ | ⟨hb, rfl, f3⟩)
 ·have HX := Lib.hid (And.intro hb (And.intro rb f3))
  clear hb rb f3
  go_wp2_with fail
  go_ret2
  exact Or.inl ⟨HX.out.1, vb, rfl, HX.out.2.1.mono HF.out.size, HF.out.trans_nil HX.out.2.2⟩
 ·have HX := Lib.hid (And.intro hb f3)
  clear hb f3
  go_wp2_with fail
  go_ret2
  exact Or.inr ⟨HX.out.1, rfl, HF.out.trans_nil HX.out.2⟩
end
end
end Go.Proofs.YtbanogfljpkbkaaGreatDoor
