/-
  Texts of this claim, one behind the other: MerJ, MerL.
-/
import Derived.Test.YtbanogfljpkbkaaGreatDoorF45
import Derived.Test.YtbanogfljpkbkaaGreatDoorF34
import Derived.Test.YtbanogfljpkbkaaGreatDoorF18
import Derived.Test.YtbanogfljpkbkaaGreatDoorF25
set_option linter.unusedSimpArgs false
set_option linter.unusedVariables false
set_option linter.unnecessarySimpa false
namespace Go.Proofs.YtbanogfljpkbkaaGreatDoor
section
open Go.RowKit
set_option maxRecDepth 100000
theorem alloc_size1 (w : World) (o : Obj) : (w.alloc o).heap.size = w.heap.size + 1 := by simp
structure BgP where
 b : Nat
 S : SgP
 px : Nat
 gx : Nat
 cx : Nat
 rs : Nat
 A : Option Addr
 c : Nat
def BgP.cells (P : BgP) (L : LyM) (root : List UInt8) : List Value := bothC P.S.ca.p P.px P.S.g P.rs (L.cells (.slice P.A L.lev.length P.c)) (bvs root)
structure BgW (W B w : World) (P : BgP) (s : Nat) (O OX : List Nat) : Prop where
 blk : Blk w P.b 41 (P.cells (lyB s) (bldR (fresh (tagsN s)))).toArray
 ly : LyW B P.A P.c (lyB s) (tagsN s)
 sg : SgW w P.S O (mB s) 0
 xd : Xdk w P.px OX (dB2 s)
 xj : XJr w P.gx P.px (openJ 5 40 1 0)
 xc : Blk w P.cx 139 #[.pointer (some ⟨P.px, 0, none⟩), .pointer (some ⟨P.gx, 0, none⟩), .slice none 0 0, .bool false]
 xs : Blk w P.rs 89 #[.pointer (some ⟨P.cx, 0, none⟩), .slice none 0 0]
 new : (∀ i ∈ P.S.own O, B.heap.size ≤ i) ∧ B.heap.size ≤ P.S.ca.s ∧ B.heap.size ≤ P.S.g ∧ B.heap.size ≤ P.S.q ∧ B.heap.size ≤ P.b ∧ (∀ i ∈ OX, B.heap.size ≤ i) ∧ B.heap.size ≤ P.gx ∧ B.heap.size ≤ P.cx ∧ B.heap.size ≤ P.rs
 ap : (∀ i ∈ P.S.own O, i ∉ OX ∧ i ≠ P.gx ∧ i ≠ P.cx ∧ i ≠ P.rs ∧ i ≠ P.b) ∧ P.S.ca.s ∉ OX ∧ P.S.g ∉ OX ∧ P.S.q ∉ OX ∧ P.gx ∉ OX ∧ P.cx ∉ OX ∧ P.rs ∉ OX ∧ P.b ∉ OX
 frW : Fr [] W B
 fr : Fr [] B w
def secB (z : Int) : Nat := (z.tmod 1024).natAbs + 1
theorem secB_b (z : Int) : 1 ≤ secB z ∧ secB z ≤ 1024 := by
 have := Int.tmod_lt_of_pos z (show (0 : Int) < 1024 by decide)
 have := Int.lt_tmod_of_pos z (show (0 : Int) < 1024 by decide)
 unfold secB
 omega
def BgC (w : World) (s : Nat) (e : Ending) (w' : World) : Prop := ∃ P O OX B, e = .returned (.pointer (some ⟨P.b, 0, none⟩)) ∧ BgW w B w' P s O OX
theorem flatL_at {ls : List (List (List UInt8))} {k i : Nat} (hk : k < ls.length) (hi : i < (ls[k]).length) : ls.flatten.getD ((ls.take k).flatten.length + i) [] = (ls[k])[i] ∧ (ls.take k).flatten.length + i < ls.flatten.length ∧ (ls.take (k + 1)).flatten.length = (ls.take k).flatten.length + ls[k].length := by
 have e1 : ls = ls.take k ++ (ls[k] :: ls.drop (k + 1)) := by rw [List.getElem_cons_drop, List.take_append_drop]
 have e2 : ls.flatten = (ls.take k).flatten ++ (ls[k] ++ (ls.drop (k + 1)).flatten) := by
  conv => lhs; rw [e1]
  rw [List.flatten_append, List.flatten_cons]
 refine ⟨?_, ?_, ?_⟩
 ·rw [List.getD_eq_getElem?_getD, e2, List.getElem?_append_right (by omega), Nat.add_sub_cancel_left, List.getElem?_append_left hi, List.getElem?_eq_getElem hi]
  rfl
 ·rw [e2, List.length_append, List.length_append]; omega
 ·rw [List.take_succ_eq_append_getElem hk, List.flatten_append, List.length_append]; simp
set_option maxHeartbeats 4000000 in
theorem begin17_any (w : World) (z : Int) (hz : in64 z) (hK : KG w) : Calls Tryz.prog 8 #[.int .i64 z] w (BgC w (secB z)) := by
 have hs := secB_b z
 have BF := begF (secB z) hs
 have HB := Lib.hid BF
 obtain ⟨s, hsx⟩ : ∃ s, secB z = s := ⟨_, rfl⟩
 rw [hsx] at hs BF HB ⊢
 obtain ⟨r, hr⟩ : ∃ r, z.tmod 1024 = r := ⟨_, rfl⟩
 have t1 := Int.tmod_lt_of_pos z (show (0 : Int) < 1024 by decide)
 have t2 := Int.lt_tmod_of_pos z (show (0 : Int) < 1024 by decide)
 have hS : (r.natAbs : Int) + 1 = (s : Int) := by rw [← hsx, secB, hr]; omega
 rw [hr] at t1 t2
 have ch := fun w => head17_any w (s : Int)
 have cl := fun w => xhLayoutB hs w
 have HK := Lib.hid hK
 obtain ⟨N, hN⟩ : ∃ N, (lyB s).blocks = N := ⟨_, rfl⟩
 have hNb := BF.n
 rw [hN] at hNb
 have HN := Lib.hid hN
 clear BF hsx hK
 go_enter Tryz.func8, Tryz.ntmps8
 have E2 : (s : Int) - 1 + 1 = s := by omega
 go_upto_if 23 with fail
 go_cut [3] from 24 to 25 (fun v wx => v = .int .i64 ((s : Int) - 1) ∧ wx = w)
 case first =>
  have E4 : IntKind.i64.wrap (-r) = -r := IntWalk.i64_in _ (by omega)
  by_cases hneg : r < 0
  ·go_wp2_with fail
   go_meet
   exact ⟨by rw [show (s : Int) - 1 = -r by omega], rfl⟩
  ·go_wp2_with fail
   go_meet
   exact ⟨by rw [show (s : Int) - 1 = r by omega], rfl⟩
 case rest =>
  obtain ⟨rfl, hwc⟩ := hcut
  subst hwc
  have E3 : IntKind.i64.wrap ((s : Int) - 1 + 1) = s := by rw [IntWalk.i64_in _ (by omega)]; omega
  clear hS t1 t2 hr hz
  go_wp2_with fail
  refine (ch wc).mono ?_
  rintro e w1 ⟨rfl, f1⟩
  have HF1 := Lib.hid f1
  clear f1 ch
  go_wp2_with fail
  refine (cl w1).mono ?_
  rintro e w2 ⟨A, c, rfl, hly, f2⟩
  have HF2 := Lib.hid (HF1.out.trans_nil f2)
  have HLY := Lib.hid hly
  clear f2 cl HF1 hly
  obtain ⟨Cs, hCs⟩ : ∃ Cs, (lyB s).cells (.slice A (lyB s).lev.length c) = Cs := ⟨_, rfl⟩
  have HCs := Lib.hid hCs
  have HCL := Lib.hid (show Cs.length = 9 by rw [← hCs]; rfl)
  have HC1 := Lib.hid (show ∀ u ∈ Cs, u.oneCell' = true by rw [← hCs]; exact layC_ones)
  have HC8 := Lib.hid (show Cs.toArray[8]? = some (.int .i64 (N : Int)) ∧ Cs.toArray[3]? = some (.int .i64 5) ∧ Cs.toArray[4]? = some (.int .i64 45) by rw [← hCs, ← HN.out]; exact ⟨rfl, rfl, rfl⟩)
  rw [hCs]
  clear hCs
  go_upto_region 5 with
   (first
    | (refine wpList_alS stLay (o := ⟨some 4, _, _, _, _, _⟩) rfl rfl ?_; intro w3 h3 f3 z3; have Z3 := Lib.hid z3; clear z3; obtain ⟨gl, hgl⟩ : ∃ g, w2.heap.size = g := ⟨_, rfl⟩; rw [hgl] at h3; rw [hgl]; have HGL := Lib.hid hgl; clear hgl)
    | (refine wpList_stB stLay rfl rfl gl rfl Cs rfl HCL.out HC1.out zeroL (by rfl) h3 ?_; intro w4 h4 f4 z4; have Z4 := Lib.hid z4; clear z4))
  have f24 : Fr [] w2 w4 := f3.trans f4 (fun i hi => .inr (by have := HGL.out; simp at hi; omega))
  have F4 := HF2.out.trans_nil f24
  have HF24 := Lib.hid f24
  have b4 := h4
  clear f3 f4 h3 f24
  have l8 : w4.cell? ⟨gl, 8, none⟩ = some (.int .i64 (N : Int)) := (b4.cell 8).trans HC8.out.1
  have l3 : w4.cell? ⟨gl, 3, none⟩ = some (.int .i64 5) := (b4.cell 3).trans HC8.out.2.1
  have cn := dkNew_any w4 (N : Int) (by omega)
  have HF4 := Lib.hid F4
  have HB4 := Lib.hid b4
  clear F4 b4 h4
  go_wp2_with fail
  refine cn.mono ?_
  intro e w5 hn
  obtain ⟨p, O, rfl, hd, hO, f5⟩ := NewC.yes (by omega) hn
  rw [Int.toNat_natCast] at hd
  clear cn hn l8
  have l8 : w5.cell? ⟨gl, 8, none⟩ = some (.int .i64 (N : Int)) := ((HB4.out.keep_nil f5).cell 8).trans HC8.out.1
  replace l3 : w5.cell? ⟨gl, 3, none⟩ = some (.int .i64 5) := ((HB4.out.keep_nil f5).cell 3).trans HC8.out.2.1
  have cx := xdNew_any w5 (N : Int) (by omega)
  have HD := Lib.hid (And.intro hd (And.intro hO f5))
  clear hd hO f5
  go_wp2_with fail
  refine cx.mono ?_
  intro e w6 hn
  obtain ⟨px, OX, rfl, hx, hOX, f6⟩ := XNewC.yes (by omega) hn
  rw [Int.toNat_natCast] at hx
  clear cx hn l8
  obtain ⟨hd, hO, f5⟩ := HD.out
  have f56 := f5.trans_nil f6
  have hs5 := f5.size
  have hd5 := hd.lts
  have TW : TwX w4 [] w6 p (newD N) px (newD N) := ⟨O, OX, hd.keep_nil f6, hx, fun i hi hj => by have := hd5 i hi; have := hOX i hj; omega, fun i hi => .inr (hO i hi), fun i hi => .inr (by have := hOX i hi; omega), f56⟩
  replace l3 : w6.cell? ⟨gl, 3, none⟩ = some (.int .i64 5) := ((HB4.out.keep_nil f56).cell 3).trans HC8.out.2.1
  clear HD hd hO f5 f6 f56 hs5 hd5 hx hOX
  have BF := HB.out
  have hr0 := BF.r0
  have he0 := BF.e0
  have hon1 := BF.on1
  rw [HN.out] at hr0 he0 hon1
  have hi : initE (newD N) 5 40 = mkE (newD N) 5 1 := by rw [initE, hr0]; rfl
  have hd1 : (mkE (newD N) 5 1).2 = dB1 s := by rw [← HN.out]; rfl
  have ci := TW.opD (r := .returned (.int .i64 0)) (D' := dB1 s) (fun O h => (jnInit_any h 5 40 (wfZ_of (by decide)) (HK.out.keep (HF4.out.trans_nil TW.fr)) (fun x => by show 0 + 2 ≤ _; omega)).mono fun e w' ⟨h1, h2⟩ => by rw [hi] at h1 h2; rw [he0] at h1; rw [hd1] at h2; exact ⟨h1, h2⟩)
  have HI := Lib.hid (And.intro hr0 hd1)
  have HTW := Lib.hid TW
  clear BF hr0 he0 hi hd1 TW
  go_wp2_with fail
  refine ci.mono ?_
  rintro e w7 ⟨rfl, TW⟩
  replace l3 : w7.cell? ⟨gl, 3, none⟩ = some (.int .i64 5) := ((HB4.out.keep_nil TW.fr).cell 3).trans HC8.out.2.1
  have ci2 := TW.opX (r := .returned (.int .i64 0)) (X' := dB1 s) (fun O h => (xjInit_yes h (On.new N) 5 40 HI.out.1 (by show 0 ≤ _; omega)).mono fun e w' ⟨h1, h2⟩ => by rw [HI.out.2] at h2; exact ⟨h1, h2⟩)
  clear ci TW
  go_wp2_with fail
  refine ci2.mono ?_
  rintro e w8 ⟨rfl, TW⟩
  replace l3 : w8.cell? ⟨gl, 3, none⟩ = some (.int .i64 5) := ((HB4.out.keep_nil TW.fr).cell 3).trans HC8.out.2.1
  clear ci2 HTW
  have b8 := HB4.out.keep_nil TW.fr
  have cfr := xmFresh_any (HLY.out.keep_nil (HF24.out.trans_nil TW.fr))
  rw [HCs.out] at cfr
  obtain ⟨F1, TW1, hF1⟩ := TW.re
  have HTW := Lib.hid (And.intro TW1 (And.intro (fun i hi => (hF1 i hi).1) (And.intro (show ∀ i ∈ F1, w4.heap.size ≤ i from fun i hi => (hF1 i hi).2.elim (fun h => by cases h) id) TW.fr)))
  clear TW TW1 hF1 l3
  go_wp2_with
   (first
    | (refine wpList_ldS stLay rfl rfl gl 0 rfl Cs HCL.out b8.range0 ?_))
  refine cfr.mono ?_
  rintro e w9 ⟨v, us, rfl, RB, f9⟩
  have hRL : (bldR (fresh (tagsN s))).length = 32 := shaSum_length _
  obtain ⟨R, hR⟩ : ∃ R, bldR (fresh (tagsN s)) = R := ⟨_, rfl⟩
  obtain ⟨ls, hls⟩ : ∃ ls, bldN (fresh (tagsN s)) = ls := ⟨_, rfl⟩
  have HLS := Lib.hid (show nodesB s = ls.flatten by rw [nodesB, hls])
  have hls2 : ls.length ≤ 2 := by rw [← hls, bldN_len, fresh_len, levsN_len]; split <;> omega
  rw [hls] at RB
  rw [hR] at hRL ⊢
  have HR := Lib.hid (And.intro hR hRL)
  clear cfr hR hRL hls b8
  obtain ⟨L, hL⟩ : ∃ L, ls.length = L := ⟨_, rfl⟩
  have rr := RB.row
  rw [hL] at rr hls2
  obtain ⟨A6, c6, rfl, -, -, -, -, -⟩ := rr.shape
  have HLL := Lib.hid hL
  have HRB := Lib.hid (And.intro RB f9)
  have HS9 := Lib.hid f9.size
  clear RB rr hL f9
  go_upto_region 10 with
   (first
    | (refine wpList_alS stA32 (o := ⟨some 11, _, _, _, _, _⟩) rfl rfl ?_; intro w10 h10 f10 z10; have Z10 := Lib.hid z10; clear z10; obtain ⟨gr, hgr⟩ : ∃ g, w9.heap.size = g := ⟨_, rfl⟩; rw [hgr] at h10; rw [hgr]; have HGR := Lib.hid hgr; clear hgr)
    | (refine wpList_stB stA32 rfl rfl gr rfl (bvs R) rfl (by rw [bvs_length, HR.out.2]) (bvs_one _) (bvs (zB 32)) rfl h10 ?_; intro w11 h11 f11 z11; have Z11 := Lib.hid z11; clear z11))
  have f911 : Fr [] w9 w11 := f10.trans f11 (fun i hi => .inr (by have := HGR.out; simp at hi; omega))
  have f811 := HRB.out.2.trans_nil f911
  have TW := HTW.out.1.move f811
  have RB := HRB.out.1.keep_nil f911
  have HF1 := Lib.hid (And.intro HTW.out.2.1 (And.intro HTW.out.2.2.1 (HTW.out.2.2.2.trans_nil f811)))
  have bl : Blk w11 gl 38 Cs.toArray := HB4.out.keep_nil HF1.out.2.2
  have l4 : w11.cell? ⟨gl, 4, none⟩ = some (.int .i64 45) := (bl.cell 4).trans HC8.out.2.2
  have HBL := Lib.hid (And.intro bl h11)
  clear f10 f11 f911 f811 HTW HRB h10 h11 bl
  have BF := HB.out
  have HTAM := Lib.hid (show ∀ q, q ≤ ls.flatten.length → On (tamK (dB1 s) 45 ls.flatten q) N from fun q hq => (tamK_on (by rw [← HN.out]; exact BF.on1) (by rw [← HN.out, ← HLS.out]; exact BF.ln) (by rw [← HLS.out]; exact BF.l5) q hq).1)
  have hln : 45 + ls.flatten.length ≤ N := by rw [← HN.out, ← HLS.out]; exact BF.ln
  have HL5 := Lib.hid (show ∀ b ∈ ls.flatten, b.length = 512 by rw [← HLS.out]; exact BF.l5)
  clear BF
  go_wp2_with fail
  have HTW0 := Lib.hid TW
  have HRB := Lib.hid RB
  clear TW RB l4
  go_loopw [12, 13] (fun t12 t13 wr => ∃ k a q : Nat, k ≤ L ∧ q = (ls.take k).flatten.length ∧ a = 45 + q ∧ t13 = .int .i64 k ∧ t12 = .int .i64 a ∧ TwX w11 F1 wr p (tamK (dB1 s) 45 ls.flatten q) px (tamK (dB1 s) 45 ls.flatten q)) (fun _ t _ => L - (intOf t).toNat)
  case atStart => exact ⟨0, 45, 0, Nat.zero_le _, rfl, rfl, rfl, rfl, HTW0.out⟩
  case round =>
   clear HTW0
   obtain ⟨wo, hwo⟩ : ∃ wo, wo = wr := ⟨_, rfl⟩
   subst hwo
   obtain ⟨k, a, q, hk, hq, ha, rfl, rfl, TW⟩ := hrel
   by_cases hlt : k < L
   ·have hkl : k < ls.length := by rw [HLL.out]; exact hlt
    have RB := HRB.out.keepB TW.fr HF1.out.1
    have hul : k < us.length := by have := RB.len; omega
    obtain ⟨vs, RV⟩ := RB.each k hul hkl
    obtain ⟨g6, c6', e6⟩ := RB.row.hdD (by omega)
    obtain ⟨rfl, e6b⟩ : A6 = some ⟨g6, 0, none⟩ ∧ True := by cases e6; exact ⟨rfl, trivial⟩
    obtain ⟨M, hM⟩ : ∃ M, ls[k].length = M := ⟨_, rfl⟩
    have rv := RV.row
    rw [hM] at rv
    obtain ⟨Ak, ck, hu, -, -, -, -, -⟩ := rv.shape
    rw [hu] at rv RV
    have HC6 := Lib.hid (fun (wx : World) (f : Fr F1 w11 wx) => show wx.cell? ⟨g6, k, none⟩ = some (.slice Ak M ck) from by
     obtain ⟨g', o', e', hc⟩ := (HRB.out.keepB f HF1.out.1).row.rdD.1 (by intro h0; rw [h0] at hul; simp at hul)
     cases e'
     have := hc k _ (List.getElem?_eq_getElem hul)
     rw [Nat.zero_add, hu] at this
     exact this)
    have HCV := Lib.hid (fun (wx : World) (f : Fr F1 w11 wx) (i : Nat) (hi : i < M) => show ∃ gk Ab cb, Ak = some ⟨gk, 0, none⟩ ∧ wx.cell? ⟨gk, i, none⟩ = some (.slice Ab 512 cb) ∧ Rd wx Ab (bvs (ls[k][i]?.getD [])) ∧ Ab ≠ none from by
     obtain ⟨vs, RV⟩ := (HRB.out.keepB f HF1.out.1).each k hul hkl
     rw [hu] at RV
     have rv := RV.row
     obtain ⟨gk, ck', e⟩ := rv.hdD (by omega)
     have hvl := RV.vlen
     have hib : i < vs.length := by omega
     have h5 : (ls[k][i]'(by omega)).length = 512 := HL5.out _ (List.mem_flatten.2 ⟨ls[k], List.getElem_mem _, List.getElem_mem _⟩)
     have hr := RV.each i hib (by omega)
     rw [h5] at hr
     obtain ⟨gb, cb, eb⟩ := hr.hdD (by omega)
     refine ⟨gk, some ⟨gb, 0, none⟩, cb, by cases e; rfl, ?_, ?_, by simp⟩
     ·obtain ⟨g', o', e', hc⟩ := rv.rdD.1 (by intro h0; rw [h0] at hib; simp at hib)
      cases e
      cases e'
      have := hc i _ (List.getElem?_eq_getElem hib)
      rw [Nat.zero_add, eb] at this
      exact this
     ·rw [List.getElem?_eq_getElem (by omega), Option.getD_some]
      rw [eb] at hr
      exact hr.rdD.1)
    have HQ := Lib.hid (show ∀ i, i < M → ls.flatten.getD (q + i) [] = (ls[k])[i]?.getD [] ∧ q + i < ls.flatten.length from fun i hi => by
     have := flatL_at hkl (i := i) (by omega)
     rw [← hq] at this
     refine ⟨?_, this.2.1⟩
     rw [this.1, List.getElem?_eq_getElem (by omega)]; rfl)
    have HQ1 := Lib.hid (show (ls.take (k + 1)).flatten.length = q + M from by
     rw [List.take_succ_eq_append_getElem hkl, List.flatten_append, List.length_append, hq]; simp [hM])
    have hqM : q + M ≤ ls.flatten.length := by
     rcases Nat.eq_zero_or_pos M with h0 | h0
     ·have e1 : ls.flatten = (ls.take k).flatten ++ (ls.drop k).flatten := by rw [← List.flatten_append, List.take_append_drop]
      have := congrArg List.length e1
      rw [List.length_append] at this
      omega
     ·have := (HQ.out (M - 1) (by omega)).2; omega
    have HM := Lib.hid hM
    have HTW1 := Lib.hid TW
    have HA := Lib.hid ha
    clear ha
    clear RB RV rv e6 e6b hM hu hq TW
    go_wp2_with fail
    go_loopw [12, 14] (fun t12 t14 wr => ∃ i b : Nat, i ≤ M ∧ b = a + i ∧ t14 = .int .i64 i ∧ t12 = .int .i64 b ∧ TwX w11 F1 wr p (tamK (dB1 s) 45 ls.flatten (q + i)) px (tamK (dB1 s) 45 ls.flatten (q + i))) (fun _ t _ => M - (intOf t).toNat)
    case atStart => exact ⟨0, a, Nat.zero_le _, rfl, rfl, rfl, HTW1.out⟩
    case round =>
     clear HTW1
     obtain ⟨w12, hw12⟩ : ∃ wo, wo = wr := ⟨_, rfl⟩
     subst hw12
     obtain ⟨i, b, hi, hb, rfl, rfl, TW⟩ := hrel
     have c6 := HC6.out w12 TW.fr
     by_cases hiM : i < M
     ·obtain ⟨hnl, hqi⟩ := HQ.out i hiM
      obtain ⟨x, hx⟩ : ∃ x, (ls[k][i]?).getD [] = x := ⟨_, rfl⟩
      have hx5 : x.length = 512 := by
       rw [← hx, ← hnl]
       refine HL5.out _ ?_
       rw [List.getD_eq_getElem?_getD, List.getElem?_eq_getElem hqi]
       exact List.getElem_mem _
      obtain ⟨gk, Ab, cb, rfl, cc, rb, hAb⟩ := HCV.out w12 TW.fr i hiM
      rw [hx] at rb hnl
      have hbb : b = 45 + (q + i) := by have := HA.out; omega
      have hon := HTAM.out (q + i) (by omega)
      have hE : (tamK (dB1 s) 45 ls.flatten (q + i)).mayE (b : Int) 512 = 0 := (hon.tam (x := b) (b := x) (by omega) hx5).1
      have hD : (tamK (dB1 s) 45 ls.flatten (q + i)).tamper (b : Int) x = tamK (dB1 s) 45 ls.flatten (q + (i + 1)) := by
       show _ = (tamK (dB1 s) 45 ls.flatten (q + i)).tamper ((45 + (q + i) : Nat) : Int) (ls.flatten.getD (q + i) [])
       rw [hnl, hbb]
      have HE := Lib.hid (And.intro hE hD)
      have ct := TW.opD (r := .returned (.int .i64 0)) (D' := tamK (dB1 s) 45 ls.flatten (q + (i + 1))) (fun O h => (dkTamper_any h (b : Int) Ab 512 cb x hx5 rb (fun h => absurd h hAb)).mono fun e w' ⟨h1, h2⟩ => by rw [HE.out.1] at h1; rw [HE.out.2] at h2; exact ⟨h1, h2⟩)
      have HX := Lib.hid (And.intro hx hx5)
      have HBI := Lib.hid hb
      have hb9 : b ≤ 2000 := by omega
      clear TW rb hAb hnl hE hD hx hx5 hon hqi hbb hb
      go_wp2_with fail
      refine ct.mono ?_
      rintro e w13 ⟨rfl, TW⟩
      have c6 := HC6.out w13 TW.fr
      obtain ⟨gk2, Ab2, cb2, e2, cc2, rb2, hAb2⟩ := HCV.out w13 TW.fr i hiM
      cases e2
      rw [HX.out.1] at rb2
      have ct2 := TW.opX (r := .returned (.int .i64 0)) (X' := tamK (dB1 s) 45 ls.flatten (q + (i + 1))) (fun O h => (xdTamper_any h (b : Int) Ab2 512 cb2 x HX.out.2 rb2 (fun h => absurd h hAb2)).mono fun e w' ⟨h1, h2⟩ => by rw [HE.out.1] at h1; rw [HE.out.2] at h2; exact ⟨h1, h2⟩)
      clear TW rb2 hAb2 ct
      go_wp2_with fail
      refine ct2.mono ?_
      rintro e w14 ⟨rfl, TW⟩
      have HTW := Lib.hid TW
      clear ct2 TW
      go_wp2_with fail
      exact ⟨⟨i + 1, b + 1, by omega, by have := HBI.out; omega, by go_num, by go_num, HTW.out⟩, by simp [intOf]; omega⟩
     ·obtain rfl : i = M := by omega
      have HTW := Lib.hid TW
      have HBI := Lib.hid hb
      clear TW hb
      go_wp2_with fail
      exact ⟨⟨k + 1, b, q + i, by omega, HQ1.out.symm, by have := HBI.out; have h2 := HA.out; rw [this, h2]; omega, by go_num, rfl, HTW.out⟩, by simp [intOf]; omega⟩
   ·obtain rfl : k = L := by omega
    have BF := HB.out
    have hqe : q = ls.flatten.length := by rw [hq, List.take_of_length_le (by rw [HLL.out]; exact Nat.le_refl _)]
    have hD2 : tamK (dB1 s) 45 ls.flatten q = dB2 s := by rw [dB2, HLS.out, hqe]
    rw [hD2] at TW
    have FW := (HF4.out.trans_nil HF1.out.2.2).trans TW.fr (fun i hi => .inr (by have := HF1.out.2.1 i hi; have := HF4.out.size; omega))
    have F4 : Fr [] w4 wo := HF1.out.2.2.trans TW.fr (fun i hi => .inr (HF1.out.2.1 i hi))
    have kl := HB4.out.keep_nil F4
    have kr := HBL.out.2.keep TW.fr (fun hm => by have := HF1.out.1 _ hm; have := HGR.out; have := HS9.out; omega)
    skip
    have hs4 := HF4.out.size
    obtain ⟨O, OX, hd, hx, hap, hO, hOX, -⟩ := TW
    have HO := Lib.hid (And.intro hap (And.intro (show ∀ i ∈ O, w4.heap.size ≤ i ∧ i < wo.heap.size from fun i hi => ⟨by rcases hO i hi with h | h; · { have := HF1.out.2.1 i h; omega }; · { have := HF1.out.2.2.size; omega }, hd.lts i hi⟩) (show ∀ i ∈ OX, w4.heap.size ≤ i ∧ i < wo.heap.size from fun i hi => ⟨by rcases hOX i hi with h | h; · { have := HF1.out.2.1 i h; omega }; · { have := HF1.out.2.2.size; omega }, hx.lts i hi⟩)))
    have co := caOpen_yes hd 5 40 (wfZ_of (by decide)) (HK.out.keep FW) BF.r2 BF.on2.off BF.m2 (by rw [BF.sc]; exact Nat.zero_le _) (by rw [BF.sc]; intro r hr; cases hr) (by rw [BF.sc]; intro r hr; cases hr)
    rw [BF.sc] at co
    replace l3 : wo.cell? ⟨gl, 3, none⟩ = some (.int .i64 5) := (kl.cell 3).trans HC8.out.2.1
    have d0 : ¬ ((k : Int) < k) := by omega
    have HH := Lib.hid (And.intro FW (And.intro kl (And.intro kr (And.intro F4 hx))))
    have hsw := F4.size
    clear BF hq ha hqe hD2 F4 FW kl kr hap hO hOX hd hx hs4
    go_wp2_with fail
    refine co.mono ?_
    rintro e wA ⟨P, hP, rfl, hca, fA, pc, pg, ps, pb⟩
    have BF := HB.out
    have cxo := xcOpen_none (HH.out.2.2.2.2.keep_nil fA) BF.on2 5 40 BF.r2 BF.m2 BF.tr
    replace l3 : wA.cell? ⟨gl, 3, none⟩ = some (.int .i64 5) := ((HH.out.2.1.keep_nil fA).cell 3).trans HC8.out.2.1
    have HA := Lib.hid (And.intro hca (And.intro fA (And.intro hP (And.intro pc (And.intro pg (And.intro ps pb))))))
    clear BF co hca fA hP pc pg ps pb
    go_wp2_with fail
    refine cxo.mono ?_
    rintro e wB ⟨cx, gx, rfl, kc, hj, pcx, pgx, fB⟩
    have cm := meNew_any (HA.out.1.keep_nil fB)
    have HBB := Lib.hid (And.intro kc (And.intro hj (And.intro pcx (And.intro pgx fB))))
    clear cxo l3 kc hj pcx pgx fB
    go_wp2_with fail
    refine cm.mono ?_
    rintro e wC ⟨S, hS, rfl, hsg, fC, pq1, pq2, pq3⟩
    have fAC := HA.out.2.1.trans_nil (HBB.out.2.2.2.2.trans_nil fC)
    have kl := HH.out.2.1.keep_nil fAC
    have kr := HH.out.2.2.1.keep_nil fAC
    have HCC := Lib.hid (And.intro hsg (And.intro fC (And.intro hS (And.intro pq1 (And.intro pq2 (And.intro pq3 fAC))))))
    clear cm hsg fC hS pq1 pq2 pq3 fAC
    have kS := Blk.new wC 89 #[.pointer (some ⟨cx, 0, none⟩), .slice none 0 0]
    have fS : Fr [] wC (wC.alloc (.cells #[.pointer (some ⟨cx, 0, none⟩), .slice none 0 0] 89)) := (Fr.refl _ _).alloc _
    have zS : (wC.alloc (.cells #[.pointer (some ⟨cx, 0, none⟩), .slice none 0 0] 89)).heap.size = wC.heap.size + 1 := alloc_size1 _ _
    replace kl := kl.keep_nil fS
    replace kr := kr.keep_nil fS
    have HKS := Lib.hid (And.intro kS (And.intro fS zS))
    clear kS fS zS
    go_wp2_with
     (first
      | (refine wpList_ldS stLay rfl rfl gl 0 rfl Cs HCL.out kl.range0 ?_)
      | (refine wpList_ldS stA32 rfl rfl gr 0 rfl (bvs R) (by rw [bvs_length, HR.out.2]) kr.range0 ?_)
      | (refine wpList_bldK (o := ⟨some 139, _, _, _, _, _⟩) rfl rfl #[(0, .pointer (some ⟨p, 0, none⟩)), (1, .pointer (some ⟨px, 0, none⟩)), (2, .pointer (some ⟨S.g, 0, none⟩)), (3, .pointer (some ⟨wC.heap.size, 0, none⟩)), (4, .agg Cs.toArray), (5, .agg (bvs R).toArray)] (by kernel_rfl) (.agg (bothC p px S.g wC.heap.size Cs (bvs R)).toArray) (bothB _ _ _ _ _ _ _ HCL.out (by rw [bvs_length, HR.out.2])) ?_)
      | (refine wpList_boxS (o := ⟨some 140, _, _, _, _, _⟩) rfl rfl (bothC p px S.g wC.heap.size Cs (bvs R)) rfl ?_; intro wF hF fF zF))
    go_ret
    obtain ⟨hap, hO, hOX⟩ := HO.out
    obtain ⟨FW, -, -, F4, hx⟩ := HH.out
    obtain ⟨hca, fA, hP, pc, pg, ps, pb⟩ := HA.out
    obtain ⟨kc, hj, pcx, pgx, fB⟩ := HBB.out
    obtain ⟨hsg, fC, hS, pq1, pq2, pq3, fAC⟩ := HCC.out
    obtain ⟨kS, fS, zS⟩ := HKS.out
    have fSF := fS.trans_nil fF
    have fCF := fC.trans_nil fSF
    have lc := hca.lts
    have lcx := Blk.lt kc
    have lgx := Blk.lt hj
    have lS := hsg.lts
    have sB := fB.size
    have sC := fC.size
    have sA := fA.size
    obtain ⟨gb, hgb⟩ : ∃ g, (wC.alloc (.cells #[.pointer (some ⟨cx, 0, none⟩), .slice none 0 0] 89)).heap.size = g := ⟨_, rfl⟩
    rw [hgb] at hF zS
    refine ⟨⟨gb, S, px, gx, cx, wC.heap.size, A, c⟩, O, OX, w4, by rw [zS]; rfl, ?_⟩
    have hSP : S.ca.p = p := by rw [hS, hP]
    subst hS
    refine ⟨?_, HLY.out.keep_nil HF24.out, hsg.keep_nil fSF, hx.keep_nil (fAC.trans_nil fSF), hj.keep_nil fCF, kc.keep_nil fCF, kS.keep_nil fF, ⟨fun i hi => ?_, by show w4.heap.size ≤ S.ca.s; omega, by show w4.heap.size ≤ S.g; omega, by show w4.heap.size ≤ S.q; omega, by show w4.heap.size ≤ gb; omega, fun i hi => (hOX i hi).1, by show w4.heap.size ≤ gx; omega, by show w4.heap.size ≤ cx; omega, by show w4.heap.size ≤ wC.heap.size; omega⟩, ⟨fun i hi => ?_, ?_, ?_, ?_, ?_, ?_, ?_, ?_⟩, HF4.out, F4.trans_nil (fAC.trans_nil fSF)⟩
    ·show Blk wF gb 41 (bothC S.ca.p px S.g wC.heap.size ((lyB s).cells (.slice A (lyB s).lev.length c)) (bvs (bldR (fresh (tagsN s))))).toArray
     rw [hSP, HCs.out, HR.out.1]
     exact hF
    ·unfold SgP.own CaP.own at hi
     simp only [List.mem_cons] at hi
     rcases hi with h | h | h | h | h
     ·omega
     ·omega
     ·omega
     ·omega
     ·exact (hO i h).1
    ·show i ∉ OX ∧ i ≠ gx ∧ i ≠ cx ∧ i ≠ wC.heap.size ∧ i ≠ gb
     unfold SgP.own CaP.own at hi
     simp only [List.mem_cons] at hi
     have hox : wo.heap.size ≤ i → i ∉ OX := fun h hm => by have := (hOX i hm).2; omega
     rcases hi with h | h | h | h | h
     ·exact ⟨hox (by omega), by omega, by omega, by omega, by omega⟩
     ·exact ⟨hox (by omega), by omega, by omega, by omega, by omega⟩
     ·exact ⟨hox (by omega), by omega, by omega, by omega, by omega⟩
     ·exact ⟨hox (by omega), by omega, by omega, by omega, by omega⟩
     ·have := (hO i h).2
      exact ⟨hap i h, by omega, by omega, by omega, by omega⟩
    ·exact show S.ca.s ∉ OX from fun hm => by have := (hOX _ hm).2; omega
    ·exact show S.g ∉ OX from fun hm => by have := (hOX _ hm).2; omega
    ·exact show S.q ∉ OX from fun hm => by have := (hOX _ hm).2; omega
    ·exact show gx ∉ OX from fun hm => by have := (hOX _ hm).2; omega
    ·exact show cx ∉ OX from fun hm => by have := (hOX _ hm).2; omega
    ·exact show wC.heap.size ∉ OX from fun hm => by have := (hOX _ hm).2; omega
    ·exact show gb ∉ OX from fun hm => by have := (hOX _ hm).2; omega
end
section
open Go.RowKit
set_option maxRecDepth 100000
theorem convW {W : World} {g : Nat} {C : Array Value} {n c : Nat} (h : Blk W g 5 C) : ∃ W', (convert 27 27 (.slice (some ⟨g, 0, none⟩) n c)).run Tryz.prog W = .ok (.slice (some ⟨g, 0, none⟩) n c) W' ∧ W'.heap[g]? = some (.cells C 5 (C.size, C.size + 1)) ∧ Fr [g] W W' := by
 have hsh : W.shape? g = some (5, C.size) := by
  unfold World.shape?
  rw [show W.heap[g]? = some (.cells C 5) from h]
 have hl : g < W.heap.size := h.lt
 refine ⟨W.freeze ⟨g, C.size, none⟩ 1, ?_, ?_, ⟨rfl, rfl, rfl, ?_, fun k hk hn => ?_⟩⟩
 ·simp [convert, run_underlying Tryz.underlying27, run_underlying Tryz.underlying5, markStringish, hsh]
 ·unfold World.freeze
  rw [if_neg (by decide)]
  show (W.heap.modify g _)[g]? = _
  rw [Array.getElem?_modify, if_pos rfl, show W.heap[g]? = some (.cells C 5) from h]
  rfl
 ·unfold World.freeze
  rw [if_neg (by decide)]
  show W.heap.size ≤ (W.heap.modify g _).size
  rw [Array.size_modify]
  exact Nat.le_refl _
 ·unfold World.freeze
  rw [if_neg (by decide)]
  show (W.heap.modify g _)[k]? = _
  rw [Array.getElem?_modify, if_neg (fun e => hn (by rw [← e]; exact List.mem_singleton.2 rfl))]
theorem convW_rd {W : World} {g : Nat} {l : List UInt8} {t : TypeId} {fz : Nat × Nat} (h : W.heap[g]? = some (.cells (bvs l).toArray t fz)) : Rd W (some ⟨g, 0, none⟩) (bvs l) := fun _ =>
 ⟨g, 0, rfl, fun j u hu => by rw [cell_of_row _ _ _ _ _ _ h, Nat.zero_add]; simpa using hu⟩
structure LvS (B w : World) (P : BgP) (L : LyM) (n : Nat) (root : List UInt8) (O : List Nat) (M : StM) (k : Nat) : Prop where
 blk : Blk w P.b 41 (P.cells L root).toArray
 rl : root.length = 32
 ly : LyW B P.A P.c L n
 sg : SgW w P.S O M k
 new : ∀ i ∈ P.S.own O, B.heap.size ≤ i ∧ i ≠ P.b
 pb : B.heap.size ≤ P.b
 fr : Fr [] B w
section
variable {B w w' : World} {P : BgP} {L : LyM} {n : Nat} {root : List UInt8} {O : List Nat} {M M' : StM} {k k' : Nat}
theorem LvS.keep (h : LvS B w P L n root O M k) (f : Fr [] w w') : LvS B w' P L n root O M k := ⟨h.blk.keep_nil f, h.rl, h.ly, h.sg.keep_nil f, h.new, h.pb, h.fr.trans_nil f⟩
theorem LvS.lyW (h : LvS B w P L n root O M k) : LyW w P.A P.c L n := h.ly.keep_nil h.fr
theorem LvS.sm (h : LvS B w P L n root O M k) : B.heap.size ≤ P.S.m ∧ P.S.m ≠ P.b := h.new _ (List.mem_cons_self ..)
theorem LvS.chg (h : LvS B w P L n root O M k) (hs : SgW w' P.S O M' k') (f : Fr [P.S.m] w w') : LvS B w' P L n root O M' k' :=
 ⟨h.blk.keep f (fun hm => h.sm.2 (List.mem_singleton.1 hm).symm), h.rl, h.ly, hs, h.new, h.pb, h.fr.trans f (fun i hi => .inr (by rw [List.mem_singleton.1 hi]; exact h.sm.1))⟩
theorem LvS.aft (h : LvS B w P L n root O M k) (ha : AftS w P.S O M' k' w') : ∃ O', LvS B w' P L n root O' M' k' := by
 obtain ⟨O', h1, h2, h3⟩ := ha
 have hbl := h.blk.lt
 have hs := h.fr.size
 refine ⟨O', h.blk.keep h3 (fun hm => (h.new _ hm).2 rfl), h.rl, h.ly, h1, fun i hi => ?_, h.pb, h.fr.trans h3 (fun i hi => .inr (h.new i hi).1)⟩
 rcases SgP.own_sub (S := P.S) (O := O) h2 i hi with h4 | h4
 ·exact h.new i h4
 ·exact ⟨by omega, by omega⟩
theorem LvS.cells (h : LvS B w P L n root O M k) : w.cell? ⟨P.b, 2, none⟩ = some (.pointer (some ⟨P.S.g, 0, none⟩)) ∧ w.rangeAt P.b 4 (L.cells (.slice P.A L.lev.length P.c)) ∧ w.rangeAt P.b 13 (bvs root) := by
 have h0 : (L.cells (.slice P.A L.lev.length P.c)).length = 9 := rfl
 refine ⟨h.blk.cell 2, h.blk.range 4 _ (fun j u hu => ?_), h.blk.range 13 _ (fun j u hu => ?_)⟩
 ·have hj : j < (L.cells (.slice P.A L.lev.length P.c)).length := (List.getElem?_eq_some_iff.1 hu).1
  rw [List.getElem?_toArray, BgP.cells, bothC, show 4 + j = j + 1 + 1 + 1 + 1 by omega]
  simp only [List.getElem?_cons_succ]
  rw [List.getElem?_append_left hj]
  exact hu
 ·rw [List.getElem?_toArray, BgP.cells, bothC, show 13 + j = (9 + j) + 1 + 1 + 1 + 1 by omega]
  simp only [List.getElem?_cons_succ]
  rw [List.getElem?_append_right (by omega), h0, Nat.add_sub_cancel_left]
  exact hu
theorem LvS.put {C g : Nat} (h : LvS B w P L n root O M k) (hb : P.S.below O C) (hp : P.b < C) (hC : C ≤ g) (f : Fr [g] w w') (h8 : NoTy w [g] 5) : LvS B w' P L n root O M k :=
 ⟨h.blk.keep f (fun hm => by have := List.mem_singleton.1 hm; omega), h.rl, h.ly, h.sg.keepN hb f (fun i hi => by rw [List.mem_singleton.1 hi]; exact hC) h8, h.new, h.pb, h.fr.trans f (fun i hi => .inr (by rw [List.mem_singleton.1 hi]; have := h.pb; omega))⟩
theorem LvS.of {W : World} {s : Nat} {OX : List Nat} (h : BgW W B w P s O OX) : LvS B w P (lyB s) (tagsN s) (bldR (fresh (tagsN s))) O (mB s) 0 :=
 ⟨h.blk, shaSum_length _, h.ly, h.sg, fun i hi => ⟨h.new.1 i hi, (h.ap.1 i hi).2.2.2.2⟩, h.new.2.2.2.2.1, h.fr⟩
end
end
end Go.Proofs.YtbanogfljpkbkaaGreatDoor
