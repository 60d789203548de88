/-
  Texts of this claim, one behind the other: TreJ, TreK, TreL.
-/
import Derived.Test.YtbanogfljpkbkaaGreatDoorF19
set_option linter.unusedSimpArgs false
set_option linter.unusedVariables false
set_option linter.unnecessarySimpa false
namespace Go.Proofs.YtbanogfljpkbkaaGreatDoor
section
open Go.RowKit
set_option maxRecDepth 100000
theorem strNe {a b : List UInt8} (h : a ≠ b) : ((⟨a.toArray⟩ : ByteArray).toList == (⟨b.toArray⟩ : ByteArray).toList) = false := by
 rw [beq_eq_false_iff_ne, ByteArray.toList_eq, ByteArray.toList_eq]
 simpa using h
theorem joinB_one {i : Nat} {path : List (List UInt8)} (h : path.length = 1) : joinB i path = true := by rw [joinB, h]; rfl
theorem joinB_two {i : Nat} {path : List (List UInt8)} (h : path.length = 2) : joinB i path = (cutB (path.getD 1 []) (i / 16) == nodeH 0 (path.getD 0 [])) := by
 rw [joinB, h]
 simp [joinK, joinAt, List.range_succ]
theorem cut_rd {w : World} {g o : Nat} {b : List UInt8} (h : Rd w (some ⟨g, o, none⟩) (bvs b)) (i : Nat) : Rd w (some ⟨g, o + 32 * (i % 16), none⟩) (bvs (cutB b i)) := by
 have := (h.drop (32 * (i % 16))).take 32
 rw [← bvs_drop, ← bvs_take] at this
 simpa [addr_add, cutB] using this
theorem cut_len {b : List UInt8} (h : b.length = 512) (i : Nat) : (cutB b i).length = 32 := by
 unfold cutB
 have := Nat.mod_lt i (show 0 < 16 by decide)
 rw [List.length_take, List.length_drop, h]
 omega
section
variable {w w' : World} {A : Option Addr} {m c n i : Nat} {vs : List Value} {path : List (List UInt8)}
set_option maxHeartbeats 2000000 in
theorem trJoined_any (h : PathW w A m c vs n path) (hi : i ≤ 4096) (hK : KG w) (hc : c ≤ 9223372036854775807) :
  Calls Tryz.prog 82 #[.int .i64 i, .slice A m c] w fun e w' => e = .returned (.bool (joinB i path)) ∧ Fr [] w w' := by
 have hm := h.mb
 have hcm := h.c
 have hlen := h.len
 have HH := Lib.hid h
 have hm2 : m = 1 ∨ m = 2 := by omega
 clear h
 rcases hm2 with rfl | rfl
 ·have HJ := Lib.hid (joinB_one (i := i) hlen)
  rw [HJ.out]
  clear hlen
  by_cases hc1 : c = 1
  ·subst hc1
   go_enter Tryz.func82, Tryz.ntmps82
   go_wp2_with fail
   go_loop [11] (fun i => i = .int .i64 0) (fun i => 1 - (intOf i).toNat)
   case atStart => rfl
   case round =>
    subst hrel
    go_wp2_with fail
    go_ret
    exact ⟨rfl, Fr.refl _ _⟩
  ·go_enter Tryz.func82, Tryz.ntmps82
   go_wp2_with fail
   go_loop [11] (fun i => i = .int .i64 0) (fun i => 1 - (intOf i).toNat)
   case atStart => rfl
   case round =>
    subst hrel
    go_wp2_with fail
    go_ret
    exact ⟨rfl, Fr.refl _ _⟩
 ·have HJ := Lib.hid (joinB_two (i := i) hlen)
  obtain ⟨g, o, g1, o1, c1, eA, -⟩ := HH.out.at (k := 0) (by omega)
  cases eA
  have N1 : ¬ (c = 1) := by omega
  obtain ⟨j, hj⟩ : ∃ j, i / 16 = j := ⟨_, rfl⟩
  have E1 : (i : Int) / 16 = (j : Int) := by omega
  have hj2 : j ≤ 4096 := by omega
  rw [hj] at HJ
  obtain ⟨b0, hb0⟩ : ∃ b0, path.getD 0 [] = b0 := ⟨_, rfl⟩
  obtain ⟨b1, hb1⟩ : ∃ b1, path.getD 1 [] = b1 := ⟨_, rfl⟩
  obtain ⟨N, hN⟩ : ∃ N, nodeH 0 b0 = N := ⟨_, rfl⟩
  rw [hb0, hb1, hN] at HJ
  have HB := Lib.hid (And.intro hb0 (And.intro hb1 hN))
  have HNL := Lib.hid (show N.length = 32 by rw [← hN]; exact shaSum_length _)
  clear hlen hj hb0 hb1 hN
  go_enter Tryz.func82, Tryz.ntmps82
  go_wp2_with fail
  go_loopw [0, 11] (fun t i' wr => Fr [] w wr ∧ ((t = .int .i64 i ∧ i' = .int .i64 0) ∨ (i' = .int .i64 1 ∧ cutB b1 j = N))) (fun _ i' _ => 2 - (intOf i').toNat)
  case atStart => exact ⟨Fr.refl _ _, .inl ⟨rfl, rfl⟩⟩
  case round =>
   obtain ⟨F, ⟨rfl, rfl⟩ | ⟨rfl, hcN⟩⟩ := hrel
   ·obtain ⟨g', o', ga, oa, ca, e0, ck0, hca, ra, la, -⟩ := (HH.out.keep_nil F).at (k := 0) (by omega)
    cases e0
    obtain ⟨g', o', gb, ob, cb, e1, ck1, hcb, rb, lb, -⟩ := (HH.out.keep_nil F).at (k := 1) (by omega)
    cases e1
    rw [Nat.add_zero] at ck0
    rw [HB.out.1] at ra la
    rw [HB.out.2.1] at rb lb
    have cn := trNode_any 0 (by omega) (some ⟨ga, oa, none⟩) b0 512 ca wr la ra (by simp) hca (by omega) (hK.keep F)
    rw [show nodeH (UInt8.ofNat 0) b0 = N from HB.out.2.2, show ((0 : Nat) : Int) = 0 from rfl] at cn
    have rc := cut_rd rb j
    have lc := cut_len lb j
    have HCT := Lib.hid (And.intro rc lc)
    clear ra la rb lb rc lc
    go_wp2_with fail
    refine cn.mono ?_
    rintro e w2 ⟨rfl, f2⟩
    have F2 := F.trans_nil f2
    have HCC := Lib.hid (HCT.out.1.keep_nil f2)
    clear cn ck0
    replace ck1 := f2.cell (by simp) ck1
    clear f2 F
    go_upto_region 6 with
     (first
      | (refine wpList_alS stA32 (o := ⟨some 7, _, _, _, _, _⟩) rfl rfl ?_; intro w3 h3 f3 z3; have Z3 := Lib.hid z3; clear z3; obtain ⟨g3, hg3⟩ : ∃ g3, w2.heap.size = g3 := ⟨_, rfl⟩; rw [hg3] at h3; rw [hg3]; have HG3 := Lib.hid hg3; clear hg3)
      | (refine wpList_stB stA32 rfl rfl g3 rfl (bvs N) rfl (by rw [bvs_length, HNL.out]) (bvs_one _) (bvs (zB 32)) rfl h3 ?_; intro w4 h4 f4 z4; have Z4 := Lib.hid z4; clear z4))
    have f5 : Fr [] w2 w4 := f3.trans f4 (fun i hi => .inr (by have := HG3.out; simp at hi; omega))
    have F4 := F2.trans_nil f5
    have E3 := fun q => strB (w4.drewN q) _ (cutB b1 j) 32 (cb - 32 * (j % 16)) HCT.out.2 ((HCC.out.keep_nil f5).keep_nil ((Fr.refl [] _).drewN q)) (by simp)
    have E4 := fun q => strB (w4.drewN q) (some ⟨g3, 0, none⟩) N 32 32 HNL.out ((Rd.of_blk h4 0 _ (fun j u hu => by rw [Nat.zero_add]; simpa using hu)).keep_nil ((Fr.refl [] _).drewN q)) (by simp)
    have cch := Lib.hid (fun w => trChild_any gb ob cb j w hcb (by omega))
    clear f3 f4 f5 h3 h4 F2 HCC ck1
    by_cases hcN : cutB b1 j = N
    ·rw [hcN] at E3
     have HCN := Lib.hid hcN
     clear hcN
     go_quiet ((go_at_call 83; exact Calls.quiet_of_same ((cch.out _).mono fun e w' h => ⟨h.1, h.2.symm⟩)))
     go_wp2_with fail
     exact ⟨⟨F4.drewN _, .inr ⟨rfl, HCN.out⟩⟩, by simp [intOf]⟩
    ·have hd := strNe hcN
     obtain ⟨S1, hS1⟩ : ∃ S1 : ByteArray, (⟨(cutB b1 j).toArray⟩ : ByteArray) = S1 := ⟨_, rfl⟩
     obtain ⟨S2, hS2⟩ : ∃ S2 : ByteArray, (⟨N.toArray⟩ : ByteArray) = S2 := ⟨_, rfl⟩
     rw [hS1, hS2] at hd
     rw [hS1] at E3
     rw [hS2] at E4
     have HCN := Lib.hid (show joinB i path = false by rw [HJ.out]; exact beq_eq_false_iff_ne.2 hcN)
     clear hcN hS1 hS2
     go_quiet ((go_at_call 83; exact Calls.quiet_of_same ((cch.out _).mono fun e w' h => ⟨h.1, h.2.symm⟩)))
     go_wp2_with fail
     go_ret
     exact ⟨by rw [HCN.out]; rfl, F4.drewN _⟩
   ·have HCN := Lib.hid (show joinB i path = true by rw [HJ.out, hcN]; exact beq_self_eq_true _)
    clear hcN
    go_wp2_with fail
    go_ret
    exact ⟨by rw [HCN.out]; rfl, F⟩
end
end
section
open Go.RowKit
set_option maxRecDepth 100000
section
variable {w w' : World} {A : Option Addr} {m c n i : Nat} {vs : List Value} {path : List (List UInt8)} {leaf want : List UInt8}
def chkE (b : Bool) : Int := if b then 0 else 160
set_option maxHeartbeats 4000000 in
theorem trCheck_any (h : PathW w A m c vs n path) (hi : i < n) (hl : leaf.length = 32) (hw : want.length = 32) (hK : KG w) (hc : c ≤ 9223372036854775807) :
  Calls Tryz.prog 80 #[.int .i64 n, .int .i64 i, .agg (bvs leaf).toArray, .slice A m c, .agg (bvs want).toArray] w fun e w' => e = .returned (.int .i64 (chkE (okP n i leaf path want))) ∧ Fr [] w w' := by
 have HH := Lib.hid h
 have HWL := Lib.hid hw
 have HLL := Lib.hid hl
 have hm := h.mb
 have hn := h.n
 have HOK := Lib.hid (show okP n i leaf path want = ((rootP n path == want) && (cutB (path.getD 0 []) i == leaf) && joinB i path) from rfl)
 obtain ⟨R, hR⟩ : ∃ R, rootP n path = R := ⟨_, rfl⟩
 obtain ⟨b0, hb0⟩ : ∃ b, path.getD 0 [] = b := ⟨_, rfl⟩
 obtain ⟨J, hJ⟩ : ∃ J, joinB i path = J := ⟨_, rfl⟩
 have hRL : R.length = 32 := by rw [← hR]; exact shaSum_length _
 rw [hR, hb0, hJ] at HOK
 have HR := Lib.hid (And.intro hR (And.intro hb0 hJ))
 have HRL := Lib.hid hRL
 have cr := fun w1 (f : Fr [] w w1) => trRootP_any (h.keep_nil f) (hK.keep f)
 unfold RootC at cr
 rw [hR] at cr
 have CR := Lib.hid cr
 have d0 : (i : Int) < n := by omega
 clear h hl hw hR hb0 hJ hRL cr hi
 go_enter Tryz.func80, Tryz.ntmps80
 go_wp2_with
  (first
   | (refine wpList_boxS (o := ⟨some 7, _, _, _, _, _⟩) rfl rfl (bvs leaf) rfl ?_; intro w1 h7 f1 z1; have Z1 := Lib.hid z1; clear z1; obtain ⟨g7, hg7⟩ : ∃ g, w.heap.size = g := ⟨_, rfl⟩; rw [hg7] at h7; rw [hg7]; have HG7 := Lib.hid hg7; clear hg7)
   | (refine wpList_boxS (o := ⟨some 9, _, _, _, _, _⟩) rfl rfl (bvs want) rfl ?_; intro w2 h9 f2 z2; have Z2 := Lib.hid z2; clear z2; obtain ⟨g9, hg9⟩ : ∃ g, w1.heap.size = g := ⟨_, rfl⟩; rw [hg9] at h9; rw [hg9]; have HG9 := Lib.hid hg9; clear hg9; have h7 := h7.keep_nil f2)
   | fail)
 have F2 := f1.trans_nil f2
 refine (CR.out w2 F2).mono ?_
 rintro e w3 ⟨rfl, f3⟩
 have F3 := F2.trans_nil f3
 replace h7 := h7.keep_nil f3
 replace h9 := h9.keep_nil f3
 clear f1 f2 f3 F2
 go_upto_region 4 with
  (first
   | (refine wpList_alS stA32 (o := ⟨some 11, _, _, _, _, _⟩) rfl rfl ?_; intro w4 h11 f4 z4; have Z4 := Lib.hid z4; clear z4; obtain ⟨g11, hg11⟩ : ∃ g, w3.heap.size = g := ⟨_, rfl⟩; rw [hg11] at h11; rw [hg11]; have HG11 := Lib.hid hg11; clear hg11)
   | (refine wpList_stB stA32 rfl rfl g11 rfl (bvs R) rfl (by rw [bvs_length, HRL.out]) (bvs_one _) (bvs (zB 32)) rfl h11 ?_; intro w5 h11' f5 z5; have Z5 := Lib.hid z5; clear z5)
   | fail)
 have f6 : Fr [] w3 w5 := f4.trans f5 (fun i hi => .inr (by have := HG11.out; simp at hi; omega))
 have F5 := F3.trans_nil f6
 replace h7 := h7.keep_nil f6
 replace h9 := h9.keep_nil f6
 obtain ⟨g, o, gb, ob, cb, rfl, ck, hcb, rb, lb, -⟩ := (HH.out.keep_nil F5).at (k := 0) (by omega)
 rw [HR.out.2.1] at rb lb
 rw [Nat.add_zero] at ck
 have rc := cut_rd rb i
 have lc := cut_len lb i
 obtain ⟨wD, hwD⟩ : ∃ wD, w5.drew = wD := ⟨_, rfl⟩
 have fD : Fr [] w5 wD := by rw [← hwD]; exact (Fr.refl [] w5).drew
 have mkS : ∀ w', Fr [] wD w' → (Fr [] wD w' ∧ w'.cell? ⟨g, o, none⟩ = some (.slice (some ⟨gb, ob, none⟩) 512 cb) ∧ (convert 27 9 (.slice (some ⟨gb, ob + 32 * (i % 16), none⟩) 32 (cb - 32 * (i % 16)))).run Tryz.prog w' = .ok (.string ⟨(cutB b0 i).toArray⟩) w' ∧ (convert 27 9 (.slice (some ⟨g7, 0, none⟩) 32 32)).run Tryz.prog w' = .ok (.string ⟨leaf.toArray⟩) w') := fun w' f => by
  have f' := fD.trans_nil f
  exact ⟨f, f'.cell (by simp) ck, strB w' _ (cutB b0 i) 32 _ lc (rc.keep_nil f') (by simp), strB w' _ leaf 32 32 HLL.out ((Rd.of_blk h7 0 _ (fun j u hu => by rw [Nat.zero_add]; simpa using hu)).keep_nil f') (by simp)⟩
 have MK := Lib.hid mkS
 have HF := Lib.hid (And.intro (F5.trans_nil fD) (And.intro (h7.keep_nil fD) (And.intro (h9.keep_nil fD) (h11'.keep_nil fD))))
 have hS0 := mkS wD (Fr.refl _ _)
 have cch := Lib.hid (fun w => trChild_any gb ob cb i w hcb (by omega))
 have hpos : 0 < m := by omega
 clear mkS fD f4 f5 f6 h11 h11' h7 h9 rb lb rc lc ck F3 F5
 by_cases hrw : R = want
 ·have HRW := Lib.hid (show (R == want) = true by rw [hrw]; exact beq_self_eq_true _)
  by_cases hcl : cutB b0 i = leaf
  ·have HCL := Lib.hid hcl
   have HE := Lib.hid (show chkE (okP n i leaf path want) = chkE J by rw [HOK.out, HRW.out, hcl]; simp)
   have cj := fun (w' : World) (f : Fr [] wD w') => trJoined_any (i := i) (HH.out.keep_nil (HF.out.1.trans_nil f)) (by omega) (hK.keep (HF.out.1.trans_nil f)) hc
   rw [HR.out.2.2] at cj
   have CJ := Lib.hid cj
   rw [hcl] at hS0 MK
   clear hrw hcl cj
   as_aux_lemma =>
    refine wp_region_held_drew (S := fun w' => Fr [] wD w' ∧ w'.cell? ⟨g, o, none⟩ = some (.slice (some ⟨gb, ob, none⟩) 512 cb) ∧ (convert 27 9 (.slice (some ⟨gb, ob + 32 * (i % 16), none⟩) 32 (cb - 32 * (i % 16)))).run Tryz.prog w' = .ok (.string ⟨leaf.toArray⟩) w' ∧ (convert 27 9 (.slice (some ⟨g7, 0, none⟩) 32 32)).run Tryz.prog w' = .ok (.string ⟨leaf.toArray⟩) w') (by kernel_rfl) (by rw [hwD]; exact hS0) (fun hHeld => ?_)
    rw [hwD] at hHeld ⊢
    clear hS0 hwD
    refine tw 0 32 hHeld ?_ (v := .agg (bvs R).toArray) (hy := (fun w hSw => hy_ld stA32 rfl g11 0 rfl (bvs R) (by rw [bvs_length, HRL.out]) ((HF.out.2.2.2).keep_nil hSw.1).range0))
    refine tw 1 33 hHeld ?_ (v := .agg (bvs want).toArray) (hy := (fun w hSw => hy_ld stA32 rfl g9 0 rfl (bvs want) (by rw [bvs_length, HWL.out]) ((HF.out.2.2.1).keep_nil hSw.1).range0))
    refine tw 2 34 hHeld ?_ (v := .bool false) (hy := (fun w hSw => hy_eq stA32 rfl (.inr rfl) rfl rfl (!false) ((eq_bytes 9998 Tryz.underlying39 Tryz.underlying5 (by kernel_rfl) R want HRL.out HWL.out).trans (by rw [HRW.out]; rfl))))
    refine tw 3 35 hHeld ?_
    refine tw 4 36 hHeld ?_
    refine tw 5 37 hHeld ?_
    refine tw 6 38 hHeld ?_
    refine tw 7 39 hHeld ?_
    refine tw 10 42 hHeld ?_
    refine tw 11 43 hHeld ?_
    refine tc 8 (fun K hK => ?_)
    go_simp
    refine ((cch.out _)).mono ?_
    rintro e w' ⟨rfl, rfl⟩
    refine hK.out _ _ hHeld (fun hHn => ?_)
    clear hHn
    clear hK K
    try simp only [Act.put, p1, p2, p3]
    refine tw 9 41 hHeld ?_
    refine tw 12 44 hHeld ?_
    refine tw 13 45 hHeld ?_
    refine tw 14 46 hHeld ?_
    refine tw 15 47 hHeld ?_
    refine tw 16 48 hHeld ?_
    refine tc 17 (fun K hK => ?_)
    go_simp
    refine (CJ.out _ hHeld.1).mono ?_
    rintro e w' ⟨rfl, fq⟩
    have hHx := MK.out _ (hHeld.1.trans_nil fq)
    refine hK.out _ _ hHx (fun hHy => ?_)
    clear hK fq hHeld hHy
    have hHeld := hHx
    clear hHx
    try simp only [Act.put, p1, p2, p3]
    refine tw 18 50 hHeld ?_
    refine tw 19 51 hHeld ?_
    refine tw 20 31 hHeld ?_
    refine wpAnyH_done (by kernel_rfl) ?_ _
    cases J
    ·go_wp2_with fail
     go_ret
     exact ⟨by rw [HE.out]; rfl, HF.out.1.trans_nil hHeld.1⟩
    ·go_wp2_with fail
     go_ret
     exact ⟨by rw [HE.out]; rfl, HF.out.1.trans_nil hHeld.1⟩
  ·have hd := strNe hcl
   have HE := Lib.hid (show chkE (okP n i leaf path want) = 160 by rw [HOK.out, HRW.out, beq_eq_false_iff_ne.2 hcl]; rfl)
   obtain ⟨S1, hS1⟩ : ∃ S1 : ByteArray, (⟨(cutB b0 i).toArray⟩ : ByteArray) = S1 := ⟨_, rfl⟩
   obtain ⟨S2, hS2⟩ : ∃ S2 : ByteArray, (⟨leaf.toArray⟩ : ByteArray) = S2 := ⟨_, rfl⟩
   rw [hS1, hS2] at hd hS0
   clear hrw hcl MK hS1 hS2
   as_aux_lemma =>
    refine wp_region_held_drew (S := fun w' => Fr [] wD w' ∧ w'.cell? ⟨g, o, none⟩ = some (.slice (some ⟨gb, ob, none⟩) 512 cb) ∧ (convert 27 9 (.slice (some ⟨gb, ob + 32 * (i % 16), none⟩) 32 (cb - 32 * (i % 16)))).run Tryz.prog w' = .ok (.string S1) w' ∧ (convert 27 9 (.slice (some ⟨g7, 0, none⟩) 32 32)).run Tryz.prog w' = .ok (.string S2) w') (by kernel_rfl) (by rw [hwD]; exact hS0) (fun hHeld => ?_)
    rw [hwD] at hHeld ⊢
    clear hS0 hwD
    refine tw 0 32 hHeld ?_ (v := .agg (bvs R).toArray) (hy := (fun w hSw => hy_ld stA32 rfl g11 0 rfl (bvs R) (by rw [bvs_length, HRL.out]) ((HF.out.2.2.2).keep_nil hSw.1).range0))
    refine tw 1 33 hHeld ?_ (v := .agg (bvs want).toArray) (hy := (fun w hSw => hy_ld stA32 rfl g9 0 rfl (bvs want) (by rw [bvs_length, HWL.out]) ((HF.out.2.2.1).keep_nil hSw.1).range0))
    refine tw 2 34 hHeld ?_ (v := .bool false) (hy := (fun w hSw => hy_eq stA32 rfl (.inr rfl) rfl rfl (!false) ((eq_bytes 9998 Tryz.underlying39 Tryz.underlying5 (by kernel_rfl) R want HRL.out HWL.out).trans (by rw [HRW.out]; rfl))))
    refine tw 3 35 hHeld ?_
    refine tw 4 36 hHeld ?_
    refine tw 5 37 hHeld ?_
    refine tw 6 38 hHeld ?_
    refine tw 7 39 hHeld ?_
    refine tw 10 42 hHeld ?_
    refine tw 11 43 hHeld ?_
    refine tc 8 (fun K hK => ?_)
    go_simp
    refine ((cch.out _)).mono ?_
    rintro e w' ⟨rfl, rfl⟩
    refine hK.out _ _ hHeld (fun hHn => ?_)
    clear hHn
    clear hK K
    try simp only [Act.put, p1, p2, p3]
    refine tw 9 41 hHeld ?_
    refine tw 12 44 hHeld ?_
    refine tw 13 45 hHeld ?_
    refine tw 14 46 hHeld ?_
    refine tu 15 47 hHeld ?_
    refine tu 16 48 hHeld ?_
    refine tu 17 49 hHeld ?_
    refine tu 18 50 hHeld ?_
    refine tw 19 51 hHeld ?_
    refine tw 20 31 hHeld ?_
    refine wpAnyH_done (by kernel_rfl) ?_ _
    go_wp2_with fail
    go_ret
    exact ⟨by rw [HE.out]; rfl, HF.out.1.trans_nil hHeld.1⟩
 ·have HRW := Lib.hid (show (R == want) = false from beq_eq_false_iff_ne.2 hrw)
  have HE := Lib.hid (show chkE (okP n i leaf path want) = 160 by rw [HOK.out, HRW.out]; rfl)
  clear hrw
  as_aux_lemma =>
   refine wp_region_held_drew (S := fun w' => Fr [] wD w' ∧ w'.cell? ⟨g, o, none⟩ = some (.slice (some ⟨gb, ob, none⟩) 512 cb) ∧ (convert 27 9 (.slice (some ⟨gb, ob + 32 * (i % 16), none⟩) 32 (cb - 32 * (i % 16)))).run Tryz.prog w' = .ok (.string ⟨(cutB b0 i).toArray⟩) w' ∧ (convert 27 9 (.slice (some ⟨g7, 0, none⟩) 32 32)).run Tryz.prog w' = .ok (.string ⟨leaf.toArray⟩) w') (by kernel_rfl) (by rw [hwD]; exact hS0) (fun hHeld => ?_)
   rw [hwD] at hHeld ⊢
   clear hS0 hwD
   refine tw 0 32 hHeld ?_ (v := .agg (bvs R).toArray) (hy := (fun w hSw => hy_ld stA32 rfl g11 0 rfl (bvs R) (by rw [bvs_length, HRL.out]) ((HF.out.2.2.2).keep_nil hSw.1).range0))
   refine tw 1 33 hHeld ?_ (v := .agg (bvs want).toArray) (hy := (fun w hSw => hy_ld stA32 rfl g9 0 rfl (bvs want) (by rw [bvs_length, HWL.out]) ((HF.out.2.2.1).keep_nil hSw.1).range0))
   refine tw 2 34 hHeld ?_ (v := .bool true) (hy := (fun w hSw => hy_eq stA32 rfl (.inr rfl) rfl rfl (!true) ((eq_bytes 9998 Tryz.underlying39 Tryz.underlying5 (by kernel_rfl) R want HRL.out HWL.out).trans (by rw [HRW.out]; rfl))))
   refine tw 3 35 hHeld ?_
   refine tu 4 36 hHeld ?_
   refine tu 5 37 hHeld ?_
   refine tu 6 38 hHeld ?_
   refine tu 7 39 hHeld ?_
   refine tu 8 40 hHeld ?_
   refine tu 9 41 hHeld ?_
   refine tu 10 42 hHeld ?_
   refine tu 11 43 hHeld ?_
   refine tu 12 44 hHeld ?_
   refine tw 13 45 hHeld ?_
   refine tw 14 46 hHeld ?_
   refine tu 15 47 hHeld ?_
   refine tu 16 48 hHeld ?_
   refine tu 17 49 hHeld ?_
   refine tu 18 50 hHeld ?_
   refine tw 19 51 hHeld ?_
   refine tw 20 31 hHeld ?_
   refine wpAnyH_done (by kernel_rfl) ?_ _
   go_wp2_with fail
   go_ret
   exact ⟨by rw [HE.out]; rfl, HF.out.1⟩
end
end
section
open Go.RowKit
set_option maxRecDepth 100000
end
end Go.Proofs.YtbanogfljpkbkaaGreatDoor
