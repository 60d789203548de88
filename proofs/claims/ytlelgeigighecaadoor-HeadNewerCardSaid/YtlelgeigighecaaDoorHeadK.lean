/-
  Contracts of layer 11: the reference's Layout.
-/
import Derived.Test.YtlelgeigighecaaDoorHeadJ
set_option linter.unusedSimpArgs false
set_option linter.unusedVariables false
set_option linter.unnecessarySimpa false
namespace Go.Proofs.YtlelgeigighecaaDoor
open Go.RowKit

/-- Where the reference's loop stands (what comes next is already told). -/
def XSt (s : Nat) (done : List Nat) (cur : Nat) : Prop := (done = [] ∧ cur = oneN s) ∨ (done = [oneN s] ∧ cur = 1 ∧ 1 < oneN s)
theorem XSt.next {s : Nat} {done : List Nat} {cur : Nat} (hs : 1 ≤ s ∧ s ≤ 1024) (h : XSt s done cur) : done.length ≤ 1 ∧ cur ≤ 8 ∧ sumL done ≤ 8 ∧ ((1 < cur ∧ XSt s (done ++ [cur]) 1 ∧ (cur + 15) / 16 = 1) ∨ (cur = 1 ∧ done ++ [cur] = levN s)) := by
  have b2 := oneN_b hs
  rcases h with ⟨rfl, rfl⟩ | ⟨rfl, rfl, h⟩
  · refine ⟨by simp, by omega, by simp [sumL], ?_⟩
    by_cases h1 : 1 < oneN s
    · exact .inl ⟨h1, .inr ⟨rfl, rfl, h1⟩, by omega⟩
    · have h2 : oneN s = 1 := by omega
      exact .inr ⟨h2, by rw [levN, if_pos h2, h2]; rfl⟩
  · exact ⟨by simp, by omega, by rw [sumL_one]; omega, .inr ⟨rfl, by rw [levN, if_neg (by omega)]; rfl⟩⟩


set_option maxRecDepth 100000 in
set_option maxHeartbeats 4000000 in
theorem xhLayout_any (w : World) (h : HeadM) (hs : h.ok) : Calls Tryd.prog 16 #[.agg h.cells.toArray] w (LayH w h) := by
  cases hg : h.good
  · have HG := Lib.hid hg
    have cc := fun w => xhCheck_any h hs w
    rw [hg] at cc
    have CC := Lib.hid cc
    clear cc hg
    go_enter Tryd.func16, Tryd.ntmps16
    go_wp2_with
      (first
        | (refine wpList_boxS rfl rfl h.cells rfl ?_; intro w1 h1 f1 z1; have Z1 := Lib.hid z1; clear z1; obtain ⟨g, hg⟩ : ∃ g, w.heap.size = g := ⟨_, rfl⟩; rw [hg] at h1; rw [hg]; have HGG := Lib.hid hg; clear hg)
        | (refine wpList_alS stLay (o := ⟨some 2, _, _, _, _, _⟩) rfl rfl ?_; intro w2 h2 f2 z2; have Z2 := Lib.hid z2; clear z2; obtain ⟨g2, hg2⟩ : ∃ g2, w1.heap.size = g2 := ⟨_, rfl⟩; rw [hg2] at h2; rw [hg2]; have HG2 := Lib.hid hg2; clear hg2; have h1 := h1.keep_nil f2)
        | (refine wpList_ldS stHead rfl rfl g 0 rfl h.cells (HeadM.len hs) h1.range0 ?_))
    refine (CC.out _).mono ?_
    rintro e w3 ⟨rfl, f3⟩
    rw [show errG false 1 = 1 from rfl]
    have i2 := h2.keep_nil f3
    have z0 := HGG.out
    have z2 := HG2.out
    have s1 := f1.size
    go_wp2_with
      (first
        | (refine wpList_bld rfl rfl (.agg zeroL.toArray) ?_ ?_; exact layZero _)
        | (refine wpList_stB stLay rfl rfl g2 rfl zeroL rfl rfl layC_ones zeroL rfl i2 ?_; intro wc hc fc zc))
    try simp only [Exit.inBlock, Exit.then]
    refine bodyPost_ret (results_cell2 stLay rfl rfl rfl hc) rfl ?_
    exact ⟨.slice none 0 0, by rw [HG.out]; rfl, by rw [HG.out]; exact Row.nil _ _ _ _, ((f1.trans_nil f2).trans_nil f3).trans fc (fun i hi => .inr (by simp at hi; omega))⟩
  · have HG := Lib.hid hg
    have I := HeadM.in_of hg
    obtain ⟨ns, nl, nj, ne, nt, nm, na, NN⟩ := HeadM.nat_of I
    have HN := Lib.hid NN
    have B1 := NN.bs
    have B2 := NN.bl
    have B3 := NN.bj
    have cc := fun w => xhCheck_any h hs w
    rw [hg] at cc
    have CC := Lib.hid cc
    clear cc hg I NN
    obtain ⟨k1, hk1⟩ : ∃ k : Nat, k = 2 + nl := ⟨_, rfl⟩
    obtain ⟨k2, hk2⟩ : ∃ k : Nat, k = 3 + nl := ⟨_, rfl⟩
    obtain ⟨k3, hk3⟩ : ∃ k : Nat, k = 4 + nl := ⟨_, rfl⟩
    obtain ⟨k4, hk4⟩ : ∃ k : Nat, k = 4 + nl + nj := ⟨_, rfl⟩
    have E1 : (2 : Int) + (nl : Int) = (k1 : Int) := by omega
    have E2 : (3 : Int) + (nl : Int) = (k2 : Int) := by omega
    have E3 : (4 : Int) + (nl : Int) = (k3 : Int) := by omega
    have E4 : (k3 : Int) + (nj : Int) = (k4 : Int) := by omega
    have HK := Lib.hid (And.intro hk1 (And.intro hk2 (And.intro hk3 hk4)))
    have K3 : k3 ≤ 12 := by omega
    have K4 : k4 ≤ 300 := by omega
    clear hk1 hk2 hk3 hk4
    go_enter Tryd.func16, Tryd.ntmps16
    go_wp2_with
      (first
        | (refine wpList_boxS rfl rfl h.cells rfl ?_; intro w1 h1 f1 z1; have Z1 := Lib.hid z1; clear z1; obtain ⟨g, hg⟩ : ∃ g, w.heap.size = g := ⟨_, rfl⟩; rw [hg] at h1; rw [hg]; have HGG := Lib.hid hg; clear hg)
        | (refine wpList_alS stLay (o := ⟨some 2, _, _, _, _, _⟩) rfl rfl ?_; intro w2 h2 f2 z2; have Z2 := Lib.hid z2; clear z2; obtain ⟨g2, hg2⟩ : ∃ g2, w1.heap.size = g2 := ⟨_, rfl⟩; rw [hg2] at h2; rw [hg2]; have HG2 := Lib.hid hg2; clear hg2; have h1 := h1.keep_nil f2)
        | (refine wpList_ldS stHead rfl rfl g 0 rfl h.cells (HeadM.len hs) h1.range0 ?_))
    refine (CC.out _).mono ?_
    rintro e w3 ⟨rfl, f3⟩
    rw [show errG true 1 = 0 from rfl]
    have i2 := h2.keep_nil f3
    have i1 := h1.keep_nil f3
    have F3 := (f1.trans_nil f2).trans_nil f3
    have z0 := HGG.out
    have z2 := HG2.out
    have s1 := h1.lt
    have s2 := i2.lt
    have s3 := f1.size
    clear h1 h2 f1 f2 f3
    obtain ⟨-, -, c2, c3, -, -, -, -⟩ := head_cellsN HN.out i1
    go_upto_region 4 with
      (first
        | (refine wpList_bldK (o := ⟨some 26, _, _, _, _, _⟩) rfl rfl #[(0, .int .i64 2), (1, .int .i64 (k1 : Int)), (2, .int .i64 (k2 : Int)), (3, .int .i64 (k3 : Int)), (4, .int .i64 (k4 : Int))] (by kernel_rfl) (.agg (layC 2 k1 k2 k3 k4 (.slice none 0 0) 0 0 0).toArray) (layFive _ k1 k2 k3 k4) ?_)
        | (refine wpList_alS stLay (o := ⟨some 4, _, _, _, _, _⟩) rfl rfl ?_; intro w4 h4 f4 z4; have Z4 := Lib.hid z4; clear z4; obtain ⟨g5, hg5⟩ : ∃ g5, w3.heap.size = g5 := ⟨_, rfl⟩; rw [hg5] at h4; rw [hg5]; have HG5 := Lib.hid hg5; clear hg5)
        | (refine wpList_stB stLay rfl rfl g5 rfl (layC 2 k1 k2 k3 k4 (.slice none 0 0) 0 0 0) rfl rfl layC_ones zeroL rfl h4 ?_; intro w5 h5 f5 z5; have Z5 := Lib.hid z5; clear z5))
    have ne1 : g < g5 := by have := HG5.out; omega
    have ne3 : g2 < g5 := by have := HG5.out; omega
    have j1 := (i1.keep_nil f4).keep f5 (by simp; omega)
    replace i2 := (i2.keep_nil f4).keep f5 (by simp; omega)
    have F : Fr [] w w5 := (F3.trans_nil f4).trans f5 (fun i hi => .inr (by simp at hi; omega))
    clear F3 f4 f5 h4 i1 c2 c3 E1 E2 E3 E4
    obtain ⟨-, c1, -, -, -, -, -, -⟩ := head_cellsN HN.out j1
    go_wp2_with fail
    have cc := xhUp_any ns 8 w5 (by omega) (.inl rfl)
    rw [show ((ns + (8 - 1)) / 8 : Nat) = tagsN ns from rfl] at cc
    refine cc.mono ?_
    clear cc
    rintro e w' ⟨rfl, rfl⟩
    have T0 := tagsN_b B1
    have O0 := oneN_b B1
    obtain ⟨T, hT⟩ : ∃ T, tagsN ns = T := ⟨_, rfl⟩
    have hO : (T + 15) / 16 = oneN ns := by rw [← hT]; rfl
    rw [hT]
    rw [hT] at T0
    have HT := Lib.hid hT
    have HO := Lib.hid hO
    clear hT hO c1
    have e4 := h5.cell 4
    have e6 := h5.cell 6
    have y6 := h5.frozen 6
    simp [layC] at e4 e6
    go_upto_region 6 with fail
    have fs := (Fr.refl [g5] w5).setCell (p := ⟨g5, 6, none⟩) (.inl (by simp)) (.int .i64 (k4 : Int))
    have h6 := h5.set_ 6 (.int .i64 (k4 : Int))
    replace j1 := j1.keep fs (by simp; omega)
    skip
    replace i2 := i2.keep fs (by simp; omega)
    replace F := F.trans fs (fun i hi => .inr (by simp at hi; omega))
    generalize World.setCell w5 ⟨g5, 6, none⟩ (.int .i64 (k4 : Int)) = w6 at *
    clear h5 fs e4 e6 y6
    have h5 : Blk w6 g5 34 (layC 2 k1 k2 k3 k4 (.slice none 0 0) k4 0 0).toArray := h6
    clear h6
    go_wp2_with fail
    have cc := xhUp_any T 16 w6 (by omega) (.inr rfl)
    rw [show ((T + (16 - 1)) / 16 : Nat) = oneN ns from HO.out] at cc
    refine cc.mono ?_
    clear cc
    rintro e w' ⟨rfl, rfl⟩
    go_wp2_with fail
    go_loopw [6] (fun n wr => ∃ done cur A m c, n = .int .i64 ((cur : Nat) : Int) ∧ XSt ns done cur ∧ m = done.length ∧ Blk wr g5 34 (layC 2 k1 k2 k3 k4 (.slice A m c) (k4 + sumL done) 0 0).toArray ∧ Row wr w.heap.size 3 1 (.slice A m c) m (ivs done) ∧ Blk wr g 27 h.cells.toArray ∧ Blk wr g2 34 zeroL.toArray ∧ Fr [] w wr) (fun _ wr => 3 - lenAt wr g5)
    case atStart => exact ⟨[], oneN ns, none, 0, 0, rfl, .inl ⟨rfl, rfl⟩, rfl, h5, Row.nil _ _ _ _, j1, i2, F⟩
    case round =>
      clear h5 j1 i2 F
      obtain ⟨done, cur, A, m, c, rfl, hst, hm, h5, r5, j1, i2, F⟩ := hrel
      subst hm
      obtain ⟨hdl, hcur, hsb, hnext⟩ := hst.next B1
      obtain ⟨S, hS⟩ : ∃ S, k4 + sumL done = S := ⟨_, rfl⟩
      have hS' : k4 + sumL (done ++ [cur]) = S + cur := by rw [sumL_append, sumL_one]; omega
      have HS' := Lib.hid hS'
      have HNX := Lib.hid hnext
      rw [hS] at h5
      have Sb : S ≤ 310 := by omega
      have c5 := h5.cell 5
      have c6 := h5.cell 6
      have y5 := h5.frozen 5
      have y6 := h5.frozen 6
      simp [layC] at c5 c6
      have hlen : lenAt wr g5 = done.length := by simp [lenAt, c5]
      have HLEN := Lib.hid hlen
      obtain ⟨dl, hdl'⟩ : ∃ n, done.length = n := ⟨_, rfl⟩
      rw [hdl'] at h5 r5 c5 hdl
      have HDL := Lib.hid hdl'
      clear hnext hS hS' hst hsb hlen
      go_upto_region 10 with
        (first
          | (at_builtin; refine wpList_app rfl rfl slI w.heap.size _ dl (ivs done) rfl (r5.alloc _) _ 1 1 [_] rfl rfl (Rd.one _ _ _) (by intro u hu; rw [List.mem_singleton.1 hu]; rfl) (fun h => by cases h) (by omega) (by have := F.size; simp; omega) ?_; intro v7 w7 q1 q2 q3 q4; have h7 := (h5.alloc (.cells #[.int .i64 (cur : Int)] 3)).keep q2 (fun hm => r5.ne_blk h5 (by decide) (mem_own.1 hm)); have d5 := h7.cell 5; have d6 := h7.cell 6; have x5 := h7.frozen 5; have x6 := h7.frozen 6; simp [layC] at d5 d6; obtain ⟨A7, cap7, rfl, -, -, -, -, -⟩ := q1.shape))
      have F7 : Fr [] w w7 := (F.alloc _).trans q2 (fun i hi => .inr (r5.lt i (mem_own.1 hi)).1)
      have j7 := (j1.alloc (.cells #[.int .i64 (cur : Int)] 3)).keep q2 (fun hm => r5.ne_blk j1 (by decide) (mem_own.1 hm))
      have i7 := (i2.alloc (.cells #[.int .i64 (cur : Int)] 3)).keep q2 (fun hm => r5.ne_blk i2 (by decide) (mem_own.1 hm))
      have n7 := q1.ne_blk h7 (by decide)
      rw [show ivs done ++ [Value.int .i64 (cur : Int)] = ivs (done ++ [cur]) by rw [ivs_append]; rfl] at q1
      have h8 := (h7.set_ 5 (.slice A7 (dl + 1) cap7)).set_ 6 (.int .i64 ((S : Int) + (cur : Int)))
      have fs : Fr [g5] w7 ((w7.setCell ⟨g5, 5, none⟩ (.slice A7 (dl + 1) cap7)).setCell ⟨g5, 6, none⟩ (.int .i64 ((S : Int) + (cur : Int)))) := ((Fr.refl [g5] w7).setCell (p := ⟨g5, 5, none⟩) (.inl (by simp)) _).setCell (p := ⟨g5, 6, none⟩) (.inl (by simp)) _
      have hl8 : lenAt ((w7.setCell ⟨g5, 5, none⟩ (.slice A7 (dl + 1) cap7)).setCell ⟨g5, 6, none⟩ (.int .i64 ((S : Int) + (cur : Int)))) g5 = dl + 1 := by
        have := h8.cell 5
        simp [layC] at this
        simp [lenAt, this]
      replace j1 := j7.keep fs (by simp; omega)
      replace i2 := i7.keep fs (by simp; omega)
      replace F := F7.trans fs (fun i hi => .inr (by simp at hi; omega))
      replace r5 := q1.keep fs (fun i hi hm => n7 (by rw [hi]; simp at hm; rw [hm]))
      have h9 : Blk ((w7.setCell ⟨g5, 5, none⟩ (.slice A7 (dl + 1) cap7)).setCell ⟨g5, 6, none⟩ (.int .i64 ((S : Int) + (cur : Int)))) g5 34 (layC 2 k1 k2 k3 k4 (.slice A7 (dl + 1) cap7) (S + cur) 0 0).toArray := h8
      have HL8 := Lib.hid hl8
      clear hl8 h8 fs j7 i7 F7 q1 q2 q3 q4 h7 d5 d6 x5 x6 h5 c5 c6 y5 y6
      generalize (w7.setCell ⟨g5, 5, none⟩ (.slice A7 (dl + 1) cap7)).setCell ⟨g5, 6, none⟩ (.int .i64 ((S : Int) + (cur : Int))) = w8 at *
      rcases HNX.out with ⟨h1, hnx, hup⟩ | ⟨h1, hlev⟩
      · have K : ((cur : Int) == 1) = false := by rw [beq_eq_false_iff_ne]; omega
        have HN1 := Lib.hid hnx
        have HUP := Lib.hid hup
        clear h1 hnx hup
        go_wp2_with fail
        have cc := xhUp_any cur 16 w8 (by omega) (.inr rfl)
        rw [show ((cur + (16 - 1)) / 16 : Nat) = 1 from HUP.out] at cc
        refine cc.mono ?_
        clear cc
        rintro e w' ⟨rfl, rfl⟩
        go_wp2_with fail
        refine ⟨⟨done ++ [cur], 1, A7, dl + 1, cap7, rfl, HN1.out, by rw [List.length_append, HDL.out]; rfl, by rw [HS'.out]; exact h9, r5, j1, i2, F⟩, by rw [HL8.out, HLEN.out, HDL.out]; omega⟩
      · subst h1
        obtain ⟨S1, hS1⟩ : ∃ S1, S1 = S + 1 := ⟨_, rfl⟩
        rw [← hS1] at h9
        have S1b : S1 ≤ 311 := by omega
        obtain ⟨S2, hS2⟩ : ∃ S2, S2 = S1 + T := ⟨_, rfl⟩
        obtain ⟨S3, hS3⟩ : ∃ S3, S3 = S2 + ns := ⟨_, rfl⟩
        have E5 : (S1 : Int) + (T : Int) = (S2 : Int) := by omega
        have E6 : (S2 : Int) + (ns : Int) = (S3 : Int) := by omega
        have S2b : S2 ≤ 440 := by omega
        have HS2 := Lib.hid (And.intro hS2 hS3)
        have HS1 := Lib.hid (show k4 + sumL (done ++ [1]) = S1 by rw [HS'.out, hS1])
        have HLV := Lib.hid hlev
        obtain ⟨a, rfl⟩ : ∃ a, A7 = some a := by
          cases A7 with
          | none => exact absurd (r5.rd.2.2 rfl) (by omega)
          | some a => exact ⟨a, rfl⟩
        have h5 := h9
        clear h9 hS1 hS2 hS3 hlev
        have hne5 := r5.ne_blk h5 (by decide)
        have c6 := h5.cell 6
        have c7 := h5.cell 7
        have y7 := h5.frozen 7
        simp [layC] at c6 c7
        go_upto_region 12 with fail
        have fs := (Fr.refl [g5] w8).setCell (p := ⟨g5, 7, none⟩) (.inl (by simp)) (.int .i64 (S2 : Int))
        have h6 := h5.set_ 7 (.int .i64 (S2 : Int))
        replace j1 := j1.keep fs (by simp; omega)
        replace r5 := r5.keep fs (fun i hi hm => hne5 (by rw [hi]; simp at hm; rw [hm]))
        replace i2 := i2.keep fs (by simp; omega)
        replace F := F.trans fs (fun i hi => .inr (by simp at hi; omega))
        generalize World.setCell w8 ⟨g5, 7, none⟩ (.int .i64 (S2 : Int)) = w6 at *
        clear h5 fs c6 c7 y7
        have h5 : Blk w6 g5 34 (layC 2 k1 k2 k3 k4 (.slice (some a) (dl + 1) cap7) S1 S2 0).toArray := h6
        clear h6
        obtain ⟨-, c1, -, -, -, -, -, -⟩ := head_cellsN HN.out j1
        have c7 := h5.cell 7
        have c8 := h5.cell 8
        have y8 := h5.frozen 8
        simp [layC] at c7 c8
        go_upto_region 13 with fail
        have fs := (Fr.refl [g5] w6).setCell (p := ⟨g5, 8, none⟩) (.inl (by simp)) (.int .i64 (S3 : Int))
        have h6 := h5.set_ 8 (.int .i64 (S3 : Int))
        replace j1 := j1.keep fs (by simp; omega)
        replace r5 := r5.keep fs (fun i hi hm => hne5 (by rw [hi]; simp at hm; rw [hm]))
        replace i2 := i2.keep fs (by simp; omega)
        replace F := F.trans fs (fun i hi => .inr (by simp at hi; omega))
        generalize World.setCell w6 ⟨g5, 8, none⟩ (.int .i64 (S3 : Int)) = w6 at *
        clear h5 fs c1 c7 c8 y8
        have h5 : Blk w6 g5 34 (layC 2 k1 k2 k3 k4 (.slice (some a) (dl + 1) cap7) S1 S2 S3).toArray := h6
        clear h6
        go_wp2_with
          (first
            | (refine wpList_ldS stLay rfl rfl g5 0 rfl (layC 2 k1 k2 k3 k4 (.slice (some a) (dl + 1) cap7) S1 S2 S3) rfl h5.range0 ?_)
            | (refine wpList_stB stLay rfl rfl g2 rfl (layC 2 k1 k2 k3 k4 (.slice (some a) (dl + 1) cap7) S1 S2 S3) rfl rfl layC_ones zeroL rfl i2 ?_; intro wc hc fc zc))
        try simp only [Exit.inBlock, Exit.then]
        refine bodyPost_ret (results_cell2 stLay rfl rfl rfl hc) rfl ?_
        obtain ⟨hk1, hk2, hk3, hk4⟩ := HK.out
        have e : layH h.sec.toNat h.slo.toNat h.jou.toNat (.slice (some a) (dl + 1) cap7) = layC 2 k1 k2 k3 k4 (.slice (some a) (dl + 1) cap7) S1 S2 S3 := by
          rw [HN.out.sec, HN.out.slo, HN.out.jou]
          simp only [Int.toNat_natCast]
          unfold layH
          rw [← hk4, ← hk3, ← hk1, ← hk2, ← HLV.out, HS1.out, HT.out, ← HS2.out.1, ← HS2.out.2]
        have e2 : levN h.sec.toNat = done ++ [1] := by rw [HN.out.sec, Int.toNat_natCast, HLV.out]
        refine ⟨.slice (some a) (dl + 1) cap7, by rw [HG.out, if_pos rfl, e]; rfl, ?_, F.trans fc (fun i hi => .inr (by simp at hi; omega))⟩
        rw [HG.out, if_pos rfl, if_pos rfl, e2, List.length_append, HDL.out]
        exact r5.keep fc (fun i hi hm => (r5.ne_blk i2 (by decide)) (by rw [hi]; simp at hm; rw [hm]))
end Go.Proofs.YtlelgeigighecaaDoor
