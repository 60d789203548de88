/-
  HeadParts, the walk: a header's parts lie one behind the other.
-/
import Derived.Test.YtlelgeigighecaaDoorHeadN
import Derived.Test.YtlelgeigighecaaDoorHeadEnc
set_option linter.unusedSimpArgs false
set_option linter.unusedVariables false
set_option linter.unnecessarySimpa false
namespace Go.Proofs.YtlelgeigighecaaDoor
open Go.RowKit

/-- Where the law's loop stands. -/
def PSt (s t k n a : Nat) : Prop := (k = 0 ∧ n = tagsN s ∧ a = t) ∨ (k = 1 ∧ n = oneN s ∧ a = t + oneN s) ∨ (k = 2 ∧ n = 1 ∧ a = t + oneN s + 1 ∧ oneN s ≠ 1)
theorem PSt.next {s t k n a : Nat} (hs : 1 ≤ s ∧ s ≤ 1024) (h : PSt s t k n a) (hk : k < (levN s).length) :
    1 ≤ (levN s)[k] ∧ n ≤ (levN s)[k] * 16 ∧ ((levN s)[k] - 1) * 16 < n ∧ (levN s)[k] ≤ 8 ∧ n ≤ 128 ∧ a ≤ t + 8 ∧ PSt s t (k + 1) (levN s)[k] (a + (levN s)[k]) := by
  have b1 := tagsN_b hs
  have b2 := oneN_b hs
  have bo : oneN s = (tagsN s + 15) / 16 := rfl
  by_cases h1 : oneN s = 1
  · have e : levN s = [1] := by rw [levN, if_pos h1]
    have hk0 : k = 0 := by rw [e] at hk; simp at hk; exact hk
    subst hk0
    have ex : (levN s)[0] = 1 := by simp [e]
    rcases h with ⟨-, rfl, rfl⟩ | ⟨h, -⟩ | ⟨h, -⟩
    · rw [ex]
      exact ⟨by omega, by omega, by omega, by omega, by omega, by omega, .inr (.inl ⟨rfl, h1.symm, by rw [h1]⟩)⟩
    · omega
    · omega
  · have e : levN s = [oneN s, 1] := by rw [levN, if_neg h1]
    have hk2 : k < 2 := by rw [e] at hk; simpa using hk
    rcases h with ⟨rfl, rfl, rfl⟩ | ⟨rfl, rfl, rfl⟩ | ⟨h, -⟩
    · have ex : (levN s)[0] = oneN s := by simp [e]
      rw [ex]
      exact ⟨by omega, by omega, by omega, by omega, by omega, by omega, .inr (.inl ⟨rfl, rfl, rfl⟩)⟩
    · have ex : (levN s)[1] = 1 := by simp [e]
      rw [ex]
      exact ⟨by omega, by omega, by omega, by omega, by omega, by omega, .inr (.inr ⟨rfl, rfl, rfl, h1⟩)⟩
    · omega
theorem PSt.last {s t k n a : Nat} (h : PSt s t k n a) (hs : 1 ≤ s ∧ s ≤ 1024) (hk : k = (levN s).length) : n = 1 ∧ a = t + sumL (levN s) := by
  by_cases h1 : oneN s = 1
  · have e : levN s = [1] := by rw [levN, if_pos h1]
    rw [e] at hk ⊢
    rcases h with ⟨h, -⟩ | ⟨-, rfl, rfl⟩ | ⟨h, -⟩
    · simp at hk; omega
    · exact ⟨h1, by rw [h1]; rfl⟩
    · simp at hk; omega
  · have e : levN s = [oneN s, 1] := by rw [levN, if_neg h1]
    rw [e] at hk ⊢
    rcases h with ⟨h, -⟩ | ⟨h, -⟩ | ⟨-, rfl, rfl, -⟩
    · simp at hk; omega
    · simp at hk; omega
    · exact ⟨rfl, by simp [sumL]; omega⟩
theorem sumLev {s : Nat} (hs : 1 ≤ s ∧ s ≤ 1024) : sumL (levN s) ≤ 9 := by
  have b2 := oneN_b hs
  unfold levN
  split
  · simp [sumL]
  · simp [sumL]; omega

set_option maxRecDepth 100000 in
set_option maxHeartbeats 4000000 in
theorem headPar_any (w : World) (h : HeadM) (hs : h.ok) (hK : KG w) : Calls Tryd.prog 5 #[.agg h.cells.toArray] w fun e w' => e = .returned (.bool true) ∧ Fr [] w w' := by
  cases hg : h.good
  · have HG := Lib.hid hg
    clear hg
    go_enter Tryd.func5, Tryd.ntmps5
    go_wp2_with
      (first
        | (refine wpList_boxS rfl rfl h.cells rfl ?_; intro w1 h1 f1 z1; have Z1 := Lib.hid z1; clear z1; obtain ⟨g, hg⟩ : ∃ g, w.heap.size = g := ⟨_, rfl⟩; rw [hg] at h1; rw [hg]; have HGG := Lib.hid hg; clear hg)
        | (refine wpList_ldS stHead rfl rfl g 0 rfl h.cells (HeadM.len hs) h1.range0 ?_))
    refine (hLayout_any w1 h hs).mono ?_
    intro e w2 hE
    obtain ⟨rfl, f2⟩ := hE.no HG.out
    clear hE
    have h2 := h1.keep_nil f2
    have F2 := f1.trans_nil f2
    go_wp2_with
      (first
        | (refine wpList_alS stLay rfl rfl ?_; intro wa ha fa za; have ZA := Lib.hid za; clear za; obtain ⟨g3, hgg⟩ : ∃ g, w2.heap.size = g := ⟨_, rfl⟩; rw [hgg] at ha; rw [hgg]; have HG3 := Lib.hid hgg; clear hgg)
        | (refine wpList_stB stLay rfl rfl g3 rfl zeroL rfl rfl layC_ones zeroL rfl ha ?_; intro wb hb fb zb; have ZB := Lib.hid zb; clear zb))
    have f0 : Fr [] w2 wb := fa.trans fb (fun i hi => .inr (by have := HG3.out; simp at hi; omega))
    have F3 := F2.trans_nil f0
    have h3 := h2.keep_nil f0
    refine (lives11_any wb (hK.keep F3)).mono ?_
    rintro e w4 ⟨rfl, f4⟩
    have F4 := F3.trans_nil f4
    have h4 := h3.keep_nil f4
    go_wp2_with
      (first
        | (refine wpList_ldS stHead rfl rfl g 0 rfl h.cells (HeadM.len hs) h4.range0 ?_))
    refine (xhCheck_any h hs w4).mono ?_
    rintro e w5 ⟨rfl, f5⟩
    rw [HG.out, show errG false 1 = 1 from rfl]
    go_wp2_with fail
    go_ret
    exact ⟨rfl, F4.trans_nil f5⟩
  · have HG := Lib.hid hg
    have I := HeadM.in_of hg
    obtain ⟨ns, nl, nj, ne, nt, nm, na, NN⟩ := HeadM.nat_of I
    have HN := Lib.hid NN
    have B1 := NN.bs
    have B2 := NN.bl
    have B3 := NN.bj
    clear hg I
    have T0 := tagsN_b B1
    have S0 := sumLev B1
    have T1 : ns ≤ tagsN ns * 8 ∧ (tagsN ns - 1) * 8 < ns := by unfold tagsN; omega
    obtain ⟨T, hT⟩ : ∃ T, tagsN ns = T := ⟨_, rfl⟩
    obtain ⟨k1, hk1⟩ : ∃ k : Nat, 2 + nl = k := ⟨_, rfl⟩
    obtain ⟨k2, hk2⟩ : ∃ k : Nat, 3 + nl = k := ⟨_, rfl⟩
    obtain ⟨k3, hk3⟩ : ∃ k : Nat, 4 + nl = k := ⟨_, rfl⟩
    obtain ⟨k4, hk4⟩ : ∃ k : Nat, 4 + nl + nj = k := ⟨_, rfl⟩
    obtain ⟨S, hS⟩ : ∃ S : Nat, k4 + sumL (levN ns) = S := ⟨_, rfl⟩
    obtain ⟨S2, hS2⟩ : ∃ S2 : Nat, S + T = S2 := ⟨_, rfl⟩
    obtain ⟨S3, hS3⟩ : ∃ S3 : Nat, S2 + ns = S3 := ⟨_, rfl⟩
    have el : ∀ v, layH h.sec.toNat h.slo.toNat h.jou.toNat v = layC 2 k1 k2 k3 k4 v S S2 S3 := by
      intro v
      rw [NN.sec, NN.slo, NN.jou]
      simp only [Int.toNat_natCast]
      unfold layH
      rw [hT, hk4, hk3, hk1, hk2, hS, hS2, hS3]
    have ev : levN h.sec.toNat = levN ns := by rw [NN.sec, Int.toNat_natCast]
    rw [hT] at T0 T1
    have E1 : (2 : Int) + (nl : Int) = (k1 : Int) := by omega
    have E2 : (k1 : Int) + 1 = (k2 : Int) := by omega
    have E3 : (k2 : Int) + 1 = (k3 : Int) := by omega
    have E4 : (k3 : Int) + (nj : Int) = (k4 : Int) := by omega
    have E5 : (S2 : Int) - (S : Int) = (T : Int) := by omega
    have E6 : (S2 : Int) + (ns : Int) = (S3 : Int) := by omega
    have K1 : k1 ≤ 10 := by omega
    have K2 : k2 ≤ 11 := by omega
    have K3 : k3 ≤ 12 := by omega
    have K4 : k4 ≤ 300 := by omega
    have K5 : S2 ≤ 500 := by omega
    have K6 : (S3 : Int) ≤ 4096 := by omega
    have K7 : S ≤ S2 := by omega
    have K8 : (ns : Int) ≤ (T : Int) * 8 := by omega
    have K9 : ((T : Int) - 1) * 8 < (ns : Int) := by omega
    have HS := Lib.hid hS
    have HT := Lib.hid hT
    have HEL := Lib.hid el
    have HEV := Lib.hid ev
    clear NN el ev hk1 hk2 hk3 hk4 hS hS2 hS3 S0 T1 hT
    go_enter Tryd.func5, Tryd.ntmps5
    go_wp2_with
      (first
        | (refine wpList_boxS rfl rfl h.cells rfl ?_; intro w1 h1 f1 z1; have Z1 := Lib.hid z1; clear z1; obtain ⟨g, hg⟩ : ∃ g, w.heap.size = g := ⟨_, rfl⟩; rw [hg] at h1; rw [hg]; have HGG := Lib.hid hg; clear hg)
        | (refine wpList_ldS stHead rfl rfl g 0 rfl h.cells (HeadM.len hs) h1.range0 ?_))
    refine (hLayout_any w1 h hs).mono ?_
    intro e w2 hE
    obtain ⟨A, n, c, rfl, hn, r2, f2⟩ := hE.yes HG.out
    clear hE
    rw [HEL.out]
    rw [HEV.out] at hn r2
    have h2 := h1.keep_nil f2
    have F2 := f1.trans_nil f2
    have hn2 : n ≤ 2 := by rw [← hn]; exact levN_len _
    have HNN := Lib.hid hn
    clear hn h1 f1 f2
    go_wp2_with
      (first
        | (refine wpList_alS stLay rfl rfl ?_; intro wa ha fa za; have ZA := Lib.hid za; clear za; obtain ⟨g3, hgg⟩ : ∃ g, w2.heap.size = g := ⟨_, rfl⟩; rw [hgg] at ha; rw [hgg]; have HG3 := Lib.hid hgg; clear hgg)
        | (refine wpList_stB stLay rfl rfl g3 rfl (layC 2 k1 k2 k3 k4 (.slice A n c) S S2 S3) rfl rfl layC_ones zeroL rfl ha ?_; intro wb hb fb zb; have ZB := Lib.hid zb; clear zb))
    have f0 : Fr [] w2 wb := fa.trans fb (fun i hi => .inr (by have := HG3.out; simp at hi; omega))
    have F3 := F2.trans_nil f0
    have h3 := h2.keep_nil f0
    have r3 := r2.keep_nil f0
    refine (lives11_any wb (hK.keep F3)).mono ?_
    rintro e w4 ⟨rfl, f4⟩
    have F4 := F3.trans_nil f4
    have h4 := h3.keep_nil f4
    have r4 := r3.keep_nil f4
    have b4 := hb.keep_nil f4
    clear f4 f0 F3 F2 h3 h2 r3 r2 hb ha fa fb
    obtain ⟨-, c1, c2, c3, -, -, -, -⟩ := head_cellsN HN.out h4
    have e0 := b4.cell 0
    have e1 := b4.cell 1
    have e2 := b4.cell 2
    have e3 := b4.cell 3
    have e4 := b4.cell 4
    have e5 := b4.cell 5
    have e6 := b4.cell 6
    have e7 := b4.cell 7
    have e8 := b4.cell 8
    simp [layC] at e0 e1 e2 e3 e4 e5 e6 e7 e8
    go_wp2_with fail
    have rdI := r4.rdA
    go_loopw [6, 7, 8] (fun nn aa i wr => ∃ k n' a', k ≤ n ∧ nn = .int .i64 ((n' : Nat) : Int) ∧ aa = .int .i64 ((a' : Nat) : Int) ∧ i = .int .i64 ((k : Nat) : Int) ∧ PSt ns k4 k n' a' ∧ wr = w4) (fun _ _ i _ => n - (intOf i).toNat)
    case atStart => exact ⟨0, T, k4, Nat.zero_le _, rfl, rfl, rfl, .inl ⟨rfl, HT.out.symm, rfl⟩, rfl⟩
    case round =>
      obtain ⟨k, n', a', hk, rfl, rfl, rfl, hst, rfl⟩ := hrel
      by_cases hlt : k < n
      · have hkl : k < (levN ns).length := by rw [HNN.out]; exact hlt
        obtain ⟨g1, o1, rfl, d1⟩ := int_at rdI hkl
        obtain ⟨p1, p2, p3, p4, p5, p6, p7⟩ := hst.next B1 hkl
        generalize (levN ns)[k] = x at *
        have HP := Lib.hid p7
        have q1 : ¬ ((x : Int) < 1) := by omega
        have q2 : ¬ ((x : Int) * 16 < (n' : Int)) := by omega
        have q3 : ((x : Int) - 1) * 16 < (n' : Int) := by omega
        clear hst p7 E1 E2 E3 E4 E5 E6 K6 K8 K9
        as_aux_lemma =>
          go_wp2_with fail
          exact ⟨⟨k + 1, x, a' + x, by omega, rfl, by go_num, by go_num, HP.out, by first | rfl | trivial⟩, by simp [intOf]; omega⟩
      · have hke : k = n := by omega
        obtain ⟨z1, z2⟩ := hst.last B1 (by rw [HNN.out]; exact hke)
        rw [HS.out] at z2
        subst z1 z2 hke
        clear hst rdI r4 hlt
        as_aux_lemma =>
          go_wp2_with fail
          go_ret
          exact ⟨rfl, F4⟩
end Go.Proofs.YtlelgeigighecaaDoor
