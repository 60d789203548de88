/-
  Layer 13 (record): ReadMark and its reference.
-/
import Derived.Test.YtlelgeigighecaaDoorRecB
import Derived.Test.YtlelgeigighecaaDoorCodI
set_option linter.unusedSimpArgs false
set_option linter.unusedVariables false
set_option linter.unnecessarySimpa false
namespace Go.Proofs.YtlelgeigighecaaDoor
open Go.RowKit

def numR (l : List UInt8) : Nat := stUv (stL l false 4) (!inR l false 4) 8
theorem numR_lt (l : List UInt8) : numR l < 18446744073709551616 := stUv_lt _ _ _
theorem numR_512 {l : List UInt8} (h : l.length = 512) : numR l = leN ((l.drop 4).take 8) := by
  have h1 : inR l false 4 = true := by simp [inR, h]
  have h2 : stL l false 4 = l.drop 4 := by simp [stL, h1]
  have h3 : inR (l.drop 4) false 8 = true := by simp [inR, h]
  rw [numR, h1, h2, Bool.not_true, stUv, h3]
  simp [wide]
/-- ReadMark. -/
def rmV (l : List UInt8) : Option Nat := if numR l ≠ 0 ∧ l = markB (numR l) then some (numR l) else none
def RmC (w : World) (l : List UInt8) (e : Ending) (w' : World) : Prop :=
  e = .returned (.tuple #[.int .u64 (((rmV l).getD 0 : Nat) : Int), .int .i64 (errG (rmV l).isSome 110)]) ∧ Fr [] w w'

set_option maxRecDepth 100000 in
set_option maxHeartbeats 4000000 in
theorem rcReadMark_any (w : World) (A : Option Addr) (l : List UInt8) (n c : Nat) (hn : l.length = n) (hr : Rd w A (bvs l)) (hA : A = none → n = 0) (hl : n ≤ 140737488355328) (hK : KG w) :
    Calls Tryd.prog 34 #[.slice A n c] w (RmC w l) := by
  have HN := Lib.hid hn
  have hk := numR_lt l
  obtain ⟨k, hkk⟩ : ∃ k, numR l = k := ⟨_, rfl⟩
  have HKK := Lib.hid hkk
  rw [hkk] at hk
  clear hn hkk
  go_enter Tryd.func34, Tryd.ntmps34
  go_wp2_with fail
  refine (newReader_any A l n c w HN.out hr hA hl).mono ?_
  rintro e w1 ⟨p, G, rfl, x1, f1, z1, g1⟩
  go_wp2_with fail
  refine (rBytes_any x1 4).mono ?_
  rintro e w2 ⟨v2, rfl, r2, x2, f2⟩
  have F2 : Fr [] w w2 := f1.trans f2 (fun i hi => .inr (by simp at hi; omega))
  go_wp2_with fail
  have cc := rUint_any x2 8
  rw [show stUv (stL l false 4) (!inR l false 4) 8 = k from HKK.out] at cc
  refine cc.mono ?_
  clear cc
  rintro e w3 ⟨rfl, x3, f3⟩
  have F3 : Fr [] w w3 := F2.trans f3 (fun i hi => .inr (by simp at hi; omega))
  clear x1 x2 x3 f1 f2 f3 r2 F2
  go_wp2_with fail
  refine (rcMark_any w3 k hk (hK.keep F3)).mono ?_
  rintro e w4 ⟨v, rfl, r4, f4⟩
  have F4 := F3.trans_nil f4
  obtain ⟨A4, c4, rfl, -, -, rd4, -, -⟩ := r4.shape
  have n4 := r4.rd.2.2
  by_cases h0 : k = 0
  · have hv : rmV l = none := by rw [rmV, if_neg (by rw [HKK.out]; exact fun h => h.1 h0)]
    have HV := Lib.hid hv
    rw [show (k != 0) = false by rw [h0]; rfl, show errG false 1 = 1 from rfl]
    clear hv
    go_wp2_with fail
    go_ret2
    exact ⟨by rw [HV.out]; rfl, F4⟩
  · simp only [if_neg h0] at rd4
    simp only [if_neg h0] at n4
    rw [show (k != 0) = true by simpa using h0, show errG true 1 = 0 from rfl, if_neg h0]
    obtain ⟨q, hq⟩ : ∃ q, markB k = q := ⟨_, rfl⟩
    have hql : q.length = 512 := by rw [← hq, markB_len]
    rw [hq] at rd4
    have H0 := Lib.hid h0
    have HQ := Lib.hid (fun _ : Unit => hq)
    have HQL := Lib.hid hql
    clear h0 hq hql r4
    have cc := bytesEq_any A A4 l q n c 512 c4 w4 HN.out (hr.keep_nil F4) hA HQL.out rd4 n4
    cases heq : (l == q)
    · have hv : rmV l = none := by
        rw [rmV, if_neg]
        rw [HKK.out, HQ.out ()]
        intro h
        rw [h.2] at heq
        simp at heq
      have HV := Lib.hid hv
      rw [heq] at cc
      clear hv heq
      go_wp2_with fail
      refine cc.mono ?_
      rintro e w5 ⟨rfl, rfl⟩
      go_wp2_with fail
      go_ret2
      exact ⟨by rw [HV.out]; rfl, F4⟩
    · have hv : rmV l = some k := by
        rw [rmV, if_pos, HKK.out]
        rw [HKK.out, HQ.out ()]
        exact ⟨H0.out, eq_of_beq heq⟩
      have HV := Lib.hid hv
      rw [heq] at cc
      clear hv heq
      go_wp2_with fail
      refine cc.mono ?_
      rintro e w5 ⟨rfl, rfl⟩
      go_wp2_with fail
      go_ret2
      exact ⟨by rw [HV.out]; rfl, F4⟩

set_option maxRecDepth 100000 in
set_option maxHeartbeats 4000000 in
theorem xrcReadMark_any (w : World) (A : Option Addr) (l : List UInt8) (n c : Nat) (hn : l.length = n) (hr : Rd w A (bvs l)) (hA : A = none → n = 0) (hc : n ≤ c) :
    Calls Tryd.prog 37 #[.slice A n c] w (RmC w l) := by
  by_cases h512 : n = 512
  · subst h512
    have HN := Lib.hid hn
    have hk := numR_lt l
    have h5 := numR_512 hn
    obtain ⟨k, hkk⟩ : ∃ k, numR l = k := ⟨_, rfl⟩
    have HKK := Lib.hid hkk
    rw [hkk] at hk h5
    obtain ⟨ga, oa, rfl⟩ : ∃ ga oa, A = some ⟨ga, oa, none⟩ := by
      obtain ⟨g', o', e', -⟩ := hr (by intro h0; have := congrArg List.length h0; rw [bvs_length, hn, List.length_nil] at this; omega)
      exact ⟨g', o', e'⟩
    have rdn : Rd w (some ⟨ga, oa + 4, none⟩) (bvs ((l.drop 4).take 8)) := by
      have := (hr.drop 4).take 8
      rw [← bvs_drop, ← bvs_take] at this
      simpa [addr_add] using this
    have K12 : (12 : Int) ≤ c := by omega
    have N4 : ¬ (c = 4) := by omega
    have cv := xrcValue_any (some ⟨ga, oa + 4, none⟩) ((l.drop 4).take 8) 8 (c - 4) w (by rw [List.length_take, List.length_drop, hn]; rfl) rdn (by omega)
    rw [← h5] at cv
    have E0 := Lib.hid (fun (w' : World) (f : Fr [] w w') => strB w' (some ⟨ga, oa, none⟩) l 512 c hn (hr.keep_nil f) hA)
    clear hn hkk h5 rdn
    go_enter Tryd.func37, Tryd.ntmps37
    go_wp2_with fail
    refine cv.mono ?_
    rintro e w1 ⟨rfl, rfl⟩
    clear cv
    go_wp2_with fail
    refine (xrcMark_any w k hk).mono ?_
    rintro e w4 ⟨v, rfl, r4, f4⟩
    obtain ⟨A4, c4, rfl, -, -, -, -, -⟩ := r4.shape
    by_cases h0 : k = 0
    · have hv : rmV l = none := by rw [rmV, if_neg (by rw [HKK.out]; exact fun h => h.1 h0)]
      have HV := Lib.hid hv
      rw [show (k != 0) = false by rw [h0]; rfl, show errG false 1 = 1 from rfl]
      clear hv
      go_wp2_with fail
      go_ret2
      exact ⟨by rw [HV.out]; rfl, f4⟩
    · have E4 := r4.str
      have E5 := E0.out w4 f4
      simp only [if_neg h0] at E4
      rw [show (k != 0) = true by simpa using h0, show errG true 1 = 0 from rfl, if_neg h0]
      obtain ⟨q, hq⟩ : ∃ q, markB k = q := ⟨_, rfl⟩
      rw [hq] at E4
      have H0 := Lib.hid h0
      have HQ := Lib.hid (fun _ : Unit => hq)
      clear h0 hq r4
      by_cases heq : q = l
      · have hv : rmV l = some k := by
          rw [rmV, if_pos, HKK.out]
          rw [HKK.out, HQ.out ()]
          exact ⟨H0.out, heq.symm⟩
        have HV := Lib.hid hv
        rw [heq] at E4
        clear hv heq
        go_wp2_with fail
        go_ret2
        exact ⟨by rw [HV.out]; rfl, f4⟩
      · have hv : rmV l = none := by
          rw [rmV, if_neg]
          rw [HKK.out, HQ.out ()]
          intro h
          exact heq h.2.symm
        have HV := Lib.hid hv
        have hbe : (q == l) = false := by rw [beq_eq_false_iff_ne]; exact heq
        clear hv heq
        go_wp2_with fail
        go_ret2
        exact ⟨by rw [HV.out]; rfl, f4⟩
  · have hv : rmV l = none := by
      rw [rmV, if_neg]
      intro h
      have := congrArg List.length h.2
      rw [markB_len] at this
      omega
    have HV := Lib.hid hv
    have d : ((n : Int) == 512) = false := by rw [beq_eq_false_iff_ne]; omega
    clear hv hn
    go_enter Tryd.func37, Tryd.ntmps37
    go_wp2_with fail
    go_ret2
    exact ⟨by rw [HV.out]; rfl, Fr.refl _ _⟩
end Go.Proofs.YtlelgeigighecaaDoor
