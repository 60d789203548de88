/-
  Layer 13 (record): read, Plan.
-/
import Derived.Test.YtlelgeigighecaaDoorRecJ
set_option linter.unusedSimpArgs false
set_option linter.unusedVariables false
set_option linter.unnecessarySimpa false
namespace Go.Proofs.YtlelgeigighecaaDoor
open Go.RowKit

theorem results_tmp4 {fn : Func} {t u v x : Tmp} (h : fn.results = #[.tmp t, .tmp u, .tmp v, .tmp x]) (tmps : Array Value) (P : Program) (w : World) :
    (results fn tmps).run P w = .ok (.tuple #[tmps.getD t undef, tmps.getD u undef, tmps.getD v undef, tmps.getD x undef]) w := by
  simp [results, h]
set_option maxRecDepth 100000 in
set_option maxHeartbeats 4000000 in
theorem rcRead_any (w : World) (A : Option Addr) (l : List UInt8) (n c : Nat) (hn : l.length = n) (hr : Rd w A (bvs l)) (hA : A = none → n = 0) :
    Calls Tryd.prog 69 #[.slice A n c] w (PartC w l) := by
  by_cases h512 : n = 512
  · subst h512
    have HN := Lib.hid hn
    have hcl := plC_lt l
    obtain ⟨k, hk⟩ : ∃ k, plC l = k := ⟨_, rfl⟩
    obtain ⟨t, ht⟩ : ∃ t, plT l = t := ⟨_, rfl⟩
    obtain ⟨m, hm⟩ : ∃ m, plN l = m := ⟨_, rfl⟩
    obtain ⟨q, hq⟩ : ∃ q, l.take 4 = q := ⟨_, rfl⟩
    obtain ⟨L, hL⟩ : ∃ L, plL l = L := ⟨_, rfl⟩
    have HKK := Lib.hid hk
    have HT := Lib.hid ht
    have HM := Lib.hid hm
    have HQ := Lib.hid hq
    have HL := Lib.hid hL
    rw [hk] at hcl
    have U : IntKind.i64.wrap (k : Int) = k := by rw [IntKind.wrap_i64]; omega
    clear hn hk ht hm hq hL
    go_enter Tryd.func69, Tryd.ntmps69
    go_wp2_with fail
    refine (newReader_any A l 512 c w HN.out hr hA (by omega)).mono ?_
    rintro e w1 ⟨p, G, rfl, x1, f1, z1, g1⟩
    go_wp2_with fail
    refine (rBytes_ok x1 4 (by rw [HN.out]; omega)).mono ?_
    rintro e w2 ⟨v2, rfl, r2, x2, f2⟩
    have E2 := r2.str
    rw [show l.take 4 = q from HQ.out] at E2
    have F2 : Fr [] w w2 := f1.trans f2 (fun i hi => .inr (by simp at hi; omega))
    clear r2 x1
    go_wp2_with fail
    have cc := rUint_ok x2 8 (by rw [List.length_drop, HN.out]; omega) rfl
    rw [show leN ((l.drop 4).take 8) = m from HM.out, List.drop_drop] at cc
    refine cc.mono ?_
    clear cc
    rintro e w3 ⟨rfl, x3, f3⟩
    have F3 : Fr [] w w3 := F2.trans f3 (fun i hi => .inr (by simp at hi; omega))
    clear x2 E2 F2
    go_wp2_with fail
    have cc := rUint_ok x3 2 (by rw [List.length_drop, HN.out]; omega) rfl
    rw [show leN ((l.drop (4 + 8)).take 2) = k from HKK.out, List.drop_drop] at cc
    refine cc.mono ?_
    clear cc
    rintro e w4 ⟨rfl, x4, f4⟩
    have F4 : Fr [] w w4 := F3.trans f4 (fun i hi => .inr (by simp at hi; omega))
    clear x3 F3
    go_wp2_with fail
    have cc := rUint_ok x4 8 (by rw [List.length_drop, HN.out]; omega) rfl
    rw [show leN ((l.drop (4 + 8 + 2)).take 8) = t from HT.out, List.drop_drop, show 4 + 8 + 2 + 8 = 22 from rfl] at cc
    refine cc.mono ?_
    clear cc
    rintro e w5 ⟨rfl, x5, f5⟩
    have F5 : Fr [] w w5 := F4.trans f5 (fun i hi => .inr (by simp at hi; omega))
    clear x4 F4
    by_cases h64 : 64 < k
    · have hv : plV l = none := plV_none fun h => by have := h.2.1; rw [HKK.out] at this; omega
      have HV := Lib.hid hv
      clear hv
      go_wp2_with fail
      (try simp only [Exit.inBlock, Exit.then]); refine bodyPost_ret (results_tmp4 rfl _ _ _) rfl ?_
      exact PartC.no HV.out F5
    · have K64 : (k : Int) ≤ 64 := by omega
      have S5 : w1.heap.size ≤ w5.heap.size := Nat.le_trans f2.size (Nat.le_trans f3.size (Nat.le_trans f4.size f5.size))
      have HL2 := Lib.hid (show intsN (l.drop 22) k = L by rw [← HL.out, plL, HKK.out])
      have hLl : L.length = k := by rw [← HL.out, plL_len, HKK.out]
      have hLi : ∀ x ∈ L, in64 x := by rw [← HL2.out]; exact intsN_in _ _
      have HLL := Lib.hid hLl
      have HLI := Lib.hid hLi
      clear hLl hLi f2 f3 f4 f5
      by_cases hts : 64 ≤ k ∨ t / 2 ^ k = 0
      · by_cases hk2 : 64 ≤ k
        · have HTS := Lib.hid hts
          clear hts
          go_wp2_with fail
          have cc := getI_ok x5 k (by omega) (by rw [List.length_drop, HN.out]; omega) (fun g hg => by have := g1 g hg; omega) (fun g hg => (g1 g hg).2.2)
          rw [HL2.out, List.drop_drop] at cc
          refine cc.mono ?_
          clear cc
          rintro e w6 ⟨v6, rfl, r6, x6, f6⟩
          have F6 : Fr [] w w6 := F5.trans f6 (fun i hi => .inr (by simp at hi; omega))
          obtain ⟨A6, c6, rfl, -, -, -, -, -⟩ := r6.shape
          go_wp2_with fail
          have cc := rDone_any x6
          cases hz : allZ (l.drop (22 + 4 * k))
          ·
            rw [doneE, hz] at cc
            have HZ := Lib.hid hz
            clear hz
            refine cc.mono ?_
            clear cc
            rintro e w7 ⟨rfl, rfl⟩
            have HV := Lib.hid (show plV l = none from plV_none fun h => (by have := h.2.2.2.1; rw [HKK.out, HZ.out] at this; cases this))
            go_wp2_with fail
            (try simp only [Exit.inBlock, Exit.then]); refine bodyPost_ret (results_tmp4 rfl _ _ _) rfl ?_
            exact PartC.no HV.out F6
          ·
            rw [doneE, hz] at cc
            have HZ := Lib.hid hz
            clear hz
            refine cc.mono ?_
            clear cc
            rintro e w7 ⟨rfl, rfl⟩
            cases hqe : (q == [80, 76, 65, 78])
            ·
              have HQE := Lib.hid hqe
              have HV := Lib.hid (show plV l = none from plV_none fun h => (by have := h.2.2.2.2.1; rw [HQ.out] at this; have h2 := HQE.out; rw [this] at h2; cases h2))
              go_wp2_with fail
              (try simp only [Exit.inBlock, Exit.then]); refine bodyPost_ret (results_tmp4 rfl _ _ _) rfl ?_
              exact PartC.no HV.out F6
            ·
              have HQE := Lib.hid hqe
              by_cases hm0 : m = 0
              ·
                subst hm0
                have HV := Lib.hid (show plV l = none from plV_none fun h => (h.2.2.2.2.2.1 HM.out))
                go_wp2_with fail
                (try simp only [Exit.inBlock, Exit.then]); refine bodyPost_ret (results_tmp4 rfl _ _ _) rfl ?_
                exact PartC.no HV.out F6
              ·
                have hmm : ((m : Int) == 0) = false := by rw [beq_eq_false_iff_ne]; omega
                have HM0 := Lib.hid hm0
                clear hm0
                go_wp2_with fail
                have cc := rcRight_any A6 L k c6 w6 HLL.out r6.rd.1 HLI.out (by omega)
                cases hrt : rightF L
                ·
                  rw [hrt] at cc
                  have HR := Lib.hid hrt
                  clear hrt
                  refine cc.mono ?_
                  clear cc
                  rintro e w8 ⟨rfl, f8⟩
                  have HV := Lib.hid (show plV l = none from plV_none fun h => (by have := h.2.2.2.2.2.2; rw [HL.out, HR.out] at this; cases this))
                  go_wp2_with fail
                  (try simp only [Exit.inBlock, Exit.then]); refine bodyPost_ret (results_tmp4 rfl _ _ _) rfl ?_
                  exact PartC.no HV.out (F6.trans_nil f8)
                ·
                  rw [hrt] at cc
                  have HR := Lib.hid hrt
                  clear hrt
                  refine cc.mono ?_
                  clear cc
                  rintro e w8 ⟨rfl, f8⟩
                  have HV := Lib.hid (show plV l = some (m, L, t) by
                    rw [plV_some HN.out, HM.out, HL.out, HT.out]
                    unfold plOk
                    rw [HKK.out, HM.out, HT.out, HQ.out, HL.out]
                    exact ⟨by omega, HTS.out, HZ.out, eq_of_beq HQE.out, HM0.out, HR.out⟩)
                  go_wp2_with fail
                  (try simp only [Exit.inBlock, Exit.then]); refine bodyPost_ret (results_tmp4 rfl _ _ _) rfl ?_
                  exact PartC.yes HV.out HLL.out ((r6.keep_nil f8).mono F5.size) (F6.trans_nil f8)
        · replace hk2 : k < 64 := by omega
          have HTS := Lib.hid hts
          have d : ((t : Int) / 2 ^ k != 0) = false := by
            rcases hts with h | h
            · omega
            · have : (t : Int) / 2 ^ k = ((t / 2 ^ k : Nat) : Int) := by push_cast; rfl
              rw [this, h]
              rfl
          clear hts
          go_wp2_with fail
          have cc := getI_ok x5 k (by omega) (by rw [List.length_drop, HN.out]; omega) (fun g hg => by have := g1 g hg; omega) (fun g hg => (g1 g hg).2.2)
          rw [HL2.out, List.drop_drop] at cc
          refine cc.mono ?_
          clear cc
          rintro e w6 ⟨v6, rfl, r6, x6, f6⟩
          have F6 : Fr [] w w6 := F5.trans f6 (fun i hi => .inr (by simp at hi; omega))
          obtain ⟨A6, c6, rfl, -, -, -, -, -⟩ := r6.shape
          go_wp2_with fail
          have cc := rDone_any x6
          cases hz : allZ (l.drop (22 + 4 * k))
          ·
            rw [doneE, hz] at cc
            have HZ := Lib.hid hz
            clear hz
            refine cc.mono ?_
            clear cc
            rintro e w7 ⟨rfl, rfl⟩
            have HV := Lib.hid (show plV l = none from plV_none fun h => (by have := h.2.2.2.1; rw [HKK.out, HZ.out] at this; cases this))
            go_wp2_with fail
            (try simp only [Exit.inBlock, Exit.then]); refine bodyPost_ret (results_tmp4 rfl _ _ _) rfl ?_
            exact PartC.no HV.out F6
          ·
            rw [doneE, hz] at cc
            have HZ := Lib.hid hz
            clear hz
            refine cc.mono ?_
            clear cc
            rintro e w7 ⟨rfl, rfl⟩
            cases hqe : (q == [80, 76, 65, 78])
            ·
              have HQE := Lib.hid hqe
              have HV := Lib.hid (show plV l = none from plV_none fun h => (by have := h.2.2.2.2.1; rw [HQ.out] at this; have h2 := HQE.out; rw [this] at h2; cases h2))
              go_wp2_with fail
              (try simp only [Exit.inBlock, Exit.then]); refine bodyPost_ret (results_tmp4 rfl _ _ _) rfl ?_
              exact PartC.no HV.out F6
            ·
              have HQE := Lib.hid hqe
              by_cases hm0 : m = 0
              ·
                subst hm0
                have HV := Lib.hid (show plV l = none from plV_none fun h => (h.2.2.2.2.2.1 HM.out))
                go_wp2_with fail
                (try simp only [Exit.inBlock, Exit.then]); refine bodyPost_ret (results_tmp4 rfl _ _ _) rfl ?_
                exact PartC.no HV.out F6
              ·
                have hmm : ((m : Int) == 0) = false := by rw [beq_eq_false_iff_ne]; omega
                have HM0 := Lib.hid hm0
                clear hm0
                go_wp2_with fail
                have cc := rcRight_any A6 L k c6 w6 HLL.out r6.rd.1 HLI.out (by omega)
                cases hrt : rightF L
                ·
                  rw [hrt] at cc
                  have HR := Lib.hid hrt
                  clear hrt
                  refine cc.mono ?_
                  clear cc
                  rintro e w8 ⟨rfl, f8⟩
                  have HV := Lib.hid (show plV l = none from plV_none fun h => (by have := h.2.2.2.2.2.2; rw [HL.out, HR.out] at this; cases this))
                  go_wp2_with fail
                  (try simp only [Exit.inBlock, Exit.then]); refine bodyPost_ret (results_tmp4 rfl _ _ _) rfl ?_
                  exact PartC.no HV.out (F6.trans_nil f8)
                ·
                  rw [hrt] at cc
                  have HR := Lib.hid hrt
                  clear hrt
                  refine cc.mono ?_
                  clear cc
                  rintro e w8 ⟨rfl, f8⟩
                  have HV := Lib.hid (show plV l = some (m, L, t) by
                    rw [plV_some HN.out, HM.out, HL.out, HT.out]
                    unfold plOk
                    rw [HKK.out, HM.out, HT.out, HQ.out, HL.out]
                    exact ⟨by omega, HTS.out, HZ.out, eq_of_beq HQE.out, HM0.out, HR.out⟩)
                  go_wp2_with fail
                  (try simp only [Exit.inBlock, Exit.then]); refine bodyPost_ret (results_tmp4 rfl _ _ _) rfl ?_
                  exact PartC.yes HV.out HLL.out ((r6.keep_nil f8).mono F5.size) (F6.trans_nil f8)
      · have hv : plV l = none := plV_none fun h => by have := h.2.2.1; rw [HKK.out, HT.out] at this; exact hts this
        have HV := Lib.hid hv
        have hk2 : k < 64 := by omega
        have d : ((t : Int) / 2 ^ k != 0) = true := by
          have h : t / 2 ^ k ≠ 0 := fun h => hts (.inr h)
          have : (t : Int) / 2 ^ k = ((t / 2 ^ k : Nat) : Int) := by push_cast; rfl
          rw [this]
          simp only [bne_iff_ne]
          omega
        clear hv
        go_wp2_with fail
        (try simp only [Exit.inBlock, Exit.then]); refine bodyPost_ret (results_tmp4 rfl _ _ _) rfl ?_
        exact PartC.no HV.out F5
  · have hv : plV l = none := plV_none fun h => by omega
    have HV := Lib.hid hv
    have d : ((n : Int) == 512) = false := by rw [beq_eq_false_iff_ne]; omega
    clear hv hn
    go_enter Tryd.func69, Tryd.ntmps69
    go_wp2_with fail
    (try simp only [Exit.inBlock, Exit.then]); refine bodyPost_ret (results_tmp4 rfl _ _ _) rfl ?_
    exact PartC.no HV.out (Fr.refl _ _)
end Go.Proofs.YtlelgeigighecaaDoor
