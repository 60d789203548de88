/-
  RecordMarks, the walk: the mark of any number, and back.
-/
import Derived.Test.YtlelgeigighecaaDoorRecS
set_option linter.unusedSimpArgs false
set_option linter.unusedVariables false
set_option linter.unnecessarySimpa false
namespace Go.Proofs.YtlelgeigighecaaDoor
open Go.RowKit

set_option maxRecDepth 100000 in
set_option maxHeartbeats 4000000 in
theorem recMarks_any (w : World) (k : Nat) (hk : k < 18446744073709551616) (hK : KG w) :
    Calls Tryd.prog 10 #[.int .u64 k] w fun e w' => e = .returned (.bool true) ∧ Fr [] w w' := by
  by_cases h0 : k = 0
  · subst h0
    have hz : rmV [] = none := by rw [rmV, if_neg]; intro h; have := congrArg List.length h.2; rw [markB_len] at this; cases this
    have HZ := Lib.hid hz
    clear hz
    go_enter Tryd.func10, Tryd.ntmps10
    go_wp2_with fail
    refine (rcMark_any w 0 hk hK).mono ?_
    rintro e w1 ⟨v1, rfl, r1, f1⟩
    rw [if_pos rfl, if_pos rfl] at r1
    obtain ⟨A1, c1, rfl, hc1, -, -, -, -⟩ := r1.shape
    go_wp2_with fail
    refine (xrcMark_any w1 0 hk).mono ?_
    rintro e w2 ⟨v2, rfl, r2, f2⟩
    rw [if_pos rfl, if_pos rfl] at r2
    obtain ⟨A2, c2, rfl, hc2, -, -, -, -⟩ := r2.shape
    have F2 := f1.trans_nil f2
    replace r1 := r1.keep_nil f2
    go_wp2_with fail
    refine (lives13_any w2 (hK.keep F2)).mono ?_
    rintro e w3 ⟨rfl, f3⟩
    have F3 := F2.trans_nil f3
    replace r1 := r1.keep_nil f3
    replace r2 := r2.keep_nil f3
    have E1 := r1.str
    have E2 := r2.str
    clear f1 f2 f3 F2
    go_wp2_with fail
    have cc := rcReadMark_any w3 A1 [] 0 c1 rfl r1.rd.1 r1.rd.2.2 (by omega) (hK.keep F3)
    unfold RmC at cc
    rw [HZ.out] at cc
    refine cc.mono ?_
    clear cc
    rintro e w4 ⟨rfl, f4⟩
    go_wp2_with fail
    go_ret
    exact ⟨rfl, F3.trans_nil f4⟩
  · have hmv := rmV_mark h0 hk
    obtain ⟨q, hq⟩ : ∃ q, markB k = q := ⟨_, rfl⟩
    have hql : q.length = 512 := by rw [← hq, markB_len]
    rw [hq] at hmv
    have m1 := rcMark_any w k hk hK
    have m2 := fun w1 => xrcMark_any w1 k hk
    unfold MarkC at m1 m2
    rw [if_neg h0, if_neg h0, hq, show (k != 0) = true from by simpa using h0] at m1 m2
    have HMV := Lib.hid hmv
    have HQL := Lib.hid hql
    clear hmv hql hq h0
    go_enter Tryd.func10, Tryd.ntmps10
    go_wp2_with fail
    refine m1.mono ?_
    rintro e w1 ⟨v1, rfl, r1, f1⟩
    obtain ⟨A1, c1, rfl, hc1, -, -, -, -⟩ := r1.shape
    clear m1
    go_wp2_with fail
    refine (m2 w1).mono ?_
    rintro e w2 ⟨v2, rfl, r2, f2⟩
    obtain ⟨A2, c2, rfl, hc2, -, -, -, -⟩ := r2.shape
    have F2 := f1.trans_nil f2
    replace r1 := r1.keep_nil f2
    clear m2
    go_wp2_with fail
    refine (lives13_any w2 (hK.keep F2)).mono ?_
    rintro e w3 ⟨rfl, f3⟩
    have F3 := F2.trans_nil f3
    replace r1 := r1.keep_nil f3
    replace r2 := r2.keep_nil f3
    have E1 := r1.str
    have E2 := r2.str
    clear f1 f2 f3 F2
    go_wp2_with fail
    have cc := rcReadMark_any w3 A1 q 512 c1 HQL.out r1.rd.1 r1.rd.2.2 (by omega) (hK.keep F3)
    unfold RmC at cc
    rw [HMV.out] at cc
    refine cc.mono ?_
    clear cc
    rintro e w4 ⟨rfl, f4⟩
    go_wp2_with fail
    go_ret
    exact ⟨rfl, F3.trans_nil f4⟩
end Go.Proofs.YtlelgeigighecaaDoor
