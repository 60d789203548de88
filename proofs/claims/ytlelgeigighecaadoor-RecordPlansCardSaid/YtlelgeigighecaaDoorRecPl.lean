/-
  RecordPlans, the walk: what any bytes are as a plan, and as a mark.
-/
import Derived.Test.YtlelgeigighecaaDoorRecS
set_option linter.unusedSimpArgs false
set_option linter.unusedVariables false
set_option linter.unnecessarySimpa false
namespace Go.Proofs.YtlelgeigighecaaDoor
open Go.RowKit

set_option maxRecDepth 100000 in
set_option maxHeartbeats 4000000 in
theorem recPlans_any (w : World) (A : Option Addr) (l : List UInt8) (n c : Nat) (hn : l.length = n) (hr : Rd w A (bvs l)) (hA : A = none → n = 0) (hc : n ≤ c) (hl : n ≤ 140737488351232) (hK : KG w) :
    Calls Tryd.prog 12 #[.slice A n c] w fun e w' => e = .returned (.bool true) ∧ Fr [] w w' := by
  have p1 := rcPlan_any w A l n c hn hr hA
  have p2 := fun w1 (f : Fr [] w w1) => xrcPlan_any w1 A l n c hn (hr.keep_nil f) hA hc
  have p3 := fun w1 (f : Fr [] w w1) => rcReadMark_any w1 A l n c hn (hr.keep_nil f) hA (by omega) (hK.keep f)
  have p4 := fun w1 (f : Fr [] w w1) => xrcReadMark_any w1 A l n c hn (hr.keep_nil f) hA hc
  unfold PlanC at p1 p2
  unfold RmC at p3 p4
  have h64 : ((plV l).getD (0, [], 0)).2.1.length ≤ 64 := by
    cases hp : plV l with
    | none => simp
    | some x =>
      obtain ⟨a, b, t⟩ := x
      exact (plV_b hp).2.2.1
  obtain ⟨m, hm⟩ : ∃ m, ((plV l).getD (0, [], 0)).1 = m := ⟨_, rfl⟩
  obtain ⟨L, hL⟩ : ∃ L, ((plV l).getD (0, [], 0)).2.1 = L := ⟨_, rfl⟩
  obtain ⟨x, hx⟩ : ∃ x, errG (plV l).isSome 110 = x := ⟨_, rfl⟩
  obtain ⟨k, hk⟩ : ∃ k, (rmV l).getD 0 = k := ⟨_, rfl⟩
  obtain ⟨y, hy⟩ : ∃ y, errG (rmV l).isSome 110 = y := ⟨_, rfl⟩
  rw [hm, hL, hx] at p1 p2
  rw [hL] at h64
  rw [hk, hy] at p3 p4
  have HP2 := Lib.hid p2
  have HP3 := Lib.hid p3
  have HP4 := Lib.hid p4
  clear p2 p3 p4 hm hL hx hk hy hn
  obtain ⟨N, hN⟩ : ∃ N, L.length = N := ⟨_, rfl⟩
  have HNN := Lib.hid hN
  rw [hN] at h64
  go_enter Tryd.func12, Tryd.ntmps12
  go_wp2_with fail
  refine p1.mono ?_
  rintro e w1 ⟨v1, rfl, r1, f1⟩
  rw [HNN.out] at r1
  clear p1 hN
  obtain ⟨A1, c1, rfl, hc1, -, -, -, -⟩ := r1.shape
  go_wp2_with fail
  refine (HP2.out w1 f1).mono ?_
  rintro e w2 ⟨v2, rfl, r2, f2⟩
  rw [HNN.out] at r2
  obtain ⟨A2, c2, rfl, hc2, -, -, -, -⟩ := r2.shape
  have F2 := f1.trans_nil f2
  replace r1 := r1.keep_nil f2
  clear f1 f2
  go_wp2_with fail
  refine (HP3.out w2 F2).mono ?_
  rintro e w3 ⟨rfl, f3⟩
  have F3 := F2.trans_nil f3
  replace r1 := r1.keep_nil f3
  replace r2 := r2.keep_nil f3
  clear f3 F2
  go_wp2_with fail
  refine (HP4.out w3 F3).mono ?_
  rintro e w4 ⟨rfl, f4⟩
  have F4 := F3.trans_nil f4
  replace r1 := r1.keep_nil f4
  replace r2 := r2.keep_nil f4
  clear f4 F3
  go_wp2_with fail
  refine (lives13_any w4 (hK.keep F4)).mono ?_
  rintro e w5 ⟨rfl, f5⟩
  have F5 := F4.trans_nil f5
  replace r1 := r1.keep_nil f5
  replace r2 := r2.keep_nil f5
  have hN1 := r1.rd.2.1
  clear f5 F4
  go_wp2_with fail
  go_loopw [13] (fun i wr => ∃ k : Nat, k ≤ N ∧ i = .int .i64 k ∧ ∃ q, wr = w5.drewN q) (fun i _ => N - (intOf i).toNat)
  case atStart => exact ⟨0, Nat.zero_le _, rfl, 0, rfl⟩
  case round =>
    obtain ⟨j, hj, rfl, q, rfl⟩ := hrel
    by_cases hlt : j < N
    · have hjl : j < L.length := by rw [HNN.out]; exact hlt
      obtain ⟨g1, o1, rfl, hc1'⟩ := zint_at r1.rd.1 hjl
      obtain ⟨g2, o2, rfl, hc2'⟩ := zint_at r2.rd.1 hjl
      have ca := hc1' j hjl
      have cb := hc2' j hjl
      generalize L[j] = z at *
      clear hc1' hc2' hjl
      have i1 : (j : Int) < (N : Int) := by omega
      go_wp2_with fail
      go_quiet (fail)
      go_wp2_with fail
      exact ⟨⟨j + 1, by omega, by go_num, q + nq, rfl⟩, by simp [intOf]; omega⟩
    · go_wp2_with fail
      go_ret
      exact ⟨rfl, F5.drewN _⟩
end Go.Proofs.YtlelgeigighecaaDoor
