/-
  DiskNobody: the walk.
-/
import Derived.Test.YtdhhnioklbnicaaDkN
import Derived.Test.YtdhhnioklbnicaaDkJ
import Derived.Test.YtdhhnioklbnicaaRow10
set_option linter.unusedSimpArgs false
set_option linter.unusedVariables false
set_option linter.unnecessarySimpa false
namespace Go.Proofs.Ytdhhnioklbnicaa
open Go.RowKit
set_option maxRecDepth 100000

set_option maxHeartbeats 4000000 in
theorem diskNobody_any (w : World) (o : O10) : Calls Try.prog 6 #[.agg o.cells.toArray] w fun e w' => e = .returned (.bool true) ∧ Fr [] w w' := by
  obtain ⟨k, n, A, m, c, l, z, B, k2, d2, ks⟩ := o
  show Calls Try.prog 6 #[.agg #[.int .i64 k, .int .i64 n, .slice A m c, .bool z, .slice B k2 d2]] w _
  have kb := Blk.new w 34 #[.int .i64 k, .int .i64 n, .slice A m c, .bool z, .slice B k2 d2]
  have f0 : Fr [] w (w.alloc (.cells #[.int .i64 k, .int .i64 n, .slice A m c, .bool z, .slice B k2 d2] 34)) := (Fr.refl [] w).alloc _
  have c1 := kb.cell 1
  have c2 := kb.cell 2
  have c4 := kb.cell 4
  rw [show (#[Value.int .i64 k, .int .i64 n, .slice A m c, .bool z, .slice B k2 d2] : Array Value)[1]? = some (.int .i64 n) from rfl] at c1
  rw [show (#[Value.int .i64 k, .int .i64 n, .slice A m c, .bool z, .slice B k2 d2] : Array Value)[2]? = some (.slice A m c) from rfl] at c2
  rw [show (#[Value.int .i64 k, .int .i64 n, .slice A m c, .bool z, .slice B k2 d2] : Array Value)[4]? = some (.slice B k2 d2) from rfl] at c4
  clear kb
  go_enter Try.func6, Try.ntmps6
  go_wp2_with (first
    | (go_at_call 21; refine (dkStop_nil _ _).mono ?_; rintro e w' ⟨rfl, rfl⟩)
    | (go_at_call 16; refine (dkRead_nil _ _).mono ?_; rintro e w' ⟨rfl, rfl⟩)
    | (go_at_call 15; refine (dkCrash_nil _ _).mono ?_; rintro e w' ⟨rfl, rfl⟩)
    | (go_at_call 22; refine (dkTamper_nil _ _ _ _ _).mono ?_; rintro e w' ⟨rfl, rfl⟩)
    | (go_at_call 23; refine (dkOff_nil _).mono ?_; rintro e w' ⟨rfl, rfl⟩)
    | (go_at_call 24; refine (dkLen_nil _).mono ?_; rintro e w' ⟨rfl, rfl⟩)
    | (go_at_call 14; refine (dkUnsure_nil _).mono ?_; rintro e w' ⟨rfl, rfl⟩)
    | (go_at_call 10; refine (dkSure_nil _ _).mono ?_; rintro e w' ⟨rfl, rfl⟩)
    | (go_at_call 17; refine (dkFork_nil _).mono ?_; rintro e w' ⟨rfl, rfl⟩))
  refine (lives_any _).mono ?_
  rintro e w2 ⟨rfl, f⟩
  replace c1 := f.cell (by simp) c1
  replace c2 := f.cell (by simp) c2
  replace c4 := f.cell (by simp) c4
  replace f0 := f0.trans_nil f
  clear f
  go_wp2_with (first
    | (go_at_call 21; refine (dkStop_nil _ _).mono ?_; rintro e w' ⟨rfl, rfl⟩)
    | (go_at_call 16; refine (dkRead_nil _ _).mono ?_; rintro e w' ⟨rfl, rfl⟩)
    | (go_at_call 15; refine (dkCrash_nil _ _).mono ?_; rintro e w' ⟨rfl, rfl⟩)
    | (go_at_call 22; refine (dkTamper_nil _ _ _ _ _).mono ?_; rintro e w' ⟨rfl, rfl⟩)
    | (go_at_call 23; refine (dkOff_nil _).mono ?_; rintro e w' ⟨rfl, rfl⟩)
    | (go_at_call 24; refine (dkLen_nil _).mono ?_; rintro e w' ⟨rfl, rfl⟩)
    | (go_at_call 14; refine (dkUnsure_nil _).mono ?_; rintro e w' ⟨rfl, rfl⟩)
    | (go_at_call 10; refine (dkSure_nil _ _).mono ?_; rintro e w' ⟨rfl, rfl⟩)
    | (go_at_call 17; refine (dkFork_nil _).mono ?_; rintro e w' ⟨rfl, rfl⟩))
  refine (dkWrite_nil _ _ _ _ _).mono ?_
  rintro e w3 ⟨rfl, f⟩
  replace c1 := f.cell (by simp) c1
  replace c2 := f.cell (by simp) c2
  replace c4 := f.cell (by simp) c4
  replace f0 := f0.trans_nil f
  clear f
  go_wp2_with (first
    | (go_at_call 21; refine (dkStop_nil _ _).mono ?_; rintro e w' ⟨rfl, rfl⟩)
    | (go_at_call 16; refine (dkRead_nil _ _).mono ?_; rintro e w' ⟨rfl, rfl⟩)
    | (go_at_call 15; refine (dkCrash_nil _ _).mono ?_; rintro e w' ⟨rfl, rfl⟩)
    | (go_at_call 22; refine (dkTamper_nil _ _ _ _ _).mono ?_; rintro e w' ⟨rfl, rfl⟩)
    | (go_at_call 23; refine (dkOff_nil _).mono ?_; rintro e w' ⟨rfl, rfl⟩)
    | (go_at_call 24; refine (dkLen_nil _).mono ?_; rintro e w' ⟨rfl, rfl⟩)
    | (go_at_call 14; refine (dkUnsure_nil _).mono ?_; rintro e w' ⟨rfl, rfl⟩)
    | (go_at_call 10; refine (dkSure_nil _ _).mono ?_; rintro e w' ⟨rfl, rfl⟩)
    | (go_at_call 17; refine (dkFork_nil _).mono ?_; rintro e w' ⟨rfl, rfl⟩))
  refine (dkFlush_nil _).mono ?_
  rintro e w4 ⟨rfl, f⟩
  replace c1 := f.cell (by simp) c1
  replace c2 := f.cell (by simp) c2
  replace c4 := f.cell (by simp) c4
  replace f0 := f0.trans_nil f
  clear f
  go_wp2_with (first
    | (go_at_call 21; refine (dkStop_nil _ _).mono ?_; rintro e w' ⟨rfl, rfl⟩)
    | (go_at_call 16; refine (dkRead_nil _ _).mono ?_; rintro e w' ⟨rfl, rfl⟩)
    | (go_at_call 15; refine (dkCrash_nil _ _).mono ?_; rintro e w' ⟨rfl, rfl⟩)
    | (go_at_call 22; refine (dkTamper_nil _ _ _ _ _).mono ?_; rintro e w' ⟨rfl, rfl⟩)
    | (go_at_call 23; refine (dkOff_nil _).mono ?_; rintro e w' ⟨rfl, rfl⟩)
    | (go_at_call 24; refine (dkLen_nil _).mono ?_; rintro e w' ⟨rfl, rfl⟩)
    | (go_at_call 14; refine (dkUnsure_nil _).mono ?_; rintro e w' ⟨rfl, rfl⟩)
    | (go_at_call 10; refine (dkSure_nil _ _).mono ?_; rintro e w' ⟨rfl, rfl⟩)
    | (go_at_call 17; refine (dkFork_nil _).mono ?_; rintro e w' ⟨rfl, rfl⟩))
  go_ret
  exact ⟨rfl, f0⟩
end Go.Proofs.Ytdhhnioklbnicaa
