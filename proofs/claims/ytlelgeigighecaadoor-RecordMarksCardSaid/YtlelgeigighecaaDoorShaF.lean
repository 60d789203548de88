/-
  SHA-256: the first state; a Hash as a block.
-/
import Derived.Test.YtlelgeigighecaaDoorShaE
import Derived.Test.YtlelgeigighecaaDoorCodH
import Derived.Test.YtlelgeigighecaaDoorBld
set_option linter.unusedSimpArgs false
set_option linter.unusedVariables false
set_option linter.unnecessarySimpa false
namespace Go.Proofs.YtlelgeigighecaaDoor
open Go.RowKit

set_option maxRecDepth 100000 in
theorem first_any (w : World) : Calls Tryd.prog 96 #[] w fun e w' => e = .returned (.agg (wvs first8.list).toArray) ∧ Fr [] w w' := by
  go_enter Tryd.func96, Tryd.ntmps96
  go_wp2_with
    (first
      | (refine wpList_alS stW8 rfl rfl ?_; intro wb hb fb zb; have ZB := Lib.hid zb; clear zb)
      | (refine wpList_bld rfl rfl (.agg (wvs first8.list).toArray) ?_ ?_; (kernel_rfl))
      | (refine wpList_stB stW8 rfl rfl w.heap.size rfl (wvs first8.list) rfl (by rw [wvs_length]; rfl) (wvs_one _) (wvs (zW 8)) rfl hb ?_; intro wc hc fc zc))
  try simp only [Exit.inBlock, Exit.then]
  refine bodyPost_ret (results_cell stW8 rfl rfl (by rw [wvs_length]; rfl) hc) rfl ?_
  exact ⟨rfl, fb.trans fc (fun i hi => .inr (by simp at hi; omega))⟩
set_option maxRecDepth 100000 in
theorem xFirst_any (w : World) : Calls Tryd.prog 84 #[] w fun e w' => e = .returned (.agg (wvs first8.list).toArray) ∧ Fr [] w w' := by
  go_enter Tryd.func84, Tryd.ntmps84
  go_wp2_with
    (first
      | (refine wpList_alS stW8 rfl rfl ?_; intro wb hb fb zb; have ZB := Lib.hid zb; clear zb)
      | (refine wpList_bld rfl rfl (.agg (wvs first8.list).toArray) ?_ ?_; (kernel_rfl))
      | (refine wpList_stB stW8 rfl rfl w.heap.size rfl (wvs first8.list) rfl (by rw [wvs_length]; rfl) (wvs_one _) (wvs (zW 8)) rfl hb ?_; intro wc hc fc zc))
  try simp only [Exit.inBlock, Exit.then]
  refine bodyPost_ret (results_cell stW8 rfl rfl (by rw [wvs_length]; rfl) hc) rfl ?_
  exact ⟨rfl, fb.trans fc (fun i hi => .inr (by simp at hi; omega))⟩

/-- The cells of a Hash. -/
def hashC (s : S8) (v : Value) (n : Nat) : List Value := wvs s.list ++ [v, .int .i64 n]
theorem hashC_len (s : S8) (v : Value) (n : Nat) : (hashC s v n).length = 10 := rfl
theorem hashC_ones (s : S8) {v : Value} (hv : v.oneCell' = true) (n : Nat) : ∀ u ∈ hashC s v n, u.oneCell' = true := by
  intro u hu
  rcases List.mem_append.1 hu with h | h
  · exact wvs_one _ u h
  · simp at h
    rcases h with rfl | rfl
    · exact hv
    · rfl
def zS8 : S8 := ⟨0, 0, 0, 0, 0, 0, 0, 0⟩
set_option maxRecDepth 100000 in
theorem stHash : StT Tryd.prog 117 10 (hashC zS8 (.slice none 0 0) 0) := ⟨⟨_, Tryd.underlying117, rfl⟩, by kernel_rfl, by decide, by kernel_rfl, hashC_ones _ rfl _⟩
set_option maxRecDepth 100000 in
theorem bldHash0 (w : World) (s : S8) : (Instr.build 117 #[(0, .agg (wvs s.list).toArray)]).run Tryd.prog w = .ok (.agg (hashC s (.slice none 0 0) 0).toArray) w := by kernel_rfl
set_option maxRecDepth 100000 in
theorem bldHash (w : World) (s : S8) (A : Option Addr) (m c n : Nat) : (Instr.build 117 #[(0, .agg (wvs s.list).toArray), (1, .slice A m c), (2, .int .i64 n)]).run Tryd.prog w = .ok (.agg (hashC s (.slice A m c) n).toArray) w := by kernel_rfl

/-- A Hash at g to which the bytes l have come; its rest lies in v, from block B on. -/
structure Hsh (w : World) (g B : Nat) (v : Value) (l : List UInt8) : Prop where
  blk : Blk w g 117 (hashC (shaRun first8 l (l.length / 64)) v l.length).toArray
  row : Row w B 5 1 v (l.length % 64) (bvs (l.drop (64 * (l.length / 64))))
  base : B ≤ w.heap.size
theorem Hsh.keep {w w' : World} {g B : Nat} {v : Value} {l : List UInt8} (h : Hsh w g B v l) {F : List Nat} (hf : Fr F w w') (hg : g ∉ F) (hv : ∀ b, v.ownBlock = some b → b ∉ F) : Hsh w' g B v l :=
  ⟨h.blk.keep hf hg, h.row.keep hf hv, Nat.le_trans h.base hf.size⟩
theorem Hsh.keep_nil {w w' : World} {g B : Nat} {v : Value} {l : List UInt8} (h : Hsh w g B v l) (hf : Fr [] w w') : Hsh w' g B v l := h.keep hf (by simp) (by simp)

set_option maxHeartbeats 1000000 in
theorem newHash_any (w : World) : Calls Tryd.prog 81 #[] w fun e w' => ∃ g, e = .returned (.pointer (some ⟨g, 0, none⟩)) ∧ w.heap.size ≤ g ∧ Hsh w' g w'.heap.size (.slice none 0 0) [] ∧ Fr [] w w' := by
  go_enter Tryd.func81, Tryd.ntmps81
  go_wp2_with fail
  refine (first_any w).mono ?_
  rintro e w1 ⟨rfl, f1⟩
  go_wp2_with
    (first
      | (refine wpList_bldK rfl rfl #[(0, .agg (wvs first8.list).toArray)] (by kernel_rfl) (.agg (hashC first8 (.slice none 0 0) 0).toArray) (bldHash0 _ first8) ?_)
      | (refine wpList_boxS rfl rfl (hashC first8 (.slice none 0 0) 0) rfl ?_; intro w2 h2 f2 z2; have Z2 := Lib.hid z2; clear z2))
  go_ret
  exact ⟨_, rfl, f1.size, ⟨h2, Row.nil _ _ _ _, Nat.le_refl _⟩, f1.trans_nil f2⟩
end Go.Proofs.YtlelgeigighecaaDoor
