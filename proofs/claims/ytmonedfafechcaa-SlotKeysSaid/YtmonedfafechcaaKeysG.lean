/-
  Contracts of layer 12: Get of epochs.
-/
import Derived.Test.YtmonedfafechcaaKeysF
set_option linter.unusedSimpArgs false
set_option linter.unusedVariables false
set_option linter.unnecessarySimpa false
namespace Go.Proofs.Ytmonedfafechcaa
open Go.RowKit

section
variable {w w' : World} {p : Nat} {G : List Nat} {l : List UInt8}
set_option maxRecDepth 100000 in
set_option maxHeartbeats 2000000 in
theorem getE_ok (h : Rdr 95 w p G l false) (n : Nat) (hn : 68 * n ≤ l.length) (hn2 : n ≤ 1000) (hG : ∀ g ∈ G, g < w.heap.size) :
    Calls Try.prog 67 #[.pointer (some ⟨p, 0, none⟩), .int .i64 n, .func (.func 68) #[] #[]] w fun e w' => ∃ v, e = .returned v ∧ Row w' w.heap.size 102 65 v n (epsC (epsOf l n)) ∧ Rdr 95 w' p G (l.drop (68 * n)) false ∧ Fr [p] w w' := by
  have hp := h.lt
  have d1 : decide ((n : Int) < 0) = false := by simp
  have d2 : ¬ ((l.length : Int) < (n : Int)) := by omega
  have d3 : decide (l.length < n) = false := by simp; omega
  have HN := Lib.hid hn
  clear hn
  go_enter Try.func67, Try.ntmps67
  go_wp2_with fail
  refine (rLeft_any h).mono ?_
  rintro e w' ⟨rfl, rfl⟩
  go_wp2_with fail
  go_loopw [7, 23] (fun v i wr => ∃ k : Nat, k ≤ n ∧ i = .int .i64 k ∧ Row wr w.heap.size 102 65 v k (epsC (epsOf l k)) ∧ Rdr 95 wr p G (l.drop (68 * k)) false ∧ Fr [p] w wr) (fun _ i _ => n - (intOf i).toNat)
  case atStart => exact ⟨0, Nat.zero_le _, rfl, Row.nil _ _ _ _, by simpa using h, Fr.refl _ _⟩
  case round =>
    obtain ⟨k, hk, rfl, k1, x1, f1⟩ := hrel
    obtain ⟨c1, z1⟩ := rdr_bad_set' x1
    obtain ⟨A7, cap7, rfl, -, -, -, -, -⟩ := k1.shape
    by_cases hlt : k < n
    · have h68 : 68 ≤ (l.drop (68 * k)).length := by rw [List.length_drop]; have := HN.out; omega
      have T := Lib.hid (epsOf_succ l k)
      have hx := epOf_ok h68
      have D : (l.drop (68 * k)).drop 68 = l.drop (68 * (k + 1)) := by rw [List.drop_drop]; rfl
      go_wp2_with fail
      have cc := decKeys1_ok x1 h68 (fun g hg => by have := hG g hg; have := f1.size; omega)
      rw [D] at cc
      clear D h68
      generalize epOf (l.drop (68 * k)) = x at *
      refine cc.mono ?_
      clear cc
      rintro e w2 ⟨rfl, x2, f2⟩
      have k2 := k1.keep f2 (fun g hg => by have := k1.lt g hg; simp; omega)
      go_wp2_with
        (first
          | (refine wpList_bs1 stEp Try.underlying66 (by omega) (by decide) rfl rfl x.cells rfl (EpM.len hx.ok) ?_; intro w3 b3 f3 z3; have Z3 := Lib.hid z3; clear z3)
          | (at_builtin; refine wpList_app rfl rfl slEp w.heap.size (.slice A7 k cap7) k (epsC (epsOf l k)) rfl (k2.keep_nil f3) _ 1 1 x.cells rfl (by rw [EpM.len hx.ok]) (Rd.of_blk b3 0 _ (fun j u hu => by rw [Nat.zero_add]; simpa using hu)) x.ones (by simp) (by omega) (by have := f1.size; have := f2.size; have := f3.size; omega) ?_; intro v4 w4 q1 q2 q3 q4))
      have q2' := q2
      refine ⟨⟨k + 1, by omega, by go_num, ?_, ?_, ?_⟩, by simp [intOf]; omega⟩
      · rw [T.out, epsC_append]
        simpa [epsC] using q1
      · refine (x2.keep f3 (by simp) (by simp)).keep q2' (fun hm => ?_) (fun g hg hm => ?_)
        · have := (k1.lt _ (mem_own.1 hm)).1; omega
        · have := (k1.lt _ (mem_own.1 hm)).1; have := hG g hg; omega
      · exact ((f1.trans_same f2).trans_nil f3).trans q2' (fun i hi => .inr (k1.lt i (mem_own.1 hi)).1)
    · obtain rfl : k = n := by omega
      go_wp2_with fail
      go_ret
      exact ⟨_, rfl, k1, x1, f1⟩
end
end Go.Proofs.Ytmonedfafechcaa
