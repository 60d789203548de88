/-
  Contracts of codec's Reader: Zeros; and of the reference's Reader.
-/
import Derived.Test.YtmonedfafechcaaCodC
set_option linter.unusedSimpArgs false
set_option linter.unusedVariables false
set_option linter.unnecessarySimpa false
namespace Go.Proofs.Ytmonedfafechcaa
open Go.RowKit

theorem rdr_refuse {T : TypeId} {w : World} {p : Nat} {G : List Nat} {l : List UInt8} {bad : Bool} (h : Rdr T w p G l bad) : Rdr T (w.setCell ⟨p, 1, none⟩ (.bool true)) p G l true ∧ Fr [p] w (w.setCell ⟨p, 1, none⟩ (.bool true)) := by
  obtain ⟨A, c, h1, h2, h3, h4, h5, h6⟩ := h
  exact ⟨⟨A, c, by simpa using h1.set_ 1 (.bool true), h2, h3, h4, h5.set_ h1 rdr_cells _ _, h6⟩, (Fr.refl _ _).setCell (.inl (by simp)) _⟩

set_option maxHeartbeats 400000 in
theorem rZeros_bad {w : World} {p : Nat} {G : List Nat} {l : List UInt8} {bad : Bool} (h : Rdr 95 w p G l bad) (n : Int) (hn : bad = true ∨ n < 0 ∨ (l.length : Int) < n) :
    Calls Try.prog 27 #[.pointer (some ⟨p, 0, none⟩), .int .i64 n] w fun e w' => e = .returned (.tuple #[]) ∧ Rdr 95 w' p G l true ∧ Fr [p] w w' := by
  have fin := rdr_refuse h
  obtain ⟨A, c, h1, h2, h3, h4, h5, h6⟩ := h
  have c0 := h1.cell 0
  have c1 := h1.cell 1
  have f1 := h1.frozen 1
  simp at c0 c1
  cases bad with
  | true =>
    go_enter Try.func27, Try.ntmps27
    go_wp2
    go_returns
    exact ⟨rfl, fin⟩
  | false =>
    by_cases hn0 : n < 0
    · go_enter Try.func27, Try.ntmps27
      go_wp2
      go_returns
      exact ⟨rfl, fin⟩
    · have hn1 : (l.length : Int) < n := by simpa [hn0] using hn
      go_enter Try.func27, Try.ntmps27
      go_wp2
      go_returns
      exact ⟨rfl, fin⟩

set_option maxHeartbeats 400000 in
theorem rZeros_not {w : World} {p : Nat} {G : List Nat} {l : List UInt8} (h : Rdr 95 w p G l false) (n : Nat) (hn : n ≤ l.length) (hz : allZ (l.take n) = false) :
    Calls Try.prog 27 #[.pointer (some ⟨p, 0, none⟩), .int .i64 n] w fun e w' => e = .returned (.tuple #[]) ∧ Rdr 95 w' p G l true ∧ Fr [p] w w' := by
  have fin := rdr_refuse h
  obtain ⟨A, c, h1, h2, h3, h4, h5, h6⟩ := h
  have c0 := h1.cell 0
  have c1 := h1.cell 1
  have f1 := h1.frozen 1
  simp at c0 c1
  obtain ⟨q, hq⟩ : ∃ q, l.take n = q := ⟨_, rfl⟩
  have hl : q.length = n := by rw [← hq, List.length_take]; omega
  have hrd : Rd w A (bvs q) := by rw [← hq, bvs_take]; exact h5.take n
  rw [hq] at hz
  have HL := Lib.hid hl
  have HZ := Lib.hid hz
  clear hl hq hz
  have d0 : decide ((n : Int) < 0) = false := by simp
  have d1 : decide (l.length < n) = false := by simpa using hn
  go_enter Try.func27, Try.ntmps27
  go_wp2_with (go_at_call 60; have hz' := zeros_any A q c w hrd (by rw [HL.out]; omega); rw [HL.out, HZ.out] at hz'; refine hz'.mono ?_; rintro e w' ⟨rfl, rfl⟩)
  go_returns
  exact ⟨rfl, fin⟩

set_option maxHeartbeats 400000 in
theorem rZeros_ok {w : World} {p : Nat} {G : List Nat} {l : List UInt8} (h : Rdr 95 w p G l false) (n : Nat) (hn : n ≤ l.length) (hz : allZ (l.take n) = true) :
    Calls Try.prog 27 #[.pointer (some ⟨p, 0, none⟩), .int .i64 n] w fun e w' => e = .returned (.tuple #[]) ∧ Rdr 95 w' p G (l.drop n) false ∧ Fr [p] w w' := by
  obtain ⟨A, c, h1, h2, h3, h4, h5, h6⟩ := h
  have c0 := h1.cell 0
  have c1 := h1.cell 1
  have f1 := h1.frozen 1
  have f0 := h1.frozen 0
  simp at c0 c1
  obtain ⟨q, hq⟩ : ∃ q, l.take n = q := ⟨_, rfl⟩
  have hl : q.length = n := by rw [← hq, List.length_take]; omega
  have hrd : Rd w A (bvs q) := by rw [← hq, bvs_take]; exact h5.take n
  rw [hq] at hz
  have HL := Lib.hid hl
  have HZ := Lib.hid hz
  clear hl hq hz
  have d0 : decide ((n : Int) < 0) = false := by simp
  have d1 : decide (l.length < n) = false := by simpa using hn
  have hF0 : Fr [p] w (w.setCell ⟨p, 1, none⟩ (.bool false)) := (Fr.refl _ _).setCell (.inl (by simp)) _
  have hB0 : Blk (w.setCell ⟨p, 1, none⟩ (.bool false)) p 95 #[.slice A l.length c, .bool false] := by simpa using h1.set_ 1 (.bool false)
  have hR0 : Rd (w.setCell ⟨p, 1, none⟩ (.bool false)) A (bvs l) := h5.set_ h1 rdr_cells 1 _
  have e0 := hB0.cell 0
  simp at e0
  have g0 := hB0.frozen 0
  have m3 := h3
  unfold maxLen at h3
  go_enter Try.func27, Try.ntmps27
  go_wp2_with (go_at_call 60; have hz' := zeros_any A q c w hrd (by rw [HL.out]; omega); rw [HL.out, HZ.out] at hz'; refine hz'.mono ?_; rintro e w' ⟨rfl, rfl⟩)
  all_goals
    go_returns
    exact ⟨rfl, rdr_cut hB0 h2 m3 h4 hR0 h6 hn _ _ _ (by first | exact .inl ⟨rfl, by omega⟩ | exact .inr rfl) rfl (by omega), hF0.setCell (.inl (by simp)) _⟩

/-! The reference's Reader. -/

theorem xNewReader_any (A : Option Addr) (l : List UInt8) (n c : Nat) (w : World) (hn : l.length = n) (hr : Rd w A (bvs l)) (hA : A = none → n = 0) (hl : n ≤ 140737488355328) :
    Calls Try.prog 24 #[.slice A n c] w fun e w' => ∃ p G, e = .returned (.pointer (some ⟨p, 0, none⟩)) ∧ Rdr 48 w' p G l false ∧ Fr [] w w' ∧ w.heap.size ≤ p ∧ (∀ g ∈ G, w.heap.size ≤ g ∧ g < w'.heap.size ∧ g ≠ p) := by
  subst hn
  go_enter Try.func24, Try.ntmps24
  go_wp2_with (at_builtin; refine wpList_app rfl rfl slB w.heap.size _ 0 [] rfl (Row.new w #[] 5 1 0 (0, 0) (free_zero _) (by unfold maxLen; omega) rfl (Nat.le_refl _)) A l.length c (bvs l) rfl (by simp [bvs]) (hr.alloc _) (bvs_one l) hA (by omega) (by simp) ?_; intro v1 w1 h1 h2 h3 h4; obtain ⟨B, cap, rfl, hn, hm, hrd, hlt, -⟩ := h1.shape)
  go_ret
  have hf : Fr [] w w1 := ((Fr.refl [] w).alloc _).trans h2 (fun i hi => .inr (by rw [own_mem.1 hi]; exact Nat.le_refl _))
  have e : 0 + l.length = l.length := Nat.zero_add _
  refine ⟨w1.heap.size, Rd.blks B, rfl, ⟨B, cap, by simpa using Blk.new w1 _ _, by omega, hm, hl, by simpa using hrd.alloc _, fun a e => by subst e; simp [Rd.blks]⟩, hf.alloc _, hf.size, fun g hg => ?_⟩
  unfold Rd.blks at hg
  cases B with
  | none => simp at hg
  | some a =>
    simp at hg
    subst hg
    have := hlt a rfl
    have := hf.size
    exact ⟨by omega, by simp; omega, by omega⟩

theorem xBytes_bad {w : World} {p : Nat} {G : List Nat} {l : List UInt8} {bad : Bool} (h : Rdr 48 w p G l bad) (n : Int) (hn : bad = true ∨ n < 0 ∨ (l.length : Int) < n) :
    Calls Try.prog 26 #[.pointer (some ⟨p, 0, none⟩), .int .i64 n] w fun e w' => e = .returned (.slice none 0 0) ∧ Rdr 48 w' p G l true ∧ Fr [p] w w' := by
  have fin := rdr_refuse h
  obtain ⟨A, c, h1, h2, h3, h4, h5, h6⟩ := h
  have c0 := h1.cell 0
  have c1 := h1.cell 1
  have f1 := h1.frozen 1
  simp at c0 c1
  cases bad with
  | true =>
    go_enter Try.func26, Try.ntmps26
    go_wp2
    go_ret
    exact ⟨rfl, fin⟩
  | false =>
    by_cases hn0 : n < 0
    · go_enter Try.func26, Try.ntmps26
      go_wp2
      go_ret
      exact ⟨rfl, fin⟩
    · have hn1 : (l.length : Int) < n := by simpa [hn0] using hn
      go_enter Try.func26, Try.ntmps26
      go_wp2
      go_ret
      exact ⟨rfl, fin⟩

set_option maxHeartbeats 400000 in
theorem xBytes_ok {w : World} {p : Nat} {G : List Nat} {l : List UInt8} (h : Rdr 48 w p G l false) (n : Nat) (hn : n ≤ l.length) :
    Calls Try.prog 26 #[.pointer (some ⟨p, 0, none⟩), .int .i64 n] w fun e w' => ∃ v, e = .returned v ∧ Row w' w.heap.size 5 1 v n (bvs (l.take n)) ∧ Rdr 48 w' p G (l.drop n) false ∧ Fr [p] w w' := by
  obtain ⟨A, c, h1, h2, h3, h4, h5, h6⟩ := h
  have c0 := h1.cell 0
  have c1 := h1.cell 1
  have f1 := h1.frozen 1
  have f0 := h1.frozen 0
  have a0 := (h1.alloc (.cells #[] 5)).cell 0
  simp at c0 c1 a0
  have m3 := h3
  unfold maxLen at h3
  have hlen : (l.take n).length = n := by rw [List.length_take]; omega
  have hrd : Rd w A (bvs (l.take n)) := by rw [bvs_take]; exact h5.take n
  have hAn : A = none → n = 0 := fun e => by
    rcases Nat.eq_zero_or_pos n with h | h
    · exact h
    · obtain ⟨g, o, e', _⟩ := h5.byte (k := 0) (by omega)
      rw [e] at e'; cases e'
  have HL := Lib.hid hlen
  clear hlen
  have d0 : decide ((n : Int) < 0) = false := by simp
  have d1 : decide (l.length < n) = false := by simpa using hn
  go_enter Try.func26, Try.ntmps26
  go_wp2_with (at_builtin; refine wpList_app rfl rfl slB w.heap.size _ 0 [] rfl (Row.new w #[] 5 1 0 (0, 0) (free_zero _) (by unfold maxLen; omega) rfl (Nat.le_refl _)) A n c (bvs (l.take n)) rfl (by rw [bvs_length, HL.out]; omega) (hrd.alloc _) (bvs_one _) hAn (by omega) (by simp) ?_; intro v1 w1 g1 g2 g3 g4; have hf : Fr [] w w1 := ((Fr.refl [] w).alloc _).trans g2 (fun i hi => .inr (by rw [own_mem.1 hi]; exact Nat.le_refl _)); have b1 := h1.keep hf (by simp); have e0 := b1.cell 0; have e2 := b1.frozen 0; simp at e0)
  all_goals
    go_ret
    rw [Nat.zero_add, List.nil_append] at g1
    refine ⟨v1, rfl, ?_, ?_, ?_⟩
    · exact g1.keep (F := [p]) ((Fr.refl _ _).setCell (.inl (by simp)) _) (fun g hg => by have := g1.ne_blk b1 (by decide); rw [hg] at this; simpa using this)
    · exact rdr_cut b1 h2 m3 h4 (h5.keep_nil hf) h6 hn _ _ _ (by first | exact .inl ⟨rfl, by omega⟩ | exact .inr rfl) rfl (by omega)
    · exact hf.nil.setCell (.inl (by simp)) _
end Go.Proofs.Ytmonedfafechcaa
