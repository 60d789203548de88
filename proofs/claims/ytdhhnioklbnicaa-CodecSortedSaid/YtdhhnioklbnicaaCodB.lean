/-
  Contracts of codec's Reader: NewReader, Left, Done, Bytes, Zeros.
-/
import Derived.Test.YtdhhnioklbnicaaCodA
set_option linter.unusedSimpArgs false
set_option linter.unusedVariables false
set_option linter.unnecessarySimpa false
namespace Go.Proofs.Ytdhhnioklbnicaa
open Go.RowKit

/-- A Reader (a struct of type T: bytes left, 'refused') at block p; what is left lies in a block of G. -/
def Rdr (T : TypeId) (w : World) (p : Nat) (G : List Nat) (l : List UInt8) (bad : Bool) : Prop :=
  ∃ A c, Blk w p T #[.slice A l.length c, .bool bad] ∧ l.length ≤ c ∧ c ≤ maxLen ∧ l.length ≤ 140737488355328 ∧ Rd w A (bvs l) ∧ ∀ a, A = some a → a.block ∈ G

theorem Rdr.keep {T : TypeId} {w w' : World} {p : Nat} {G F : List Nat} {l : List UInt8} {bad : Bool} (h : Rdr T w p G l bad) (hf : Fr F w w') (hp : p ∉ F) (hG : ∀ g ∈ G, g ∉ F) : Rdr T w' p G l bad := by
  obtain ⟨A, c, h1, h2, h3, h4, h5, h6⟩ := h
  exact ⟨A, c, h1.keep hf hp, h2, h3, h4, h5.keep hf (fun g o e => hG g (h6 _ e)), h6⟩
theorem Rdr.mono {T : TypeId} {w : World} {p : Nat} {G G' : List Nat} {l : List UInt8} {bad : Bool} (h : Rdr T w p G l bad) (hG : ∀ g ∈ G, g ∈ G') : Rdr T w p G' l bad := by
  obtain ⟨A, c, h1, h2, h3, h4, h5, h6⟩ := h
  exact ⟨A, c, h1, h2, h3, h4, h5, fun a e => hG _ (h6 a e)⟩
theorem Rdr.lt {T : TypeId} {w : World} {p : Nat} {G : List Nat} {l : List UInt8} {bad : Bool} (h : Rdr T w p G l bad) : p < w.heap.size := by
  obtain ⟨A, c, h1, _⟩ := h
  exact h1.lt
theorem Rdr.len {T : TypeId} {w : World} {p : Nat} {G : List Nat} {l : List UInt8} {bad : Bool} (h : Rdr T w p G l bad) : l.length ≤ 140737488355328 := by
  obtain ⟨A, c, _, _, _, h4, _⟩ := h
  exact h4

/-- The bytes do not lie in the Reader's own block. -/
theorem rd_ne {w : World} {A : Option Addr} {l : List UInt8} {p : Nat} {T : TypeId} {cs : Array Value} (hr : Rd w A (bvs l)) (hb : Blk w p T cs) (hc : ∀ (i : Nat) (x : UInt8), cs[i]? ≠ some (bv x)) (hl : l ≠ []) {g o : Nat} (e : A = some ⟨g, o, none⟩) : g ≠ p := by
  rintro rfl
  cases l with
  | nil => exact hl rfl
  | cons x r =>
    obtain ⟨g', o', e', h⟩ := hr (by simp [bvs])
    rw [e] at e'; cases e'
    have := h 0 (bv x) (by simp [bvs])
    rw [hb.cell] at this
    exact hc _ _ this
theorem Rd.set_ {w : World} {A : Option Addr} {l : List UInt8} {p : Nat} {T : TypeId} {cs : Array Value} (hr : Rd w A (bvs l)) (hb : Blk w p T cs) (hc : ∀ (i : Nat) (x : UInt8), cs[i]? ≠ some (bv x)) (i : Nat) (v : Value) : Rd (w.setCell ⟨p, i, none⟩ v) A (bvs l) := by
  by_cases hl : l = []
  · subst hl; exact Rd.nil _ _
  · exact hr.keep ((Fr.refl [p] w).setCell (.inl (by simp)) v) (fun g o e => by simpa using rd_ne hr hb hc hl e)
theorem rdr_cells {A : Option Addr} {n c : Nat} {bad : Bool} : ∀ (i : Nat) (x : UInt8), (#[.slice A n c, .bool bad] : Array Value)[i]? ≠ some (bv x) := by
  intro i x
  match i with
  | 0 => simp [bv]
  | 1 => simp [bv]
  | i + 2 => simp

/-- A new Reader, from a row of its own. -/
theorem newReader_any (A : Option Addr) (l : List UInt8) (n c : Nat) (w : World) (hn : l.length = n) (hr : Rd w A (bvs l)) (hA : A = none → n = 0) (hl : n ≤ 140737488355328) :
    Calls Try.prog 58 #[.slice A n c] w fun e w' => ∃ p G, e = .returned (.pointer (some ⟨p, 0, none⟩)) ∧ Rdr 112 w' p G l false ∧ Fr [] w w' ∧ w.heap.size ≤ p ∧ (∀ g ∈ G, w.heap.size ≤ g ∧ g < w'.heap.size ∧ g ≠ p) := by
  subst hn
  go_enter Try.func58, Try.ntmps58
  go_wp2_with (go_at_call 38; refine (clone_any _ _ _ _ _ rfl hr hA hl).mono ?_; rintro e w1 ⟨v, rfl, h1, h2⟩; obtain ⟨B, cap, rfl, hn, hm, hrd, hlt, -⟩ := h1.shape)
  go_ret
  refine ⟨w1.heap.size, Rd.blks B, rfl, ⟨B, cap, Blk.new _ _ _, hn, hm, hl, hrd.alloc _, fun a e => by subst e; simp [Rd.blks]⟩, h2.alloc _, h2.size, fun g hg => ?_⟩
  unfold Rd.blks at hg
  cases B with
  | none => simp at hg
  | some a =>
    simp at hg
    subst hg
    have := hlt a rfl
    have := h2.size
    exact ⟨by omega, by simp; omega, by omega⟩

theorem rLeft_any {w : World} {p : Nat} {G : List Nat} {l : List UInt8} {bad : Bool} (h : Rdr 112 w p G l bad) :
    Calls Try.prog 61 #[.pointer (some ⟨p, 0, none⟩)] w fun e w' => e = .returned (.int .i64 l.length) ∧ w = w' := by
  obtain ⟨A, c, h1, h2, h3, h4, h5, h6⟩ := h
  have c0 := h1.cell 0
  simp at c0
  go_enter Try.func61, Try.ntmps61
  go_wp2
  go_ret
  exact ⟨rfl, rfl⟩

/-- Done: 0 is OK, 90 is ErrCode. -/
def doneE (l : List UInt8) (bad : Bool) : Int := if bad || !allZ l then 90 else 0

theorem rDone_any {w : World} {p : Nat} {G : List Nat} {l : List UInt8} {bad : Bool} (h : Rdr 112 w p G l bad) :
    Calls Try.prog 60 #[.pointer (some ⟨p, 0, none⟩)] w fun e w' => e = .returned (.int .i64 (doneE l bad)) ∧ w = w' := by
  obtain ⟨A, c, h1, h2, h3, h4, h5, h6⟩ := h
  have c0 := h1.cell 0
  have c1 := h1.cell 1
  simp at c0 c1
  cases bad with
  | true =>
    go_enter Try.func60, Try.ntmps60
    go_wp2
    go_ret
    exact ⟨rfl, rfl⟩
  | false =>
    cases hz : allZ l with
    | true =>
      have H := Lib.hid hz
      go_enter Try.func60, Try.ntmps60
      go_wp2_with (go_at_call 73; refine (zeros_any _ _ _ _ h5 h4).mono ?_; rintro e w' ⟨rfl, rfl⟩)
      go_ret
      exact ⟨by simp [doneE, H.out], rfl⟩
    | false =>
      have H := Lib.hid hz
      go_enter Try.func60, Try.ntmps60
      go_wp2_with (go_at_call 73; refine (zeros_any _ _ _ _ h5 h4).mono ?_; rintro e w' ⟨rfl, rfl⟩)
      go_ret
      exact ⟨by simp [doneE, H.out], rfl⟩

/-- What is refused. -/
theorem rBytes_bad {w : World} {p : Nat} {G : List Nat} {l : List UInt8} {bad : Bool} (h : Rdr 112 w p G l bad) (n : Int) (hn : bad = true ∨ n < 0 ∨ (l.length : Int) < n) :
    Calls Try.prog 72 #[.pointer (some ⟨p, 0, none⟩), .int .i64 n] w fun e w' => e = .returned (.slice none 0 0) ∧ Rdr 112 w' p G l true ∧ Fr [p] w w' := by
  obtain ⟨A, c, h1, h2, h3, h4, h5, h6⟩ := h
  have c0 := h1.cell 0
  have c1 := h1.cell 1
  have f1 := h1.frozen 1
  simp at c0 c1
  have fin : Rdr 112 (w.setCell ⟨p, 1, none⟩ (.bool true)) p G l true ∧ Fr [p] w (w.setCell ⟨p, 1, none⟩ (.bool true)) :=
    ⟨⟨A, c, by simpa using h1.set_ 1 (.bool true), h2, h3, h4, h5.set_ h1 rdr_cells _ _, h6⟩, (Fr.refl _ _).setCell (.inl (by simp)) _⟩
  cases bad with
  | true =>
    go_enter Try.func72, Try.ntmps72
    go_wp2
    go_ret
    exact ⟨rfl, fin⟩
  | false =>
    by_cases hn0 : n < 0
    · go_enter Try.func72, Try.ntmps72
      go_wp2
      go_ret
      exact ⟨rfl, fin⟩
    · have hn1 : (l.length : Int) < n := by simpa [hn0] using hn
      go_enter Try.func72, Try.ntmps72
      go_wp2
      go_ret
      exact ⟨rfl, fin⟩

theorem rdr_cut {T : TypeId} {w : World} {p : Nat} {G : List Nat} {l : List UInt8} {A : Option Addr} {c n : Nat} (h1 : Blk w p T #[.slice A l.length c, .bool false]) (h2 : l.length ≤ c) (h3 : c ≤ maxLen) (h4 : l.length ≤ 140737488355328) (h5 : Rd w A (bvs l)) (h6 : ∀ a, A = some a → a.block ∈ G) (hn : n ≤ l.length)
    (A' : Option Addr) (m c' : Nat) (hA : A' = A ∧ c = n ∨ A' = A.map (·.add n)) (hm : m = l.length - n) (hc : c' = c - n) :
    Rdr T (w.setCell ⟨p, 0, none⟩ (.slice A' m c')) p G (l.drop n) false := by
  subst hm hc
  have hl : (l.drop n).length = l.length - n := by simp
  refine ⟨A', c - n, ?_, by omega, by omega, by omega, ?_, ?_⟩
  · rw [hl]; simpa using h1.set_ 0 (.slice A' (l.length - n) (c - n))
  · have h7 : Rd w A' (bvs (l.drop n)) := by
      rcases hA with ⟨rfl, rfl⟩ | rfl
      · rw [List.drop_eq_nil_of_le (by omega)]; exact Rd.nil _ _
      · rw [bvs_drop]; exact h5.drop n
    exact h7.set_ h1 rdr_cells _ _
  · intro a e
    rcases hA with ⟨rfl, _⟩ | rfl
    · exact h6 a e
    · cases A with
      | none => cases e
      | some a0 =>
        simp only [Option.map_some, Option.some.injEq] at e
        rw [← e, add_block]
        exact h6 a0 rfl

set_option maxHeartbeats 400000 in
theorem rBytes_ok {w : World} {p : Nat} {G : List Nat} {l : List UInt8} (h : Rdr 112 w p G l false) (n : Nat) (hn : n ≤ l.length) :
    Calls Try.prog 72 #[.pointer (some ⟨p, 0, none⟩), .int .i64 n] w fun e w' => ∃ v, e = .returned v ∧ Row w' w.heap.size 5 1 v n (bvs (l.take n)) ∧ Rdr 112 w' p G (l.drop n) false ∧ Fr [p] w w' := by
  obtain ⟨A, c, h1, h2, h3, h4, h5, h6⟩ := h
  have c0 := h1.cell 0
  have c1 := h1.cell 1
  have f1 := h1.frozen 1
  have f0 := h1.frozen 0
  simp at c0 c1
  unfold maxLen at h3
  have d0 : decide ((n : Int) < 0) = false := by simp
  have d1 : decide (l.length < n) = false := by simpa using hn
  obtain ⟨W, hW⟩ : ∃ W : World, W = w.setCell ⟨p, 1, none⟩ (.bool false) := ⟨_, rfl⟩
  have hlen : (l.take n).length = n := by rw [List.length_take]; omega
  have hrd : Rd W A (bvs (l.take n)) := by rw [hW, bvs_take]; exact (h5.set_ h1 rdr_cells 1 _).take n
  have hAn : A = none → n = 0 := fun e => by
    rcases Nat.eq_zero_or_pos n with h | h
    · exact h
    · obtain ⟨g, o, e', _⟩ := h5.byte (k := 0) (by omega)
      rw [e] at e'; cases e'
  have hF0 : Fr [p] w W := by rw [hW]; exact (Fr.refl _ _).setCell (.inl (by simp)) _
  have hB0 : Blk W p 112 #[.slice A l.length c, .bool false] := by rw [hW]; simpa using h1.set_ 1 (.bool false)
  have hR0 : Rd W A (bvs l) := by rw [hW]; exact h5.set_ h1 rdr_cells 1 _
  have HW := Lib.hid hW
  have HL := Lib.hid hlen
  clear hW hlen
  go_enter Try.func72, Try.ntmps72
  go_wp2_with (go_at_call 38; rw [← HW.out]; refine (clone_any _ _ _ _ _ HL.out hrd hAn (by omega)).mono ?_; rintro e w1 ⟨v, rfl, g1, g2⟩; have b1 := hB0.keep g2 (by simp); have e0 := b1.cell 0; have e1 := b1.cell 1; have e2 := b1.frozen 0; simp at e0 e1)
  all_goals
    go_ret
    refine ⟨v, rfl, ?_, ?_, ?_⟩
    · exact (g1.mono (by have := hF0.size; omega)).keep (F := [p]) ((Fr.refl _ _).setCell (.inl (by simp)) _) (fun g hg => by have := g1.ne_blk b1 (by decide); rw [hg] at this; simpa using this)
    · exact rdr_cut b1 h2 (by unfold maxLen; exact h3) h4 (hR0.keep_nil g2) h6 hn _ _ _ (by first | exact .inl ⟨rfl, by omega⟩ | exact .inr rfl) rfl (by omega)
    · exact (hF0.trans_nil g2).setCell (.inl (by simp)) _
end Go.Proofs.Ytdhhnioklbnicaa
