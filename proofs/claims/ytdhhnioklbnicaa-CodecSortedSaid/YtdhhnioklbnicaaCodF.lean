/-
  Contracts of codec's Writer: NewWriter, Left, room, Bytes, Skip, Uint, Done.
-/
import Derived.Test.YtdhhnioklbnicaaCodE
import Derived.Test.YtdhhnioklbnicaaMemB
import Derived.Deep.RegionLaw
set_option linter.unusedSimpArgs false
set_option linter.unusedVariables false
set_option linter.unnecessarySimpa false
namespace Go.Proofs.Ytdhhnioklbnicaa
open Go.RowKit

/-- A Writer at block p: its bytes lie in a row of its own from B on. -/
def Wrt (w : World) (p B : Nat) (v : Value) (size : Nat) (bad : Bool) (l : List UInt8) : Prop :=
  Blk w p 110 #[v, .int .i64 size, .bool bad] ∧ Row w B 5 1 v l.length (bvs l) ∧ l.length ≤ size ∧ size ≤ 16777216 ∧ B ≤ w.heap.size

section
variable {w w' : World} {p B : Nat} {v : Value} {size : Nat} {bad : Bool} {l : List UInt8}
theorem Wrt.keep (h : Wrt w p B v size bad l) {F : List Nat} (hf : Fr F w w') (hp : p ∉ F) (hv : ∀ g, v.ownBlock = some g → g ∉ F) : Wrt w' p B v size bad l :=
  ⟨h.1.keep hf hp, h.2.1.keep hf hv, h.2.2.1, h.2.2.2.1, by have := hf.size; have := h.2.2.2.2; omega⟩
theorem Wrt.keep_nil (h : Wrt w p B v size bad l) (hf : Fr [] w w') : Wrt w' p B v size bad l := h.keep hf (by simp) (by simp)
theorem Wrt.lt (h : Wrt w p B v size bad l) : p < w.heap.size := h.1.lt
theorem Wrt.vlt (h : Wrt w p B v size bad l) : ∀ g, v.ownBlock = some g → B ≤ g ∧ g < w.heap.size := h.2.1.lt
theorem Wrt.ne (h : Wrt w p B v size bad l) : v.ownBlock ≠ some p := h.2.1.ne_blk h.1 (by decide)
theorem Wrt.flag (h : Wrt w p B v size bad l) (b : Bool) : Wrt (w.setCell ⟨p, 2, none⟩ (.bool b)) p B v size b l :=
  ⟨by simpa using h.1.set_ 2 (.bool b), h.2.1.keep (F := [p]) ((Fr.refl _ _).setCell (.inl (by simp)) _) (fun g hg => by have := h.ne; rw [hg] at this; simpa using this), h.2.2.1, h.2.2.2.1, by have := h.2.2.2.2; simpa using this⟩
theorem Wrt.flagF (_h : Wrt w p B v size bad l) (b : Bool) : Fr [p] w (w.setCell ⟨p, 2, none⟩ (.bool b)) := (Fr.refl _ _).setCell (.inl (by simp)) _
end

/-- The size that a Writer gets. -/
def sizeN (n : Int) : Nat := if n < 0 ∨ 16777216 < n then 0 else n.toNat
theorem sizeN_le (n : Int) : sizeN n ≤ 16777216 := by unfold sizeN; split <;> omega

theorem newWriter_any (n : Int) (w : World) : Calls Try.prog 55 #[.int .i64 n] w fun e w' =>
    e = .returned (.pointer (some ⟨w.heap.size, 0, none⟩)) ∧ Wrt w' w.heap.size w.heap.size (.slice none 0 0) (sizeN n) false [] ∧ Fr [] w w' ∧ w'.heap.size = w.heap.size + 1 := by
  have fin : ∀ m : Nat, m = sizeN n → Wrt (w.alloc (.cells #[.slice none 0 0, .int .i64 m, .bool false] 110)) w.heap.size w.heap.size (.slice none 0 0) (sizeN n) false [] ∧ Fr [] w (w.alloc (.cells #[.slice none 0 0, .int .i64 m, .bool false] 110)) ∧ (w.alloc (.cells #[.slice none 0 0, .int .i64 m, .bool false] 110)).heap.size = w.heap.size + 1 := by
    rintro m rfl
    exact ⟨⟨Blk.new _ _ _, Row.nil _ _ _ _, by simp, sizeN_le n, by simp⟩, (Fr.refl _ _).alloc _, by simp⟩
  by_cases h0 : n < 0
  · have H := fin 0 (if_pos (.inl h0)).symm
    have H2 := Lib.hid H
    clear H fin
    go_enter Try.func55, Try.ntmps55
    go_wp2
    go_ret
    exact ⟨rfl, H2.out⟩
  · by_cases h1 : 16777216 < n
    · have H := fin 0 (if_pos (.inr h1)).symm
      have H2 := Lib.hid H
      clear H fin
      go_enter Try.func55, Try.ntmps55
      go_wp2
      go_ret
      exact ⟨rfl, H2.out⟩
    · obtain ⟨m, rfl⟩ := Int.eq_ofNat_of_zero_le (Int.not_lt.1 h0)
      have H := fin m (if_neg (by omega)).symm
      have H2 := Lib.hid H
      clear H fin
      go_enter Try.func55, Try.ntmps55
      go_wp2
      go_ret
      exact ⟨rfl, H2.out⟩

section
variable {w : World} {p B : Nat} {v : Value} {size : Nat} {bad : Bool} {l : List UInt8}

theorem wLeft_any (h : Wrt w p B v size bad l) :
    Calls Try.prog 78 #[.pointer (some ⟨p, 0, none⟩)] w fun e w' => e = .returned (.int .i64 ((size : Int) - l.length)) ∧ ∃ n, w' = w.drewN n := by
  obtain ⟨h1, h2, h3, h4, h5⟩ := h
  obtain ⟨A, cap, rfl, -, -, -, -, -⟩ := h2.shape
  have c0 := h1.cell 0
  have c1 := h1.cell 1
  simp at c0 c1
  go_enter Try.func78, Try.ntmps78
  go_wp2
  go_quiet (fail)
  go_wp2
  go_ret
  exact ⟨rfl, _, rfl⟩

theorem Wrt.drewN (h : Wrt w p B v size bad l) (n : Nat) : Wrt (w.drewN n) p B v size bad l := h.keep_nil ((Fr.refl _ _).drewN n)

set_option maxHeartbeats 400000 in
theorem wRoom_no (h : Wrt w p B v size bad l) (n : Int) (hn : bad = true ∨ n < 0 ∨ (size : Int) - l.length < n) :
    Calls Try.prog 71 #[.pointer (some ⟨p, 0, none⟩), .int .i64 n] w fun e w' => e = .returned (.bool false) ∧ Wrt w' p B v size true l ∧ Fr [p] w w' := by
  have c2 := h.1.cell 2
  have f2 := h.1.frozen 2
  simp at c2
  have f := h.flag true
  have ff := h.flagF true
  cases bad with
  | true =>
    go_enter Try.func71, Try.ntmps71
    go_wp2
    go_ret
    exact ⟨rfl, f, ff⟩
  | false =>
    by_cases hn0 : n < 0
    · go_enter Try.func71, Try.ntmps71
      go_wp2
      go_ret
      exact ⟨rfl, f, ff⟩
    · have hn1 : (size : Int) - l.length < n := by simpa [hn0] using hn
      have f' := fun k => (h.drewN k).flag true
      have ff' := fun k => (h.drewN k).flagF true
      have F := Lib.hid f'
      have FF := Lib.hid ff'
      clear f' ff' f ff hn
      go_enter Try.func71, Try.ntmps71
      go_wp2_with (go_at_call 78; refine (wLeft_any h).mono ?_; rintro e w' ⟨rfl, k, rfl⟩)
      go_ret
      exact ⟨rfl, F.out k, ((Fr.refl _ _).drewN k).trans (FF.out k) (fun i hi => .inl hi)⟩

set_option maxHeartbeats 400000 in
theorem wRoom_yes (h : Wrt w p B v size false l) (n : Nat) (hn : (l.length : Int) + n ≤ size) :
    Calls Try.prog 71 #[.pointer (some ⟨p, 0, none⟩), .int .i64 n] w fun e w' => e = .returned (.bool true) ∧ Wrt w' p B v size false l ∧ Fr [p] w w' := by
  have c2 := h.1.cell 2
  have f2 := h.1.frozen 2
  simp at c2
  have f' := fun k => (h.drewN k).flag false
  have ff' := fun k => (h.drewN k).flagF false
  have F := Lib.hid f'
  have FF := Lib.hid ff'
  clear f' ff'
  have d0 : decide ((n : Int) < 0) = false := by simp
  have d1 : decide ((size : Int) - l.length < n) = false := by simp; omega
  go_enter Try.func71, Try.ntmps71
  go_wp2_with (go_at_call 78; refine (wLeft_any h).mono ?_; rintro e w' ⟨rfl, k, rfl⟩)
  go_ret
  exact ⟨rfl, F.out k, ((Fr.refl _ _).drewN k).trans (FF.out k) (fun i hi => .inl hi)⟩

/-- What a Writer's append leaves. -/
def WPost (w w' : World) (p B : Nat) (v : Value) (size : Nat) (l : List UInt8) : Prop :=
  ∃ v', Wrt w' p B v' size false l ∧ Fr (p :: v.ownBlock.toList) w w' ∧ ∀ g, v'.ownBlock = some g → v.ownBlock = some g ∨ w.heap.size ≤ g

theorem WPost.of_store {w0 w1 w2 : World} {v' : Value} (h0 : Wrt w1 p B v size false l) (hf0 : Fr [p] w0 w1) (q : List UInt8) (hq : q.length ≤ size) (hr : Row w2 B 5 1 v' q.length (bvs q)) (hf : Fr v.ownBlock.toList w1 w2) (hv : ∀ g, v'.ownBlock = some g → v.ownBlock = some g ∨ w1.heap.size ≤ g) :
    WPost w0 (w2.setCell ⟨p, 0, none⟩ v') p B v size q := by
  have hne := h0.ne
  have hb : Blk w2 p 110 #[v, .int .i64 size, .bool false] := h0.1.keep hf (fun hm => hne (mem_own.1 hm))
  refine ⟨v', ⟨by simpa using hb.set_ 0 v', hr.keep (F := [p]) ((Fr.refl _ _).setCell (.inl (by simp)) _) (fun g hg => by have := hr.ne_blk hb (by decide); rw [hg] at this; simpa using this), hq, h0.2.2.2.1, by have := h0.2.2.2.2; have := hf.size; simp; omega⟩, ?_, ?_⟩
  · have h1 : Fr (p :: v.ownBlock.toList) w0 w1 := hf0.mono (by simp)
    have h2 : Fr (p :: v.ownBlock.toList) w0 w2 := h1.trans (hf.mono (G := p :: v.ownBlock.toList) (fun i hi => List.mem_cons_of_mem _ hi)) (fun i hi => .inl hi)
    exact h2.setCell (.inl (by simp)) _
  · intro g hg
    rcases hv g hg with h | h
    · exact .inl h
    · exact .inr (by have := hf0.size; omega)

theorem bvs_replicate (n : Nat) : bvs (List.replicate n 0) = List.replicate n (.int .u8 0) := by simp [bvs, bv]

end
end Go.Proofs.Ytdhhnioklbnicaa
