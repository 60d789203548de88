/-
  Texts of this claim, one behind the other: CodA, CodB, CodC, CodD, CodE, CodF, CodG, CodH.
-/
import Derived.Test.YtlelgeigighecaaDoorM1
import Derived.Test.YtlelgeigighecaaDoorProg
import Derived.Deep.RegionLaw
/-
  Contracts of codec's Reader: NewReader, Bytes, Uint, Zeros, Left, Done, and of what they call.
-/
set_option linter.unusedSimpArgs false
set_option linter.unusedVariables false
set_option linter.unnecessarySimpa false
namespace Go.Proofs.YtlelgeigighecaaDoor
open Go.RowKit

theorem slB : SlT Tryd.prog 28 5 1 1 (.int .u8 0) := ⟨Tryd.underlying28, by kernel_rfl, rfl, by decide, by decide⟩

/-- slices.Clone of bytes. -/
theorem clone_any (A : Option Addr) (l : List UInt8) (n c : Nat) (w : World) (hn : l.length = n) (hr : Rd w A (bvs l)) (hA : A = none → n = 0) (hl : n ≤ 140737488355328) :
    Calls Tryd.prog 58 #[.slice A n c] w fun e w' => ∃ v, e = .returned v ∧ Row w' w.heap.size 5 1 v n (bvs l) ∧ Fr [] w w' := by
  subst hn
  have qT : ∀ (w : World) (a : Option Addr) (n c n' c' : Nat), (binOp .eql 28 (.slice a n c) (.slice none n' c')).run Tryd.prog w = .ok (.bool a.isNone) w :=
    fun w a n c n' c' => Lib.run_eql_slice_nil w _ _ a n c n' c' Tryd.underlying28
  cases A with
  | none =>
    obtain rfl : l = [] := List.eq_nil_of_length_eq_zero (hA rfl)
    go_enter Tryd.func58, Tryd.ntmps58
    go_wp2
    go_ret
    exact ⟨_, rfl, Row.nil _ _ _ _, Fr.refl _ _⟩
  | some ad =>
    go_enter Tryd.func58, Tryd.ntmps58
    go_wp2_with (at_builtin; refine wpList_app rfl rfl slB w.heap.size _ 0 [] rfl (Row.new w #[] 5 1 0 (0, 0) (free_zero _) (by unfold maxLen; omega) rfl (Nat.le_refl _)) (some ad) l.length c (bvs l) rfl (by simp [bvs]) (hr.alloc _) (bvs_one l) (fun h => by cases h) (by omega) (by simp) ?_; intro v1 w1 h1 h2 h3 h4)
    go_ret
    refine ⟨_, rfl, by simpa using h1, ?_⟩
    exact ((Fr.refl [] w).alloc _).trans h2 (fun i hi => .inr (by rw [own_mem.1 hi]; exact Nat.le_refl _))

def allZ (l : List UInt8) : Bool := l.all (· == 0)
def nzI (l : List UInt8) : Int := if allZ l then -1 else (l.findIdx (· != 0) : Nat)
theorem nzI_ge (l : List UInt8) : decide (0 ≤ nzI l) = !allZ l := by
  unfold nzI
  cases allZ l <;> simp
theorem allZ_take_succ (l : List UInt8) (k : Nat) (h : k < l.length) : allZ (l.take (k + 1)) = (allZ (l.take k) && (l[k] == 0)) := by
  unfold allZ
  rw [List.take_succ_eq_append_getElem h, List.all_append]; simp only [List.all_cons, List.all_nil, Bool.and_true]
theorem nzI_at (l : List UInt8) (k : Nat) (h : k < l.length) (h0 : allZ (l.take k) = true) (h1 : l[k] ≠ 0) : nzI l = k := by
  have hz : allZ l = false := by
    unfold allZ
    rw [List.all_eq_false]
    exact ⟨l[k], List.getElem_mem h, by simpa using h1⟩
  unfold nzI
  rw [hz, if_neg (by simp)]
  congr 1
  rw [List.findIdx_eq h]
  refine ⟨by simpa using h1, fun j hj => ?_⟩
  unfold allZ at h0
  rw [List.all_eq_true] at h0
  have hl : j < (l.take k).length := by rw [List.length_take]; omega
  have := h0 (l.take k)[j] (List.getElem_mem hl)
  rw [List.getElem_take] at this
  simp only [beq_iff_eq] at this
  simp [this]

theorem Rd.byte {w : World} {A : Option Addr} {l : List UInt8} (hr : Rd w A (bvs l)) {k : Nat} (hk : k < l.length) : ∃ g o, A = some ⟨g, o, none⟩ ∧ ∀ j (hj : j < l.length), w.cell? ⟨g, o + j, none⟩ = some (.int .u8 (l[j].toNat : Int)) := by
  obtain ⟨g, o, e, hc⟩ := hr (by intro h; have := congrArg List.length h; rw [bvs_length, List.length_nil] at this; omega)
  exact ⟨g, o, e, fun j hj => hc j _ (by simp [bvs, hj, bv])⟩

theorem u8_ne {x : UInt8} (h : x ≠ 0) : ((x.toNat : Int) != 0) = true := by
  rw [bne_iff_ne]; intro h'; exact h (UInt8.toNat_inj.1 (by simpa using h'))

set_option maxHeartbeats 400000 in
/-- IndexFunc at 'is not 0'. -/
theorem indexB_any (A : Option Addr) (l : List UInt8) (c : Nat) (w : World) (hr : Rd w A (bvs l)) (hl : l.length ≤ 140737488355328) :
    Calls Tryd.prog 106 #[.slice A l.length c, .func (.func 102) #[] #[]] w fun e w' => e = .returned (.int .i64 (nzI l)) ∧ w = w' := by
  go_enter Tryd.func106, Tryd.ntmps106
  go_wp2
  go_loop [8] (fun i => ∃ k : Nat, k ≤ l.length ∧ i = .int .i64 k ∧ allZ (l.take k) = true) (fun i => l.length - (intOf i).toNat)
  case atStart => exact ⟨0, Nat.zero_le _, rfl, rfl⟩
  case round =>
    obtain ⟨k, hk, rfl, hz⟩ := hrel
    have Hz := Lib.hid hz
    clear hz
    by_cases hlt : k < l.length
    · obtain ⟨g, o, rfl, hc⟩ := hr.byte hlt
      have hck := hc k hlt
      clear hc
      by_cases h0 : l[k] = 0
      · have ht := allZ_take_succ l k hlt
        have Ht : Hid (allZ (l.take (k + 1)) = true) := by rw [Hid, ht, Hz.out, h0]; rfl
        clear ht
        rw [h0] at hck
        clear h0
        go_wp2
        go_round
        case rel => exact ⟨k + 1, by omega, by go_num, Ht.out⟩
        case measure => simp [intOf]; omega
      · have e := nzI_at l k hlt Hz.out h0
        have H := Lib.hid e
        have h1 := u8_ne h0
        clear e
        go_wp2
        go_ret
        exact ⟨by rw [H.out]; rfl, rfl⟩
    · have hk' : k = l.length := by omega
      have e : nzI l = -1 := by
        have h1 := Hz.out
        rw [hk', List.take_length] at h1
        unfold nzI; rw [h1]; rfl
      have H := Lib.hid e
      clear e hk'
      go_wp2
      go_ret
      exact ⟨by rw [H.out]; rfl, rfl⟩

theorem containsB_any (A : Option Addr) (l : List UInt8) (c : Nat) (w : World) (hr : Rd w A (bvs l)) (hl : l.length ≤ 140737488355328) :
    Calls Tryd.prog 101 #[.slice A l.length c, .func (.func 102) #[] #[]] w fun e w' => e = .returned (.bool (!allZ l)) ∧ w = w' := by
  have H := Lib.hid (nzI_ge l)
  go_enter Tryd.func101, Tryd.ntmps101
  go_wp2_with (go_at_call 106; refine (indexB_any _ _ _ _ hr hl).mono ?_; rintro e w' ⟨rfl, rfl⟩)
  go_ret
  exact ⟨by rw [← H.out]; rfl, rfl⟩

theorem zeros_any (A : Option Addr) (l : List UInt8) (c : Nat) (w : World) (hr : Rd w A (bvs l)) (hl : l.length ≤ 140737488355328) :
    Calls Tryd.prog 87 #[.slice A l.length c] w fun e w' => e = .returned (.bool (allZ l)) ∧ w = w' := by
  go_enter Tryd.func87, Tryd.ntmps87
  go_wp2_with (go_at_call 101; refine (containsB_any _ _ _ _ hr hl).mono ?_; rintro e w' ⟨rfl, rfl⟩)
  go_ret
  exact ⟨by simp, rfl⟩

end Go.Proofs.YtlelgeigighecaaDoor
/-
  Contracts of codec's Reader: NewReader, Left, Done, Bytes, Zeros.
-/
set_option linter.unusedSimpArgs false
set_option linter.unusedVariables false
set_option linter.unnecessarySimpa false
namespace Go.Proofs.YtlelgeigighecaaDoor
open Go.RowKit

/-- A Reader (a struct of type T: bytes left, 'refused') at block p; what is left lies in a block of G. -/
def Rdr (T : TypeId) (w : World) (p : Nat) (G : List Nat) (l : List UInt8) (bad : Bool) : Prop :=
  ∃ A c, Blk w p T #[.slice A l.length c, .bool bad] ∧ l.length ≤ c ∧ c ≤ maxLen ∧ l.length ≤ 140737488355328 ∧ Rd w A (bvs l) ∧ ∀ a, A = some a → a.block ∈ G

theorem Rdr.keep {T : TypeId} {w w' : World} {p : Nat} {G F : List Nat} {l : List UInt8} {bad : Bool} (h : Rdr T w p G l bad) (hf : Fr F w w') (hp : p ∉ F) (hG : ∀ g ∈ G, g ∉ F) : Rdr T w' p G l bad := by
  obtain ⟨A, c, h1, h2, h3, h4, h5, h6⟩ := h
  exact ⟨A, c, h1.keep hf hp, h2, h3, h4, h5.keep hf (fun g o e => hG g (h6 _ e)), h6⟩
theorem Rdr.mono {T : TypeId} {w : World} {p : Nat} {G G' : List Nat} {l : List UInt8} {bad : Bool} (h : Rdr T w p G l bad) (hG : ∀ g ∈ G, g ∈ G') : Rdr T w p G' l bad := by
  obtain ⟨A, c, h1, h2, h3, h4, h5, h6⟩ := h
  exact ⟨A, c, h1, h2, h3, h4, h5, fun a e => hG _ (h6 a e)⟩
theorem Rdr.lt {T : TypeId} {w : World} {p : Nat} {G : List Nat} {l : List UInt8} {bad : Bool} (h : Rdr T w p G l bad) : p < w.heap.size := by
  obtain ⟨A, c, h1, _⟩ := h
  exact h1.lt
theorem Rdr.len {T : TypeId} {w : World} {p : Nat} {G : List Nat} {l : List UInt8} {bad : Bool} (h : Rdr T w p G l bad) : l.length ≤ 140737488355328 := by
  obtain ⟨A, c, _, _, _, h4, _⟩ := h
  exact h4

/-- The bytes do not lie in the Reader's own block. -/
theorem rd_ne {w : World} {A : Option Addr} {l : List UInt8} {p : Nat} {T : TypeId} {cs : Array Value} (hr : Rd w A (bvs l)) (hb : Blk w p T cs) (hc : ∀ (i : Nat) (x : UInt8), cs[i]? ≠ some (bv x)) (hl : l ≠ []) {g o : Nat} (e : A = some ⟨g, o, none⟩) : g ≠ p := by
  rintro rfl
  cases l with
  | nil => exact hl rfl
  | cons x r =>
    obtain ⟨g', o', e', h⟩ := hr (by simp [bvs])
    rw [e] at e'; cases e'
    have := h 0 (bv x) (by simp [bvs])
    rw [hb.cell] at this
    exact hc _ _ this
theorem Rd.set_ {w : World} {A : Option Addr} {l : List UInt8} {p : Nat} {T : TypeId} {cs : Array Value} (hr : Rd w A (bvs l)) (hb : Blk w p T cs) (hc : ∀ (i : Nat) (x : UInt8), cs[i]? ≠ some (bv x)) (i : Nat) (v : Value) : Rd (w.setCell ⟨p, i, none⟩ v) A (bvs l) := by
  by_cases hl : l = []
  · subst hl; exact Rd.nil _ _
  · exact hr.keep ((Fr.refl [p] w).setCell (.inl (by simp)) v) (fun g o e => by simpa using rd_ne hr hb hc hl e)
theorem rdr_cells {A : Option Addr} {n c : Nat} {bad : Bool} : ∀ (i : Nat) (x : UInt8), (#[.slice A n c, .bool bad] : Array Value)[i]? ≠ some (bv x) := by
  intro i x
  match i with
  | 0 => simp [bv]
  | 1 => simp [bv]
  | i + 2 => simp

/-- A new Reader, from a row of its own. -/
theorem newReader_any (A : Option Addr) (l : List UInt8) (n c : Nat) (w : World) (hn : l.length = n) (hr : Rd w A (bvs l)) (hA : A = none → n = 0) (hl : n ≤ 140737488355328) :
    Calls Tryd.prog 51 #[.slice A n c] w fun e w' => ∃ p G, e = .returned (.pointer (some ⟨p, 0, none⟩)) ∧ Rdr 108 w' p G l false ∧ Fr [] w w' ∧ w.heap.size ≤ p ∧ (∀ g ∈ G, w.heap.size ≤ g ∧ g < w'.heap.size ∧ g ≠ p) := by
  subst hn
  go_enter Tryd.func51, Tryd.ntmps51
  go_wp2_with (go_at_call 58; refine (clone_any _ _ _ _ _ rfl hr hA hl).mono ?_; rintro e w1 ⟨v, rfl, h1, h2⟩; obtain ⟨B, cap, rfl, hn, hm, hrd, hlt, -⟩ := h1.shape)
  go_ret
  refine ⟨w1.heap.size, Rd.blks B, rfl, ⟨B, cap, Blk.new _ _ _, hn, hm, hl, hrd.alloc _, fun a e => by subst e; simp [Rd.blks]⟩, h2.alloc _, h2.size, fun g hg => ?_⟩
  unfold Rd.blks at hg
  cases B with
  | none => simp at hg
  | some a =>
    simp at hg
    subst hg
    have := hlt a rfl
    have := h2.size
    exact ⟨by omega, by simp; omega, by omega⟩

theorem rLeft_any {w : World} {p : Nat} {G : List Nat} {l : List UInt8} {bad : Bool} (h : Rdr 108 w p G l bad) :
    Calls Tryd.prog 103 #[.pointer (some ⟨p, 0, none⟩)] w fun e w' => e = .returned (.int .i64 l.length) ∧ w = w' := by
  obtain ⟨A, c, h1, h2, h3, h4, h5, h6⟩ := h
  have c0 := h1.cell 0
  simp at c0
  go_enter Tryd.func103, Tryd.ntmps103
  go_wp2
  go_ret
  exact ⟨rfl, rfl⟩

/-- Done: 0 is OK, 90 is ErrCode. -/
def doneE (l : List UInt8) (bad : Bool) : Int := if bad || !allZ l then 90 else 0

theorem rDone_any {w : World} {p : Nat} {G : List Nat} {l : List UInt8} {bad : Bool} (h : Rdr 108 w p G l bad) :
    Calls Tryd.prog 55 #[.pointer (some ⟨p, 0, none⟩)] w fun e w' => e = .returned (.int .i64 (doneE l bad)) ∧ w = w' := by
  obtain ⟨A, c, h1, h2, h3, h4, h5, h6⟩ := h
  have c0 := h1.cell 0
  have c1 := h1.cell 1
  simp at c0 c1
  cases bad with
  | true =>
    go_enter Tryd.func55, Tryd.ntmps55
    go_wp2
    go_ret
    exact ⟨rfl, rfl⟩
  | false =>
    cases hz : allZ l with
    | true =>
      have H := Lib.hid hz
      go_enter Tryd.func55, Tryd.ntmps55
      go_wp2_with (go_at_call 87; refine (zeros_any _ _ _ _ h5 h4).mono ?_; rintro e w' ⟨rfl, rfl⟩)
      go_ret
      exact ⟨by simp [doneE, H.out], rfl⟩
    | false =>
      have H := Lib.hid hz
      go_enter Tryd.func55, Tryd.ntmps55
      go_wp2_with (go_at_call 87; refine (zeros_any _ _ _ _ h5 h4).mono ?_; rintro e w' ⟨rfl, rfl⟩)
      go_ret
      exact ⟨by simp [doneE, H.out], rfl⟩

/-- What is refused. -/
theorem rBytes_bad {w : World} {p : Nat} {G : List Nat} {l : List UInt8} {bad : Bool} (h : Rdr 108 w p G l bad) (n : Int) (hn : bad = true ∨ n < 0 ∨ (l.length : Int) < n) :
    Calls Tryd.prog 52 #[.pointer (some ⟨p, 0, none⟩), .int .i64 n] w fun e w' => e = .returned (.slice none 0 0) ∧ Rdr 108 w' p G l true ∧ Fr [p] w w' := by
  obtain ⟨A, c, h1, h2, h3, h4, h5, h6⟩ := h
  have c0 := h1.cell 0
  have c1 := h1.cell 1
  have f1 := h1.frozen 1
  simp at c0 c1
  have fin : Rdr 108 (w.setCell ⟨p, 1, none⟩ (.bool true)) p G l true ∧ Fr [p] w (w.setCell ⟨p, 1, none⟩ (.bool true)) :=
    ⟨⟨A, c, by simpa using h1.set_ 1 (.bool true), h2, h3, h4, h5.set_ h1 rdr_cells _ _, h6⟩, (Fr.refl _ _).setCell (.inl (by simp)) _⟩
  cases bad with
  | true =>
    go_enter Tryd.func52, Tryd.ntmps52
    go_wp2
    go_ret
    exact ⟨rfl, fin⟩
  | false =>
    by_cases hn0 : n < 0
    · go_enter Tryd.func52, Tryd.ntmps52
      go_wp2
      go_ret
      exact ⟨rfl, fin⟩
    · have hn1 : (l.length : Int) < n := by simpa [hn0] using hn
      go_enter Tryd.func52, Tryd.ntmps52
      go_wp2
      go_ret
      exact ⟨rfl, fin⟩

theorem rdr_cut {T : TypeId} {w : World} {p : Nat} {G : List Nat} {l : List UInt8} {A : Option Addr} {c n : Nat} (h1 : Blk w p T #[.slice A l.length c, .bool false]) (h2 : l.length ≤ c) (h3 : c ≤ maxLen) (h4 : l.length ≤ 140737488355328) (h5 : Rd w A (bvs l)) (h6 : ∀ a, A = some a → a.block ∈ G) (hn : n ≤ l.length)
    (A' : Option Addr) (m c' : Nat) (hA : A' = A ∧ c = n ∨ A' = A.map (·.add n)) (hm : m = l.length - n) (hc : c' = c - n) :
    Rdr T (w.setCell ⟨p, 0, none⟩ (.slice A' m c')) p G (l.drop n) false := by
  subst hm hc
  have hl : (l.drop n).length = l.length - n := by simp
  refine ⟨A', c - n, ?_, by omega, by omega, by omega, ?_, ?_⟩
  · rw [hl]; simpa using h1.set_ 0 (.slice A' (l.length - n) (c - n))
  · have h7 : Rd w A' (bvs (l.drop n)) := by
      rcases hA with ⟨rfl, rfl⟩ | rfl
      · rw [List.drop_eq_nil_of_le (by omega)]; exact Rd.nil _ _
      · rw [bvs_drop]; exact h5.drop n
    exact h7.set_ h1 rdr_cells _ _
  · intro a e
    rcases hA with ⟨rfl, _⟩ | rfl
    · exact h6 a e
    · cases A with
      | none => cases e
      | some a0 =>
        simp only [Option.map_some, Option.some.injEq] at e
        rw [← e, add_block]
        exact h6 a0 rfl

set_option maxHeartbeats 400000 in
theorem rBytes_ok {w : World} {p : Nat} {G : List Nat} {l : List UInt8} (h : Rdr 108 w p G l false) (n : Nat) (hn : n ≤ l.length) :
    Calls Tryd.prog 52 #[.pointer (some ⟨p, 0, none⟩), .int .i64 n] w fun e w' => ∃ v, e = .returned v ∧ Row w' w.heap.size 5 1 v n (bvs (l.take n)) ∧ Rdr 108 w' p G (l.drop n) false ∧ Fr [p] w w' := by
  obtain ⟨A, c, h1, h2, h3, h4, h5, h6⟩ := h
  have c0 := h1.cell 0
  have c1 := h1.cell 1
  have f1 := h1.frozen 1
  have f0 := h1.frozen 0
  simp at c0 c1
  unfold maxLen at h3
  have d0 : decide ((n : Int) < 0) = false := by simp
  have d1 : decide (l.length < n) = false := by simpa using hn
  obtain ⟨W, hW⟩ : ∃ W : World, W = w.setCell ⟨p, 1, none⟩ (.bool false) := ⟨_, rfl⟩
  have hlen : (l.take n).length = n := by rw [List.length_take]; omega
  have hrd : Rd W A (bvs (l.take n)) := by rw [hW, bvs_take]; exact (h5.set_ h1 rdr_cells 1 _).take n
  have hAn : A = none → n = 0 := fun e => by
    rcases Nat.eq_zero_or_pos n with h | h
    · exact h
    · obtain ⟨g, o, e', _⟩ := h5.byte (k := 0) (by omega)
      rw [e] at e'; cases e'
  have hF0 : Fr [p] w W := by rw [hW]; exact (Fr.refl _ _).setCell (.inl (by simp)) _
  have hB0 : Blk W p 108 #[.slice A l.length c, .bool false] := by rw [hW]; simpa using h1.set_ 1 (.bool false)
  have hR0 : Rd W A (bvs l) := by rw [hW]; exact h5.set_ h1 rdr_cells 1 _
  have HW := Lib.hid hW
  have HL := Lib.hid hlen
  clear hW hlen
  go_enter Tryd.func52, Tryd.ntmps52
  go_wp2_with (go_at_call 58; rw [← HW.out]; refine (clone_any _ _ _ _ _ HL.out hrd hAn (by omega)).mono ?_; rintro e w1 ⟨v, rfl, g1, g2⟩; have b1 := hB0.keep g2 (by simp); have e0 := b1.cell 0; have e1 := b1.cell 1; have e2 := b1.frozen 0; simp at e0 e1)
  all_goals
    go_ret
    refine ⟨v, rfl, ?_, ?_, ?_⟩
    · exact (g1.mono (by have := hF0.size; omega)).keep (F := [p]) ((Fr.refl _ _).setCell (.inl (by simp)) _) (fun g hg => by have := g1.ne_blk b1 (by decide); rw [hg] at this; simpa using this)
    · exact rdr_cut b1 h2 (by unfold maxLen; exact h3) h4 (hR0.keep_nil g2) h6 hn _ _ _ (by first | exact .inl ⟨rfl, by omega⟩ | exact .inr rfl) rfl (by omega)
    · exact (hF0.trans_nil g2).setCell (.inl (by simp)) _
end Go.Proofs.YtlelgeigighecaaDoor
/-
  Contracts of codec's Reader: Uint.
-/
set_option linter.unusedSimpArgs false
set_option linter.unusedVariables false
set_option linter.unnecessarySimpa false
namespace Go.Proofs.YtlelgeigighecaaDoor
open Go.RowKit

def leN : List UInt8 → Nat
  | [] => 0
  | x :: r => x.toNat + 256 * leN r
theorem leN_append (a b : List UInt8) : leN (a ++ b) = leN a + 256 ^ a.length * leN b := by
  induction a with
  | nil => simp [leN]
  | cons x r ih => simp only [List.cons_append, leN, ih, List.length_cons, Nat.pow_succ]; rw [Nat.mul_add, Nat.mul_comm (256 ^ r.length) 256, Nat.mul_assoc, Nat.add_assoc]
theorem leN_lt (a : List UInt8) : leN a < 256 ^ a.length := by
  induction a with
  | nil => simp [leN]
  | cons x r ih => simp only [leN, List.length_cons, Nat.pow_succ]; have := x.toNat_lt; omega

theorem leN_take_succ (l : List UInt8) (k : Nat) (h : k < l.length) : leN (l.take (k + 1)) = leN (l.take k) + 256 ^ k * l[k].toNat := by
  rw [List.take_succ_eq_append_getElem h, leN_append, List.length_take, Nat.min_eq_left (by omega)]; simp [leN]
theorem leN_take_lt (l : List UInt8) (k : Nat) : leN (l.take k) < 256 ^ k := by
  refine Nat.lt_of_lt_of_le (leN_lt _) (Nat.pow_le_pow_right (by omega) ?_)
  rw [List.length_take]; omega
theorem pow256 (k : Nat) : (256 : Nat) ^ k = 2 ^ (8 * k) := by rw [Nat.pow_mul]
theorem pow256_le {k : Nat} (h : k < 8) : 256 ^ k * 256 ≤ 18446744073709551616 := by
  have : (256 : Nat) ^ (k + 1) ≤ 256 ^ 8 := Nat.pow_le_pow_right (by omega) (by omega)
  rw [Nat.pow_succ] at this
  omega
/-- A byte laid over a number, above all that it has. -/
theorem or_byte (x c k : Nat) (hx : x < 256 ^ k) (hc : c < 256) (hk : k < 8) :
    bits .or .u64 (x : Int) (IntKind.u64.wrap (IntKind.u64.wrap (c : Int) * 2 ^ (8 * k))) = ((x + 256 ^ k * c : Nat) : Int) := by
  have h1 := pow256_le hk
  have h2 : 256 ^ k * c < 18446744073709551616 := Nat.lt_of_lt_of_le (Nat.mul_lt_mul_of_pos_left hc (Nat.pow_pos (by omega))) h1
  have e1 : IntKind.u64.wrap (c : Int) = c := IntWalk.u64_in _ (by omega)
  have e2 : ((c : Int) * 2 ^ (8 * k)) = ((256 ^ k * c : Nat) : Int) := by rw [pow256]; push_cast; exact Int.mul_comm _ _
  have hx2 : x < 18446744073709551616 := by have := Nat.le_mul_of_pos_right (256 ^ k) (show 0 < 256 by omega); omega
  have e4 : x ||| 256 ^ k * c = x + 256 ^ k * c := by
    rw [Nat.or_comm, pow256, ← Nat.two_pow_add_eq_or_of_lt (by rw [← pow256]; exact hx), Nat.add_comm]
  rw [e1, e2]
  revert h2 e4
  generalize 256 ^ k * c = m
  intro h2 e4
  rw [IntWalk.u64_in _ (by omega), u64_or_nat x _ hx2 h2, e4]

def wide (n : Int) : Bool := n == 1 || n == 2 || n == 4 || n == 8
theorem isWide_any (w : World) (n : Int) : Calls Tryd.prog 80 #[.int .i64 n] w fun e w' => e = .returned (.bool (wide n)) ∧ w = w' := by
  go_enter Tryd.func80, Tryd.ntmps80
  go_wp2
  all_goals go_ret
  all_goals first | exact ⟨rfl, rfl⟩ | (rename_i h; subst h; exact ⟨rfl, rfl⟩)

set_option maxHeartbeats 400000 in
theorem rUint_ok {w : World} {p : Nat} {G : List Nat} {l : List UInt8} (h : Rdr 108 w p G l false) (n : Nat) (hn : n ≤ l.length) (hw : wide n = true) :
    Calls Tryd.prog 54 #[.pointer (some ⟨p, 0, none⟩), .int .i64 n] w fun e w' => e = .returned (.int .u64 (leN (l.take n))) ∧ Rdr 108 w' p G (l.drop n) false ∧ Fr [p] w w' := by
  obtain ⟨q, hq⟩ : ∃ q, l.take n = q := ⟨_, rfl⟩
  have hl : q.length = n := by rw [← hq, List.length_take]; omega
  have HW := Lib.hid hw
  have HL := Lib.hid hl
  have HQ := Lib.hid hq
  have n8 : n ≤ 8 := by
    simp only [wide, Bool.or_eq_true, beq_iff_eq] at hw
    omega
  clear hl hw hq
  go_enter Tryd.func54, Tryd.ntmps54
  go_wp2_with (first
    | (go_at_call 80; refine (isWide_any _ _).mono ?_; rw [HW.out]; rintro e w' ⟨rfl, rfl⟩)
    | (go_at_call 52; refine (rBytes_ok h n hn).mono ?_; rintro e w1 ⟨v, rfl, h1, h2, h3⟩; rw [HQ.out] at h1; obtain ⟨B, cap, rfl, -, -, hrd, -, -⟩ := h1.shape))
  go_loop [5, 15] (fun x i => ∃ k : Nat, k ≤ n ∧ i = .int .i64 k ∧ x = .int .u64 (leN (q.take k))) (fun _ i => n - (intOf i).toNat)
  case atStart => exact ⟨0, Nat.zero_le _, rfl, rfl⟩
  case round =>
    obtain ⟨k, hk, rfl, rfl⟩ := hrel
    by_cases hlt : k < n
    · have hk' : k < q.length := by rw [HL.out]; exact hlt
      obtain ⟨g, o, rfl, hc⟩ := hrd.byte hk'
      have hck := hc k hk'
      have E := Lib.hid (or_byte (leN (q.take k)) q[k].toNat k (leN_take_lt q k) q[k].toNat_lt (by omega))
      have T := Lib.hid (leN_take_succ q k hk')
      clear hc
      go_wp2
      go_round
      case rel => exact ⟨k + 1, by omega, by go_num, by rw [E.out, T.out]⟩
      case measure => simp [intOf]; omega
    · have hk2 : k = n := by omega
      have E : q.take k = q := by rw [hk2, ← HL.out, List.take_length]
      have HE := Lib.hid E
      clear E hk2
      go_wp2
      go_ret
      exact ⟨by rw [HE.out, HQ.out]; rfl, h2, h3⟩

theorem rUint_bad {w : World} {p : Nat} {G : List Nat} {l : List UInt8} {bad : Bool} (h : Rdr 108 w p G l bad) (n : Int) (hn : bad = true ∨ wide n = false ∨ (l.length : Int) < n) :
    Calls Tryd.prog 54 #[.pointer (some ⟨p, 0, none⟩), .int .i64 n] w fun e w' => e = .returned (.int .u64 0) ∧ Rdr 108 w' p G l true ∧ Fr [p] w w' := by
  cases hw : wide n with
  | true =>
    have HW := Lib.hid hw
    have hb : bad = true ∨ n < 0 ∨ (l.length : Int) < n := by
      rcases hn with h | h | h
      · exact .inl h
      · rw [hw] at h; cases h
      · exact .inr (.inr h)
    have HB := Lib.hid hb
    clear hw hn hb
    go_enter Tryd.func54, Tryd.ntmps54
    go_wp2_with (first
      | (go_at_call 80; refine (isWide_any _ _).mono ?_; rw [HW.out]; rintro e w' ⟨rfl, rfl⟩)
      | (go_at_call 52; refine (rBytes_bad h n HB.out).mono ?_; rintro e w1 ⟨rfl, h2, h3⟩))
    go_loop [5, 15] (fun x i => x = .int .u64 0 ∧ i = .int .i64 0) (fun _ _ => 0)
    case atStart => exact ⟨rfl, rfl⟩
    case round =>
      obtain ⟨rfl, rfl⟩ := hrel
      go_wp2
      go_ret
      exact ⟨rfl, h2, h3⟩
  | false =>
    have HW := Lib.hid hw
    clear hw hn
    go_enter Tryd.func54, Tryd.ntmps54
    go_wp2_with (first
      | (go_at_call 80; refine (isWide_any _ _).mono ?_; rw [HW.out]; rintro e w' ⟨rfl, rfl⟩)
      | (go_at_call 52; refine (rBytes_bad h (-1) (.inr (.inl (by decide)))).mono ?_; rintro e w1 ⟨rfl, h2, h3⟩))
    go_loop [5, 15] (fun x i => x = .int .u64 0 ∧ i = .int .i64 0) (fun _ _ => 0)
    case atStart => exact ⟨rfl, rfl⟩
    case round =>
      obtain ⟨rfl, rfl⟩ := hrel
      go_wp2
      go_ret
      exact ⟨rfl, h2, h3⟩
end Go.Proofs.YtlelgeigighecaaDoor
/-
  Contracts of codec's Reader: Zeros; and of the reference's Reader.
-/
set_option linter.unusedSimpArgs false
set_option linter.unusedVariables false
set_option linter.unnecessarySimpa false
namespace Go.Proofs.YtlelgeigighecaaDoor
open Go.RowKit

theorem rdr_refuse {T : TypeId} {w : World} {p : Nat} {G : List Nat} {l : List UInt8} {bad : Bool} (h : Rdr T w p G l bad) : Rdr T (w.setCell ⟨p, 1, none⟩ (.bool true)) p G l true ∧ Fr [p] w (w.setCell ⟨p, 1, none⟩ (.bool true)) := by
  obtain ⟨A, c, h1, h2, h3, h4, h5, h6⟩ := h
  exact ⟨⟨A, c, by simpa using h1.set_ 1 (.bool true), h2, h3, h4, h5.set_ h1 rdr_cells _ _, h6⟩, (Fr.refl _ _).setCell (.inl (by simp)) _⟩

/-! The reference's Reader. -/

end Go.Proofs.YtlelgeigighecaaDoor
/-
  Contracts of the reference's Reader: Uint, Zeros, Done.
-/
set_option linter.unusedSimpArgs false
set_option linter.unusedVariables false
set_option linter.unnecessarySimpa false
namespace Go.Proofs.YtlelgeigighecaaDoor
open Go.RowKit

/-- What Zeros leaves: over n bytes, all of them in reach. -/
theorem allZ_take_le {l : List UInt8} {k n : Nat} (hk : k ≤ n) (h : allZ (l.take n) = true) : allZ (l.take k) = true := by
  unfold allZ at *
  rw [List.all_eq_true] at *
  intro x hx
  exact h x (by rw [List.mem_take_iff_getElem] at *; obtain ⟨i, hi, e⟩ := hx; exact ⟨i, by omega, e⟩)

/-- What Zeros leaves, n in reach. -/
def ZPost (T : TypeId) (w : World) (p : Nat) (G : List Nat) (l : List UInt8) (n : Nat) : Prop :=
  (allZ (l.take n) = true ∧ Rdr T w p G (l.drop n) false) ∨ (allZ (l.take n) = false ∧ Rdr T w p G l true)

end Go.Proofs.YtlelgeigighecaaDoor
/-
  Contracts of codec's Writer: NewWriter, Left, room, Bytes, Skip, Uint, Done.
-/
set_option linter.unusedSimpArgs false
set_option linter.unusedVariables false
set_option linter.unnecessarySimpa false
namespace Go.Proofs.YtlelgeigighecaaDoor
open Go.RowKit

/-- A Writer at block p: its bytes lie in a row of its own from B on. -/
def Wrt (w : World) (p B : Nat) (v : Value) (size : Nat) (bad : Bool) (l : List UInt8) : Prop :=
  Blk w p 97 #[v, .int .i64 size, .bool bad] ∧ Row w B 5 1 v l.length (bvs l) ∧ l.length ≤ size ∧ size ≤ 16777216 ∧ B ≤ w.heap.size

section
variable {w w' : World} {p B : Nat} {v : Value} {size : Nat} {bad : Bool} {l : List UInt8}
theorem Wrt.keep (h : Wrt w p B v size bad l) {F : List Nat} (hf : Fr F w w') (hp : p ∉ F) (hv : ∀ g, v.ownBlock = some g → g ∉ F) : Wrt w' p B v size bad l :=
  ⟨h.1.keep hf hp, h.2.1.keep hf hv, h.2.2.1, h.2.2.2.1, by have := hf.size; have := h.2.2.2.2; omega⟩
theorem Wrt.keep_nil (h : Wrt w p B v size bad l) (hf : Fr [] w w') : Wrt w' p B v size bad l := h.keep hf (by simp) (by simp)
theorem Wrt.lt (h : Wrt w p B v size bad l) : p < w.heap.size := h.1.lt
theorem Wrt.vlt (h : Wrt w p B v size bad l) : ∀ g, v.ownBlock = some g → B ≤ g ∧ g < w.heap.size := h.2.1.lt
theorem Wrt.ne (h : Wrt w p B v size bad l) : v.ownBlock ≠ some p := h.2.1.ne_blk h.1 (by decide)
theorem Wrt.flag (h : Wrt w p B v size bad l) (b : Bool) : Wrt (w.setCell ⟨p, 2, none⟩ (.bool b)) p B v size b l :=
  ⟨by simpa using h.1.set_ 2 (.bool b), h.2.1.keep (F := [p]) ((Fr.refl _ _).setCell (.inl (by simp)) _) (fun g hg => by have := h.ne; rw [hg] at this; simpa using this), h.2.2.1, h.2.2.2.1, by have := h.2.2.2.2; simpa using this⟩
theorem Wrt.flagF (_h : Wrt w p B v size bad l) (b : Bool) : Fr [p] w (w.setCell ⟨p, 2, none⟩ (.bool b)) := (Fr.refl _ _).setCell (.inl (by simp)) _
end

/-- The size that a Writer gets. -/
def sizeN (n : Int) : Nat := if n < 0 ∨ 16777216 < n then 0 else n.toNat
theorem sizeN_le (n : Int) : sizeN n ≤ 16777216 := by unfold sizeN; split <;> omega

theorem newWriter_any (n : Int) (w : World) : Calls Tryd.prog 38 #[.int .i64 n] w fun e w' =>
    e = .returned (.pointer (some ⟨w.heap.size, 0, none⟩)) ∧ Wrt w' w.heap.size w.heap.size (.slice none 0 0) (sizeN n) false [] ∧ Fr [] w w' ∧ w'.heap.size = w.heap.size + 1 := by
  have fin : ∀ m : Nat, m = sizeN n → Wrt (w.alloc (.cells #[.slice none 0 0, .int .i64 m, .bool false] 97)) w.heap.size w.heap.size (.slice none 0 0) (sizeN n) false [] ∧ Fr [] w (w.alloc (.cells #[.slice none 0 0, .int .i64 m, .bool false] 97)) ∧ (w.alloc (.cells #[.slice none 0 0, .int .i64 m, .bool false] 97)).heap.size = w.heap.size + 1 := by
    rintro m rfl
    exact ⟨⟨Blk.new _ _ _, Row.nil _ _ _ _, by simp, sizeN_le n, by simp⟩, (Fr.refl _ _).alloc _, by simp⟩
  by_cases h0 : n < 0
  · have H := fin 0 (if_pos (.inl h0)).symm
    have H2 := Lib.hid H
    clear H fin
    go_enter Tryd.func38, Tryd.ntmps38
    go_wp2
    go_ret
    exact ⟨rfl, H2.out⟩
  · by_cases h1 : 16777216 < n
    · have H := fin 0 (if_pos (.inr h1)).symm
      have H2 := Lib.hid H
      clear H fin
      go_enter Tryd.func38, Tryd.ntmps38
      go_wp2
      go_ret
      exact ⟨rfl, H2.out⟩
    · obtain ⟨m, rfl⟩ := Int.eq_ofNat_of_zero_le (Int.not_lt.1 h0)
      have H := fin m (if_neg (by omega)).symm
      have H2 := Lib.hid H
      clear H fin
      go_enter Tryd.func38, Tryd.ntmps38
      go_wp2
      go_ret
      exact ⟨rfl, H2.out⟩

section
variable {w : World} {p B : Nat} {v : Value} {size : Nat} {bad : Bool} {l : List UInt8}

theorem wLeft_any (h : Wrt w p B v size bad l) :
    Calls Tryd.prog 95 #[.pointer (some ⟨p, 0, none⟩)] w fun e w' => e = .returned (.int .i64 ((size : Int) - l.length)) ∧ ∃ n, w' = w.drewN n := by
  obtain ⟨h1, h2, h3, h4, h5⟩ := h
  obtain ⟨A, cap, rfl, -, -, -, -, -⟩ := h2.shape
  have c0 := h1.cell 0
  have c1 := h1.cell 1
  simp at c0 c1
  go_enter Tryd.func95, Tryd.ntmps95
  go_wp2
  go_quiet (fail)
  go_wp2
  go_ret
  exact ⟨rfl, _, rfl⟩

theorem Wrt.drewN (h : Wrt w p B v size bad l) (n : Nat) : Wrt (w.drewN n) p B v size bad l := h.keep_nil ((Fr.refl _ _).drewN n)

set_option maxHeartbeats 400000 in
theorem wRoom_no (h : Wrt w p B v size bad l) (n : Int) (hn : bad = true ∨ n < 0 ∨ (size : Int) - l.length < n) :
    Calls Tryd.prog 79 #[.pointer (some ⟨p, 0, none⟩), .int .i64 n] w fun e w' => e = .returned (.bool false) ∧ Wrt w' p B v size true l ∧ Fr [p] w w' := by
  have c2 := h.1.cell 2
  have f2 := h.1.frozen 2
  simp at c2
  have f := h.flag true
  have ff := h.flagF true
  cases bad with
  | true =>
    go_enter Tryd.func79, Tryd.ntmps79
    go_wp2
    go_ret
    exact ⟨rfl, f, ff⟩
  | false =>
    by_cases hn0 : n < 0
    · go_enter Tryd.func79, Tryd.ntmps79
      go_wp2
      go_ret
      exact ⟨rfl, f, ff⟩
    · have hn1 : (size : Int) - l.length < n := by simpa [hn0] using hn
      have f' := fun k => (h.drewN k).flag true
      have ff' := fun k => (h.drewN k).flagF true
      have F := Lib.hid f'
      have FF := Lib.hid ff'
      clear f' ff' f ff hn
      go_enter Tryd.func79, Tryd.ntmps79
      go_wp2_with (go_at_call 95; refine (wLeft_any h).mono ?_; rintro e w' ⟨rfl, k, rfl⟩)
      go_ret
      exact ⟨rfl, F.out k, ((Fr.refl _ _).drewN k).trans (FF.out k) (fun i hi => .inl hi)⟩

set_option maxHeartbeats 400000 in
theorem wRoom_yes (h : Wrt w p B v size false l) (n : Nat) (hn : (l.length : Int) + n ≤ size) :
    Calls Tryd.prog 79 #[.pointer (some ⟨p, 0, none⟩), .int .i64 n] w fun e w' => e = .returned (.bool true) ∧ Wrt w' p B v size false l ∧ Fr [p] w w' := by
  have c2 := h.1.cell 2
  have f2 := h.1.frozen 2
  simp at c2
  have f' := fun k => (h.drewN k).flag false
  have ff' := fun k => (h.drewN k).flagF false
  have F := Lib.hid f'
  have FF := Lib.hid ff'
  clear f' ff'
  have d0 : decide ((n : Int) < 0) = false := by simp
  have d1 : decide ((size : Int) - l.length < n) = false := by simp; omega
  go_enter Tryd.func79, Tryd.ntmps79
  go_wp2_with (go_at_call 95; refine (wLeft_any h).mono ?_; rintro e w' ⟨rfl, k, rfl⟩)
  go_ret
  exact ⟨rfl, F.out k, ((Fr.refl _ _).drewN k).trans (FF.out k) (fun i hi => .inl hi)⟩

/-- What a Writer's append leaves. -/
def WPost (w w' : World) (p B : Nat) (v : Value) (size : Nat) (l : List UInt8) : Prop :=
  ∃ v', Wrt w' p B v' size false l ∧ Fr (p :: v.ownBlock.toList) w w' ∧ ∀ g, v'.ownBlock = some g → v.ownBlock = some g ∨ w.heap.size ≤ g

theorem WPost.of_store {w0 w1 w2 : World} {v' : Value} (h0 : Wrt w1 p B v size false l) (hf0 : Fr [p] w0 w1) (q : List UInt8) (hq : q.length ≤ size) (hr : Row w2 B 5 1 v' q.length (bvs q)) (hf : Fr v.ownBlock.toList w1 w2) (hv : ∀ g, v'.ownBlock = some g → v.ownBlock = some g ∨ w1.heap.size ≤ g) :
    WPost w0 (w2.setCell ⟨p, 0, none⟩ v') p B v size q := by
  have hne := h0.ne
  have hb : Blk w2 p 97 #[v, .int .i64 size, .bool false] := h0.1.keep hf (fun hm => hne (mem_own.1 hm))
  refine ⟨v', ⟨by simpa using hb.set_ 0 v', hr.keep (F := [p]) ((Fr.refl _ _).setCell (.inl (by simp)) _) (fun g hg => by have := hr.ne_blk hb (by decide); rw [hg] at this; simpa using this), hq, h0.2.2.2.1, by have := h0.2.2.2.2; have := hf.size; simp; omega⟩, ?_, ?_⟩
  · have h1 : Fr (p :: v.ownBlock.toList) w0 w1 := hf0.mono (by simp)
    have h2 : Fr (p :: v.ownBlock.toList) w0 w2 := h1.trans (hf.mono (G := p :: v.ownBlock.toList) (fun i hi => List.mem_cons_of_mem _ hi)) (fun i hi => .inl hi)
    exact h2.setCell (.inl (by simp)) _
  · intro g hg
    rcases hv g hg with h | h
    · exact .inl h
    · exact .inr (by have := hf0.size; omega)

theorem wBytes_bad (h : Wrt w p B v size bad l) (A : Option Addr) (n c : Nat) (hn : bad = true ∨ (size : Int) < l.length + n) :
    Calls Tryd.prog 39 #[.pointer (some ⟨p, 0, none⟩), .slice A n c] w fun e w' => e = .returned (.tuple #[]) ∧ Wrt w' p B v size true l ∧ Fr [p] w w' := by
  have hn' : bad = true ∨ (n : Int) < 0 ∨ (size : Int) - l.length < n := by rcases hn with h | h; exact .inl h; exact .inr (.inr (by omega))
  have H := Lib.hid hn'
  clear hn' hn
  go_enter Tryd.func39, Tryd.ntmps39
  go_wp2_with (go_at_call 79; refine (wRoom_no h _ H.out).mono ?_; rintro e w' ⟨rfl, h1, h2⟩)
  go_returns
  exact ⟨rfl, h1, h2⟩

set_option maxHeartbeats 400000 in
theorem wBytes_ok (h : Wrt w p B v size false l) (A : Option Addr) (n c : Nat) (bs : List UInt8) (hb : bs.length = n) (hr : Rd w A (bvs bs)) (hA : A = none → n = 0) (hp : ∀ g o, A = some ⟨g, o, none⟩ → bs ≠ [] → g ≠ p) (hn : (l.length : Int) + n ≤ size) :
    Calls Tryd.prog 39 #[.pointer (some ⟨p, 0, none⟩), .slice A n c] w fun e w' => e = .returned (.tuple #[]) ∧ WPost w w' p B v size (l ++ bs) := by
  have H := Lib.hid hb
  clear hb
  obtain ⟨A0, cap, rfl, -, -, -, -, -⟩ := h.2.1.shape
  have m := h.2.2.2.1
  go_enter Tryd.func39, Tryd.ntmps39
  go_wp2_with (first
    | (go_at_call 79; refine (wRoom_yes h n hn).mono ?_; rintro e w1 ⟨rfl, h1, h2⟩; have c0 := h1.1.cell 0; simp at c0; have hr1 : Rd w1 A (bvs bs) := (by
        by_cases hx : bs = []
        · subst hx; exact Rd.nil _ _
        · exact hr.keep h2 (fun g o e => by simpa using hp g o e hx)))
    | (at_builtin; refine wpList_app rfl rfl slB B _ l.length (bvs l) rfl h1.2.1 A n c (bvs bs) rfl (by rw [bvs_length, H.out]; omega) hr1 (bvs_one _) hA (by omega) h1.2.2.2.2 ?_; intro v2 w2 g1 g2 g3 g4; have b2 := h1.1.keep g2 (fun hm => h1.ne (mem_own.1 hm)); have e0 := b2.cell 0; have e1 := b2.frozen 0; simp at e0; obtain ⟨A2, cap2, rfl, -, -, -, -, -⟩ := g1.shape))
  go_returns
  refine ⟨rfl, WPost.of_store h1 h2 _ ?_ ?_ g2 (fun g hg => (g3 g hg).imp_right (by omega))⟩
  · rw [List.length_append, H.out]; omega
  · rw [List.length_append, H.out, bvs_append]; exact g1

theorem bvs_replicate (n : Nat) : bvs (List.replicate n 0) = List.replicate n (.int .u8 0) := by simp [bvs, bv]

end
end Go.Proofs.YtlelgeigighecaaDoor
/-
  Contracts of codec's Writer: Uint, Done.
-/
set_option linter.unusedSimpArgs false
set_option linter.unusedVariables false
set_option linter.unnecessarySimpa false
namespace Go.Proofs.YtlelgeigighecaaDoor
open Go.RowKit

def leB (n x : Nat) : List UInt8 := (List.range n).map fun i => UInt8.ofNat (x / 256 ^ i % 256)
theorem leB_length (n x : Nat) : (leB n x).length = n := by simp [leB]
theorem leB_succ (n x : Nat) : leB (n + 1) x = leB n x ++ [UInt8.ofNat (x / 256 ^ n % 256)] := by simp [leB, List.range_succ]

theorem leB_byte (x k : Nat) : Value.int .u8 (IntKind.u8.wrap ((x : Int) / 2 ^ (8 * (k : Int)).toNat)) = bv (UInt8.ofNat (x / 256 ^ k % 256)) := by
  unfold bv
  have e : (8 * (k : Int)).toNat = 8 * k := by omega
  rw [e, pow256]
  have e2 : ((x : Int) / 2 ^ (8 * k)) = ((x / 2 ^ (8 * k) : Nat) : Int) := by push_cast; rfl
  rw [e2, IntKind.wrap_u8]
  congr 1
  have h : x / 2 ^ (8 * k) % 256 < 256 := Nat.mod_lt _ (by omega)
  simp [UInt8.toNat_ofNat', Nat.mod_eq_of_lt h]

section
variable {w : World} {p B : Nat} {v : Value} {size : Nat} {bad : Bool} {l : List UInt8}

theorem WPost.trans {w1 w2 : World} {v1 : Value} {q : List UInt8} (hf : Fr (p :: v.ownBlock.toList) w w1) (hv : ∀ g, v1.ownBlock = some g → v.ownBlock = some g ∨ w.heap.size ≤ g) (h : WPost w1 w2 p B v1 size q) : WPost w w2 p B v size q := by
  obtain ⟨v2, h1, h2, h3⟩ := h
  refine ⟨v2, h1, hf.trans h2 (fun i hi => ?_), fun g hg => ?_⟩
  · rcases List.mem_cons.1 hi with rfl | hi
    · exact .inl (by simp)
    · exact (hv i (mem_own.1 hi)).imp (fun h => List.mem_cons_of_mem _ (mem_own.2 h)) id
  · rcases h3 g hg with h | h
    · exact hv g h
    · exact .inr (by have := hf.size; omega)

theorem WPost.blk {w w' : World} {g : Nat} {p B size : Nat} {v : Value} {bad : Bool} {l q : List UInt8} (h : WPost w w' p B v size q) (h0 : Wrt w p B v size bad l) {T : TypeId} {cs : Array Value} (hb : Blk w g T cs) (h1 : T ≠ 97) (h2 : T ≠ 5) : Blk w' g T cs := by
  obtain ⟨v', a, f, b⟩ := h
  refine hb.keep f (fun hm => ?_)
  rcases List.mem_cons.1 hm with e | hm
  · exact hb.ne_ h0.1 h1 e
  · exact h0.2.1.ne_blk hb h2 (mem_own.1 hm)

set_option maxHeartbeats 400000 in
theorem wUint_ok (h : Wrt w p B v size false l) (n x : Nat) (hw : wide n = true) (hx64 : x < 18446744073709551616) (hx : x < 256 ^ n) (hn : (l.length : Int) + n ≤ size) :
    Calls Tryd.prog 40 #[.pointer (some ⟨p, 0, none⟩), .int .i64 n, .int .u64 x] w fun e w' => e = .returned (.tuple #[]) ∧ WPost w w' p B v size (l ++ leB n x) := by
  have n8 : n ≤ 8 := by
    simp only [wide, Bool.or_eq_true, beq_iff_eq] at hw
    omega
  have HW := Lib.hid hw
  clear hw
  have m := h.2.2.2.1
  have d : ((x : Int) / 2 ^ (8 * n) != 0) = false := by
    rw [pow256] at hx
    have e : ((x : Int) / 2 ^ (8 * n)) = ((x / 2 ^ (8 * n) : Nat) : Int) := by push_cast; rfl
    rw [e, Nat.div_eq_of_lt hx]; rfl
  by_cases h8 : (n : Int) < 8
  all_goals
    go_enter Tryd.func40, Tryd.ntmps40
    go_wp2_with (first
      | (go_at_call 80; refine (isWide_any _ _).mono ?_; rw [HW.out]; rintro e w' ⟨rfl, rfl⟩)
      | (go_at_call 79; refine (wRoom_yes h n hn).mono ?_; rintro e w1 ⟨rfl, h1, h2⟩))
    clear d
    go_loopw [6, 25] (fun _ i wr => ∃ k : Nat, k ≤ n ∧ i = .int .i64 k ∧ WPost w wr p B v size (l ++ leB k x)) (fun _ i _ => n - (intOf i).toNat)
    case atStart => exact ⟨0, Nat.zero_le _, rfl, v, by simpa [leB] using h1, h2.mono (by simp), fun g hg => .inl hg⟩
    case round =>
      obtain ⟨k, hk, rfl, v1, k1, k2, k3⟩ := hrel
      by_cases hlt : k < n
      · obtain ⟨q, hq⟩ : ∃ q, l ++ leB k x = q := ⟨_, rfl⟩
        rw [hq] at k1
        have hl : q.length = l.length + k := by rw [← hq, List.length_append, leB_length]
        have c0 := k1.1.cell 0
        simp at c0
        have f0 := k1.1.frozen 0
        have HL := Lib.hid hl
        have HQ := Lib.hid hq
        have ql : q.length + 1 ≤ size := by omega
        clear hl hq
        obtain ⟨A1, cap1, rfl, -, -, -, -, -⟩ := k1.2.1.shape
        have ca : ∀ o, (wr.alloc o).cell? ⟨p, 0, none⟩ = some (.slice A1 q.length cap1) := fun o => by have := (k1.1.alloc o).cell 0; simpa using this
        have e8 : IntKind.i64.wrap (8 * (k : Int)) = 8 * (k : Int) := IntWalk.i64_in _ (by omega)
        go_wp2
        go_region_law (refine step_app rfl rfl slB B _ _ _ rfl (by exact (k1.2.1.alloc _).keep_nil ((Fr.refl _ _).drew)) _ 1 1 [_] rfl rfl (by exact (Rd.one _ _ _).keep_nil ((Fr.refl _ _).drew)) (by intro u hu; rw [List.mem_singleton.1 hu]; rfl) (fun h => by cases h) (by omega) (by simp; have := k1.2.2.2.2; omega) ?_; intro v2 w2 g1 g2 g3 g4; have b2 := (Blk.alloc (Blk.keep k1.1 ((Fr.refl _ _).drew) (F := []) (by simp)) _).keep g2 (fun hm => k1.ne (mem_own.1 hm)); have e0 := b2.cell 0; have e1 := b2.frozen 0; simp at e0; obtain ⟨A2, cap2, rfl, -, -, -, -, -⟩ := g1.shape)
        go_wp2
        all_goals
          refine ⟨⟨k + 1, by omega, by go_num, WPost.trans k2 k3 ?_⟩, by simp [intOf]; omega⟩
          have k1' : Wrt (wr.alloc (.cells #[.int .u8 (IntKind.u8.wrap ((x : Int) / 2 ^ (8 * (k : Int)).toNat))] 5)).drew p B (.slice A1 q.length cap1) size false q := k1.keep_nil (((Fr.refl _ _).alloc _).drew)
          rw [leB_succ, ← List.append_assoc, HQ.out]
          refine WPost.of_store k1' ((((Fr.refl _ _).alloc _).drew)) _ ?_ ?_ g2 (fun g hg => (g3 g hg).imp_right (by simp; omega))
          · simp; omega
          · rw [List.length_append, bvs_append]
            rw [leB_byte] at g1
            exact g1
      · obtain rfl : k = n := by omega
        go_wp2
        go_returns
        exact ⟨rfl, v1, k1, k2, k3⟩

theorem wUint_bad (h : Wrt w p B v size bad l) (n : Int) (x : Nat) (hn : bad = true ∨ wide n = false ∨ (n < 8 ∧ 256 ^ n.toNat ≤ x) ∨ (size : Int) - l.length < n) :
    Calls Tryd.prog 40 #[.pointer (some ⟨p, 0, none⟩), .int .i64 n, .int .u64 x] w fun e w' => e = .returned (.tuple #[]) ∧ Wrt w' p B v size true l ∧ Fr [p] w w' := by
  cases hw : wide n with
  | false =>
    have HW := Lib.hid hw
    clear hw hn
    go_enter Tryd.func40, Tryd.ntmps40
    go_wp2_with (first
      | (go_at_call 80; refine (isWide_any _ _).mono ?_; rw [HW.out]; rintro e w' ⟨rfl, rfl⟩)
      | (go_at_call 79; refine (wRoom_no h (-1) (.inr (.inl (by decide)))).mono ?_; rintro e w' ⟨rfl, h1, h2⟩))
    go_returns
    exact ⟨rfl, h1, h2⟩
  | true =>
    have h0 : 0 ≤ n := by
      simp only [wide, Bool.or_eq_true, beq_iff_eq] at hw
      omega
    obtain ⟨n, rfl⟩ := Int.eq_ofNat_of_zero_le h0
    have HW := Lib.hid hw
    clear h0
    by_cases h8 : (n : Int) < 8
    · by_cases hx : x < 256 ^ n
      · have d : ((x : Int) / 2 ^ (8 * n) != 0) = false := by
          rw [pow256] at hx
          have e : ((x : Int) / 2 ^ (8 * n)) = ((x / 2 ^ (8 * n) : Nat) : Int) := by push_cast; rfl
          rw [e, Nat.div_eq_of_lt hx]; rfl
        have hb : bad = true ∨ (n : Int) < 0 ∨ (size : Int) - l.length < n := by
          rcases hn with h | h | h | h
          · exact .inl h
          · rw [hw] at h; cases h
          · simp at h; omega
          · exact .inr (.inr h)
        have HB := Lib.hid hb
        clear hw hn hb
        go_enter Tryd.func40, Tryd.ntmps40
        go_wp2_with (first
          | (go_at_call 80; refine (isWide_any _ _).mono ?_; rw [HW.out]; rintro e w' ⟨rfl, rfl⟩)
          | (go_at_call 79; refine (wRoom_no h n HB.out).mono ?_; rintro e w' ⟨rfl, h1, h2⟩))
        go_returns
        exact ⟨rfl, h1, h2⟩
      · have d : ((x : Int) / 2 ^ (8 * n) != 0) = true := by
          rw [pow256] at hx
          have e : ((x : Int) / 2 ^ (8 * n)) = ((x / 2 ^ (8 * n) : Nat) : Int) := by push_cast; rfl
          rw [e]
          have := Nat.div_pos (Nat.not_lt.1 hx) (Nat.pow_pos (by omega))
          rw [bne_iff_ne]; omega
        clear hw hn
        go_enter Tryd.func40, Tryd.ntmps40
        go_wp2_with (first
          | (go_at_call 80; refine (isWide_any _ _).mono ?_; rw [HW.out]; rintro e w' ⟨rfl, rfl⟩)
          | (go_at_call 79; refine (wRoom_no h (-1) (.inr (.inl (by decide)))).mono ?_; rintro e w' ⟨rfl, h1, h2⟩))
        go_returns
        exact ⟨rfl, h1, h2⟩
    · have hb : bad = true ∨ (n : Int) < 0 ∨ (size : Int) - l.length < n := by
        rcases hn with h | h | h | h
        · exact .inl h
        · rw [hw] at h; cases h
        · omega
        · exact .inr (.inr h)
      have HB := Lib.hid hb
      clear hw hn hb
      go_enter Tryd.func40, Tryd.ntmps40
      go_wp2_with (first
        | (go_at_call 80; refine (isWide_any _ _).mono ?_; rw [HW.out]; rintro e w' ⟨rfl, rfl⟩)
        | (go_at_call 79; refine (wRoom_no h n HB.out).mono ?_; rintro e w' ⟨rfl, h1, h2⟩))
      go_returns
      exact ⟨rfl, h1, h2⟩

theorem wDone_bad (h : Wrt w p B v size true l) :
    Calls Tryd.prog 41 #[.pointer (some ⟨p, 0, none⟩)] w fun e w' => e = .returned (.tuple #[.slice none 0 0, .int .i64 90]) ∧ w = w' := by
  have c2 := h.1.cell 2
  simp at c2
  go_enter Tryd.func41, Tryd.ntmps41
  go_wp2
  go_ret2
  exact ⟨rfl, rfl⟩

set_option maxRecDepth 100000 in
set_option maxHeartbeats 400000 in
theorem wDone_ok (h : Wrt w p B v size false l) :
    Calls Tryd.prog 41 #[.pointer (some ⟨p, 0, none⟩)] w fun e w' => ∃ r, e = .returned (.tuple #[r, .int .i64 0]) ∧ Row w' w.heap.size 5 1 r size (bvs (l ++ List.replicate (size - l.length) 0)) ∧ Fr [] w w' := by
  have c2 := h.1.cell 2
  have c1 := h.1.cell 1
  have c0 := h.1.cell 0
  simp at c2 c1 c0
  have m := h.2.2.2.1
  have hlen := h.2.2.1
  obtain ⟨A1, cap1, rfl, hcap, -, hrd, hblk, -⟩ := h.2.1.shape
  go_enter Tryd.func41, Tryd.ntmps41
  go_wp2_with (first
    | (at_make; refine wpList_mk1 rfl rfl slB rfl .i64 .i64 _ _ size rfl rfl rfl rfl (by omega) ?_; intro w1 g1 g2 g3 g4; have k1 := h.1.keep g3 (by simp); have e0 := k1.cell 0; simp at e0)
    | (refine wpList_cp (o := ⟨some 23, _, _, _, _, _⟩) rfl rfl Tryd.underlying28 (by kernel_rfl) _ _ size size l.length cap1 rfl rfl (bvs l) (by rw [bvs_length]; exact (Nat.min_eq_left hlen).symm) (hrd.keep_nil g3) (bvs_one l) w.heap.size 0 (fun _ => rfl) _ 5 (0, 0) g1 (free_zero _) (by simp [bvs]; omega) ?_; intro w2 r1 r2))
  go_ret2
  refine ⟨_, rfl, ?_, g3.trans r2 (fun i hi => .inr (by simp at hi; omega))⟩
  refine ⟨by simp [bvs]; omega, .inr ⟨w.heap.size, size, _, (0, 0), rfl, Nat.le_refl _, r1, free_zero _, Nat.le_refl _, by unfold maxLen; omega, ?_, ?_⟩⟩
  · simp [bvs]; omega
  · rw [List.take_of_length_le (by simp [bvs_length]; omega), bvs_append, bvs_replicate]
    simp [bvs_length]
end
end Go.Proofs.YtlelgeigighecaaDoor
/-
  What the layer's law asks of every program (lives), and calls of a nil Writer and a nil Reader.
-/
set_option linter.unusedSimpArgs false
set_option linter.unusedVariables false
set_option linter.unnecessarySimpa false
namespace Go.Proofs.YtlelgeigighecaaDoor
open Go.RowKit

theorem strB (w : World) (A : Option Addr) (l : List UInt8) (n c : Nat) (hn : l.length = n) (hr : Rd w A (bvs l)) (hA : A = none → n = 0) :
    (convert 28 9 (.slice A n c)).run Tryd.prog w = .ok (.string ⟨l.toArray⟩) w :=
  conv_str Tryd.underlying28 Tryd.underlying5 Tryd.underlying9 w A l n c hn hr hA

/-- What a row's slice reads as. -/
theorem Row.str {w : World} {B : Nat} {v : Value} {n : Nat} {l : List UInt8} (h : Row w B 5 1 v n (bvs l)) :
    (convert 28 9 v).run Tryd.prog w = .ok (.string ⟨l.toArray⟩) w := by
  obtain ⟨A, cap, rfl, -, -, hr, -, -⟩ := h.shape
  have hl : l.length = n := by have := h.1; rw [bvs_length] at this; omega
  refine strB w A l n cap hl hr (fun e => ?_)
  subst e
  rcases Nat.eq_zero_or_pos n with h0 | h0
  · exact h0
  · obtain ⟨g, o, e, _⟩ := hr (by intro h; have := congrArg List.length h; rw [bvs_length, List.length_nil] at this; omega)
    cases e

theorem Row.rd {w : World} {B : Nat} {A : Option Addr} {n n' c : Nat} {xs : List Value} {e : TypeId} {s : Nat} (h : Row w B e s (.slice A n' c) n xs) : Rd w A xs ∧ n' = n ∧ (A = none → n = 0) := by
  rcases h.2 with ⟨h1, h2⟩ | ⟨g, cap, cur, fz, h1, _⟩
  · cases h1
    obtain ⟨A', c', e', _, _, h3, _, _⟩ := h.shape
    cases e'
    exact ⟨h3, h2.symm, fun _ => h2⟩
  · cases h1
    obtain ⟨A', c', e', _, _, h3, _, _⟩ := h.shape
    cases e'
    exact ⟨h3, rfl, fun h => by cases h⟩

end Go.Proofs.YtlelgeigighecaaDoor
