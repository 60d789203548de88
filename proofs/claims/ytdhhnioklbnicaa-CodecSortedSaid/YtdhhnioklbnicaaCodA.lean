/-
  Contracts of codec's Reader: NewReader, Bytes, Uint, Zeros, Left, Done, and of what they call.
-/
import Derived.Test.YtdhhnioklbnicaaProg
import Derived.Test.YtdhhnioklbnicaaMemA
set_option linter.unusedSimpArgs false
set_option linter.unusedVariables false
set_option linter.unnecessarySimpa false
namespace Go.Proofs.Ytdhhnioklbnicaa
open Go.RowKit

theorem slB : SlT Try.prog 31 5 1 1 (.int .u8 0) := ⟨Try.underlying31, by kernel_rfl, rfl, by decide, by decide⟩

/-- slices.Clone of bytes. -/
theorem clone_any (A : Option Addr) (l : List UInt8) (n c : Nat) (w : World) (hn : l.length = n) (hr : Rd w A (bvs l)) (hA : A = none → n = 0) (hl : n ≤ 140737488355328) :
    Calls Try.prog 38 #[.slice A n c] w fun e w' => ∃ v, e = .returned v ∧ Row w' w.heap.size 5 1 v n (bvs l) ∧ Fr [] w w' := by
  subst hn
  have qT : ∀ (w : World) (a : Option Addr) (n c n' c' : Nat), (binOp .eql 31 (.slice a n c) (.slice none n' c')).run Try.prog w = .ok (.bool a.isNone) w :=
    fun w a n c n' c' => Lib.run_eql_slice_nil w _ _ a n c n' c' Try.underlying31
  cases A with
  | none =>
    obtain rfl : l = [] := List.eq_nil_of_length_eq_zero (hA rfl)
    go_enter Try.func38, Try.ntmps38
    go_wp2
    go_ret
    exact ⟨_, rfl, Row.nil _ _ _ _, Fr.refl _ _⟩
  | some ad =>
    go_enter Try.func38, Try.ntmps38
    go_wp2_with (at_builtin; refine wpList_app rfl rfl slB w.heap.size _ 0 [] rfl (Row.new w #[] 5 1 0 (0, 0) (free_zero _) (by unfold maxLen; omega) rfl (Nat.le_refl _)) (some ad) l.length c (bvs l) rfl (by simp [bvs]) (hr.alloc _) (bvs_one l) (fun h => by cases h) (by omega) (by simp) ?_; intro v1 w1 h1 h2 h3 h4)
    go_ret
    refine ⟨_, rfl, by simpa using h1, ?_⟩
    exact ((Fr.refl [] w).alloc _).trans h2 (fun i hi => .inr (by rw [own_mem.1 hi]; exact Nat.le_refl _))

def allZ (l : List UInt8) : Bool := l.all (· == 0)
def nzI (l : List UInt8) : Int := if allZ l then -1 else (l.findIdx (· != 0) : Nat)
theorem nzI_ge (l : List UInt8) : decide (0 ≤ nzI l) = !allZ l := by
  unfold nzI
  cases allZ l <;> simp
theorem allZ_take_succ (l : List UInt8) (k : Nat) (h : k < l.length) : allZ (l.take (k + 1)) = (allZ (l.take k) && (l[k] == 0)) := by
  unfold allZ
  rw [List.take_succ_eq_append_getElem h, List.all_append]; simp only [List.all_cons, List.all_nil, Bool.and_true]
theorem nzI_at (l : List UInt8) (k : Nat) (h : k < l.length) (h0 : allZ (l.take k) = true) (h1 : l[k] ≠ 0) : nzI l = k := by
  have hz : allZ l = false := by
    unfold allZ
    rw [List.all_eq_false]
    exact ⟨l[k], List.getElem_mem h, by simpa using h1⟩
  unfold nzI
  rw [hz, if_neg (by simp)]
  congr 1
  rw [List.findIdx_eq h]
  refine ⟨by simpa using h1, fun j hj => ?_⟩
  unfold allZ at h0
  rw [List.all_eq_true] at h0
  have hl : j < (l.take k).length := by rw [List.length_take]; omega
  have := h0 (l.take k)[j] (List.getElem_mem hl)
  rw [List.getElem_take] at this
  simp only [beq_iff_eq] at this
  simp [this]

theorem Rd.byte {w : World} {A : Option Addr} {l : List UInt8} (hr : Rd w A (bvs l)) {k : Nat} (hk : k < l.length) : ∃ g o, A = some ⟨g, o, none⟩ ∧ ∀ j (hj : j < l.length), w.cell? ⟨g, o + j, none⟩ = some (.int .u8 (l[j].toNat : Int)) := by
  obtain ⟨g, o, e, hc⟩ := hr (by intro h; have := congrArg List.length h; rw [bvs_length, List.length_nil] at this; omega)
  exact ⟨g, o, e, fun j hj => hc j _ (by simp [bvs, hj, bv])⟩

theorem u8_ne {x : UInt8} (h : x ≠ 0) : ((x.toNat : Int) != 0) = true := by
  rw [bne_iff_ne]; intro h'; exact h (UInt8.toNat_inj.1 (by simpa using h'))

set_option maxHeartbeats 400000 in
/-- IndexFunc at 'is not 0'. -/
theorem indexB_any (A : Option Addr) (l : List UInt8) (c : Nat) (w : World) (hr : Rd w A (bvs l)) (hl : l.length ≤ 140737488355328) :
    Calls Try.prog 92 #[.slice A l.length c, .func (.func 80) #[] #[]] w fun e w' => e = .returned (.int .i64 (nzI l)) ∧ w = w' := by
  go_enter Try.func92, Try.ntmps92
  go_wp2
  go_loop [8] (fun i => ∃ k : Nat, k ≤ l.length ∧ i = .int .i64 k ∧ allZ (l.take k) = true) (fun i => l.length - (intOf i).toNat)
  case atStart => exact ⟨0, Nat.zero_le _, rfl, rfl⟩
  case round =>
    obtain ⟨k, hk, rfl, hz⟩ := hrel
    have Hz := Lib.hid hz
    clear hz
    by_cases hlt : k < l.length
    · obtain ⟨g, o, rfl, hc⟩ := hr.byte hlt
      have hck := hc k hlt
      clear hc
      by_cases h0 : l[k] = 0
      · have ht := allZ_take_succ l k hlt
        have Ht : Hid (allZ (l.take (k + 1)) = true) := by rw [Hid, ht, Hz.out, h0]; rfl
        clear ht
        rw [h0] at hck
        clear h0
        go_wp2
        go_round
        case rel => exact ⟨k + 1, by omega, by go_num, Ht.out⟩
        case measure => simp [intOf]; omega
      · have e := nzI_at l k hlt Hz.out h0
        have H := Lib.hid e
        have h1 := u8_ne h0
        clear e
        go_wp2
        go_ret
        exact ⟨by rw [H.out]; rfl, rfl⟩
    · have hk' : k = l.length := by omega
      have e : nzI l = -1 := by
        have h1 := Hz.out
        rw [hk', List.take_length] at h1
        unfold nzI; rw [h1]; rfl
      have H := Lib.hid e
      clear e hk'
      go_wp2
      go_ret
      exact ⟨by rw [H.out]; rfl, rfl⟩

theorem containsB_any (A : Option Addr) (l : List UInt8) (c : Nat) (w : World) (hr : Rd w A (bvs l)) (hl : l.length ≤ 140737488355328) :
    Calls Try.prog 79 #[.slice A l.length c, .func (.func 80) #[] #[]] w fun e w' => e = .returned (.bool (!allZ l)) ∧ w = w' := by
  have H := Lib.hid (nzI_ge l)
  go_enter Try.func79, Try.ntmps79
  go_wp2_with (go_at_call 92; refine (indexB_any _ _ _ _ hr hl).mono ?_; rintro e w' ⟨rfl, rfl⟩)
  go_ret
  exact ⟨by rw [← H.out]; rfl, rfl⟩

theorem zeros_any (A : Option Addr) (l : List UInt8) (c : Nat) (w : World) (hr : Rd w A (bvs l)) (hl : l.length ≤ 140737488355328) :
    Calls Try.prog 73 #[.slice A l.length c] w fun e w' => e = .returned (.bool (allZ l)) ∧ w = w' := by
  go_enter Try.func73, Try.ntmps73
  go_wp2_with (go_at_call 79; refine (containsB_any _ _ _ _ hr hl).mono ?_; rintro e w' ⟨rfl, rfl⟩)
  go_ret
  exact ⟨by simp, rfl⟩

end Go.Proofs.Ytdhhnioklbnicaa
