/-
  Layer 13 (record): right, with its map.
-/
import Derived.Test.YtlelgeigighecaaDoorRecD
set_option linter.unusedSimpArgs false
set_option linter.unusedVariables false
set_option linter.unnecessarySimpa false
namespace Go.Proofs.YtlelgeigighecaaDoor
open Go.RowKit Go.Maps

theorem lawInt : Keyed Tryd.prog 3 := int_keyed Tryd.underlying3
theorem zeroBool (w : World) : (zeroValue 4).run Tryd.prog w = .ok (.bool false) w := by kernel_rfl
theorem plainElem_bool_inv {H : Type} {P : Program} {e : TypeId} (he : P.underlying e = some .bool) {v : Value} {z : DataW H × List MemPlace} (h : plainElem P e v = some z) : ∃ x, v = .bool x ∧ z = (.lit (.bool x), []) := by
  unfold plainElem at h
  rw [he] at h
  cases v <;> simp at h
  exact ⟨_, rfl, h.symm⟩
theorem lookup_boolM {H : Type} {P : Program} {k t e : TypeId} {w : World} {b n : Nat} {D : DataW H} (h : w.ownsMap P k (plainElem P e) b n D) (K : Keyed P k) (ht : P.underlying t = some (.map k e)) (he : P.underlying e = some .bool) (hz : (zeroValue e).run P w = .ok (.bool false) w)
    {key : Value} {kl : Lit} (hkey : keyOf P k key = some kl) : ∃ c, (Instr.lookup t (.map (some b)) key false).run P w = .ok (.bool c) w ∧ D.atKey kl (.lit (.bool false)) = .lit (.bool c) := by
  obtain ⟨v, ps, hrun, hv⟩ := h.lookup K ht hz (plainElem_bool he false) hkey
  obtain ⟨c, rfl, hc⟩ := plainElem_bool_inv he hv
  simp only [Prod.mk.injEq] at hc
  exact ⟨c, hrun, hc.1⟩
/-- What the map holds behind k rounds. -/
def dT {H : Type} (l : List Int) : Nat → DataW H
  | 0 => .map []
  | k + 1 => (dT l k).put (.int .i64 (l.getD k 0)) (.lit (.bool true))
theorem dT_map {H : Type} (l : List Int) : ∀ k, IsMap (dT (H := H) l k)
  | 0 => isMap_empty
  | k + 1 => (dT_map l k).put _ _
theorem dT_at {H : Type} (l : List Int) (x : Int) : ∀ k, k ≤ l.length → (dT (H := H) l k).atKey (.int .i64 x) (.lit (.bool false)) = .lit (.bool (decide (x ∈ l.take k)))
  | 0, _ => by
    rw [List.take_zero]
    rfl
  | k + 1, hk => by
    have hkl : k < l.length := by omega
    have hg : l.getD k 0 = l[k] := by simp [hkl]
    rw [dT, List.take_succ_eq_append_getElem hkl]
    by_cases e : x = l[k]
    · rw [hg, ← e, atKey_put_same (k := .int .i64 x) (dT_map l k) trivial]
      rw [decide_eq_true (List.mem_append_right _ (List.mem_singleton.2 rfl))]
    · rw [atKey_put_other (by rw [hg]; intro h; injection h with _ h; exact e h), dT_at l x k (by omega)]
      simp only [List.mem_append, List.mem_singleton, e, or_false]
theorem grown_fr {w w' : World} {b : Nat} (h : w.grownBy w' (some b)) : Fr [b] w w' := ⟨h.os, h.tape, h.output, h.size, fun k hk hn => h.block k hk (by simp at hn; simpa using hn)⟩

set_option maxRecDepth 100000 in
set_option maxHeartbeats 4000000 in
theorem rcRight_any (A : Option Addr) (l : List Int) (n c : Nat) (w : World) (hn : l.length = n) (hr : Rd w A (zvs l)) (hw : ∀ x ∈ l, in64 x) (hl : n ≤ 140737488355328) :
    Calls Tryd.prog 61 #[.slice A n c] w fun e w' => e = .returned (.bool (rightF l)) ∧ Fr [] w w' := by
  have HN := Lib.hid hn
  have HW := Lib.hid hw
  clear hn hw
  have hmm := @run_makeMap Tryd.prog
  go_enter Tryd.func61, Tryd.ntmps61
  go_wp2_with fail
  go_loopw [9] (fun i wr => ∃ k : Nat, k ≤ n ∧ i = .int .i64 k ∧ okT l k ∧ wr.ownsMap Tryd.prog 3 (plainElem Tryd.prog 4) w.heap.size k (dT (H := Unit) l k) ∧ Fr [] w wr) (fun i _ => n - (intOf i).toNat)
  case atStart => exact ⟨0, Nat.zero_le _, rfl, okT_zero l, World.ownsMap_made _ _ _ _, (Fr.refl [] w).alloc _⟩
  case round =>
    obtain ⟨k, hk, rfl, hok, hown, F⟩ := hrel
    by_cases hlt : k < n
    · have hkl : k < l.length := by rw [HN.out]; exact hlt
      obtain ⟨g, o, rfl, hc⟩ := zint_at (hr.keep_nil F) hkl
      have ck := hc k hkl
      have hw64 := HW.out _ (List.getElem_mem hkl)
      have hgd : l.getD k 0 = l[k] := by simp [hkl]
      have HB1 := Lib.hid (fun h => right_bad1 hkl h)
      have HB2 := Lib.hid (fun h => right_bad2 hkl h)
      have HOK := Lib.hid (fun h1 h2 => okT_succ hok hkl h1 h2)
      have hdt := dT_at (H := Unit) l l[k] k (by omega)
      obtain ⟨x, hx⟩ : ∃ x, l[k] = x := ⟨_, rfl⟩
      rw [hx] at ck HB1 HB2 HOK hdt hw64 hgd
      have HX := Lib.hid hx
      have HGD := Lib.hid hgd
      clear hc hok hx hgd
      have wfx : (Lit.int .i64 x).wf = true := by
        unfold in64 at hw64
        simp [Lit.wf, IntKind.min, IntKind.max, IntKind.signed, IntKind.bits]
        omega
      have hkey : keyOf Tryd.prog 3 (.int .i64 x) = some (.int .i64 x) := keyOf_int_mk Tryd.underlying3 wfx
      have HKEY := Lib.hid hkey
      clear hkey wfx
      by_cases h0 : x < 0
      · have H := Lib.hid (HB1.out (by simp [inP]; omega))
        clear hdt
        go_wp2_with fail
        go_ret
        exact ⟨by rw [H.out]; rfl, F⟩
      · by_cases h1 : 4096 ≤ x
        · have H := Lib.hid (HB1.out (by simp [inP]; omega))
          clear hdt
          go_wp2_with fail
          go_ret
          exact ⟨by rw [H.out]; rfl, F⟩
        · have HP := Lib.hid (show inP x = true by simp [inP]; omega)
          obtain ⟨b, hrun, hat⟩ := lookup_boolM hown lawInt Tryd.underlying109 Tryd.underlying4 (zeroBool _) HKEY.out
          rw [hdt] at hat
          have hb : b = decide (x ∈ l.take k) := by
            have := (DataW.lit.inj hat)
            injection this with this
            exact this.symm
          have HBB := Lib.hid hb
          clear hat hdt hb
          cases b
          · have hnm : x ∉ l.take k := fun h => by have := HBB.out; simp [h] at this
            have HO := Lib.hid (HOK.out HP.out hnm)
            clear hnm
            go_wp2_with
              (first
                | (at_mapUpdate; refine wpList_mapUpdate_own _ rfl _ _ _ 109 rfl 3 4 lawInt Tryd.underlying109 _ w.heap.size k _ rfl hown (by unfold maxLen; omega) _ _ _ rfl rfl HKEY.out _ [] (plainElem_bool Tryd.underlying4 true) ?_; intro w1 hown1 hgrow1))
            refine ⟨⟨k + 1, by omega, by go_num, HO.out, ?_, F.trans (grown_fr hgrow1) (fun i hi => .inr (by simp at hi; omega))⟩, by simp [intOf]; omega⟩
            rw [dT, HGD.out]
            exact hown1
          · have hm : x ∈ l.take k := by have := HBB.out; simpa using this.symm
            have H := Lib.hid (HB2.out hm)
            clear hm
            go_wp2_with fail
            go_ret
            exact ⟨by rw [H.out]; rfl, F⟩
    · obtain rfl : k = n := by omega
      have he := right_end (by rw [HN.out]; exact hok)
      rw [HN.out] at he
      clear hown
      by_cases h1 : 1 ≤ k
      · by_cases h2 : k ≤ 64
        · have H := Lib.hid (show rightF l = true by rw [he]; simp [h1, h2])
          clear he hok
          have K1 : (1 : Int) ≤ (k : Int) := by omega
          have K2 : (k : Int) ≤ 64 := by omega
          go_wp2_with fail
          go_ret
          exact ⟨by rw [H.out]; rfl, F⟩
        · have H := Lib.hid (show rightF l = false by rw [he]; simp [h1, h2])
          clear he hok
          have K1 : (1 : Int) ≤ (k : Int) := by omega
          have K2 : ¬ ((k : Int) ≤ 64) := by omega
          go_wp2_with fail
          go_ret
          exact ⟨by rw [H.out]; rfl, F⟩
      · have H := Lib.hid (show rightF l = false by rw [he]; simp [h1])
        clear he hok
        have K1 : ¬ ((1 : Int) ≤ (k : Int)) := by omega
        go_wp2_with fail
        go_ret
        exact ⟨by rw [H.out]; rfl, F⟩
end Go.Proofs.YtlelgeigighecaaDoor
