/-
  CodecLists, the walk: lists, item by item, are read as they were written.
-/
import Derived.Test.YtmonedfafechcaaCodI
set_option linter.unusedSimpArgs false
set_option linter.unusedVariables false
set_option linter.unnecessarySimpa false
namespace Go.Proofs.Ytmonedfafechcaa
open Go.RowKit

theorem slU : SlT Try.prog 51 30 1 8 (.int .u64 0) := ⟨Try.underlying51, by kernel_rfl, rfl, by decide, by decide⟩
def uv (x : Nat) : Value := .int .u64 (x : Int)
theorem uv_one (us : List Nat) : ∀ u ∈ us.map uv, u.oneCell' = true := by
  intro u hu
  obtain ⟨x, _, rfl⟩ := List.mem_map.1 hu
  rfl

def enc8 (us : List Nat) : List UInt8 := us.flatMap (leB 8)
theorem enc8_length (us : List Nat) : (enc8 us).length = 8 * us.length := by
  induction us with
  | nil => rfl
  | cons x r ih => simp only [enc8, List.flatMap_cons, List.length_append, leB_length, List.length_cons] at *; omega
theorem enc8_take_succ (us : List Nat) (k : Nat) (h : k < us.length) : enc8 (us.take (k + 1)) = enc8 (us.take k) ++ leB 8 us[k] := by
  unfold enc8
  rw [List.take_succ_eq_append_getElem h, List.flatMap_append]
  simp only [List.flatMap_cons, List.flatMap_nil, List.append_nil]
theorem leN_leB (n x : Nat) : leN (leB n x) = x % 256 ^ n := by
  induction n with
  | zero => simp [leB, leN, Nat.mod_one]
  | succ n ih =>
    rw [leB_succ, leN_append, ih, leB_length]
    have e : leN [UInt8.ofNat (x / 256 ^ n % 256)] = x / 256 ^ n % 256 := by
      simp [leN, UInt8.toNat_ofNat', Nat.mod_eq_of_lt (Nat.mod_lt (x / 256 ^ n) (show 0 < 256 by omega))]
    rw [e, Nat.pow_succ, Nat.mod_mul]
theorem enc8_drop (us : List Nat) (k : Nat) : (enc8 us).drop (8 * k) = enc8 (us.drop k) := by
  induction k generalizing us with
  | zero => simp
  | succ k ih =>
    cases us with
    | nil => simp [enc8]
    | cons x r =>
      have h : (enc8 (x :: r)).drop 8 = enc8 r := by
        simp only [enc8, List.flatMap_cons]
        rw [List.drop_left' (leB_length 8 x)]
      rw [show 8 * (k + 1) = 8 + 8 * k by omega, ← List.drop_drop, h, ih, List.drop_succ_cons]
theorem enc8_head (us : List Nat) (k : Nat) (h : k < us.length) (hx : us[k] < 18446744073709551616) : leN (((enc8 us).drop (8 * k)).take 8) = us[k] := by
  rw [enc8_drop, List.drop_eq_getElem_cons h]
  simp only [enc8, List.flatMap_cons]
  rw [List.take_left' (leB_length 8 _), leN_leB]
  exact Nat.mod_eq_of_lt hx

section
variable {w : World} {p B : Nat} {v : Value} {size : Nat} {l : List UInt8}

theorem lists1_ok (h : Wrt w p B v size false l) (x : Nat) (hx : x < 18446744073709551616) (hn : (l.length : Int) + 8 ≤ size) :
    Calls Try.prog 33 #[.pointer (some ⟨p, 0, none⟩), .int .u64 x] w fun e w' => e = .returned (.tuple #[]) ∧ WPost w w' p B v size (l ++ leB 8 x) := by
  go_enter Try.func33, Try.ntmps33
  go_wp2_with fail
  refine (wUint_ok h 8 x rfl hx hx hn).mono ?_
  rintro e w' ⟨rfl, h1⟩
  go_wp2
  go_returns
  exact ⟨rfl, h1⟩

set_option maxHeartbeats 1000000 in
theorem putU_ok (h : Wrt w p B v size false l) (C : Option Addr) (n cap : Nat) (us : List Nat) (hn : us.length = n) (hr : Rd w C (us.map uv)) (hC : ∀ g o, C = some ⟨g, o, none⟩ → us ≠ [] → g ≠ p ∧ v.ownBlock ≠ some g ∧ g < w.heap.size)
    (hu : ∀ x ∈ us, x < 18446744073709551616) (hs : l.length + 8 * n ≤ size) (hn1 : n ≤ 1000) :
    Calls Try.prog 32 #[.pointer (some ⟨p, 0, none⟩), .slice C n cap, .func (.func 33) #[] #[]] w fun e w' => e = .returned (.tuple #[]) ∧ WPost w w' p B v size (l ++ enc8 us) := by
  have HN := Lib.hid hn
  clear hn
  go_enter Try.func32, Try.ntmps32
  go_wp2
  go_loopw [10] (fun i wr => ∃ k : Nat, k ≤ n ∧ i = .int .i64 k ∧ WPost w wr p B v size (l ++ enc8 (us.take k))) (fun i _ => n - (intOf i).toNat)
  case atStart => exact ⟨0, Nat.zero_le _, rfl, v, by simpa [enc8] using h, Fr.refl _ _, fun g hg => .inl hg⟩
  case round =>
    obtain ⟨k, hk, rfl, v1, k1, k2, k3⟩ := hrel
    by_cases hlt : k < n
    · have hkl : k < us.length := by rw [HN.out]; exact hlt
      obtain ⟨g, o, rfl, hc⟩ := hr (by intro h; have := congrArg List.length h; simp at this; subst this; simp at hkl)
      have hu0 : us ≠ [] := by rintro rfl; simp at hkl
      have hg := hC g o rfl hu0
      have ck := k2.cell (p := ⟨g, o + k, none⟩) (by simp only [List.mem_cons, not_or]; exact ⟨hg.1, fun hm => hg.2.1 (mem_own.1 hm)⟩) (hc k (uv us[k]) (by simp [hkl]))
      unfold uv at ck
      have hx := hu _ (List.getElem_mem hkl)
      have T := Lib.hid (enc8_take_succ us k hkl)
      have hlen : (l ++ enc8 (us.take k)).length = l.length + 8 * k := by rw [List.length_append, enc8_length, List.length_take, Nat.min_eq_left (by omega)]
      have HL := Lib.hid hlen
      clear hlen hc
      generalize us[k] = x at *
      go_wp2_with fail
      refine (lists1_ok k1 x hx (by rw [HL.out]; omega)).mono ?_
      rintro e w2 ⟨rfl, h2⟩
      go_wp2
      refine ⟨⟨k + 1, by omega, by go_num, ?_⟩, by simp [intOf]; omega⟩
      rw [T.out, ← List.append_assoc]
      exact WPost.trans k2 k3 h2
    · have hk2 : us.take k = us := by rw [List.take_of_length_le]; rw [HN.out]; omega
      rw [hk2] at k1
      clear hk2
      go_wp2
      go_returns
      exact ⟨rfl, v1, k1, k2, k3⟩

theorem lists2_any {G : List Nat} {bad : Bool} (h : Rdr 95 w p G l bad) :
    Calls Try.prog 35 #[.pointer (some ⟨p, 0, none⟩)] w fun e w' => e = .returned (.int .u64 (stUv l bad 8)) ∧ Rdr 95 w' p G (stUl l bad 8) (stUb l bad 8) ∧ Fr [p] w w' := by
  go_enter Try.func35, Try.ntmps35
  go_wp2_with fail
  refine (rUint_any h 8).mono ?_
  rintro e w' ⟨rfl, h1, h2⟩
  go_wp2
  go_ret
  exact ⟨rfl, h1, h2⟩

theorem rdr_bad_set {T : TypeId} {G : List Nat} {bad : Bool} (h : Rdr T w p G l bad) : w.cell? ⟨p, 1, none⟩ = some (.bool bad) ∧ w.frozen? ⟨p, 1, none⟩ = false := by
  obtain ⟨A, c, h1, _⟩ := h
  exact ⟨by have := h1.cell 1; simpa using this, h1.frozen 1⟩

/-- Out of reach at once. -/
theorem getU_out {G : List Nat} {bad : Bool} (h : Rdr 95 w p G l bad) (n : Int) (hn : n < 0 ∨ (l.length : Int) < n) (hn2 : n ≤ 9223372036854775807) :
    Calls Try.prog 34 #[.pointer (some ⟨p, 0, none⟩), .int .i64 n, .func (.func 35) #[] #[]] w fun e w' => e = .returned (.slice none 0 0) ∧ Rdr 95 w' p G l true ∧ Fr [p] w w' := by
  have fin := rdr_refuse h
  obtain ⟨c1, f1⟩ := rdr_bad_set h
  obtain ⟨c1', f1'⟩ := rdr_bad_set fin.1
  by_cases h0 : n < 0
  · go_enter Try.func34, Try.ntmps34
    go_wp2_with fail
    go_loop [23] (fun i => i = .int .i64 0) (fun _ => 0)
    case atStart => rfl
    case round =>
      obtain rfl := hrel
      go_wp2
      go_ret
      exact ⟨rfl, fin⟩
  · have h1 : (l.length : Int) < n := by omega
    go_enter Try.func34, Try.ntmps34
    go_wp2_with fail
    refine (rLeft_any h).mono ?_
    rintro e w' ⟨rfl, rfl⟩
    go_wp2_with fail
    go_loop [23] (fun i => i = .int .i64 0) (fun _ => 0)
    case atStart => rfl
    case round =>
      obtain rfl := hrel
      go_wp2
      go_ret
      exact ⟨rfl, fin⟩

/-- What Get leaves, behind k rounds: so far all was there; or something was refused. -/
def GRel (w wr : World) (p : Nat) (G : List Nat) (us : List Nat) (k : Nat) (v : Value) : Prop :=
  Fr [p] w wr ∧ ((k ≤ us.length ∧ Row wr w.heap.size 30 1 v k ((us.take k).map uv) ∧ Rdr 95 wr p G ((enc8 us).drop (8 * k)) false) ∨ (us.length < k ∧ ∃ l', Rdr 95 wr p G l' true))

/-- What Get gives: n items, or none. -/
def GPost (w w' : World) (p : Nat) (G : List Nat) (us : List Nat) (n : Nat) (v : Value) : Prop :=
  Fr [p] w w' ∧ ((n ≤ us.length ∧ Row w' w.heap.size 30 1 v n ((us.take n).map uv) ∧ Rdr 95 w' p G ((enc8 us).drop (8 * n)) false) ∨ (us.length < n ∧ v = .slice none 0 0 ∧ ∃ l', Rdr 95 w' p G l' true))

set_option maxHeartbeats 1000000 in
theorem getU_in {G : List Nat} {us : List Nat} (h : Rdr 95 w p G (enc8 us) false) (n : Nat) (hn : n ≤ 8 * us.length) (hu : ∀ x ∈ us, x < 18446744073709551616) (hus : us.length ≤ 1000) (hG : ∀ g ∈ G, g < w.heap.size) :
    Calls Try.prog 34 #[.pointer (some ⟨p, 0, none⟩), .int .i64 n, .func (.func 35) #[] #[]] w fun e w' => ∃ v, e = .returned v ∧ GPost w w' p G us n v := by
  have hlen := enc8_length us
  have HL := Lib.hid hlen
  clear hlen
  have d1 : decide ((n : Int) < 0) = false := by simp
  go_enter Try.func34, Try.ntmps34
  go_wp2_with fail
  have cl := rLeft_any h
  rw [HL.out] at cl
  refine cl.mono ?_
  clear cl
  rintro e w' ⟨rfl, rfl⟩
  have d2 : ¬ ((8 * us.length : Nat) : Int) < (n : Int) := by omega
  go_wp2_with fail
  go_loopw [7, 23] (fun v i wr => ∃ k : Nat, k ≤ n ∧ i = .int .i64 k ∧ GRel w wr p G us k v) (fun _ i _ => n - (intOf i).toNat)
  case atStart => exact ⟨0, Nat.zero_le _, rfl, Fr.refl _ _, .inl ⟨Nat.zero_le _, by simpa using Row.nil _ _ _ _, by simpa using h⟩⟩
  case round =>
    obtain ⟨k, hk, rfl, f, hcase⟩ := hrel
    rcases hcase with ⟨hku, hrow, hrd⟩ | ⟨hku, l', hrd⟩
    · obtain ⟨c1, f1⟩ := rdr_bad_set hrd
      by_cases hlt : k < n
      · obtain ⟨A7, cap7, rfl, -, -, -, -, -⟩ := hrow.shape
        go_wp2_with fail
        have cc := lists2_any hrd
        by_cases hkl : k < us.length
        · have hlen2 : 8 ≤ ((enc8 us).drop (8 * k)).length := by rw [List.length_drop, HL.out]; omega
          have hin : (inR ((enc8 us).drop (8 * k)) false 8 && wide 8) = true := by simp [inR, wide]; rw [HL.out]; omega
          have e1 : stUv ((enc8 us).drop (8 * k)) false 8 = us[k] := by
            simp only [stUv, hin, if_true]
            exact enc8_head us k hkl (hu _ (List.getElem_mem hkl))
          have e2 : stUl ((enc8 us).drop (8 * k)) false 8 = (enc8 us).drop (8 * (k + 1)) := by
            simp only [stUl, hin, if_true]
            rw [List.drop_drop]
            rfl
          have e3 : stUb ((enc8 us).drop (8 * k)) false 8 = false := by simp only [stUb, hin]; rfl
          rw [e1, e2, e3] at cc
          clear e1 e2 e3 hin
          have T : (us.take (k + 1)).map uv = (us.take k).map uv ++ [uv us[k]] := by rw [List.take_succ_eq_append_getElem hkl, List.map_append]; rfl
          have HT := Lib.hid T
          clear T
          generalize hx : us[k] = x at *
          have HX := Lib.hid hx
          clear hx
          refine cc.mono ?_
          clear cc
          rintro e w2 ⟨rfl, g1, g2⟩
          have hrow2 := hrow.keep g2 (fun g hg => by have := hrow.lt g hg; have := h.lt; simp; omega)
          go_wp2_with (at_builtin; refine wpList_app rfl rfl slU w.heap.size (.slice A7 k cap7) k ((us.take k).map uv) rfl (hrow2.alloc _) _ 1 1 [_] rfl rfl (Rd.one _ _ _) (by intro u hu; rw [List.mem_singleton.1 hu]; rfl) (fun h => by cases h) (by omega) (by have := f.size; have := g2.size; simp; omega) ?_; intro v3 w3 q1 q2 q3 q4)
          have q2' := q2
          refine ⟨⟨k + 1, by omega, by go_num, ?_, .inl ⟨hkl, by rw [HT.out]; exact q1, ?_⟩⟩, by simp [intOf]; omega⟩
          · refine (f.trans_same g2).trans (((Fr.refl [] _).alloc _).nil.trans q2' (fun i hi => .inl hi)) (fun i hi => .inr ?_)
            exact (hrow.lt i (mem_own.1 hi)).1
          · have g3 := g1.keep ((Fr.refl [] _).alloc (.cells #[.int .u64 x] 30)) (by simp) (by simp)
            refine g3.keep q2' (fun hm => ?_) (fun g hg hm => ?_)
            · have := (hrow.lt _ (mem_own.1 hm)).1; have := h.lt; omega
            · have := (hrow.lt _ (mem_own.1 hm)).1; have := hG g hg; omega
        · have hk0 : k = us.length := by omega
          have hd : (enc8 us).drop (8 * k) = [] := List.drop_eq_nil_of_le (by rw [HL.out]; omega)
          have e1 : stUv ((enc8 us).drop (8 * k)) false 8 = 0 := by rw [hd]; rfl
          have e2 : stUl ((enc8 us).drop (8 * k)) false 8 = [] := by rw [hd]; rfl
          have e3 : stUb ((enc8 us).drop (8 * k)) false 8 = true := by rw [hd]; rfl
          rw [e1, e2, e3] at cc
          have HK0 := Lib.hid hk0
          clear e1 e2 e3 hd hk0
          refine cc.mono ?_
          clear cc
          rintro e w2 ⟨rfl, g1, g2⟩
          have hrow2 := hrow.keep g2 (fun g hg => by have := hrow.lt g hg; have := h.lt; simp; omega)
          go_wp2_with (at_builtin; refine wpList_app rfl rfl slU w.heap.size (.slice A7 k cap7) k ((us.take k).map uv) rfl (hrow2.alloc _) _ 1 1 [_] rfl rfl (Rd.one _ _ _) (by intro u hu; rw [List.mem_singleton.1 hu]; rfl) (fun h => by cases h) (by omega) (by have := f.size; have := g2.size; simp; omega) ?_; intro v3 w3 q1 q2 q3 q4)
          have q2' := q2
          refine ⟨⟨k + 1, by omega, by go_num, ?_, .inr ⟨by have := HK0.out; omega, [], ?_⟩⟩, by simp [intOf]; omega⟩
          · refine (f.trans_same g2).trans (((Fr.refl [] _).alloc _).nil.trans q2' (fun i hi => .inl hi)) (fun i hi => .inr ?_)
            exact (hrow.lt i (mem_own.1 hi)).1
          · have g3 := g1.keep ((Fr.refl [] _).alloc (.cells #[.int .u64 0] 30)) (by simp) (by simp)
            refine g3.keep q2' (fun hm => ?_) (fun g hg hm => ?_)
            · have := (hrow.lt _ (mem_own.1 hm)).1; have := h.lt; omega
            · have := (hrow.lt _ (mem_own.1 hm)).1; have := hG g hg; omega
      · obtain rfl : k = n := by omega
        go_wp2
        go_ret
        exact ⟨_, rfl, f, .inl ⟨hku, hrow, hrd⟩⟩
    · obtain ⟨c1, f1⟩ := rdr_bad_set hrd
      by_cases hlt : k < n
      · go_wp2
        go_ret
        exact ⟨_, rfl, f, .inr ⟨by omega, rfl, l', hrd⟩⟩
      · go_wp2
        go_ret
        exact ⟨_, rfl, f, .inr ⟨by omega, rfl, l', hrd⟩⟩
end

set_option maxRecDepth 100000 in
set_option maxHeartbeats 2000000 in
theorem lists_any (w : World) (C : Option Addr) (m cap : Nat) (us : List Nat) (hn : us.length = m) (hr : Rd w C (us.map uv)) (hC : C = none → m = 0) (hCb : ∀ g o, C = some ⟨g, o, none⟩ → us ≠ [] → g < w.heap.size) (hu : ∀ x ∈ us, x < 18446744073709551616) (hm : m * 8 ≤ 140737488351232)
    (n : Int) (hn64 : -9223372036854775808 ≤ n ∧ n ≤ 9223372036854775807) :
    Calls Try.prog 7 #[.slice C m cap, .int .i64 n] w fun e w' => e = .returned (.bool true) ∧ Fr [] w w' := by
  have HN := Lib.hid hn
  clear hn
  by_cases hbig : 1000 < m
  · go_enter Try.func7, Try.ntmps7
    go_wp2_with fail
    refine (lives09_any w).mono ?_
    rintro e w1 ⟨rfl, f1⟩
    go_wp2
    go_ret
    exact ⟨rfl, f1⟩
  · have hm1 : m ≤ 1000 := by omega
    go_enter Try.func7, Try.ntmps7
    go_wp2_with fail
    have cc := newWriter_any (8 * (m : Int)) w
    rw [show sizeN (8 * (m : Int)) = 8 * m by unfold sizeN; rw [if_neg (by omega)]; omega] at cc
    refine cc.mono ?_
    clear cc
    rintro e w1 ⟨rfl, h1, f1, z1⟩
    go_wp2_with fail
    refine (lives09_any w1).mono ?_
    rintro e w2 ⟨rfl, f2⟩
    have h2 := h1.keep_nil f2
    have F2 := f1.trans_nil f2
    go_wp2_with fail
    refine (putU_ok h2 C m cap us HN.out (hr.keep_nil F2) (fun g o e hne => by have := hCb g o e hne; have := F2.size; exact ⟨by omega, by simp [Value.ownBlock], by omega⟩) hu (by simp) hm1).mono ?_
    rintro e w3 ⟨rfl, v3, h3, f3, g3⟩
    rw [List.nil_append] at h3
    have F3 : Fr [] w w3 := F2.trans f3 (fun i hi => by
      rcases List.mem_cons.1 hi with rfl | hi
      · exact .inr (Nat.le_refl _)
      · exact (own_nil.1 hi).elim)
    go_wp2_with fail
    have hlen := enc8_length us
    rw [HN.out] at hlen
    have cc := wDone_ok h3
    rw [hlen, show 8 * m - 8 * m = 0 by omega, List.replicate_zero, List.append_nil] at cc
    refine cc.mono ?_
    clear cc
    rintro e w4 ⟨r4, rfl, h4, f4⟩
    have F4 := F3.trans_nil f4
    obtain ⟨A4, cap4, rfl, -, -, rd4, -, -⟩ := h4.shape
    have n4 := h4.rd.2.2
    have HL := Lib.hid hlen
    clear hlen
    go_wp2_with fail
    refine (newReader_any A4 (enc8 us) (8 * m) cap4 w4 HL.out rd4 n4 (by omega)).mono ?_
    rintro e w5 ⟨p5, G5, rfl, h5, f5, z5, g5⟩
    have F5 := F4.trans_nil f5
    have p5w : w.heap.size ≤ p5 := by have := F4.size; omega
    go_wp2_with fail
    by_cases hout : n < 0 ∨ ((8 * m : Nat) : Int) < n
    · refine (getU_out h5 n (by rw [HL.out]; exact hout) hn64.2).mono ?_
      rintro e w6 ⟨rfl, h6, f6⟩
      have F6 := F5.trans f6 (fun i hi => .inr (by simp at hi; omega))
      have cD := rDone_any h6
      rw [show doneE (enc8 us) true = 90 by simp [doneE]] at cD
      have cL := rLeft_any h6
      rw [HL.out] at cL
      rcases hout with h0 | h0
      · go_wp2_with (first
          | (go_at_call 18; refine cD.mono ?_; rintro e w7 ⟨rfl, rfl⟩)
          | (go_at_call 17; refine cL.mono ?_; rintro e w7 ⟨rfl, rfl⟩))
        go_ret
        exact ⟨rfl, F6⟩
      · have h0' : ¬ n < 0 := by omega
        have h1' : ¬ n ≤ 8 * (m : Int) := by omega
        go_wp2_with (first
          | (go_at_call 18; refine cD.mono ?_; rintro e w7 ⟨rfl, rfl⟩)
          | (go_at_call 17; refine cL.mono ?_; rintro e w7 ⟨rfl, rfl⟩))
        go_ret
        exact ⟨rfl, F6⟩
    · obtain ⟨k, rfl⟩ := Int.eq_ofNat_of_zero_le (show 0 ≤ n by omega)
      have hk8 : k ≤ 8 * m := by omega
      clear hout
      refine (getU_in h5 k (by rw [HN.out]; exact hk8) hu (by rw [HN.out]; exact hm1) (fun g hg => (g5 g hg).2.1)).mono ?_
      rintro e w6 ⟨v6, rfl, f6, hcase⟩
      have F6 := F5.trans f6 (fun i hi => .inr (by simp at hi; omega))
      rcases hcase with ⟨hku, hrow, hrd⟩ | ⟨hku, rfl, l', hrd⟩
      · have hkm : k ≤ m := by rw [HN.out] at hku; exact hku
        have hleft : ((enc8 us).drop (8 * k)).length = 8 * m - 8 * k := by rw [List.length_drop, HL.out]
        have cL := rLeft_any hrd
        rw [hleft, show (((8 * m - 8 * k : Nat) : Int)) = 8 * ((m : Int) - k) by omega] at cL
        clear hleft
        obtain ⟨A6, cap6, rfl, -, -, rd6, -, -⟩ := hrow.shape
        have d1 : decide ((k : Int) < 0) = false := by simp
        have d2 : decide (m < k) = false := by simpa using hkm
        clear hku
        go_wp2_with (go_at_call 17; refine cL.mono ?_; rintro e w7 ⟨rfl, rfl⟩)
        go_loopw [10] (fun i wr => ∃ j : Nat, j ≤ k ∧ i = .int .i64 j ∧ ∃ q, wr = w6.drewN q) (fun i _ => k - (intOf i).toNat)
        case atStart => exact ⟨0, Nat.zero_le _, rfl, 0, rfl⟩
        case round =>
          obtain ⟨j, hj, rfl, q, rfl⟩ := hrel
          by_cases hlt : j < k
          · have hju : j < us.length := by rw [HN.out]; omega
            obtain ⟨g, o, rfl, hc⟩ := rd6 (by intro h; have := congrArg List.length h; rw [List.length_map, List.length_take, List.length_nil] at this; omega)
            obtain ⟨g', o', rfl, hc'⟩ := hr (by intro h; have := congrArg List.length h; simp at this; subst this; simp at hju)
            have ca := hc j (uv us[j]) (by simp [List.getElem?_take, hlt, hju])
            have cb := F6.cell (p := ⟨g', o' + j, none⟩) (by simp) (hc' j (uv us[j]) (by simp [hju]))
            unfold uv at ca cb
            clear hc hc'
            have i1 : (j : Int) < (k : Int) := by omega
            have i2 : (j : Int) < (m : Int) := by omega
            go_wp2_with fail
            go_quiet (fail)
            go_wp2_with fail
            exact ⟨⟨j + 1, by omega, by go_num, q + nq, rfl⟩, by simp [intOf]; omega⟩
          · go_wp2
            go_ret
            exact ⟨rfl, F6.drewN _⟩
      · have hkm : m < k := by rw [HN.out] at hku; exact hku
        have cD := rDone_any hrd
        rw [show doneE l' true = 90 by simp [doneE]] at cD
        have d1 : decide ((k : Int) < 0) = false := by simp
        clear hku
        go_wp2_with (go_at_call 18; refine cD.mono ?_; rintro e w7 ⟨rfl, rfl⟩)
        go_ret
        exact ⟨rfl, F6⟩
end Go.Proofs.Ytmonedfafechcaa
