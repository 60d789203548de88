/-
  Texts of this claim, one behind the other: RecD, RecE, RecF, RecG, RecH.
-/
import Derived.Test.YtlelgeigighecaaDoorM7
import Derived.Maps.Own
import Derived.Maps.OwnOps
import Derived.Maps.Views
/-
  Layer 13 (record): like, turn, right and their references.
-/
set_option linter.unusedSimpArgs false
set_option linter.unusedVariables false
set_option linter.unnecessarySimpa false
namespace Go.Proofs.YtlelgeigighecaaDoor
open Go.RowKit Go.Maps

def likeB (l : List UInt8) : Bool := l.take 4 == planM || (l.take 4 == doneM || l.take 4 == markM)
theorem rcLike_any (A : Option Addr) (l : List UInt8) (n c : Nat) (w : World) (hn : l.length = n) (hr : Rd w A (bvs l)) (hA : A = none → n = 0) (h4 : 4 ≤ n) (hc : n ≤ c) : Calls Tryd.prog 59 #[.slice A n c] w fun e w' => e = .returned (.bool (likeB l)) ∧ w = w' := by
  have E := strB w A (l.take 4) 4 c (by rw [List.length_take]; omega) (by rw [bvs_take]; exact hr.take 4) (fun h => absurd (hA h) (by omega))
  have K4 : (4 : Int) ≤ c := by omega
  have HB := Lib.hid (show likeB l = (l.take 4 == [80, 76, 65, 78] || (l.take 4 == [68, 79, 78, 69] || l.take 4 == [77, 65, 82, 75])) from rfl)
  generalize l.take 4 = q at *
  cases m1 : (q == [80, 76, 65, 78])
  · cases m2 : (q == [68, 79, 78, 69])
    · cases m3 : (q == [77, 65, 82, 75])
      · have H := Lib.hid (show likeB l = false by rw [HB.out, m1, m2, m3]; rfl)
        go_enter Tryd.func59, Tryd.ntmps59
        go_wp2_with fail
        go_ret
        exact ⟨by rw [H.out]; rfl, rfl⟩
      · have H := Lib.hid (show likeB l = true by rw [HB.out, m1, m2, m3]; rfl)
        go_enter Tryd.func59, Tryd.ntmps59
        go_wp2_with fail
        go_ret
        exact ⟨by rw [H.out]; rfl, rfl⟩
    · have H := Lib.hid (show likeB l = true by rw [HB.out, m1, m2]; rfl)
      go_enter Tryd.func59, Tryd.ntmps59
      go_wp2_with fail
      go_ret
      exact ⟨by rw [H.out]; rfl, rfl⟩
  · have H := Lib.hid (show likeB l = true by rw [HB.out, m1]; rfl)
    go_enter Tryd.func59, Tryd.ntmps59
    go_wp2_with fail
    go_ret
    exact ⟨by rw [H.out]; rfl, rfl⟩
theorem xrcLike_any (A : Option Addr) (l : List UInt8) (n c : Nat) (w : World) (hn : l.length = n) (hr : Rd w A (bvs l)) (hA : A = none → n = 0) (h4 : 4 ≤ n) (hc : n ≤ c) : Calls Tryd.prog 65 #[.slice A n c] w fun e w' => e = .returned (.bool (likeB l)) ∧ w = w' := by
  have E := strB w A (l.take 4) 4 c (by rw [List.length_take]; omega) (by rw [bvs_take]; exact hr.take 4) (fun h => absurd (hA h) (by omega))
  have K4 : (4 : Int) ≤ c := by omega
  have HB := Lib.hid (show likeB l = (l.take 4 == [80, 76, 65, 78] || (l.take 4 == [68, 79, 78, 69] || l.take 4 == [77, 65, 82, 75])) from rfl)
  generalize l.take 4 = q at *
  cases m1 : (q == [80, 76, 65, 78])
  · cases m2 : (q == [68, 79, 78, 69])
    · cases m3 : (q == [77, 65, 82, 75])
      · have H := Lib.hid (show likeB l = false by rw [HB.out, m1, m2, m3]; rfl)
        go_enter Tryd.func65, Tryd.ntmps65
        go_wp2_with fail
        go_ret
        exact ⟨by rw [H.out]; rfl, rfl⟩
      · have H := Lib.hid (show likeB l = true by rw [HB.out, m1, m2, m3]; rfl)
        go_enter Tryd.func65, Tryd.ntmps65
        go_wp2_with fail
        go_ret
        exact ⟨by rw [H.out]; rfl, rfl⟩
    · have H := Lib.hid (show likeB l = true by rw [HB.out, m1, m2]; rfl)
      go_enter Tryd.func65, Tryd.ntmps65
      go_wp2_with fail
      go_ret
      exact ⟨by rw [H.out]; rfl, rfl⟩
  · have H := Lib.hid (show likeB l = true by rw [HB.out, m1]; rfl)
    go_enter Tryd.func65, Tryd.ntmps65
    go_wp2_with fail
    go_ret
    exact ⟨by rw [H.out]; rfl, rfl⟩

def turnB : List UInt8 → List UInt8
  | [] => []
  | x :: r => (x ^^^ 128) :: r
theorem turnB_len (l : List UInt8) : (turnB l).length = l.length := by cases l <;> rfl
theorem turn_byte (x : UInt8) : Value.int .u8 (bits .xor .u8 (x.toNat : Int) 128) = bv (x ^^^ 128) := by
  have := u8_xor_nat x.toNat 128 x.toNat_lt (by omega)
  unfold bv
  rw [show (128 : Int) = ((128 : Nat) : Int) from rfl, this, UInt8.toNat_xor]
  rfl
theorem row_turn {w : World} {B g n c : Nat} {x : UInt8} {r : List UInt8} (h : Row w B 5 1 (.slice (some ⟨g, 0, none⟩) n c) n (bvs (x :: r))) :
    w.cell? ⟨g, 0, none⟩ = some (bv x) ∧ w.frozen? ⟨g, 0, none⟩ = false ∧ Row (w.setCell ⟨g, 0, none⟩ (bv (x ^^^ 128))) B 5 1 (.slice (some ⟨g, 0, none⟩) n c) n (bvs ((x ^^^ 128) :: r)) := by
  rcases h.2 with ⟨e, _⟩ | ⟨g', cap, cur, fz, e, hb, hg, hf, hnc, hcm, hcs, ht⟩
  · cases e
  · cases e
    have hn : r.length + 1 = n := by have := h.1; rw [bvs_length, List.length_cons, Nat.mul_one] at this; exact this
    have hpos : 0 < cur.size := by omega
    obtain ⟨lc⟩ := cur
    match lc, hpos with
    | y :: rest, _ =>
      have e1 : y = bv x ∧ rest.take r.length = bvs r := by
        rw [Nat.mul_one, ← hn] at ht
        simp only [List.take_succ_cons, bvs, List.map_cons, List.cons.injEq] at ht
        exact ht
      refine ⟨?_, ?_, ?_⟩
      · rw [cell_of_row w g 0 _ _ _ hg, e1.1]; rfl
      · have := hf 0 (by simp)
        simp only [World.frozen?, hg]
        simpa using this
      · refine ⟨by simp [bvs]; omega, .inr ⟨g, c, (bv (x ^^^ 128) :: rest).toArray, fz, rfl, hb, ?_, by simpa using hf, hnc, hcm, by simpa using hcs, ?_⟩⟩
        · simp [World.setCell, Array.getElem?_modify, hg]
        · rw [Nat.mul_one, ← hn]
          simp only [List.take_succ_cons, bvs, List.map_cons]
          rw [e1.2]
          rfl

theorem row_head {w : World} {B n : Nat} {v : Value} {xs : List Value} (h : Row w B 5 1 v n xs) (hn : 0 < n) : ∃ g c, v = .slice (some ⟨g, 0, none⟩) n c := by
  rcases h.2 with ⟨_, e⟩ | ⟨g, cap, cur, fz, e, _⟩
  · omega
  · exact ⟨g, cap, e⟩
set_option maxHeartbeats 1000000 in
theorem rcTurn_any (A : Option Addr) (l : List UInt8) (n c : Nat) (w : World) (hn : l.length = n) (hr : Rd w A (bvs l)) (hA : A = none → n = 0) (hpos : 0 < n) (hl : n ≤ 140737488355328) :
    Calls Tryd.prog 60 #[.slice A n c] w fun e w' => ∃ v, e = .returned v ∧ Row w' w.heap.size 5 1 v n (bvs (turnB l)) ∧ Fr [] w w' := by
  obtain ⟨x, r, rfl⟩ : ∃ x r, l = x :: r := by
    cases l with
    | nil => simp at hn; omega
    | cons x r => exact ⟨x, r, rfl⟩
  have HN := Lib.hid hn
  clear hn
  go_enter Tryd.func60, Tryd.ntmps60
  go_wp2_with fail
  refine (clone_any A (x :: r) n c w HN.out hr hA hl).mono ?_
  rintro e w1 ⟨v1, rfl, r1, f1⟩
  obtain ⟨g, cap, rfl⟩ := row_head r1 hpos
  obtain ⟨c0, z0, r2⟩ := row_turn r1
  rw [← turn_byte] at r2
  have c0' : w1.cell? ⟨g, 0, none⟩ = some (.int .u8 (x.toNat : Int)) := c0
  have fs : Fr [] w (w1.setCell ⟨g, 0, none⟩ (.int .u8 (bits .xor .u8 (x.toNat : Int) 128))) := f1.setCell (.inr (r1.lt g rfl).1) _
  clear c0 r1
  go_wp2_with fail
  go_ret
  exact ⟨_, rfl, r2, fs⟩
set_option maxHeartbeats 1000000 in
theorem xrcTurn_any (A : Option Addr) (l : List UInt8) (n c : Nat) (w : World) (hn : l.length = n) (hr : Rd w A (bvs l)) (hA : A = none → n = 0) (hpos : 0 < n) (hl : n ≤ 140737488355328) :
    Calls Tryd.prog 66 #[.slice A n c] w fun e w' => ∃ v, e = .returned v ∧ Row w' w.heap.size 5 1 v n (bvs (turnB l)) ∧ Fr [] w w' := by
  obtain ⟨x, r, rfl⟩ : ∃ x r, l = x :: r := by
    cases l with
    | nil => simp at hn; omega
    | cons x r => exact ⟨x, r, rfl⟩
  have HN := Lib.hid hn
  clear hn
  go_enter Tryd.func66, Tryd.ntmps66
  go_upto_region 2 with (at_builtin; refine wpList_app rfl rfl slB w.heap.size (.slice (some ⟨w.heap.size, 0, none⟩) 0 0) 0 [] rfl (Row.new w #[] 5 1 0 (0, 0) (free_zero _) (by unfold maxLen; omega) rfl (Nat.le_refl _)) A n c (bvs (x :: r)) rfl (by rw [bvs_length, HN.out]; omega) (hr.alloc _) (bvs_one _) hA (by omega) (by simp) ?_; intro v1 w1 q1 q2 q3 q4)
  have f1 : Fr [] w w1 := ((Fr.refl [] w).alloc _).trans q2 (fun i hi => .inr (by rw [own_mem.1 hi]; exact Nat.le_refl _))
  rw [Nat.zero_add, List.nil_append] at q1
  clear q2 q3 q4
  obtain ⟨g, cap, rfl⟩ := row_head q1 hpos
  obtain ⟨c0, z0, r2⟩ := row_turn q1
  rw [← turn_byte] at r2
  have c0' : w1.cell? ⟨g, 0, none⟩ = some (.int .u8 (x.toNat : Int)) := c0
  have fs : Fr [] w (w1.setCell ⟨g, 0, none⟩ (.int .u8 (bits .xor .u8 (x.toNat : Int) 128))) := f1.setCell (.inr (q1.lt g rfl).1) _
  clear c0 q1
  go_wp2_with fail
  go_ret
  exact ⟨_, rfl, r2, fs⟩

/-- Numbers as cells. -/
def zvs (l : List Int) : List Value := l.map fun z => Value.int .i64 z
theorem zvs_len (l : List Int) : (zvs l).length = l.length := by simp [zvs]
theorem zvs_append (a b : List Int) : zvs (a ++ b) = zvs a ++ zvs b := by simp [zvs]
theorem zint_at {w : World} {A : Option Addr} {L : List Int} (hr : Rd w A (zvs L)) {k : Nat} (hk : k < L.length) : ∃ g o, A = some ⟨g, o, none⟩ ∧ ∀ j (hj : j < L.length), w.cell? ⟨g, o + j, none⟩ = some (.int .i64 L[j]) := by
  obtain ⟨g, o, e, hc⟩ := hr (by intro h; have := congrArg List.length h; rw [zvs_len, List.length_nil] at this; omega)
  exact ⟨g, o, e, fun j hj => hc j _ (by simp [zvs, hj])⟩

def inP (x : Int) : Bool := decide (0 ≤ x) && decide (x < 4096)
/-- May these be a transaction's blocks? -/
def rightF (l : List Int) : Bool := l.all inP && (decide l.Nodup && (decide (1 ≤ l.length) && decide (l.length ≤ 64)))
def okT (l : List Int) (k : Nat) : Prop := (l.take k).all inP = true ∧ (l.take k).Nodup
theorem okT_zero (l : List Int) : okT l 0 := ⟨rfl, List.nodup_nil⟩
theorem okT_succ {l : List Int} {k : Nat} (h : okT l k) (hk : k < l.length) (h1 : inP l[k] = true) (h2 : l[k] ∉ l.take k) : okT l (k + 1) := by
  unfold okT
  rw [List.take_succ_eq_append_getElem hk]
  refine ⟨by rw [List.all_append, h.1]; simp [h1], ?_⟩
  rw [List.nodup_append]
  exact ⟨h.2, by simp, fun a ha b hb => by rw [List.mem_singleton.1 hb]; rintro rfl; exact h2 ha⟩
theorem right_bad1 {l : List Int} {k : Nat} (hk : k < l.length) (h : inP l[k] = false) : rightF l = false := by
  have : l.all inP = false := by
    rw [List.all_eq_false]
    exact ⟨l[k], List.getElem_mem hk, by rw [h]; decide⟩
  simp [rightF, this]
theorem right_bad2 {l : List Int} {k : Nat} (hk : k < l.length) (h : l[k] ∈ l.take k) : rightF l = false := by
  have : ¬ l.Nodup := by
    intro hn
    have e : l = l.take k ++ l.drop k := (List.take_append_drop k l).symm
    rw [e, List.nodup_append] at hn
    exact hn.2.2 _ h _ (by rw [List.drop_eq_getElem_cons hk]; exact List.mem_cons_self) rfl
  simp [rightF, this]
theorem right_end {l : List Int} (h : okT l l.length) : rightF l = (decide (1 ≤ l.length) && decide (l.length ≤ 64)) := by
  obtain ⟨h1, h2⟩ := h
  rw [List.take_length] at h1 h2
  rw [rightF, h1, decide_eq_true h2]
  rfl

set_option maxRecDepth 100000 in
set_option maxHeartbeats 4000000 in
theorem xrcRight_any (A : Option Addr) (l : List Int) (n c : Nat) (w : World) (hn : l.length = n) (hr : Rd w A (zvs l)) (hl : n ≤ 140737488355328) :
    Calls Tryd.prog 64 #[.slice A n c] w fun e w' => e = .returned (.bool (rightF l)) ∧ Fr [] w w' := by
  have HN := Lib.hid hn
  clear hn
  go_enter Tryd.func64, Tryd.ntmps64
  go_wp2_with fail
  go_loopw [3] (fun i wr => ∃ k : Nat, k ≤ n ∧ i = .int .i64 k ∧ okT l k ∧ ∃ q, wr = w.drewN q) (fun i _ => n - (intOf i).toNat)
  case atStart => exact ⟨0, Nat.zero_le _, rfl, okT_zero l, 0, rfl⟩
  case round =>
    obtain ⟨k, hk, rfl, hok, q, rfl⟩ := hrel
    by_cases hlt : k < n
    · have hkl : k < l.length := by rw [HN.out]; exact hlt
      obtain ⟨g, o, rfl, hc⟩ := zint_at hr hkl
      have ck := hc k hkl
      have HC := Lib.hid hc
      have HB1 := Lib.hid (fun h => right_bad1 hkl h)
      have HB2 := Lib.hid (fun h => right_bad2 hkl h)
      have HOK := Lib.hid (fun h1 h2 => okT_succ hok hkl h1 h2)
      obtain ⟨x, hx⟩ : ∃ x, l[k] = x := ⟨_, rfl⟩
      rw [hx] at ck HB1 HB2 HOK
      have HX := Lib.hid hx
      clear hc hok hx
      by_cases h0 : x < 0
      · have H := Lib.hid (HB1.out (by simp [inP]; omega))
        go_wp2_with fail
        go_ret
        exact ⟨by rw [H.out]; rfl, (Fr.refl _ _).drewN _⟩
      · by_cases h1 : 4095 < x
        · have H := Lib.hid (HB1.out (by simp [inP]; omega))
          go_wp2_with fail
          go_ret
          exact ⟨by rw [H.out]; rfl, (Fr.refl _ _).drewN _⟩
        · have HP := Lib.hid (show inP x = true by simp [inP]; omega)
          have ck' : (w.drewN q).cell? ⟨g, o + k, none⟩ = some (.int .i64 x) := ck
          go_wp2_with fail
          go_loopw [4] (fun i wr => ∃ j : Nat, j ≤ k ∧ i = .int .i64 j ∧ (∀ t, t < j → l.getD t 0 ≠ x) ∧ ∃ q, wr = w.drewN q) (fun i _ => k - (intOf i).toNat)
          case atStart => exact ⟨0, Nat.zero_le _, rfl, fun t ht => absurd ht (by omega), q, rfl⟩
          case round =>
            obtain ⟨j, hj, rfl, hne, q2, rfl⟩ := hrel
            by_cases hjl : j < k
            · have hjl' : j < l.length := by omega
              have cj := HC.out j hjl'
              have hy : l.getD j 0 = l[j] := by simp [hjl']
              have HMEM := Lib.hid (show l[j] ∈ l.take k from by
                rw [List.mem_take_iff_getElem]
                exact ⟨j, by omega, rfl⟩)
              obtain ⟨y, hyy⟩ : ∃ y, l[j] = y := ⟨_, rfl⟩
              rw [hyy] at cj hy HMEM
              have HY := Lib.hid hy
              have HNE := Lib.hid hne
              clear hy hyy hne
              have Hjn : j < n := by omega
              have Hkn : k < n := hlt
              have cj' : (w.drewN q2).cell? ⟨g, o + j, none⟩ = some (.int .i64 y) := cj
              have ck2 : (w.drewN q2).cell? ⟨g, o + k, none⟩ = some (.int .i64 x) := ck
              by_cases hyx : y = x
              · have H := Lib.hid (HB2.out (by rw [← hyx]; exact HMEM.out))
                have HE := (show (y == x) = true by rw [hyx]; simp)
                clear HMEM
                go_wp2_with fail
                refine wp_region_held_drew (S := fun w' => w'.cell? ⟨g, o + j, none⟩ = some (.int .i64 y) ∧ w'.cell? ⟨g, o + k, none⟩ = some (.int .i64 x)) (by kernel_rfl) ⟨cj', ck2⟩ (fun hHeld => ?_)
                refine take_w 0 (some 28) (v := ?_) rfl rfl (by kernel_rfl) (by kernel_rfl) (by kernel_rfl) (fun _ _ _ h => h) (by rfl) ?_ hHeld ?_
                rotate_left
                · (intro w hSw; (try dsimp only at hSw); go_simp; try with_reducible rfl)
                simp only [Act.put, List.setIfInBounds_toArray, List.set_cons_zero, List.set_cons_succ]
                refine take_w 1 (some 29) (v := ?_) rfl rfl (by kernel_rfl) (by kernel_rfl) (by kernel_rfl) (fun _ _ _ h => h) (by rfl) ?_ hHeld ?_
                rotate_left
                · (intro w hSw; (try dsimp only at hSw); go_simp; try with_reducible rfl)
                simp only [Act.put, List.setIfInBounds_toArray, List.set_cons_zero, List.set_cons_succ]
                refine take_w 2 (some 30) (v := ?_) rfl rfl (by kernel_rfl) (by kernel_rfl) (by kernel_rfl) (fun _ _ _ h => h) (by rfl) ?_ hHeld ?_
                rotate_left
                · (intro w hSw; (try dsimp only at hSw); go_simp; try with_reducible rfl)
                simp only [Act.put, List.setIfInBounds_toArray, List.set_cons_zero, List.set_cons_succ]
                refine take_w 3 (some 31) (v := ?_) rfl rfl (by kernel_rfl) (by kernel_rfl) (by kernel_rfl) (fun _ _ _ h => h) (by rfl) ?_ hHeld ?_
                rotate_left
                · (intro w hSw; (try dsimp only at hSw); go_simp; try with_reducible rfl)
                simp only [Act.put, List.setIfInBounds_toArray, List.set_cons_zero, List.set_cons_succ]
                refine take_w 4 (some 32) (v := ?_) rfl rfl (by kernel_rfl) (by kernel_rfl) (by kernel_rfl) (fun _ _ _ h => h) (by rfl) ?_ hHeld ?_
                rotate_left
                · (intro w hSw; (try dsimp only at hSw); go_simp; try with_reducible rfl)
                simp only [Act.put, List.setIfInBounds_toArray, List.set_cons_zero, List.set_cons_succ]
                refine take_w 5 (some 33) (v := ?_) rfl rfl (by kernel_rfl) (by kernel_rfl) (by kernel_rfl) (fun _ _ _ h => h) (by rfl) ?_ hHeld ?_
                rotate_left
                · (intro w hSw; (try dsimp only at hSw); go_simp; try with_reducible rfl)
                simp only [Act.put, List.setIfInBounds_toArray, List.set_cons_zero, List.set_cons_succ]
                refine take_w 6 (some 34) (v := ?_) rfl rfl (by kernel_rfl) (by kernel_rfl) (by kernel_rfl) (fun _ _ _ h => h) (by rfl) ?_ hHeld ?_
                rotate_left
                · (intro w hSw; (try dsimp only at hSw); go_simp; try with_reducible rfl)
                simp only [Act.put, List.setIfInBounds_toArray, List.set_cons_zero, List.set_cons_succ]
                refine take_w 7 (some 35) (v := ?_) rfl rfl (by kernel_rfl) (by kernel_rfl) (by kernel_rfl) (fun _ _ _ h => h) (by rfl) ?_ hHeld ?_
                rotate_left
                · (intro w hSw; (try dsimp only at hSw); go_simp; try with_reducible rfl)
                simp only [Act.put, List.setIfInBounds_toArray, List.set_cons_zero, List.set_cons_succ]
                refine take_w 8 (some 36) (v := ?_) rfl rfl (by kernel_rfl) (by kernel_rfl) (by kernel_rfl) (fun _ _ _ h => h) (by rfl) ?_ hHeld ?_
                rotate_left
                · (intro w hSw; (try dsimp only at hSw); go_simp; try with_reducible rfl)
                simp only [Act.put, List.setIfInBounds_toArray, List.set_cons_zero, List.set_cons_succ]
                refine wpAnyH_done (by kernel_rfl) ?_ _
                go_wp2_with fail
                go_ret
                exact ⟨by rw [H.out]; rfl, (Fr.refl _ _).drewN (q2 + 1)⟩
              · have HE := (show (y == x) = false by rw [beq_eq_false_iff_ne]; exact hyx)
                clear HMEM
                go_wp2_with fail
                refine wp_region_held_drew (S := fun w' => w'.cell? ⟨g, o + j, none⟩ = some (.int .i64 y) ∧ w'.cell? ⟨g, o + k, none⟩ = some (.int .i64 x)) (by kernel_rfl) ⟨cj', ck2⟩ (fun hHeld => ?_)
                refine take_w 0 (some 28) (v := ?_) rfl rfl (by kernel_rfl) (by kernel_rfl) (by kernel_rfl) (fun _ _ _ h => h) (by rfl) ?_ hHeld ?_
                rotate_left
                · (intro w hSw; (try dsimp only at hSw); go_simp; try with_reducible rfl)
                simp only [Act.put, List.setIfInBounds_toArray, List.set_cons_zero, List.set_cons_succ]
                refine take_w 1 (some 29) (v := ?_) rfl rfl (by kernel_rfl) (by kernel_rfl) (by kernel_rfl) (fun _ _ _ h => h) (by rfl) ?_ hHeld ?_
                rotate_left
                · (intro w hSw; (try dsimp only at hSw); go_simp; try with_reducible rfl)
                simp only [Act.put, List.setIfInBounds_toArray, List.set_cons_zero, List.set_cons_succ]
                refine take_w 2 (some 30) (v := ?_) rfl rfl (by kernel_rfl) (by kernel_rfl) (by kernel_rfl) (fun _ _ _ h => h) (by rfl) ?_ hHeld ?_
                rotate_left
                · (intro w hSw; (try dsimp only at hSw); go_simp; try with_reducible rfl)
                simp only [Act.put, List.setIfInBounds_toArray, List.set_cons_zero, List.set_cons_succ]
                refine take_w 3 (some 31) (v := ?_) rfl rfl (by kernel_rfl) (by kernel_rfl) (by kernel_rfl) (fun _ _ _ h => h) (by rfl) ?_ hHeld ?_
                rotate_left
                · (intro w hSw; (try dsimp only at hSw); go_simp; try with_reducible rfl)
                simp only [Act.put, List.setIfInBounds_toArray, List.set_cons_zero, List.set_cons_succ]
                refine take_w 4 (some 32) (v := ?_) rfl rfl (by kernel_rfl) (by kernel_rfl) (by kernel_rfl) (fun _ _ _ h => h) (by rfl) ?_ hHeld ?_
                rotate_left
                · (intro w hSw; (try dsimp only at hSw); go_simp; try with_reducible rfl)
                simp only [Act.put, List.setIfInBounds_toArray, List.set_cons_zero, List.set_cons_succ]
                refine take_w 5 (some 33) (v := ?_) rfl rfl (by kernel_rfl) (by kernel_rfl) (by kernel_rfl) (fun _ _ _ h => h) (by rfl) ?_ hHeld ?_
                rotate_left
                · (intro w hSw; (try dsimp only at hSw); go_simp; try with_reducible rfl)
                simp only [Act.put, List.setIfInBounds_toArray, List.set_cons_zero, List.set_cons_succ]
                refine take_w 6 (some 34) (v := ?_) rfl rfl (by kernel_rfl) (by kernel_rfl) (by kernel_rfl) (fun _ _ _ h => h) (by rfl) ?_ hHeld ?_
                rotate_left
                · (intro w hSw; (try dsimp only at hSw); go_simp; try with_reducible rfl)
                simp only [Act.put, List.setIfInBounds_toArray, List.set_cons_zero, List.set_cons_succ]
                refine take_w 7 (some 35) (v := ?_) rfl rfl (by kernel_rfl) (by kernel_rfl) (by kernel_rfl) (fun _ _ _ h => h) (by rfl) ?_ hHeld ?_
                rotate_left
                · (intro w hSw; (try dsimp only at hSw); go_simp; try with_reducible rfl)
                simp only [Act.put, List.setIfInBounds_toArray, List.set_cons_zero, List.set_cons_succ]
                refine take_w 8 (some 36) (v := ?_) rfl rfl (by kernel_rfl) (by kernel_rfl) (by kernel_rfl) (fun _ _ _ h => h) (by rfl) ?_ hHeld ?_
                rotate_left
                · (intro w hSw; (try dsimp only at hSw); go_simp; try with_reducible rfl)
                simp only [Act.put, List.setIfInBounds_toArray, List.set_cons_zero, List.set_cons_succ]
                refine wpAnyH_done (by kernel_rfl) ?_ _
                go_wp2_with fail
                refine ⟨⟨j + 1, by omega, by go_num, fun t ht => ?_, q2 + 1, rfl⟩, by simp [intOf]; omega⟩
                by_cases htj : t = j
                · subst htj; rw [HY.out]; exact hyx
                · exact HNE.out t (by omega)
            · obtain rfl : j = k := by omega
              have hnm : x ∉ l.take j := by
                intro hm
                rw [List.mem_take_iff_getElem] at hm
                obtain ⟨t, ht, e⟩ := hm
                have htl : t < l.length := by omega
                have e2 : l.getD t 0 = l[t] := by simp [htl]
                exact hne t (by omega) (e2.trans e)
              have HO := Lib.hid (HOK.out HP.out hnm)
              clear hne hnm
              go_wp2_with fail
              exact ⟨⟨j + 1, by omega, by go_num, HO.out, q2, rfl⟩, by simp [intOf]; omega⟩
    · obtain rfl : k = n := by omega
      have he := right_end (by rw [HN.out]; exact hok)
      rw [HN.out] at he
      by_cases h1 : 1 ≤ k
      · by_cases h2 : k ≤ 64
        · have H := Lib.hid (show rightF l = true by rw [he]; simp [h1, h2])
          clear he hok
          have K1 : (1 : Int) ≤ (k : Int) := by omega
          have K2 : (k : Int) ≤ 64 := by omega
          go_wp2_with fail
          go_ret
          exact ⟨by rw [H.out]; rfl, (Fr.refl _ _).drewN _⟩
        · have H := Lib.hid (show rightF l = false by rw [he]; simp [h1, h2])
          clear he hok
          have K1 : (1 : Int) ≤ (k : Int) := by omega
          have K2 : ¬ ((k : Int) ≤ 64) := by omega
          go_wp2_with fail
          go_ret
          exact ⟨by rw [H.out]; rfl, (Fr.refl _ _).drewN _⟩
      · have H := Lib.hid (show rightF l = false by rw [he]; simp [h1])
        clear he hok
        have K1 : ¬ ((1 : Int) ≤ (k : Int)) := by omega
        go_wp2_with fail
        go_ret
        exact ⟨by rw [H.out]; rfl, (Fr.refl _ _).drewN _⟩
end Go.Proofs.YtlelgeigighecaaDoor
/-
  Layer 13 (record): right, with its map.
-/
set_option linter.unusedSimpArgs false
set_option linter.unusedVariables false
set_option linter.unnecessarySimpa false
namespace Go.Proofs.YtlelgeigighecaaDoor
open Go.RowKit Go.Maps

theorem lawInt : Keyed Tryd.prog 3 := int_keyed Tryd.underlying3
theorem zeroBool (w : World) : (zeroValue 4).run Tryd.prog w = .ok (.bool false) w := by kernel_rfl
theorem plainElem_bool_inv {H : Type} {P : Program} {e : TypeId} (he : P.underlying e = some .bool) {v : Value} {z : DataW H × List MemPlace} (h : plainElem P e v = some z) : ∃ x, v = .bool x ∧ z = (.lit (.bool x), []) := by
  unfold plainElem at h
  rw [he] at h
  cases v <;> simp at h
  exact ⟨_, rfl, h.symm⟩
theorem lookup_boolM {H : Type} {P : Program} {k t e : TypeId} {w : World} {b n : Nat} {D : DataW H} (h : w.ownsMap P k (plainElem P e) b n D) (K : Keyed P k) (ht : P.underlying t = some (.map k e)) (he : P.underlying e = some .bool) (hz : (zeroValue e).run P w = .ok (.bool false) w)
    {key : Value} {kl : Lit} (hkey : keyOf P k key = some kl) : ∃ c, (Instr.lookup t (.map (some b)) key false).run P w = .ok (.bool c) w ∧ D.atKey kl (.lit (.bool false)) = .lit (.bool c) := by
  obtain ⟨v, ps, hrun, hv⟩ := h.lookup K ht hz (plainElem_bool he false) hkey
  obtain ⟨c, rfl, hc⟩ := plainElem_bool_inv he hv
  simp only [Prod.mk.injEq] at hc
  exact ⟨c, hrun, hc.1⟩
/-- What the map holds behind k rounds. -/
def dT {H : Type} (l : List Int) : Nat → DataW H
  | 0 => .map []
  | k + 1 => (dT l k).put (.int .i64 (l.getD k 0)) (.lit (.bool true))
theorem dT_map {H : Type} (l : List Int) : ∀ k, IsMap (dT (H := H) l k)
  | 0 => isMap_empty
  | k + 1 => (dT_map l k).put _ _
theorem dT_at {H : Type} (l : List Int) (x : Int) : ∀ k, k ≤ l.length → (dT (H := H) l k).atKey (.int .i64 x) (.lit (.bool false)) = .lit (.bool (decide (x ∈ l.take k)))
  | 0, _ => by
    rw [List.take_zero]
    rfl
  | k + 1, hk => by
    have hkl : k < l.length := by omega
    have hg : l.getD k 0 = l[k] := by simp [hkl]
    rw [dT, List.take_succ_eq_append_getElem hkl]
    by_cases e : x = l[k]
    · rw [hg, ← e, atKey_put_same (k := .int .i64 x) (dT_map l k) trivial]
      rw [decide_eq_true (List.mem_append_right _ (List.mem_singleton.2 rfl))]
    · rw [atKey_put_other (by rw [hg]; intro h; injection h with _ h; exact e h), dT_at l x k (by omega)]
      simp only [List.mem_append, List.mem_singleton, e, or_false]
theorem grown_fr {w w' : World} {b : Nat} (h : w.grownBy w' (some b)) : Fr [b] w w' := ⟨h.os, h.tape, h.output, h.size, fun k hk hn => h.block k hk (by simp at hn; simpa using hn)⟩

set_option maxRecDepth 100000 in
set_option maxHeartbeats 4000000 in
theorem rcRight_any (A : Option Addr) (l : List Int) (n c : Nat) (w : World) (hn : l.length = n) (hr : Rd w A (zvs l)) (hw : ∀ x ∈ l, in64 x) (hl : n ≤ 140737488355328) :
    Calls Tryd.prog 61 #[.slice A n c] w fun e w' => e = .returned (.bool (rightF l)) ∧ Fr [] w w' := by
  have HN := Lib.hid hn
  have HW := Lib.hid hw
  clear hn hw
  have hmm := @run_makeMap Tryd.prog
  go_enter Tryd.func61, Tryd.ntmps61
  go_wp2_with fail
  go_loopw [9] (fun i wr => ∃ k : Nat, k ≤ n ∧ i = .int .i64 k ∧ okT l k ∧ wr.ownsMap Tryd.prog 3 (plainElem Tryd.prog 4) w.heap.size k (dT (H := Unit) l k) ∧ Fr [] w wr) (fun i _ => n - (intOf i).toNat)
  case atStart => exact ⟨0, Nat.zero_le _, rfl, okT_zero l, World.ownsMap_made _ _ _ _, (Fr.refl [] w).alloc _⟩
  case round =>
    obtain ⟨k, hk, rfl, hok, hown, F⟩ := hrel
    by_cases hlt : k < n
    · have hkl : k < l.length := by rw [HN.out]; exact hlt
      obtain ⟨g, o, rfl, hc⟩ := zint_at (hr.keep_nil F) hkl
      have ck := hc k hkl
      have hw64 := HW.out _ (List.getElem_mem hkl)
      have hgd : l.getD k 0 = l[k] := by simp [hkl]
      have HB1 := Lib.hid (fun h => right_bad1 hkl h)
      have HB2 := Lib.hid (fun h => right_bad2 hkl h)
      have HOK := Lib.hid (fun h1 h2 => okT_succ hok hkl h1 h2)
      have hdt := dT_at (H := Unit) l l[k] k (by omega)
      obtain ⟨x, hx⟩ : ∃ x, l[k] = x := ⟨_, rfl⟩
      rw [hx] at ck HB1 HB2 HOK hdt hw64 hgd
      have HX := Lib.hid hx
      have HGD := Lib.hid hgd
      clear hc hok hx hgd
      have wfx : (Lit.int .i64 x).wf = true := by
        unfold in64 at hw64
        simp [Lit.wf, IntKind.min, IntKind.max, IntKind.signed, IntKind.bits]
        omega
      have hkey : keyOf Tryd.prog 3 (.int .i64 x) = some (.int .i64 x) := keyOf_int_mk Tryd.underlying3 wfx
      have HKEY := Lib.hid hkey
      clear hkey wfx
      by_cases h0 : x < 0
      · have H := Lib.hid (HB1.out (by simp [inP]; omega))
        clear hdt
        go_wp2_with fail
        go_ret
        exact ⟨by rw [H.out]; rfl, F⟩
      · by_cases h1 : 4096 ≤ x
        · have H := Lib.hid (HB1.out (by simp [inP]; omega))
          clear hdt
          go_wp2_with fail
          go_ret
          exact ⟨by rw [H.out]; rfl, F⟩
        · have HP := Lib.hid (show inP x = true by simp [inP]; omega)
          obtain ⟨b, hrun, hat⟩ := lookup_boolM hown lawInt Tryd.underlying109 Tryd.underlying4 (zeroBool _) HKEY.out
          rw [hdt] at hat
          have hb : b = decide (x ∈ l.take k) := by
            have := (DataW.lit.inj hat)
            injection this with this
            exact this.symm
          have HBB := Lib.hid hb
          clear hat hdt hb
          cases b
          · have hnm : x ∉ l.take k := fun h => by have := HBB.out; simp [h] at this
            have HO := Lib.hid (HOK.out HP.out hnm)
            clear hnm
            go_wp2_with
              (first
                | (at_mapUpdate; refine wpList_mapUpdate_own _ rfl _ _ _ 109 rfl 3 4 lawInt Tryd.underlying109 _ w.heap.size k _ rfl hown (by unfold maxLen; omega) _ _ _ rfl rfl HKEY.out _ [] (plainElem_bool Tryd.underlying4 true) ?_; intro w1 hown1 hgrow1))
            refine ⟨⟨k + 1, by omega, by go_num, HO.out, ?_, F.trans (grown_fr hgrow1) (fun i hi => .inr (by simp at hi; omega))⟩, by simp [intOf]; omega⟩
            rw [dT, HGD.out]
            exact hown1
          · have hm : x ∈ l.take k := by have := HBB.out; simpa using this.symm
            have H := Lib.hid (HB2.out hm)
            clear hm
            go_wp2_with fail
            go_ret
            exact ⟨by rw [H.out]; rfl, F⟩
    · obtain rfl : k = n := by omega
      have he := right_end (by rw [HN.out]; exact hok)
      rw [HN.out] at he
      clear hown
      by_cases h1 : 1 ≤ k
      · by_cases h2 : k ≤ 64
        · have H := Lib.hid (show rightF l = true by rw [he]; simp [h1, h2])
          clear he hok
          have K1 : (1 : Int) ≤ (k : Int) := by omega
          have K2 : (k : Int) ≤ 64 := by omega
          go_wp2_with fail
          go_ret
          exact ⟨by rw [H.out]; rfl, F⟩
        · have H := Lib.hid (show rightF l = false by rw [he]; simp [h1, h2])
          clear he hok
          have K1 : (1 : Int) ≤ (k : Int) := by omega
          have K2 : ¬ ((k : Int) ≤ 64) := by omega
          go_wp2_with fail
          go_ret
          exact ⟨by rw [H.out]; rfl, F⟩
      · have H := Lib.hid (show rightF l = false by rw [he]; simp [h1])
        clear he hok
        have K1 : ¬ ((1 : Int) ≤ (k : Int)) := by omega
        go_wp2_with fail
        go_ret
        exact ⟨by rw [H.out]; rfl, F⟩
end Go.Proofs.YtlelgeigighecaaDoor
/-
  Layer 13 (record): plan and its closures.
-/
set_option linter.unusedSimpArgs false
set_option linter.unusedVariables false
set_option linter.unnecessarySimpa false
namespace Go.Proofs.YtlelgeigighecaaDoor
open Go.RowKit

theorem Row.ne_rowR {w : World} {b1 b2 : Nat} {e1 e2 : TypeId} {s1 s2 : Nat} {v1 v2 : Value} {n1 n2 : Nat} {x1 x2 : List Value} (h1 : Row w b1 e1 s1 v1 n1 x1) (h2 : Row w b2 e2 s2 v2 n2 x2) (hne : e1 ≠ e2) : ∀ g, v1.ownBlock = some g → v2.ownBlock ≠ some g := by
  intro g hg hg2
  rcases h1.2 with ⟨rfl, _⟩ | ⟨g1, c1, u1, z1, rfl, _, k1, _⟩
  · cases hg
  · rcases h2.2 with ⟨rfl, _⟩ | ⟨g2, c2, u2, z2, rfl, _, k2, _⟩
    · cases hg2
    · have a1 : g1 = g := by simpa [Value.ownBlock] using hg
      have a2 : g2 = g := by simpa [Value.ownBlock] using hg2
      subst a1 a2
      rw [k1] at k2
      injection k2 with k2
      injection k2 with _ k2
      exact hne k2
theorem WPost.rowk {w w' : World} {p B size : Nat} {v : Value} {bad : Bool} {l q : List UInt8} (h : WPost w w' p B v size q) (h0 : Wrt w p B v size bad l) {Bp s n : Nat} {e : TypeId} {vr : Value} {xs : List Value} (hr : Row w Bp e s vr n xs) (h1 : 97 ≠ e) (h2 : e ≠ 5) : Row w' Bp e s vr n xs := by
  obtain ⟨v', a, f, b⟩ := h
  refine hr.keep f (fun g hg hm => ?_)
  rcases List.mem_cons.1 hm with e | hm
  · exact (hr.ne_blk h0.1 h1) (by rw [hg, e])
  · exact (hr.ne_rowR h0.2.1 h2 g hg) (mem_own.1 hm)

def encI (l : List Int) : List UInt8 := l.flatMap fun x => leB 4 x.toNat
theorem encI_len (l : List Int) : (encI l).length = 4 * l.length := by
  induction l with
  | nil => rfl
  | cons x r ih => rw [encI, List.flatMap_cons, List.length_append, leB_length, List.length_cons, ← encI, ih]; omega
theorem encI_succ (l : List Int) (k : Nat) (h : k < l.length) : encI (l.take (k + 1)) = encI (l.take k) ++ leB 4 l[k].toNat := by
  rw [List.take_succ_eq_append_getElem h, encI, List.flatMap_append]
  simp [encI]

set_option maxHeartbeats 1000000 in
theorem rcplan11_ok {w : World} {p B : Nat} {v : Value} {q : List UInt8} (h : Wrt w p B v 512 false q) (k : Nat) (hk : k < 4096) (hq : q.length + 4 ≤ 512) :
    Calls Tryd.prog 90 #[.pointer (some ⟨p, 0, none⟩), .int .i64 (k : Int)] w fun e w' => e = .returned (.tuple #[]) ∧ WPost w w' p B v 512 (q ++ leB 4 k) := by
  have U : IntKind.u64.wrap (k : Int) = k := by rw [IntKind.wrap_u64]; omega
  go_enter Tryd.func90, Tryd.ntmps90
  go_wp2_with fail
  refine (wUint_ok h 4 k rfl (by omega) (by omega) (by omega)).mono ?_
  rintro e w1 ⟨rfl, x1⟩
  go_wp2_with fail
  go_returns
  exact ⟨rfl, x1⟩

set_option maxRecDepth 100000 in
set_option maxHeartbeats 2000000 in
theorem putI_ok {w : World} {p B Bp n c : Nat} {v : Value} {q : List UInt8} {A : Option Addr} {l : List Int} (h : Wrt w p B v 512 false q) (hr : Row w Bp 3 1 (.slice A n c) n (zvs l)) (hl : ∀ x ∈ l, 0 ≤ x ∧ x < 4096) (hq : q.length + 4 * n ≤ 512) :
    Calls Tryd.prog 89 #[.pointer (some ⟨p, 0, none⟩), .slice A n c, .func (.func 90) #[] #[]] w fun e w' => e = .returned (.tuple #[]) ∧ WPost w w' p B v 512 (q ++ encI l) := by
  have hn : l.length = n := by have := hr.1; rw [zvs_len, Nat.mul_one] at this; exact this
  have HN := Lib.hid hn
  clear hn
  go_enter Tryd.func89, Tryd.ntmps89
  go_wp2_with fail
  go_loopw [10] (fun i wr => ∃ k : Nat, k ≤ n ∧ i = .int .i64 k ∧ WPost w wr p B v 512 (q ++ encI (l.take k))) (fun i _ => n - (intOf i).toNat)
  case atStart => exact ⟨0, Nat.zero_le _, rfl, v, by rw [List.take_zero, show encI [] = [] from rfl, List.append_nil]; exact h, Fr.refl _ _, fun g hg => .inl hg⟩
  case round =>
    obtain ⟨k, hk, rfl, hW⟩ := hrel
    by_cases hlt : k < n
    · have hkl : k < l.length := by rw [HN.out]; exact hlt
      have hr2 := hW.rowk h hr (by decide) (by decide)
      obtain ⟨g, o, rfl, hc⟩ := zint_at hr2.rd.1 hkl
      have ck := hc k hkl
      have hx2 := hl _ (List.getElem_mem hkl)
      have hen := encI_succ l k hkl
      have hlen : (q ++ encI (l.take k)).length = q.length + 4 * k := by rw [List.length_append, encI_len, List.length_take, Nat.min_eq_left (by omega)]
      obtain ⟨x, hx⟩ : ∃ x : Nat, l[k] = x := ⟨l[k].toNat, by omega⟩
      rw [hx] at ck hx2 hen
      rw [Int.toNat_natCast] at hen
      obtain ⟨q1, hq1⟩ : ∃ q1, q ++ encI (l.take k) = q1 := ⟨_, rfl⟩
      rw [hq1] at hW hlen
      have HQ := Lib.hid (show q ++ encI (l.take (k + 1)) = q1 ++ leB 4 x by rw [hen, ← List.append_assoc, hq1])
      obtain ⟨v1, h1, f1, g1⟩ := hW
      have hx4 : x < 4096 := by omega
      clear hc hx hen hq1 hr2 hx2
      go_wp2_with fail
      refine (rcplan11_ok h1 x hx4 (by omega)).mono ?_
      rintro e w2 ⟨rfl, x2⟩
      have y2 := WPost.trans f1 g1 x2
      go_wp2_with fail
      exact ⟨⟨k + 1, by omega, by go_num, by rw [HQ.out]; exact y2⟩, by simp [intOf]; omega⟩
    · obtain rfl : k = n := by omega
      rw [List.take_of_length_le (by rw [HN.out]; exact Nat.le_refl _)] at hW
      go_wp2_with fail
      go_returns
      exact ⟨rfl, hW⟩

def planR (n : Nat) (l : List Int) (t : Nat) : List UInt8 := planM ++ leB 8 n ++ leB 2 l.length ++ leB 8 t ++ encI l
theorem planR_len (n : Nat) (l : List Int) (t : Nat) : (planR n l t).length = 22 + 4 * l.length := by
  simp only [planR, List.length_append, leB_length, encI_len]
  show 4 + 8 + 2 + 8 + _ = _
  omega
def planB (n : Nat) (l : List Int) (t : Nat) : List UInt8 := pad512 (planR n l t)

set_option maxRecDepth 100000 in
set_option maxHeartbeats 2000000 in
theorem rcplan1_ok {w : World} {p B Bp g d f m t n c : Nat} {v : Value} {A : Option Addr} {l : List Int} (h : Wrt w p B v 512 false []) (hg : Blk w g 22 #[.int .u64 (m : Int)]) (hm : m < 18446744073709551616) (hd : Blk w d 32 #[.slice A n c]) (hf : Blk w f 22 #[.int .u64 (t : Int)]) (ht : t < 18446744073709551616)
    (hr : Row w Bp 3 1 (.slice A n c) n (zvs l)) (hl : ∀ x ∈ l, 0 ≤ x ∧ x < 4096) (hn64 : n ≤ 64) :
    Calls Tryd.prog 88 #[.pointer (some ⟨p, 0, none⟩), .pointer (some ⟨g, 0, none⟩), .pointer (some ⟨d, 0, none⟩), .pointer (some ⟨f, 0, none⟩)] w fun e w' => e = .returned (.tuple #[]) ∧ WPost w w' p B v 512 (planR m l t) := by
  have hn : l.length = n := by have := hr.1; rw [zvs_len, Nat.mul_one] at this; exact this
  have HN := Lib.hid hn
  have U : IntKind.u64.wrap (n : Int) = n := by rw [IntKind.wrap_u64]; omega
  have kc := fun (w : World) (C : Array Value) (n c : Nat) => Lib.run_convert_bytes_const (P := Tryd.prog) w 28 5 C n c Tryd.underlying28 Tryd.underlying5
  clear hn
  go_enter Tryd.func88, Tryd.ntmps88
  go_wp2_with fail
  have ra := Rd.mark w planM 5 (4, 5)
  have fa : Fr [] w (w.alloc (.cells (bvs planM).toArray 5 (4, 5))) := (Fr.refl _ _).alloc _
  refine (wBytes_ok (h.keep_nil fa) _ 4 4 planM rfl ra (by simp) (fun g o e _ => by cases e; have := h.lt; omega) (by simp)).mono ?_
  rintro e w1 ⟨rfl, x1⟩
  have b1 := x1.blk (h.keep_nil fa) (hg.keep_nil fa) (by decide) (by decide)
  have d1 := x1.blk (h.keep_nil fa) (hd.keep_nil fa) (by decide) (by decide)
  have t1 := x1.blk (h.keep_nil fa) (hf.keep_nil fa) (by decide) (by decide)
  have r1 := x1.rowk (h.keep_nil fa) (hr.keep_nil fa) (by decide) (by decide)
  obtain ⟨v1, h1, f1, g1⟩ := WPost.trans (fa.mono (by simp)) (fun g hg => .inl hg) x1
  clear ra fa x1 hg hd hf hr kc
  rw [List.nil_append] at h1
  have c0 := b1.cell 0
  simp at c0
  go_wp2_with fail
  refine (wUint_ok h1 8 m rfl hm (by omega) (by rw [show planM.length = 4 from rfl]; omega)).mono ?_
  rintro e w2 ⟨rfl, x2⟩
  have d2 := x2.blk h1 d1 (by decide) (by decide)
  have t2 := x2.blk h1 t1 (by decide) (by decide)
  have r2 := x2.rowk h1 r1 (by decide) (by decide)
  obtain ⟨v2, h2, f2, g2⟩ := WPost.trans f1 g1 x2
  have L2 : (planM ++ leB 8 m).length = 12 := by rw [List.length_append, leB_length]; rfl
  clear x2 b1 d1 t1 r1 c0 f1 g1 h1
  have c0 := d2.cell 0
  simp at c0
  go_wp2_with fail
  refine (wUint_ok h2 2 n rfl (by omega) (by omega) (by rw [L2]; omega)).mono ?_
  rintro e w3 ⟨rfl, x3⟩
  have d3 := x3.blk h2 d2 (by decide) (by decide)
  have t3 := x3.blk h2 t2 (by decide) (by decide)
  have r3 := x3.rowk h2 r2 (by decide) (by decide)
  obtain ⟨v3, h3, f3, g3⟩ := WPost.trans f2 g2 x3
  have L3 : (planM ++ leB 8 m ++ leB 2 n).length = 14 := by rw [List.length_append, leB_length, L2]
  clear x3 d2 t2 r2 c0 f2 g2 h2 L2
  have c0 := t3.cell 0
  simp at c0
  go_wp2_with fail
  refine (wUint_ok h3 8 t rfl ht (by omega) (by rw [L3]; omega)).mono ?_
  rintro e w4 ⟨rfl, x4⟩
  have d4 := x4.blk h3 d3 (by decide) (by decide)
  have r4 := x4.rowk h3 r3 (by decide) (by decide)
  obtain ⟨v4, h4, f4, g4⟩ := WPost.trans f3 g3 x4
  have L4 : (planM ++ leB 8 m ++ leB 2 n ++ leB 8 t).length = 22 := by rw [List.length_append, leB_length, L3]
  clear x4 d3 t3 r3 c0 f3 g3 h3 L3
  have c0 := d4.cell 0
  simp at c0
  go_wp2_with fail
  refine (putI_ok h4 r4 hl (by rw [L4]; omega)).mono ?_
  rintro e w5 ⟨rfl, x5⟩
  have y5 := WPost.trans f4 g4 x5
  go_wp2_with fail
  go_returns
  refine ⟨rfl, ?_⟩
  rw [planR, HN.out]
  exact y5

set_option maxRecDepth 100000 in
set_option maxHeartbeats 2000000 in
theorem rcplan_any {w : World} {Bp n c m t : Nat} {A : Option Addr} {l : List Int} (hm : m < 18446744073709551616) (ht : t < 18446744073709551616) (hr : Row w Bp 3 1 (.slice A n c) n (zvs l)) (hl : ∀ x ∈ l, 0 ≤ x ∧ x < 4096) (hn64 : n ≤ 64) :
    Calls Tryd.prog 62 #[.int .u64 (m : Int), .slice A n c, .int .u64 (t : Int)] w fun e w' => ∃ r, e = .returned r ∧ Row w' w.heap.size 5 1 r 512 (bvs (planB m l t)) ∧ Fr [] w w' := by
  have hn : l.length = n := by have := hr.1; rw [zvs_len, Nat.mul_one] at this; exact this
  go_enter Tryd.func62, Tryd.ntmps62
  go_upto_region 1 with fail
  have b1 : Blk (w.alloc (.cells #[.int .u64 (m : Int)] 22)) w.heap.size 22 #[.int .u64 (m : Int)] := Blk.new _ _ _
  have s1 : (w.alloc (.cells #[.int .u64 (m : Int)] 22)).heap.size = w.heap.size + 1 := by simp
  have f1 : Fr [] w (w.alloc (.cells #[.int .u64 (m : Int)] 22)) := (Fr.refl _ _).alloc _
  generalize w.alloc (.cells #[.int .u64 (m : Int)] 22) = w1 at *
  have b2 : Blk (w1.alloc (.cells #[.slice A n c] 32)) (w.heap.size + 1) 32 #[.slice A n c] := by rw [← s1]; exact Blk.new _ _ _
  have s2 : (w1.alloc (.cells #[.slice A n c] 32)).heap.size = w.heap.size + 1 + 1 := by simp [s1]
  have f2 : Fr [] w1 (w1.alloc (.cells #[.slice A n c] 32)) := (Fr.refl _ _).alloc _
  generalize w1.alloc (.cells #[.slice A n c] 32) = w2 at *
  have b3 : Blk (w2.alloc (.cells #[.int .u64 (t : Int)] 22)) (w.heap.size + 1 + 1) 22 #[.int .u64 (t : Int)] := by rw [← s2]; exact Blk.new _ _ _
  have f3 : Fr [] w2 (w2.alloc (.cells #[.int .u64 (t : Int)] 22)) := (Fr.refl _ _).alloc _
  generalize w2.alloc (.cells #[.int .u64 (t : Int)] 22) = w3 at *
  have F3 := (f1.trans_nil f2).trans_nil f3
  have d1 := (b1.keep_nil f2).keep_nil f3
  have d2 := b2.keep_nil f3
  have r3 := hr.keep_nil F3
  clear b1 b2 s1 s2 f1 f2 f3
  go_wp2_with fail
  refine (rcBlock_rcplan1 w3 w.heap.size (w.heap.size + 1) (w.heap.size + 1 + 1) (planR m l t) (by rw [planR_len, hn]; omega) (fun wx p B v f _ _ h => rcplan1_ok h (d1.keep_nil f) hm (d2.keep_nil f) (b3.keep_nil f) ht (r3.keep_nil f) hl hn64)).mono ?_
  rintro e w4 ⟨r, rfl, r4, f4⟩
  go_wp2_with fail
  go_ret
  exact ⟨r, rfl, r4.mono F3.size, F3.trans_nil f4⟩
end Go.Proofs.YtlelgeigighecaaDoor
/-
  Layer 13 (record): the reference's plan; seal and the reference's done.
-/
set_option linter.unusedSimpArgs false
set_option linter.unusedVariables false
set_option linter.unnecessarySimpa false
namespace Go.Proofs.YtlelgeigighecaaDoor
open Go.RowKit

set_option maxRecDepth 100000 in
set_option maxHeartbeats 2000000 in
theorem xrcplan_any {w : World} {n c m t : Nat} {A : Option Addr} {l : List Int} (hm : m < 18446744073709551616) (ht : t < 18446744073709551616) (hn : l.length = n) (hr : Rd w A (zvs l)) (hl : ∀ x ∈ l, 0 ≤ x ∧ x < 4096) (hn64 : n ≤ 64) :
    Calls Tryd.prog 67 #[.int .u64 (m : Int), .slice A n c, .int .u64 (t : Int)] w fun e w' => ∃ r, e = .returned r ∧ Row w' w.heap.size 5 1 r 512 (bvs (planB m l t)) ∧ Fr [] w w' := by
  have HN := Lib.hid hn
  clear hn
  have U : IntKind.u64.wrap (n : Int) = n := by rw [IntKind.wrap_u64]; omega
  have kc := fun (w : World) (C : Array Value) (n c : Nat) => Lib.run_convert_bytes_const (P := Tryd.prog) w 28 5 C n c Tryd.underlying28 Tryd.underlying5
  have F : Fr [] w (w.alloc (.cells (bvs planM).toArray 5 (4, 5))) := (Fr.refl _ _).alloc _
  have R := Row.new w (bvs planM).toArray 5 1 4 (4, 5) (free_end _ _) (by unfold maxLen; omega) rfl (Nat.le_refl _)
  go_enter Tryd.func67, Tryd.ntmps67
  go_wp2_with fail
  refine (xrcNumber_any 8 m _ (by omega) hm).mono ?_
  rintro e wn ⟨v, rfl, rn, f⟩
  obtain ⟨An, capn, rfl, -, -, -, -, -⟩ := rn.shape
  replace R := R.keep_nil f
  replace F := F.trans_nil f
  clear f
  clear kc
  go_wp2_with
    (first
      |
        (at_builtin; refine wpList_app rfl rfl slB w.heap.size _ 4 (bvs planM) rfl R _ 8 capn (bvs (leB 8 m)) rfl (by rw [bvs_length, leB_length]) rn.rd.1 (bvs_one _) rn.rd.2.2 (by omega) F.size ?_; intro va wa q1 q2 q3 q4)
    )
  replace F := F.trans q2 (fun k hk => .inr (R.lt k (mem_own.1 hk)).1)
  rw [← bvs_append, show 4 + 8 = 12 from rfl] at q1
  obtain ⟨Aa, capa, rfl, -, -, -, -, -⟩ := q1.shape
  clear R q2 q3 q4 rn
  have R := q1
  clear q1
  refine (xrcNumber_any 2 n _ (by omega) (by omega)).mono ?_
  rintro e wn ⟨v, rfl, rn, f⟩
  obtain ⟨An, capn, rfl, -, -, -, -, -⟩ := rn.shape
  replace R := R.keep_nil f
  replace F := F.trans_nil f
  clear f
  go_wp2_with
    (first
      |
        (at_builtin; refine wpList_app rfl rfl slB w.heap.size _ 12 (bvs (planM ++ leB 8 m)) rfl R _ 2 capn (bvs (leB 2 n)) rfl (by rw [bvs_length, leB_length]) rn.rd.1 (bvs_one _) rn.rd.2.2 (by omega) F.size ?_; intro va wa q1 q2 q3 q4)
    )
  replace F := F.trans q2 (fun k hk => .inr (R.lt k (mem_own.1 hk)).1)
  rw [← bvs_append, show 12 + 2 = 14 from rfl] at q1
  obtain ⟨Aa, capa, rfl, -, -, -, -, -⟩ := q1.shape
  clear R q2 q3 q4 rn
  have R := q1
  clear q1
  refine (xrcNumber_any 8 t _ (by omega) ht).mono ?_
  rintro e wn ⟨v, rfl, rn, f⟩
  obtain ⟨An, capn, rfl, -, -, -, -, -⟩ := rn.shape
  replace R := R.keep_nil f
  replace F := F.trans_nil f
  clear f
  go_wp2_with
    (first
      |
        (at_builtin; refine wpList_app rfl rfl slB w.heap.size _ 14 (bvs (planM ++ leB 8 m ++ leB 2 n)) rfl R _ 8 capn (bvs (leB 8 t)) rfl (by rw [bvs_length, leB_length]) rn.rd.1 (bvs_one _) rn.rd.2.2 (by omega) F.size ?_; intro va wa q1 q2 q3 q4)
    )
  replace F := F.trans q2 (fun k hk => .inr (R.lt k (mem_own.1 hk)).1)
  rw [← bvs_append, show 14 + 8 = 22 from rfl] at q1
  obtain ⟨Aa, capa, rfl, -, -, -, -, -⟩ := q1.shape
  clear R q2 q3 q4 rn
  have R := q1
  clear q1
  obtain ⟨q, hq⟩ : ∃ q, planM ++ leB 8 m ++ leB 2 n ++ leB 8 t = q := ⟨_, rfl⟩
  rw [hq] at R
  have HQ := Lib.hid (show planR m l t = q ++ encI l by rw [planR, HN.out, hq])
  clear hq
  go_loopw [7, 8] (fun v i wr => ∃ k : Nat, k ≤ n ∧ i = .int .i64 k ∧ Row wr w.heap.size 5 1 v (22 + 4 * k) (bvs (q ++ encI (l.take k))) ∧ Fr [] w wr) (fun _ i _ => n - (intOf i).toNat)
  case atStart => exact ⟨0, Nat.zero_le _, rfl, by rw [List.take_zero, show encI [] = [] from rfl, List.append_nil]; exact R, F⟩
  case round =>
    clear R F
    obtain ⟨k, hk, rfl, R, F⟩ := hrel
    obtain ⟨A4, cap4, rfl, -, -, -, -, -⟩ := R.shape
    by_cases hlt : k < n
    · have hkl : k < l.length := by rw [HN.out]; exact hlt
      obtain ⟨g, o, rfl, hc⟩ := zint_at (hr.keep_nil F) hkl
      have ck := hc k hkl
      have hx2 := hl _ (List.getElem_mem hkl)
      have hen := encI_succ l k hkl
      obtain ⟨x, hx⟩ : ∃ x : Nat, l[k] = x := ⟨l[k].toNat, by omega⟩
      rw [hx] at ck hx2 hen
      rw [Int.toNat_natCast] at hen
      have HEN := Lib.hid hen
      have hx4 : x < 4096 := by omega
      have Ux : IntKind.u64.wrap (x : Int) = x := by rw [IntKind.wrap_u64]; omega
      clear hc hx hen hx2
      go_wp2_with fail
      refine (xrcNumber_any 4 x _ (by omega) (by omega)).mono ?_
      rintro e wn ⟨v, rfl, rn, f⟩
      obtain ⟨An, capn, rfl, -, -, -, -, -⟩ := rn.shape
      replace R := R.keep_nil f
      replace F := F.trans_nil f
      clear f
      go_wp2_with
        (first
          |
            (at_builtin; refine wpList_app rfl rfl slB w.heap.size _ (22 + 4 * k) (bvs (q ++ encI (l.take k))) rfl R _ 4 capn (bvs (leB 4 x)) rfl (by rw [bvs_length, leB_length]) rn.rd.1 (bvs_one _) rn.rd.2.2 (by omega) F.size ?_; intro va wa q1 q2 q3 q4)
        )
      have F2 := F.trans q2 (fun k hk => .inr (R.lt k (mem_own.1 hk)).1)
      rw [← bvs_append, List.append_assoc, ← HEN.out] at q1
      exact ⟨⟨k + 1, by omega, by go_num, q1, F2⟩, by simp [intOf]; omega⟩
    · obtain rfl : k = n := by omega
      rw [List.take_of_length_le (by rw [HN.out]; exact Nat.le_refl _)] at R
      rw [← HQ.out] at R
      have hpl : (planR m l t).length = 22 + 4 * k := by rw [planR_len, HN.out]
      have HPL := Lib.hid hpl
      clear hpl
      go_wp2_with fail
      refine (xrcFill_any HPL.out R (by omega) F.size).mono ?_
      rintro e w9 ⟨r, rfl, r9, f9⟩
      obtain ⟨A9, cap9, rfl, -, -, -, -, -⟩ := r9.shape
      go_wp2_with fail
      go_ret
      exact ⟨_, rfl, r9, F.trans f9 (fun k hk => .inr (R.lt k (mem_own.1 hk)).1)⟩

/-- A slice of bytes that reads so. -/
def SlB (w : World) (v : Value) (l : List UInt8) : Prop := ∃ A c, v = .slice A l.length c ∧ Rd w A (bvs l) ∧ (A = none → l.length = 0) ∧ l.length ≤ c
theorem SlB.keep_nil {w w' : World} {v : Value} {l : List UInt8} (h : SlB w v l) (f : Fr [] w w') : SlB w' v l := by
  obtain ⟨A, c, h1, h2, h3⟩ := h
  exact ⟨A, c, h1, h2.keep_nil f, h3⟩
theorem SlB.one {w : World} {v : Value} {l : List UInt8} (h : SlB w v l) : v.oneCell' = true := by obtain ⟨A, c, rfl, _⟩ := h; rfl
/-- Slices of bytes that lie one behind the other. -/
structure BRd (w : World) (A : Option Addr) (vs : List Value) (bs : List (List UInt8)) : Prop where
  rd : Rd w A vs
  len : vs.length = bs.length
  each : ∀ i (h : i < vs.length) (h' : i < bs.length), SlB w vs[i] bs[i]
theorem BRd.keep_nil {w w' : World} {A : Option Addr} {vs : List Value} {bs : List (List UInt8)} (h : BRd w A vs bs) (f : Fr [] w w') : BRd w' A vs bs :=
  ⟨h.rd.keep_nil f, h.len, fun i h1 h2 => (h.each i h1 h2).keep_nil f⟩

def doneR (n : Nat) (all : List UInt8) : List UInt8 := doneM ++ leB 8 n ++ shaSum all
theorem doneR_len (n : Nat) (all : List UInt8) : (doneR n all).length = 44 := by
  rw [doneR, List.length_append, List.length_append, leB_length, shaSum_length]; rfl
def doneB (n : Nat) (all : List UInt8) : List UInt8 := pad512 (doneR n all)
theorem doneB_len (n : Nat) (all : List UInt8) : (doneB n all).length = 512 := pad512_len (by rw [doneR_len]; omega)

set_option maxRecDepth 100000 in
set_option maxHeartbeats 2000000 in
theorem rcSeal1_ok {w : World} {p B g d m : Nat} {v : Value} {D : List UInt8} (h : Wrt w p B v 512 false []) (hm : m < 18446744073709551616) (hg : Blk w g 22 #[.int .u64 (m : Int)]) (hd : Blk w d 70 (bvs D).toArray) (hD : D.length = 32) :
    Calls Tryd.prog 91 #[.pointer (some ⟨p, 0, none⟩), .pointer (some ⟨g, 0, none⟩), .pointer (some ⟨d, 0, none⟩)] w fun e w' => e = .returned (.tuple #[]) ∧ WPost w w' p B v 512 (doneM ++ leB 8 m ++ D) := by
  have HD := Lib.hid hD
  clear hD
  have kc := fun (w : World) (C : Array Value) (n c : Nat) => Lib.run_convert_bytes_const (P := Tryd.prog) w 28 5 C n c Tryd.underlying28 Tryd.underlying5
  go_enter Tryd.func91, Tryd.ntmps91
  go_wp2_with fail
  have ra := Rd.mark w doneM 5 (4, 5)
  have fa : Fr [] w (w.alloc (.cells (bvs doneM).toArray 5 (4, 5))) := (Fr.refl _ _).alloc _
  refine (wBytes_ok (h.keep_nil fa) _ 4 4 doneM rfl ra (by simp) (fun g o e _ => by cases e; have := h.lt; omega) (by simp)).mono ?_
  rintro e w1 ⟨rfl, x1⟩
  have b1 := x1.blk (h.keep_nil fa) (hg.keep_nil fa) (by decide) (by decide)
  have d1 := x1.blk (h.keep_nil fa) (hd.keep_nil fa) (by decide) (by decide)
  obtain ⟨v1, h1, f1, g1⟩ := WPost.trans (fa.mono (by simp)) (fun g hg => .inl hg) x1
  clear ra fa x1 hg kc
  rw [List.nil_append] at h1
  have c0 := b1.cell 0
  simp at c0
  go_wp2_with fail
  refine (wUint_ok h1 8 m rfl hm (by omega) (by rw [show doneM.length = 4 from rfl]; omega)).mono ?_
  rintro e w2 ⟨rfl, x2⟩
  have d2 := x2.blk h1 d1 (by decide) (by decide)
  obtain ⟨v2, h2, f2, g2⟩ := WPost.trans f1 g1 x2
  have hpd : p ≠ d := fun e => (d2.ne_ h2.1 (by decide)) e.symm
  go_wp2_with fail
  refine (wBytes_ok h2 _ 32 32 D HD.out (Rd.ofBm d2) (by simp) (fun g o e _ => by cases e; exact hpd.symm) (by rw [List.length_append, leB_length, show doneM.length = 4 from rfl]; omega)).mono ?_
  rintro e w3 ⟨rfl, x3⟩
  have y3 := WPost.trans f2 g2 x3
  go_wp2_with fail
  go_returns
  exact ⟨rfl, y3⟩
end Go.Proofs.YtlelgeigighecaaDoor
/-
  Layer 13 (record): seal; the reference's done.
-/
set_option linter.unusedSimpArgs false
set_option linter.unusedVariables false
set_option linter.unnecessarySimpa false
namespace Go.Proofs.YtlelgeigighecaaDoor
open Go.RowKit

theorem flat_take_succ (bs : List (List UInt8)) (k : Nat) (h : k < bs.length) : (bs.take (k + 1)).flatten = (bs.take k).flatten ++ bs[k] := by
  rw [List.take_succ_eq_append_getElem h, List.flatten_append]
  simp
theorem flat_take_le (bs : List (List UInt8)) (k : Nat) : ((bs.take k).flatten).length ≤ bs.flatten.length := by
  conv => rhs; rw [← List.take_append_drop k bs, List.flatten_append, List.length_append]
  omega

set_option maxRecDepth 100000 in
set_option maxHeartbeats 4000000 in
theorem rcSeal_any {w : World} {n c m : Nat} {A : Option Addr} {vs : List Value} {bs : List (List UInt8)} (hm : m < 18446744073709551616) (hn : bs.length = n) (hr : BRd w A vs bs) (hb : bs.flatten.length ≤ 140737488355200) (hn2 : n ≤ 140737488355328) (hK : KG w) :
    Calls Tryd.prog 63 #[.int .u64 (m : Int), .slice A n c] w fun e w' => ∃ r, e = .returned r ∧ Row w' w.heap.size 5 1 r 512 (bvs (doneB m bs.flatten)) ∧ Fr [] w w' := by
  have HN := Lib.hid hn
  have HB := Lib.hid hb
  have p0 := hK.pos
  clear hn hb
  go_enter Tryd.func63, Tryd.ntmps63
  go_upto_region 1 with fail
  have b1 : Blk (w.alloc (.cells #[.int .u64 (m : Int)] 22)) w.heap.size 22 #[.int .u64 (m : Int)] := Blk.new _ _ _
  have F1 : Fr [] w (w.alloc (.cells #[.int .u64 (m : Int)] 22)) := (Fr.refl _ _).alloc _
  have s1 : (w.alloc (.cells #[.int .u64 (m : Int)] 22)).heap.size = w.heap.size + 1 := by simp
  generalize w.alloc (.cells #[.int .u64 (m : Int)] 22) = w1 at *
  obtain ⟨g1, hg1⟩ : ∃ g, w.heap.size = g := ⟨_, rfl⟩
  have HG1 := Lib.hid (And.intro hg1 s1)
  rw [hg1] at b1 ⊢
  clear hg1 s1
  go_wp2_with fail
  refine (newHash_any w1).mono ?_
  rintro e w2 ⟨g, rfl, hg, hh, f2⟩
  have F2 := F1.trans_nil f2
  have b2 := b1.keep_nil f2
  have gw : w.heap.size < g := by have := HG1.out; omega
  have hgl := hh.blk.lt
  have g1g : g1 < g := by have := HG1.out; omega
  clear b1 F1 f2
  obtain ⟨B, hB⟩ : ∃ B, w2.heap.size = B := ⟨_, rfl⟩
  rw [hB] at hh hgl
  have hgB : g < B := hgl
  have HBB := Lib.hid hB
  clear hB hgl
  go_wp2_with fail
  go_loopw [12] (fun i wr => ∃ k : Nat, k ≤ n ∧ i = .int .i64 k ∧ (∃ v, Hsh wr g B v (bs.take k).flatten) ∧ Blk wr g1 22 #[.int .u64 (m : Int)] ∧ Fr [] w wr) (fun i _ => n - (intOf i).toNat)
  case atStart => exact ⟨0, Nat.zero_le _, rfl, ⟨_, hh⟩, b2, F2⟩
  case round =>
    clear hh b2 F2
    obtain ⟨k, hk, rfl, ⟨v, hh⟩, b3, F3⟩ := hrel
    have hbase := hh.base
    by_cases hlt : k < n
    · have hkl : k < bs.length := by rw [HN.out]; exact hlt
      have hkv : k < vs.length := by rw [hr.len]; exact hkl
      have hr3 := hr.keep_nil F3
      obtain ⟨ga, oa, rfl, hc⟩ := hr3.rd (by intro h; rw [h] at hkv; simp at hkv)
      have ck := hc k vs[k] (List.getElem?_eq_getElem hkv)
      obtain ⟨Ak, cK, hv, hrd, hnil, hcap⟩ := hr3.each k hkv hkl
      obtain ⟨Aw, cw, hvw, hrdw, -⟩ := hr.each k hkv hkl
      rw [hv] at ck
      have eA : Ak = Aw := by rw [hv] at hvw; injection hvw
      have hft := flat_take_succ bs k hkl
      have hfl := flat_take_le bs (k + 1)
      rw [hft, List.length_append] at hfl
      obtain ⟨b, hbk⟩ : ∃ b, bs[k] = b := ⟨_, rfl⟩
      rw [hbk] at ck hrd hnil hft hfl hrdw hcap
      obtain ⟨l, hll⟩ : ∃ l, (bs.take k).flatten = l := ⟨_, rfl⟩
      rw [hll] at hh hft hfl
      have HFT := Lib.hid hft
      obtain ⟨nb, hnb⟩ : ∃ nb, b.length = nb := ⟨_, rfl⟩
      rw [hnb] at ck hnil hfl hcap
      have HB2 := HB.out
      have cc := hWrite_any hh Ak nb cK b hnb hrd hnil (fun g' o e hne => by
        obtain ⟨g2, o2, e2, h2⟩ := hrdw.lt (by intro h0; apply hne; simpa [bvs] using h0)
        rw [← eA, e] at e2
        cases e2
        omega) (by omega) (hK.keep F3) (by omega) (by omega)
      have hown : ∀ i, v.ownBlock = some i → B ≤ i := fun i hi => (hh.row.lt i hi).1
      clear hc hv hrd hnil hcap hvw hrdw eA hft hfl hbk hll hnb hr3 HB2
      go_wp2_with fail
      refine cc.mono ?_
      clear cc
      rintro e w4 ⟨rfl, v4, h4, f4, -⟩
      have b4 := b3.keep f4 (fun hm => by
        rcases List.mem_cons.1 hm with e | hm
        · omega
        · have := hown _ (mem_own.1 hm); omega)
      have F4 : Fr [] w w4 := F3.trans f4 (fun i hi => .inr (by
        rcases List.mem_cons.1 hi with e | hi
        · omega
        · have := hown _ (mem_own.1 hi); omega))
      go_wp2_with fail
      exact ⟨⟨k + 1, by omega, by go_num, ⟨v4, by rw [HFT.out]; exact h4⟩, b4, F4⟩, by simp [intOf]; omega⟩
    · obtain rfl : k = n := by omega
      rw [List.take_of_length_le (by rw [HN.out]; exact Nat.le_refl _)] at hh
      go_wp2_with fail
      refine (hSum_any hh HB.out (hK.keep F3)).mono ?_
      rintro e w5 ⟨rfl, f5⟩
      have F5 := F3.trans_nil f5
      have b5 := b3.keep_nil f5
      obtain ⟨D, hD⟩ : ∃ D, shaSum bs.flatten = D := ⟨_, rfl⟩
      have hdl : D.length = 32 := by rw [← hD, shaSum_length]
      rw [hD]
      have HDD := Lib.hid (fun _ : Unit => hD)
      have HDL := Lib.hid hdl
      clear hD hdl hh b3 F3 f5
      go_wp2_with
        (first
          | (refine wpList_alS stA32 (o := ⟨some 8, _, _, _, _, _⟩) rfl rfl ?_; intro wa ha fa za; have ZA := Lib.hid za; clear za; obtain ⟨g8, hgg⟩ : ∃ g, w5.heap.size = g := ⟨_, rfl⟩; rw [hgg] at ha; rw [hgg]; have HG8 := Lib.hid hgg; clear hgg)
          | (refine wpList_stB stA32 rfl rfl g8 rfl (bvs D) rfl (by rw [bvs_length, HDL.out]) (bvs_one _) (bvs (zB 32)) rfl ha ?_; intro wb hb fb zb; have ZB := Lib.hid zb; clear zb))
      have f6 : Fr [] w5 wb := fa.trans fb (fun i hi => .inr (by have := HG8.out; simp at hi; omega))
      have F6 := F5.trans_nil f6
      have b6 := b5.keep_nil f6
      refine (rcBlock_rcSeal1 wb g1 g8 (doneM ++ leB 8 m ++ D) (by rw [List.length_append, List.length_append, leB_length, HDL.out]; decide) (fun wx p B v f _ _ h => rcSeal1_ok h hm (b6.keep_nil f) (hb.keep_nil f) HDL.out)).mono ?_
      rintro e w7 ⟨r, rfl, r7, f7⟩
      obtain ⟨A7, cap7, rfl, -, -, -, -, -⟩ := r7.shape
      go_wp2_with fail
      go_ret
      refine ⟨_, rfl, ?_, F6.trans_nil f7⟩
      rw [doneB, doneR, HDD.out ()]
      exact r7.mono F6.size
end Go.Proofs.YtlelgeigighecaaDoor
