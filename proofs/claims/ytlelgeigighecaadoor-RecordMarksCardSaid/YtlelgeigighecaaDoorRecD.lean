/-
  Layer 13 (record): like, turn, right and their references.
-/
import Derived.Test.YtlelgeigighecaaDoorRecC
import Derived.Maps.Own
import Derived.Maps.OwnOps
import Derived.Maps.Views
set_option linter.unusedSimpArgs false
set_option linter.unusedVariables false
set_option linter.unnecessarySimpa false
namespace Go.Proofs.YtlelgeigighecaaDoor
open Go.RowKit Go.Maps

def likeB (l : List UInt8) : Bool := l.take 4 == planM || (l.take 4 == doneM || l.take 4 == markM)
theorem rcLike_any (A : Option Addr) (l : List UInt8) (n c : Nat) (w : World) (hn : l.length = n) (hr : Rd w A (bvs l)) (hA : A = none → n = 0) (h4 : 4 ≤ n) (hc : n ≤ c) : Calls Tryd.prog 59 #[.slice A n c] w fun e w' => e = .returned (.bool (likeB l)) ∧ w = w' := by
  have E := strB w A (l.take 4) 4 c (by rw [List.length_take]; omega) (by rw [bvs_take]; exact hr.take 4) (fun h => absurd (hA h) (by omega))
  have K4 : (4 : Int) ≤ c := by omega
  have HB := Lib.hid (show likeB l = (l.take 4 == [80, 76, 65, 78] || (l.take 4 == [68, 79, 78, 69] || l.take 4 == [77, 65, 82, 75])) from rfl)
  generalize l.take 4 = q at *
  cases m1 : (q == [80, 76, 65, 78])
  · cases m2 : (q == [68, 79, 78, 69])
    · cases m3 : (q == [77, 65, 82, 75])
      · have H := Lib.hid (show likeB l = false by rw [HB.out, m1, m2, m3]; rfl)
        go_enter Tryd.func59, Tryd.ntmps59
        go_wp2_with fail
        go_ret
        exact ⟨by rw [H.out]; rfl, rfl⟩
      · have H := Lib.hid (show likeB l = true by rw [HB.out, m1, m2, m3]; rfl)
        go_enter Tryd.func59, Tryd.ntmps59
        go_wp2_with fail
        go_ret
        exact ⟨by rw [H.out]; rfl, rfl⟩
    · have H := Lib.hid (show likeB l = true by rw [HB.out, m1, m2]; rfl)
      go_enter Tryd.func59, Tryd.ntmps59
      go_wp2_with fail
      go_ret
      exact ⟨by rw [H.out]; rfl, rfl⟩
  · have H := Lib.hid (show likeB l = true by rw [HB.out, m1]; rfl)
    go_enter Tryd.func59, Tryd.ntmps59
    go_wp2_with fail
    go_ret
    exact ⟨by rw [H.out]; rfl, rfl⟩
theorem xrcLike_any (A : Option Addr) (l : List UInt8) (n c : Nat) (w : World) (hn : l.length = n) (hr : Rd w A (bvs l)) (hA : A = none → n = 0) (h4 : 4 ≤ n) (hc : n ≤ c) : Calls Tryd.prog 65 #[.slice A n c] w fun e w' => e = .returned (.bool (likeB l)) ∧ w = w' := by
  have E := strB w A (l.take 4) 4 c (by rw [List.length_take]; omega) (by rw [bvs_take]; exact hr.take 4) (fun h => absurd (hA h) (by omega))
  have K4 : (4 : Int) ≤ c := by omega
  have HB := Lib.hid (show likeB l = (l.take 4 == [80, 76, 65, 78] || (l.take 4 == [68, 79, 78, 69] || l.take 4 == [77, 65, 82, 75])) from rfl)
  generalize l.take 4 = q at *
  cases m1 : (q == [80, 76, 65, 78])
  · cases m2 : (q == [68, 79, 78, 69])
    · cases m3 : (q == [77, 65, 82, 75])
      · have H := Lib.hid (show likeB l = false by rw [HB.out, m1, m2, m3]; rfl)
        go_enter Tryd.func65, Tryd.ntmps65
        go_wp2_with fail
        go_ret
        exact ⟨by rw [H.out]; rfl, rfl⟩
      · have H := Lib.hid (show likeB l = true by rw [HB.out, m1, m2, m3]; rfl)
        go_enter Tryd.func65, Tryd.ntmps65
        go_wp2_with fail
        go_ret
        exact ⟨by rw [H.out]; rfl, rfl⟩
    · have H := Lib.hid (show likeB l = true by rw [HB.out, m1, m2]; rfl)
      go_enter Tryd.func65, Tryd.ntmps65
      go_wp2_with fail
      go_ret
      exact ⟨by rw [H.out]; rfl, rfl⟩
  · have H := Lib.hid (show likeB l = true by rw [HB.out, m1]; rfl)
    go_enter Tryd.func65, Tryd.ntmps65
    go_wp2_with fail
    go_ret
    exact ⟨by rw [H.out]; rfl, rfl⟩

def turnB : List UInt8 → List UInt8
  | [] => []
  | x :: r => (x ^^^ 128) :: r
theorem turnB_len (l : List UInt8) : (turnB l).length = l.length := by cases l <;> rfl
theorem turn_byte (x : UInt8) : Value.int .u8 (bits .xor .u8 (x.toNat : Int) 128) = bv (x ^^^ 128) := by
  have := u8_xor_nat x.toNat 128 x.toNat_lt (by omega)
  unfold bv
  rw [show (128 : Int) = ((128 : Nat) : Int) from rfl, this, UInt8.toNat_xor]
  rfl
theorem row_turn {w : World} {B g n c : Nat} {x : UInt8} {r : List UInt8} (h : Row w B 5 1 (.slice (some ⟨g, 0, none⟩) n c) n (bvs (x :: r))) :
    w.cell? ⟨g, 0, none⟩ = some (bv x) ∧ w.frozen? ⟨g, 0, none⟩ = false ∧ Row (w.setCell ⟨g, 0, none⟩ (bv (x ^^^ 128))) B 5 1 (.slice (some ⟨g, 0, none⟩) n c) n (bvs ((x ^^^ 128) :: r)) := by
  rcases h.2 with ⟨e, _⟩ | ⟨g', cap, cur, fz, e, hb, hg, hf, hnc, hcm, hcs, ht⟩
  · cases e
  · cases e
    have hn : r.length + 1 = n := by have := h.1; rw [bvs_length, List.length_cons, Nat.mul_one] at this; exact this
    have hpos : 0 < cur.size := by omega
    obtain ⟨lc⟩ := cur
    match lc, hpos with
    | y :: rest, _ =>
      have e1 : y = bv x ∧ rest.take r.length = bvs r := by
        rw [Nat.mul_one, ← hn] at ht
        simp only [List.take_succ_cons, bvs, List.map_cons, List.cons.injEq] at ht
        exact ht
      refine ⟨?_, ?_, ?_⟩
      · rw [cell_of_row w g 0 _ _ _ hg, e1.1]; rfl
      · have := hf 0 (by simp)
        simp only [World.frozen?, hg]
        simpa using this
      · refine ⟨by simp [bvs]; omega, .inr ⟨g, c, (bv (x ^^^ 128) :: rest).toArray, fz, rfl, hb, ?_, by simpa using hf, hnc, hcm, by simpa using hcs, ?_⟩⟩
        · simp [World.setCell, Array.getElem?_modify, hg]
        · rw [Nat.mul_one, ← hn]
          simp only [List.take_succ_cons, bvs, List.map_cons]
          rw [e1.2]
          rfl

theorem row_head {w : World} {B n : Nat} {v : Value} {xs : List Value} (h : Row w B 5 1 v n xs) (hn : 0 < n) : ∃ g c, v = .slice (some ⟨g, 0, none⟩) n c := by
  rcases h.2 with ⟨_, e⟩ | ⟨g, cap, cur, fz, e, _⟩
  · omega
  · exact ⟨g, cap, e⟩
set_option maxHeartbeats 1000000 in
theorem rcTurn_any (A : Option Addr) (l : List UInt8) (n c : Nat) (w : World) (hn : l.length = n) (hr : Rd w A (bvs l)) (hA : A = none → n = 0) (hpos : 0 < n) (hl : n ≤ 140737488355328) :
    Calls Tryd.prog 60 #[.slice A n c] w fun e w' => ∃ v, e = .returned v ∧ Row w' w.heap.size 5 1 v n (bvs (turnB l)) ∧ Fr [] w w' := by
  obtain ⟨x, r, rfl⟩ : ∃ x r, l = x :: r := by
    cases l with
    | nil => simp at hn; omega
    | cons x r => exact ⟨x, r, rfl⟩
  have HN := Lib.hid hn
  clear hn
  go_enter Tryd.func60, Tryd.ntmps60
  go_wp2_with fail
  refine (clone_any A (x :: r) n c w HN.out hr hA hl).mono ?_
  rintro e w1 ⟨v1, rfl, r1, f1⟩
  obtain ⟨g, cap, rfl⟩ := row_head r1 hpos
  obtain ⟨c0, z0, r2⟩ := row_turn r1
  rw [← turn_byte] at r2
  have c0' : w1.cell? ⟨g, 0, none⟩ = some (.int .u8 (x.toNat : Int)) := c0
  have fs : Fr [] w (w1.setCell ⟨g, 0, none⟩ (.int .u8 (bits .xor .u8 (x.toNat : Int) 128))) := f1.setCell (.inr (r1.lt g rfl).1) _
  clear c0 r1
  go_wp2_with fail
  go_ret
  exact ⟨_, rfl, r2, fs⟩
set_option maxHeartbeats 1000000 in
theorem xrcTurn_any (A : Option Addr) (l : List UInt8) (n c : Nat) (w : World) (hn : l.length = n) (hr : Rd w A (bvs l)) (hA : A = none → n = 0) (hpos : 0 < n) (hl : n ≤ 140737488355328) :
    Calls Tryd.prog 66 #[.slice A n c] w fun e w' => ∃ v, e = .returned v ∧ Row w' w.heap.size 5 1 v n (bvs (turnB l)) ∧ Fr [] w w' := by
  obtain ⟨x, r, rfl⟩ : ∃ x r, l = x :: r := by
    cases l with
    | nil => simp at hn; omega
    | cons x r => exact ⟨x, r, rfl⟩
  have HN := Lib.hid hn
  clear hn
  go_enter Tryd.func66, Tryd.ntmps66
  go_upto_region 2 with (at_builtin; refine wpList_app rfl rfl slB w.heap.size (.slice (some ⟨w.heap.size, 0, none⟩) 0 0) 0 [] rfl (Row.new w #[] 5 1 0 (0, 0) (free_zero _) (by unfold maxLen; omega) rfl (Nat.le_refl _)) A n c (bvs (x :: r)) rfl (by rw [bvs_length, HN.out]; omega) (hr.alloc _) (bvs_one _) hA (by omega) (by simp) ?_; intro v1 w1 q1 q2 q3 q4)
  have f1 : Fr [] w w1 := ((Fr.refl [] w).alloc _).trans q2 (fun i hi => .inr (by rw [own_mem.1 hi]; exact Nat.le_refl _))
  rw [Nat.zero_add, List.nil_append] at q1
  clear q2 q3 q4
  obtain ⟨g, cap, rfl⟩ := row_head q1 hpos
  obtain ⟨c0, z0, r2⟩ := row_turn q1
  rw [← turn_byte] at r2
  have c0' : w1.cell? ⟨g, 0, none⟩ = some (.int .u8 (x.toNat : Int)) := c0
  have fs : Fr [] w (w1.setCell ⟨g, 0, none⟩ (.int .u8 (bits .xor .u8 (x.toNat : Int) 128))) := f1.setCell (.inr (q1.lt g rfl).1) _
  clear c0 q1
  go_wp2_with fail
  go_ret
  exact ⟨_, rfl, r2, fs⟩

/-- Numbers as cells. -/
def zvs (l : List Int) : List Value := l.map fun z => Value.int .i64 z
theorem zvs_len (l : List Int) : (zvs l).length = l.length := by simp [zvs]
theorem zvs_append (a b : List Int) : zvs (a ++ b) = zvs a ++ zvs b := by simp [zvs]
theorem zint_at {w : World} {A : Option Addr} {L : List Int} (hr : Rd w A (zvs L)) {k : Nat} (hk : k < L.length) : ∃ g o, A = some ⟨g, o, none⟩ ∧ ∀ j (hj : j < L.length), w.cell? ⟨g, o + j, none⟩ = some (.int .i64 L[j]) := by
  obtain ⟨g, o, e, hc⟩ := hr (by intro h; have := congrArg List.length h; rw [zvs_len, List.length_nil] at this; omega)
  exact ⟨g, o, e, fun j hj => hc j _ (by simp [zvs, hj])⟩

def inP (x : Int) : Bool := decide (0 ≤ x) && decide (x < 4096)
/-- May these be a transaction's blocks? -/
def rightF (l : List Int) : Bool := l.all inP && (decide l.Nodup && (decide (1 ≤ l.length) && decide (l.length ≤ 64)))
def okT (l : List Int) (k : Nat) : Prop := (l.take k).all inP = true ∧ (l.take k).Nodup
theorem okT_zero (l : List Int) : okT l 0 := ⟨rfl, List.nodup_nil⟩
theorem okT_succ {l : List Int} {k : Nat} (h : okT l k) (hk : k < l.length) (h1 : inP l[k] = true) (h2 : l[k] ∉ l.take k) : okT l (k + 1) := by
  unfold okT
  rw [List.take_succ_eq_append_getElem hk]
  refine ⟨by rw [List.all_append, h.1]; simp [h1], ?_⟩
  rw [List.nodup_append]
  exact ⟨h.2, by simp, fun a ha b hb => by rw [List.mem_singleton.1 hb]; rintro rfl; exact h2 ha⟩
theorem right_bad1 {l : List Int} {k : Nat} (hk : k < l.length) (h : inP l[k] = false) : rightF l = false := by
  have : l.all inP = false := by
    rw [List.all_eq_false]
    exact ⟨l[k], List.getElem_mem hk, by rw [h]; decide⟩
  simp [rightF, this]
theorem right_bad2 {l : List Int} {k : Nat} (hk : k < l.length) (h : l[k] ∈ l.take k) : rightF l = false := by
  have : ¬ l.Nodup := by
    intro hn
    have e : l = l.take k ++ l.drop k := (List.take_append_drop k l).symm
    rw [e, List.nodup_append] at hn
    exact hn.2.2 _ h _ (by rw [List.drop_eq_getElem_cons hk]; exact List.mem_cons_self) rfl
  simp [rightF, this]
theorem right_end {l : List Int} (h : okT l l.length) : rightF l = (decide (1 ≤ l.length) && decide (l.length ≤ 64)) := by
  obtain ⟨h1, h2⟩ := h
  rw [List.take_length] at h1 h2
  rw [rightF, h1, decide_eq_true h2]
  rfl

set_option maxRecDepth 100000 in
set_option maxHeartbeats 4000000 in
theorem xrcRight_any (A : Option Addr) (l : List Int) (n c : Nat) (w : World) (hn : l.length = n) (hr : Rd w A (zvs l)) (hl : n ≤ 140737488355328) :
    Calls Tryd.prog 64 #[.slice A n c] w fun e w' => e = .returned (.bool (rightF l)) ∧ Fr [] w w' := by
  have HN := Lib.hid hn
  clear hn
  go_enter Tryd.func64, Tryd.ntmps64
  go_wp2_with fail
  go_loopw [3] (fun i wr => ∃ k : Nat, k ≤ n ∧ i = .int .i64 k ∧ okT l k ∧ ∃ q, wr = w.drewN q) (fun i _ => n - (intOf i).toNat)
  case atStart => exact ⟨0, Nat.zero_le _, rfl, okT_zero l, 0, rfl⟩
  case round =>
    obtain ⟨k, hk, rfl, hok, q, rfl⟩ := hrel
    by_cases hlt : k < n
    · have hkl : k < l.length := by rw [HN.out]; exact hlt
      obtain ⟨g, o, rfl, hc⟩ := zint_at hr hkl
      have ck := hc k hkl
      have HC := Lib.hid hc
      have HB1 := Lib.hid (fun h => right_bad1 hkl h)
      have HB2 := Lib.hid (fun h => right_bad2 hkl h)
      have HOK := Lib.hid (fun h1 h2 => okT_succ hok hkl h1 h2)
      obtain ⟨x, hx⟩ : ∃ x, l[k] = x := ⟨_, rfl⟩
      rw [hx] at ck HB1 HB2 HOK
      have HX := Lib.hid hx
      clear hc hok hx
      by_cases h0 : x < 0
      · have H := Lib.hid (HB1.out (by simp [inP]; omega))
        go_wp2_with fail
        go_ret
        exact ⟨by rw [H.out]; rfl, (Fr.refl _ _).drewN _⟩
      · by_cases h1 : 4095 < x
        · have H := Lib.hid (HB1.out (by simp [inP]; omega))
          go_wp2_with fail
          go_ret
          exact ⟨by rw [H.out]; rfl, (Fr.refl _ _).drewN _⟩
        · have HP := Lib.hid (show inP x = true by simp [inP]; omega)
          have ck' : (w.drewN q).cell? ⟨g, o + k, none⟩ = some (.int .i64 x) := ck
          go_wp2_with fail
          go_loopw [4] (fun i wr => ∃ j : Nat, j ≤ k ∧ i = .int .i64 j ∧ (∀ t, t < j → l.getD t 0 ≠ x) ∧ ∃ q, wr = w.drewN q) (fun i _ => k - (intOf i).toNat)
          case atStart => exact ⟨0, Nat.zero_le _, rfl, fun t ht => absurd ht (by omega), q, rfl⟩
          case round =>
            obtain ⟨j, hj, rfl, hne, q2, rfl⟩ := hrel
            by_cases hjl : j < k
            · have hjl' : j < l.length := by omega
              have cj := HC.out j hjl'
              have hy : l.getD j 0 = l[j] := by simp [hjl']
              have HMEM := Lib.hid (show l[j] ∈ l.take k from by
                rw [List.mem_take_iff_getElem]
                exact ⟨j, by omega, rfl⟩)
              obtain ⟨y, hyy⟩ : ∃ y, l[j] = y := ⟨_, rfl⟩
              rw [hyy] at cj hy HMEM
              have HY := Lib.hid hy
              have HNE := Lib.hid hne
              clear hy hyy hne
              have Hjn : j < n := by omega
              have Hkn : k < n := hlt
              have cj' : (w.drewN q2).cell? ⟨g, o + j, none⟩ = some (.int .i64 y) := cj
              have ck2 : (w.drewN q2).cell? ⟨g, o + k, none⟩ = some (.int .i64 x) := ck
              by_cases hyx : y = x
              · have H := Lib.hid (HB2.out (by rw [← hyx]; exact HMEM.out))
                have HE := (show (y == x) = true by rw [hyx]; simp)
                clear HMEM
                go_wp2_with fail
                refine wp_region_held_drew (S := fun w' => w'.cell? ⟨g, o + j, none⟩ = some (.int .i64 y) ∧ w'.cell? ⟨g, o + k, none⟩ = some (.int .i64 x)) (by kernel_rfl) ⟨cj', ck2⟩ (fun hHeld => ?_)
                refine take_w 0 (some 28) (v := ?_) rfl rfl (by kernel_rfl) (by kernel_rfl) (by kernel_rfl) (fun _ _ _ h => h) (by rfl) ?_ hHeld ?_
                rotate_left
                · (intro w hSw; (try dsimp only at hSw); go_simp; try with_reducible rfl)
                simp only [Act.put, List.setIfInBounds_toArray, List.set_cons_zero, List.set_cons_succ]
                refine take_w 1 (some 29) (v := ?_) rfl rfl (by kernel_rfl) (by kernel_rfl) (by kernel_rfl) (fun _ _ _ h => h) (by rfl) ?_ hHeld ?_
                rotate_left
                · (intro w hSw; (try dsimp only at hSw); go_simp; try with_reducible rfl)
                simp only [Act.put, List.setIfInBounds_toArray, List.set_cons_zero, List.set_cons_succ]
                refine take_w 2 (some 30) (v := ?_) rfl rfl (by kernel_rfl) (by kernel_rfl) (by kernel_rfl) (fun _ _ _ h => h) (by rfl) ?_ hHeld ?_
                rotate_left
                · (intro w hSw; (try dsimp only at hSw); go_simp; try with_reducible rfl)
                simp only [Act.put, List.setIfInBounds_toArray, List.set_cons_zero, List.set_cons_succ]
                refine take_w 3 (some 31) (v := ?_) rfl rfl (by kernel_rfl) (by kernel_rfl) (by kernel_rfl) (fun _ _ _ h => h) (by rfl) ?_ hHeld ?_
                rotate_left
                · (intro w hSw; (try dsimp only at hSw); go_simp; try with_reducible rfl)
                simp only [Act.put, List.setIfInBounds_toArray, List.set_cons_zero, List.set_cons_succ]
                refine take_w 4 (some 32) (v := ?_) rfl rfl (by kernel_rfl) (by kernel_rfl) (by kernel_rfl) (fun _ _ _ h => h) (by rfl) ?_ hHeld ?_
                rotate_left
                · (intro w hSw; (try dsimp only at hSw); go_simp; try with_reducible rfl)
                simp only [Act.put, List.setIfInBounds_toArray, List.set_cons_zero, List.set_cons_succ]
                refine take_w 5 (some 33) (v := ?_) rfl rfl (by kernel_rfl) (by kernel_rfl) (by kernel_rfl) (fun _ _ _ h => h) (by rfl) ?_ hHeld ?_
                rotate_left
                · (intro w hSw; (try dsimp only at hSw); go_simp; try with_reducible rfl)
                simp only [Act.put, List.setIfInBounds_toArray, List.set_cons_zero, List.set_cons_succ]
                refine take_w 6 (some 34) (v := ?_) rfl rfl (by kernel_rfl) (by kernel_rfl) (by kernel_rfl) (fun _ _ _ h => h) (by rfl) ?_ hHeld ?_
                rotate_left
                · (intro w hSw; (try dsimp only at hSw); go_simp; try with_reducible rfl)
                simp only [Act.put, List.setIfInBounds_toArray, List.set_cons_zero, List.set_cons_succ]
                refine take_w 7 (some 35) (v := ?_) rfl rfl (by kernel_rfl) (by kernel_rfl) (by kernel_rfl) (fun _ _ _ h => h) (by rfl) ?_ hHeld ?_
                rotate_left
                · (intro w hSw; (try dsimp only at hSw); go_simp; try with_reducible rfl)
                simp only [Act.put, List.setIfInBounds_toArray, List.set_cons_zero, List.set_cons_succ]
                refine take_w 8 (some 36) (v := ?_) rfl rfl (by kernel_rfl) (by kernel_rfl) (by kernel_rfl) (fun _ _ _ h => h) (by rfl) ?_ hHeld ?_
                rotate_left
                · (intro w hSw; (try dsimp only at hSw); go_simp; try with_reducible rfl)
                simp only [Act.put, List.setIfInBounds_toArray, List.set_cons_zero, List.set_cons_succ]
                refine wpAnyH_done (by kernel_rfl) ?_ _
                go_wp2_with fail
                go_ret
                exact ⟨by rw [H.out]; rfl, (Fr.refl _ _).drewN (q2 + 1)⟩
              · have HE := (show (y == x) = false by rw [beq_eq_false_iff_ne]; exact hyx)
                clear HMEM
                go_wp2_with fail
                refine wp_region_held_drew (S := fun w' => w'.cell? ⟨g, o + j, none⟩ = some (.int .i64 y) ∧ w'.cell? ⟨g, o + k, none⟩ = some (.int .i64 x)) (by kernel_rfl) ⟨cj', ck2⟩ (fun hHeld => ?_)
                refine take_w 0 (some 28) (v := ?_) rfl rfl (by kernel_rfl) (by kernel_rfl) (by kernel_rfl) (fun _ _ _ h => h) (by rfl) ?_ hHeld ?_
                rotate_left
                · (intro w hSw; (try dsimp only at hSw); go_simp; try with_reducible rfl)
                simp only [Act.put, List.setIfInBounds_toArray, List.set_cons_zero, List.set_cons_succ]
                refine take_w 1 (some 29) (v := ?_) rfl rfl (by kernel_rfl) (by kernel_rfl) (by kernel_rfl) (fun _ _ _ h => h) (by rfl) ?_ hHeld ?_
                rotate_left
                · (intro w hSw; (try dsimp only at hSw); go_simp; try with_reducible rfl)
                simp only [Act.put, List.setIfInBounds_toArray, List.set_cons_zero, List.set_cons_succ]
                refine take_w 2 (some 30) (v := ?_) rfl rfl (by kernel_rfl) (by kernel_rfl) (by kernel_rfl) (fun _ _ _ h => h) (by rfl) ?_ hHeld ?_
                rotate_left
                · (intro w hSw; (try dsimp only at hSw); go_simp; try with_reducible rfl)
                simp only [Act.put, List.setIfInBounds_toArray, List.set_cons_zero, List.set_cons_succ]
                refine take_w 3 (some 31) (v := ?_) rfl rfl (by kernel_rfl) (by kernel_rfl) (by kernel_rfl) (fun _ _ _ h => h) (by rfl) ?_ hHeld ?_
                rotate_left
                · (intro w hSw; (try dsimp only at hSw); go_simp; try with_reducible rfl)
                simp only [Act.put, List.setIfInBounds_toArray, List.set_cons_zero, List.set_cons_succ]
                refine take_w 4 (some 32) (v := ?_) rfl rfl (by kernel_rfl) (by kernel_rfl) (by kernel_rfl) (fun _ _ _ h => h) (by rfl) ?_ hHeld ?_
                rotate_left
                · (intro w hSw; (try dsimp only at hSw); go_simp; try with_reducible rfl)
                simp only [Act.put, List.setIfInBounds_toArray, List.set_cons_zero, List.set_cons_succ]
                refine take_w 5 (some 33) (v := ?_) rfl rfl (by kernel_rfl) (by kernel_rfl) (by kernel_rfl) (fun _ _ _ h => h) (by rfl) ?_ hHeld ?_
                rotate_left
                · (intro w hSw; (try dsimp only at hSw); go_simp; try with_reducible rfl)
                simp only [Act.put, List.setIfInBounds_toArray, List.set_cons_zero, List.set_cons_succ]
                refine take_w 6 (some 34) (v := ?_) rfl rfl (by kernel_rfl) (by kernel_rfl) (by kernel_rfl) (fun _ _ _ h => h) (by rfl) ?_ hHeld ?_
                rotate_left
                · (intro w hSw; (try dsimp only at hSw); go_simp; try with_reducible rfl)
                simp only [Act.put, List.setIfInBounds_toArray, List.set_cons_zero, List.set_cons_succ]
                refine take_w 7 (some 35) (v := ?_) rfl rfl (by kernel_rfl) (by kernel_rfl) (by kernel_rfl) (fun _ _ _ h => h) (by rfl) ?_ hHeld ?_
                rotate_left
                · (intro w hSw; (try dsimp only at hSw); go_simp; try with_reducible rfl)
                simp only [Act.put, List.setIfInBounds_toArray, List.set_cons_zero, List.set_cons_succ]
                refine take_w 8 (some 36) (v := ?_) rfl rfl (by kernel_rfl) (by kernel_rfl) (by kernel_rfl) (fun _ _ _ h => h) (by rfl) ?_ hHeld ?_
                rotate_left
                · (intro w hSw; (try dsimp only at hSw); go_simp; try with_reducible rfl)
                simp only [Act.put, List.setIfInBounds_toArray, List.set_cons_zero, List.set_cons_succ]
                refine wpAnyH_done (by kernel_rfl) ?_ _
                go_wp2_with fail
                refine ⟨⟨j + 1, by omega, by go_num, fun t ht => ?_, q2 + 1, rfl⟩, by simp [intOf]; omega⟩
                by_cases htj : t = j
                · subst htj; rw [HY.out]; exact hyx
                · exact HNE.out t (by omega)
            · obtain rfl : j = k := by omega
              have hnm : x ∉ l.take j := by
                intro hm
                rw [List.mem_take_iff_getElem] at hm
                obtain ⟨t, ht, e⟩ := hm
                have htl : t < l.length := by omega
                have e2 : l.getD t 0 = l[t] := by simp [htl]
                exact hne t (by omega) (e2.trans e)
              have HO := Lib.hid (HOK.out HP.out hnm)
              clear hne hnm
              go_wp2_with fail
              exact ⟨⟨j + 1, by omega, by go_num, HO.out, q2, rfl⟩, by simp [intOf]; omega⟩
    · obtain rfl : k = n := by omega
      have he := right_end (by rw [HN.out]; exact hok)
      rw [HN.out] at he
      by_cases h1 : 1 ≤ k
      · by_cases h2 : k ≤ 64
        · have H := Lib.hid (show rightF l = true by rw [he]; simp [h1, h2])
          clear he hok
          have K1 : (1 : Int) ≤ (k : Int) := by omega
          have K2 : (k : Int) ≤ 64 := by omega
          go_wp2_with fail
          go_ret
          exact ⟨by rw [H.out]; rfl, (Fr.refl _ _).drewN _⟩
        · have H := Lib.hid (show rightF l = false by rw [he]; simp [h1, h2])
          clear he hok
          have K1 : (1 : Int) ≤ (k : Int) := by omega
          have K2 : ¬ ((k : Int) ≤ 64) := by omega
          go_wp2_with fail
          go_ret
          exact ⟨by rw [H.out]; rfl, (Fr.refl _ _).drewN _⟩
      · have H := Lib.hid (show rightF l = false by rw [he]; simp [h1])
        clear he hok
        have K1 : ¬ ((1 : Int) ≤ (k : Int)) := by omega
        go_wp2_with fail
        go_ret
        exact ⟨by rw [H.out]; rfl, (Fr.refl _ _).drewN _⟩
end Go.Proofs.YtlelgeigighecaaDoor
