/-
  The reference's Sorted: pairs in a list: Get, Delete, Set.
-/
import Derived.Test.YtdhhnioklbnicaaDkA
import Derived.Test.YtdhhnioklbnicaaRegT
import Derived.Test.YtdhhnioklbnicaaSlc
import Derived.Deep.DeepCutAuto
import Derived.IntWalk
set_option linter.unusedSimpArgs false
set_option linter.unusedVariables false
set_option linter.unnecessarySimpa false
namespace Go.Proofs.Ytdhhnioklbnicaa
open Go.RowKit
set_option maxRecDepth 100000

abbrev PairB := Int × ByteArray
def qcells (L : List PairB) : List Value := L.flatMap fun p => [.int .i64 p.1, .string p.2]
theorem qcells_len (L : List PairB) : (qcells L).length = L.length * 2 := by
  induction L with
  | nil => rfl
  | cons p r ih =>
    have : qcells (p :: r) = [.int .i64 p.1, .string p.2] ++ qcells r := rfl
    rw [this, List.length_append, ih, List.length_cons]
    simp only [List.length_cons, List.length_nil]
    omega
theorem qcells_app (a b : List PairB) : qcells (a ++ b) = qcells a ++ qcells b := List.flatMap_append
theorem qcells_take (L : List PairB) (k : Nat) : qcells (L.take k) = (qcells L).take (k * 2) := by
  induction L generalizing k with
  | nil => simp [qcells]
  | cons p r ih =>
    cases k with
    | zero => rfl
    | succ k =>
      have e : qcells (p :: r) = .int .i64 p.1 :: .string p.2 :: qcells r := rfl
      have e2 : qcells ((p :: r).take (k + 1)) = .int .i64 p.1 :: .string p.2 :: qcells (r.take k) := rfl
      rw [e, e2, show (k + 1) * 2 = k * 2 + 1 + 1 by omega, List.take_succ_cons, List.take_succ_cons, ih]
theorem qcells_drop (L : List PairB) (k : Nat) : qcells (L.drop k) = (qcells L).drop (k * 2) := by
  induction L generalizing k with
  | nil => simp [qcells]
  | cons p r ih =>
    cases k with
    | zero => rfl
    | succ k =>
      have e : qcells (p :: r) = .int .i64 p.1 :: .string p.2 :: qcells r := rfl
      rw [e, show (k + 1) * 2 = k * 2 + 1 + 1 by omega, List.drop_succ_cons, List.drop_succ_cons, List.drop_succ_cons, ih]
theorem qcells_0 (L : List PairB) (i : Nat) (h : i < L.length) : (qcells L)[i * 2]? = some (.int .i64 L[i].1) ∧ (qcells L)[i * 2 + 1]? = some (.string L[i].2) := by
  induction L generalizing i with
  | nil => cases h
  | cons p r ih =>
    cases i with
    | zero => exact ⟨rfl, rfl⟩
    | succ i =>
      have e : qcells (p :: r) = .int .i64 p.1 :: .string p.2 :: qcells r := rfl
      obtain ⟨h1, h2⟩ := ih i (by simpa using h)
      rw [e]
      refine ⟨?_, ?_⟩
      · rw [show (i + 1) * 2 = i * 2 + 1 + 1 by omega, List.getElem?_cons_succ, List.getElem?_cons_succ, h1]; rfl
      · rw [show (i + 1) * 2 + 1 = i * 2 + 1 + 1 + 1 by omega, List.getElem?_cons_succ, List.getElem?_cons_succ, h2]; rfl
theorem qcells_one (L : List PairB) : ∀ u ∈ qcells L, u.oneCell' = true := by
  intro u hu
  obtain ⟨p, _, hp⟩ := List.mem_flatMap.1 hu
  simp at hp
  rcases hp with rfl | rfl <;> rfl
theorem qcells_row {w : World} {B : Nat} {A : Option Addr} {n c : Nat} {L : List PairB} (h : Row w B 106 2 (.slice A n c) L.length (qcells L)) (i : Nat) (hi : i < L.length) : ∃ g, A = some ⟨g, 0, none⟩ ∧ w.cell? ⟨g, i * 2, none⟩ = some (.int .i64 L[i].1) ∧ w.cell? ⟨g, i * 2 + 1, none⟩ = some (.string L[i].2) := by
  obtain ⟨g, c', e⟩ := h.hdD (by omega)
  obtain ⟨g', o', e', hc⟩ := h.rdD.1 (by intro h0; have := qcells_len L; rw [h0] at this; simp at this; omega)
  cases e
  cases e'
  obtain ⟨k1, k2⟩ := qcells_0 L i hi
  exact ⟨g, rfl, by have := hc _ _ k1; rwa [Nat.zero_add] at this, by have := hc _ _ k2; rwa [Nat.zero_add] at this⟩
theorem slPair : SlT Try.prog 58 106 2 24 (.agg #[.int .i64 0, .string ByteArray.empty]) := ⟨Try.underlying58, by kernel_rfl, rfl, by decide, by decide⟩
/-- 's[k:]' of a slice of structs. -/
theorem Rd.cutS {w : World} {A : Option Addr} {xs : List Value} (h : Rd w A xs) (k cap s : Nat) (hc : xs.length ≤ cap * s) : Rd w (if cap = k then A else A.map (·.add (k * s))) (xs.drop (k * s)) := by
  by_cases e : cap = k
  · rw [if_pos e]
    have : xs.drop (k * s) = [] := List.drop_eq_nil_of_le (by rw [← e]; exact hc)
    rw [this]
    exact Rd.nil _ _
  · rw [if_neg e]
    exact h.drop (k * s)
/-- Pairs at q; their row lies in O, too. -/
structure XsW (w : World) (q : Nat) (O : List Nat) (v : Value) (L : List PairB) : Prop where
  qO : q ∈ O
  vO : ∀ g, v.ownBlock = some g → g ∈ O
  blk : Blk w q 60 #[v]
  row : Row w 0 106 2 v L.length (qcells L)
  lt : ∀ i ∈ O, i < w.heap.size
def XsD (w : World) (q : Nat) (O : List Nat) (L : List PairB) : Prop := ∃ v, XsW w q O v L
def AftS (w : World) (q : Nat) (O : List Nat) (L : List PairB) (w' : World) : Prop := ∃ O', XsD w' q O' L ∧ (∀ i ∈ O', i ∈ O ∨ w.heap.size ≤ i) ∧ Fr [q] w w'
def getL (L : List PairB) (n : Int) : Option ByteArray := (L.find? fun p => p.1 == n).map (·.2)
def delL (L : List PairB) (n : Int) : List PairB := L.eraseP fun p => p.1 == n
theorem find_at {L : List PairB} {n : Int} {k : Nat} (hk : k < L.length) (hne : ∀ j (h : j < L.length), j < k → L[j].1 ≠ n) (he : L[k].1 = n) : getL L n = some L[k].2 ∧ delL L n = L.take k ++ L.drop (k + 1) := by
  induction L generalizing k with
  | nil => cases hk
  | cons p r ih =>
    cases k with
    | zero =>
      have he : p.1 = n := he
      simp [getL, delL, he]
    | succ k =>
      have h0 : p.1 ≠ n := hne 0 (by simp) (by omega)
      obtain ⟨h1, h2⟩ := ih (k := k) (by simpa using hk) (fun j h hj => hne (j + 1) (by simpa using h) (by omega)) he
      have hb : (p.1 == n) = false := by simpa using h0
      refine ⟨?_, ?_⟩
      · rw [getL, List.find?_cons_of_neg (by simp [hb])]; exact h1
      · rw [delL, List.eraseP_cons_of_neg (by simp [hb])]
        show p :: delL r n = _
        rw [h2]; rfl
theorem find_no {L : List PairB} {n : Int} (hne : ∀ j (h : j < L.length), L[j].1 ≠ n) : getL L n = none ∧ delL L n = L := by
  have h : ∀ p ∈ L, ¬ (p.1 == n) = true := fun p hp => by
    obtain ⟨j, hj, rfl⟩ := List.getElem_of_mem hp
    simpa using hne j hj
  refine ⟨?_, List.eraseP_of_forall_not (by simpa using h)⟩
  rw [getL, List.find?_eq_none.2 (by simpa using h)]; rfl
section
variable {w w' : World} {q : Nat} {O F : List Nat} {v : Value} {L : List PairB}
theorem XsW.keep (h : XsW w q O v L) (f : Fr F w w') (hF : ∀ i ∈ O, i ∉ F) : XsW w' q O v L :=
  ⟨h.qO, h.vO, h.blk.keep f (hF _ h.qO), h.row.keep f (fun g hg => hF _ (h.vO g hg)), fun i hi => Nat.lt_of_lt_of_le (h.lt i hi) f.size⟩
theorem XsW.keep_nil (h : XsW w q O v L) (f : Fr [] w w') : XsW w' q O v L := h.keep f (fun _ _ => by simp)
theorem XsD.keep (h : XsD w q O L) (f : Fr F w w') (hF : ∀ i ∈ O, i ∉ F) : XsD w' q O L := h.imp fun _ h => h.keep f hF
theorem XsD.keep_nil (h : XsD w q O L) (f : Fr [] w w') : XsD w' q O L := h.imp fun _ h => h.keep_nil f
theorem XsD.lts (h : XsD w q O L) : ∀ i ∈ O, i < w.heap.size := by obtain ⟨v, h⟩ := h; exact h.lt
theorem XsW.c0 (h : XsW w q O v L) : w.cell? ⟨q, 0, none⟩ = some v := h.blk.cell 0
theorem AftS.same (h : XsD w q O L) : AftS w q O L w := ⟨O, h, fun _ h => .inl h, Fr.refl _ _⟩
def GetC (r : Option ByteArray) (e : Ending) : Prop := e = .returned (.tuple #[.string (r.getD ⟨#[]⟩), .bool r.isSome])
theorem xsGet_any (h : XsD w q O L) (n : Int) : Calls Try.prog 31 #[.pointer (some ⟨q, 0, none⟩), .int .i64 n] w fun e w' => GetC (getL L n) e ∧ w = w' := by
  obtain ⟨v, h⟩ := h
  have c0 := h.c0
  have r := h.row
  obtain ⟨A, c, rfl, -, -, -, -, -⟩ := r.shape
  obtain ⟨N, hN⟩ : ∃ N, L.length = N := ⟨_, rfl⟩
  have hN64 : N ≤ 9223372036854775807 := by rw [← hN]; obtain ⟨_, _, _, h1, h2, -⟩ := r.shape; unfold maxLen at h2; omega
  have HR := Lib.hid r
  have HN := Lib.hid hN
  rw [hN] at c0
  clear h r hN
  go_enter Try.func31, Try.ntmps31
  go_wp2_with fail
  go_loop [6] (fun i => ∃ k : Nat, k ≤ N ∧ i = .int .i64 k ∧ ∀ j (h : j < L.length), j < k → L[j].1 ≠ n) (fun i => N - (intOf i).toNat)
  case atStart => exact ⟨0, by omega, rfl, fun j h hj => by omega⟩
  case round =>
    obtain ⟨k, hkN, rfl, hne⟩ := hrel
    by_cases hlt : k < N
    · have d0 : (k : Int) < N := by omega
      have hkl : k < L.length := by rw [HN.out]; exact hlt
      obtain ⟨g, rfl, q0, q1⟩ := qcells_row HR.out k hkl
      have HNE := Lib.hid hne
      obtain ⟨⟨y, t⟩, hyt⟩ : ∃ p, L[k] = p := ⟨_, rfl⟩
      rw [hyt] at q0 q1
      have HY := Lib.hid hyt
      clear hne hyt
      by_cases e : y = n
      · have de : (y == n) = true := by simpa using e
        have HG := Lib.hid (find_at hkl HNE.out (by rw [HY.out]; exact e)).1
        subst e
        go_wp2_with fail
        go_ret2
        refine ⟨?_, rfl⟩
        unfold GetC
        rw [HG.out, HY.out]
        rfl
      · have de : (y == n) = false := by simpa using e
        go_wp2_with fail
        go_round
        case rel =>
          refine ⟨k + 1, by omega, by go_num, fun j h hj => ?_⟩
          by_cases ej : j = k
          · subst ej; rw [HY.out]; exact e
          · exact HNE.out j h (by omega)
        case measure => simp [intOf]; omega
    · obtain rfl : k = N := by omega
      have d0 : ¬ ((k : Int) < k) := by omega
      have HG := Lib.hid (find_no (fun j h => hne j h (by rw [← HN.out]; exact h))).1
      clear hne
      go_wp2_with fail
      go_ret2
      refine ⟨?_, rfl⟩
      unfold GetC
      rw [HG.out]
      rfl
set_option maxHeartbeats 4000000 in
theorem xsDelete_any (h : XsD w q O L) (n : Int) (hLb : L.length ≤ 4611686018427) : Calls Try.prog 33 #[.pointer (some ⟨q, 0, none⟩), .int .i64 n] w fun e w' => e = .returned (.bool (getL L n).isSome) ∧ AftS w q O (delL L n) w' := by
  obtain ⟨v, h⟩ := h
  have HH := Lib.hid h
  have c0 := h.c0
  have r := h.row
  obtain ⟨A, c, rfl, hnc, -, -, -, -⟩ := r.shape
  obtain ⟨N, hN⟩ : ∃ N, L.length = N := ⟨_, rfl⟩
  have HR := Lib.hid r
  have HN := Lib.hid hN
  rw [hN] at c0 hLb hnc
  clear h r hN
  go_enter Try.func33, Try.ntmps33
  go_wp2_with fail
  go_loop [5] (fun i => ∃ k : Nat, k ≤ N ∧ i = .int .i64 k ∧ ∀ j (h : j < L.length), j < k → L[j].1 ≠ n) (fun i => N - (intOf i).toNat)
  case atStart => exact ⟨0, by omega, rfl, fun j h hj => by omega⟩
  case round =>
    obtain ⟨k, hkN, rfl, hne⟩ := hrel
    by_cases hlt : k < N
    · have d0 : (k : Int) < N := by omega
      have hkl : k < L.length := by rw [HN.out]; exact hlt
      obtain ⟨g, rfl, q0, -⟩ := qcells_row HR.out k hkl
      have HNE := Lib.hid hne
      obtain ⟨⟨y, t⟩, hyt⟩ : ∃ p, L[k] = p := ⟨_, rfl⟩
      rw [hyt] at q0
      have HY := Lib.hid hyt
      clear hne hyt
      by_cases e : y = n
      · have de : (y == n) = true := by simpa using e
        have hfa := find_at hkl HNE.out (by rw [HY.out]; exact e)
        have HG := Lib.hid (And.intro (show (getL L n).isSome = true by rw [hfa.1]; rfl) hfa.2)
        subst e
        have K1 : (k : Int) + 1 ≤ N := by omega
        have K2 : (k : Int) ≤ c := by omega
        go_upto_region 5 with fail
        refine wp_region_T 19 (S := fun w' => w'.cell? ⟨q, 0, none⟩ = some (.slice (some ⟨g, 0, none⟩) N c)) (by kernel_rfl) ?_
        obtain ⟨wD, hwD⟩ : ∃ wD, w.drew = wD := ⟨_, rfl⟩
        have fD : Fr [] w wD := by rw [← hwD]; exact (Fr.refl [] w).drew
        rw [hwD]
        have hHeld := fD.cell (by simp) c0
        have MK := Lib.hid (fun (w' : World) (f : Fr [] wD w') => f.cell (by simp) hHeld)
        have FC : Fr [] wD wD := Fr.refl _ _
        have FD := Lib.hid fD
        have RL := HR.out.keep_nil fD
        obtain ⟨B, hB⟩ : ∃ B, wD.heap.size = B := ⟨_, rfl⟩
        have HB := Lib.hid hB
        clear hwD fD c0 hB hfa
        refine takeT_w 0 (some 25) (v := ?_) rfl rfl (by kernel_rfl) (by kernel_rfl) (by kernel_rfl) (by kernel_rfl) (fun _ _ _ h => h) (by rfl) ?_ hHeld ?_
        rotate_left
        · (intro w hSw; (try dsimp only at hSw); go_simp; try with_reducible rfl)
        simp only [Act.put, List.setIfInBounds_toArray, List.set_cons_zero, List.set_cons_succ]
        refine takeT_w 2 (some 27) (v := ?_) rfl rfl (by kernel_rfl) (by kernel_rfl) (by kernel_rfl) (by kernel_rfl) (fun _ _ _ h => h) (by rfl) ?_ hHeld ?_
        rotate_left
        · (intro w hSw; (try dsimp only at hSw); go_simp; try with_reducible rfl)
        simp only [Act.put, List.setIfInBounds_toArray, List.set_cons_zero, List.set_cons_succ]
        refine takeT_w 3 (some 28) (v := ?_) rfl rfl (by kernel_rfl) (by kernel_rfl) (by kernel_rfl) (by kernel_rfl) (fun _ _ _ h => h) (by rfl) ?_ hHeld ?_
        rotate_left
        · (intro w hSw; (try dsimp only at hSw); go_simp; try with_reducible rfl)
        simp only [Act.put, List.setIfInBounds_toArray, List.set_cons_zero, List.set_cons_succ]
        refine takeT_w 4 (some 29) (v := ?_) rfl rfl (by kernel_rfl) (by kernel_rfl) (by kernel_rfl) (by kernel_rfl) (fun _ _ _ h => h) (by rfl) ?_ hHeld ?_
        rotate_left
        · (intro w hSw; (try dsimp only at hSw); go_simp; try with_reducible rfl)
        simp only [Act.put, List.setIfInBounds_toArray, List.set_cons_zero, List.set_cons_succ]
        refine takeT_w 5 (some 30) (v := ?_) rfl rfl (by kernel_rfl) (by kernel_rfl) (by kernel_rfl) (by kernel_rfl) (fun _ _ _ h => h) (by rfl) ?_ hHeld ?_
        rotate_left
        · (intro w hSw; (try dsimp only at hSw); go_simp; try with_reducible rfl)
        simp only [Act.put, List.setIfInBounds_toArray, List.set_cons_zero, List.set_cons_succ]
        refine takeT_w 6 (some 31) (v := ?_) rfl rfl (by kernel_rfl) (by kernel_rfl) (by kernel_rfl) (by kernel_rfl) (fun _ _ _ h => h) (by rfl) ?_ hHeld ?_
        rotate_left
        · (intro w hSw; (try dsimp only at hSw); go_simp; try with_reducible rfl)
        simp only [Act.put, List.setIfInBounds_toArray, List.set_cons_zero, List.set_cons_succ]
        have hqk : (qcells (L.take k)).length = k * 2 := by rw [qcells_len, List.length_take]; omega
        have hqd : (qcells (L.drop (k + 1))).length = (N - (k + 1)) * 2 := by rw [qcells_len, List.length_drop, HN.out]
        have RT : Rd wD (some ⟨g, 0, none⟩) (qcells (L.take k)) := by rw [qcells_take]; exact RL.rdD.1.take _
        have RB := RL.rdD.1.cutS (k + 1) c 2 (by rw [qcells_len, HN.out]; omega)
        rw [← qcells_drop] at RB
        have HQ := Lib.hid (And.intro hqk hqd)
        have HRT := Lib.hid RT
        clear hqk hqd RT
        by_cases hck : c = k + 1
        all_goals
          first | rw [if_pos hck] at RB | rw [if_neg hck, Option.map_some, addr_add, Nat.zero_add] at RB
          have HRB := Lib.hid RB
          clear RB
          have W1 : IntKind.i64.wrap ((k : Int) + 1) = (k : Int) + 1 := IntWalk.i64_in _ (by omega)
          have W2 : ((k : Int) + 1).toNat = k + 1 := by omega
          have W3 : (0 : Int) ≤ (k : Int) + 1 := by omega
          have W4 : (k : Int) ≤ (k : Int) + 1 := by omega
          refine takeT_w 7 (some 32) (v := ?_) rfl rfl (by kernel_rfl) (by kernel_rfl) (by kernel_rfl) (by kernel_rfl) (fun _ _ _ h => h) (by rfl) ?_ hHeld ?_
          rotate_left
          · (intro w hSw; (try dsimp only at hSw); go_simp; try with_reducible rfl)
          simp only [Act.put, List.setIfInBounds_toArray, List.set_cons_zero, List.set_cons_succ]
          refine takeT_w 9 (some 34) (v := ?_) rfl rfl (by kernel_rfl) (by kernel_rfl) (by kernel_rfl) (by kernel_rfl) (fun _ _ _ h => h) (by rfl) ?_ hHeld ?_
          rotate_left
          · (intro w hSw; (try dsimp only at hSw); go_simp; try with_reducible rfl)
          simp only [Act.put, List.setIfInBounds_toArray, List.set_cons_zero, List.set_cons_succ]
          refine takeT_w 10 (some 35) (v := ?_) rfl rfl (by kernel_rfl) (by kernel_rfl) (by kernel_rfl) (by kernel_rfl) (fun _ _ _ h => h) (by rfl) ?_ hHeld ?_
          rotate_left
          · (intro w hSw; (try dsimp only at hSw); go_simp; try with_reducible rfl)
          simp only [Act.put, List.setIfInBounds_toArray, List.set_cons_zero, List.set_cons_succ]
          refine takeT_w 11 (some 36) (v := ?_) rfl rfl (by kernel_rfl) (by kernel_rfl) (by kernel_rfl) (by kernel_rfl) (fun _ _ _ h => h) (by rfl) ?_ hHeld ?_
          rotate_left
          · (intro w hSw; (try dsimp only at hSw); go_simp; try with_reducible rfl)
          simp only [Act.put, List.setIfInBounds_toArray, List.set_cons_zero, List.set_cons_succ]
          refine takeT_w 12 (some 37) (v := ?_) rfl rfl (by kernel_rfl) (by kernel_rfl) (by kernel_rfl) (by kernel_rfl) (fun _ _ _ h => h) (by rfl) ?_ hHeld ?_
          rotate_left
          · (intro w hSw; (try dsimp only at hSw); go_simp; try with_reducible rfl)
          simp only [Act.put, List.setIfInBounds_toArray, List.set_cons_zero, List.set_cons_succ]
          refine takeT_w 13 (some 38) (v := ?_) rfl rfl (by kernel_rfl) (by kernel_rfl) (by kernel_rfl) (by kernel_rfl) (fun _ _ _ h => h) (by rfl) ?_ hHeld ?_
          rotate_left
          · (intro w hSw; (try dsimp only at hSw); go_simp; try with_reducible rfl)
          simp only [Act.put, List.setIfInBounds_toArray, List.set_cons_zero, List.set_cons_succ]
          refine takeT_w 14 (some 39) (v := ?_) rfl rfl (by kernel_rfl) (by kernel_rfl) (by kernel_rfl) (by kernel_rfl) (fun _ _ _ h => h) (by rfl) ?_ hHeld ?_
          rotate_left
          · (intro w hSw; (try dsimp only at hSw); go_simp; try with_reducible rfl)
          simp only [Act.put, List.setIfInBounds_toArray, List.set_cons_zero, List.set_cons_succ]
          refine takeT_w 15 (some 40) (v := ?_) rfl rfl (by kernel_rfl) (by kernel_rfl) (by kernel_rfl) (by kernel_rfl) (fun _ _ _ h => h) (by rfl) ?_ hHeld ?_
          rotate_left
          · (intro w hSw; (try dsimp only at hSw); go_simp; try with_reducible rfl)
          simp only [Act.put, List.setIfInBounds_toArray, List.set_cons_zero, List.set_cons_succ]
          clear W1 W2 W3 W4
          refine takeT_c 1 rfl (by kernel_rfl) (by rfl) (fun K hK => ?_)
          go_simp
          have fN : Fr [] wD (wD.alloc (.cells #[] 106)) := (Fr.refl [] wD).alloc _
          have R0 : Row (wD.alloc (.cells #[] 106)) B 106 2 (.slice (some ⟨wD.heap.size, 0, none⟩) 0 0) 0 [] := Row.new wD #[] 106 2 0 (0, 0) (free_zero _) (by unfold maxLen; omega) rfl (by have := FC.size; have := HB.out; omega)
          (try (have hne0 := (R17.lt _ rfl).2; dsimp only at hne0; have hne := Ne.symm (Nat.ne_of_lt hne0); clear hne0))
          (try replace R17 := R17.keep_nil fN)
          refine hK.out _ _ (fun _ => MK.out _ (FC.trans_nil fN)) (fun hHx => ?_)
          replace FC := FC.trans_nil fN
          clear hK hHeld
          have hHeld := hHx (by decide)
          clear hHx
          try simp only [Act.put, List.setIfInBounds_toArray, List.set_cons_zero, List.set_cons_succ]
          clear fN
          generalize wD.alloc (.cells #[] 106) = w1 at *
          refine takeT_c 8 rfl (by kernel_rfl) (by rfl) (fun K hK => ?_)
          refine wp_app rfl slPair B _ (0) ([]) rfl R0 _ _ _ (qcells (L.take k)) rfl (HQ.out.1) (HRT.out.keep_nil FC) (qcells_one _) (fun h => (by cases h)) (by omega) (by have := FC.size; have := HB.out; omega) (fun v8 w8 p1 p2 p3 p4 => ?_)
          have R8 : Row w8 B 106 2 v8 (k) (qcells (L.take k)) := by simpa using p1
          obtain ⟨A8, c8, rfl, -, -, -, -, -⟩ := R8.shape
          refine hK.out _ _ (fun h => MK.out _ (FC.trans p2 (fun i hi => .inr (by have := (R0.lt i (mem_own.1 hi)).1; have := HB.out; omega)))) (fun hHx => ?_)
          replace FC := FC.trans p2 (fun i hi => .inr (by have := (R0.lt i (mem_own.1 hi)).1; have := HB.out; omega))
          clear hK hHeld
          have hHeld := hHx (by decide)
          clear hHx
          try simp only [Act.put, List.setIfInBounds_toArray, List.set_cons_zero, List.set_cons_succ]
          clear p1 p2 p3 p4
          refine takeT_c 16 rfl (by kernel_rfl) (by rfl) (fun K hK => ?_)
          refine wp_app rfl slPair B _ (k) (qcells (L.take k)) rfl R8 _ _ _ (qcells (L.drop (k + 1))) rfl (HQ.out.2) (HRB.out.keep_nil FC) (qcells_one _) (fun h => (by cases h)) (by omega) (by have := FC.size; have := HB.out; omega) (fun v16 w16 p1 p2 p3 p4 => ?_)
          have R16 : Row w16 B 106 2 v16 ((delL L y).length) (qcells (delL L y)) := by rw [HG.out.2, qcells_app, List.length_append, List.length_take, List.length_drop, HN.out, show min k N = k by omega]; exact p1
          obtain ⟨A16, c16, rfl, -, -, -, -, -⟩ := R16.shape
          refine hK.out _ _ (fun h => MK.out _ (FC.trans p2 (fun i hi => .inr (by have := (R8.lt i (mem_own.1 hi)).1; have := HB.out; omega)))) (fun hHx => ?_)
          replace FC := FC.trans p2 (fun i hi => .inr (by have := (R8.lt i (mem_own.1 hi)).1; have := HB.out; omega))
          clear hK hHeld
          have hHeld := hHx (by decide)
          clear hHx
          try simp only [Act.put, List.setIfInBounds_toArray, List.set_cons_zero, List.set_cons_succ]
          clear p1 p2 p3 p4
          refine takeT_c 17 rfl (by kernel_rfl) (by rfl) (fun K hK => ?_)
          go_simp
          refine hK.out _ _ (fun _ => hHeld) (fun hHx => ?_)
          clear hHx hK
          try simp only [Act.put, List.setIfInBounds_toArray, List.set_cons_zero, List.set_cons_succ]
          refine takeT_c 18 rfl (by kernel_rfl) (by rfl) (fun K hK => ?_)
          go_simp
          refine hK.out _ _ (fun _ => hHeld) (fun hHx => ?_)
          clear hHx hK
          try simp only [Act.put, List.setIfInBounds_toArray, List.set_cons_zero, List.set_cons_succ]
          have fW : Fr [] w w16 := FD.out.trans_nil FC
          have hW := HH.out.keep_nil fW
          have hold := hW.c0
          have P3 := hW.blk.frozen 0
          have kb := hW.blk.set_ 0 (.slice A16 (delL L y).length c16)
          have fS : Fr [q] w16 (w16.setCell ⟨q, 0, none⟩ (.slice A16 (delL L y).length c16)) := (Fr.refl [q] w16).setCell (.inl (by simp)) _
          have rS := (R16.mono (Nat.zero_le _)).keep fS (fun g hg hm => by rw [List.mem_singleton.1 hm] at hg; exact R16.ne_blk hW.blk (by decide) hg)
          have hFin : AftS w q O (delL L y) (w16.setCell ⟨q, 0, none⟩ (.slice A16 (delL L y).length c16)) := by
            refine ⟨q :: (Value.slice A16 (delL L y).length c16).ownBlock.toList, ⟨_, List.mem_cons_self, fun g hg => List.mem_cons_of_mem _ (mem_own.2 hg), kb, rS, fun i hi => ?_⟩, fun i hi => ?_, (fW.mono (by simp)).trans fS (fun i hi => .inl hi)⟩
            · rcases List.mem_cons.1 hi with rfl | hi
              · exact Nat.lt_of_lt_of_le hW.blk.lt fS.size
              · exact (rS.lt i (mem_own.1 hi)).2
            · rcases List.mem_cons.1 hi with rfl | hi
              · exact .inl HH.out.qO
              · have h1 := (R16.lt i (mem_own.1 hi)).1
                have := HB.out
                have := FD.out.size
                exact .inr (by omega)
          have HF := Lib.hid hFin
          refine takeT_c 19 rfl (by kernel_rfl) (by rfl) (fun K hK => ?_)
          refine wp_st1 rfl (by kernel_rfl) q 0 rfl (.slice A16 (delL L y).length c16) rfl rfl rfl hold P3 ?_
          refine hK.out _ _ (fun h => absurd rfl h) (fun hHx => ?_)
          clear hHx hK hHeld hold P3 kb fS rS hFin hW fW R16 R8 R0 FC
          refine wpAnyT_done (by kernel_rfl) ?_ _
          go_wp2_with fail
          go_ret
          exact ⟨by rw [HG.out.1]; rfl, HF.out⟩
      · have de : (y == n) = false := by simpa using e
        go_wp2_with fail
        go_round
        case rel =>
          refine ⟨k + 1, by omega, by go_num, fun j h hj => ?_⟩
          by_cases ej : j = k
          · subst ej; rw [HY.out]; exact e
          · exact HNE.out j h (by omega)
        case measure => simp [intOf]; omega
    · obtain rfl : k = N := by omega
      have d0 : ¬ ((k : Int) < k) := by omega
      have hfn := find_no (fun j h => hne j h (by rw [← HN.out]; exact h))
      have HG := Lib.hid (And.intro (show (getL L n).isSome = false by rw [hfn.1]; rfl) hfn.2)
      clear hne hfn
      go_wp2_with fail
      go_ret
      exact ⟨by rw [HG.out.1]; rfl, by rw [HG.out.2]; exact AftS.same ⟨_, HH.out⟩⟩
def setL (L : List PairB) (n : Int) (t : ByteArray) : List PairB := (delL L n).takeWhile (fun p => decide (p.1 < n)) ++ [(n, t)] ++ (delL L n).dropWhile (fun p => decide (p.1 < n))
theorem tw_at {M : List PairB} {n : Int} {k : Nat} (hk : k ≤ M.length) (hlt : ∀ j (h : j < M.length), j < k → M[j].1 < n) (he : ∀ h : k < M.length, ¬ M[k].1 < n) : M.takeWhile (fun p => decide (p.1 < n)) = M.take k ∧ M.dropWhile (fun p => decide (p.1 < n)) = M.drop k := by
  induction M generalizing k with
  | nil => simp
  | cons p r ih =>
    cases k with
    | zero =>
      have h0 : ¬ p.1 < n := he (by simp)
      simp [h0]
    | succ k =>
      have h0 : p.1 < n := hlt 0 (by simp) (by omega)
      obtain ⟨h1, h2⟩ := ih (k := k) (by simpa using hk) (fun j h hj => hlt (j + 1) (by simpa using h) (by omega)) (fun h => he (by simpa using h))
      simp [h0, h1, h2]
theorem delL_le (L : List PairB) (n : Int) : (delL L n).length ≤ L.length := List.length_eraseP_le
theorem none_of {A : Option Addr} {p : Prop} [Decidable p] {f : Addr → Addr} (h : (if p then A else A.map f) = none) : A = none := by
  cases A with
  | none => rfl
  | some a => split at h <;> simp at h
set_option maxHeartbeats 4000000 in
theorem xsSet_any (h : XsD w q O L) (n : Int) (t : ByteArray) (hLb : L.length ≤ 4611686018426) : Calls Try.prog 29 #[.pointer (some ⟨q, 0, none⟩), .int .i64 n, .string t] w fun e w' => e = .returned (.tuple #[]) ∧ AftS w q O (setL L n t) w' := by
  have cd := xsDelete_any h n (by omega)
  have hq : q ∈ O := by obtain ⟨v, h⟩ := h; exact h.qO
  have hle := delL_le L n
  obtain ⟨M, hM⟩ : ∃ M, delL L n = M := ⟨_, rfl⟩
  rw [hM] at cd hle
  have HM := Lib.hid hM
  have HQO := Lib.hid hq
  have hMb : M.length ≤ 4611686018426 := by omega
  clear h hM hle hLb hq
  go_enter Try.func29, Try.ntmps29
  go_wp2_with fail
  refine cd.mono ?_
  rintro e w1 ⟨rfl, O1, ⟨v, h⟩, hO1, F1⟩
  have HH := Lib.hid h
  have HF1 := Lib.hid (And.intro HQO.out F1)
  have c0 := h.c0
  have r := h.row
  obtain ⟨A, c, rfl, hnc, -, -, -, -⟩ := r.shape
  obtain ⟨N, hN⟩ : ∃ N, M.length = N := ⟨_, rfl⟩
  have HR := Lib.hid r
  have HN := Lib.hid hN
  rw [hN] at c0 hMb hnc
  clear h r hN cd F1 hO1
  go_wp2_with fail
  go_loop [6] (fun i => ∃ k : Nat, k ≤ N ∧ i = .int .i64 k ∧ ∀ j (h : j < M.length), j < k → M[j].1 < n) (fun i => N - (intOf i).toNat)
  case atStart => exact ⟨0, by omega, rfl, fun j h hj => by omega⟩
  case round =>
    obtain ⟨k, hkN, rfl, hne⟩ := hrel
    by_cases hlt : k < N
    · have d0 : (k : Int) < N := by omega
      have hkl : k < M.length := by rw [HN.out]; exact hlt
      obtain ⟨g, hA, q0, -⟩ := qcells_row HR.out k hkl
      obtain ⟨⟨y, u⟩, hyt⟩ : ∃ p, M[k] = p := ⟨_, rfl⟩
      rw [hyt] at q0
      by_cases e : y < n
      · have HNE := Lib.hid hne
        have HY := Lib.hid hyt
        have de : decide (y < n) = true := by simpa using e
        subst hA
        clear hne hyt
        go_wp2_with fail
        go_round
        case rel =>
          refine ⟨k + 1, by omega, by go_num, fun j h hj => ?_⟩
          by_cases ej : j = k
          · subst ej; rw [HY.out]; exact e
          · exact HNE.out j h (by omega)
        case measure => simp [intOf]; omega
      · have htw := tw_at (n := n) (by omega) hne (fun h => by rw [hyt]; exact e)
        have de : decide (y < n) = false := by simpa using e
        have HA2 := Lib.hid hA
        clear hne hyt hkl
        subst hA
        go_wp2_with fail
        have HSL := Lib.hid (show setL L n t = M.take k ++ [(n, t)] ++ M.drop k by unfold setL; rw [HM.out, htw.1, htw.2])
        have hqk : (qcells (M.take k)).length = k * 2 := by rw [qcells_len, List.length_take, HN.out]; omega
        have hqd : (qcells (M.drop k)).length = (N - k) * 2 := by rw [qcells_len, List.length_drop, HN.out]
        have HQ := Lib.hid (And.intro hqk hqd)
        have HNL := Lib.hid (And.intro (show (some (⟨g, 0, none⟩ : Addr)) = none → k = 0 from fun h => by have := HR.out.rdD.2.2 h; rw [HN.out] at this; omega) (show (if c = k then (some (⟨g, 0, none⟩ : Addr)) else ((some (⟨g, 0, none⟩ : Addr))).map (·.add (k * 2))) = none → N - k = 0 from fun h => by
          have hA : (some (⟨g, 0, none⟩ : Addr)) = none := none_of h
          have := HR.out.rdD.2.2 hA
          rw [HN.out] at this
          omega))
        clear hqk hqd htw
        go_upto_region 4 with fail
        refine wp_region_T 23 (S := fun w' => w'.cell? ⟨q, 0, none⟩ = some (.slice (some (⟨g, 0, none⟩ : Addr)) N c)) (by kernel_rfl) ?_
        obtain ⟨wD, hwD⟩ : ∃ wD, w1.drew = wD := ⟨_, rfl⟩
        have fD : Fr [] w1 wD := by rw [← hwD]; exact (Fr.refl [] w1).drew
        rw [hwD]
        have hHeld := fD.cell (by simp) c0
        have MK := Lib.hid (fun (w' : World) (f : Fr [] wD w') => f.cell (by simp) hHeld)
        have FC : Fr [] wD wD := Fr.refl _ _
        have FD := Lib.hid fD
        have RL := HR.out.keep_nil fD
        obtain ⟨B, hB⟩ : ∃ B, wD.heap.size = B := ⟨_, rfl⟩
        have HB := Lib.hid hB
        have HRT := Lib.hid (show Rd wD (some (⟨g, 0, none⟩ : Addr)) (qcells (M.take k)) by rw [qcells_take]; exact RL.rdD.1.take _)
        have RB := RL.rdD.1.cutS k c 2 (by rw [qcells_len, HN.out]; omega)
        rw [← qcells_drop] at RB
        obtain ⟨A7, hA7⟩ : ∃ A7, (if c = k then (some (⟨g, 0, none⟩ : Addr)) else ((some (⟨g, 0, none⟩ : Addr))).map (·.add (k * 2))) = A7 := ⟨_, rfl⟩
        rw [hA7] at RB
        have HN7 := Lib.hid (show A7 = none → N - k = 0 from fun h => HNL.out.2 (hA7.trans h))
        have H7 := Lib.hid hA7
        have HRB := Lib.hid RB
        clear hwD fD c0 hB RL RB hA7
        refine takeT_w 0 (some 31) (v := ?_) rfl rfl (by kernel_rfl) (by kernel_rfl) (by kernel_rfl) (by kernel_rfl) (fun _ _ _ h => h) (by rfl) ?_ hHeld ?_
        rotate_left
        · (intro w hSw; (try dsimp only at hSw); go_simp; try with_reducible rfl)
        simp only [Act.put, List.setIfInBounds_toArray, List.set_cons_zero, List.set_cons_succ]
        refine takeT_w 2 (some 33) (v := ?_) rfl rfl (by kernel_rfl) (by kernel_rfl) (by kernel_rfl) (by kernel_rfl) (fun _ _ _ h => h) (by rfl) ?_ hHeld ?_
        rotate_left
        · (intro w hSw; (try dsimp only at hSw); go_simp; try with_reducible rfl)
        simp only [Act.put, List.setIfInBounds_toArray, List.set_cons_zero, List.set_cons_succ]
        refine takeT_w 3 (some 34) (v := ?_) rfl rfl (by kernel_rfl) (by kernel_rfl) (by kernel_rfl) (by kernel_rfl) (fun _ _ _ h => h) (by rfl) ?_ hHeld ?_
        rotate_left
        · (intro w hSw; (try dsimp only at hSw); go_simp; try with_reducible rfl)
        simp only [Act.put, List.setIfInBounds_toArray, List.set_cons_zero, List.set_cons_succ]
        refine takeT_w 4 (some 35) (v := ?_) rfl rfl (by kernel_rfl) (by kernel_rfl) (by kernel_rfl) (by kernel_rfl) (fun _ _ _ h => h) (by rfl) ?_ hHeld ?_
        rotate_left
        · (intro w hSw; (try dsimp only at hSw); go_simp; try with_reducible rfl)
        simp only [Act.put, List.setIfInBounds_toArray, List.set_cons_zero, List.set_cons_succ]
        refine takeT_w 5 (some 36) (v := ?_) rfl rfl (by kernel_rfl) (by kernel_rfl) (by kernel_rfl) (by kernel_rfl) (fun _ _ _ h => h) (by rfl) ?_ hHeld ?_
        rotate_left
        · (intro w hSw; (try dsimp only at hSw); go_simp; try with_reducible rfl)
        simp only [Act.put, List.setIfInBounds_toArray, List.set_cons_zero, List.set_cons_succ]
        refine takeT_w 6 (some 37) (v := ?_) rfl rfl (by kernel_rfl) (by kernel_rfl) (by kernel_rfl) (by kernel_rfl) (fun _ _ _ h => h) (by rfl) ?_ hHeld ?_
        rotate_left
        · (intro w hSw; (try dsimp only at hSw); go_simp; try with_reducible rfl)
        simp only [Act.put, List.setIfInBounds_toArray, List.set_cons_zero, List.set_cons_succ]
        refine takeT_w 9 (some 40) (v := ?_) rfl rfl (by kernel_rfl) (by kernel_rfl) (by kernel_rfl) (by kernel_rfl) (fun _ _ _ h => h) (by rfl) ?_ hHeld ?_
        rotate_left
        · (intro w hSw; (try dsimp only at hSw); go_simp; try with_reducible rfl)
        simp only [Act.put, List.setIfInBounds_toArray, List.set_cons_zero, List.set_cons_succ]
        refine takeT_w 10 (some 41) (v := ?_) rfl rfl (by kernel_rfl) (by kernel_rfl) (by kernel_rfl) (by kernel_rfl) (fun _ _ _ h => h) (by rfl) ?_ hHeld ?_
        rotate_left
        · (intro w hSw; (try dsimp only at hSw); go_simp; try with_reducible rfl)
        simp only [Act.put, List.setIfInBounds_toArray, List.set_cons_zero, List.set_cons_succ]
        refine takeT_w 11 (some 42) (v := ?_) rfl rfl (by kernel_rfl) (by kernel_rfl) (by kernel_rfl) (by kernel_rfl) (fun _ _ _ h => h) (by rfl) ?_ hHeld ?_
        rotate_left
        · (intro w hSw; (try dsimp only at hSw); go_simp; try with_reducible rfl)
        simp only [Act.put, List.setIfInBounds_toArray, List.set_cons_zero, List.set_cons_succ]
        refine takeT_w 14 (some 45) (v := ?_) rfl rfl (by kernel_rfl) (by kernel_rfl) (by kernel_rfl) (by kernel_rfl) (fun _ _ _ h => h) (by rfl) ?_ hHeld ?_
        rotate_left
        · (intro w hSw; (try dsimp only at hSw); go_simp; try with_reducible rfl)
        simp only [Act.put, List.setIfInBounds_toArray, List.set_cons_zero, List.set_cons_succ]
        refine takeT_w 15 (some 46) (v := ?_) rfl rfl (by kernel_rfl) (by kernel_rfl) (by kernel_rfl) (by kernel_rfl) (fun _ _ _ h => h) (by rfl) ?_ hHeld ?_
        rotate_left
        · (intro w hSw; (try dsimp only at hSw); go_simp; try with_reducible rfl)
        simp only [Act.put, List.setIfInBounds_toArray, List.set_cons_zero, List.set_cons_succ]
        refine takeT_w 16 (some 47) (v := ?_) rfl rfl (by kernel_rfl) (by kernel_rfl) (by kernel_rfl) (by kernel_rfl) (fun _ _ _ h => h) (by rfl) ?_ hHeld ?_
        rotate_left
        · (intro w hSw; (try dsimp only at hSw); go_simp; try with_reducible rfl)
        simp only [Act.put, List.setIfInBounds_toArray, List.set_cons_zero, List.set_cons_succ]
        refine takeT_w 17 (some 48) (v := ?_) rfl rfl (by kernel_rfl) (by kernel_rfl) (by kernel_rfl) (by kernel_rfl) (fun _ _ _ h => h) (by rfl) ?_ hHeld ?_
        rotate_left
        · (intro w hSw; (try dsimp only at hSw); go_simp; try with_reducible rfl)
        simp only [Act.put, List.setIfInBounds_toArray, List.set_cons_zero, List.set_cons_succ]
        refine takeT_w 18 (some 49) (v := ?_) rfl rfl (by kernel_rfl) (by kernel_rfl) (by kernel_rfl) (by kernel_rfl) (fun _ _ _ h => h) (by rfl) ?_ hHeld ?_
        rotate_left
        · (intro w hSw; (try dsimp only at hSw); go_simp; try with_reducible rfl)
        simp only [Act.put, List.setIfInBounds_toArray, List.set_cons_zero, List.set_cons_succ]
        refine takeT_w 7 (some 38) (v := .slice (some (⟨g, 0, none⟩ : Addr)) k c) rfl rfl (by kernel_rfl) (by kernel_rfl) (by kernel_rfl) (by kernel_rfl) (fun _ _ _ h => h) (by rfl) (fun w _ => hy_sliceH (s := 2) Try.underlying58 (by kernel_rfl) rfl rfl k rfl (by omega)) hHeld ?_
        try simp only [Act.put, List.setIfInBounds_toArray, List.set_cons_zero, List.set_cons_succ]
        refine takeT_w 19 (some 50) (v := .slice A7 (N - k) (c - k)) rfl rfl (by kernel_rfl) (by kernel_rfl) (by kernel_rfl) (by kernel_rfl) (fun _ _ _ h => h) (by rfl) (fun w _ => (hy_sliceL (s := 2) Try.underlying58 (by kernel_rfl) rfl rfl k rfl (by omega)).trans (by rw [H7.out])) hHeld ?_
        try simp only [Act.put, List.setIfInBounds_toArray, List.set_cons_zero, List.set_cons_succ]
        refine takeT_2 1 12 rfl rfl (by kernel_rfl) (by rfl) (by rfl) (fun K hK => ?_) (fun K hK => ?_)
        ·
          go_simp
          have fN : Fr [] wD (wD.alloc (.cells #[] 106)) := (Fr.refl [] wD).alloc _
          have R0 : Row (wD.alloc (.cells #[] 106)) B 106 2 (.slice (some ⟨wD.heap.size, 0, none⟩) 0 0) 0 [] := Row.new wD #[] 106 2 0 (0, 0) (free_zero _) (by unfold maxLen; omega) rfl (by have := FC.size; have := HB.out; omega)
          (try (have hne0 := (R17.lt _ rfl).2; dsimp only at hne0; have hne := Ne.symm (Nat.ne_of_lt hne0); clear hne0))
          (try replace R17 := R17.keep_nil fN)
          refine hK.out _ _ (fun _ => MK.out _ (FC.trans_nil fN)) (fun hHx => ?_)
          replace FC := FC.trans_nil fN
          clear hK hHeld
          have hHeld := hHx (by decide)
          clear hHx
          try simp only [Act.put, List.setIfInBounds_toArray, List.set_cons_zero, List.set_cons_succ]
          clear fN
          generalize wD.alloc (.cells #[] 106) = w5 at *
          refine takeT_2 8 12 rfl rfl (by kernel_rfl) (by rfl) (by rfl) (fun K hK => ?_) (fun K hK => ?_)
          ·
            refine wp_app rfl slPair B _ 0 [] rfl R0 _ _ _ (qcells (M.take k)) rfl HQ.out.1 (HRT.out.keep_nil FC) (qcells_one _) HNL.out.1 (by omega) (by have := FC.size; have := HB.out; omega) (fun v8 w8 p1 p2 p3 p4 => ?_)
            have R8 : Row w8 B 106 2 v8 k (qcells (M.take k)) := by simpa using p1
            obtain ⟨A8, c8, rfl, -, -, -, -, -⟩ := R8.shape
            refine hK.out _ _ (fun h => MK.out _ (FC.trans p2 (fun i hi => .inr (by have := (R0.lt i (mem_own.1 hi)).1; have := HB.out; omega)))) (fun hHx => ?_)
            replace FC := FC.trans p2 (fun i hi => .inr (by have := (R0.lt i (mem_own.1 hi)).1; have := HB.out; omega))
            clear hK hHeld
            have hHeld := hHx (by decide)
            clear hHx
            try simp only [Act.put, List.setIfInBounds_toArray, List.set_cons_zero, List.set_cons_succ]
            refine takeT_c 12 rfl (by kernel_rfl) (by rfl) (fun K hK => ?_)
            go_simp
            have fN : Fr [] w8 (w8.alloc (.cells #[.int .i64 n, .string t] 106)) := (Fr.refl [] w8).alloc _
            have R17 : Row (w8.alloc (.cells #[.int .i64 n, .string t] 106)) B 106 2 (.slice (some ⟨w8.heap.size, 0, none⟩) 1 1) 1 (qcells [(n, t)]) := Row.new w8 #[.int .i64 n, .string t] 106 2 1 (0, 0) (free_zero _) (by unfold maxLen; omega) rfl (by have := FC.size; have := HB.out; omega)
            (try (have hne0 := (R0.lt _ rfl).2; dsimp only at hne0; have hne := Nat.ne_of_lt hne0; clear hne0))
            (try replace R0 := R0.keep_nil fN)
            (try replace R8 := R8.keep_nil fN)
            refine hK.out _ _ (fun _ => MK.out _ (FC.trans_nil fN)) (fun hHx => ?_)
            replace FC := FC.trans_nil fN
            clear hK hHeld
            have hHeld := hHx (by decide)
            clear hHx
            try simp only [Act.put, List.setIfInBounds_toArray, List.set_cons_zero, List.set_cons_succ]
            clear fN
            generalize w8.alloc (.cells #[.int .i64 n, .string t] 106) = w17 at *
            refine takeT_c 13 rfl (by kernel_rfl) (by rfl) (fun K hK => ?_)
            refine wp_app rfl slPair B _ (k) (qcells (M.take k)) rfl R8 _ _ _ (qcells [(n, t)]) rfl (rfl) (R17.rdD.1) (qcells_one _) (fun h => (by cases h)) (by omega) (by have := FC.size; have := HB.out; omega) (fun v13 w13 p1 p2 p3 p4 => ?_)
            have R13 : Row w13 B 106 2 v13 (k + 1) (qcells (M.take k) ++ qcells [(n, t)]) := p1
            obtain ⟨A13, c13, rfl, -, -, -, -, -⟩ := R13.shape
            refine hK.out _ _ (fun h => MK.out _ (FC.trans p2 (fun i hi => .inr (by have := (R8.lt i (mem_own.1 hi)).1; have := HB.out; omega)))) (fun hHx => ?_)
            replace FC := FC.trans p2 (fun i hi => .inr (by have := (R8.lt i (mem_own.1 hi)).1; have := HB.out; omega))
            clear hK hHeld
            have hHeld := hHx (by decide)
            clear hHx
            try simp only [Act.put, List.setIfInBounds_toArray, List.set_cons_zero, List.set_cons_succ]
            clear p1 p2 p3 p4
            refine takeT_c 20 rfl (by kernel_rfl) (by rfl) (fun K hK => ?_)
            refine wp_app rfl slPair B _ (k + 1) (qcells (M.take k) ++ qcells [(n, t)]) rfl R13 _ _ _ (qcells (M.drop k)) rfl (HQ.out.2) (HRB.out.keep_nil FC) (qcells_one _) (HN7.out) (by omega) (by have := FC.size; have := HB.out; omega) (fun v20 w20 p1 p2 p3 p4 => ?_)
            have R20 : Row w20 B 106 2 v20 ((setL L n t).length) (qcells (setL L n t)) := by rw [HSL.out, qcells_app, qcells_app, List.length_append, List.length_append, List.length_take, List.length_drop, HN.out, show min k N = k by omega]; exact p1
            obtain ⟨A20, c20, rfl, -, -, -, -, -⟩ := R20.shape
            refine hK.out _ _ (fun h => MK.out _ (FC.trans p2 (fun i hi => .inr (by have := (R13.lt i (mem_own.1 hi)).1; have := HB.out; omega)))) (fun hHx => ?_)
            replace FC := FC.trans p2 (fun i hi => .inr (by have := (R13.lt i (mem_own.1 hi)).1; have := HB.out; omega))
            clear hK hHeld
            have hHeld := hHx (by decide)
            clear hHx
            try simp only [Act.put, List.setIfInBounds_toArray, List.set_cons_zero, List.set_cons_succ]
            clear p1 p2 p3 p4
            refine takeT_c 21 rfl (by kernel_rfl) (by rfl) (fun K hK => ?_)
            go_simp
            refine hK.out _ _ (fun _ => hHeld) (fun hHx => ?_)
            clear hHx hK
            try simp only [Act.put, List.setIfInBounds_toArray, List.set_cons_zero, List.set_cons_succ]
            refine takeT_c 22 rfl (by kernel_rfl) (by rfl) (fun K hK => ?_)
            go_simp
            refine hK.out _ _ (fun _ => hHeld) (fun hHx => ?_)
            clear hHx hK
            try simp only [Act.put, List.setIfInBounds_toArray, List.set_cons_zero, List.set_cons_succ]
            have fW : Fr [] w1 w20 := FD.out.trans_nil FC
            have hW := HH.out.keep_nil fW
            have hold := hW.c0
            have P3 := hW.blk.frozen 0
            have kb := hW.blk.set_ 0 (.slice A20 (setL L n t).length c20)
            have fS : Fr [q] w20 (w20.setCell ⟨q, 0, none⟩ (.slice A20 (setL L n t).length c20)) := (Fr.refl [q] w20).setCell (.inl (by simp)) _
            have rS := (R20.mono (Nat.zero_le _)).keep fS (fun g hg hm => by rw [List.mem_singleton.1 hm] at hg; exact R20.ne_blk hW.blk (by decide) hg)
            have hFin : AftS w q O (setL L n t) (w20.setCell ⟨q, 0, none⟩ (.slice A20 (setL L n t).length c20)) := by
              refine ⟨q :: (Value.slice A20 (setL L n t).length c20).ownBlock.toList, ⟨_, List.mem_cons_self, fun g hg => List.mem_cons_of_mem _ (mem_own.2 hg), kb, rS, fun i hi => ?_⟩, fun i hi => ?_, (HF1.out.2.trans_nil fW).trans fS (fun i hi => .inl hi)⟩
              · rcases List.mem_cons.1 hi with rfl | hi
                · exact Nat.lt_of_lt_of_le hW.blk.lt fS.size
                · exact (rS.lt i (mem_own.1 hi)).2
              · rcases List.mem_cons.1 hi with rfl | hi
                · exact .inl HF1.out.1
                · have h1 := (R20.lt i (mem_own.1 hi)).1
                  have := HB.out
                  have := FD.out.size
                  have := HF1.out.2.size
                  exact .inr (by omega)
            have HF := Lib.hid hFin
            refine takeT_c 23 rfl (by kernel_rfl) (by rfl) (fun K hK => ?_)
            refine wp_st1 rfl (by kernel_rfl) q 0 rfl (.slice A20 (setL L n t).length c20) rfl rfl rfl hold P3 ?_
            refine hK.out _ _ (fun h => absurd rfl h) (fun hHx => ?_)
            clear hHx hK hHeld hold P3 kb fS rS hFin hW fW R20 R13 R8 R17 FC
            refine wpAnyT_done (by kernel_rfl) ?_ _
            go_wp2_with fail
            go_returns
            exact ⟨rfl, HF.out⟩
          ·
            go_simp
            have fN : Fr [] w5 (w5.alloc (.cells #[.int .i64 n, .string t] 106)) := (Fr.refl [] w5).alloc _
            have R17 : Row (w5.alloc (.cells #[.int .i64 n, .string t] 106)) B 106 2 (.slice (some ⟨w5.heap.size, 0, none⟩) 1 1) 1 (qcells [(n, t)]) := Row.new w5 #[.int .i64 n, .string t] 106 2 1 (0, 0) (free_zero _) (by unfold maxLen; omega) rfl (by have := FC.size; have := HB.out; omega)
            (try (have hne0 := (R0.lt _ rfl).2; dsimp only at hne0; have hne := Nat.ne_of_lt hne0; clear hne0))
            (try replace R0 := R0.keep_nil fN)
            (try replace R8 := R8.keep_nil fN)
            refine hK.out _ _ (fun _ => MK.out _ (FC.trans_nil fN)) (fun hHx => ?_)
            replace FC := FC.trans_nil fN
            clear hK hHeld
            have hHeld := hHx (by decide)
            clear hHx
            try simp only [Act.put, List.setIfInBounds_toArray, List.set_cons_zero, List.set_cons_succ]
            clear fN
            generalize w5.alloc (.cells #[.int .i64 n, .string t] 106) = w17 at *
            refine takeT_c 8 rfl (by kernel_rfl) (by rfl) (fun K hK => ?_)
            refine wp_app rfl slPair B _ 0 [] rfl R0 _ _ _ (qcells (M.take k)) rfl HQ.out.1 (HRT.out.keep_nil FC) (qcells_one _) HNL.out.1 (by omega) (by have := FC.size; have := HB.out; omega) (fun v8 w8 p1 p2 p3 p4 => ?_)
            have R8 : Row w8 B 106 2 v8 k (qcells (M.take k)) := by simpa using p1
            obtain ⟨A8, c8, rfl, -, -, -, -, -⟩ := R8.shape
            refine hK.out _ _ (fun h => MK.out _ (FC.trans p2 (fun i hi => .inr (by have := (R0.lt i (mem_own.1 hi)).1; have := HB.out; omega)))) (fun hHx => ?_)
            replace FC := FC.trans p2 (fun i hi => .inr (by have := (R0.lt i (mem_own.1 hi)).1; have := HB.out; omega))
            clear hK hHeld
            have hHeld := hHx (by decide)
            clear hHx
            try simp only [Act.put, List.setIfInBounds_toArray, List.set_cons_zero, List.set_cons_succ]
            replace R17 := R17.keep p2 (fun g hg hm => hne (by have h1 := own_mem.1 hm; have h2 := own_mem.1 (mem_own.2 hg); omega))
            refine takeT_c 13 rfl (by kernel_rfl) (by rfl) (fun K hK => ?_)
            refine wp_app rfl slPair B _ (k) (qcells (M.take k)) rfl R8 _ _ _ (qcells [(n, t)]) rfl (rfl) (R17.rdD.1) (qcells_one _) (fun h => (by cases h)) (by omega) (by have := FC.size; have := HB.out; omega) (fun v13 w13 p1 p2 p3 p4 => ?_)
            have R13 : Row w13 B 106 2 v13 (k + 1) (qcells (M.take k) ++ qcells [(n, t)]) := p1
            obtain ⟨A13, c13, rfl, -, -, -, -, -⟩ := R13.shape
            refine hK.out _ _ (fun h => MK.out _ (FC.trans p2 (fun i hi => .inr (by have := (R8.lt i (mem_own.1 hi)).1; have := HB.out; omega)))) (fun hHx => ?_)
            replace FC := FC.trans p2 (fun i hi => .inr (by have := (R8.lt i (mem_own.1 hi)).1; have := HB.out; omega))
            clear hK hHeld
            have hHeld := hHx (by decide)
            clear hHx
            try simp only [Act.put, List.setIfInBounds_toArray, List.set_cons_zero, List.set_cons_succ]
            clear p1 p2 p3 p4
            refine takeT_c 20 rfl (by kernel_rfl) (by rfl) (fun K hK => ?_)
            refine wp_app rfl slPair B _ (k + 1) (qcells (M.take k) ++ qcells [(n, t)]) rfl R13 _ _ _ (qcells (M.drop k)) rfl (HQ.out.2) (HRB.out.keep_nil FC) (qcells_one _) (HN7.out) (by omega) (by have := FC.size; have := HB.out; omega) (fun v20 w20 p1 p2 p3 p4 => ?_)
            have R20 : Row w20 B 106 2 v20 ((setL L n t).length) (qcells (setL L n t)) := by rw [HSL.out, qcells_app, qcells_app, List.length_append, List.length_append, List.length_take, List.length_drop, HN.out, show min k N = k by omega]; exact p1
            obtain ⟨A20, c20, rfl, -, -, -, -, -⟩ := R20.shape
            refine hK.out _ _ (fun h => MK.out _ (FC.trans p2 (fun i hi => .inr (by have := (R13.lt i (mem_own.1 hi)).1; have := HB.out; omega)))) (fun hHx => ?_)
            replace FC := FC.trans p2 (fun i hi => .inr (by have := (R13.lt i (mem_own.1 hi)).1; have := HB.out; omega))
            clear hK hHeld
            have hHeld := hHx (by decide)
            clear hHx
            try simp only [Act.put, List.setIfInBounds_toArray, List.set_cons_zero, List.set_cons_succ]
            clear p1 p2 p3 p4
            refine takeT_c 21 rfl (by kernel_rfl) (by rfl) (fun K hK => ?_)
            go_simp
            refine hK.out _ _ (fun _ => hHeld) (fun hHx => ?_)
            clear hHx hK
            try simp only [Act.put, List.setIfInBounds_toArray, List.set_cons_zero, List.set_cons_succ]
            refine takeT_c 22 rfl (by kernel_rfl) (by rfl) (fun K hK => ?_)
            go_simp
            refine hK.out _ _ (fun _ => hHeld) (fun hHx => ?_)
            clear hHx hK
            try simp only [Act.put, List.setIfInBounds_toArray, List.set_cons_zero, List.set_cons_succ]
            have fW : Fr [] w1 w20 := FD.out.trans_nil FC
            have hW := HH.out.keep_nil fW
            have hold := hW.c0
            have P3 := hW.blk.frozen 0
            have kb := hW.blk.set_ 0 (.slice A20 (setL L n t).length c20)
            have fS : Fr [q] w20 (w20.setCell ⟨q, 0, none⟩ (.slice A20 (setL L n t).length c20)) := (Fr.refl [q] w20).setCell (.inl (by simp)) _
            have rS := (R20.mono (Nat.zero_le _)).keep fS (fun g hg hm => by rw [List.mem_singleton.1 hm] at hg; exact R20.ne_blk hW.blk (by decide) hg)
            have hFin : AftS w q O (setL L n t) (w20.setCell ⟨q, 0, none⟩ (.slice A20 (setL L n t).length c20)) := by
              refine ⟨q :: (Value.slice A20 (setL L n t).length c20).ownBlock.toList, ⟨_, List.mem_cons_self, fun g hg => List.mem_cons_of_mem _ (mem_own.2 hg), kb, rS, fun i hi => ?_⟩, fun i hi => ?_, (HF1.out.2.trans_nil fW).trans fS (fun i hi => .inl hi)⟩
              · rcases List.mem_cons.1 hi with rfl | hi
                · exact Nat.lt_of_lt_of_le hW.blk.lt fS.size
                · exact (rS.lt i (mem_own.1 hi)).2
              · rcases List.mem_cons.1 hi with rfl | hi
                · exact .inl HF1.out.1
                · have h1 := (R20.lt i (mem_own.1 hi)).1
                  have := HB.out
                  have := FD.out.size
                  have := HF1.out.2.size
                  exact .inr (by omega)
            have HF := Lib.hid hFin
            refine takeT_c 23 rfl (by kernel_rfl) (by rfl) (fun K hK => ?_)
            refine wp_st1 rfl (by kernel_rfl) q 0 rfl (.slice A20 (setL L n t).length c20) rfl rfl rfl hold P3 ?_
            refine hK.out _ _ (fun h => absurd rfl h) (fun hHx => ?_)
            clear hHx hK hHeld hold P3 kb fS rS hFin hW fW R20 R13 R8 R17 FC
            refine wpAnyT_done (by kernel_rfl) ?_ _
            go_wp2_with fail
            go_returns
            exact ⟨rfl, HF.out⟩
        ·
          go_simp
          have fN : Fr [] wD (wD.alloc (.cells #[.int .i64 n, .string t] 106)) := (Fr.refl [] wD).alloc _
          have R17 : Row (wD.alloc (.cells #[.int .i64 n, .string t] 106)) B 106 2 (.slice (some ⟨wD.heap.size, 0, none⟩) 1 1) 1 (qcells [(n, t)]) := Row.new wD #[.int .i64 n, .string t] 106 2 1 (0, 0) (free_zero _) (by unfold maxLen; omega) rfl (by have := FC.size; have := HB.out; omega)
          (try (have hne0 := (R0.lt _ rfl).2; dsimp only at hne0; have hne := Nat.ne_of_lt hne0; clear hne0))
          (try replace R0 := R0.keep_nil fN)
          (try replace R8 := R8.keep_nil fN)
          refine hK.out _ _ (fun _ => MK.out _ (FC.trans_nil fN)) (fun hHx => ?_)
          replace FC := FC.trans_nil fN
          clear hK hHeld
          have hHeld := hHx (by decide)
          clear hHx
          try simp only [Act.put, List.setIfInBounds_toArray, List.set_cons_zero, List.set_cons_succ]
          clear fN
          generalize wD.alloc (.cells #[.int .i64 n, .string t] 106) = w17 at *
          refine takeT_c 1 rfl (by kernel_rfl) (by rfl) (fun K hK => ?_)
          go_simp
          have fN : Fr [] w17 (w17.alloc (.cells #[] 106)) := (Fr.refl [] w17).alloc _
          have R0 : Row (w17.alloc (.cells #[] 106)) B 106 2 (.slice (some ⟨w17.heap.size, 0, none⟩) 0 0) 0 [] := Row.new w17 #[] 106 2 0 (0, 0) (free_zero _) (by unfold maxLen; omega) rfl (by have := FC.size; have := HB.out; omega)
          (try (have hne0 := (R17.lt _ rfl).2; dsimp only at hne0; have hne := Ne.symm (Nat.ne_of_lt hne0); clear hne0))
          (try replace R17 := R17.keep_nil fN)
          refine hK.out _ _ (fun _ => MK.out _ (FC.trans_nil fN)) (fun hHx => ?_)
          replace FC := FC.trans_nil fN
          clear hK hHeld
          have hHeld := hHx (by decide)
          clear hHx
          try simp only [Act.put, List.setIfInBounds_toArray, List.set_cons_zero, List.set_cons_succ]
          clear fN
          generalize w17.alloc (.cells #[] 106) = w5 at *
          refine takeT_c 8 rfl (by kernel_rfl) (by rfl) (fun K hK => ?_)
          refine wp_app rfl slPair B _ 0 [] rfl R0 _ _ _ (qcells (M.take k)) rfl HQ.out.1 (HRT.out.keep_nil FC) (qcells_one _) HNL.out.1 (by omega) (by have := FC.size; have := HB.out; omega) (fun v8 w8 p1 p2 p3 p4 => ?_)
          have R8 : Row w8 B 106 2 v8 k (qcells (M.take k)) := by simpa using p1
          obtain ⟨A8, c8, rfl, -, -, -, -, -⟩ := R8.shape
          refine hK.out _ _ (fun h => MK.out _ (FC.trans p2 (fun i hi => .inr (by have := (R0.lt i (mem_own.1 hi)).1; have := HB.out; omega)))) (fun hHx => ?_)
          replace FC := FC.trans p2 (fun i hi => .inr (by have := (R0.lt i (mem_own.1 hi)).1; have := HB.out; omega))
          clear hK hHeld
          have hHeld := hHx (by decide)
          clear hHx
          try simp only [Act.put, List.setIfInBounds_toArray, List.set_cons_zero, List.set_cons_succ]
          replace R17 := R17.keep p2 (fun g hg hm => hne (by have h1 := own_mem.1 hm; have h2 := own_mem.1 (mem_own.2 hg); omega))
          refine takeT_c 13 rfl (by kernel_rfl) (by rfl) (fun K hK => ?_)
          refine wp_app rfl slPair B _ (k) (qcells (M.take k)) rfl R8 _ _ _ (qcells [(n, t)]) rfl (rfl) (R17.rdD.1) (qcells_one _) (fun h => (by cases h)) (by omega) (by have := FC.size; have := HB.out; omega) (fun v13 w13 p1 p2 p3 p4 => ?_)
          have R13 : Row w13 B 106 2 v13 (k + 1) (qcells (M.take k) ++ qcells [(n, t)]) := p1
          obtain ⟨A13, c13, rfl, -, -, -, -, -⟩ := R13.shape
          refine hK.out _ _ (fun h => MK.out _ (FC.trans p2 (fun i hi => .inr (by have := (R8.lt i (mem_own.1 hi)).1; have := HB.out; omega)))) (fun hHx => ?_)
          replace FC := FC.trans p2 (fun i hi => .inr (by have := (R8.lt i (mem_own.1 hi)).1; have := HB.out; omega))
          clear hK hHeld
          have hHeld := hHx (by decide)
          clear hHx
          try simp only [Act.put, List.setIfInBounds_toArray, List.set_cons_zero, List.set_cons_succ]
          clear p1 p2 p3 p4
          refine takeT_c 20 rfl (by kernel_rfl) (by rfl) (fun K hK => ?_)
          refine wp_app rfl slPair B _ (k + 1) (qcells (M.take k) ++ qcells [(n, t)]) rfl R13 _ _ _ (qcells (M.drop k)) rfl (HQ.out.2) (HRB.out.keep_nil FC) (qcells_one _) (HN7.out) (by omega) (by have := FC.size; have := HB.out; omega) (fun v20 w20 p1 p2 p3 p4 => ?_)
          have R20 : Row w20 B 106 2 v20 ((setL L n t).length) (qcells (setL L n t)) := by rw [HSL.out, qcells_app, qcells_app, List.length_append, List.length_append, List.length_take, List.length_drop, HN.out, show min k N = k by omega]; exact p1
          obtain ⟨A20, c20, rfl, -, -, -, -, -⟩ := R20.shape
          refine hK.out _ _ (fun h => MK.out _ (FC.trans p2 (fun i hi => .inr (by have := (R13.lt i (mem_own.1 hi)).1; have := HB.out; omega)))) (fun hHx => ?_)
          replace FC := FC.trans p2 (fun i hi => .inr (by have := (R13.lt i (mem_own.1 hi)).1; have := HB.out; omega))
          clear hK hHeld
          have hHeld := hHx (by decide)
          clear hHx
          try simp only [Act.put, List.setIfInBounds_toArray, List.set_cons_zero, List.set_cons_succ]
          clear p1 p2 p3 p4
          refine takeT_c 21 rfl (by kernel_rfl) (by rfl) (fun K hK => ?_)
          go_simp
          refine hK.out _ _ (fun _ => hHeld) (fun hHx => ?_)
          clear hHx hK
          try simp only [Act.put, List.setIfInBounds_toArray, List.set_cons_zero, List.set_cons_succ]
          refine takeT_c 22 rfl (by kernel_rfl) (by rfl) (fun K hK => ?_)
          go_simp
          refine hK.out _ _ (fun _ => hHeld) (fun hHx => ?_)
          clear hHx hK
          try simp only [Act.put, List.setIfInBounds_toArray, List.set_cons_zero, List.set_cons_succ]
          have fW : Fr [] w1 w20 := FD.out.trans_nil FC
          have hW := HH.out.keep_nil fW
          have hold := hW.c0
          have P3 := hW.blk.frozen 0
          have kb := hW.blk.set_ 0 (.slice A20 (setL L n t).length c20)
          have fS : Fr [q] w20 (w20.setCell ⟨q, 0, none⟩ (.slice A20 (setL L n t).length c20)) := (Fr.refl [q] w20).setCell (.inl (by simp)) _
          have rS := (R20.mono (Nat.zero_le _)).keep fS (fun g hg hm => by rw [List.mem_singleton.1 hm] at hg; exact R20.ne_blk hW.blk (by decide) hg)
          have hFin : AftS w q O (setL L n t) (w20.setCell ⟨q, 0, none⟩ (.slice A20 (setL L n t).length c20)) := by
            refine ⟨q :: (Value.slice A20 (setL L n t).length c20).ownBlock.toList, ⟨_, List.mem_cons_self, fun g hg => List.mem_cons_of_mem _ (mem_own.2 hg), kb, rS, fun i hi => ?_⟩, fun i hi => ?_, (HF1.out.2.trans_nil fW).trans fS (fun i hi => .inl hi)⟩
            · rcases List.mem_cons.1 hi with rfl | hi
              · exact Nat.lt_of_lt_of_le hW.blk.lt fS.size
              · exact (rS.lt i (mem_own.1 hi)).2
            · rcases List.mem_cons.1 hi with rfl | hi
              · exact .inl HF1.out.1
              · have h1 := (R20.lt i (mem_own.1 hi)).1
                have := HB.out
                have := FD.out.size
                have := HF1.out.2.size
                exact .inr (by omega)
          have HF := Lib.hid hFin
          refine takeT_c 23 rfl (by kernel_rfl) (by rfl) (fun K hK => ?_)
          refine wp_st1 rfl (by kernel_rfl) q 0 rfl (.slice A20 (setL L n t).length c20) rfl rfl rfl hold P3 ?_
          refine hK.out _ _ (fun h => absurd rfl h) (fun hHx => ?_)
          clear hHx hK hHeld hold P3 kb fS rS hFin hW fW R20 R13 R8 R17 FC
          refine wpAnyT_done (by kernel_rfl) ?_ _
          go_wp2_with fail
          go_returns
          exact ⟨rfl, HF.out⟩
    · have d0 : ¬ ((k : Int) < N) := by omega
      have htw := tw_at (n := n) (k := k) (by rw [HN.out]; omega) hne (fun h => by rw [HN.out] at h; omega)
      clear hne
      go_wp2_with fail
      have HSL := Lib.hid (show setL L n t = M.take k ++ [(n, t)] ++ M.drop k by unfold setL; rw [HM.out, htw.1, htw.2])
      have hqk : (qcells (M.take k)).length = k * 2 := by rw [qcells_len, List.length_take, HN.out]; omega
      have hqd : (qcells (M.drop k)).length = (N - k) * 2 := by rw [qcells_len, List.length_drop, HN.out]
      have HQ := Lib.hid (And.intro hqk hqd)
      have HNL := Lib.hid (And.intro (show A = none → k = 0 from fun h => by have := HR.out.rdD.2.2 h; rw [HN.out] at this; omega) (show (if c = k then A else (A).map (·.add (k * 2))) = none → N - k = 0 from fun h => by
        have hA : A = none := none_of h
        have := HR.out.rdD.2.2 hA
        rw [HN.out] at this
        omega))
      clear hqk hqd htw
      go_upto_region 4 with fail
      refine wp_region_T 23 (S := fun w' => w'.cell? ⟨q, 0, none⟩ = some (.slice A N c)) (by kernel_rfl) ?_
      obtain ⟨wD, hwD⟩ : ∃ wD, w1.drew = wD := ⟨_, rfl⟩
      have fD : Fr [] w1 wD := by rw [← hwD]; exact (Fr.refl [] w1).drew
      rw [hwD]
      have hHeld := fD.cell (by simp) c0
      have MK := Lib.hid (fun (w' : World) (f : Fr [] wD w') => f.cell (by simp) hHeld)
      have FC : Fr [] wD wD := Fr.refl _ _
      have FD := Lib.hid fD
      have RL := HR.out.keep_nil fD
      obtain ⟨B, hB⟩ : ∃ B, wD.heap.size = B := ⟨_, rfl⟩
      have HB := Lib.hid hB
      have HRT := Lib.hid (show Rd wD A (qcells (M.take k)) by rw [qcells_take]; exact RL.rdD.1.take _)
      have RB := RL.rdD.1.cutS k c 2 (by rw [qcells_len, HN.out]; omega)
      rw [← qcells_drop] at RB
      obtain ⟨A7, hA7⟩ : ∃ A7, (if c = k then A else (A).map (·.add (k * 2))) = A7 := ⟨_, rfl⟩
      rw [hA7] at RB
      have HN7 := Lib.hid (show A7 = none → N - k = 0 from fun h => HNL.out.2 (hA7.trans h))
      have H7 := Lib.hid hA7
      have HRB := Lib.hid RB
      clear hwD fD c0 hB RL RB hA7
      refine takeT_w 0 (some 31) (v := ?_) rfl rfl (by kernel_rfl) (by kernel_rfl) (by kernel_rfl) (by kernel_rfl) (fun _ _ _ h => h) (by rfl) ?_ hHeld ?_
      rotate_left
      · (intro w hSw; (try dsimp only at hSw); go_simp; try with_reducible rfl)
      simp only [Act.put, List.setIfInBounds_toArray, List.set_cons_zero, List.set_cons_succ]
      refine takeT_w 2 (some 33) (v := ?_) rfl rfl (by kernel_rfl) (by kernel_rfl) (by kernel_rfl) (by kernel_rfl) (fun _ _ _ h => h) (by rfl) ?_ hHeld ?_
      rotate_left
      · (intro w hSw; (try dsimp only at hSw); go_simp; try with_reducible rfl)
      simp only [Act.put, List.setIfInBounds_toArray, List.set_cons_zero, List.set_cons_succ]
      refine takeT_w 3 (some 34) (v := ?_) rfl rfl (by kernel_rfl) (by kernel_rfl) (by kernel_rfl) (by kernel_rfl) (fun _ _ _ h => h) (by rfl) ?_ hHeld ?_
      rotate_left
      · (intro w hSw; (try dsimp only at hSw); go_simp; try with_reducible rfl)
      simp only [Act.put, List.setIfInBounds_toArray, List.set_cons_zero, List.set_cons_succ]
      refine takeT_w 4 (some 35) (v := ?_) rfl rfl (by kernel_rfl) (by kernel_rfl) (by kernel_rfl) (by kernel_rfl) (fun _ _ _ h => h) (by rfl) ?_ hHeld ?_
      rotate_left
      · (intro w hSw; (try dsimp only at hSw); go_simp; try with_reducible rfl)
      simp only [Act.put, List.setIfInBounds_toArray, List.set_cons_zero, List.set_cons_succ]
      refine takeT_w 5 (some 36) (v := ?_) rfl rfl (by kernel_rfl) (by kernel_rfl) (by kernel_rfl) (by kernel_rfl) (fun _ _ _ h => h) (by rfl) ?_ hHeld ?_
      rotate_left
      · (intro w hSw; (try dsimp only at hSw); go_simp; try with_reducible rfl)
      simp only [Act.put, List.setIfInBounds_toArray, List.set_cons_zero, List.set_cons_succ]
      refine takeT_w 6 (some 37) (v := ?_) rfl rfl (by kernel_rfl) (by kernel_rfl) (by kernel_rfl) (by kernel_rfl) (fun _ _ _ h => h) (by rfl) ?_ hHeld ?_
      rotate_left
      · (intro w hSw; (try dsimp only at hSw); go_simp; try with_reducible rfl)
      simp only [Act.put, List.setIfInBounds_toArray, List.set_cons_zero, List.set_cons_succ]
      refine takeT_w 9 (some 40) (v := ?_) rfl rfl (by kernel_rfl) (by kernel_rfl) (by kernel_rfl) (by kernel_rfl) (fun _ _ _ h => h) (by rfl) ?_ hHeld ?_
      rotate_left
      · (intro w hSw; (try dsimp only at hSw); go_simp; try with_reducible rfl)
      simp only [Act.put, List.setIfInBounds_toArray, List.set_cons_zero, List.set_cons_succ]
      refine takeT_w 10 (some 41) (v := ?_) rfl rfl (by kernel_rfl) (by kernel_rfl) (by kernel_rfl) (by kernel_rfl) (fun _ _ _ h => h) (by rfl) ?_ hHeld ?_
      rotate_left
      · (intro w hSw; (try dsimp only at hSw); go_simp; try with_reducible rfl)
      simp only [Act.put, List.setIfInBounds_toArray, List.set_cons_zero, List.set_cons_succ]
      refine takeT_w 11 (some 42) (v := ?_) rfl rfl (by kernel_rfl) (by kernel_rfl) (by kernel_rfl) (by kernel_rfl) (fun _ _ _ h => h) (by rfl) ?_ hHeld ?_
      rotate_left
      · (intro w hSw; (try dsimp only at hSw); go_simp; try with_reducible rfl)
      simp only [Act.put, List.setIfInBounds_toArray, List.set_cons_zero, List.set_cons_succ]
      refine takeT_w 14 (some 45) (v := ?_) rfl rfl (by kernel_rfl) (by kernel_rfl) (by kernel_rfl) (by kernel_rfl) (fun _ _ _ h => h) (by rfl) ?_ hHeld ?_
      rotate_left
      · (intro w hSw; (try dsimp only at hSw); go_simp; try with_reducible rfl)
      simp only [Act.put, List.setIfInBounds_toArray, List.set_cons_zero, List.set_cons_succ]
      refine takeT_w 15 (some 46) (v := ?_) rfl rfl (by kernel_rfl) (by kernel_rfl) (by kernel_rfl) (by kernel_rfl) (fun _ _ _ h => h) (by rfl) ?_ hHeld ?_
      rotate_left
      · (intro w hSw; (try dsimp only at hSw); go_simp; try with_reducible rfl)
      simp only [Act.put, List.setIfInBounds_toArray, List.set_cons_zero, List.set_cons_succ]
      refine takeT_w 16 (some 47) (v := ?_) rfl rfl (by kernel_rfl) (by kernel_rfl) (by kernel_rfl) (by kernel_rfl) (fun _ _ _ h => h) (by rfl) ?_ hHeld ?_
      rotate_left
      · (intro w hSw; (try dsimp only at hSw); go_simp; try with_reducible rfl)
      simp only [Act.put, List.setIfInBounds_toArray, List.set_cons_zero, List.set_cons_succ]
      refine takeT_w 17 (some 48) (v := ?_) rfl rfl (by kernel_rfl) (by kernel_rfl) (by kernel_rfl) (by kernel_rfl) (fun _ _ _ h => h) (by rfl) ?_ hHeld ?_
      rotate_left
      · (intro w hSw; (try dsimp only at hSw); go_simp; try with_reducible rfl)
      simp only [Act.put, List.setIfInBounds_toArray, List.set_cons_zero, List.set_cons_succ]
      refine takeT_w 18 (some 49) (v := ?_) rfl rfl (by kernel_rfl) (by kernel_rfl) (by kernel_rfl) (by kernel_rfl) (fun _ _ _ h => h) (by rfl) ?_ hHeld ?_
      rotate_left
      · (intro w hSw; (try dsimp only at hSw); go_simp; try with_reducible rfl)
      simp only [Act.put, List.setIfInBounds_toArray, List.set_cons_zero, List.set_cons_succ]
      refine takeT_w 7 (some 38) (v := .slice A k c) rfl rfl (by kernel_rfl) (by kernel_rfl) (by kernel_rfl) (by kernel_rfl) (fun _ _ _ h => h) (by rfl) (fun w _ => hy_sliceH (s := 2) Try.underlying58 (by kernel_rfl) rfl rfl k rfl (by omega)) hHeld ?_
      try simp only [Act.put, List.setIfInBounds_toArray, List.set_cons_zero, List.set_cons_succ]
      refine takeT_w 19 (some 50) (v := .slice A7 (N - k) (c - k)) rfl rfl (by kernel_rfl) (by kernel_rfl) (by kernel_rfl) (by kernel_rfl) (fun _ _ _ h => h) (by rfl) (fun w _ => (hy_sliceL (s := 2) Try.underlying58 (by kernel_rfl) rfl rfl k rfl (by omega)).trans (by rw [H7.out])) hHeld ?_
      try simp only [Act.put, List.setIfInBounds_toArray, List.set_cons_zero, List.set_cons_succ]
      refine takeT_2 1 12 rfl rfl (by kernel_rfl) (by rfl) (by rfl) (fun K hK => ?_) (fun K hK => ?_)
      ·
        go_simp
        have fN : Fr [] wD (wD.alloc (.cells #[] 106)) := (Fr.refl [] wD).alloc _
        have R0 : Row (wD.alloc (.cells #[] 106)) B 106 2 (.slice (some ⟨wD.heap.size, 0, none⟩) 0 0) 0 [] := Row.new wD #[] 106 2 0 (0, 0) (free_zero _) (by unfold maxLen; omega) rfl (by have := FC.size; have := HB.out; omega)
        (try (have hne0 := (R17.lt _ rfl).2; dsimp only at hne0; have hne := Ne.symm (Nat.ne_of_lt hne0); clear hne0))
        (try replace R17 := R17.keep_nil fN)
        refine hK.out _ _ (fun _ => MK.out _ (FC.trans_nil fN)) (fun hHx => ?_)
        replace FC := FC.trans_nil fN
        clear hK hHeld
        have hHeld := hHx (by decide)
        clear hHx
        try simp only [Act.put, List.setIfInBounds_toArray, List.set_cons_zero, List.set_cons_succ]
        clear fN
        generalize wD.alloc (.cells #[] 106) = w5 at *
        refine takeT_2 8 12 rfl rfl (by kernel_rfl) (by rfl) (by rfl) (fun K hK => ?_) (fun K hK => ?_)
        ·
          refine wp_app rfl slPair B _ 0 [] rfl R0 _ _ _ (qcells (M.take k)) rfl HQ.out.1 (HRT.out.keep_nil FC) (qcells_one _) HNL.out.1 (by omega) (by have := FC.size; have := HB.out; omega) (fun v8 w8 p1 p2 p3 p4 => ?_)
          have R8 : Row w8 B 106 2 v8 k (qcells (M.take k)) := by simpa using p1
          obtain ⟨A8, c8, rfl, -, -, -, -, -⟩ := R8.shape
          refine hK.out _ _ (fun h => MK.out _ (FC.trans p2 (fun i hi => .inr (by have := (R0.lt i (mem_own.1 hi)).1; have := HB.out; omega)))) (fun hHx => ?_)
          replace FC := FC.trans p2 (fun i hi => .inr (by have := (R0.lt i (mem_own.1 hi)).1; have := HB.out; omega))
          clear hK hHeld
          have hHeld := hHx (by decide)
          clear hHx
          try simp only [Act.put, List.setIfInBounds_toArray, List.set_cons_zero, List.set_cons_succ]
          refine takeT_c 12 rfl (by kernel_rfl) (by rfl) (fun K hK => ?_)
          go_simp
          have fN : Fr [] w8 (w8.alloc (.cells #[.int .i64 n, .string t] 106)) := (Fr.refl [] w8).alloc _
          have R17 : Row (w8.alloc (.cells #[.int .i64 n, .string t] 106)) B 106 2 (.slice (some ⟨w8.heap.size, 0, none⟩) 1 1) 1 (qcells [(n, t)]) := Row.new w8 #[.int .i64 n, .string t] 106 2 1 (0, 0) (free_zero _) (by unfold maxLen; omega) rfl (by have := FC.size; have := HB.out; omega)
          (try (have hne0 := (R0.lt _ rfl).2; dsimp only at hne0; have hne := Nat.ne_of_lt hne0; clear hne0))
          (try replace R0 := R0.keep_nil fN)
          (try replace R8 := R8.keep_nil fN)
          refine hK.out _ _ (fun _ => MK.out _ (FC.trans_nil fN)) (fun hHx => ?_)
          replace FC := FC.trans_nil fN
          clear hK hHeld
          have hHeld := hHx (by decide)
          clear hHx
          try simp only [Act.put, List.setIfInBounds_toArray, List.set_cons_zero, List.set_cons_succ]
          clear fN
          generalize w8.alloc (.cells #[.int .i64 n, .string t] 106) = w17 at *
          refine takeT_c 13 rfl (by kernel_rfl) (by rfl) (fun K hK => ?_)
          refine wp_app rfl slPair B _ (k) (qcells (M.take k)) rfl R8 _ _ _ (qcells [(n, t)]) rfl (rfl) (R17.rdD.1) (qcells_one _) (fun h => (by cases h)) (by omega) (by have := FC.size; have := HB.out; omega) (fun v13 w13 p1 p2 p3 p4 => ?_)
          have R13 : Row w13 B 106 2 v13 (k + 1) (qcells (M.take k) ++ qcells [(n, t)]) := p1
          obtain ⟨A13, c13, rfl, -, -, -, -, -⟩ := R13.shape
          refine hK.out _ _ (fun h => MK.out _ (FC.trans p2 (fun i hi => .inr (by have := (R8.lt i (mem_own.1 hi)).1; have := HB.out; omega)))) (fun hHx => ?_)
          replace FC := FC.trans p2 (fun i hi => .inr (by have := (R8.lt i (mem_own.1 hi)).1; have := HB.out; omega))
          clear hK hHeld
          have hHeld := hHx (by decide)
          clear hHx
          try simp only [Act.put, List.setIfInBounds_toArray, List.set_cons_zero, List.set_cons_succ]
          clear p1 p2 p3 p4
          refine takeT_c 20 rfl (by kernel_rfl) (by rfl) (fun K hK => ?_)
          refine wp_app rfl slPair B _ (k + 1) (qcells (M.take k) ++ qcells [(n, t)]) rfl R13 _ _ _ (qcells (M.drop k)) rfl (HQ.out.2) (HRB.out.keep_nil FC) (qcells_one _) (HN7.out) (by omega) (by have := FC.size; have := HB.out; omega) (fun v20 w20 p1 p2 p3 p4 => ?_)
          have R20 : Row w20 B 106 2 v20 ((setL L n t).length) (qcells (setL L n t)) := by rw [HSL.out, qcells_app, qcells_app, List.length_append, List.length_append, List.length_take, List.length_drop, HN.out, show min k N = k by omega]; exact p1
          obtain ⟨A20, c20, rfl, -, -, -, -, -⟩ := R20.shape
          refine hK.out _ _ (fun h => MK.out _ (FC.trans p2 (fun i hi => .inr (by have := (R13.lt i (mem_own.1 hi)).1; have := HB.out; omega)))) (fun hHx => ?_)
          replace FC := FC.trans p2 (fun i hi => .inr (by have := (R13.lt i (mem_own.1 hi)).1; have := HB.out; omega))
          clear hK hHeld
          have hHeld := hHx (by decide)
          clear hHx
          try simp only [Act.put, List.setIfInBounds_toArray, List.set_cons_zero, List.set_cons_succ]
          clear p1 p2 p3 p4
          refine takeT_c 21 rfl (by kernel_rfl) (by rfl) (fun K hK => ?_)
          go_simp
          refine hK.out _ _ (fun _ => hHeld) (fun hHx => ?_)
          clear hHx hK
          try simp only [Act.put, List.setIfInBounds_toArray, List.set_cons_zero, List.set_cons_succ]
          refine takeT_c 22 rfl (by kernel_rfl) (by rfl) (fun K hK => ?_)
          go_simp
          refine hK.out _ _ (fun _ => hHeld) (fun hHx => ?_)
          clear hHx hK
          try simp only [Act.put, List.setIfInBounds_toArray, List.set_cons_zero, List.set_cons_succ]
          have fW : Fr [] w1 w20 := FD.out.trans_nil FC
          have hW := HH.out.keep_nil fW
          have hold := hW.c0
          have P3 := hW.blk.frozen 0
          have kb := hW.blk.set_ 0 (.slice A20 (setL L n t).length c20)
          have fS : Fr [q] w20 (w20.setCell ⟨q, 0, none⟩ (.slice A20 (setL L n t).length c20)) := (Fr.refl [q] w20).setCell (.inl (by simp)) _
          have rS := (R20.mono (Nat.zero_le _)).keep fS (fun g hg hm => by rw [List.mem_singleton.1 hm] at hg; exact R20.ne_blk hW.blk (by decide) hg)
          have hFin : AftS w q O (setL L n t) (w20.setCell ⟨q, 0, none⟩ (.slice A20 (setL L n t).length c20)) := by
            refine ⟨q :: (Value.slice A20 (setL L n t).length c20).ownBlock.toList, ⟨_, List.mem_cons_self, fun g hg => List.mem_cons_of_mem _ (mem_own.2 hg), kb, rS, fun i hi => ?_⟩, fun i hi => ?_, (HF1.out.2.trans_nil fW).trans fS (fun i hi => .inl hi)⟩
            · rcases List.mem_cons.1 hi with rfl | hi
              · exact Nat.lt_of_lt_of_le hW.blk.lt fS.size
              · exact (rS.lt i (mem_own.1 hi)).2
            · rcases List.mem_cons.1 hi with rfl | hi
              · exact .inl HF1.out.1
              · have h1 := (R20.lt i (mem_own.1 hi)).1
                have := HB.out
                have := FD.out.size
                have := HF1.out.2.size
                exact .inr (by omega)
          have HF := Lib.hid hFin
          refine takeT_c 23 rfl (by kernel_rfl) (by rfl) (fun K hK => ?_)
          refine wp_st1 rfl (by kernel_rfl) q 0 rfl (.slice A20 (setL L n t).length c20) rfl rfl rfl hold P3 ?_
          refine hK.out _ _ (fun h => absurd rfl h) (fun hHx => ?_)
          clear hHx hK hHeld hold P3 kb fS rS hFin hW fW R20 R13 R8 R17 FC
          refine wpAnyT_done (by kernel_rfl) ?_ _
          go_wp2_with fail
          go_returns
          exact ⟨rfl, HF.out⟩
        ·
          go_simp
          have fN : Fr [] w5 (w5.alloc (.cells #[.int .i64 n, .string t] 106)) := (Fr.refl [] w5).alloc _
          have R17 : Row (w5.alloc (.cells #[.int .i64 n, .string t] 106)) B 106 2 (.slice (some ⟨w5.heap.size, 0, none⟩) 1 1) 1 (qcells [(n, t)]) := Row.new w5 #[.int .i64 n, .string t] 106 2 1 (0, 0) (free_zero _) (by unfold maxLen; omega) rfl (by have := FC.size; have := HB.out; omega)
          (try (have hne0 := (R0.lt _ rfl).2; dsimp only at hne0; have hne := Nat.ne_of_lt hne0; clear hne0))
          (try replace R0 := R0.keep_nil fN)
          (try replace R8 := R8.keep_nil fN)
          refine hK.out _ _ (fun _ => MK.out _ (FC.trans_nil fN)) (fun hHx => ?_)
          replace FC := FC.trans_nil fN
          clear hK hHeld
          have hHeld := hHx (by decide)
          clear hHx
          try simp only [Act.put, List.setIfInBounds_toArray, List.set_cons_zero, List.set_cons_succ]
          clear fN
          generalize w5.alloc (.cells #[.int .i64 n, .string t] 106) = w17 at *
          refine takeT_c 8 rfl (by kernel_rfl) (by rfl) (fun K hK => ?_)
          refine wp_app rfl slPair B _ 0 [] rfl R0 _ _ _ (qcells (M.take k)) rfl HQ.out.1 (HRT.out.keep_nil FC) (qcells_one _) HNL.out.1 (by omega) (by have := FC.size; have := HB.out; omega) (fun v8 w8 p1 p2 p3 p4 => ?_)
          have R8 : Row w8 B 106 2 v8 k (qcells (M.take k)) := by simpa using p1
          obtain ⟨A8, c8, rfl, -, -, -, -, -⟩ := R8.shape
          refine hK.out _ _ (fun h => MK.out _ (FC.trans p2 (fun i hi => .inr (by have := (R0.lt i (mem_own.1 hi)).1; have := HB.out; omega)))) (fun hHx => ?_)
          replace FC := FC.trans p2 (fun i hi => .inr (by have := (R0.lt i (mem_own.1 hi)).1; have := HB.out; omega))
          clear hK hHeld
          have hHeld := hHx (by decide)
          clear hHx
          try simp only [Act.put, List.setIfInBounds_toArray, List.set_cons_zero, List.set_cons_succ]
          replace R17 := R17.keep p2 (fun g hg hm => hne (by have h1 := own_mem.1 hm; have h2 := own_mem.1 (mem_own.2 hg); omega))
          refine takeT_c 13 rfl (by kernel_rfl) (by rfl) (fun K hK => ?_)
          refine wp_app rfl slPair B _ (k) (qcells (M.take k)) rfl R8 _ _ _ (qcells [(n, t)]) rfl (rfl) (R17.rdD.1) (qcells_one _) (fun h => (by cases h)) (by omega) (by have := FC.size; have := HB.out; omega) (fun v13 w13 p1 p2 p3 p4 => ?_)
          have R13 : Row w13 B 106 2 v13 (k + 1) (qcells (M.take k) ++ qcells [(n, t)]) := p1
          obtain ⟨A13, c13, rfl, -, -, -, -, -⟩ := R13.shape
          refine hK.out _ _ (fun h => MK.out _ (FC.trans p2 (fun i hi => .inr (by have := (R8.lt i (mem_own.1 hi)).1; have := HB.out; omega)))) (fun hHx => ?_)
          replace FC := FC.trans p2 (fun i hi => .inr (by have := (R8.lt i (mem_own.1 hi)).1; have := HB.out; omega))
          clear hK hHeld
          have hHeld := hHx (by decide)
          clear hHx
          try simp only [Act.put, List.setIfInBounds_toArray, List.set_cons_zero, List.set_cons_succ]
          clear p1 p2 p3 p4
          refine takeT_c 20 rfl (by kernel_rfl) (by rfl) (fun K hK => ?_)
          refine wp_app rfl slPair B _ (k + 1) (qcells (M.take k) ++ qcells [(n, t)]) rfl R13 _ _ _ (qcells (M.drop k)) rfl (HQ.out.2) (HRB.out.keep_nil FC) (qcells_one _) (HN7.out) (by omega) (by have := FC.size; have := HB.out; omega) (fun v20 w20 p1 p2 p3 p4 => ?_)
          have R20 : Row w20 B 106 2 v20 ((setL L n t).length) (qcells (setL L n t)) := by rw [HSL.out, qcells_app, qcells_app, List.length_append, List.length_append, List.length_take, List.length_drop, HN.out, show min k N = k by omega]; exact p1
          obtain ⟨A20, c20, rfl, -, -, -, -, -⟩ := R20.shape
          refine hK.out _ _ (fun h => MK.out _ (FC.trans p2 (fun i hi => .inr (by have := (R13.lt i (mem_own.1 hi)).1; have := HB.out; omega)))) (fun hHx => ?_)
          replace FC := FC.trans p2 (fun i hi => .inr (by have := (R13.lt i (mem_own.1 hi)).1; have := HB.out; omega))
          clear hK hHeld
          have hHeld := hHx (by decide)
          clear hHx
          try simp only [Act.put, List.setIfInBounds_toArray, List.set_cons_zero, List.set_cons_succ]
          clear p1 p2 p3 p4
          refine takeT_c 21 rfl (by kernel_rfl) (by rfl) (fun K hK => ?_)
          go_simp
          refine hK.out _ _ (fun _ => hHeld) (fun hHx => ?_)
          clear hHx hK
          try simp only [Act.put, List.setIfInBounds_toArray, List.set_cons_zero, List.set_cons_succ]
          refine takeT_c 22 rfl (by kernel_rfl) (by rfl) (fun K hK => ?_)
          go_simp
          refine hK.out _ _ (fun _ => hHeld) (fun hHx => ?_)
          clear hHx hK
          try simp only [Act.put, List.setIfInBounds_toArray, List.set_cons_zero, List.set_cons_succ]
          have fW : Fr [] w1 w20 := FD.out.trans_nil FC
          have hW := HH.out.keep_nil fW
          have hold := hW.c0
          have P3 := hW.blk.frozen 0
          have kb := hW.blk.set_ 0 (.slice A20 (setL L n t).length c20)
          have fS : Fr [q] w20 (w20.setCell ⟨q, 0, none⟩ (.slice A20 (setL L n t).length c20)) := (Fr.refl [q] w20).setCell (.inl (by simp)) _
          have rS := (R20.mono (Nat.zero_le _)).keep fS (fun g hg hm => by rw [List.mem_singleton.1 hm] at hg; exact R20.ne_blk hW.blk (by decide) hg)
          have hFin : AftS w q O (setL L n t) (w20.setCell ⟨q, 0, none⟩ (.slice A20 (setL L n t).length c20)) := by
            refine ⟨q :: (Value.slice A20 (setL L n t).length c20).ownBlock.toList, ⟨_, List.mem_cons_self, fun g hg => List.mem_cons_of_mem _ (mem_own.2 hg), kb, rS, fun i hi => ?_⟩, fun i hi => ?_, (HF1.out.2.trans_nil fW).trans fS (fun i hi => .inl hi)⟩
            · rcases List.mem_cons.1 hi with rfl | hi
              · exact Nat.lt_of_lt_of_le hW.blk.lt fS.size
              · exact (rS.lt i (mem_own.1 hi)).2
            · rcases List.mem_cons.1 hi with rfl | hi
              · exact .inl HF1.out.1
              · have h1 := (R20.lt i (mem_own.1 hi)).1
                have := HB.out
                have := FD.out.size
                have := HF1.out.2.size
                exact .inr (by omega)
          have HF := Lib.hid hFin
          refine takeT_c 23 rfl (by kernel_rfl) (by rfl) (fun K hK => ?_)
          refine wp_st1 rfl (by kernel_rfl) q 0 rfl (.slice A20 (setL L n t).length c20) rfl rfl rfl hold P3 ?_
          refine hK.out _ _ (fun h => absurd rfl h) (fun hHx => ?_)
          clear hHx hK hHeld hold P3 kb fS rS hFin hW fW R20 R13 R8 R17 FC
          refine wpAnyT_done (by kernel_rfl) ?_ _
          go_wp2_with fail
          go_returns
          exact ⟨rfl, HF.out⟩
      ·
        go_simp
        have fN : Fr [] wD (wD.alloc (.cells #[.int .i64 n, .string t] 106)) := (Fr.refl [] wD).alloc _
        have R17 : Row (wD.alloc (.cells #[.int .i64 n, .string t] 106)) B 106 2 (.slice (some ⟨wD.heap.size, 0, none⟩) 1 1) 1 (qcells [(n, t)]) := Row.new wD #[.int .i64 n, .string t] 106 2 1 (0, 0) (free_zero _) (by unfold maxLen; omega) rfl (by have := FC.size; have := HB.out; omega)
        (try (have hne0 := (R0.lt _ rfl).2; dsimp only at hne0; have hne := Nat.ne_of_lt hne0; clear hne0))
        (try replace R0 := R0.keep_nil fN)
        (try replace R8 := R8.keep_nil fN)
        refine hK.out _ _ (fun _ => MK.out _ (FC.trans_nil fN)) (fun hHx => ?_)
        replace FC := FC.trans_nil fN
        clear hK hHeld
        have hHeld := hHx (by decide)
        clear hHx
        try simp only [Act.put, List.setIfInBounds_toArray, List.set_cons_zero, List.set_cons_succ]
        clear fN
        generalize wD.alloc (.cells #[.int .i64 n, .string t] 106) = w17 at *
        refine takeT_c 1 rfl (by kernel_rfl) (by rfl) (fun K hK => ?_)
        go_simp
        have fN : Fr [] w17 (w17.alloc (.cells #[] 106)) := (Fr.refl [] w17).alloc _
        have R0 : Row (w17.alloc (.cells #[] 106)) B 106 2 (.slice (some ⟨w17.heap.size, 0, none⟩) 0 0) 0 [] := Row.new w17 #[] 106 2 0 (0, 0) (free_zero _) (by unfold maxLen; omega) rfl (by have := FC.size; have := HB.out; omega)
        (try (have hne0 := (R17.lt _ rfl).2; dsimp only at hne0; have hne := Ne.symm (Nat.ne_of_lt hne0); clear hne0))
        (try replace R17 := R17.keep_nil fN)
        refine hK.out _ _ (fun _ => MK.out _ (FC.trans_nil fN)) (fun hHx => ?_)
        replace FC := FC.trans_nil fN
        clear hK hHeld
        have hHeld := hHx (by decide)
        clear hHx
        try simp only [Act.put, List.setIfInBounds_toArray, List.set_cons_zero, List.set_cons_succ]
        clear fN
        generalize w17.alloc (.cells #[] 106) = w5 at *
        refine takeT_c 8 rfl (by kernel_rfl) (by rfl) (fun K hK => ?_)
        refine wp_app rfl slPair B _ 0 [] rfl R0 _ _ _ (qcells (M.take k)) rfl HQ.out.1 (HRT.out.keep_nil FC) (qcells_one _) HNL.out.1 (by omega) (by have := FC.size; have := HB.out; omega) (fun v8 w8 p1 p2 p3 p4 => ?_)
        have R8 : Row w8 B 106 2 v8 k (qcells (M.take k)) := by simpa using p1
        obtain ⟨A8, c8, rfl, -, -, -, -, -⟩ := R8.shape
        refine hK.out _ _ (fun h => MK.out _ (FC.trans p2 (fun i hi => .inr (by have := (R0.lt i (mem_own.1 hi)).1; have := HB.out; omega)))) (fun hHx => ?_)
        replace FC := FC.trans p2 (fun i hi => .inr (by have := (R0.lt i (mem_own.1 hi)).1; have := HB.out; omega))
        clear hK hHeld
        have hHeld := hHx (by decide)
        clear hHx
        try simp only [Act.put, List.setIfInBounds_toArray, List.set_cons_zero, List.set_cons_succ]
        replace R17 := R17.keep p2 (fun g hg hm => hne (by have h1 := own_mem.1 hm; have h2 := own_mem.1 (mem_own.2 hg); omega))
        refine takeT_c 13 rfl (by kernel_rfl) (by rfl) (fun K hK => ?_)
        refine wp_app rfl slPair B _ (k) (qcells (M.take k)) rfl R8 _ _ _ (qcells [(n, t)]) rfl (rfl) (R17.rdD.1) (qcells_one _) (fun h => (by cases h)) (by omega) (by have := FC.size; have := HB.out; omega) (fun v13 w13 p1 p2 p3 p4 => ?_)
        have R13 : Row w13 B 106 2 v13 (k + 1) (qcells (M.take k) ++ qcells [(n, t)]) := p1
        obtain ⟨A13, c13, rfl, -, -, -, -, -⟩ := R13.shape
        refine hK.out _ _ (fun h => MK.out _ (FC.trans p2 (fun i hi => .inr (by have := (R8.lt i (mem_own.1 hi)).1; have := HB.out; omega)))) (fun hHx => ?_)
        replace FC := FC.trans p2 (fun i hi => .inr (by have := (R8.lt i (mem_own.1 hi)).1; have := HB.out; omega))
        clear hK hHeld
        have hHeld := hHx (by decide)
        clear hHx
        try simp only [Act.put, List.setIfInBounds_toArray, List.set_cons_zero, List.set_cons_succ]
        clear p1 p2 p3 p4
        refine takeT_c 20 rfl (by kernel_rfl) (by rfl) (fun K hK => ?_)
        refine wp_app rfl slPair B _ (k + 1) (qcells (M.take k) ++ qcells [(n, t)]) rfl R13 _ _ _ (qcells (M.drop k)) rfl (HQ.out.2) (HRB.out.keep_nil FC) (qcells_one _) (HN7.out) (by omega) (by have := FC.size; have := HB.out; omega) (fun v20 w20 p1 p2 p3 p4 => ?_)
        have R20 : Row w20 B 106 2 v20 ((setL L n t).length) (qcells (setL L n t)) := by rw [HSL.out, qcells_app, qcells_app, List.length_append, List.length_append, List.length_take, List.length_drop, HN.out, show min k N = k by omega]; exact p1
        obtain ⟨A20, c20, rfl, -, -, -, -, -⟩ := R20.shape
        refine hK.out _ _ (fun h => MK.out _ (FC.trans p2 (fun i hi => .inr (by have := (R13.lt i (mem_own.1 hi)).1; have := HB.out; omega)))) (fun hHx => ?_)
        replace FC := FC.trans p2 (fun i hi => .inr (by have := (R13.lt i (mem_own.1 hi)).1; have := HB.out; omega))
        clear hK hHeld
        have hHeld := hHx (by decide)
        clear hHx
        try simp only [Act.put, List.setIfInBounds_toArray, List.set_cons_zero, List.set_cons_succ]
        clear p1 p2 p3 p4
        refine takeT_c 21 rfl (by kernel_rfl) (by rfl) (fun K hK => ?_)
        go_simp
        refine hK.out _ _ (fun _ => hHeld) (fun hHx => ?_)
        clear hHx hK
        try simp only [Act.put, List.setIfInBounds_toArray, List.set_cons_zero, List.set_cons_succ]
        refine takeT_c 22 rfl (by kernel_rfl) (by rfl) (fun K hK => ?_)
        go_simp
        refine hK.out _ _ (fun _ => hHeld) (fun hHx => ?_)
        clear hHx hK
        try simp only [Act.put, List.setIfInBounds_toArray, List.set_cons_zero, List.set_cons_succ]
        have fW : Fr [] w1 w20 := FD.out.trans_nil FC
        have hW := HH.out.keep_nil fW
        have hold := hW.c0
        have P3 := hW.blk.frozen 0
        have kb := hW.blk.set_ 0 (.slice A20 (setL L n t).length c20)
        have fS : Fr [q] w20 (w20.setCell ⟨q, 0, none⟩ (.slice A20 (setL L n t).length c20)) := (Fr.refl [q] w20).setCell (.inl (by simp)) _
        have rS := (R20.mono (Nat.zero_le _)).keep fS (fun g hg hm => by rw [List.mem_singleton.1 hm] at hg; exact R20.ne_blk hW.blk (by decide) hg)
        have hFin : AftS w q O (setL L n t) (w20.setCell ⟨q, 0, none⟩ (.slice A20 (setL L n t).length c20)) := by
          refine ⟨q :: (Value.slice A20 (setL L n t).length c20).ownBlock.toList, ⟨_, List.mem_cons_self, fun g hg => List.mem_cons_of_mem _ (mem_own.2 hg), kb, rS, fun i hi => ?_⟩, fun i hi => ?_, (HF1.out.2.trans_nil fW).trans fS (fun i hi => .inl hi)⟩
          · rcases List.mem_cons.1 hi with rfl | hi
            · exact Nat.lt_of_lt_of_le hW.blk.lt fS.size
            · exact (rS.lt i (mem_own.1 hi)).2
          · rcases List.mem_cons.1 hi with rfl | hi
            · exact .inl HF1.out.1
            · have h1 := (R20.lt i (mem_own.1 hi)).1
              have := HB.out
              have := FD.out.size
              have := HF1.out.2.size
              exact .inr (by omega)
        have HF := Lib.hid hFin
        refine takeT_c 23 rfl (by kernel_rfl) (by rfl) (fun K hK => ?_)
        refine wp_st1 rfl (by kernel_rfl) q 0 rfl (.slice A20 (setL L n t).length c20) rfl rfl rfl hold P3 ?_
        refine hK.out _ _ (fun h => absurd rfl h) (fun hHx => ?_)
        clear hHx hK hHeld hold P3 kb fS rS hFin hW fW R20 R13 R8 R17 FC
        refine wpAnyT_done (by kernel_rfl) ?_ _
        go_wp2_with fail
        go_returns
        exact ⟨rfl, HF.out⟩
end
end Go.Proofs.Ytdhhnioklbnicaa
