/-
  Layer 13 (record): what blocks are as a transaction; ContainsFunc.
-/
import Derived.Test.YtlelgeigighecaaDoorRecO
set_option linter.unusedSimpArgs false
set_option linter.unusedVariables false
set_option linter.unnecessarySimpa false
namespace Go.Proofs.YtlelgeigighecaaDoor
open Go.RowKit

theorem slR : SlT Tryd.prog 48 85 2 32 (.agg #[.int .i64 0, .slice none 0 0]) := ⟨Tryd.underlying48, by kernel_rfl, rfl, by decide, by decide⟩
def rcells (ps : List (Int × Value)) : List Value := ps.flatMap fun p => [.int .i64 p.1, p.2]
theorem rcells_len (ps : List (Int × Value)) : (rcells ps).length = ps.length * 2 := by
  induction ps with
  | nil => rfl
  | cons p r ih => rw [rcells, List.flatMap_cons, List.length_append, ← rcells, ih, List.length_cons]; simp; omega
theorem rcells_snoc (ps : List (Int × Value)) (p : Int × Value) : rcells (ps ++ [p]) = rcells ps ++ [.int .i64 p.1, p.2] := by simp [rcells]
theorem rcells_at (ps : List (Int × Value)) (i : Nat) (h : i < ps.length) : (rcells ps)[i * 2]? = some (.int .i64 ps[i].1) ∧ (rcells ps)[i * 2 + 1]? = some ps[i].2 := by
  induction ps generalizing i with
  | nil => simp at h
  | cons p r ih =>
    cases i with
    | zero => exact ⟨rfl, rfl⟩
    | succ i =>
      have := ih i (by simpa using h)
      rw [show (i + 1) * 2 = i * 2 + 2 by omega, show i * 2 + 2 + 1 = (i * 2 + 1) + 2 by omega]
      exact this
/-- Redos of the call's own. -/
structure RRow (w : World) (B : Nat) (v : Value) (ps : List (Int × Value)) (rs : List (Int × List UInt8)) : Prop where
  row : Row w B 85 2 v rs.length (rcells ps)
  len : ps.length = rs.length
  each : ∀ i (h : i < ps.length) (h' : i < rs.length), ps[i].1 = rs[i].1 ∧ Row w B 5 1 ps[i].2 rs[i].2.length (bvs rs[i].2)
theorem RRow.nil (w : World) (B : Nat) : RRow w B (.slice none 0 0) [] [] := ⟨Row.nil _ _ _ _, rfl, fun i h => by simp at h⟩
theorem RRow.keep_nil {w w' : World} {B : Nat} {v : Value} {ps : List (Int × Value)} {rs : List (Int × List UInt8)} (h : RRow w B v ps rs) (f : Fr [] w w') : RRow w' B v ps rs :=
  ⟨h.row.keep_nil f, h.len, fun i h1 h2 => ⟨(h.each i h1 h2).1, (h.each i h1 h2).2.keep_nil f⟩⟩
theorem RRow.mono {w : World} {B B' : Nat} {v : Value} {ps : List (Int × Value)} {rs : List (Int × List UInt8)} (h : RRow w B v ps rs) (hB : B' ≤ B) : RRow w B' v ps rs :=
  ⟨h.row.mono hB, h.len, fun i h1 h2 => ⟨(h.each i h1 h2).1, (h.each i h1 h2).2.mono hB⟩⟩
theorem RRow.snoc {w w' : World} {B : Nat} {v v' u : Value} {x : Int} {ps : List (Int × Value)} {rs : List (Int × List UInt8)} {b : List UInt8} (h : RRow w B v ps rs) (hu : Row w B 5 1 u b.length (bvs b)) (f : Fr v.ownBlock.toList w w') (hr : Row w' B 85 2 v' (rs.length + 1) (rcells ps ++ [.int .i64 x, u])) : RRow w' B v' (ps ++ [(x, u)]) (rs ++ [(x, b)]) := by
  have kp : ∀ {z : Value} {l : List UInt8}, Row w B 5 1 z l.length (bvs l) → Row w' B 5 1 z l.length (bvs l) := fun hx =>
    hx.keep f (fun g hg hm => hx.ne_rowR h.row (by decide) g hg (mem_own.1 hm))
  have hl := h.len
  refine ⟨by rw [List.length_append, rcells_snoc]; exact hr, by rw [List.length_append, List.length_append, hl]; rfl, fun i h1 h2 => ?_⟩
  by_cases hi : i < ps.length
  · have e1 : (ps ++ [(x, u)])[i] = ps[i] := List.getElem_append_left hi
    have e2 : (rs ++ [(x, b)])[i] = rs[i] := List.getElem_append_left (by omega)
    rw [e1, e2]
    exact ⟨(h.each i hi (by omega)).1, kp (h.each i hi (by omega)).2⟩
  · have hiv : i = ps.length := by rw [List.length_append, List.length_singleton] at h1; omega
    subst hiv
    have e1 : (ps ++ [(x, u)])[ps.length] = (x, u) := by rw [List.getElem_append_right (Nat.le_refl _)]; simp
    have e2 : (rs ++ [(x, b)])[ps.length] = (x, b) := by rw [List.getElem_append_right (by omega)]; simp
    rw [e1, e2]
    exact ⟨rfl, kp hu⟩

def trB (t i : Nat) (b : List UInt8) : List UInt8 := if t / 2 ^ i % 2 = 1 then turnB b else b
theorem trB_len (t i : Nat) (b : List UInt8) : (trB t i b).length = b.length := by unfold trB; split; exact turnB_len b; rfl
def trE (t : Nat) (L : List Int) (bs : List (List UInt8)) (i : Nat) : Int × List UInt8 := (L.getD i 0, trB t i (bs.getD (1 + i) []))
def trQ (t : Nat) (bs : List (List UInt8)) (i : Nat) : Prop := decide (t / 2 ^ i % 2 = 1) = likeB (trB t i (bs.getD (1 + i) []))
instance (t : Nat) (bs : List (List UInt8)) (i : Nat) : Decidable (trQ t bs i) := by unfold trQ; infer_instance
def trOk (n : Nat) (bs : List (List UInt8)) (m : Nat) (L : List Int) (t : Nat) : Prop :=
  m = n ∧ L.length + 1 < bs.length ∧ (∀ b ∈ bs.take (L.length + 1), b.length = 512) ∧ bs.getD (L.length + 1) [] = doneB n (bs.take (L.length + 1)).flatten ∧ ∀ i, i < L.length → trQ t bs i
instance (n : Nat) (bs : List (List UInt8)) (m : Nat) (L : List Int) (t : Nat) : Decidable (trOk n bs m L t) := by unfold trOk; infer_instance
/-- What blocks are as a transaction of a number. -/
def trV (n : Nat) (bs : List (List UInt8)) : Option (List (Int × List UInt8)) :=
  match plV (bs.headD []) with
  | none => none
  | some (m, L, t) => if trOk n bs m L t then some ((List.range L.length).map (trE t L bs)) else none
theorem trV_none {n : Nat} {bs : List (List UInt8)} (h : plV (bs.headD []) = none) : trV n bs = none := by unfold trV; rw [h]
theorem trV_no {n : Nat} {bs : List (List UInt8)} {m t : Nat} {L : List Int} (h : plV (bs.headD []) = some (m, L, t)) (h2 : ¬ trOk n bs m L t) : trV n bs = none := by unfold trV; rw [h]; exact if_neg h2
theorem trV_some {n : Nat} {bs : List (List UInt8)} {m t : Nat} {L : List Int} (h : plV (bs.headD []) = some (m, L, t)) (h2 : trOk n bs m L t) : trV n bs = some ((List.range L.length).map (trE t L bs)) := by unfold trV; rw [h]; exact if_pos h2
def trN (n : Nat) (bs : List (List UInt8)) : Nat := match trV n bs with | none => 0 | some rs => rs.length + 2
def TrC (w : World) (n : Nat) (bs : List (List UInt8)) (e : Ending) (w' : World) : Prop :=
  ∃ v ps, e = .returned (.tuple #[v, .int .i64 ((trN n bs : Nat) : Int), .int .i64 (errG (trV n bs).isSome 110)]) ∧ RRow w' w.heap.size v ps ((trV n bs).getD []) ∧ Fr [] w w'
theorem TrC.no {w w' : World} {n : Nat} {bs : List (List UInt8)} (h : trV n bs = none) (f : Fr [] w w') : TrC w n bs (.returned (.tuple #[.slice none 0 0, .int .i64 0, .int .i64 110])) w' := by
  unfold TrC trN
  rw [h]
  exact ⟨_, [], rfl, RRow.nil _ _, f⟩
theorem TrC.yes {w w' : World} {n k : Nat} {bs : List (List UInt8)} {v : Value} {ps : List (Int × Value)} {rs : List (Int × List UInt8)} {z : Int} (h : trV n bs = some rs) (hz : z = ((rs.length + 2 : Nat) : Int)) (r : RRow w' w.heap.size v ps rs) (f : Fr [] w w') : TrC w n bs (.returned (.tuple #[v, .int .i64 z, .int .i64 0])) w' := by
  unfold TrC trN
  rw [h, hz]
  exact ⟨_, ps, rfl, r, f⟩
theorem PartC.of_none {w w' : World} {l : List UInt8} {e : Ending} (h : plV l = none) (k : PartC w l e w') : ∃ v, e = .returned (.tuple #[.int .u64 0, v, .int .u64 0, .int .i64 110]) ∧ Row w' w.heap.size 3 1 v 0 [] ∧ Fr [] w w' := by
  unfold PartC at k
  rw [h] at k
  exact k
theorem PartC.of_some {w w' : World} {l : List UInt8} {e : Ending} {n t : Nat} {L : List Int} (h : plV l = some (n, L, t)) (k : PartC w l e w') : ∃ v, e = .returned (.tuple #[.int .u64 (n : Int), v, .int .u64 (t : Int), .int .i64 0]) ∧ Row w' w.heap.size 3 1 v L.length (zvs L) ∧ Fr [] w w' := by
  unfold PartC at k
  rw [h] at k
  exact k
theorem plV_b {l : List UInt8} {n t : Nat} {L : List Int} (h : plV l = some (n, L, t)) : l.length = 512 ∧ 1 ≤ L.length ∧ L.length ≤ 64 ∧ n < 18446744073709551616 ∧ t < 18446744073709551616 ∧ (∀ x ∈ L, 0 ≤ x ∧ x < 4096) := by
  unfold plV at h
  split at h
  · rename_i hk
    simp only [Option.some.injEq, Prod.mk.injEq] at h
    obtain ⟨rfl, rfl, rfl⟩ := h
    have h6 := hk.2.2.2.2.2.2
    refine ⟨hk.1, ?_, by rw [plL_len]; exact hk.2.1, plN_lt _, plT_lt _, right_in h6⟩
    simp only [rightF, Bool.and_eq_true, decide_eq_true_eq] at h6
    exact h6.2.2.1
  · cases h

def all5 (bs : List (List UInt8)) : Bool := bs.all fun b => b.length == 512
theorem BRd.take {w : World} {A : Option Addr} {vs : List Value} {bs : List (List UInt8)} (h : BRd w A vs bs) (k : Nat) : BRd w A (vs.take k) (bs.take k) :=
  ⟨h.rd.take k, by rw [List.length_take, List.length_take, h.len], fun i h1 h2 => by
    rw [List.length_take] at h1 h2
    have := h.each i (by omega) (by omega)
    simpa using this⟩
set_option maxHeartbeats 1000000 in
theorem rcParse1_any (w : World) (v : Value) (l : List UInt8) (h : SlB w v l) : Calls Tryd.prog 70 #[v] w fun e w' => e = .returned (.bool (!(l.length == 512))) ∧ w = w' := by
  obtain ⟨A, c, rfl, -⟩ := h
  generalize l.length = n
  by_cases h5 : n = 512
  · subst h5
    go_enter Tryd.func70, Tryd.ntmps70
    go_wp2_with fail
    go_ret
    exact ⟨rfl, rfl⟩
  · have d1 := Lib.hid (show ((n : Int) != 512) = true by simp only [bne_iff_ne]; omega)
    have d2 := Lib.hid (show (n == 512) = false by rw [beq_eq_false_iff_ne]; exact h5)
    clear h5
    go_enter Tryd.func70, Tryd.ntmps70
    go_wp2_with fail
    go_ret
    exact ⟨by rw [d2.out]; exact congrArg (fun b => Ending.returned (.bool b)) d1.out, rfl⟩
set_option maxHeartbeats 1000000 in
theorem indexBB_any (A : Option Addr) (vs : List Value) (bs : List (List UInt8)) (n c : Nat) (w : World) (hn : bs.length = n) (hr : BRd w A vs bs) (hl : n ≤ 140737488355328) :
    Calls Tryd.prog 94 #[.slice A n c, .func (.func 70) #[] #[]] w fun e w' => (∃ z : Int, e = .returned (.int .i64 z) ∧ decide (0 ≤ z) = !all5 bs) ∧ w = w' := by
  have HN := Lib.hid hn
  clear hn
  go_enter Tryd.func94, Tryd.ntmps94
  go_wp2_with fail
  go_loop [8] (fun i => ∃ k : Nat, k ≤ n ∧ i = .int .i64 k ∧ all5 (bs.take k) = true) (fun i => n - (intOf i).toNat)
  case atStart => exact ⟨0, Nat.zero_le _, rfl, rfl⟩
  case round =>
    obtain ⟨k, hk, rfl, hz⟩ := hrel
    have Hz := Lib.hid hz
    clear hz
    by_cases hlt : k < n
    · have hkl : k < bs.length := by rw [HN.out]; exact hlt
      have hkv : k < vs.length := by rw [hr.len]; exact hkl
      obtain ⟨ga, oa, rfl, hc⟩ := hr.rd (by intro h; rw [h] at hkv; simp at hkv)
      have ck := hc k vs[k] (List.getElem?_eq_getElem hkv)
      have hs := hr.each k hkv hkl
      have HT := Lib.hid (show all5 (bs.take (k + 1)) = (all5 (bs.take k) && (bs[k].length == 512)) by unfold all5; rw [List.take_succ_eq_append_getElem hkl, List.all_append]; simp only [List.all_cons, List.all_nil, Bool.and_true])
      have HF := Lib.hid (show bs[k].length ≠ 512 → all5 bs = false from fun h => by
        rw [all5, List.all_eq_false]
        exact ⟨bs[k], List.getElem_mem hkl, by simpa using h⟩)
      obtain ⟨Ak, cK, hv, hrest⟩ := id hs
      rw [hv] at ck
      have cc := rcParse1_any w _ _ hs
      rw [hv] at cc
      obtain ⟨b, hb⟩ : ∃ b, bs[k] = b := ⟨_, rfl⟩
      rw [hb] at ck cc HT HF
      clear hc hv hrest hs hb
      by_cases h5 : b.length = 512
      · rw [h5, show (!(512 == 512)) = false from rfl] at cc
        rw [h5] at ck
        have H5 := Lib.hid h5
        clear h5 HF
        go_wp2_with fail
        refine cc.mono ?_
        clear cc
        rintro e w1 ⟨rfl, rfl⟩
        go_wp2_with fail
        exact ⟨⟨k + 1, by omega, by go_num, by rw [HT.out, Hz.out, H5.out]; rfl⟩, by simp [intOf]; omega⟩
      · rw [show (!(b.length == 512)) = true by simp [h5]] at cc
        have H5 := Lib.hid (HF.out h5)
        clear h5 HF
        go_wp2_with fail
        refine cc.mono ?_
        clear cc
        rintro e w1 ⟨rfl, rfl⟩
        go_wp2_with fail
        go_ret
        exact ⟨⟨_, rfl, by rw [H5.out]; simp⟩, rfl⟩
    · have hk' : k = n := by omega
      have e := Hz.out
      rw [List.take_of_length_le (by rw [HN.out, hk']; exact Nat.le_refl _)] at e
      have H := Lib.hid e
      clear e hk' Hz
      go_wp2_with fail
      go_ret
      exact ⟨⟨_, rfl, by rw [H.out]; rfl⟩, rfl⟩
set_option maxHeartbeats 1000000 in
theorem containsBB_any (A : Option Addr) (vs : List Value) (bs : List (List UInt8)) (n c : Nat) (w : World) (hn : bs.length = n) (hr : BRd w A vs bs) (hl : n ≤ 140737488355328) :
    Calls Tryd.prog 71 #[.slice A n c, .func (.func 70) #[] #[]] w fun e w' => e = .returned (.bool (!all5 bs)) ∧ w = w' := by
  go_enter Tryd.func71, Tryd.ntmps71
  go_wp2_with fail
  refine (indexBB_any A vs bs n c w hn hr hl).mono ?_
  rintro e w1 ⟨⟨z, rfl, hz⟩, rfl⟩
  have HZ := Lib.hid hz
  clear hz
  go_wp2_with fail
  go_ret
  exact ⟨by rw [← HZ.out]; rfl, rfl⟩
end Go.Proofs.YtlelgeigighecaaDoor
