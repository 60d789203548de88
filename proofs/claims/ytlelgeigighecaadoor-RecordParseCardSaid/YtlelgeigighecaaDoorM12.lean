/-
  Texts of this claim, one behind the other: RecP, RecQ, RecR.
-/
import Derived.Test.YtlelgeigighecaaDoorM11
/-
  Layer 13 (record): what blocks are as a transaction; ContainsFunc.
-/
set_option linter.unusedSimpArgs false
set_option linter.unusedVariables false
set_option linter.unnecessarySimpa false
namespace Go.Proofs.YtlelgeigighecaaDoor
open Go.RowKit

theorem slR : SlT Tryd.prog 48 85 2 32 (.agg #[.int .i64 0, .slice none 0 0]) := ⟨Tryd.underlying48, by kernel_rfl, rfl, by decide, by decide⟩
def rcells (ps : List (Int × Value)) : List Value := ps.flatMap fun p => [.int .i64 p.1, p.2]
theorem rcells_len (ps : List (Int × Value)) : (rcells ps).length = ps.length * 2 := by
  induction ps with
  | nil => rfl
  | cons p r ih => rw [rcells, List.flatMap_cons, List.length_append, ← rcells, ih, List.length_cons]; simp; omega
theorem rcells_snoc (ps : List (Int × Value)) (p : Int × Value) : rcells (ps ++ [p]) = rcells ps ++ [.int .i64 p.1, p.2] := by simp [rcells]
theorem rcells_at (ps : List (Int × Value)) (i : Nat) (h : i < ps.length) : (rcells ps)[i * 2]? = some (.int .i64 ps[i].1) ∧ (rcells ps)[i * 2 + 1]? = some ps[i].2 := by
  induction ps generalizing i with
  | nil => simp at h
  | cons p r ih =>
    cases i with
    | zero => exact ⟨rfl, rfl⟩
    | succ i =>
      have := ih i (by simpa using h)
      rw [show (i + 1) * 2 = i * 2 + 2 by omega, show i * 2 + 2 + 1 = (i * 2 + 1) + 2 by omega]
      exact this
/-- Redos of the call's own. -/
structure RRow (w : World) (B : Nat) (v : Value) (ps : List (Int × Value)) (rs : List (Int × List UInt8)) : Prop where
  row : Row w B 85 2 v rs.length (rcells ps)
  len : ps.length = rs.length
  each : ∀ i (h : i < ps.length) (h' : i < rs.length), ps[i].1 = rs[i].1 ∧ Row w B 5 1 ps[i].2 rs[i].2.length (bvs rs[i].2)
theorem RRow.nil (w : World) (B : Nat) : RRow w B (.slice none 0 0) [] [] := ⟨Row.nil _ _ _ _, rfl, fun i h => by simp at h⟩
theorem RRow.keep_nil {w w' : World} {B : Nat} {v : Value} {ps : List (Int × Value)} {rs : List (Int × List UInt8)} (h : RRow w B v ps rs) (f : Fr [] w w') : RRow w' B v ps rs :=
  ⟨h.row.keep_nil f, h.len, fun i h1 h2 => ⟨(h.each i h1 h2).1, (h.each i h1 h2).2.keep_nil f⟩⟩
theorem RRow.mono {w : World} {B B' : Nat} {v : Value} {ps : List (Int × Value)} {rs : List (Int × List UInt8)} (h : RRow w B v ps rs) (hB : B' ≤ B) : RRow w B' v ps rs :=
  ⟨h.row.mono hB, h.len, fun i h1 h2 => ⟨(h.each i h1 h2).1, (h.each i h1 h2).2.mono hB⟩⟩
theorem RRow.snoc {w w' : World} {B : Nat} {v v' u : Value} {x : Int} {ps : List (Int × Value)} {rs : List (Int × List UInt8)} {b : List UInt8} (h : RRow w B v ps rs) (hu : Row w B 5 1 u b.length (bvs b)) (f : Fr v.ownBlock.toList w w') (hr : Row w' B 85 2 v' (rs.length + 1) (rcells ps ++ [.int .i64 x, u])) : RRow w' B v' (ps ++ [(x, u)]) (rs ++ [(x, b)]) := by
  have kp : ∀ {z : Value} {l : List UInt8}, Row w B 5 1 z l.length (bvs l) → Row w' B 5 1 z l.length (bvs l) := fun hx =>
    hx.keep f (fun g hg hm => hx.ne_rowR h.row (by decide) g hg (mem_own.1 hm))
  have hl := h.len
  refine ⟨by rw [List.length_append, rcells_snoc]; exact hr, by rw [List.length_append, List.length_append, hl]; rfl, fun i h1 h2 => ?_⟩
  by_cases hi : i < ps.length
  · have e1 : (ps ++ [(x, u)])[i] = ps[i] := List.getElem_append_left hi
    have e2 : (rs ++ [(x, b)])[i] = rs[i] := List.getElem_append_left (by omega)
    rw [e1, e2]
    exact ⟨(h.each i hi (by omega)).1, kp (h.each i hi (by omega)).2⟩
  · have hiv : i = ps.length := by rw [List.length_append, List.length_singleton] at h1; omega
    subst hiv
    have e1 : (ps ++ [(x, u)])[ps.length] = (x, u) := by rw [List.getElem_append_right (Nat.le_refl _)]; simp
    have e2 : (rs ++ [(x, b)])[ps.length] = (x, b) := by rw [List.getElem_append_right (by omega)]; simp
    rw [e1, e2]
    exact ⟨rfl, kp hu⟩

def trB (t i : Nat) (b : List UInt8) : List UInt8 := if t / 2 ^ i % 2 = 1 then turnB b else b
theorem trB_len (t i : Nat) (b : List UInt8) : (trB t i b).length = b.length := by unfold trB; split; exact turnB_len b; rfl
def trE (t : Nat) (L : List Int) (bs : List (List UInt8)) (i : Nat) : Int × List UInt8 := (L.getD i 0, trB t i (bs.getD (1 + i) []))
def trQ (t : Nat) (bs : List (List UInt8)) (i : Nat) : Prop := decide (t / 2 ^ i % 2 = 1) = likeB (trB t i (bs.getD (1 + i) []))
instance (t : Nat) (bs : List (List UInt8)) (i : Nat) : Decidable (trQ t bs i) := by unfold trQ; infer_instance
def trOk (n : Nat) (bs : List (List UInt8)) (m : Nat) (L : List Int) (t : Nat) : Prop :=
  m = n ∧ L.length + 1 < bs.length ∧ (∀ b ∈ bs.take (L.length + 1), b.length = 512) ∧ bs.getD (L.length + 1) [] = doneB n (bs.take (L.length + 1)).flatten ∧ ∀ i, i < L.length → trQ t bs i
instance (n : Nat) (bs : List (List UInt8)) (m : Nat) (L : List Int) (t : Nat) : Decidable (trOk n bs m L t) := by unfold trOk; infer_instance
/-- What blocks are as a transaction of a number. -/
def trV (n : Nat) (bs : List (List UInt8)) : Option (List (Int × List UInt8)) :=
  match plV (bs.headD []) with
  | none => none
  | some (m, L, t) => if trOk n bs m L t then some ((List.range L.length).map (trE t L bs)) else none
theorem trV_none {n : Nat} {bs : List (List UInt8)} (h : plV (bs.headD []) = none) : trV n bs = none := by unfold trV; rw [h]
theorem trV_no {n : Nat} {bs : List (List UInt8)} {m t : Nat} {L : List Int} (h : plV (bs.headD []) = some (m, L, t)) (h2 : ¬ trOk n bs m L t) : trV n bs = none := by unfold trV; rw [h]; exact if_neg h2
theorem trV_some {n : Nat} {bs : List (List UInt8)} {m t : Nat} {L : List Int} (h : plV (bs.headD []) = some (m, L, t)) (h2 : trOk n bs m L t) : trV n bs = some ((List.range L.length).map (trE t L bs)) := by unfold trV; rw [h]; exact if_pos h2
def trN (n : Nat) (bs : List (List UInt8)) : Nat := match trV n bs with | none => 0 | some rs => rs.length + 2
def TrC (w : World) (n : Nat) (bs : List (List UInt8)) (e : Ending) (w' : World) : Prop :=
  ∃ v ps, e = .returned (.tuple #[v, .int .i64 ((trN n bs : Nat) : Int), .int .i64 (errG (trV n bs).isSome 110)]) ∧ RRow w' w.heap.size v ps ((trV n bs).getD []) ∧ Fr [] w w'
theorem TrC.no {w w' : World} {n : Nat} {bs : List (List UInt8)} (h : trV n bs = none) (f : Fr [] w w') : TrC w n bs (.returned (.tuple #[.slice none 0 0, .int .i64 0, .int .i64 110])) w' := by
  unfold TrC trN
  rw [h]
  exact ⟨_, [], rfl, RRow.nil _ _, f⟩
theorem TrC.yes {w w' : World} {n k : Nat} {bs : List (List UInt8)} {v : Value} {ps : List (Int × Value)} {rs : List (Int × List UInt8)} {z : Int} (h : trV n bs = some rs) (hz : z = ((rs.length + 2 : Nat) : Int)) (r : RRow w' w.heap.size v ps rs) (f : Fr [] w w') : TrC w n bs (.returned (.tuple #[v, .int .i64 z, .int .i64 0])) w' := by
  unfold TrC trN
  rw [h, hz]
  exact ⟨_, ps, rfl, r, f⟩
theorem PartC.of_none {w w' : World} {l : List UInt8} {e : Ending} (h : plV l = none) (k : PartC w l e w') : ∃ v, e = .returned (.tuple #[.int .u64 0, v, .int .u64 0, .int .i64 110]) ∧ Row w' w.heap.size 3 1 v 0 [] ∧ Fr [] w w' := by
  unfold PartC at k
  rw [h] at k
  exact k
theorem PartC.of_some {w w' : World} {l : List UInt8} {e : Ending} {n t : Nat} {L : List Int} (h : plV l = some (n, L, t)) (k : PartC w l e w') : ∃ v, e = .returned (.tuple #[.int .u64 (n : Int), v, .int .u64 (t : Int), .int .i64 0]) ∧ Row w' w.heap.size 3 1 v L.length (zvs L) ∧ Fr [] w w' := by
  unfold PartC at k
  rw [h] at k
  exact k
theorem plV_b {l : List UInt8} {n t : Nat} {L : List Int} (h : plV l = some (n, L, t)) : l.length = 512 ∧ 1 ≤ L.length ∧ L.length ≤ 64 ∧ n < 18446744073709551616 ∧ t < 18446744073709551616 ∧ (∀ x ∈ L, 0 ≤ x ∧ x < 4096) := by
  unfold plV at h
  split at h
  · rename_i hk
    simp only [Option.some.injEq, Prod.mk.injEq] at h
    obtain ⟨rfl, rfl, rfl⟩ := h
    have h6 := hk.2.2.2.2.2.2
    refine ⟨hk.1, ?_, by rw [plL_len]; exact hk.2.1, plN_lt _, plT_lt _, right_in h6⟩
    simp only [rightF, Bool.and_eq_true, decide_eq_true_eq] at h6
    exact h6.2.2.1
  · cases h

def all5 (bs : List (List UInt8)) : Bool := bs.all fun b => b.length == 512
theorem BRd.take {w : World} {A : Option Addr} {vs : List Value} {bs : List (List UInt8)} (h : BRd w A vs bs) (k : Nat) : BRd w A (vs.take k) (bs.take k) :=
  ⟨h.rd.take k, by rw [List.length_take, List.length_take, h.len], fun i h1 h2 => by
    rw [List.length_take] at h1 h2
    have := h.each i (by omega) (by omega)
    simpa using this⟩
set_option maxHeartbeats 1000000 in
theorem rcParse1_any (w : World) (v : Value) (l : List UInt8) (h : SlB w v l) : Calls Tryd.prog 70 #[v] w fun e w' => e = .returned (.bool (!(l.length == 512))) ∧ w = w' := by
  obtain ⟨A, c, rfl, -⟩ := h
  generalize l.length = n
  by_cases h5 : n = 512
  · subst h5
    go_enter Tryd.func70, Tryd.ntmps70
    go_wp2_with fail
    go_ret
    exact ⟨rfl, rfl⟩
  · have d1 := Lib.hid (show ((n : Int) != 512) = true by simp only [bne_iff_ne]; omega)
    have d2 := Lib.hid (show (n == 512) = false by rw [beq_eq_false_iff_ne]; exact h5)
    clear h5
    go_enter Tryd.func70, Tryd.ntmps70
    go_wp2_with fail
    go_ret
    exact ⟨by rw [d2.out]; exact congrArg (fun b => Ending.returned (.bool b)) d1.out, rfl⟩
set_option maxHeartbeats 1000000 in
theorem indexBB_any (A : Option Addr) (vs : List Value) (bs : List (List UInt8)) (n c : Nat) (w : World) (hn : bs.length = n) (hr : BRd w A vs bs) (hl : n ≤ 140737488355328) :
    Calls Tryd.prog 94 #[.slice A n c, .func (.func 70) #[] #[]] w fun e w' => (∃ z : Int, e = .returned (.int .i64 z) ∧ decide (0 ≤ z) = !all5 bs) ∧ w = w' := by
  have HN := Lib.hid hn
  clear hn
  go_enter Tryd.func94, Tryd.ntmps94
  go_wp2_with fail
  go_loop [8] (fun i => ∃ k : Nat, k ≤ n ∧ i = .int .i64 k ∧ all5 (bs.take k) = true) (fun i => n - (intOf i).toNat)
  case atStart => exact ⟨0, Nat.zero_le _, rfl, rfl⟩
  case round =>
    obtain ⟨k, hk, rfl, hz⟩ := hrel
    have Hz := Lib.hid hz
    clear hz
    by_cases hlt : k < n
    · have hkl : k < bs.length := by rw [HN.out]; exact hlt
      have hkv : k < vs.length := by rw [hr.len]; exact hkl
      obtain ⟨ga, oa, rfl, hc⟩ := hr.rd (by intro h; rw [h] at hkv; simp at hkv)
      have ck := hc k vs[k] (List.getElem?_eq_getElem hkv)
      have hs := hr.each k hkv hkl
      have HT := Lib.hid (show all5 (bs.take (k + 1)) = (all5 (bs.take k) && (bs[k].length == 512)) by unfold all5; rw [List.take_succ_eq_append_getElem hkl, List.all_append]; simp only [List.all_cons, List.all_nil, Bool.and_true])
      have HF := Lib.hid (show bs[k].length ≠ 512 → all5 bs = false from fun h => by
        rw [all5, List.all_eq_false]
        exact ⟨bs[k], List.getElem_mem hkl, by simpa using h⟩)
      obtain ⟨Ak, cK, hv, hrest⟩ := id hs
      rw [hv] at ck
      have cc := rcParse1_any w _ _ hs
      rw [hv] at cc
      obtain ⟨b, hb⟩ : ∃ b, bs[k] = b := ⟨_, rfl⟩
      rw [hb] at ck cc HT HF
      clear hc hv hrest hs hb
      by_cases h5 : b.length = 512
      · rw [h5, show (!(512 == 512)) = false from rfl] at cc
        rw [h5] at ck
        have H5 := Lib.hid h5
        clear h5 HF
        go_wp2_with fail
        refine cc.mono ?_
        clear cc
        rintro e w1 ⟨rfl, rfl⟩
        go_wp2_with fail
        exact ⟨⟨k + 1, by omega, by go_num, by rw [HT.out, Hz.out, H5.out]; rfl⟩, by simp [intOf]; omega⟩
      · rw [show (!(b.length == 512)) = true by simp [h5]] at cc
        have H5 := Lib.hid (HF.out h5)
        clear h5 HF
        go_wp2_with fail
        refine cc.mono ?_
        clear cc
        rintro e w1 ⟨rfl, rfl⟩
        go_wp2_with fail
        go_ret
        exact ⟨⟨_, rfl, by rw [H5.out]; simp⟩, rfl⟩
    · have hk' : k = n := by omega
      have e := Hz.out
      rw [List.take_of_length_le (by rw [HN.out, hk']; exact Nat.le_refl _)] at e
      have H := Lib.hid e
      clear e hk' Hz
      go_wp2_with fail
      go_ret
      exact ⟨⟨_, rfl, by rw [H.out]; rfl⟩, rfl⟩
set_option maxHeartbeats 1000000 in
theorem containsBB_any (A : Option Addr) (vs : List Value) (bs : List (List UInt8)) (n c : Nat) (w : World) (hn : bs.length = n) (hr : BRd w A vs bs) (hl : n ≤ 140737488355328) :
    Calls Tryd.prog 71 #[.slice A n c, .func (.func 70) #[] #[]] w fun e w' => e = .returned (.bool (!all5 bs)) ∧ w = w' := by
  go_enter Tryd.func71, Tryd.ntmps71
  go_wp2_with fail
  refine (indexBB_any A vs bs n c w hn hr hl).mono ?_
  rintro e w1 ⟨⟨z, rfl, hz⟩, rfl⟩
  have HZ := Lib.hid hz
  clear hz
  go_wp2_with fail
  go_ret
  exact ⟨by rw [← HZ.out]; rfl, rfl⟩
end Go.Proofs.YtlelgeigighecaaDoor
/-
  Layer 13 (record): Parse.
-/
set_option linter.unusedSimpArgs false
set_option linter.unusedVariables false
set_option linter.unnecessarySimpa false
namespace Go.Proofs.YtlelgeigighecaaDoor
open Go.RowKit

theorem and_one (t k : Nat) (h : t < 18446744073709551616) : bits .and .u64 ((t : Int) / 2 ^ k) 1 = ((t / 2 ^ k % 2 : Nat) : Int) := by
  have e : (t : Int) / 2 ^ k = ((t / 2 ^ k : Nat) : Int) := by push_cast; rfl
  have h2 : t / 2 ^ k < 18446744073709551616 := Nat.lt_of_le_of_lt (Nat.div_le_self _ _) h
  rw [e, show (1 : Int) = ((1 : Nat) : Int) from rfl, bits_and_u64_nat _ 1 h2 (by omega), Nat.and_one_is_mod]
theorem all5_iff (bs : List (List UInt8)) : all5 bs = true ↔ ∀ b ∈ bs, b.length = 512 := by
  rw [all5, List.all_eq_true]
  simp

set_option maxRecDepth 100000 in
set_option maxHeartbeats 8000000 in
theorem rcParse_any (w : World) (A : Option Addr) (m n c : Nat) (vs : List Value) (bs : List (List UInt8)) (hm : m < 18446744073709551616) (hn : bs.length = n) (hr : BRd w A vs bs) (hA : A = none → n = 0) (hc : n ≤ c) (hn2 : n ≤ 140737488355328) (hK : KG w) :
    Calls Tryd.prog 29 #[.int .u64 m, .slice A n c] w (TrC w m bs) := by
  have HN := Lib.hid hn
  by_cases h0 : n = 0
  · subst h0
    have hb : bs = [] := List.length_eq_zero_iff.1 hn
    subst hb
    clear hn
    go_enter Tryd.func29, Tryd.ntmps29
    have HV := Lib.hid (show trV m [] = none from (trV_none (plV_none fun h => by have := h.1; cases this)))
    go_wp2_with fail
    go_ret3
    exact TrC.no HV.out (Fr.refl _ _)
  · have d0 : ((n : Int) == 0) = false := by rw [beq_eq_false_iff_ne]; omega
    have hv0 : vs.length = n := by rw [hr.len, hn]
    obtain ⟨b0, bs', hbs⟩ : ∃ b0 bs', bs = b0 :: bs' := by
      cases bs with
      | nil => simp at hn; omega
      | cons x r => exact ⟨x, r, rfl⟩
    obtain ⟨v0, vs', hvs⟩ : ∃ v0 vs', vs = v0 :: vs' := by
      cases vs with
      | nil => simp at hv0; omega
      | cons x r => exact ⟨x, r, rfl⟩
    obtain ⟨g, o, rfl, hcell⟩ := hr.rd (by rw [hvs]; simp)
    have c0 := hcell 0 v0 (by rw [hvs]; rfl)
    rw [Nat.add_zero] at c0
    have hs0 := hr.each 0 (by rw [hvs]; simp) (by rw [hbs]; simp)
    obtain ⟨A0, cap0, hv00, hr0, hn0, hc0⟩ := hs0
    have ev : vs[0]'(by rw [hvs]; simp) = v0 := by simp [hvs]
    have eb : bs[0]'(by rw [hbs]; simp) = b0 := by simp [hbs]
    rw [ev, eb] at hv00
    rw [eb] at hr0 hn0 hc0
    rw [hv00] at c0
    have HH := Lib.hid (show bs.headD [] = b0 by rw [hbs]; rfl)
    obtain ⟨l0, hl0⟩ : ∃ l0, b0.length = l0 := ⟨_, rfl⟩
    rw [hl0] at c0 hn0 hc0
    have cc := rcRead_any w A0 b0 l0 cap0 hl0 hr0 hn0
    have HL0 := Lib.hid hl0
    have hpos : (0 : Int) < n := by omega
    clear ev eb hv00 hr0 hn0 hl0 hbs hvs h0 hv0
    go_enter Tryd.func29, Tryd.ntmps29
    cases hp : plV b0 with
    | none =>
      have hV : trV m bs = none := trV_none (by rw [HH.out]; exact hp)
      have HV0 := Lib.hid hV
      go_wp2_with fail
      refine cc.mono ?_
      intro e w1 hE
      obtain ⟨v, rfl, r, f⟩ := PartC.of_none hp hE
      obtain ⟨A8, cap8, rfl, -, -, -, -, -⟩ := r.shape
      clear cc hE hV hp
      have HV := Lib.hid (show trV m bs = none from HV0.out)
      go_wp2_with fail
      go_ret3
      exact TrC.no HV.out f
    | some x =>
      obtain ⟨m', L, t⟩ := x
      obtain ⟨hl5, hL1, hL64, hm', ht, hLx⟩ := plV_b hp
      have HP := Lib.hid (show plV (bs.headD []) = some (m', L, t) by rw [HH.out]; exact hp)
      obtain ⟨N, hN⟩ : ∃ N, L.length = N := ⟨_, rfl⟩
      have HLN := Lib.hid hN
      rw [hN] at hL1 hL64
      go_wp2_with fail
      refine cc.mono ?_
      intro e w1 hE
      obtain ⟨v, rfl, r, f⟩ := PartC.of_some hp hE
      rw [hN] at r
      clear cc hE hp hN
      obtain ⟨A8, cap8, rfl, -, -, -, -, -⟩ := r.shape
      by_cases hmm : m' = m
      · replace hmm := hmm.symm
        subst hmm
        by_cases hlast : n ≤ N + 1
        · have K1 : (n : Int) ≤ N + 1 := by omega
          have HV := Lib.hid (show trV m bs = none from (trV_no HP.out fun h => by have := h.2.1; rw [HLN.out, HN.out] at this; omega))
          go_wp2_with fail
          go_ret3
          exact TrC.no HV.out f
        · have K1 : ¬ ((n : Int) ≤ N + 1) := by omega
          have hlb : N + 1 < bs.length := by rw [HN.out]; omega
          have hlv : N + 1 < vs.length := by rw [hr.len]; exact hlb
          obtain ⟨Al, cl, hvl, rdl, nill, capl⟩ := hr.each (N + 1) hlv hlb
          have cell9 := hcell (N + 1) vs[N + 1] (List.getElem?_eq_getElem hlv)
          rw [hvl] at cell9
          obtain ⟨bl, hbl⟩ : ∃ bl, bs[N + 1] = bl := ⟨_, rfl⟩
          rw [hbl] at cell9 rdl nill capl
          obtain ⟨nl, hnl⟩ : ∃ nl, bl.length = nl := ⟨_, rfl⟩
          rw [hnl] at cell9 nill capl
          have HNL := Lib.hid hnl
          have HBL := Lib.hid (show bs.getD (N + 1) [] = bl by simp [hlb, hbl])
          clear hvl hbl hnl
          have KC : (N : Int) + 1 ≤ c := by omega
          have KZ : (0 : Int) ≤ (N : Int) + 1 := by omega
          have hrt := hr.take (N + 1)
          have hnt : (bs.take (N + 1)).length = N + 1 := by rw [List.length_take, HN.out]; omega
          have HNT := Lib.hid hnt
          clear hnt hcell
          go_upto_region 8 with fail
          have Fd := f.drew
          have Rd9 := r.keep_nil ((Fr.refl [] w1).drew)
          obtain ⟨w2, hw2⟩ : ∃ w2, w1.drew = w2 := ⟨_, rfl⟩
          rw [hw2] at Fd Rd9
          have hS : Fr [] w2 w2 := Fr.refl _ _
          refine wp_region_held_drew (S := fun w' => Fr [] w2 w') (by kernel_rfl) (by rw [hw2]; exact hS) (fun hHeld => ?_)
          rw [hw2] at hHeld ⊢
          clear hw2 r f hS
          have CL := Lib.hid (fun (w' : World) (hS : Fr [] w2 w') => ((Fd.trans_nil hS).cell (by simp) cell9 : w'.cell? ⟨g, o + (N + 1), none⟩ = some (.slice Al nl cl)))
          clear cell9
          refine take_w 0 (some 46) (v := ?_) rfl rfl (by kernel_rfl) (by kernel_rfl) (by kernel_rfl) (fun _ _ _ h => h) (by rfl) ?_ hHeld ?_
          rotate_left
          · (intro w hSw; (try dsimp only at hSw); go_simp; try with_reducible rfl)
          simp only [Act.put, List.setIfInBounds_toArray, List.set_cons_zero, List.set_cons_succ]
          refine take_w 1 (some 47) (v := ?_) rfl rfl (by kernel_rfl) (by kernel_rfl) (by kernel_rfl) (fun _ _ _ h => h) (by rfl) ?_ hHeld ?_
          rotate_left
          · (intro w hSw; (try dsimp only at hSw); go_simp; try with_reducible rfl)
          simp only [Act.put, List.setIfInBounds_toArray, List.set_cons_zero, List.set_cons_succ]
          refine take_w 2 (some 48) (v := ?_) rfl rfl (by kernel_rfl) (by kernel_rfl) (by kernel_rfl) (fun _ _ _ h => h) (by rfl) ?_ hHeld ?_
          rotate_left
          · (intro w hSw; (try dsimp only at hSw); go_simp; try with_reducible rfl)
          simp only [Act.put, List.setIfInBounds_toArray, List.set_cons_zero, List.set_cons_succ]
          refine take_w 3 (some 49) (v := ?_) rfl rfl (by kernel_rfl) (by kernel_rfl) (by kernel_rfl) (fun _ _ _ h => h) (by rfl) ?_ hHeld ?_
          rotate_left
          · (intro w hSw; (try dsimp only at hSw); go_simp; try with_reducible rfl)
          simp only [Act.put, List.setIfInBounds_toArray, List.set_cons_zero, List.set_cons_succ]
          have cc := containsBB_any (some ⟨g, o, none⟩) (vs.take (N + 1)) (bs.take (N + 1)) (N + 1) c w2 HNT.out (hrt.keep_nil Fd) (by omega)
          cases ha : all5 (bs.take (N + 1))
          · rw [ha] at cc
            have HA := Lib.hid ha
            clear ha
            refine take_c 4 rfl (by kernel_rfl) (by rfl) (fun K hK => ?_)
            go_simp
            refine (cc).mono ?_
            rintro e w' ⟨rfl, rfl⟩
            refine hK.out _ _ hHeld (fun hHn => ?_)
            clear hHn
            clear hK K
            try simp only [Act.put, List.setIfInBounds_toArray, List.set_cons_zero, List.set_cons_succ]
            refine take_w 5 (some 51) (v := ?_) rfl rfl (by kernel_rfl) (by kernel_rfl) (by kernel_rfl) (fun _ _ _ h => h) (by rfl) ?_ hHeld ?_
            rotate_left
            · (intro w hSw; (try dsimp only at hSw); go_simp; try with_reducible rfl)
            simp only [Act.put, List.setIfInBounds_toArray, List.set_cons_zero, List.set_cons_succ]
            refine take_u 6 (some 52) rfl rfl (by kernel_rfl) (by kernel_rfl) (by kernel_rfl) (fun _ _ _ h => h) (by rfl) hHeld ?_
            simp only [Act.put, List.setIfInBounds_toArray, List.set_cons_zero, List.set_cons_succ]
            refine take_u 7 (some 53) rfl rfl (by kernel_rfl) (by kernel_rfl) (by kernel_rfl) (fun _ _ _ h => h) (by rfl) hHeld ?_
            simp only [Act.put, List.setIfInBounds_toArray, List.set_cons_zero, List.set_cons_succ]
            refine take_u 8 (some 54) rfl rfl (by kernel_rfl) (by kernel_rfl) (by kernel_rfl) (fun _ _ _ h => h) (by rfl) hHeld ?_
            simp only [Act.put, List.setIfInBounds_toArray, List.set_cons_zero, List.set_cons_succ]
            refine take_u 9 (some 55) rfl rfl (by kernel_rfl) (by kernel_rfl) (by kernel_rfl) (fun _ _ _ h => h) (by rfl) hHeld ?_
            simp only [Act.put, List.setIfInBounds_toArray, List.set_cons_zero, List.set_cons_succ]
            refine take_u 10 (some 56) rfl rfl (by kernel_rfl) (by kernel_rfl) (by kernel_rfl) (fun _ _ _ h => h) (by rfl) hHeld ?_
            simp only [Act.put, List.setIfInBounds_toArray, List.set_cons_zero, List.set_cons_succ]
            refine take_u 11 (some 57) rfl rfl (by kernel_rfl) (by kernel_rfl) (by kernel_rfl) (fun _ _ _ h => h) (by rfl) hHeld ?_
            simp only [Act.put, List.setIfInBounds_toArray, List.set_cons_zero, List.set_cons_succ]
            refine take_u 12 (some 58) rfl rfl (by kernel_rfl) (by kernel_rfl) (by kernel_rfl) (fun _ _ _ h => h) (by rfl) hHeld ?_
            simp only [Act.put, List.setIfInBounds_toArray, List.set_cons_zero, List.set_cons_succ]
            refine take_u 13 (some 59) rfl rfl (by kernel_rfl) (by kernel_rfl) (by kernel_rfl) (fun _ _ _ h => h) (by rfl) hHeld ?_
            simp only [Act.put, List.setIfInBounds_toArray, List.set_cons_zero, List.set_cons_succ]
            refine take_u 14 (some 60) rfl rfl (by kernel_rfl) (by kernel_rfl) (by kernel_rfl) (fun _ _ _ h => h) (by rfl) hHeld ?_
            simp only [Act.put, List.setIfInBounds_toArray, List.set_cons_zero, List.set_cons_succ]
            refine take_u 15 (some 61) rfl rfl (by kernel_rfl) (by kernel_rfl) (by kernel_rfl) (fun _ _ _ h => h) (by rfl) hHeld ?_
            simp only [Act.put, List.setIfInBounds_toArray, List.set_cons_zero, List.set_cons_succ]
            refine take_u 16 (some 62) rfl rfl (by kernel_rfl) (by kernel_rfl) (by kernel_rfl) (fun _ _ _ h => h) (by rfl) hHeld ?_
            simp only [Act.put, List.setIfInBounds_toArray, List.set_cons_zero, List.set_cons_succ]
            refine take_w 17 (some 63) (v := ?_) rfl rfl (by kernel_rfl) (by kernel_rfl) (by kernel_rfl) (fun _ _ _ h => h) (by rfl) ?_ hHeld ?_
            rotate_left
            · (intro w hSw; (try dsimp only at hSw); go_simp; try with_reducible rfl)
            simp only [Act.put, List.setIfInBounds_toArray, List.set_cons_zero, List.set_cons_succ]
            refine wpAnyH_done (by kernel_rfl) ?_ _
            have HV := Lib.hid (show trV m bs = none from (trV_no HP.out fun h => by have h3 := (all5_iff _).2 h.2.2.1; rw [HLN.out, HA.out] at h3; cases h3))
            go_wp2_with fail
            go_ret3
            exact TrC.no HV.out (Fd.trans_nil hHeld)
          · rw [ha] at cc
            have HA := Lib.hid ha
            clear ha
            refine take_c 4 rfl (by kernel_rfl) (by rfl) (fun K hK => ?_)
            go_simp
            refine (cc).mono ?_
            rintro e w' ⟨rfl, rfl⟩
            refine hK.out _ _ hHeld (fun hHn => ?_)
            clear hHn
            clear hK K
            try simp only [Act.put, List.setIfInBounds_toArray, List.set_cons_zero, List.set_cons_succ]
            refine take_w 5 (some 51) (v := ?_) rfl rfl (by kernel_rfl) (by kernel_rfl) (by kernel_rfl) (fun _ _ _ h => h) (by rfl) ?_ hHeld ?_
            rotate_left
            · (intro w hSw; (try dsimp only at hSw); go_simp; try with_reducible rfl)
            simp only [Act.put, List.setIfInBounds_toArray, List.set_cons_zero, List.set_cons_succ]
            refine take_w 6 (some 52) (v := ?_) rfl rfl (by kernel_rfl) (by kernel_rfl) (by kernel_rfl) (fun _ _ _ h => h) (by rfl) ?_ hHeld ?_
            rotate_left
            · (intro w hSw; (try dsimp only at hSw); go_simp; try with_reducible rfl)
            simp only [Act.put, List.setIfInBounds_toArray, List.set_cons_zero, List.set_cons_succ]
            refine take_w 7 (some 53) (v := ?_) rfl rfl (by kernel_rfl) (by kernel_rfl) (by kernel_rfl) (fun _ _ _ h => h) (by rfl) ?_ hHeld ?_
            rotate_left
            · (intro w hSw; (try dsimp only at hSw); go_simp; try with_reducible rfl)
            simp only [Act.put, List.setIfInBounds_toArray, List.set_cons_zero, List.set_cons_succ]
            refine take_w 8 (some 54) (v := ?_) rfl rfl (by kernel_rfl) (by kernel_rfl) (by kernel_rfl) (fun _ _ _ h => h) (by rfl) ?_ hHeld ?_
            rotate_left
            · (intro w hSw; (try dsimp only at hSw); go_simp; try with_reducible rfl)
            simp only [Act.put, List.setIfInBounds_toArray, List.set_cons_zero, List.set_cons_succ]
            refine take_w 9 (some 55) (v := .slice Al nl cl) rfl rfl (by kernel_rfl) (by kernel_rfl) (by kernel_rfl) (fun _ _ _ h => h) (by rfl) (fun w' hSw => by have E := CL.out w' hSw; go_simp) hHeld ?_
            try simp only [Act.put, List.setIfInBounds_toArray, List.set_cons_zero, List.set_cons_succ]
            refine take_w 10 (some 56) (v := ?_) rfl rfl (by kernel_rfl) (by kernel_rfl) (by kernel_rfl) (fun _ _ _ h => h) (by rfl) ?_ hHeld ?_
            rotate_left
            · (intro w hSw; (try dsimp only at hSw); go_simp; try with_reducible rfl)
            simp only [Act.put, List.setIfInBounds_toArray, List.set_cons_zero, List.set_cons_succ]
            refine take_w 11 (some 57) (v := ?_) rfl rfl (by kernel_rfl) (by kernel_rfl) (by kernel_rfl) (fun _ _ _ h => h) (by rfl) ?_ hHeld ?_
            rotate_left
            · (intro w hSw; (try dsimp only at hSw); go_simp; try with_reducible rfl)
            simp only [Act.put, List.setIfInBounds_toArray, List.set_cons_zero, List.set_cons_succ]
            refine take_w 12 (some 58) (v := ?_) rfl rfl (by kernel_rfl) (by kernel_rfl) (by kernel_rfl) (fun _ _ _ h => h) (by rfl) ?_ hHeld ?_
            rotate_left
            · (intro w hSw; (try dsimp only at hSw); go_simp; try with_reducible rfl)
            simp only [Act.put, List.setIfInBounds_toArray, List.set_cons_zero, List.set_cons_succ]
            refine take_w 13 (some 59) (v := ?_) rfl rfl (by kernel_rfl) (by kernel_rfl) (by kernel_rfl) (fun _ _ _ h => h) (by rfl) ?_ hHeld ?_
            rotate_left
            · (intro w hSw; (try dsimp only at hSw); go_simp; try with_reducible rfl)
            simp only [Act.put, List.setIfInBounds_toArray, List.set_cons_zero, List.set_cons_succ]
            have hfl := flat512 ((all5_iff _).1 HA.out)
            have cs := rcSeal_any (w := w2) (n := N + 1) (c := c) (bs := bs.take (N + 1)) hm HNT.out (hrt.keep_nil Fd) (by rw [hfl, HNT.out]; omega) (by omega) (hK.keep Fd)
            obtain ⟨q, hq⟩ : ∃ q, doneB m (bs.take (N + 1)).flatten = q := ⟨_, rfl⟩
            have hql : q.length = 512 := by rw [← hq, doneB_len]
            rw [hq] at cs
            have HQ := Lib.hid (fun _ : Unit => hq)
            have HQL := Lib.hid hql
            clear hq hql hfl
            refine take_c 14 rfl (by kernel_rfl) (by rfl) (fun K hK => ?_)
            go_simp
            refine cs.mono ?_
            clear cs
            rintro e w3 ⟨r, rfl, r3, f3⟩
            obtain ⟨A3, cap3, rfl, -, -, -, -, -⟩ := r3.shape
            refine hK.out _ _ (hHeld.trans_nil f3) (fun hHx => ?_)
            clear hHeld
            have hHeld := hHx
            clear hHx
            clear hK K
            try simp only [Act.put, List.setIfInBounds_toArray, List.set_cons_zero, List.set_cons_succ]
            have F3 := Fd.trans_nil f3
            have Rd3 := Rd9.keep_nil f3
            have cc := bytesEq_any Al A3 bl q nl cl 512 cap3 w3 HNL.out (rdl.keep_nil F3) nill HQL.out r3.rd.1 r3.rd.2.2
            clear Fd f3 Rd9 r3
            cases heq : (bl == q)
            · rw [heq] at cc
              have HEQ := Lib.hid heq
              clear heq
              refine take_c 15 rfl (by kernel_rfl) (by rfl) (fun K hK => ?_)
              go_simp
              refine (cc).mono ?_
              rintro e w' ⟨rfl, rfl⟩
              refine hK.out _ _ hHeld (fun hHn => ?_)
              clear hHn
              clear hK K
              try simp only [Act.put, List.setIfInBounds_toArray, List.set_cons_zero, List.set_cons_succ]
              refine take_w 16 (some 62) (v := ?_) rfl rfl (by kernel_rfl) (by kernel_rfl) (by kernel_rfl) (fun _ _ _ h => h) (by rfl) ?_ hHeld ?_
              rotate_left
              · (intro w hSw; (try dsimp only at hSw); go_simp; try with_reducible rfl)
              simp only [Act.put, List.setIfInBounds_toArray, List.set_cons_zero, List.set_cons_succ]
              refine take_w 17 (some 63) (v := ?_) rfl rfl (by kernel_rfl) (by kernel_rfl) (by kernel_rfl) (fun _ _ _ h => h) (by rfl) ?_ hHeld ?_
              rotate_left
              · (intro w hSw; (try dsimp only at hSw); go_simp; try with_reducible rfl)
              simp only [Act.put, List.setIfInBounds_toArray, List.set_cons_zero, List.set_cons_succ]
              refine wpAnyH_done (by kernel_rfl) ?_ _
              have HV := Lib.hid (show trV m bs = none from (trV_no HP.out fun h => by have h3 := h.2.2.2.1; rw [HLN.out, HBL.out, HQ.out ()] at h3; have h4 := HEQ.out; rw [h3] at h4; simp at h4))
              go_wp2_with fail
              go_ret3
              exact TrC.no HV.out F3
            · rw [heq] at cc
              have HEQ := Lib.hid (eq_of_beq heq)
              clear heq
              refine take_c 15 rfl (by kernel_rfl) (by rfl) (fun K hK => ?_)
              go_simp
              refine (cc).mono ?_
              rintro e w' ⟨rfl, rfl⟩
              refine hK.out _ _ hHeld (fun hHn => ?_)
              clear hHn
              clear hK K
              try simp only [Act.put, List.setIfInBounds_toArray, List.set_cons_zero, List.set_cons_succ]
              refine take_w 16 (some 62) (v := ?_) rfl rfl (by kernel_rfl) (by kernel_rfl) (by kernel_rfl) (fun _ _ _ h => h) (by rfl) ?_ hHeld ?_
              rotate_left
              · (intro w hSw; (try dsimp only at hSw); go_simp; try with_reducible rfl)
              simp only [Act.put, List.setIfInBounds_toArray, List.set_cons_zero, List.set_cons_succ]
              refine take_w 17 (some 63) (v := ?_) rfl rfl (by kernel_rfl) (by kernel_rfl) (by kernel_rfl) (fun _ _ _ h => h) (by rfl) ?_ hHeld ?_
              rotate_left
              · (intro w hSw; (try dsimp only at hSw); go_simp; try with_reducible rfl)
              simp only [Act.put, List.setIfInBounds_toArray, List.set_cons_zero, List.set_cons_succ]
              refine wpAnyH_done (by kernel_rfl) ?_ _
              go_wp2_with fail
              go_loopw [13, 66] (fun v i wr => ∃ k : Nat, k ≤ N ∧ i = .int .i64 k ∧ Row wr w.heap.size 3 1 (.slice A8 N cap8) N (zvs L) ∧ (∃ ps, RRow wr w.heap.size v ps ((List.range k).map (trE t L bs))) ∧ (∀ i, i < k → trQ t bs i) ∧ Fr [] w wr) (fun _ i _ => N - (intOf i).toNat)
              case atStart => exact ⟨0, Nat.zero_le _, rfl, Rd3, ⟨[], RRow.nil _ _⟩, fun i h => absurd h (by omega), F3⟩
              case round =>
                clear F3 Rd3
                obtain ⟨k, hk, rfl, R8, ⟨ps, R13⟩, hall, F⟩ := hrel
                by_cases hlt : k < N
                · have hkb : 1 + k < bs.length := by rw [HN.out]; omega
                  have hkv : 1 + k < vs.length := by rw [hr.len]; exact hkb
                  obtain ⟨g', o', e', hc⟩ := hr.rd (by intro h; rw [h] at hkv; simp at hkv)
                  cases e'
                  obtain ⟨Ak, ck, hv, rdk, nilk, capk⟩ := hr.each (1 + k) hkv hkb
                  have cell := F.cell (by simp) (hc (1 + k) vs[1 + k] (List.getElem?_eq_getElem hkv))
                  have h5 : bs[1 + k].length = 512 := (all5_iff _).1 HA.out _ (List.mem_of_getElem? (i := 1 + k) (by rw [List.getElem?_take_of_lt (by omega)]; exact List.getElem?_eq_getElem hkb))
                  have hbg : bs.getD (1 + k) [] = bs[1 + k] := by simp [hkb]
                  rw [hv, h5] at cell
                  rw [h5] at nilk capk
                  obtain ⟨b, hb⟩ : ∃ b, bs[1 + k] = b := ⟨_, rfl⟩
                  rw [hb] at h5 hbg rdk
                  replace rdk := rdk.keep_nil F
                  have hkl : k < L.length := by rw [HLN.out]; exact hlt
                  obtain ⟨g2, o2, rfl, hc2⟩ := zint_at R8.rd.1 hkl
                  have c2 := hc2 k hkl
                  have hxd : L.getD k 0 = L[k] := by simp [hkl]
                  obtain ⟨x, hx⟩ : ∃ x, L[k] = x := ⟨_, rfl⟩
                  rw [hx] at c2 hxd
                  have H5 := Lib.hid h5
                  have HXD := Lib.hid hxd
                  have HBG := Lib.hid hbg
                  have HLK := Lib.hid (show ((List.range k).map (trE t L bs)).length = k by simp)
                  have HSUC := Lib.hid (show (List.range (k + 1)).map (trE t L bs) = (List.range k).map (trE t L bs) ++ [(x, trB t k b)] by rw [List.range_succ, List.map_append, List.map_singleton, trE, hxd, hbg])
                  have HQK := Lib.hid (show trQ t bs k ↔ decide (t / 2 ^ k % 2 = 1) = likeB (trB t k b) by unfold trQ; rw [hbg])
                  have HALL := Lib.hid (fun h : trQ t bs k => (fun i hi => if e : i = k then by subst e; exact h else hall i (by omega) : ∀ i, i < k + 1 → trQ t bs i))
                  have AND := and_one t k ht
                  clear hv h5 hbg hb hc hc2 hx hxd hall hkb hkv hkl
                  by_cases hbit : t / 2 ^ k % 2 = 1
                  · have d1 : (bits .and .u64 ((t : Int) / 2 ^ k) 1 == 1) = true := by rw [AND, hbit]; rfl
                    have HTR := Lib.hid (show trB t k b = turnB b by rw [trB, if_pos hbit])
                    have HBIT := Lib.hid (show decide (t / 2 ^ k % 2 = 1) = true by rw [hbit]; rfl)
                    clear AND hbit
                    go_wp2_with fail
                    refine (clone_any Ak b 512 ck wr H5.out rdk nilk (by omega)).mono ?_
                    rintro e w4 ⟨v4, rfl, r4, f4⟩
                    obtain ⟨A4, c4, rfl, hc4, -, -, -, -⟩ := r4.shape
                    go_wp2_with fail
                    have F4 := F.trans_nil f4
                    refine (rcTurn_any A4 b 512 c4 w4 H5.out r4.rd.1 r4.rd.2.2 (by omega) (by omega)).mono ?_
                    rintro e w5 ⟨v5, rfl, r5, f5⟩
                    obtain ⟨A5, c5, rfl, hc5, -, -, -, -⟩ := r5.shape
                    have F5 := F4.trans_nil f5
                    replace r5 := r5.mono F4.size
                    rw [← HTR.out] at r5
                    have HB5 := Lib.hid (show (trB t k b).length = 512 by rw [trB_len, H5.out])
                    replace R8 := (R8.keep_nil f4).keep_nil f5
                    replace R13 := (R13.keep_nil f4).keep_nil f5
                    clear f4 f5 r4 F4 F
                    go_wp2_with fail
                    have cc := rcLike_any A5 (trB t k b) 512 c5 w5 HB5.out r5.rd.1 r5.rd.2.2 (by omega) hc5
                    cases hlk : likeB (trB t k b)
                    · rw [hlk] at cc
                      have HQN := Lib.hid (show ¬ trQ t bs k by rw [HQK.out, hlk, HBIT.out]; decide)
                      refine cc.mono ?_
                      clear cc hlk
                      rintro e w6 ⟨rfl, rfl⟩
                      have HV := Lib.hid (show trV m bs = none from (trV_no HP.out fun h => HQN.out (h.2.2.2.2 k (by rw [HLN.out]; exact hlt))))
                      go_wp2_with fail
                      go_ret3
                      exact TrC.no HV.out F5
                    · rw [hlk] at cc
                      have HQY := Lib.hid (HALL.out (by rw [HQK.out, hlk, HBIT.out]))
                      refine cc.mono ?_
                      clear cc hlk HALL
                      rintro e w6 ⟨rfl, rfl⟩
                      have r13 := R13.row
                      rw [HLK.out] at r13
                      obtain ⟨A13, c13, rfl, -, -, -, -, -⟩ := r13.shape
                      go_wp2_with (at_builtin; refine wpList_app rfl rfl slR w.heap.size _ k (rcells ps) rfl (r13.alloc _) _ 1 1 [.int .i64 x, .slice A5 512 c5] rfl rfl (Rd.of_blk (Blk.new w5 85 #[.int .i64 x, .slice A5 512 c5]) 0 _ (fun j u hu => by rw [Nat.zero_add]; simpa using hu)) (by intro u hu; simp at hu; rcases hu with rfl | rfl <;> rfl) (fun h => by cases h) (by omega) (by have := F5.size; simp; omega) ?_; intro v7 w7 q1 q2 q3 q4)
                      have fa : Fr [] w5 (w5.alloc (.cells #[.int .i64 x, .slice A5 512 c5] 85)) := (Fr.refl [] w5).alloc _
                      have R14 := (R13.keep_nil fa).snoc (x := x) (r5.keep_nil fa |> fun h => (by rw [HB5.out]; exact h : Row _ w.heap.size 5 1 (.slice A5 512 c5) (trB t k b).length (bvs (trB t k b)))) q2 (by rw [HLK.out]; exact q1)
                      rw [← HSUC.out] at R14
                      exact ⟨⟨k + 1, by omega, by go_num, (R8.keep_nil fa).keep q2 (fun g hg hm => (R8.keep_nil fa).ne_rowR (r13.keep_nil fa) (by decide) g hg (mem_own.1 hm)), ⟨_, R14⟩, HQY.out, (F5.alloc _).trans q2 (fun i hi => .inr (r13.lt i (mem_own.1 hi)).1)⟩, by simp [intOf]; omega⟩
                  · have d1 : (bits .and .u64 ((t : Int) / 2 ^ k) 1 == 1) = false := by rw [AND, beq_eq_false_iff_ne]; omega
                    have HTR := Lib.hid (show trB t k b = b by rw [trB, if_neg hbit])
                    have HBIT := Lib.hid (show decide (t / 2 ^ k % 2 = 1) = false by rw [decide_eq_false hbit])
                    clear AND hbit
                    go_wp2_with fail
                    refine (clone_any Ak b 512 ck wr H5.out rdk nilk (by omega)).mono ?_
                    rintro e w5 ⟨v4, rfl, r4, f4⟩
                    obtain ⟨A5, c5, rfl, hc5, -, -, -, -⟩ := r4.shape
                    go_wp2_with fail
                    have F5 := F.trans_nil f4
                    have r5 := r4.mono F.size
                    rw [← HTR.out] at r5
                    have HB5 := Lib.hid (show (trB t k b).length = 512 by rw [trB_len, H5.out])
                    replace R8 := R8.keep_nil f4
                    replace R13 := R13.keep_nil f4
                    clear f4 r4 F
                    have cc := rcLike_any A5 (trB t k b) 512 c5 w5 HB5.out r5.rd.1 r5.rd.2.2 (by omega) hc5
                    cases hlk : likeB (trB t k b)
                    · rw [hlk] at cc
                      have HQY := Lib.hid (HALL.out (by rw [HQK.out, hlk, HBIT.out]))
                      refine cc.mono ?_
                      clear cc hlk HALL
                      rintro e w6 ⟨rfl, rfl⟩
                      have r13 := R13.row
                      rw [HLK.out] at r13
                      obtain ⟨A13, c13, rfl, -, -, -, -, -⟩ := r13.shape
                      go_wp2_with (at_builtin; refine wpList_app rfl rfl slR w.heap.size _ k (rcells ps) rfl (r13.alloc _) _ 1 1 [.int .i64 x, .slice A5 512 c5] rfl rfl (Rd.of_blk (Blk.new w5 85 #[.int .i64 x, .slice A5 512 c5]) 0 _ (fun j u hu => by rw [Nat.zero_add]; simpa using hu)) (by intro u hu; simp at hu; rcases hu with rfl | rfl <;> rfl) (fun h => by cases h) (by omega) (by have := F5.size; simp; omega) ?_; intro v7 w7 q1 q2 q3 q4)
                      have fa : Fr [] w5 (w5.alloc (.cells #[.int .i64 x, .slice A5 512 c5] 85)) := (Fr.refl [] w5).alloc _
                      have R14 := (R13.keep_nil fa).snoc (x := x) (r5.keep_nil fa |> fun h => (by rw [HB5.out]; exact h : Row _ w.heap.size 5 1 (.slice A5 512 c5) (trB t k b).length (bvs (trB t k b)))) q2 (by rw [HLK.out]; exact q1)
                      rw [← HSUC.out] at R14
                      exact ⟨⟨k + 1, by omega, by go_num, (R8.keep_nil fa).keep q2 (fun g hg hm => (R8.keep_nil fa).ne_rowR (r13.keep_nil fa) (by decide) g hg (mem_own.1 hm)), ⟨_, R14⟩, HQY.out, (F5.alloc _).trans q2 (fun i hi => .inr (r13.lt i (mem_own.1 hi)).1)⟩, by simp [intOf]; omega⟩
                    · rw [hlk] at cc
                      have HQN := Lib.hid (show ¬ trQ t bs k by rw [HQK.out, hlk, HBIT.out]; decide)
                      refine cc.mono ?_
                      clear cc hlk
                      rintro e w6 ⟨rfl, rfl⟩
                      have HV := Lib.hid (show trV m bs = none from (trV_no HP.out fun h => HQN.out (h.2.2.2.2 k (by rw [HLN.out]; exact hlt))))
                      go_wp2_with fail
                      go_ret3
                      exact TrC.no HV.out F5
                · obtain rfl : k = N := by omega
                  have HV := Lib.hid (show trV m bs = some ((List.range k).map (trE t L bs)) by
                    rw [trV_some HP.out, HLN.out]
                    unfold trOk
                    rw [HLN.out, HBL.out, HQ.out (), HEQ.out]
                    exact ⟨rfl, by rw [HN.out]; omega, (all5_iff _).1 HA.out, rfl, hall⟩)
                  have HLK := Lib.hid (show ((List.range k).map (trE t L bs)).length = k by simp)
                  clear hall
                  go_wp2_with fail
                  go_ret3
                  exact TrC.yes (k := 0) HV.out (by rw [HLK.out]; omega) R13 F
      · have K1 : ((m' : Int) != m) = true := by simp only [bne_iff_ne]; omega
        have HMM := Lib.hid hmm
        clear hmm
        have HV := Lib.hid (show trV m bs = none from (trV_no HP.out fun h => HMM.out h.1))
        go_wp2_with fail
        go_ret3
        exact TrC.no HV.out f
end Go.Proofs.YtlelgeigighecaaDoor
/-
  Layer 13 (record): plain laws: what was written is parsed, whatever stands behind; fewer blocks are none; another number's are none; another last block is none.
-/
set_option linter.unusedSimpArgs false
set_option linter.unusedVariables false
set_option linter.unnecessarySimpa false
namespace Go.Proofs.YtlelgeigighecaaDoor
open Go.RowKit

theorem cut_at {a b c : List UInt8} {i n : Nat} (h : a.length = i) (h2 : b.length = n) : ((a ++ (b ++ c)).drop i).take n = b := by
  rw [List.drop_left' h, List.take_left' h2]
theorem getD_app (a b : List (List UInt8)) (i : Nat) (h : i < a.length) : (a ++ b).getD i [] = a.getD i [] := by
  rw [List.getD_eq_getElem?_getD, List.getElem?_append_left h, ← List.getD_eq_getElem?_getD]
theorem getD_mid (a b : List (List UInt8)) (d : List UInt8) (i : Nat) (h : a.length = i) : (a ++ d :: b).getD i [] = d := by
  rw [List.getD_eq_getElem?_getD, List.getElem?_append_right (by omega), h, Nat.sub_self]; rfl
theorem intsN_cons (l : List UInt8) (n : Nat) : intsN l (n + 1) = ((leN (l.take 4) : Nat) : Int) :: intsN (l.drop 4) n := by
  rw [intsN, List.range_succ_eq_map, List.map_cons, List.map_map, intsN]
  congr 1
  apply List.map_congr_left
  intro i _
  simp only [Function.comp, List.drop_drop]
  rw [show 4 * i.succ = 4 + 4 * i by omega]
theorem intsN_enc : ∀ (L : List Int) (r : List UInt8), (∀ x ∈ L, 0 ≤ x ∧ x < 4096) → intsN (encI L ++ r) L.length = L
  | [], r, _ => rfl
  | x :: L, r, h => by
    have hx := h x (by simp)
    rw [List.length_cons, intsN_cons, show encI (x :: L) ++ r = leB 4 x.toNat ++ (encI L ++ r) by rw [encI, List.flatMap_cons, List.append_assoc]; rfl]
    rw [List.take_left' (leB_length _ _), List.drop_left' (leB_length _ _), intsN_enc L r (fun y hy => h y (by simp [hy])), leN_leB13 4 _ (by omega)]
    congr 1
    omega
theorem planB_eq (n : Nat) (L : List Int) (t : Nat) : planB n L t = planM ++ (leB 8 n ++ (leB 2 L.length ++ (leB 8 t ++ (encI L ++ List.replicate (512 - (planR n L t).length) 0)))) := by
  rw [planB, pad512]
  conv => lhs; lhs; rw [planR]
  simp only [List.append_assoc]
theorem plV_planB {n t : Nat} {L : List Int} (h0 : n ≠ 0) (hn : n < 18446744073709551616) (hr : rightF L = true) (h64 : L.length ≤ 64) (ht : t < 2 ^ L.length) : plV (planB n L t) = some (n, L, t) := by
  have hl := planB_len n L t h64
  have hL := right_in hr
  have htt : t < 18446744073709551616 := Nat.lt_of_lt_of_le ht (Nat.le_trans (Nat.pow_le_pow_right (by omega) h64) (by decide : 2 ^ 64 ≤ 18446744073709551616))
  have eN : plN (planB n L t) = n := by
    rw [plN, planB_eq, cut_at (i := 4) (a := planM) rfl (leB_length _ _), leN_leB13 8 n (by omega)]
  have eC : plC (planB n L t) = L.length := by
    rw [plC, planB_eq, ← List.append_assoc, cut_at (by rw [List.length_append, leB_length]; rfl) (leB_length _ _), leN_leB13 2 _ (by omega)]
  have eT : plT (planB n L t) = t := by
    rw [plT, planB_eq, ← List.append_assoc, ← List.append_assoc, cut_at (by simp only [List.length_append, leB_length]; rfl) (leB_length _ _), leN_leB13 8 _ (by omega)]
  have d22 : (planB n L t).drop 22 = encI L ++ List.replicate (512 - (planR n L t).length) 0 := by
    rw [planB_eq, ← List.append_assoc, ← List.append_assoc, ← List.append_assoc, List.drop_left' (by simp only [List.length_append, leB_length]; rfl)]
  have eL : plL (planB n L t) = L := by rw [plL, eC, d22, intsN_enc L _ hL]
  rw [plV_some hl, eN, eL, eT]
  unfold plOk
  rw [eC, eT, eN, eL]
  refine ⟨h64, .inr (Nat.div_eq_of_lt ht), ?_, ?_, h0, hr⟩
  · rw [← List.drop_drop, d22, List.drop_left' (encI_len L), allZ_iff13, List.length_replicate]
  · rw [planB_eq, List.take_left' (show planM.length = 4 from rfl)]

theorem tnT_bit (bs : List (List UInt8)) : ∀ k i, i < k → decide (tnT bs k / 2 ^ i % 2 = 1) = likeB (bs.getD i [])
  | 0, i, h => absurd h (by omega)
  | k + 1, i, h => by
    have hlt := tnT_lt bs k
    have ih := tnT_bit bs k i
    simp only [← Nat.testBit_eq_decide_div_mod_eq] at ih ⊢
    rw [tnT]
    by_cases e : i = k
    · subst e
      cases hl : likeB (bs.getD i [])
      · rw [if_neg (by decide)]; exact Nat.testBit_lt_two_pow hlt
      · rw [if_pos rfl, Nat.add_comm, Nat.testBit_two_pow_add_eq, Nat.testBit_lt_two_pow hlt]; rfl
    · have hik : i < k := by omega
      split
      · rw [Nat.add_comm, Nat.testBit_two_pow_add_gt hik]; exact ih hik
      · exact ih hik
theorem turn_turn (b : List UInt8) : turnB (turnB b) = b := by
  cases b with
  | nil => rfl
  | cons x r => simp only [turnB, UInt8.xor_assoc, UInt8.xor_self, UInt8.xor_zero]
theorem trB_tnB {t i : Nat} {b : List UInt8} (h : decide (t / 2 ^ i % 2 = 1) = likeB b) : trB t i (tnB b) = b := by
  unfold trB tnB
  cases hl : likeB b
  · rw [hl] at h
    rw [if_neg (by simpa using h), if_neg (by decide)]
  · rw [hl] at h
    rw [if_pos (by simpa using h), if_pos rfl, turn_turn]

theorem blk_at {n : Nat} {rs : List (Int × List UInt8)} (x : List (List UInt8)) (i : Nat) (h : i < rs.length) : (blkL n rs ++ x).getD (1 + i) [] = tnB (rs.getD i (0, [])).2 := by
  have h1 : i < (rcD rs).length := by rw [rcD_len]; exact h
  rw [blkL, List.cons_append, Nat.add_comm, List.getD_cons_succ, getD_app _ _ _ h1]
  simp [rcD, h]
theorem blk_head {n : Nat} {rs : List (Int × List UInt8)} (h : rcOk n rs) (hn : n < 18446744073709551616) (x : List (List UInt8)) : plV ((blkL n rs ++ x).headD []) = some (n, rcP rs, rcT rs rs.length) := by
  rw [blkL, List.cons_append, List.headD_cons]
  exact plV_planB h.1 hn h.2.2.2 (by rw [rcP_len]; exact h.2.1) (by rw [rcP_len]; exact tnT_lt _ _)
theorem blk_512 {n : Nat} {rs : List (Int × List UInt8)} (h : rcOk n rs) : ∀ b ∈ blkL n rs, b.length = 512 := by
  intro b hb
  rw [blkL] at hb
  rcases List.mem_cons.1 hb with rfl | hb
  · exact planB_len _ _ _ (by rw [rcP_len]; exact h.2.1)
  · simp only [rcD, List.mem_map] at hb
    obtain ⟨r, hr, rfl⟩ := hb
    rw [tnB_len]
    exact h.2.2.1 r hr
/-- What was written is parsed, whatever stands behind. -/
theorem trV_blk {n : Nat} {rs : List (Int × List UInt8)} (h : rcOk n rs) (hn : n < 18446744073709551616) (x : List (List UInt8)) : trV n (blkL n rs ++ [doneB n (blkL n rs).flatten] ++ x) = some rs := by
  have hh : plV ((blkL n rs ++ [doneB n (blkL n rs).flatten] ++ x).headD []) = some (n, rcP rs, rcT rs rs.length) := by
    rw [List.append_assoc]; exact blk_head h hn _
  have htk : (blkL n rs ++ [doneB n (blkL n rs).flatten] ++ x).take ((rcP rs).length + 1) = blkL n rs := by
    rw [List.append_assoc, List.take_left' (by rw [blkL_len, rcP_len])]
  have hbit : ∀ i (hi : i < rs.length), decide (rcT rs rs.length / 2 ^ i % 2 = 1) = likeB (rs.getD i (0, [])).2 := fun i hi => by
    rw [rcT, tnT_bit _ _ _ hi]
    simp [hi]
  rw [trV_some hh]
  · congr 1
    rw [rcP_len]
    apply List.ext_getElem
    · simp
    · intro i h1 h2
      have e : rs.getD i (0, []) = rs[i] := by simp [h2]
      rw [List.getElem_map, List.getElem_range, trE, List.append_assoc, blk_at _ i h2, trB_tnB (hbit i h2), e]
      have : (rcP rs).getD i 0 = rs[i].1 := by simp [rcP, h2]
      rw [this]
  · refine ⟨rfl, by rw [rcP_len]; simp [blkL_len], ?_, ?_, fun i hi => ?_⟩
    · rw [htk]; exact blk_512 h
    · rw [htk, List.append_assoc, List.singleton_append, getD_mid _ _ _ _ (by rw [blkL_len, rcP_len])]
    · rw [rcP_len] at hi
      unfold trQ
      rw [List.append_assoc, blk_at _ i hi, trB_tnB (hbit i hi), hbit i hi]
/-- Another number's are none. -/
theorem trV_other {n m : Nat} {rs : List (Int × List UInt8)} (h : rcOk n rs) (hn : n < 18446744073709551616) (hm : n ≠ m) (x : List (List UInt8)) : trV m (blkL n rs ++ x) = none :=
  trV_no (blk_head h hn x) fun k => hm k.1
/-- Fewer are none. -/
theorem trV_cut {n k : Nat} {rs : List (Int × List UInt8)} (h : rcOk n rs) (hn : n < 18446744073709551616) (hk : k < rs.length + 2) (x : List (List UInt8)) : trV n ((blkL n rs ++ x).take k) = none := by
  cases k with
  | zero => rw [List.take_zero]; exact trV_none (plV_none fun h => by have := h.1; cases this)
  | succ k =>
    have hh : plV (((blkL n rs ++ x).take (k + 1)).headD []) = some (n, rcP rs, rcT rs rs.length) := by
      have := blk_head h hn x
      rw [blkL, List.cons_append] at this ⊢
      exact this
    exact trV_no hh fun j => by
      have := j.2.1
      rw [rcP_len, List.length_take] at this
      omega
/-- Another last block is none. -/
theorem trV_last {n : Nat} {rs : List (Int × List UInt8)} (h : rcOk n rs) (hn : n < 18446744073709551616) {d : List UInt8} (hd : d ≠ doneB n (blkL n rs).flatten) : trV n (blkL n rs ++ [d]) = none :=
  trV_no (blk_head h hn _) fun j => by
    have := j.2.2.2.1
    rw [rcP_len, getD_mid _ _ _ _ (blkL_len _ _), List.take_left' (blkL_len _ _)] at this
    exact hd this

theorem mark_num (n : Nat) (h : n < 18446744073709551616) : numR (markB n) = n := by
  rw [numR_512 (markB_len n), markB, pad512, markR, List.append_assoc, List.append_assoc, cut_at (i := 4) (a := markM) rfl (leB_length _ _), leN_leB13 8 n (by omega)]
theorem rmV_mark {n : Nat} (h0 : n ≠ 0) (h : n < 18446744073709551616) : rmV (markB n) = some n := by
  rw [rmV, mark_num n h, if_pos ⟨h0, rfl⟩]
end Go.Proofs.YtlelgeigighecaaDoor
