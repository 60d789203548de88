/-
  Layer 13 (record): Plan and its reference; redos and blocks of bytes as they lie in memory.
-/
import Derived.Test.YtlelgeigighecaaDoorRecL
set_option linter.unusedSimpArgs false
set_option linter.unusedVariables false
set_option linter.unnecessarySimpa false
namespace Go.Proofs.YtlelgeigighecaaDoor
open Go.RowKit

/-- What Plan says. -/
def PlanC (w : World) (l : List UInt8) (e : Ending) (w' : World) : Prop :=
  ∃ v, e = .returned (.tuple #[.int .u64 ((((plV l).getD (0, [], 0)).1 : Nat) : Int), v, .int .i64 (errG (plV l).isSome 110)]) ∧
    Row w' w.heap.size 3 1 v ((plV l).getD (0, [], 0)).2.1.length (zvs ((plV l).getD (0, [], 0)).2.1) ∧ Fr [] w w'
set_option maxHeartbeats 1000000 in
theorem rcPlan_any (w : World) (A : Option Addr) (l : List UInt8) (n c : Nat) (hn : l.length = n) (hr : Rd w A (bvs l)) (hA : A = none → n = 0) :
    Calls Tryd.prog 35 #[.slice A n c] w (PlanC w l) := by
  have cc := rcRead_any w A l n c hn hr hA
  go_enter Tryd.func35, Tryd.ntmps35
  go_wp2_with fail
  refine (cc).mono ?_
  rintro e w1 ⟨v, rfl, r, f⟩
  go_wp2_with fail
  go_ret3
  exact ⟨_, rfl, r, f⟩
set_option maxHeartbeats 1000000 in
theorem xrcPlan_any (w : World) (A : Option Addr) (l : List UInt8) (n c : Nat) (hn : l.length = n) (hr : Rd w A (bvs l)) (hA : A = none → n = 0) (hc : n ≤ c) :
    Calls Tryd.prog 36 #[.slice A n c] w (PlanC w l) := by
  have cc := xrcParts_any w A l n c hn hr hA hc
  go_enter Tryd.func36, Tryd.ntmps36
  go_wp2_with fail
  refine (cc).mono ?_
  rintro e w1 ⟨v, rfl, r, f⟩
  go_wp2_with fail
  go_ret3
  exact ⟨_, rfl, r, f⟩

/-- Redos that came in. -/
structure RdR (w : World) (A : Option Addr) (n c : Nat) (rs : List (Int × List UInt8)) : Prop where
  len : rs.length = n
  cell : 0 < n → ∃ g o, A = some ⟨g, o, none⟩ ∧ g < w.heap.size ∧ ∀ i (h : i < rs.length), in64 rs[i].1 ∧ w.cell? ⟨g, o + i * 2, none⟩ = some (.int .i64 rs[i].1) ∧ ∃ v, w.cell? ⟨g, o + i * 2 + 1, none⟩ = some v ∧ SlB w v rs[i].2 ∧ rs[i].2.length ≤ 140737488355328
  nil : A = none → n = 0
  le : n ≤ c
  reach : n * 32 ≤ 140737488351232
theorem RdR.keep_nil {w w' : World} {A : Option Addr} {n c : Nat} {rs : List (Int × List UInt8)} (h : RdR w A n c rs) (f : Fr [] w w') : RdR w' A n c rs := by
  refine ⟨h.len, fun hn => ?_, h.nil, h.le, h.reach⟩
  obtain ⟨g, o, e, hg, hc⟩ := h.cell hn
  refine ⟨g, o, e, Nat.lt_of_lt_of_le hg f.size, fun i hi => ?_⟩
  obtain ⟨h1, h2, v, h3, h4, h5⟩ := hc i hi
  exact ⟨h1, f.cell (by simp) h2, v, f.cell (by simp) h3, h4.keep_nil f, h5⟩

theorem slBB : SlT Tryd.prog 49 28 1 24 (.slice none 0 0) := ⟨Tryd.underlying49, by kernel_rfl, rfl, by decide, by decide⟩
/-- Slices of bytes of the call's own. -/
structure BRow (w : World) (B : Nat) (v : Value) (vs : List Value) (bs : List (List UInt8)) : Prop where
  row : Row w B 28 1 v bs.length vs
  each : ∀ i (h : i < vs.length) (h' : i < bs.length), Row w B 5 1 vs[i] bs[i].length (bvs bs[i])
theorem BRow.vlen {w : World} {B : Nat} {v : Value} {vs : List Value} {bs : List (List UInt8)} (h : BRow w B v vs bs) : vs.length = bs.length := by have := h.row.1; omega
theorem BRow.nil (w : World) (B : Nat) : BRow w B (.slice none 0 0) [] [] := ⟨Row.nil _ _ _ _, fun i h => by simp at h⟩
theorem BRow.keep_nil {w w' : World} {B : Nat} {v : Value} {vs : List Value} {bs : List (List UInt8)} (h : BRow w B v vs bs) (f : Fr [] w w') : BRow w' B v vs bs :=
  ⟨h.row.keep_nil f, fun i h1 h2 => (h.each i h1 h2).keep_nil f⟩
/-- The frame is a row's of another type. -/
theorem BRow.keep_row {w w' : World} {B B' : Nat} {v v' : Value} {vs xs : List Value} {bs : List (List UInt8)} {e : TypeId} {s n : Nat} (h : BRow w B v vs bs) (hr : Row w B' e s v' n xs) (f : Fr v'.ownBlock.toList w w') (h1 : 28 ≠ e) (h2 : 5 ≠ e) : BRow w' B v vs bs :=
  ⟨h.row.keep f (fun g hg hm => h.row.ne_rowR hr h1 g hg (mem_own.1 hm)), fun i h1 h3 => (h.each i h1 h3).keep f (fun g hg hm => (h.each i h1 h3).ne_rowR hr h2 g hg (mem_own.1 hm))⟩
theorem Row.slb {w : World} {B : Nat} {v : Value} {l : List UInt8} (h : Row w B 5 1 v l.length (bvs l)) : SlB w v l := by
  obtain ⟨A, c, rfl, hc, -, -, -, -⟩ := h.shape
  exact ⟨A, c, rfl, h.rd.1, h.rd.2.2, hc⟩
theorem BRow.brd {w : World} {B : Nat} {A : Option Addr} {n c : Nat} {vs : List Value} {bs : List (List UInt8)} (h : BRow w B (.slice A n c) vs bs) : BRd w A vs bs :=
  ⟨h.row.rd.1, h.vlen, fun i h1 h2 => (h.each i h1 h2).slb⟩
/-- One more. -/
theorem BRow.snoc {w w' : World} {B : Nat} {v v' u : Value} {vs : List Value} {bs : List (List UInt8)} {b : List UInt8} (h : BRow w B v vs bs) (hu : Row w B 5 1 u b.length (bvs b)) (f : Fr v.ownBlock.toList w w') (hr : Row w' B 28 1 v' (bs.length + 1) (vs ++ [u])) : BRow w' B v' (vs ++ [u]) (bs ++ [b]) := by
  have kp : ∀ {x : Value} {l : List UInt8}, Row w B 5 1 x l.length (bvs l) → Row w' B 5 1 x l.length (bvs l) := fun hx =>
    hx.keep f (fun g hg hm => hx.ne_rowR h.row (by decide) g hg (mem_own.1 hm))
  refine ⟨by rw [List.length_append]; exact hr, fun i h1 h2 => ?_⟩
  have hv := h.vlen
  by_cases hi : i < vs.length
  · rw [List.getElem_append_left hi]
    have hb : (bs ++ [b])[i] = bs[i] := List.getElem_append_left (by omega)
    rw [hb]
    exact kp (h.each i hi (by omega))
  · have hiv : i = vs.length := by rw [List.length_append, List.length_singleton] at h1; omega
    subst hiv
    rw [List.getElem_append_right (Nat.le_refl _)]
    have hb : (bs ++ [b])[vs.length] = b := by rw [List.getElem_append_right (by omega)]; simp
    rw [hb]
    simpa using kp hu
theorem rowset {w : World} {B g n c : Nat} {e : TypeId} {x : Value} {r : List Value} (h : Row w B e 1 (.slice (some ⟨g, 0, none⟩) n c) n (x :: r)) (y : Value) :
    w.cell? ⟨g, 0, none⟩ = some x ∧ w.frozen? ⟨g, 0, none⟩ = false ∧ Row (w.setCell ⟨g, 0, none⟩ y) B e 1 (.slice (some ⟨g, 0, none⟩) n c) n (y :: r) := by
  rcases h.2 with ⟨e, _⟩ | ⟨g', cap, cur, fz, e, hb, hg, hf, hnc, hcm, hcs, ht⟩
  · cases e
  · cases e
    have hn : r.length + 1 = n := by have := h.1; rw [List.length_cons, Nat.mul_one] at this; exact this
    have hpos : 0 < cur.size := by omega
    obtain ⟨lc⟩ := cur
    match lc, hpos with
    | z :: rest, _ =>
      have e1 : z = x ∧ rest.take r.length = r := by
        rw [Nat.mul_one, ← hn] at ht
        simp only [List.take_succ_cons, List.cons.injEq] at ht
        exact ht
      refine ⟨?_, ?_, ?_⟩
      · rw [cell_of_row w g 0 _ _ _ hg, e1.1]; rfl
      · have := hf 0 (by simp)
        simp only [World.frozen?, hg]
        simpa using this
      · refine ⟨by simp; omega, .inr ⟨g, c, (y :: rest).toArray, fz, rfl, hb, ?_, by simpa using hf, hnc, hcm, by simpa using hcs, ?_⟩⟩
        · simp [World.setCell, Array.getElem?_modify, hg]
        · rw [Nat.mul_one, ← hn]
          simp only [List.take_succ_cons]
          rw [e1.2]
/-- The first one is another. -/
theorem BRow.set0 {w : World} {B g n c : Nat} {x y : Value} {vs : List Value} {b d : List UInt8} {bs : List (List UInt8)} (h : BRow w B (.slice (some ⟨g, 0, none⟩) n c) (x :: vs) (b :: bs)) (hy : Row w B 5 1 y d.length (bvs d)) :
    BRow (w.setCell ⟨g, 0, none⟩ y) B (.slice (some ⟨g, 0, none⟩) n c) (y :: vs) (d :: bs) := by
  have hn : n = bs.length + 1 := by have := h.row.rd.2.1; simpa using this
  have hrow := h.row
  have kp : ∀ {z : Value} {l : List UInt8}, Row w B 5 1 z l.length (bvs l) → Row (w.setCell ⟨g, 0, none⟩ y) B 5 1 z l.length (bvs l) := fun hx =>
    hx.keep ((Fr.refl [g] w).setCell (.inl (by simp)) y) (fun g' hg hm => hx.ne_rowR hrow (by decide) g' hg (by rw [List.mem_singleton.1 hm]; rfl))
  subst hn
  refine ⟨(rowset hrow y).2.2, fun i h1 h2 => ?_⟩
  cases i with
  | zero => exact kp hy
  | succ i =>
    have := h.each (i + 1) (by simpa using h1) (by simpa using h2)
    simp only [List.getElem_cons_succ] at this ⊢
    exact kp this
end Go.Proofs.YtlelgeigighecaaDoor
