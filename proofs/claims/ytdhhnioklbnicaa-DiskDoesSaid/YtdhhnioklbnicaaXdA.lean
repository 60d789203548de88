/-
  Layer 10, the reference's disk: what it is in memory; its small functions.
-/
import Derived.Test.YtdhhnioklbnicaaDkN
set_option linter.unusedSimpArgs false
set_option linter.unusedVariables false
set_option linter.unnecessarySimpa false
namespace Go.Proofs.Ytdhhnioklbnicaa
open Go.RowKit
set_option maxRecDepth 100000

/-- A string as a value. -/
def strV (b : List UInt8) : Value := .string ⟨b.toArray⟩
theorem slStrX : SlT Try.prog 29 9 1 16 (.string ByteArray.empty) := ⟨Try.underlying29, by kernel_rfl, rfl, by decide, by decide⟩
theorem slXB : SlT Try.prog 87 91 2 40 (.agg #[.string ByteArray.empty, .slice none 0 0]) := ⟨Try.underlying87, by kernel_rfl, rfl, by decide, by decide⟩
/-- One cell of a row of structs. -/
theorem Row.setE {w : World} {B g n c s : Nat} {e : TypeId} {xs : List Value} (h : Row w B e s (.slice (some ⟨g, 0, none⟩) n c) n xs) (k : Nat) (hk : k < n * s) (y : Value) :
    w.cell? ⟨g, k, none⟩ = xs[k]? ∧ w.frozen? ⟨g, k, none⟩ = false ∧ Row (w.setCell ⟨g, k, none⟩ y) B e s (.slice (some ⟨g, 0, none⟩) n c) n (xs.set k y) := by
  rcases h.2 with ⟨e, _⟩ | ⟨g', cap, cur, fz, e, hb, hg, hf, hnc, hcm, hcs, ht⟩
  · cases e
  · cases e
    have hkc : k < cur.size := by rw [hcs]; exact Nat.lt_of_lt_of_le hk (Nat.mul_le_mul_right s hnc)
    refine ⟨?_, ?_, ?_⟩
    · rw [cell_of_row w g k _ _ _ hg, ← ht, List.getElem?_take_of_lt hk, Array.getElem?_toList]
    · have := hf k hkc
      simp only [World.frozen?, hg]
      simpa using this
    · refine ⟨by rw [List.length_set]; exact h.1, .inr ⟨g, c, cur.setIfInBounds k y, fz, rfl, hb, ?_, by simpa using hf, hnc, hcm, by simpa using hcs, ?_⟩⟩
      · simp [World.setCell, Array.getElem?_modify, hg]
      · rw [Array.toList_setIfInBounds, List.take_set, ht]
/-- The cells of blocks. -/
def pcells (ps : List (List UInt8 × Value)) : List Value := ps.flatMap fun p => [strV p.1, p.2]
theorem pcells_len (ps : List (List UInt8 × Value)) : (pcells ps).length = ps.length * 2 := by
  induction ps with
  | nil => rfl
  | cons p r ih =>
    have : pcells (p :: r) = [strV p.1, p.2] ++ pcells r := rfl
    rw [this, List.length_append, ih, List.length_cons]
    simp only [List.length_cons, List.length_nil]
    omega
theorem pcells_app (a b : List (List UInt8 × Value)) : pcells (a ++ b) = pcells a ++ pcells b := List.flatMap_append
theorem pcells_0 (ps : List (List UInt8 × Value)) (i : Nat) (h : i < ps.length) : (pcells ps)[i * 2]? = some (strV ps[i].1) ∧ (pcells ps)[i * 2 + 1]? = some ps[i].2 := by
  induction ps generalizing i with
  | nil => cases h
  | cons p r ih =>
    cases i with
    | zero => exact ⟨rfl, rfl⟩
    | succ i =>
      have e : pcells (p :: r) = strV p.1 :: p.2 :: pcells r := rfl
      obtain ⟨h1, h2⟩ := ih i (by simpa using h)
      rw [e]
      refine ⟨?_, ?_⟩
      · rw [show (i + 1) * 2 = i * 2 + 1 + 1 by omega, List.getElem?_cons_succ, List.getElem?_cons_succ, h1]; rfl
      · rw [show (i + 1) * 2 + 1 = i * 2 + 1 + 1 + 1 by omega, List.getElem?_cons_succ, List.getElem?_cons_succ, h2]; rfl
theorem pcells_set0 (ps : List (List UInt8 × Value)) (i : Nat) (h : i < ps.length) (s : List UInt8) : (pcells ps).set (i * 2) (strV s) = pcells (ps.set i (s, ps[i].2)) := by
  induction ps generalizing i with
  | nil => cases h
  | cons p r ih =>
    cases i with
    | zero => rfl
    | succ i =>
      have e : pcells (p :: r) = strV p.1 :: p.2 :: pcells r := rfl
      rw [e, show (i + 1) * 2 = i * 2 + 1 + 1 by omega, List.set_cons_succ, List.set_cons_succ, ih i (by simpa using h)]
      rfl
theorem pcells_set1 (ps : List (List UInt8 × Value)) (i : Nat) (h : i < ps.length) (v : Value) : (pcells ps).set (i * 2 + 1) v = pcells (ps.set i (ps[i].1, v)) := by
  induction ps generalizing i with
  | nil => cases h
  | cons p r ih =>
    cases i with
    | zero => rfl
    | succ i =>
      have e : pcells (p :: r) = strV p.1 :: p.2 :: pcells r := rfl
      rw [e, show (i + 1) * 2 + 1 = i * 2 + 1 + 1 + 1 by omega, List.set_cons_succ, List.set_cons_succ, ih i (by simpa using h)]
      rfl
/-- What lies behind a reference's disk. -/
structure XdX where
  g : Nat
  c : Nat
  k : Int
  ps : List (List UInt8 × Value)
structure XdkX (w : World) (p : Nat) (O : List Nat) (D : DkM) (X : XdX) : Prop where
  pO : p ∈ O
  gO : X.g ∈ O
  blk : Blk w p 89 #[.slice (some ⟨X.g, 0, none⟩) D.sure.length X.c, .bool (!(D.calls == -1)), .int .i64 X.k]
  kk : D.calls ≠ -1 → X.k = D.calls
  k64 : -9223372036854775808 ≤ X.k ∧ X.k ≤ 9223372036854775807
  n1 : 1 ≤ D.sure.length ∧ D.sure.length ≤ 4096
  row : Row w 0 91 2 (.slice (some ⟨X.g, 0, none⟩) D.sure.length X.c) D.sure.length (pcells X.ps)
  at_ : ∀ i (h : i < X.ps.length), X.ps[i].1 = D.sureR i ∧ Row w 0 9 1 X.ps[i].2 (D.uns i).length ((D.uns i).map strV) ∧ ∀ g, X.ps[i].2.ownBlock = some g → g ∈ O
  rng : ∀ x, D.uns x ≠ [] → D.is x = true
  ss : ∀ i : Nat, i < D.sure.length → (D.sureR i).length = 512
  su : ∀ x, ∀ b ∈ D.uns x, b.length = 512
  no8 : NoTy w O 5
  lt : ∀ i ∈ O, i < w.heap.size
  calls : -1 ≤ D.calls ∧ D.calls ≤ 9223372036854775807
/-- The reference's disk at p is D; its own blocks are O. -/
def Xdk (w : World) (p : Nat) (O : List Nat) (D : DkM) : Prop := ∃ X, XdkX w p O D X
/-- Behind a call. -/
def AftX (w : World) (p : Nat) (O : List Nat) (D' : DkM) (w' : World) : Prop := ∃ O', Xdk w' p O' D' ∧ (∀ i ∈ O', i ∈ O ∨ w.heap.size ≤ i) ∧ Fr O w w'
section
variable {w w' : World} {p : Nat} {O F : List Nat} {D D' : DkM} {X : XdX}
theorem XdkX.len (h : XdkX w p O D X) : X.ps.length = D.sure.length := by
  have := h.row.len; rw [pcells_len] at this; omega
theorem XdkX.pg (h : XdkX w p O D X) : p ≠ X.g := fun e => h.row.ne_blk h.blk (by decide) (by rw [e]; rfl)
theorem XdkX.keep (h : XdkX w p O D X) (f : Fr F w w') (hF : ∀ i ∈ O, i ∉ F) : XdkX w' p O D X :=
  ⟨h.pO, h.gO, h.blk.keep f (hF _ h.pO), h.kk, h.k64, h.n1, h.row.keep f (fun g hg => by simp [Value.ownBlock] at hg; rw [← hg]; exact hF _ h.gO), fun i hi => ⟨(h.at_ i hi).1, (h.at_ i hi).2.1.keep f (fun g hg => hF _ ((h.at_ i hi).2.2 g hg)), (h.at_ i hi).2.2⟩, h.rng, h.ss, h.su, h.no8.keep f (fun i hi => ⟨hF i hi, h.lt i hi⟩), fun i hi => Nat.lt_of_lt_of_le (h.lt i hi) f.size, h.calls⟩
theorem XdkX.keep_nil (h : XdkX w p O D X) (f : Fr [] w w') : XdkX w' p O D X := h.keep f (fun _ _ => by simp)
theorem Xdk.keep (h : Xdk w p O D) (f : Fr F w w') (hF : ∀ i ∈ O, i ∉ F) : Xdk w' p O D := h.imp fun _ h => h.keep f hF
theorem Xdk.keep_nil (h : Xdk w p O D) (f : Fr [] w w') : Xdk w' p O D := h.imp fun _ h => h.keep_nil f
theorem XdkX.eq (h : XdkX w p O D X) (hl : D'.sure.length = D.sure.length) (hs : ∀ i : Nat, i < D.sure.length → D'.sureR i = D.sureR i) (hu : D'.uns = D.uns) (hc : D'.calls = D.calls) : XdkX w p O D' X := by
  have hi : ∀ x, D'.is x = D.is x := fun x => by simp only [DkM.is, hl]
  refine ⟨h.pO, h.gO, by rw [hl, hc]; exact h.blk, by rw [hc]; exact h.kk, h.k64, by rw [hl]; exact h.n1, by rw [hl]; exact h.row, fun i hx => ?_, by rw [hu]; exact fun x hx => (hi x).trans (h.rng x hx), fun i hx => by rw [hs i (by omega)]; exact h.ss i (by omega), by rw [hu]; exact h.su, h.no8, h.lt, by rw [hc]; exact h.calls⟩
  rw [hs i (by rw [← h.len]; exact hx), hu]
  exact h.at_ i hx
theorem Xdk.eq (h : Xdk w p O D) (hl : D'.sure.length = D.sure.length) (hs : ∀ i : Nat, i < D.sure.length → D'.sureR i = D.sureR i) (hu : D'.uns = D.uns) (hc : D'.calls = D.calls) : Xdk w p O D' := h.imp fun _ h => h.eq hl hs hu hc
theorem AftX.same (h : Xdk w p O D) : AftX w p O D w := ⟨O, h, fun _ h => .inl h, Fr.refl _ _⟩
theorem AftX.pre {w0 : World} (f : Fr [] w0 w) (h : AftX w p O D w') : AftX w0 p O D w' := by
  obtain ⟨O', h1, h2, h3⟩ := h
  exact ⟨O', h1, fun i hi => (h2 i hi).imp id (fun h => Nat.le_trans f.size h), (f.mono (by simp)).trans h3 (fun i hi => .inl hi)⟩
theorem AftX.trans {w1 : World} {O1 : List Nat} (f : Fr O w w1) (h1 : ∀ i ∈ O1, i ∈ O ∨ w.heap.size ≤ i) (h : AftX w1 p O1 D w') : AftX w p O D w' := by
  obtain ⟨O', k1, k2, k3⟩ := h
  refine ⟨O', k1, fun i hi => ?_, f.trans k3 (fun i hi => h1 i hi)⟩
  rcases k2 i hi with h | h
  · exact h1 i h
  · exact .inr (Nat.le_trans f.size h)
theorem AftX.eq (h : AftX w p O D w') (e : D = D') : AftX w p O D' w' := e ▸ h
theorem XdkX.c0 (h : XdkX w p O D X) : w.cell? ⟨p, 0, none⟩ = some (.slice (some ⟨X.g, 0, none⟩) D.sure.length X.c) := h.blk.cell 0
theorem XdkX.c1 (h : XdkX w p O D X) : w.cell? ⟨p, 1, none⟩ = some (.bool (!(D.calls == -1))) := h.blk.cell 1
theorem XdkX.c2 (h : XdkX w p O D X) : w.cell? ⟨p, 2, none⟩ = some (.int .i64 X.k) := h.blk.cell 2
theorem XdkX.cp (h : XdkX w p O D X) {i : Nat} (hi : i < D.sure.length) : ∃ v, w.cell? ⟨X.g, i * 2, none⟩ = some (strV (D.sureR i)) ∧ w.cell? ⟨X.g, i * 2 + 1, none⟩ = some v ∧ Row w 0 9 1 v (D.uns i).length ((D.uns i).map strV) ∧ ∃ h : i < X.ps.length, X.ps[i].2 = v := by
  have hi' : i < X.ps.length := by rw [h.len]; exact hi
  obtain ⟨h1, h2, -⟩ := h.at_ i hi'
  obtain ⟨p1, p2⟩ := pcells_0 X.ps i hi'
  rw [h1] at p1
  exact ⟨X.ps[i].2, ((h.row.setE (i * 2) (by omega) undef).1).trans p1, ((h.row.setE (i * 2 + 1) (by omega) undef).1).trans p2, h2, hi', rfl⟩
/-- The struct's other cells. -/
theorem XdkX.setp (h : XdkX w p O D X) (f : Fr [p] w w') (c k : Int) (hc : -1 ≤ c ∧ c ≤ 9223372036854775807) (hk : c ≠ -1 → k = c) (h64 : -9223372036854775808 ≤ k ∧ k ≤ 9223372036854775807) (hb : Blk w' p 89 #[.slice (some ⟨X.g, 0, none⟩) D.sure.length X.c, .bool (!(c == -1)), .int .i64 k]) : XdkX w' p O { D with calls := c } { X with k := k } := by
  have hg : ∀ g, (Value.slice (some ⟨X.g, 0, none⟩) D.sure.length X.c).ownBlock = some g → g ∉ [p] := fun g hg => by
    simp [Value.ownBlock] at hg
    rw [← hg]; simpa using fun e => h.pg e.symm
  refine ⟨h.pO, h.gO, hb, hk, h64, h.n1, h.row.keep f hg, fun i hi => ⟨(h.at_ i hi).1, (h.at_ i hi).2.1.keep f (fun g hg hm => ?_), (h.at_ i hi).2.2⟩, h.rng, h.ss, h.su, fun i hi => ?_, fun i hi => Nat.lt_of_lt_of_le (h.lt i hi) f.size, hc⟩
  · rw [List.mem_singleton.1 hm] at hg
    exact (h.at_ i hi).2.1.ne_blk h.blk (by decide) hg
  · intro cs fz hcs
    by_cases e : i = p
    · rw [e] at hcs
      unfold Blk at hb
      rw [hb] at hcs
      injection hcs with hcs
      injection hcs with _ hcs
      exact absurd hcs (by decide)
    · rw [f.same i (h.lt i hi) (by simpa using e)] at hcs
      exact h.no8 i hi cs fz hcs
theorem xdOff_any (h : Xdk w p O D) : Calls Try.prog 54 #[.pointer (some ⟨p, 0, none⟩)] w fun e w' => e = .returned (.bool D.off) ∧ w = w' := by
  obtain ⟨X, h⟩ := h
  have c1 := h.c1
  have c2 := h.c2
  have kk := h.kk
  by_cases hc : D.calls = -1
  · have HO := Lib.hid (show D.off = false by rw [DkM.off, hc]; rfl)
    rw [hc] at c1
    replace c1 : w.cell? ⟨p, 1, none⟩ = some (.bool false) := c1
    clear h kk hc
    go_enter Try.func54, Try.ntmps54
    go_wp2_with fail
    go_ret
    exact ⟨by rw [HO.out]; rfl, rfl⟩
  · rw [kk hc] at c2
    have hb : (!(D.calls == -1)) = true := by simpa using hc
    rw [hb] at c1
    unfold DkM.off
    clear h kk hb hc
    go_enter Try.func54, Try.ntmps54
    go_wp2_with fail
    go_ret
    exact ⟨rfl, rfl⟩
end
end Go.Proofs.Ytdhhnioklbnicaa
