/-
  Layer 10 (disk): a disk as it should be, and as it lies in memory.
-/
import Derived.Test.YtdhhnioklbnicaaMapZ
import Derived.Test.YtdhhnioklbnicaaCodA
import Derived.Test.YtdhhnioklbnicaaMem3
set_option linter.unusedSimpArgs false
set_option linter.unusedVariables false
set_option linter.unnecessarySimpa false
namespace Go.Proofs.Ytdhhnioklbnicaa
open Go.RowKit

theorem Row.rdD {w : World} {B : Nat} {A : Option Addr} {n n' c : Nat} {xs : List Value} {e : TypeId} {s : Nat} (h : Row w B e s (.slice A n' c) n xs) : Rd w A xs ∧ n' = n ∧ (A = none → n = 0) := by
  obtain ⟨A', cap, h1, -, -, h4, -, -⟩ := h.shape
  injection h1 with h1 h2
  subst h1 h2
  refine ⟨h4, rfl, fun e => ?_⟩
  rcases h.2 with ⟨_, h5⟩ | ⟨g, cap, cur, fz, h5, _⟩
  · exact h5
  · rw [e] at h5; cases h5
theorem Row.ne_rowD {w : World} {b1 b2 : Nat} {e1 e2 : TypeId} {s1 s2 : Nat} {v1 v2 : Value} {n1 n2 : Nat} {x1 x2 : List Value} (h1 : Row w b1 e1 s1 v1 n1 x1) (h2 : Row w b2 e2 s2 v2 n2 x2) (hne : e1 ≠ e2) : ∀ g, v1.ownBlock = some g → v2.ownBlock ≠ some g := by
  intro g hg hg2
  rcases h1.2 with ⟨rfl, _⟩ | ⟨g1, c1, u1, z1, rfl, _, k1, _⟩
  · cases hg
  · rcases h2.2 with ⟨rfl, _⟩ | ⟨g2, c2, u2, z2, rfl, _, k2, _⟩
    · cases hg2
    · have a1 : g1 = g := by simpa [Value.ownBlock] using hg
      have a2 : g2 = g := by simpa [Value.ownBlock] using hg2
      subst a1 a2
      rw [k1] at k2
      injection k2 with k2
      injection k2 with _ k2
      exact hne k2
theorem Row.hdD {w : World} {B n s : Nat} {e : TypeId} {v : Value} {xs : List Value} (h : Row w B e s v n xs) (hn : 0 < n) : ∃ g c, v = .slice (some ⟨g, 0, none⟩) n c := by
  rcases h.2 with ⟨_, e⟩ | ⟨g, cap, cur, fz, e, _⟩
  · omega
  · exact ⟨g, cap, e⟩
theorem Row.setD {w : World} {B g n c : Nat} {e : TypeId} {xs : List Value} (h : Row w B e 1 (.slice (some ⟨g, 0, none⟩) n c) n xs) (k : Nat) (hk : k < n) (y : Value) :
    w.cell? ⟨g, k, none⟩ = xs[k]? ∧ w.frozen? ⟨g, k, none⟩ = false ∧ Row (w.setCell ⟨g, k, none⟩ y) B e 1 (.slice (some ⟨g, 0, none⟩) n c) n (xs.set k y) := by
  rcases h.2 with ⟨e, _⟩ | ⟨g', cap, cur, fz, e, hb, hg, hf, hnc, hcm, hcs, ht⟩
  · cases e
  · cases e
    rw [Nat.mul_one] at ht
    refine ⟨?_, ?_, ?_⟩
    · rw [cell_of_row w g k _ _ _ hg, ← ht, List.getElem?_take_of_lt hk, Array.getElem?_toList]
    · have := hf k (by omega)
      simp only [World.frozen?, hg]
      simpa using this
    · refine ⟨by rw [List.length_set]; exact h.1, .inr ⟨g, c, cur.setIfInBounds k y, fz, rfl, hb, ?_, by simpa using hf, hnc, hcm, by simpa using hcs, ?_⟩⟩
      · simp [World.setCell, Array.getElem?_modify, hg]
      · rw [Nat.mul_one, Array.toList_setIfInBounds, List.take_set, ht]
/-- None of these blocks is a row of that type. -/
def NoTy (w : World) (F : List Nat) (e : TypeId) : Prop := ∀ i ∈ F, ∀ cs fz, w.heap[i]? ≠ some (.cells cs e fz)
theorem Row.keepT {w w' : World} {B : Nat} {e : TypeId} {s n : Nat} {v : Value} {xs : List Value} (h : Row w B e s v n xs) {F : List Nat} (f : Fr F w w') (hF : NoTy w F e) : Row w' B e s v n xs :=
  h.keep f (fun g hg hm => by
    rcases h.2 with ⟨rfl, _⟩ | ⟨g', cap, cur, fz, rfl, _, hgg, _⟩
    · cases hg
    · have : g' = g := by simpa [Value.ownBlock] using hg
      subst this
      exact hF _ hm _ _ hgg)
theorem NoTy.nil (w : World) (e : TypeId) : NoTy w [] e := fun i hi => by cases hi
theorem NoTy.sub {w : World} {F G : List Nat} {e : TypeId} (h : NoTy w G e) (hs : ∀ i ∈ F, i ∈ G) : NoTy w F e := fun i hi => h i (hs i hi)
theorem Row.noTy {w : World} {B : Nat} {e d : TypeId} {s n : Nat} {v : Value} {xs : List Value} (h : Row w B e s v n xs) (hne : e ≠ d) : NoTy w v.ownBlock.toList d := fun g hg cs fz hc => by
  rcases h.2 with ⟨rfl, _⟩ | ⟨g', cap, cur, fz', rfl, _, hgg, _⟩
  · exact own_nil.1 hg
  · rw [own_mem.1 hg, hgg] at hc
    injection hc with hc
    injection hc with _ hc
    exact hne hc

structure DkM where
  sure : List (Option (List UInt8))
  uns : Int → List (List UInt8)
  calls : Int

/-- A block's bytes. -/
def BlkB (w : World) (v : Value) (l : List UInt8) : Prop := l.length = 512 ∧ Row w 0 5 1 v 512 (bvs l)
def SuV (w : World) (v : Value) (s : Option (List UInt8)) : Prop := match s with
  | none => v = .slice none 0 0
  | some l => BlkB w v l
/-- A list of writes. -/
def UR (w : World) (v : Value) (L : List (List UInt8)) : Prop := ∃ us, Row w 0 31 1 v L.length us ∧ ∀ i (h : i < us.length) (h' : i < L.length), BlkB w us[i] L[i]

/-- What lies behind a disk. -/
structure DkX where
  g : Nat
  c : Nat
  m : Nat
  f : Int → Option Value
  vs : List Value

structure DskX (w : World) (p : Nat) (O : List Nat) (D : DkM) (X : DkX) : Prop where
  pO : p ∈ O
  gO : X.g ∈ O
  mO : X.m ∈ O
  blk : Blk w p 75 #[.slice (some ⟨X.g, 0, none⟩) D.sure.length X.c, .map (some X.m), .int .i64 D.calls]
  n1 : 1 ≤ D.sure.length ∧ D.sure.length ≤ 4096
  row : Row w 0 31 1 (.slice (some ⟨X.g, 0, none⟩) D.sure.length X.c) D.sure.length X.vs
  su : ∀ i (h : i < X.vs.length) (h' : i < D.sure.length), SuV w X.vs[i] D.sure[i]
  map : MapZ w X.m 4096 X.f
  iff : ∀ x, X.f x = none ↔ D.uns x = []
  un : ∀ x v, X.f x = some v → UR w v (D.uns x) ∧ ∃ g, v.ownBlock = some g ∧ g ∈ O ∧ g ≠ X.g
  rng : ∀ x, D.uns x ≠ [] → 0 ≤ x ∧ x < D.sure.length
  apart : ∀ x y u v, x ≠ y → X.f x = some u → X.f y = some v → u.ownBlock ≠ v.ownBlock
  no8 : NoTy w O 5
  lt : ∀ i ∈ O, i < w.heap.size
  calls : -1 ≤ D.calls ∧ D.calls ≤ 9223372036854775807
/-- The disk at p is D; its own blocks are O. -/
def Dsk (w : World) (p : Nat) (O : List Nat) (D : DkM) : Prop := ∃ X, DskX w p O D X

section
variable {w w' : World} {p : Nat} {O F : List Nat} {D : DkM}
theorem BlkB.keepT {v : Value} {l : List UInt8} (h : BlkB w v l) (f : Fr F w w') (hF : NoTy w F 5) : BlkB w' v l := ⟨h.1, h.2.keepT f hF⟩
theorem SuV.keepT {v : Value} {s : Option (List UInt8)} (h : SuV w v s) (f : Fr F w w') (hF : NoTy w F 5) : SuV w' v s := by
  cases s with
  | none => exact h
  | some l => exact BlkB.keepT h f hF
theorem UR.keep {v : Value} {L : List (List UInt8)} (h : UR w v L) (f : Fr F w w') (hF : NoTy w F 5) (hv : ∀ g, v.ownBlock = some g → g ∉ F) : UR w' v L := by
  obtain ⟨us, h1, h2⟩ := h
  exact ⟨us, h1.keep f hv, fun i a b => (h2 i a b).keepT f hF⟩
theorem BlkB.keep_nil {v : Value} {l : List UInt8} (h : BlkB w v l) (f : Fr [] w w') : BlkB w' v l := h.keepT f (NoTy.nil _ _)
theorem UR.keep_nil {v : Value} {L : List (List UInt8)} (h : UR w v L) (f : Fr [] w w') : UR w' v L := h.keep f (NoTy.nil _ _) (fun _ _ => by simp)
theorem DskX.lts {X : DkX} (h : DskX w p O D X) : p < w.heap.size ∧ X.g < w.heap.size ∧ X.m < w.heap.size := ⟨h.blk.lt, (h.row.lt X.g rfl).2, h.map.lt⟩
theorem DskX.un_lt {X : DkX} (h : DskX w p O D X) {x : Int} {v : Value} (hx : X.f x = some v) {g : Nat} (hg : v.ownBlock = some g) : g < w.heap.size := by
  obtain ⟨⟨us, h1, _⟩, _⟩ := h.un x v hx
  exact (h1.lt g hg).2
theorem NoTy.keep {e : TypeId} (h : NoTy w O e) (f : Fr F w w') (hF : ∀ i ∈ O, i ∉ F ∧ i < w.heap.size) : NoTy w' O e := fun i hi cs fz hc => by
  rw [f.same i (hF i hi).2 (hF i hi).1] at hc
  exact h i hi cs fz hc
/-- What the rest of the program does elsewhere leaves a disk as it is. -/
theorem DskX.keep {X : DkX} (h : DskX w p O D X) (f : Fr F w w') (hF : ∀ i ∈ O, i ∉ F) (h8 : NoTy w F 5) : DskX w' p O D X := by
  refine ⟨h.pO, h.gO, h.mO, h.blk.keep f (hF p h.pO), h.n1, h.row.keep f (fun g hg hm => ?_), fun i a b => (h.su i a b).keepT f h8, h.map.keep f (hF _ h.mO), h.iff, fun x v hx => ?_, h.rng, h.apart, h.no8.keep f (fun i hi => ⟨hF i hi, h.lt i hi⟩), fun i hi => Nat.lt_of_lt_of_le (h.lt i hi) f.size, h.calls⟩
  · have : g = X.g := by simpa [Value.ownBlock] using hg.symm
    subst this
    exact (hF _ h.gO) hm
  · obtain ⟨h1, g, h2, h3, h4⟩ := h.un x v hx
    exact ⟨h1.keep f h8 (fun g' hg' => by rw [h2] at hg'; cases hg'; exact hF g h3), g, h2, h3, h4⟩
theorem DskX.keep_nil {X : DkX} (h : DskX w p O D X) (f : Fr [] w w') : DskX w' p O D X := h.keep f (fun i hi => by simp) (NoTy.nil _ _)
theorem Dsk.keep (h : Dsk w p O D) (f : Fr F w w') (hF : ∀ i ∈ O, i ∉ F) (h8 : NoTy w F 5) : Dsk w' p O D := by
  obtain ⟨X, h⟩ := h
  exact ⟨X, h.keep f hF h8⟩
theorem Dsk.keep_nil (h : Dsk w p O D) (f : Fr [] w w') : Dsk w' p O D := h.keep f (fun i hi => by simp) (NoTy.nil _ _)
end
end Go.Proofs.Ytdhhnioklbnicaa
