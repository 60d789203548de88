/-
  Texts of this claim, one behind the other: SrA, DkA, RngA, SrB, RngB.
-/
import Derived.Test.YtbanogfljpkbkaaGreatDoorF5
import Derived.Test.YtbanogfljpkbkaaGreatDoorF3
import Derived.RangeFuncNested
import Derived.RangeFuncBound
import Derived.RangeFuncCalls
import Derived.RangeFuncLeaves
import Derived.Shelf.Abstract
import Derived.Shelf.RegionOpen
import Derived.WalkKit
import Derived.OwnWalkIn
import Derived.TacticsInMore
import Derived.LoopNIn
import Derived.LoopIn
import Derived.Test.YtbanogfljpkbkaaGreatDoorF1
import Derived.Test.YtbanogfljpkbkaaGreatDoorF4
set_option linter.unusedSimpArgs false
set_option linter.unusedVariables false
set_option linter.unnecessarySimpa false
namespace Go.Proofs.YtbanogfljpkbkaaGreatDoor
section
open Go.RowKit Go.Maps
theorem MapZ.lenS {w : World} {b n : Nat} {f : Int → Option Value} (h : MapZ w b n f) {zs : List Int} (hz : KeyL f zs) {t e : TypeId} (ht : Tryz.prog.underlying t = some (.map 3 e)) (ty : TypeId) : (Builtin.len_ #[t] ty #[.map (some b)]).run Tryz.prog w = .ok (.int .i64 zs.length) w ∧ zs.length ≤ n := by
 obtain ⟨D, hown, hf⟩ := h
 obtain ⟨k1, k2⟩ := KeyL.of_perm hown hf (List.Perm.refl (intKeys D))
 have e : zs.length = Maps.size D := by
  rw [hz.uniq k1, (List.mergeSort_perm _ _).length_eq]
  obtain ⟨es, hD, -⟩ := hown.entries keyZ
  rw [hD]
  show (es.map _).length = _
  rw [List.length_map]
  rfl
 have hs := hown.size_le
 rw [e]
 exact ⟨hown.len ht ty, hs⟩
structure SrtW (w : World) (p b n : Nat) (f : Int → Option Value) : Prop where
 blk : Blk w p 149 #[.map (some b)]
 map : MapZ w b n f
section
variable {w w' : World} {p b n : Nat} {f : Int → Option Value}
theorem SrtW.ne (h : SrtW w p b n f) : b ≠ p := fun e => by
 have h1 := h.blk
 obtain ⟨D, ⟨es, clock, hb, _⟩, _⟩ := h.map
 unfold Blk at h1
 rw [← e, hb] at h1
 cases h1
theorem SrtW.keep (h : SrtW w p b n f) {F : List Nat} (fr : Fr F w w') (hp : p ∉ F) (hb : b ∉ F) : SrtW w' p b n f := ⟨h.blk.keep fr hp, h.map.keep fr hb⟩
theorem SrtW.keep_nil (h : SrtW w p b n f) (fr : Fr [] w w') : SrtW w' p b n f := h.keep fr (by simp) (by simp)
theorem SrtW.c0 (h : SrtW w p b n f) : w.cell? ⟨p, 0, none⟩ = some (.map (some b)) := h.blk.cell 0
theorem SrtW.noTy (h : SrtW w p b n f) (e : TypeId) : ∀ i ∈ [b], ∀ cs fz, w.heap[i]? ≠ some (.cells cs e fz) := fun i hi cs fz hc => by
 obtain ⟨D, ⟨es, clock, hb, _⟩, _⟩ := h.map
 rw [List.mem_singleton.1 hi, hb] at hc
 cases hc
theorem neqMapS (b : Nat) (w : World) : (binOp .neq 147 (.map (some b)) (.map none)).run Tryz.prog w = .ok (.bool true) w := by kernel_rfl
set_option maxRecDepth 100000
theorem srtNew_any (w : World) : Calls Tryz.prog 61 #[] w fun e w' => e = .returned (.pointer (some ⟨w.heap.size + 1, 0, none⟩)) ∧ SrtW w' (w.heap.size + 1) w.heap.size 0 (fun _ => none) ∧ Fr [] w w' ∧ w'.heap.size = w.heap.size + 2 := by
 have hmm := @run_makeMap Tryz.prog
 have m1 := MapZ.made w
 have f1 : Fr [] w (w.alloc (.map #[] 0)) := (Fr.refl _ _).alloc _
 have k2 := Blk.new (w.alloc (.map #[] 0)) 149 #[.map (some w.heap.size)]
 have f2 : Fr [] (w.alloc (.map #[] 0)) ((w.alloc (.map #[] 0)).alloc (.cells #[.map (some w.heap.size)] 149)) := (Fr.refl _ _).alloc _
 have HF := Lib.hid (And.intro m1 (And.intro f1 (And.intro k2 f2)))
 clear m1 f1 k2 f2
 go_enter Tryz.func61, Tryz.ntmps61
 go_wp2_with fail
 obtain ⟨m1, f1, k2, f2⟩ := HF.out
 go_ret
 have e1 : (w.alloc (.map #[] 0)).heap.size = w.heap.size + 1 := by simp
 rw [e1] at k2
 exact ⟨rfl, ⟨k2, m1.keep_nil f2⟩, f1.trans_nil f2, by simp⟩
theorem srtSet_any (h : SrtW w p b n f) (hn : n < maxLen) (k : Int) (hk : wfZ k) (v : Value) (hv : v.cells = #[v]) : Calls Tryz.prog 60 #[.pointer (some ⟨p, 0, none⟩), .int .i64 k, v] w fun e w' => e = .returned (.tuple #[]) ∧ SrtW w' p b (n + 1) (fput f k v) ∧ Fr [b] w w' := by
 have c0 := h.c0
 have nq := neqMapS b
 have hm := h.map
 have HH := Lib.hid h
 clear h
 go_enter Tryz.func60, Tryz.ntmps60
 go_wp2_with (refine wpList_putZ rfl rfl undS rfl hm hn k rfl hk v rfl ?_; intro w1 m1 f1 z1)
 have HM := Lib.hid (And.intro m1 f1)
 clear m1 f1 z1 hm c0
 go_wp2_with fail
 go_returns
 exact ⟨rfl, ⟨HH.out.blk.keep HM.out.2 (fun hm => HH.out.ne (List.mem_singleton.1 hm).symm), HM.out.1⟩, HM.out.2⟩
theorem srtGet_any (h : SrtW w p b n f) (k : Int) (hk : wfZ k) : Calls Tryz.prog 57 #[.pointer (some ⟨p, 0, none⟩), .int .i64 k] w fun e w' => e = .returned (.tuple #[(f k).getD zS, .bool (f k).isSome]) ∧ w = w' := by
 have c0 := h.c0
 have hm := h.map
 clear h
 go_enter Tryz.func57, Tryz.ntmps57
 go_wp2_with (refine wpList_lookOkZ rfl rfl undS (zeroS _) rfl hm k rfl hk ?_)
 go_ret2
 exact ⟨rfl, rfl⟩
theorem srtLen_any (h : SrtW w p b n f) {zs : List Int} (hz : KeyL f zs) : Calls Tryz.prog 47 #[.pointer (some ⟨p, 0, none⟩)] w fun e w' => e = .returned (.int .i64 zs.length) ∧ w = w' := by
 have c0 := h.c0
 have hl := (h.map.lenS hz undS 3).1
 clear h
 go_enter Tryz.func47, Tryz.ntmps47
 go_wp2_with fail
 go_ret
 exact ⟨rfl, rfl⟩
theorem srtClear_any (h : SrtW w p b n f) : Calls Tryz.prog 56 #[.pointer (some ⟨p, 0, none⟩)] w fun e w' => e = .returned (.tuple #[]) ∧ SrtW w' p b 0 (fun _ => none) ∧ Fr [b] w w' := by
 have c0 := h.c0
 have hm := h.map
 have HH := Lib.hid h
 clear h
 go_enter Tryz.func56, Tryz.ntmps56
 go_wp2_with (refine wpList_clearZ rfl rfl undS rfl hm ?_; intro w6 m6 f6 z6)
 have HM := Lib.hid (And.intro m6 f6)
 clear m6 f6 z6 hm c0
 go_wp2_with fail
 go_returns
 exact ⟨rfl, ⟨HH.out.blk.keep HM.out.2 (fun hm => HH.out.ne (List.mem_singleton.1 hm).symm), HM.out.1⟩, HM.out.2⟩
theorem srtAll_any (P : Option Addr) (w : World) : Calls Tryz.prog 48 #[.pointer P] w fun e w' => e = .returned (.func (.func 87) #[] #[.pointer (some ⟨w.heap.size, 0, none⟩)]) ∧ w' = w.alloc (.cells #[.pointer P] 97) := by
 go_enter Tryz.func48, Tryz.ntmps48
 go_wp2_with fail
 go_ret
 exact ⟨rfl, rfl⟩
end
end
section
open Go.RowKit
theorem Row.rdD {w : World} {B : Nat} {A : Option Addr} {n n' c : Nat} {xs : List Value} {e : TypeId} {s : Nat} (h : Row w B e s (.slice A n' c) n xs) : Rd w A xs ∧ n' = n ∧ (A = none → n = 0) := by
 obtain ⟨A', cap, h1, -, -, h4, -, -⟩ := h.shape
 injection h1 with h1 h2
 subst h1 h2
 refine ⟨h4, rfl, fun e => ?_⟩
 rcases h.2 with ⟨_, h5⟩ | ⟨g, cap, cur, fz, h5, _⟩
 ·exact h5
 ·rw [e] at h5; cases h5
theorem Row.ne_rowD {w : World} {b1 b2 : Nat} {e1 e2 : TypeId} {s1 s2 : Nat} {v1 v2 : Value} {n1 n2 : Nat} {x1 x2 : List Value} (h1 : Row w b1 e1 s1 v1 n1 x1) (h2 : Row w b2 e2 s2 v2 n2 x2) (hne : e1 ≠ e2) : ∀ g, v1.ownBlock = some g → v2.ownBlock ≠ some g := by
 intro g hg hg2
 rcases h1.2 with ⟨rfl, _⟩ | ⟨g1, c1, u1, z1, rfl, _, k1, _⟩
 ·cases hg
 ·rcases h2.2 with ⟨rfl, _⟩ | ⟨g2, c2, u2, z2, rfl, _, k2, _⟩
  ·cases hg2
  ·have a1 : g1 = g := by simpa [Value.ownBlock] using hg
   have a2 : g2 = g := by simpa [Value.ownBlock] using hg2
   subst a1 a2
   rw [k1] at k2
   injection k2 with k2
   injection k2 with _ k2
   exact hne k2
theorem Row.hdD {w : World} {B n s : Nat} {e : TypeId} {v : Value} {xs : List Value} (h : Row w B e s v n xs) (hn : 0 < n) : ∃ g c, v = .slice (some ⟨g, 0, none⟩) n c := by
 rcases h.2 with ⟨_, e⟩ | ⟨g, cap, cur, fz, e, _⟩
 ·omega
 ·exact ⟨g, cap, e⟩
theorem Row.setD {w : World} {B g n c : Nat} {e : TypeId} {xs : List Value} (h : Row w B e 1 (.slice (some ⟨g, 0, none⟩) n c) n xs) (k : Nat) (hk : k < n) (y : Value) :
  w.cell? ⟨g, k, none⟩ = xs[k]? ∧ w.frozen? ⟨g, k, none⟩ = false ∧ Row (w.setCell ⟨g, k, none⟩ y) B e 1 (.slice (some ⟨g, 0, none⟩) n c) n (xs.set k y) := by
 rcases h.2 with ⟨e, _⟩ | ⟨g', cap, cur, fz, e, hb, hg, hf, hnc, hcm, hcs, ht⟩
 ·cases e
 ·cases e
  rw [Nat.mul_one] at ht
  refine ⟨?_, ?_, ?_⟩
  ·rw [cell_of_row w g k _ _ _ hg, ← ht, List.getElem?_take_of_lt hk, Array.getElem?_toList]
  ·have := hf k (by omega)
   simp only [World.frozen?, hg]
   simpa using this
  ·refine ⟨by rw [List.length_set]; exact h.1, .inr ⟨g, c, cur.setIfInBounds k y, fz, rfl, hb, ?_, by simpa using hf, hnc, hcm, by simpa using hcs, ?_⟩⟩
   ·simp [World.setCell, Array.getElem?_modify, hg]
   ·rw [Nat.mul_one, Array.toList_setIfInBounds, List.take_set, ht]
def NoTy (w : World) (F : List Nat) (e : TypeId) : Prop := ∀ i ∈ F, ∀ cs fz, w.heap[i]? ≠ some (.cells cs e fz)
theorem Row.keepT {w w' : World} {B : Nat} {e : TypeId} {s n : Nat} {v : Value} {xs : List Value} (h : Row w B e s v n xs) {F : List Nat} (f : Fr F w w') (hF : NoTy w F e) : Row w' B e s v n xs :=
 h.keep f (fun g hg hm => by
  rcases h.2 with ⟨rfl, _⟩ | ⟨g', cap, cur, fz, rfl, _, hgg, _⟩
  ·cases hg
  ·have : g' = g := by simpa [Value.ownBlock] using hg
   subst this
   exact hF _ hm _ _ hgg)
theorem NoTy.nil (w : World) (e : TypeId) : NoTy w [] e := fun i hi => by cases hi
theorem NoTy.sub {w : World} {F G : List Nat} {e : TypeId} (h : NoTy w G e) (hs : ∀ i ∈ F, i ∈ G) : NoTy w F e := fun i hi => h i (hs i hi)
theorem Row.noTy {w : World} {B : Nat} {e d : TypeId} {s n : Nat} {v : Value} {xs : List Value} (h : Row w B e s v n xs) (hne : e ≠ d) : NoTy w v.ownBlock.toList d := fun g hg cs fz hc => by
 rcases h.2 with ⟨rfl, _⟩ | ⟨g', cap, cur, fz', rfl, _, hgg, _⟩
 ·exact own_nil.1 hg
 ·rw [own_mem.1 hg, hgg] at hc
  injection hc with hc
  injection hc with _ hc
  exact hne hc
structure DkM where
 sure : List (Option (List UInt8))
 uns : Int → List (List UInt8)
 calls : Int
def BlkB (w : World) (v : Value) (l : List UInt8) : Prop := l.length = 512 ∧ Row w 0 5 1 v 512 (bvs l)
def SuV (w : World) (v : Value) (s : Option (List UInt8)) : Prop := match s with
 | none => v = .slice none 0 0
 | some l => BlkB w v l
def UR (w : World) (v : Value) (L : List (List UInt8)) : Prop := ∃ us, Row w 0 27 1 v L.length us ∧ ∀ i (h : i < us.length) (h' : i < L.length), BlkB w us[i] L[i]
structure DkX where
 g : Nat
 c : Nat
 m : Nat
 f : Int → Option Value
 vs : List Value
structure DskX (w : World) (p : Nat) (O : List Nat) (D : DkM) (X : DkX) : Prop where
 pO : p ∈ O
 gO : X.g ∈ O
 mO : X.m ∈ O
 blk : Blk w p 118 #[.slice (some ⟨X.g, 0, none⟩) D.sure.length X.c, .map (some X.m), .int .i64 D.calls]
 n1 : 1 ≤ D.sure.length ∧ D.sure.length ≤ 4096
 row : Row w 0 27 1 (.slice (some ⟨X.g, 0, none⟩) D.sure.length X.c) D.sure.length X.vs
 su : ∀ i (h : i < X.vs.length) (h' : i < D.sure.length), SuV w X.vs[i] D.sure[i]
 map : MapZ w X.m 4096 X.f
 iff : ∀ x, X.f x = none ↔ D.uns x = []
 un : ∀ x v, X.f x = some v → UR w v (D.uns x) ∧ ∃ g, v.ownBlock = some g ∧ g ∈ O ∧ g ≠ X.g
 rng : ∀ x, D.uns x ≠ [] → 0 ≤ x ∧ x < D.sure.length
 apart : ∀ x y u v, x ≠ y → X.f x = some u → X.f y = some v → u.ownBlock ≠ v.ownBlock
 no8 : NoTy w O 5
 lt : ∀ i ∈ O, i < w.heap.size
 calls : -1 ≤ D.calls ∧ D.calls ≤ 9223372036854775807
def Dsk (w : World) (p : Nat) (O : List Nat) (D : DkM) : Prop := ∃ X, DskX w p O D X
section
variable {w w' : World} {p : Nat} {O F : List Nat} {D : DkM}
theorem BlkB.keepT {v : Value} {l : List UInt8} (h : BlkB w v l) (f : Fr F w w') (hF : NoTy w F 5) : BlkB w' v l := ⟨h.1, h.2.keepT f hF⟩
theorem SuV.keepT {v : Value} {s : Option (List UInt8)} (h : SuV w v s) (f : Fr F w w') (hF : NoTy w F 5) : SuV w' v s := by
 cases s with
 | none => exact h
 | some l => exact BlkB.keepT h f hF
theorem UR.keep {v : Value} {L : List (List UInt8)} (h : UR w v L) (f : Fr F w w') (hF : NoTy w F 5) (hv : ∀ g, v.ownBlock = some g → g ∉ F) : UR w' v L := by
 obtain ⟨us, h1, h2⟩ := h
 exact ⟨us, h1.keep f hv, fun i a b => (h2 i a b).keepT f hF⟩
theorem BlkB.keep_nil {v : Value} {l : List UInt8} (h : BlkB w v l) (f : Fr [] w w') : BlkB w' v l := h.keepT f (NoTy.nil _ _)
theorem UR.keep_nil {v : Value} {L : List (List UInt8)} (h : UR w v L) (f : Fr [] w w') : UR w' v L := h.keep f (NoTy.nil _ _) (fun _ _ => by simp)
theorem DskX.lts {X : DkX} (h : DskX w p O D X) : p < w.heap.size ∧ X.g < w.heap.size ∧ X.m < w.heap.size := ⟨h.blk.lt, (h.row.lt X.g rfl).2, h.map.lt⟩
theorem DskX.un_lt {X : DkX} (h : DskX w p O D X) {x : Int} {v : Value} (hx : X.f x = some v) {g : Nat} (hg : v.ownBlock = some g) : g < w.heap.size := by
 obtain ⟨⟨us, h1, _⟩, _⟩ := h.un x v hx
 exact (h1.lt g hg).2
theorem NoTy.keep {e : TypeId} (h : NoTy w O e) (f : Fr F w w') (hF : ∀ i ∈ O, i ∉ F ∧ i < w.heap.size) : NoTy w' O e := fun i hi cs fz hc => by
 rw [f.same i (hF i hi).2 (hF i hi).1] at hc
 exact h i hi cs fz hc
theorem DskX.keep {X : DkX} (h : DskX w p O D X) (f : Fr F w w') (hF : ∀ i ∈ O, i ∉ F) (h8 : NoTy w F 5) : DskX w' p O D X := by
 refine ⟨h.pO, h.gO, h.mO, h.blk.keep f (hF p h.pO), h.n1, h.row.keep f (fun g hg hm => ?_), fun i a b => (h.su i a b).keepT f h8, h.map.keep f (hF _ h.mO), h.iff, fun x v hx => ?_, h.rng, h.apart, h.no8.keep f (fun i hi => ⟨hF i hi, h.lt i hi⟩), fun i hi => Nat.lt_of_lt_of_le (h.lt i hi) f.size, h.calls⟩
 ·have : g = X.g := by simpa [Value.ownBlock] using hg.symm
  subst this
  exact (hF _ h.gO) hm
 ·obtain ⟨h1, g, h2, h3, h4⟩ := h.un x v hx
  exact ⟨h1.keep f h8 (fun g' hg' => by rw [h2] at hg'; cases hg'; exact hF g h3), g, h2, h3, h4⟩
theorem DskX.keep_nil {X : DkX} (h : DskX w p O D X) (f : Fr [] w w') : DskX w' p O D X := h.keep f (fun i hi => by simp) (NoTy.nil _ _)
theorem Dsk.keep (h : Dsk w p O D) (f : Fr F w w') (hF : ∀ i ∈ O, i ∉ F) (h8 : NoTy w F 5) : Dsk w' p O D := by
 obtain ⟨X, h⟩ := h
 exact ⟨X, h.keep f hF h8⟩
theorem Dsk.keep_nil (h : Dsk w p O D) (f : Fr [] w w') : Dsk w' p O D := h.keep f (fun i hi => by simp) (NoTy.nil _ _)
end
end
section
open Go.RowKit Go.Shelf
theorem fr_grown {A C : World} (f : Fr [] A C) : A.grownBy C none := ⟨f.os, f.tape, f.output, f.size, fun k hk _ => f.same k hk (by simp)⟩
theorem grown_frR {A C : World} {r : Option Nat} (h : A.grownBy C r) : Fr r.toList A C := ⟨h.os, h.tape, h.output, h.size, fun k hk hn => h.block k hk (by cases r <;> simp_all)⟩
theorem keepsO_of_fr {F : List Nat} {A C : World} (f : Fr F A C) (hF : ∀ k ∈ F, ∀ o, A.heap[k]? = some o → o.isCells = true) : KeepsOthers A C :=
 ⟨f.size, fun k o hk hc => by
  rw [f.same k (Array.getElem?_eq_some_iff.1 hk).1 (fun hm => by rw [hF k hm o hk] at hc; cases hc)]
  exact hk⟩
end
section
open Go.RowKit Go.Shelf
attribute [local go_sem] Oper.semAt_some
set_option maxRecDepth 100000
abbrev PairF (f : Int → Option Value) := { p : Int × Value // wfZ p.1 ∧ f p.1 = some p.2 }
def encP (f : Int → Option Value) (x : PairF f) : Array Value := #[.int .i64 x.1.1, x.1.2]
theorem KeyL.val {f : Int → Option Value} {zs : List Int} (h : KeyL f zs) {x : Int} (hx : x ∈ zs) : wfZ x ∧ ∃ v, f x = some v := by
 obtain ⟨h1, h2⟩ := (h.2 x).1 hx
 exact ⟨h1, Option.isSome_iff_exists.1 h2⟩
noncomputable def pairsF {f : Int → Option Value} {zs : List Int} (h : KeyL f zs) : List (PairF f) := zs.attach.map fun x => ⟨(x.1, (h.val x.2).2.choose), (h.val x.2).1, (h.val x.2).2.choose_spec⟩
theorem pairsF_len {f : Int → Option Value} {zs : List Int} (h : KeyL f zs) : (pairsF h).length = zs.length := by simp [pairsF]
theorem pairsF_at {f : Int → Option Value} {zs : List Int} (h : KeyL f zs) {k : Nat} (hk : k < zs.length) : ∃ x : PairF f, (pairsF h)[k]? = some x ∧ x.1.1 = zs[k] := by
 have hk' : k < (pairsF h).length := by rw [pairsF_len]; exact hk
 refine ⟨(pairsF h)[k], List.getElem?_eq_getElem hk', ?_⟩
 simp [pairsF]
theorem pairsF_keys {f : Int → Option Value} {zs : List Int} (h : KeyL f zs) : (pairsF h).map (·.1.1) = zs := by
 apply List.ext_getElem
 ·simp [pairsF_len]
 ·intro i h1 h2
  obtain ⟨x, e1, e2⟩ := pairsF_at h h2
  rw [List.getElem_map]
  have : (pairsF h)[i]'(by simpa using h1) = x := by
   have h3 : i < (pairsF h).length := by simpa using h1
   rw [List.getElem?_eq_getElem h3] at e1
   exact Option.some.inj e1
  rw [this, e2]
end
section
open Go.RowKit Go.Shelf
section
variable {P : Program} {ops : Array Oper} {Q : Exit → Act → World → Prop} {md : Region.Mode} {l n : Nat}
def plainOps (ops : Array Oper) : Bool := ops.all fun o => match o.op with | .defer _ => false | _ => true
theorem rowsIn_of {row : String} {args : Array Value} {w : World} {R : Value → World → Prop} (h : Go.Rows P row args w R) : RowsIn (Fence.wide.inRound l) n P row args w R := fun c cs _ => by
 obtain ⟨v, w', r, s⟩ := h c cs
 exact ⟨v, w', r, stepsIn_wide.2 s⟩
theorem wpOpIn_of {i : Nat} {o : Oper} {a : Act} {w : World} {K K' : Act → World → Prop} (hi : ops[i]? = some o) (hd : ∀ c, o.op ≠ .defer c) (hL : ¬ LetsOut Q) (hKK : ∀ a w, K a w → K' a w)
  (h : wpOp P ops Q i K a w) : wpOpIn (Fence.wide.inRound l) n P ops Q i K' a w := by
 unfold wpOp at h
 unfold wpOpIn
 rw [hi] at h ⊢
 dsimp only at h ⊢
 split
 ·rename_i hw
  rw [if_pos hw] at h
  rcases h with h | ⟨_, h⟩
  ·unfold Oper.wp at h
   unfold Oper.wpIn
   refine ⟨fun _ _ => trivial, ?_⟩
   rw [Oper.semAt_eq _ _ _ hd]
   generalize (execOp a.eval o).run P w = r at *
   cases r with
   | ok x w' =>
    cases x
    case value v => exact hKK _ _ h
    case skip => exact hKK _ _ h
    case defer d => exact hKK _ _ h
    case enter f args =>
     refine ⟨fun hd => (by cases hd), CallsIn.inRound l (callsIn_wide.2 ?_)⟩
     exact Calls.mono h (fun e w'' he => by cases e <;> first | exact hKK _ _ he | exact he)
    case row row args => exact ⟨fun hd => (by cases hd), rowsIn_of (Rows.mono h (fun _ _ he => hKK _ _ he))⟩
    all_goals exact (h : False).elim
   | halt x w' => cases x <;> first | exact h | exact (h : False).elim
  ·exact absurd h hL
 ·rename_i hw
  rw [if_neg hw] at h
  exact ⟨fun _ _ => trivial, hKK _ _ h⟩
theorem plainOps_at (h : plainOps ops = true) {i : Nat} {o : Oper} (hi : ops[i]? = some o) : ∀ c, o.op ≠ .defer c := fun c e => by
 have := Array.all_eq_true'.1 h o (Array.mem_of_getElem? hi)
 rw [e] at this
 cases this
theorem wpAnyIn_of (hd : plainOps ops = true) (hL : ¬ LetsOut Q) :
  ∀ (k : Nat) (listed : Array Bool) (a : Act) (w : World), wpAny P md ops Q k listed a w → wpAnyIn (Fence.wide.inRound l) n P md ops Q k listed a w
 | 0, _, _, _, h => h
 | k + 1, listed, a, w, h => ⟨h.1, fun i hi => by
   obtain ⟨-, o, ho, -⟩ := mem_ready.1 hi
   exact wpOpIn_of ho (plainOps_at hd ho) hL (fun a w h => wpAnyIn_of hd hL k _ a w h) (h.2 i hi)⟩
theorem wpIn_region_round {S : World → Prop} {id : Nat} {a : Act} {w : World} (z : Nat) (hm : P.follows .mixedOrders = true) (hd : plainOps ops = true) (hL : ¬ LetsOut Q)
  (h : wpAnyT P .any ops Q S z ops.size (Array.replicate ops.size false) a w.drew) : (Code.region id ops true).wpIn (Fence.wide.inRound l) n P Q a w :=
 wpIn_region_any hm (wpAnyIn_of hd hL _ _ _ _ (wpAny_of_T _ _ _ _ h))
end
end
end Go.Proofs.YtbanogfljpkbkaaGreatDoor
