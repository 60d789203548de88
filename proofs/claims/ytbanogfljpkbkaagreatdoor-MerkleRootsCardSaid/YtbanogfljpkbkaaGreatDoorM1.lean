/-
  Texts of this claim, one behind the other: MemA, MemB, MapZ.
-/
import Derived.WalkKit
import Derived.WalkSpells
import Derived.WalkLawsBesides
import Derived.Deep.QuietTactic
import Derived.BigQuiet
import Derived.OwnWalk
import Derived.Handy
import Derived.Lib.Hide
import Derived.Lib.ConvBytes
import Derived.Lib.SlBytesConst
import Derived.Laws.CopyRow
import Derived.Laws.BytesArg
import Derived.Deep.Draws
import Derived.Test.YtbanogfljpkbkaaGreatDoorProg
import Derived.Maps.Own
import Derived.Maps.OwnOps
import Derived.Maps.OwnSet
import Derived.Maps.RangeWalk
set_option linter.unusedSimpArgs false
set_option linter.unusedVariables false
set_option linter.unnecessarySimpa false
namespace Go.Proofs.YtbanogfljpkbkaaGreatDoor
section
open Go.RowKit
def bv (x : UInt8) : Value := .int .u8 (x.toNat : Int)
def bvs (l : List UInt8) : List Value := l.map bv
theorem bvs_length (l : List UInt8) : (bvs l).length = l.length := by simp [bvs]
theorem bvs_append (a b : List UInt8) : bvs (a ++ b) = bvs a ++ bvs b := by simp [bvs]
theorem bvs_take (l : List UInt8) (n : Nat) : bvs (l.take n) = (bvs l).take n := by simp [bvs, List.map_take]
theorem bvs_drop (l : List UInt8) (n : Nat) : bvs (l.drop n) = (bvs l).drop n := by simp [bvs, List.map_drop]
theorem bvs_one (l : List UInt8) : ∀ u ∈ bvs l, u.oneCell' = true := by
 intro u hu
 obtain ⟨x, _, rfl⟩ := List.mem_map.1 hu
 rfl
def Blk (w : World) (g : Nat) (t : TypeId) (cs : Array Value) : Prop := w.heap[g]? = some (.cells cs t (0, 0))
structure Fr (F : List Nat) (w w' : World) : Prop where
 os : w'.os = w.os
 tape : w'.tape = w.tape
 output : w'.output = w.output
 size : w.heap.size ≤ w'.heap.size
 same : ∀ k, k < w.heap.size → k ∉ F → w'.heap[k]? = w.heap[k]?
theorem Fr.refl (F : List Nat) (w : World) : Fr F w w := ⟨rfl, rfl, rfl, Nat.le_refl _, fun _ _ _ => rfl⟩
theorem Fr.trans {F G : List Nat} {a b c : World} (h : Fr F a b) (k : Fr G b c) (hG : ∀ i ∈ G, i ∈ F ∨ a.heap.size ≤ i) : Fr F a c :=
 ⟨k.os.trans h.os, k.tape.trans h.tape, k.output.trans h.output, Nat.le_trans h.size k.size, fun i hi hn =>
  (k.same i (Nat.lt_of_lt_of_le hi h.size) (fun hg => by rcases hG i hg with h1 | h1; exact hn h1; omega)).trans (h.same i hi hn)⟩
theorem Fr.mono {F G : List Nat} {a b : World} (h : Fr F a b) (hs : ∀ i ∈ F, i ∈ G) : Fr G a b :=
 ⟨h.os, h.tape, h.output, h.size, fun i hi hn => h.same i hi fun hf => hn (hs i hf)⟩
theorem Fr.nil {F : List Nat} {a b : World} (h : Fr [] a b) : Fr F a b := h.mono (fun _ hi => by cases hi)
theorem Fr.trans_nil {F : List Nat} {a b c : World} (h : Fr F a b) (k : Fr [] b c) : Fr F a c := h.trans k (fun _ hi => by cases hi)
theorem Fr.trans_same {F : List Nat} {a b c : World} (h : Fr F a b) (k : Fr F b c) : Fr F a c := h.trans k (fun _ hi => .inl hi)
theorem Fr.alloc {F : List Nat} {a w : World} (h : Fr F a w) (o : Obj) : Fr F a (w.alloc o) :=
 h.trans_nil ⟨rfl, rfl, rfl, by simp, fun k hk _ => Below.heap_alloc w o k hk⟩
theorem Fr.drew {F : List Nat} {a w : World} (h : Fr F a w) : Fr F a w.drew := ⟨h.os, h.tape, h.output, h.size, h.same⟩
theorem Fr.drewN {F : List Nat} {a w : World} (h : Fr F a w) (n : Nat) : Fr F a (w.drewN n) := ⟨h.os, h.tape, h.output, h.size, h.same⟩
theorem Fr.setCell {F : List Nat} {a w : World} (h : Fr F a w) {p : Addr} (hp : p.block ∈ F ∨ a.heap.size ≤ p.block) (u : Value) : Fr F a (w.setCell p u) :=
 h.trans (G := [p.block]) ⟨rfl, rfl, rfl, by simp [World.setCell], fun k _ hn => Below.heap_setCell _ _ _ _ (by simpa using hn)⟩ (by simpa using hp)
theorem Fr.setRow {F : List Nat} {a w : World} (h : Fr F a w) {g : Nat} (hp : g ∈ F ∨ a.heap.size ≤ g) (cs : Array Value) : Fr F a (w.setRow g cs) :=
 h.trans (G := [g]) ⟨rfl, rfl, rfl, by simp [World.setRow], fun k _ hn => setRow_other w g k cs (by simpa using hn)⟩ (by simpa using hp)
theorem Fr.below {F : List Nat} {a b : World} {B : Nat} (h : Fr F a b) (hF : ∀ i ∈ F, B ≤ i) (hB : B ≤ a.heap.size) : Below B a b :=
 ⟨h.os, h.tape, h.output, h.size, fun k hk => h.same k (by omega) fun hf => by have := hF k hf; omega⟩
theorem Fr.of_below {a b : World} (h : Below a.heap.size a b) : Fr [] a b := ⟨h.os, h.tape, h.output, h.size, fun k hk _ => h.block k hk⟩
theorem Fr.blk {F : List Nat} {a b : World} (h : Fr F a b) {k : Nat} (hF : k ∉ F) {o : Obj} (hk : a.heap[k]? = some o) : b.heap[k]? = some o :=
 (h.same k (Array.getElem?_eq_some_iff.1 hk).1 hF).trans hk
theorem Fr.cell {F : List Nat} {a b : World} (h : Fr F a b) {p : Addr} (hF : p.block ∉ F) {v : Value} (hc : a.cell? p = some v) : b.cell? p = some v :=
 (World.cell?_of_block (h.same p.block (World.block_lt_of_cell? a p hc) hF)).trans hc
section
variable {w w' : World} {g : Nat} {t : TypeId} {cs : Array Value}
theorem Blk.lt (h : Blk w g t cs) : g < w.heap.size := (Array.getElem?_eq_some_iff.1 h).1
theorem Blk.cell (h : Blk w g t cs) (i : Nat) : w.cell? ⟨g, i, none⟩ = cs[i]? := cell_of_row w g i cs t (0, 0) h
theorem Blk.frozen (h : Blk w g t cs) (i : Nat) : w.frozen? ⟨g, i, none⟩ = false := by
 unfold Blk at h
 simp [World.frozen?, h]
theorem Blk.new (w : World) (t : TypeId) (cs : Array Value) : Blk (w.alloc (.cells cs t)) w.heap.size t cs := heap_alloc_new w _
theorem Blk.keep (h : Blk w g t cs) {F : List Nat} (hf : Fr F w w') (hn : g ∉ F) : Blk w' g t cs := hf.blk hn h
theorem Blk.alloc (h : Blk w g t cs) (o : Obj) : Blk (w.alloc o) g t cs := h.keep ((Fr.refl [] w).alloc o) (by simp)
theorem Blk.set_ (h : Blk w g t cs) (i : Nat) (u : Value) : Blk (w.setCell ⟨g, i, none⟩ u) g t (cs.setIfInBounds i u) := by
 unfold Blk at h ⊢
 simp [World.setCell, Array.getElem?_modify, h]
theorem Blk.far (h : Blk w g t cs) {p : Addr} (hp : g ≠ p.block) (u : Value) : Blk (w.setCell p u) g t cs := (Below.heap_setCell w p u g hp).trans h
theorem Blk.ne_ {g' : Nat} {t' : TypeId} {cs' : Array Value} {fz : Nat × Nat} (h : Blk w g t cs) (h' : w.heap[g']? = some (.cells cs' t' fz)) (hne : t ≠ t') : g ≠ g' := by
 rintro rfl
 unfold Blk at h
 rw [h] at h'
 injection h' with h'
 injection h' with _ ht
 exact hne ht
end
def Rd (w : World) (A : Option Addr) (xs : List Value) : Prop :=
 xs ≠ [] → ∃ g o, A = some ⟨g, o, none⟩ ∧ ∀ j u, xs[j]? = some u → w.cell? ⟨g, o + j, none⟩ = some u
def Rd.blks (A : Option Addr) : List Nat := (A.map (·.block)).toList
section
variable {w w' : World} {A : Option Addr} {xs : List Value}
theorem Rd.nil (w : World) (A : Option Addr) : Rd w A [] := fun h => absurd rfl h
theorem Rd.keep (h : Rd w A xs) {F : List Nat} (hf : Fr F w w') (hn : ∀ g o, A = some ⟨g, o, none⟩ → g ∉ F) : Rd w' A xs := fun hx => by
 obtain ⟨g, o, e, hc⟩ := h hx
 exact ⟨g, o, e, fun j u hu => hf.cell (p := ⟨g, o + j, none⟩) (hn g o e) (hc j u hu)⟩
theorem Rd.below (h : Rd w A xs) {B : Nat} (hb : Below B w w') (hn : ∀ g o, A = some ⟨g, o, none⟩ → g < B) : Rd w' A xs := fun hx => by
 obtain ⟨g, o, e, hc⟩ := h hx
 exact ⟨g, o, e, fun j u hu => (hb.cell (p := ⟨g, o + j, none⟩) (hn g o e)).trans (hc j u hu)⟩
theorem Rd.keep_nil (h : Rd w A xs) (hf : Fr [] w w') : Rd w' A xs := h.keep hf (fun _ _ _ => by simp)
theorem Rd.alloc (h : Rd w A xs) (o : Obj) : Rd (w.alloc o) A xs := h.keep_nil ((Fr.refl [] w).alloc o)
theorem Rd.lt (h : Rd w A xs) (hx : xs ≠ []) : ∃ g o, A = some ⟨g, o, none⟩ ∧ g < w.heap.size := by
 obtain ⟨g, o, e, hc⟩ := h hx
 cases xs with
 | nil => exact absurd rfl hx
 | cons x r => exact ⟨g, o, e, World.block_lt_of_cell? w ⟨g, o + 0, none⟩ (hc 0 x rfl)⟩
theorem addr_add (g o j : Nat) : (⟨g, o, none⟩ : Addr).add j = ⟨g, o + j, none⟩ := by unfold Addr.add; split <;> simp_all
theorem add_block (a : Addr) (n : Nat) : (a.add n).block = a.block := by unfold Addr.add; split <;> rfl
theorem Rd.cells (h : Rd w A xs) (hx : xs ≠ []) : ∃ ad, A = some ad ∧ ∀ j u, xs[j]? = some u → w.cell? (ad.add j) = some u := by
 obtain ⟨g, o, e, hc⟩ := h hx
 exact ⟨_, e, fun j u hu => by rw [addr_add]; exact hc j u hu⟩
theorem Rd.drop (h : Rd w A xs) (k : Nat) : Rd w (A.map (·.add k)) (xs.drop k) := fun hx => by
 obtain ⟨g, o, rfl, hc⟩ := h (by rintro rfl; simp at hx)
 refine ⟨g, o + k, by simp [addr_add], fun j u hu => ?_⟩
 rw [Nat.add_assoc]
 exact hc _ u (by rw [← hu, List.getElem?_drop])
theorem Rd.take (h : Rd w A xs) (k : Nat) : Rd w A (xs.take k) := fun hx => by
 obtain ⟨g, o, rfl, hc⟩ := h (by rintro rfl; simp at hx)
 refine ⟨g, o, rfl, fun j u hu => ?_⟩
 rw [List.getElem?_take] at hu
 split at hu
 ·exact hc _ u hu
 ·cases hu
theorem Rd.cut (h : Rd w A xs) (k cap : Nat) (hc : xs.length ≤ cap) : Rd w (if cap = k then A else A.map (·.add k)) (xs.drop k) := by
 split
 ·rw [List.drop_eq_nil_of_le (by omega)]; exact Rd.nil _ _
 ·exact h.drop k
theorem Rd.one (w : World) (x : Value) (t : TypeId) : Rd (w.alloc (.cells #[x] t)) (some ⟨w.heap.size, 0, none⟩) [x] := fun _ =>
 ⟨w.heap.size, 0, rfl, fun j u hu => by
  rw [Blk.cell (Blk.new w t #[x])]
  match j, hu with
  | 0, hu => simpa using hu⟩
theorem Rd.of_blk {g : Nat} {t : TypeId} {cs : Array Value} (h : Blk w g t cs) (o : Nat) (xs : List Value) (hx : ∀ j u, xs[j]? = some u → cs[o + j]? = some u) : Rd w (some ⟨g, o, none⟩) xs :=
 fun _ => ⟨g, o, rfl, fun j u hu => by rw [h.cell]; exact hx j u hu⟩
end
def Free (n : Nat) (fz : Nat × Nat) : Prop := ∀ j, j < n → ¬ (fz.1 ≤ j ∧ j < fz.2)
def Row (w : World) (base : Nat) (e : TypeId) (size : Nat) (v : Value) (n : Nat) (xs : List Value) : Prop :=
 xs.length = n * size ∧
 ((v = .slice none 0 0 ∧ n = 0) ∨
  ∃ g cap cur fz, v = .slice (some ⟨g, 0, none⟩) n cap ∧ base ≤ g ∧ w.heap[g]? = some (.cells cur e fz) ∧ Free cur.size fz ∧ n ≤ cap ∧ cap ≤ maxLen ∧ cur.size = cap * size ∧ cur.toList.take (n * size) = xs)
section
variable {w w' : World} {base : Nat} {e : TypeId} {size : Nat} {v : Value} {n : Nat} {xs : List Value}
theorem Row.of_own (h : w.ownsRow base e size v n xs) : Row w base e size v n xs := by
 refine ⟨h.1, ?_⟩
 rcases h.2 with h2 | ⟨g, cap, cur, h1, h2, h3, h4, h5, h6, h7⟩
 ·exact .inl h2
 ·exact .inr ⟨g, cap, cur, (0, 0), h1, h2, h3, fun j _ hj => by have := hj.2; dsimp only at this; omega, h4, h5, h6, h7⟩
theorem Row.nil (w : World) (base : Nat) (e : TypeId) (size : Nat) : Row w base e size (.slice none 0 0) 0 [] := ⟨by simp, .inl ⟨rfl, rfl⟩⟩
theorem Row.len (h : Row w base e size v n xs) : xs.length = n * size := h.1
theorem Row.shape (h : Row w base e size v n xs) : ∃ A cap, v = .slice A n cap ∧ n ≤ cap ∧ cap ≤ maxLen ∧ Rd w A xs ∧ (∀ a, A = some a → base ≤ a.block ∧ a.block < w.heap.size) ∧ v.ownBlock = A.map (·.block) := by
 rcases h.2 with ⟨rfl, rfl⟩ | ⟨g, cap, cur, fz, rfl, hb, hg, _, hnc, hcm, hs, htake⟩
 ·have hx : xs = [] := List.eq_nil_of_length_eq_zero (by simpa using h.1)
  subst hx
  exact ⟨none, 0, rfl, Nat.le_refl _, by unfold maxLen; omega, Rd.nil _ _, fun a ha => (by cases ha), rfl⟩
 ·refine ⟨some ⟨g, 0, none⟩, cap, rfl, hnc, hcm, fun _ => ⟨g, 0, rfl, fun j u hu => ?_⟩, fun a ha => ?_, rfl⟩
  ·rw [cell_of_row w g (0 + j) cur e fz hg, Nat.zero_add]
   rw [← htake, List.getElem?_take] at hu
   split at hu
   ·simpa using hu
   ·cases hu
  ·cases ha
   exact ⟨hb, (Array.getElem?_eq_some_iff.1 hg).1⟩
theorem Row.keep (h : Row w base e size v n xs) {F : List Nat} (hf : Fr F w w') (hn : ∀ g, v.ownBlock = some g → g ∉ F) : Row w' base e size v n xs := by
 refine ⟨h.1, ?_⟩
 rcases h.2 with h2 | ⟨g, cap, cur, fz, rfl, hb, hg, r⟩
 ·exact .inl h2
 ·exact .inr ⟨g, cap, cur, fz, rfl, hb, hf.blk (hn g rfl) hg, r⟩
theorem Row.keep_nil (h : Row w base e size v n xs) (hf : Fr [] w w') : Row w' base e size v n xs := h.keep hf (fun _ _ => by simp)
theorem Row.alloc (h : Row w base e size v n xs) (o : Obj) : Row (w.alloc o) base e size v n xs := h.keep_nil ((Fr.refl [] w).alloc o)
theorem Row.mono (h : Row w base e size v n xs) {B : Nat} (hB : B ≤ base) : Row w B e size v n xs := by
 refine ⟨h.1, ?_⟩
 rcases h.2 with h2 | ⟨g, cap, cur, fz, h1, h2, r⟩
 ·exact .inl h2
 ·exact .inr ⟨g, cap, cur, fz, h1, by omega, r⟩
theorem Row.lt (h : Row w base e size v n xs) : ∀ g, v.ownBlock = some g → base ≤ g ∧ g < w.heap.size := by
 intro g hg
 rcases h.2 with ⟨rfl, _⟩ | ⟨g', cap, cur, fz, rfl, hb, hgg, _⟩
 ·cases hg
 ·simp [Value.ownBlock] at hg
  subst hg
  exact ⟨hb, (Array.getElem?_eq_some_iff.1 hgg).1⟩
theorem Row.ne_blk (h : Row w base e size v n xs) {g : Nat} {t : TypeId} {cs : Array Value} (hg : Blk w g t cs) (hne : t ≠ e) : v.ownBlock ≠ some g := by
 rcases h.2 with ⟨rfl, _⟩ | ⟨g', cap, cur, fz, rfl, hb, hgg, _⟩
 ·simp [Value.ownBlock]
 ·intro he
  have : g' = g := by simpa [Value.ownBlock] using he
  subst this
  exact Blk.ne_ hg hgg hne rfl
theorem Row.new (w : World) (cur : Array Value) (e : TypeId) (size n : Nat) (fz : Nat × Nat) (hfz : Free cur.size fz) (hm : n ≤ maxLen) (hs : cur.size = n * size) {base : Nat} (hb : base ≤ w.heap.size) :
  Row (w.alloc (.cells cur e fz)) base e size (.slice (some ⟨w.heap.size, 0, none⟩) n n) n cur.toList :=
 ⟨by simpa using hs, .inr ⟨w.heap.size, n, cur, fz, rfl, hb, heap_alloc_new w _, hfz, Nat.le_refl _, hm, hs, by rw [← hs, ← Array.length_toList, List.take_length]⟩⟩
end
theorem free_zero (n : Nat) : Free n (0, 0) := fun _ _ h => by have := h.2; dsimp only at this; omega
theorem free_end (n k : Nat) : Free n (n, k) := fun j hj h => by have := h.1; dsimp only at this; omega
theorem own_mem {i g o n c : Nat} : i ∈ (Value.ownBlock (.slice (some ⟨g, o, none⟩) n c)).toList ↔ i = g := by
 show i ∈ (some g).toList ↔ _
 simp [Option.toList]
theorem own_nil {i n c : Nat} : i ∈ (Value.ownBlock (.slice none n c)).toList ↔ False := by
 show i ∈ (none : Option Nat).toList ↔ _
 simp [Option.toList]
theorem mem_own {i : Nat} {v : Value} : i ∈ v.ownBlock.toList ↔ v.ownBlock = some i := by
 cases v.ownBlock <;> simp [Option.toList, eq_comm]
structure SlT (P : Program) (t e : TypeId) (size bytes : Nat) (z : Value) : Prop where
 und : P.underlying t = some (.slice e)
 info : (P.info? e).map (fun i => (i.zero, i.size, i.bytes)) = some (some z, size, bytes)
 zs : z.cells.size = size
 pos : 0 < size
 bpos : 0 < bytes
section
variable {P : Program}
theorem run_storeCells_free (g o : Nat) (t : TypeId) (fz : Nat × Nat) : ∀ (vs : List Value) (i : Nat) (cur : Array Value) (w : World), w.heap[g]? = some (.cells cur t fz) → Free cur.size fz → o + i + vs.length ≤ cur.size → (∀ v ∈ vs, v.oneCell' = true) →
  (storeCells ⟨g, o, none⟩ vs i).run P w = .ok () (w.setRow g (cur.toList.take (o + i) ++ vs ++ cur.toList.drop (o + i + vs.length)).toArray)
 | [], i, cur, w, hg, _, _, _ => by
  simp only [storeCells, List.append_nil, List.length_nil, Nat.add_zero, List.take_append_drop, Array.toArray_toList]
  rw [setRow_self w g cur t fz hg]
  rfl
 | v :: rest, i, cur, w, hg, hfz, hl, h1 => by
  have hi : o + i < cur.size := by simp at hl; omega
  have hcell : w.cell? ⟨g, o + i, none⟩ = some cur[o + i] := by simp [World.cell?, hg, hi]
  have hfro : w.frozen? ⟨g, o + i, none⟩ = false := by
   have h := hfz (o + i) hi
   obtain ⟨lo, hi'⟩ := fz
   simp only [World.frozen?, hg, Bool.and_eq_false_iff, decide_eq_false_iff_not]
   simp only at h
   omega
  have hst : (store ((⟨g, o, none⟩ : Addr).add i) v).run P w = .ok () (w.setRow g (cur.setIfInBounds (o + i) v)) := by
   rw [addr_add, run_store P w _ v _ (h1 v (by simp)), hcell]
   simp [hfro, setCell_eq_setRow w g (o + i) cur t fz v hg]
  have ih := run_storeCells_free g o t fz rest (i + 1) (cur.setIfInBounds (o + i) v) (w.setRow g (cur.setIfInBounds (o + i) v)) (setRow_heap w g cur _ t _ hg) (by simpa using hfz) (by simp at hl ⊢; omega) (fun x hx => h1 x (by simp [hx]))
  simp only [storeCells, Sem.run_bind, hst, Result.andThen_ok, ih, setRow_setRow]
  congr 3
  have e := list_seg_step cur.toList (o + i) v rest (by simp at hl ⊢; omega)
  simpa [Array.toList_setIfInBounds, Nat.add_assoc] using e
theorem run_app {t e : TypeId} {size bytes : Nat} {z : Value} (hT : SlT P t e size bytes z) (w : World) (ty : TypeId) (base : Nat) (v : Value) (n : Nat) (xs : List Value) (hown : Row w base e size v n xs)
  (A : Option Addr) (m c : Nat) (ys : List Value) (hl : ys.length = m * size) (hr : Rd w A ys) (h1 : ∀ u ∈ ys, u.oneCell' = true) (hA : A = none → m = 0)
  (hbytes : (n + m) * bytes ≤ 140737488355328) (hbase : base ≤ w.heap.size) :
  ∃ v' w', (Builtin.append_ #[t, t] ty #[v, .slice A m c]).run P w = .ok v' w' ∧ Row w' base e size v' (n + m) (xs ++ ys) ∧ Fr v.ownBlock.toList w w' ∧
   (∀ g, v'.ownBlock = some g → v.ownBlock = some g ∨ g = w.heap.size) ∧ (v' = .slice none 0 0 → v = .slice none 0 0 ∧ m = 0) := by
 obtain ⟨i, hi, hz, hsz, hby⟩ := info_parts hT.info
 have hzs := hT.zs
 have ht := hT.und
 have h63 : n + m ≤ maxLen := by
  have : n + m ≤ (n + m) * bytes := Nat.le_mul_of_pos_right _ hT.bpos
  unfold maxLen; omega
 have hlen : (xs ++ ys).length = (n + m) * size := by rw [List.length_append, hown.1, hl, Nat.add_mul]
 rcases Nat.eq_zero_or_pos m with rfl | hm
 ·have hy : ys = [] := List.eq_nil_of_length_eq_zero (by simpa using hl)
  subst hy
  refine ⟨v, w, ?_, by simpa using hown, Fr.refl _ _, fun g hg => .inl hg, fun h => ⟨h, rfl⟩⟩
  rcases hown.2 with ⟨rfl, rfl⟩ | ⟨g, cap, cur, fz, rfl, _, _, _, hnc, _⟩
  ·cases A with
   | none => simp [Builtin.append_, run_underlying ht, sizeOf, typeInfo, hi, Builtin.lenOf, Builtin.firstCells]
   | some ad =>
    have hf := run_firstCells_some (P := P) w i.size 0 ad 0 c [] (by simp) (by simp)
    simp [Builtin.append_, run_underlying ht, sizeOf, typeInfo, hi, Builtin.lenOf, hf]
  ·cases A with
   | none => simp [Builtin.append_, run_underlying ht, sizeOf, typeInfo, hi, Builtin.lenOf, Builtin.firstCells, hnc, storeCells]
   | some ad =>
    have hf := run_firstCells_some (P := P) w i.size 0 ad 0 c [] (by simp) (by simp)
    simp [Builtin.append_, run_underlying ht, sizeOf, typeInfo, hi, Builtin.lenOf, hf, hnc, storeCells]
 ·have hy : ys ≠ [] := by
   rintro rfl
   have := hT.pos
   have h0 : m * size = 0 := by simpa using hl.symm
   rcases Nat.mul_eq_zero.1 h0 with h | h <;> omega
  obtain ⟨ad, rfl, hnews⟩ := hr.cells hy
  subst hsz
  subst hby
  rcases hown.2 with ⟨rfl, rfl⟩ | ⟨g, cap, cur, fz, rfl, hbg, hg, hfz, hnc, hcm, hcs, htake⟩
  ·have hx : xs = [] := List.eq_nil_of_length_eq_zero (by simpa using hown.1)
   subst hx
   have hrun := run_append_nil (P := P) w t ty e i z ht hi hz ad m c ys hl hnews hm (by unfold maxLen at h63; omega) (by rw [Nat.zero_add] at hbytes; omega)
   have hge := grownCap_ge w m 0 e
   have hcm2 : grownCap w m 0 e ≤ maxLen := grownCap_le_maxLen w m 0 e (by omega)
   refine ⟨_, _, hrun, ⟨by simpa using hlen, .inr ⟨w.heap.size, _, _, (0, 0), by simp, hbase, heap_alloc_new w.drew _, free_zero _, by omega, hcm2, ?_, ?_⟩⟩, ((Fr.refl _ w).drew).alloc _, fun g hg => .inr (by simpa [Value.ownBlock] using hg.symm), fun h => by simp at h⟩
   ·simp only [Array.size_append, List.size_toArray, size_zeroCells, hzs, hl, ← Nat.add_mul]
    congr 1
    omega
   ·simp only [Array.toList_append, Nat.zero_add, List.nil_append]
    rw [← hl]
    exact List.take_left
  ·by_cases hroom : n + m ≤ cap
   ·have hfit : n * i.size + ys.length ≤ cur.size := by rw [hl, hcs, ← Nat.add_mul]; exact Nat.mul_le_mul_right _ hroom
    have hf := run_firstCells_some (P := P) w i.size m ad m c ys hl hnews
    have hst := run_storeCells_free (P := P) g (n * i.size) e fz ys 0 cur w hg hfz (by simpa using hfit) h1
    simp only [Nat.add_zero] at hst
    have hrun : (Builtin.append_ #[t, t] ty #[.slice (some ⟨g, 0, none⟩) n cap, .slice (some ad) m c]).run P w =
      .ok (.slice (some ⟨g, 0, none⟩) (n + m) cap) (w.setRow g (cur.toList.take (n * i.size) ++ ys ++ cur.toList.drop (n * i.size + ys.length)).toArray) := by
     simp [Builtin.append_, run_underlying ht, sizeOf, typeInfo, hi, Builtin.lenOf, hroom, hf, addr_add, hst]
    refine ⟨_, _, hrun, ⟨hlen, .inr ⟨g, cap, _, fz, rfl, hbg, setRow_heap w g cur _ e _ hg, ?_, hroom, hcm, ?_, ?_⟩⟩, (Fr.refl _ w).setRow (.inl (by simp [Value.ownBlock])) _, fun g' hg' => .inl hg', fun h => by simp at h⟩
    ·have e1 : (cur.toList.take (n * i.size) ++ ys ++ cur.toList.drop (n * i.size + ys.length)).toArray.size = cur.size := by
      simp only [List.size_toArray, List.length_append, List.length_take, List.length_drop, Array.length_toList]
      omega
     rw [e1]; exact hfz
    ·simp only [List.size_toArray, List.length_append, List.length_take, List.length_drop, Array.length_toList]
     omega
    ·rw [htake, ← hlen]
     exact List.take_left
   ·have holds : ∀ j u, xs[j]? = some u → w.cell? ((⟨g, 0, none⟩ : Addr).add j) = some u := fun j u hu => by
     rw [addr_add, cell_of_row w g (0 + j) cur e fz hg, Nat.zero_add]
     rw [← htake, List.getElem?_take] at hu
     split at hu
     ·simpa using hu
     ·cases hu
    have hrun := run_append_grow (P := P) w t ty e i z ht hi hz ⟨g, 0, none⟩ n cap xs hown.1 holds ad m c ys hl hnews (by omega) (by unfold maxLen at h63; omega) (growslice_fits (by omega) hbytes)
    have hge := grownCap_ge w (n + m) cap e
    have hcm2 : grownCap w (n + m) cap e ≤ maxLen := grownCap_le_maxLen w (n + m) cap e h63
    refine ⟨_, _, hrun, ⟨hlen, .inr ⟨w.heap.size, _, _, (0, 0), rfl, hbase, heap_alloc_new w.drew _, free_zero _, hge, hcm2, ?_, ?_⟩⟩, ((Fr.refl _ w).drew).alloc _, fun g hg => .inr (by simpa [Value.ownBlock] using hg.symm), fun h => by simp at h⟩
    ·simp only [Array.size_append, List.size_toArray, size_zeroCells, hzs, hown.1, hl, ← Nat.add_mul]
     congr 1
     omega
    ·simp only [Array.toList_append, List.append_assoc]
     rw [← List.append_assoc, ← hlen]
     exact List.take_left
theorem wp_app {o : Oper} {a : Act} {w : World} {K : Act → World → Prop} {Q : Exit → Act → World → Prop} {s x : Operand} {t e : TypeId} {size bytes : Nat} {z : Value}
  (ho : o.op = .call { callee := .builtin .append, args := #[s, x], argTypes := #[t, t] }) (hT : SlT P t e size bytes z) (base : Nat) (v : Value) (n : Nat) (xs : List Value) (hs : a.eval s = v) (hown : Row w base e size v n xs)
  (A : Option Addr) (m c : Nat) (ys : List Value) (hx : a.eval x = .slice A m c) (hl : ys.length = m * size) (hr : Rd w A ys) (h1 : ∀ u ∈ ys, u.oneCell' = true) (hA : A = none → m = 0)
  (hbytes : (n + m) * bytes ≤ 140737488355328) (hbase : base ≤ w.heap.size)
  (h : ∀ v' w', Row w' base e size v' (n + m) (xs ++ ys) → Fr v.ownBlock.toList w w' → (∀ g, v'.ownBlock = some g → v.ownBlock = some g ∨ g = w.heap.size) → (v' = .slice none 0 0 → v = .slice none 0 0 ∧ m = 0) → K (a.put o.dst v') w') :
  o.wp P a w K Q := by
 obtain ⟨v', w', hrun, h2, h3, h4, h5⟩ := run_app hT w o.type base v n xs hown A m c ys hl hr h1 hA hbytes hbase
 unfold Oper.wp execOp
 simp only [ho, resolve, invoke, builtin, Sem.run_bind, Sem.run_pure, Result.andThen_ok, List.map_toArray, List.map_cons, List.map_nil, hs, hx, hrun]
 exact h v' w' h2 h3 h4 h5
theorem wpList_app {ops : Array Oper} {rest : List Oper} {o : Oper} {a : Act} {w : World} {Q : Exit → Act → World → Prop} {s x : Operand} {t e : TypeId} {size bytes : Nat} {z : Value}
  (hgd : o.guard = none) (ho : o.op = .call { callee := .builtin .append, args := #[s, x], argTypes := #[t, t] }) (hT : SlT P t e size bytes z) (base : Nat) (v : Value) (n : Nat) (xs : List Value) (hs : a.eval s = v) (hown : Row w base e size v n xs)
  (A : Option Addr) (m c : Nat) (ys : List Value) (hx : a.eval x = .slice A m c) (hl : ys.length = m * size) (hr : Rd w A ys) (h1 : ∀ u ∈ ys, u.oneCell' = true) (hA : A = none → m = 0)
  (hbytes : (n + m) * bytes ≤ 140737488355328) (hbase : base ≤ w.heap.size)
  (h : ∀ v' w', Row w' base e size v' (n + m) (xs ++ ys) → Fr v.ownBlock.toList w w' → (∀ g, v'.ownBlock = some g → v.ownBlock = some g ∨ g = w.heap.size) → (v' = .slice none 0 0 → v = .slice none 0 0 ∧ m = 0) → wpList P ops Q rest (a.put o.dst v') w') :
  wpList P ops Q (o :: rest) a w :=
 wpList_plain hgd fun _ hK => wp_app ho hT base v n xs hs hown A m c ys hx hl hr h1 hA hbytes hbase fun v' w' h2 h3 h4 h5 => hK _ _ (h v' w' h2 h3 h4 h5)
theorem step_app {ops : Array Oper} {o : Oper} {a : Act} {w : World} {K : Act → World → Prop} {Q : Exit → Act → World → Prop} {E : Prop} {s x : Operand} {t e : TypeId} {size bytes : Nat} {z : Value}
  (hgd : o.guard = none) (ho : o.op = .call { callee := .builtin .append, args := #[s, x], argTypes := #[t, t] }) (hT : SlT P t e size bytes z) (base : Nat) (v : Value) (n : Nat) (xs : List Value) (hs : a.eval s = v) (hown : Row w base e size v n xs)
  (A : Option Addr) (m c : Nat) (ys : List Value) (hx : a.eval x = .slice A m c) (hl : ys.length = m * size) (hr : Rd w A ys) (h1 : ∀ u ∈ ys, u.oneCell' = true) (hA : A = none → m = 0)
  (hbytes : (n + m) * bytes ≤ 140737488355328) (hbase : base ≤ w.heap.size)
  (h : ∀ v' w', Row w' base e size v' (n + m) (xs ++ ys) → Fr v.ownBlock.toList w w' → (∀ g, v'.ownBlock = some g → v.ownBlock = some g ∨ g = w.heap.size) → (v' = .slice none 0 0 → v = .slice none 0 0 ∧ m = 0) → K (a.put o.dst v') w') :
  if Region.wanted o (yielded ops a.tmps) = true then o.wp P a w K Q else E := by
 have hw : Region.wanted o (yielded ops a.tmps) = true := by simp [Region.wanted, hgd]
 rw [if_pos hw]
 exact wp_app ho hT base v n xs hs hown A m c ys hx hl hr h1 hA hbytes hbase h
end
end
section
open Go.RowKit
section
variable {P : Program}
theorem toList_zeroCells_one (z : Value) (n : Nat) : (Builtin.zeroCells #[z] n).toList = List.replicate n z := by
 apply List.ext_getElem?
 intro j
 by_cases hj : j < n
 ·simp [Builtin.zeroCells, hj, Nat.mod_one]
 ·simp [Builtin.zeroCells, hj]
theorem run_appz {t ti e : TypeId} {bytes : Nat} {z : Value} (hT : SlT P t e 1 bytes z) (hz1 : z.cells = #[z]) (hzo : z.oneCell' = true) {ki : IntKind} (hti : P.underlying ti = some (.int ki)) (w : World) (ty : TypeId) (base : Nat) (v : Value) (n : Nat) (xs : List Value) (hown : Row w base e 1 v n xs)
  (k : IntKind) (m : Nat) (hbytes : (n + m) * bytes ≤ 140737488355328) (hbase : base ≤ w.heap.size) :
  ∃ v' w', (Builtin.append_ #[t, ti] ty #[v, .int k (m : Int)]).run P w = .ok v' w' ∧ Row w' base e 1 v' (n + m) (xs ++ List.replicate m z) ∧ Fr v.ownBlock.toList w w' ∧
   (∀ g, v'.ownBlock = some g → v.ownBlock = some g ∨ g = w.heap.size) := by
 obtain ⟨i, hi, hz, hsz, hby⟩ := info_parts hT.info
 have ht := hT.und
 have hle : n + m ≤ 140737488355328 := Nat.le_trans (Nat.le_mul_of_pos_right _ hT.bpos) hbytes
 have hw : IntKind.i64.wrap (m : Int) = m := by rw [IntKind.wrap_i64]; omega
 have hneg : ¬ ((m : Int) < 0) := by omega
 subst hby
 have hmb : m * i.bytes ≤ 140737488355328 := Nat.le_trans (Nat.mul_le_mul_right _ (Nat.le_add_left m n)) hbytes
 have hbig : ¬ (281474976710656 < (m : Int) * (i.bytes : Int)) := by
  rw [← Int.natCast_mul]
  omega
 have hx1 : xs.length = n := by simpa using hown.1
 have hlen : (xs ++ List.replicate m z).length = (n + m) * 1 := by rw [List.length_append, hx1, List.length_replicate]; omega
 have h63 : n + m ≤ maxLen := by unfold maxLen; omega
 have hone : ∀ u ∈ List.replicate m z, u.oneCell' = true := fun u hu => by rw [(List.mem_replicate.1 hu).2]; exact hzo
 rcases Nat.eq_zero_or_pos m with rfl | hm
 ·have hw0 : IntKind.i64.wrap 0 = 0 := by rw [IntKind.wrap_i64]; rfl
  refine ⟨v, w, ?_, by simpa using hown, Fr.refl _ _, fun g hg => .inl hg⟩
  rcases hown.2 with ⟨rfl, rfl⟩ | ⟨g, cap, cur, fz, rfl, _, _, _, hnc, _⟩
  ·simp [Builtin.append_, run_underlying ht, run_underlying hti, sizeOf, typeInfo, hi, hz, asInt, asIntOf, hw0, Builtin.firstCells]
  ·simp [Builtin.append_, run_underlying ht, run_underlying hti, sizeOf, typeInfo, hi, hz, asInt, asIntOf, hw0, hnc, Builtin.firstCells, storeCells]
 ·have hm0 : ¬ (m = 0) := by omega
  have hzc : Builtin.zeroCells z.cells m = (List.replicate m z).toArray := by
   apply Array.ext'
   rw [hz1, toList_zeroCells_one]
  rcases hown.2 with ⟨rfl, rfl⟩ | ⟨g, cap, cur, fz, rfl, hbg, hg, hfz, hnc, hcm, hcs, htake⟩
  ·have hx : xs = [] := List.eq_nil_of_length_eq_zero (by simpa using hown.1)
   subst hx
   have hge := grownCap_ge w m 0 e
   have hcm2 : grownCap w m 0 e ≤ maxLen := grownCap_le_maxLen w m 0 e (by omega)
   have h63' : ¬ (9223372036854775807 < (m : Int)) := by omega
   have h48' : ¬ (281474976710656 < Builtin.nextslicecap m 0 * i.bytes) := by rw [nextslicecap_zero hm]; omega
   have hrun : (Builtin.append_ #[t, ti] ty #[.slice none 0 0, .int k (m : Int)]).run P w =
     .ok (.slice (some ⟨w.heap.size, 0, none⟩) m (grownCap w m 0 e)) (w.drew.alloc (.cells (Builtin.zeroCells z.cells m ++ Builtin.zeroCells z.cells (grownCap w m 0 e - m)) e)) := by
    simp [Builtin.append_, run_underlying ht, run_underlying hti, sizeOf, typeInfo, zeroValue, hi, hz, hsz, asInt, asIntOf, hw, hm0, hneg, h63', h48', hbig, Question.forced, run_firstCells_none, newRow, grownCap]
   refine ⟨_, _, hrun, ⟨by simp, .inr ⟨w.heap.size, _, _, (0, 0), by simp, hbase, heap_alloc_new w.drew _, free_zero _, by omega, hcm2, ?_, ?_⟩⟩, ((Fr.refl _ w).drew).alloc _, fun g hg => .inr (by simpa [Value.ownBlock] using hg.symm)⟩
   ·simp only [Array.size_append, size_zeroCells, hz1, List.size_toArray, List.length_cons, List.length_nil]
    omega
   ·simp only [Array.toList_append, hz1, toList_zeroCells_one, Nat.zero_add, List.nil_append, Nat.mul_one]
    exact List.take_left' (by simp)
  ·by_cases hroom : n + m ≤ cap
   ·have hfit : n + (List.replicate m z).length ≤ cur.size := by rw [List.length_replicate, hcs]; omega
    have hst := run_storeCells_free (P := P) g n e fz (List.replicate m z) 0 cur w hg hfz (by rw [Nat.add_zero]; exact hfit) hone
    simp only [Nat.add_zero] at hst
    have hrun : (Builtin.append_ #[t, ti] ty #[.slice (some ⟨g, 0, none⟩) n cap, .int k (m : Int)]).run P w =
      .ok (.slice (some ⟨g, 0, none⟩) (n + m) cap) (w.setRow g (cur.toList.take n ++ List.replicate m z ++ cur.toList.drop (n + (List.replicate m z).length)).toArray) := by
     simp [Builtin.append_, run_underlying ht, run_underlying hti, sizeOf, typeInfo, zeroValue, hi, hz, hsz, asInt, asIntOf, hw, hm0, hneg, hbig, hroom, hzc, addr_add, hst]
    refine ⟨_, _, hrun, ⟨hlen, .inr ⟨g, cap, _, fz, rfl, hbg, setRow_heap w g cur _ e _ hg, ?_, hroom, hcm, ?_, ?_⟩⟩, (Fr.refl _ w).setRow (.inl (by simp [Value.ownBlock])) _, fun g' hg' => .inl hg'⟩
    ·have e1 : (cur.toList.take n ++ List.replicate m z ++ cur.toList.drop (n + (List.replicate m z).length)).toArray.size = cur.size := by
      simp only [List.size_toArray, List.length_append, List.length_take, List.length_drop, Array.length_toList]
      omega
     rw [e1]; exact hfz
    ·simp only [List.size_toArray, List.length_append, List.length_take, List.length_drop, Array.length_toList]
     omega
    ·rw [Nat.mul_one] at htake
     rw [htake, ← hlen]
     exact List.take_left
   ·have holds : ∀ j u, xs[j]? = some u → w.drew.cell? ((⟨g, 0, none⟩ : Addr).add j) = some u := fun j u hu => by
     rw [addr_add]
     show w.cell? _ = _
     rw [cell_of_row w g (0 + j) cur e fz hg, Nat.zero_add]
     rw [← htake, List.getElem?_take] at hu
     split at hu
     ·simpa using hu
     ·cases hu
    have hfo := run_firstCells_some (P := P) w.drew 1 n ⟨g, 0, none⟩ n cap xs hown.1 holds
    have hge := grownCap_ge w (n + m) cap e
    have hcm2 : grownCap w (n + m) cap e ≤ maxLen := grownCap_le_maxLen w (n + m) cap e h63
    have h63' : ¬ (9223372036854775807 < ((n : Int) + (m : Int))) := by omega
    have h48' : ¬ (281474976710656 < Builtin.nextslicecap (n + m) cap * i.bytes) := by have := growslice_fits (bytes := i.bytes) (show cap < n + m by omega) hbytes; omega
    have hrun : (Builtin.append_ #[t, ti] ty #[.slice (some ⟨g, 0, none⟩) n cap, .int k (m : Int)]).run P w =
      .ok (.slice (some ⟨w.heap.size, 0, none⟩) (n + m) (grownCap w (n + m) cap e)) (w.drew.alloc (.cells (xs.toArray ++ (Builtin.zeroCells z.cells m ++ Builtin.zeroCells z.cells (grownCap w (n + m) cap e - (n + m)))) e)) := by
     simp [Builtin.append_, run_underlying ht, run_underlying hti, sizeOf, typeInfo, zeroValue, hi, hz, hsz, asInt, asIntOf, hw, hm0, hneg, hbig, hroom, h63', h48', Question.forced, hfo, newRow, grownCap]
    refine ⟨_, _, hrun, ⟨hlen, .inr ⟨w.heap.size, _, _, (0, 0), rfl, hbase, heap_alloc_new w.drew _, free_zero _, hge, hcm2, ?_, ?_⟩⟩, ((Fr.refl _ w).drew).alloc _, fun g hg => .inr (by simpa [Value.ownBlock] using hg.symm)⟩
    ·simp only [Array.size_append, List.size_toArray, size_zeroCells, hz1, hx1, List.length_cons, List.length_nil]
     omega
    ·simp only [Array.toList_append, hz1, toList_zeroCells_one, ← List.append_assoc]
     rw [← hlen]
     exact List.take_left
theorem wp_appz {o : Oper} {a : Act} {w : World} {K : Act → World → Prop} {Q : Exit → Act → World → Prop} {s x : Operand} {t ti e : TypeId} {bytes : Nat} {z : Value}
  (ho : o.op = .call { callee := .builtin .append, args := #[s, x], argTypes := #[t, ti] }) (hT : SlT P t e 1 bytes z) (hz1 : z.cells = #[z]) (hzo : z.oneCell' = true) {ki : IntKind} (hti : P.underlying ti = some (.int ki)) (base : Nat) (v : Value) (n : Nat) (xs : List Value) (hs : a.eval s = v) (hown : Row w base e 1 v n xs)
  (k : IntKind) (m : Nat) (M : Int) (hx : a.eval x = .int k M) (hM : M = m) (hbytes : (n + m) * bytes ≤ 140737488355328) (hbase : base ≤ w.heap.size)
  (h : ∀ v' w', Row w' base e 1 v' (n + m) (xs ++ List.replicate m z) → Fr v.ownBlock.toList w w' → (∀ g, v'.ownBlock = some g → v.ownBlock = some g ∨ g = w.heap.size) → K (a.put o.dst v') w') :
  o.wp P a w K Q := by
 subst hM
 obtain ⟨v', w', hrun, h2, h3, h4⟩ := run_appz hT hz1 hzo hti w o.type base v n xs hown k m hbytes hbase
 unfold Oper.wp execOp
 simp only [ho, resolve, invoke, builtin, Sem.run_bind, Sem.run_pure, Result.andThen_ok, List.map_toArray, List.map_cons, List.map_nil, hs, hx, hrun]
 exact h v' w' h2 h3 h4
theorem wpList_appz {ops : Array Oper} {rest : List Oper} {o : Oper} {a : Act} {w : World} {Q : Exit → Act → World → Prop} {s x : Operand} {t ti e : TypeId} {bytes : Nat} {z : Value}
  (hgd : o.guard = none) (ho : o.op = .call { callee := .builtin .append, args := #[s, x], argTypes := #[t, ti] }) (hT : SlT P t e 1 bytes z) (hz1 : z.cells = #[z]) (hzo : z.oneCell' = true) {ki : IntKind} (hti : P.underlying ti = some (.int ki)) (base : Nat) (v : Value) (n : Nat) (xs : List Value) (hs : a.eval s = v) (hown : Row w base e 1 v n xs)
  (k : IntKind) (m : Nat) (M : Int) (hx : a.eval x = .int k M) (hM : M = m) (hbytes : (n + m) * bytes ≤ 140737488355328) (hbase : base ≤ w.heap.size)
  (h : ∀ v' w', Row w' base e 1 v' (n + m) (xs ++ List.replicate m z) → Fr v.ownBlock.toList w w' → (∀ g, v'.ownBlock = some g → v.ownBlock = some g ∨ g = w.heap.size) → wpList P ops Q rest (a.put o.dst v') w') :
  wpList P ops Q (o :: rest) a w :=
 wpList_plain hgd fun _ hK => wp_appz ho hT hz1 hzo hti base v n xs hs hown k m M hx hM hbytes hbase fun v' w' h2 h3 h4 => hK _ _ (h v' w' h2 h3 h4)
theorem run_cp {dT sT ty e : TypeId} (hu : P.underlying dT = some (.slice e)) (hsz : (P.info? e).map (·.size) = some 1) (w : World) (D A : Option Addr) (dLen dCap sLen sCap : Nat) (cs : List Value) (hn : cs.length = Nat.min sLen dLen) (hr : Rd w A cs) (h1 : ∀ u ∈ cs, u.oneCell' = true)
  (g off : Nat) (hD : cs ≠ [] → D = some ⟨g, off, none⟩) (cur : Array Value) (t : TypeId) (fz : Nat × Nat) (hg : w.heap[g]? = some (.cells cur t fz)) (hfz : Free cur.size fz) (hfit : off + cs.length ≤ cur.size) :
  (Builtin.copy_ #[dT, sT] ty #[.slice D dLen dCap, .slice A sLen sCap]).run P w = .ok (goInt cs.length) (w.setRow g (cur.toList.take off ++ cs ++ cur.toList.drop (off + cs.length)).toArray) := by
 obtain ⟨i, hi, hi1⟩ := Option.map_eq_some_iff.1 hsz
 by_cases hc : cs = []
 ·subst hc
  have h0 : Nat.min sLen dLen = 0 := by simpa using hn.symm
  have hrow : (cur.toList.take off ++ [] ++ cur.toList.drop (off + ([] : List Value).length)).toArray = cur := by simp
  rw [hrow, setRow_self w g cur t fz hg]
  exact run_copy_none (P := P) w dT sT ty e D A dLen dCap sLen sCap hu hsz h0
 ·obtain ⟨ad, rfl, hcells⟩ := hr.cells hc
  obtain rfl := hD hc
  have hf := run_firstCells_some (P := P) w i.size cs.length ad sLen sCap cs (by rw [hi1]; omega) hcells
  have hst := run_storeCells_free (P := P) g off t fz cs 0 cur w hg hfz (by simpa using hfit) h1
  simp only [Nat.add_zero] at hst
  rw [hn] at hf ⊢
  simp [Builtin.copy_, run_underlying hu, Builtin.lenOf, sizeOf, typeInfo, hi, hf, hst]
  rw [hn]
theorem wp_cp {o : Oper} {a : Act} {w : World} {K : Act → World → Prop} {Q : Exit → Act → World → Prop} {d s : Operand} {dT sT e : TypeId}
  (ho : o.op = .call { callee := .builtin .copy, args := #[d, s], argTypes := #[dT, sT] }) (hu : P.underlying dT = some (.slice e)) (hsz : (P.info? e).map (·.size) = some 1)
  (D A : Option Addr) (dLen dCap sLen sCap : Nat) (hd : a.eval d = .slice D dLen dCap) (hs : a.eval s = .slice A sLen sCap) (cs : List Value) (hn : cs.length = Nat.min sLen dLen) (hr : Rd w A cs) (h1 : ∀ u ∈ cs, u.oneCell' = true)
  (g off : Nat) (hD : cs ≠ [] → D = some ⟨g, off, none⟩) (cur : Array Value) (t : TypeId) (fz : Nat × Nat) (hg : w.heap[g]? = some (.cells cur t fz)) (hfz : Free cur.size fz) (hfit : off + cs.length ≤ cur.size)
  (h : ∀ w', w'.heap[g]? = some (.cells (cur.toList.take off ++ cs ++ cur.toList.drop (off + cs.length)).toArray t fz) → Fr [g] w w' → K (a.put o.dst (goInt cs.length)) w') : o.wp P a w K Q := by
 have hrun := run_cp (P := P) (sT := sT) (ty := o.type) hu hsz w D A dLen dCap sLen sCap cs hn hr h1 g off hD cur t fz hg hfz hfit
 unfold Oper.wp
 simp [execOp, ho, resolve, invoke, builtin, hd, hs, hrun, Result.andThen]
 refine h _ ?_ ((Fr.refl _ _).setRow (.inl (by simp)) _)
 have := setRow_heap w g cur (cur.toList.take off ++ cs ++ cur.toList.drop (off + cs.length)).toArray t fz hg
 simpa using this
theorem wpList_cp {ops : Array Oper} {rest : List Oper} {o : Oper} {a : Act} {w : World} {Q : Exit → Act → World → Prop} {d s : Operand} {dT sT e : TypeId} (hgd : o.guard = none)
  (ho : o.op = .call { callee := .builtin .copy, args := #[d, s], argTypes := #[dT, sT] }) (hu : P.underlying dT = some (.slice e)) (hsz : (P.info? e).map (·.size) = some 1)
  (D A : Option Addr) (dLen dCap sLen sCap : Nat) (hd : a.eval d = .slice D dLen dCap) (hs : a.eval s = .slice A sLen sCap) (cs : List Value) (hn : cs.length = Nat.min sLen dLen) (hr : Rd w A cs) (h1 : ∀ u ∈ cs, u.oneCell' = true)
  (g off : Nat) (hD : cs ≠ [] → D = some ⟨g, off, none⟩) (cur : Array Value) (t : TypeId) (fz : Nat × Nat) (hg : w.heap[g]? = some (.cells cur t fz)) (hfz : Free cur.size fz) (hfit : off + cs.length ≤ cur.size)
  (h : ∀ w', w'.heap[g]? = some (.cells (cur.toList.take off ++ cs ++ cur.toList.drop (off + cs.length)).toArray t fz) → Fr [g] w w' → wpList P ops Q rest (a.put o.dst (goInt cs.length)) w') :
  wpList P ops Q (o :: rest) a w :=
 wpList_plain hgd fun _ hK => wp_cp ho hu hsz D A dLen dCap sLen sCap hd hs cs hn hr h1 g off hD cur t fz hg hfz hfit fun w' h1 h2 => hK _ _ (h w' h1 h2)
theorem run_mk1 {t e : TypeId} {bytes : Nat} {z : Value} (hT : SlT P t e 1 bytes z) (hz1 : z.cells = #[z]) (w : World) (kl kc : IntKind) (n : Nat) (hb : bytes * n ≤ 281474976710656) :
  (Instr.makeSlice t (.int kl (n : Int)) (.int kc (n : Int))).run P w = .ok (.slice (some ⟨w.heap.size, 0, none⟩) n n) (w.alloc (.cells (List.replicate n z).toArray e)) := by
 obtain ⟨i, hi, hz, hsz, hby⟩ := info_parts hT.info
 have hn : n ≤ 281474976710656 := Nat.le_trans (Nat.le_mul_of_pos_left _ hT.bpos) hb
 have h := run_make (P := P) w t e i z hT.und hi hz kl kc n n (by omega) (Int.le_refl _) (by rw [hby, ← Int.natCast_mul]; omega) (by omega)
 rw [h, hsz, hz1]
 simp only [Int.toNat_natCast, Nat.mul_one]
 congr 3
 apply Array.ext'
 rw [toList_madeCells_one]
theorem wpList_mk1 {ops : Array Oper} {rest : List Oper} {o : Oper} {a : Act} {w : World} {Q : Exit → Act → World → Prop} {l c : Operand} {t e : TypeId} {bytes : Nat} {z : Value}
  (hgd : o.guard = none) (hop : o.op = .makeSlice t l c) (hT : SlT P t e 1 bytes z) (hz1 : z.cells = #[z]) (kl kc : IntKind) (N M : Int) (n : Nat) (hl : a.eval l = .int kl N) (hc : a.eval c = .int kc M) (hN : N = n) (hM : M = n) (hb : bytes * n ≤ 281474976710656)
  (h : ∀ w', Blk w' w.heap.size e (List.replicate n z).toArray → Row w' w.heap.size e 1 (.slice (some ⟨w.heap.size, 0, none⟩) n n) n (List.replicate n z) → Fr [] w w' → w'.heap.size = w.heap.size + 1 → wpList P ops Q rest (a.put o.dst (.slice (some ⟨w.heap.size, 0, none⟩) n n)) w') :
  wpList P ops Q (o :: rest) a w := by
 subst hN hM
 refine wpList_plain hgd fun _ hK => ?_
 have hrun := run_mk1 hT hz1 w kl kc n hb
 have hn : n ≤ maxLen := by
  have := Nat.le_trans (Nat.le_mul_of_pos_left n hT.bpos) hb
  unfold maxLen; omega
 unfold Oper.wp
 simp only [execOp, hop, hl, hc, hrun, Sem.run_bind, Sem.run_pure, Result.andThen_ok]
 have hr := Row.new w (List.replicate n z).toArray e 1 n (0, 0) (free_zero _) hn (by simp) (Nat.le_refl _)
 exact hK _ _ (h _ (Blk.new _ _ _) hr ((Fr.refl _ _).alloc _) (by simp))
theorem conv_str {t e d : TypeId} (hs : P.underlying t = some (.slice e)) (he : P.underlying e = some (.int .u8)) (hd : P.underlying d = some .string) (w : World) (A : Option Addr) (l : List UInt8) (n c : Nat) (hn : l.length = n) (hr : Rd w A (bvs l)) (hA : A = none → n = 0) :
  (convert t d (.slice A n c)).run P w = .ok (.string ⟨l.toArray⟩) w := by
 subst hn
 by_cases hl : l = []
 ·subst hl
  cases A with
  | none => exact run_convert_bytes_nil w t e hs he _ _ d hd
  | some a =>
   have hlc : (loadCells a 0).run P w = .ok (([] : List Int).map (Value.int .u8)).toArray w := by
    have := run_loadCells_list (P := P) w a [] (by simp)
    simpa using this
   rw [run_convert_bytes_string w t d e _ _ c hs he hd]
   have h := run_bytesToString (P := P) w a 0 c [] hlc
   rw [show ([] : List UInt8).length = 0 from rfl, h]
   rfl
 ·cases A with
  | none => exact absurd (List.eq_nil_of_length_eq_zero (hA rfl)) hl
  | some a =>
   obtain ⟨ad, e1, hc⟩ := hr.cells (by simpa [bvs] using hl)
   cases e1
   have hlc : (loadCells a l.length).run P w = .ok ((l.map fun x => (x.toNat : Int)).map (Value.int .u8)).toArray w := by
    have := run_loadCells_list (P := P) w a (bvs l) hc
    rw [bvs_length] at this
    rw [this]
    congr 2
    simp [bvs, bv]
   rw [run_convert_bytes_string w t d e _ _ c hs he hd, run_bytesToString (P := P) w a l.length c _ hlc, foldl_push_bytes]
   congr 2
   show ByteArray.mk _ = _
   congr 1
   apply Array.ext'
   simp only [ByteArray.empty, ByteArray.emptyWithCapacity, List.map_map, Array.toList_append]
   show [] ++ _ = _
   rw [List.nil_append]
   conv => rhs; rw [← List.map_id l]
   apply List.map_congr_left
   intro x _
   simp
end
end
section
open Go.RowKit Go.Maps Go.ChangeMaps Go.MapKept
def rawV (v : Value) : Option (DataW Value × List MemPlace) := some (.held v, [])
theorem keyZ : Keyed Tryz.prog 3 := int_keyed Tryz.underlying3
def wfZ (x : Int) : Prop := (Lit.int .i64 x).wf = true
theorem wfZ_of {x : Int} (h : -9223372036854775808 ≤ x ∧ x ≤ 9223372036854775807) : wfZ x := by
 simp [wfZ, Lit.wf, IntKind.min, IntKind.max, IntKind.signed, IntKind.bits]
 exact h
theorem wfZ_b {x : Int} (h : wfZ x) : -9223372036854775808 ≤ x ∧ x ≤ 9223372036854775807 := by
 simp [wfZ, Lit.wf, IntKind.min, IntKind.max, IntKind.signed, IntKind.bits] at h
 exact h
theorem keyZ_of {x : Int} (h : wfZ x) : keyOf Tryz.prog 3 (.int .i64 x) = some (.int .i64 x) := keyOf_int_mk Tryz.underlying3 h
def AsF (D : DataW Value) (f : Int → Option Value) : Prop := ∀ x, wfZ x → Maps.has D (.int .i64 x) = (f x).isSome ∧ ∀ v, f x = some v → ∀ z, D.atKey (.int .i64 x) z = .held v
theorem AsF.at {D : DataW Value} {f : Int → Option Value} (h : AsF D f) {x : Int} (hx : wfZ x) (z : Value) : D.atKey (.int .i64 x) (.held z) = .held ((f x).getD z) := by
 obtain ⟨h1, h2⟩ := h x hx
 cases hf : f x with
 | none => rw [hf] at h1; rw [atKey_of_not_has h1]; rfl
 | some v => rw [h2 v hf]; rfl
def fput (f : Int → Option Value) (x : Int) (v : Value) : Int → Option Value := fun y => if y = x then some v else f y
def fdel (f : Int → Option Value) (x : Int) : Int → Option Value := fun y => if y = x then none else f y
theorem lit_ne {x y : Int} (h : y ≠ x) : Lit.int .i64 y ≠ Lit.int .i64 x := fun e => by injection e with _ e; exact h e
theorem AsF.put {D : DataW Value} {f : Int → Option Value} (h : AsF D f) (hD : IsMap D) (x : Int) (v : Value) : AsF (D.put (.int .i64 x) (.held v)) (fput f x v) := fun y hy => by
 unfold fput
 by_cases e : y = x
 ·subst e
  rw [if_pos rfl, has_put_same (k := .int .i64 y) hD trivial]
  exact ⟨rfl, fun u hu z => by cases hu; exact atKey_put_same (k := .int .i64 y) hD trivial _ _⟩
 ·rw [if_neg e, has_put_other (lit_ne e)]
  exact ⟨(h y hy).1, fun u hu z => by rw [atKey_put_other (lit_ne e)]; exact (h y hy).2 u hu z⟩
theorem AsF.del {D : DataW Value} {f : Int → Option Value} (h : AsF D f) (x : Int) : AsF (D.del (.int .i64 x)) (fdel f x) := fun y hy => by
 unfold fdel
 by_cases e : y = x
 ·subst e
  rw [if_pos rfl, has_del_same]
  exact ⟨rfl, fun u hu => by cases hu⟩
 ·rw [if_neg e, has_del_other (lit_ne e)]
  exact ⟨(h y hy).1, fun u hu z => by rw [atKey_del_other (lit_ne e)]; exact (h y hy).2 u hu z⟩
theorem AsF.nil : AsF (.map []) (fun _ => none) := fun x _ => ⟨rfl, fun v h => by cases h⟩
theorem AsF.eq {D : DataW Value} {f g : Int → Option Value} (h : AsF D f) (e : ∀ x, wfZ x → f x = g x) : AsF D g := fun x hx => by
 rw [← e x hx]; exact h x hx
def MapZ (w : World) (b n : Nat) (f : Int → Option Value) : Prop := ∃ D : DataW Value, w.ownsMap Tryz.prog 3 rawV b n D ∧ AsF D f
section
variable {w w' : World} {b n : Nat} {f : Int → Option Value}
theorem MapZ.lt (h : MapZ w b n f) : b < w.heap.size := by obtain ⟨D, h, _⟩ := h; exact h.lt
theorem MapZ.blk_eq (h : MapZ w b n f) (e : w'.heap[b]? = w.heap[b]?) : MapZ w' b n f := by
 obtain ⟨D, ⟨es, clock, hb, r⟩, hf⟩ := h
 exact ⟨D, ⟨es, clock, e.trans hb, r⟩, hf⟩
theorem MapZ.keep (h : MapZ w b n f) {F : List Nat} (hf : Fr F w w') (hb : b ∉ F) : MapZ w' b n f := h.blk_eq (hf.same b h.lt hb)
theorem MapZ.keep_nil (h : MapZ w b n f) (hf : Fr [] w w') : MapZ w' b n f := h.keep hf (by simp)
theorem MapZ.mono (h : MapZ w b n f) {m : Nat} (hm : n ≤ m) : MapZ w b m f := by
 obtain ⟨D, h, hf⟩ := h
 exact ⟨D, h.mono hm, hf⟩
theorem MapZ.eq (h : MapZ w b n f) {g : Int → Option Value} (e : ∀ x, wfZ x → f x = g x) : MapZ w b n g := by
 obtain ⟨D, h, hf⟩ := h
 exact ⟨D, h, hf.eq e⟩
theorem MapZ.made (w : World) : MapZ (w.alloc (.map #[] 0)) w.heap.size 0 (fun _ => none) := ⟨_, World.ownsMap_made _ _ _ _, AsF.nil⟩
theorem MapZ.no_cell (h : MapZ w b n f) (i : Nat) : w.cell? ⟨b, i, none⟩ = none := by
 obtain ⟨D, ⟨es, clock, hb, _⟩, _⟩ := h
 simp [World.cell?, hb]
theorem grown_frZ {b : Nat} (h : w.grownBy w' (some b)) : Fr [b] w w' := ⟨h.os, h.tape, h.output, h.size, fun k hk hn => h.block k hk (by simp at hn; simpa using hn)⟩
theorem grown_frN (h : w.grownBy w' none) : Fr [] w w' := ⟨h.os, h.tape, h.output, h.size, fun k hk hn => h.block k hk (by simp)⟩
theorem MapZ.look (h : MapZ w b n f) {t e : TypeId} (ht : Tryz.prog.underlying t = some (.map 3 e)) {z : Value} (hz : (zeroValue e).run Tryz.prog w = .ok z w) {x : Int} (hx : wfZ x) :
  (Instr.lookup t (.map (some b)) (.int .i64 x) false).run Tryz.prog w = .ok ((f x).getD z) w := by
 obtain ⟨D, h, hf⟩ := h
 obtain ⟨v, ps, hrun, hv⟩ := h.lookup keyZ ht hz (zd := .held z) (zp := []) rfl (keyZ_of hx)
 rw [hf.at hx] at hv
 simp only [rawV, Option.some.injEq, Prod.mk.injEq, DataW.held.injEq] at hv
 rw [hrun, hv.1]
theorem MapZ.look_ok (h : MapZ w b n f) {t e : TypeId} (ht : Tryz.prog.underlying t = some (.map 3 e)) {z : Value} (hz : (zeroValue e).run Tryz.prog w = .ok z w) {x : Int} (hx : wfZ x) :
  (Instr.lookup t (.map (some b)) (.int .i64 x) true).run Tryz.prog w = .ok (.tuple #[(f x).getD z, .bool (f x).isSome]) w := by
 obtain ⟨D, h, hf⟩ := h
 obtain ⟨v, ps, hrun, hv⟩ := h.look_ok keyZ ht hz (zd := .held z) (zp := []) rfl (keyZ_of hx)
 rw [hf.at hx] at hv
 simp only [rawV, Option.some.injEq, Prod.mk.injEq, DataW.held.injEq] at hv
 rw [hrun, hv.1, (hf x hx).1]
theorem MapZ.put (h : MapZ w b n f) {t e : TypeId} (ht : Tryz.prog.underlying t = some (.map 3 e)) (hn : n < maxLen) {x : Int} (hx : wfZ x) (v : Value) :
  ∃ w', (Instr.mapUpdate t (.map (some b)) (.int .i64 x) v).run Tryz.prog w = .ok () w' ∧ MapZ w' b (n + 1) (fput f x v) ∧ Fr [b] w w' ∧ w'.heap.size = w.heap.size := by
 obtain ⟨D, h, hf⟩ := h
 obtain ⟨w', hrun, ho, hg⟩ := h.store keyZ ht hn (val := v) (d := .held v) (ps := []) (keyZ_of hx) rfl
 refine ⟨w', hrun, ⟨_, ho, hf.put h.isMap x v⟩, grown_frZ hg.grown, ?_⟩
 obtain ⟨_, _, _, _, _, rfl⟩ := hg
 simp [setBlock]
theorem MapZ.del (h : MapZ w b n f) {t e : TypeId} (ht : Tryz.prog.underlying t = some (.map 3 e)) {x : Int} (hx : wfZ x) (ty : TypeId) :
  ∃ w', (Builtin.delete_ #[t, 3] ty #[.map (some b), .int .i64 x]).run Tryz.prog w = .ok (.tuple #[]) w' ∧ MapZ w' b n (fdel f x) ∧ Fr [b] w w' ∧ w'.heap.size = w.heap.size := by
 obtain ⟨D, h, hf⟩ := h
 obtain ⟨w', hrun, ho, hg⟩ := h.drop keyZ ht (keyZ_of hx) ty
 refine ⟨w', hrun, ⟨_, ho, hf.del x⟩, grown_frZ hg.grown, ?_⟩
 obtain ⟨_, _, _, _, _, rfl⟩ := hg
 simp [setBlock]
theorem MapZ.clear (h : MapZ w b n f) {t e : TypeId} (ht : Tryz.prog.underlying t = some (.map 3 e)) (ty : TypeId) :
  ∃ w', (Builtin.clear_ #[t] ty #[.map (some b)]).run Tryz.prog w = .ok (.tuple #[]) w' ∧ MapZ w' b 0 (fun _ => none) ∧ Fr [b] w w' ∧ w'.heap.size = w.heap.size := by
 obtain ⟨D, ⟨es, clock, hb, _⟩, _⟩ := h
 refine ⟨setBlock w b (.map #[] clock), ?_, ⟨.map [], ⟨#[], clock, heap_setBlock_same hb _, ⟨by simp, stamped_empty clock, by simp⟩, Nat.le_refl _, rfl⟩, AsF.nil⟩, ⟨rfl, rfl, rfl, by simp [setBlock], fun i _ hi => heap_setBlock_other hb _ (fun e => hi (by simp [e]))⟩, by simp [setBlock]⟩
 simp [Builtin.clear_, run_underlying ht, MapKept.run_getObj_map hb, MapKept.run_setObj_map _ hb, Result.andThen, setBlock]
theorem pigeon : ∀ (K : Nat) (l : List Nat), l.Nodup → (∀ x ∈ l, x < K) → l.length ≤ K
 | 0, l, _, h => by
  cases l with
  | nil => simp
  | cons x r => exact absurd (h x (by simp)) (by omega)
 | K + 1, l, hn, h => by
  by_cases hm : K ∈ l
  ·have h1 := pigeon K (l.erase K) (hn.erase K) (fun x hx => by
    have h2 := hn.mem_erase_iff.1 hx
    have := h x h2.2
    have := h2.1
    omega)
   rw [List.length_erase_of_mem hm] at h1
   omega
  ·have h1 := pigeon K l hn (fun x hx => by
    have := h x hx
    have : x ≠ K := fun e => hm (e ▸ hx)
    omega)
   omega
theorem MapZ.tight (h : MapZ w b n f) {K : Nat} (hk : ∀ x, wfZ x → f x ≠ none → 0 ≤ x ∧ x < K) : MapZ w b K f := by
 obtain ⟨D, ⟨es, clock, hb, F, hs, hD⟩, hf⟩ := h
 refine ⟨D, ⟨es, clock, hb, F, ?_, hD⟩, hf⟩
 have ap := fit_apart keyZ F
 have ks := fit_keys F
 have key : ∀ p ∈ es.toList.map (WideElems.rg Tryz.prog 3 rawV), ∃ x : Nat, p.1 = .int .i64 x ∧ x < K := by
  intro p hp
  obtain ⟨v, hv⟩ := ks p hp
  obtain ⟨x, rfl, e, hw⟩ := Maps.keyOf_int_inv Tryz.underlying3 hv
  have hh : Maps.has D (.int .i64 x) = true := by
   rw [hD]
   exact List.any_eq_true.2 ⟨p, mem_sorted.2 hp, by rw [e]; exact WideAt.sameKey_self (a := .int .i64 x) trivial⟩
  have h1 := (hf x hw).1
  rw [hh] at h1
  obtain ⟨h2, h3⟩ := hk x hw (fun e => by rw [e] at h1; cases h1)
  exact ⟨x.toNat, e.trans (congrArg (Lit.int .i64) (by omega)), by omega⟩
 have hl : ((es.toList.map (WideElems.rg Tryz.prog 3 rawV)).map (fun p => match p.1 with | .int _ z => z.toNat | _ => 0)).length ≤ K := by
  apply pigeon
  ·rw [List.nodup_iff_pairwise_ne, List.pairwise_map]
   refine List.Pairwise.imp_of_mem (fun {p q} hp hq hne => ?_) ap
   obtain ⟨x, e1, _⟩ := key p hp
   obtain ⟨y, e2, _⟩ := key q hq
   rw [e1, e2] at hne ⊢
   intro e
   apply hne
   have : x = y := by simpa using e
   rw [this]
  ·intro x hx
   obtain ⟨p, hp, rfl⟩ := List.mem_map.1 hx
   obtain ⟨y, e1, hy⟩ := key p hp
   rw [e1]
   simpa using hy
 simpa using hl
def RangeZ (w : World) (b r n : Nat) (f : Int → Option Value) (left : Int → Bool) (cnt : Nat) : Prop :=
 ∃ (D : DataW Value) (lf : Lit → Bool), w.ranges Tryz.prog 3 rawV b r n D lf cnt ∧ AsF D f ∧ ∀ x, wfZ x → lf (.int .i64 x) = left x
theorem RangeZ.map {r : Nat} {left : Int → Bool} {cnt : Nat} (h : RangeZ w b r n f left cnt) : MapZ w b n f := by
 obtain ⟨D, lf, h, hf, _⟩ := h
 exact ⟨D, h.owns, hf⟩
theorem RangeZ.left_eq {r : Nat} {left : Int → Bool} {cnt : Nat} (h : RangeZ w b r n f left cnt) : w.rangeLeft b r = cnt := by
 obtain ⟨D, lf, h, hf, _⟩ := h
 exact h.left_eq
theorem RangeZ.keep {r : Nat} {left : Int → Bool} {cnt : Nat} (h : RangeZ w b r n f left cnt) {F : List Nat} (hf : Fr F w w') (hb : b ∉ F) (hr : r ∉ F) : RangeZ w' b r n f left cnt := by
 obtain ⟨D, lf, h, h2, h3⟩ := h
 refine ⟨D, lf, ?_, h2, h3⟩
 have hlb := h.owns.lt
 have hlr := h.lt
 obtain ⟨es, clock, since, seen, c0, k1, k2, k3, k4, k5, k6⟩ := h
 exact ⟨es, clock, since, seen, c0, (hf.same b hlb hb).trans k1, k2, k3, k4, (hf.same r hlr hr).trans k5, k6⟩
end
section
variable {w : World} {ops : Array Oper} {rest : List Oper} {o : Oper} {a : Act} {Q : Exit → Act → World → Prop} {b n : Nat} {f : Int → Option Value}
theorem wpList_lookZ (hg : o.guard = none) {m x : Operand} {t e : TypeId} (hop : o.op = Op.lookup t m x false) (ht : Tryz.prog.underlying t = some (.map 3 e)) {z : Value} (hz : (zeroValue e).run Tryz.prog w = .ok z w)
  (hm : a.eval m = .map (some b)) (h : MapZ w b n f) (k : Int) (hx : a.eval x = .int .i64 k) (hk : wfZ k) (hK : wpList Tryz.prog ops Q rest (a.put o.dst ((f k).getD z)) w) : wpList Tryz.prog ops Q (o :: rest) a w := by
 refine wpList_plain hg fun K' hK' => ?_
 have hrun := h.look ht hz hk
 unfold Oper.wp
 simp [execOp, hop, hm, hx, hrun, Result.andThen]
 exact hK' _ _ hK
theorem wpList_lookOkZ (hg : o.guard = none) {m x : Operand} {t e : TypeId} (hop : o.op = Op.lookup t m x true) (ht : Tryz.prog.underlying t = some (.map 3 e)) {z : Value} (hz : (zeroValue e).run Tryz.prog w = .ok z w)
  (hm : a.eval m = .map (some b)) (h : MapZ w b n f) (k : Int) (hx : a.eval x = .int .i64 k) (hk : wfZ k) (hK : wpList Tryz.prog ops Q rest (a.put o.dst (.tuple #[(f k).getD z, .bool (f k).isSome])) w) : wpList Tryz.prog ops Q (o :: rest) a w := by
 refine wpList_plain hg fun K' hK' => ?_
 have hrun := h.look_ok ht hz hk
 unfold Oper.wp
 simp [execOp, hop, hm, hx, hrun, Result.andThen]
 exact hK' _ _ hK
theorem wpList_putZ (hg : o.guard = none) {m x v : Operand} {t e : TypeId} (hop : o.op = Op.mapUpdate t m x v) (ht : Tryz.prog.underlying t = some (.map 3 e))
  (hm : a.eval m = .map (some b)) (h : MapZ w b n f) (hn : n < maxLen) (k : Int) (hx : a.eval x = .int .i64 k) (hk : wfZ k) (u : Value) (hv : a.eval v = u)
  (hK : ∀ w', MapZ w' b (n + 1) (fput f k u) → Fr [b] w w' → w'.heap.size = w.heap.size → wpList Tryz.prog ops Q rest (a.put o.dst undef) w') : wpList Tryz.prog ops Q (o :: rest) a w := by
 refine wpList_plain hg fun K' hK' => ?_
 obtain ⟨w', hrun, h1, h2, h3⟩ := h.put ht hn hk u
 unfold Oper.wp
 simp [execOp, hop, hm, hx, hv, hrun, Result.andThen]
 exact hK' _ _ (hK w' h1 h2 h3)
theorem wpList_delZ (hg : o.guard = none) {m x : Operand} {t e : TypeId} (hop : o.op = Op.call { callee := Callee.builtin Builtin.delete, args := #[m, x], argTypes := #[t, 3] }) (ht : Tryz.prog.underlying t = some (.map 3 e))
  (hm : a.eval m = .map (some b)) (h : MapZ w b n f) (k : Int) (hx : a.eval x = .int .i64 k) (hk : wfZ k)
  (hK : ∀ w', MapZ w' b n (fdel f k) → Fr [b] w w' → w'.heap.size = w.heap.size → wpList Tryz.prog ops Q rest (a.put o.dst (.tuple #[])) w') : wpList Tryz.prog ops Q (o :: rest) a w := by
 refine wpList_plain hg fun K' hK' => ?_
 obtain ⟨w', hrun, h1, h2, h3⟩ := h.del ht hk o.type
 unfold Oper.wp
 simp [execOp, hop, resolve, invoke, builtin, hm, hx, hrun, Result.andThen]
 exact hK' _ _ (hK w' h1 h2 h3)
theorem wpList_clearZ (hg : o.guard = none) {m : Operand} {t e : TypeId} (hop : o.op = Op.call { callee := Callee.builtin Builtin.clear, args := #[m], argTypes := #[t] }) (ht : Tryz.prog.underlying t = some (.map 3 e))
  (hm : a.eval m = .map (some b)) (h : MapZ w b n f)
  (hK : ∀ w', MapZ w' b 0 (fun _ => none) → Fr [b] w w' → w'.heap.size = w.heap.size → wpList Tryz.prog ops Q rest (a.put o.dst (.tuple #[])) w') : wpList Tryz.prog ops Q (o :: rest) a w := by
 refine wpList_plain hg fun K' hK' => ?_
 obtain ⟨w', hrun, h1, h2, h3⟩ := h.clear ht o.type
 unfold Oper.wp
 simp [execOp, hop, resolve, invoke, builtin, hm, hrun, Result.andThen]
 exact hK' _ _ (hK w' h1 h2 h3)
theorem wpList_rangeZ (hg : o.guard = none) {m : Operand} {t e : TypeId} (hop : o.op = Op.range t m) (ht : Tryz.prog.underlying t = some (.map 3 e)) (hm : a.eval m = .map (some b)) (h : MapZ w b n f)
  (hK : ∀ w' cnt, RangeZ w' b w.heap.size n f (fun x => (f x).isSome) cnt → Fr [] w w' → w'.heap.size = w.heap.size + 1 → wpList Tryz.prog ops Q rest (a.put o.dst (.pointer (some ⟨w.heap.size, 0, none⟩))) w') : wpList Tryz.prog ops Q (o :: rest) a w := by
 obtain ⟨D, h, hf⟩ := h
 exact wpList_range_own w hg m t hop 3 e keyZ ht rawV b n D hm h fun w' h1 h2 h3 => hK w' _ ⟨D, _, h1, hf, fun x hx => (hf x hx).1⟩ (grown_frN h2) h3
theorem same_litZ (x y : Int) : (Lit.int .i64 y).sameKey (.int .i64 x) = (y == x) := by
 by_cases e : y = x
 ·subst e
  rw [WideAt.sameKey_self (a := .int .i64 y) trivial]; simp
 ·rw [sameKey_ne (lit_ne e)]
  simp [e]
theorem wpList_nextZ (hg : o.guard = none) {it : Operand} (hop : o.op = Op.next it false) {r : Nat} {left : Int → Bool} {cnt : Nat} (hit : a.eval it = .pointer (some ⟨r, 0, none⟩)) (h : RangeZ w b r n f left cnt)
  (hDone : (∀ x, wfZ x → left x = false) → wpList Tryz.prog ops Q rest (a.put o.dst (.tuple #[.bool false])) w)
  (hMore : ∀ (x : Int) (v : Value) (w' : World) (cnt' : Nat), wfZ x → left x = true → f x = some v → RangeZ w' b r n f (fun y => left y && !(y == x)) cnt' → cnt' < cnt → Fr [r] w w' → w'.heap.size = w.heap.size →
   (Instr.entry (.pointer (some ⟨r, 0, none⟩))).run Tryz.prog w' = .ok (.tuple #[.int .i64 x, v]) w' → wpList Tryz.prog ops Q rest (a.put o.dst (.tuple #[.bool true, .int .i64 x, v])) w') : wpList Tryz.prog ops Q (o :: rest) a w := by
 obtain ⟨D, lf, h, hf, hl⟩ := h
 refine wpList_next_ranges w hg it hop 3 keyZ rawV (Value.int .i64) (fun v : Value => v) (fun key kl hk => by obtain ⟨x, rfl, _⟩ := Maps.keyOf_int_inv Tryz.underlying3 hk; exact ⟨x, rfl⟩) (fun v y _ => ⟨v, rfl⟩) b r n D lf cnt hit h (fun _ hl0 => hDone fun x hx => by rw [← hl x hx]; exact hl0 _) ?_
 intro x c kl y w' cnt' hk hlk hv hat hrg hlt hgr hsz hen
 obtain ⟨x', ex, rfl, hwx⟩ := Maps.keyOf_int_inv Tryz.underlying3 hk
 cases ex
 have hvc : y.1 = .held c := by
  simp only [rawV, Option.some.injEq] at hv
  rw [← hv]
 have hfx : f x = some c := by
  have h1 := (hf x hwx).1
  have hh : Maps.has D (.int .i64 x) = true := has_true_of_atKey (y := .held c) fun z => by rw [hat, hvc]
  rw [hh] at h1
  cases hfx : f x with
  | none => rw [hfx] at h1; cases h1
  | some u =>
   have h2 := (hf x hwx).2 u hfx (.held c)
   rw [hat, hvc] at h2
   rw [DataW.held.inj h2]
 exact hMore x c w' cnt' hwx (by rw [← hl x hwx]; exact hlk) hfx ⟨D, _, hrg, hf, fun z hz => by rw [hl z hz, same_litZ]⟩ hlt (grown_frZ hgr) hsz hen
end
end
end Go.Proofs.YtbanogfljpkbkaaGreatDoor
