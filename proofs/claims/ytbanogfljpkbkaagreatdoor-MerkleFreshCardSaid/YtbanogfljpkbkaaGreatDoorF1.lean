/-
  Texts of this claim, one behind the other: MemA.
-/
import Derived.WalkKit
import Derived.WalkSpells
import Derived.WalkLawsBesides
import Derived.Deep.QuietTactic
import Derived.BigQuiet
import Derived.OwnWalk
import Derived.Handy
import Derived.Lib.Hide
import Derived.Lib.ConvBytes
import Derived.Lib.SlBytesConst
import Derived.Laws.CopyRow
import Derived.Laws.BytesArg
import Derived.Deep.Draws
set_option linter.unusedSimpArgs false
set_option linter.unusedVariables false
set_option linter.unnecessarySimpa false
namespace Go.Proofs.YtbanogfljpkbkaaGreatDoor
section
open Go.RowKit
def bv (x : UInt8) : Value := .int .u8 (x.toNat : Int)
def bvs (l : List UInt8) : List Value := l.map bv
theorem bvs_length (l : List UInt8) : (bvs l).length = l.length := by simp [bvs]
theorem bvs_append (a b : List UInt8) : bvs (a ++ b) = bvs a ++ bvs b := by simp [bvs]
theorem bvs_take (l : List UInt8) (n : Nat) : bvs (l.take n) = (bvs l).take n := by simp [bvs, List.map_take]
theorem bvs_drop (l : List UInt8) (n : Nat) : bvs (l.drop n) = (bvs l).drop n := by simp [bvs, List.map_drop]
theorem bvs_one (l : List UInt8) : ∀ u ∈ bvs l, u.oneCell' = true := by
 intro u hu
 obtain ⟨x, _, rfl⟩ := List.mem_map.1 hu
 rfl
def Blk (w : World) (g : Nat) (t : TypeId) (cs : Array Value) : Prop := w.heap[g]? = some (.cells cs t (0, 0))
structure Fr (F : List Nat) (w w' : World) : Prop where
 os : w'.os = w.os
 tape : w'.tape = w.tape
 output : w'.output = w.output
 size : w.heap.size ≤ w'.heap.size
 same : ∀ k, k < w.heap.size → k ∉ F → w'.heap[k]? = w.heap[k]?
theorem Fr.refl (F : List Nat) (w : World) : Fr F w w := ⟨rfl, rfl, rfl, Nat.le_refl _, fun _ _ _ => rfl⟩
theorem Fr.trans {F G : List Nat} {a b c : World} (h : Fr F a b) (k : Fr G b c) (hG : ∀ i ∈ G, i ∈ F ∨ a.heap.size ≤ i) : Fr F a c :=
 ⟨k.os.trans h.os, k.tape.trans h.tape, k.output.trans h.output, Nat.le_trans h.size k.size, fun i hi hn =>
  (k.same i (Nat.lt_of_lt_of_le hi h.size) (fun hg => by rcases hG i hg with h1 | h1; exact hn h1; omega)).trans (h.same i hi hn)⟩
theorem Fr.mono {F G : List Nat} {a b : World} (h : Fr F a b) (hs : ∀ i ∈ F, i ∈ G) : Fr G a b :=
 ⟨h.os, h.tape, h.output, h.size, fun i hi hn => h.same i hi fun hf => hn (hs i hf)⟩
theorem Fr.nil {F : List Nat} {a b : World} (h : Fr [] a b) : Fr F a b := h.mono (fun _ hi => by cases hi)
theorem Fr.trans_nil {F : List Nat} {a b c : World} (h : Fr F a b) (k : Fr [] b c) : Fr F a c := h.trans k (fun _ hi => by cases hi)
theorem Fr.trans_same {F : List Nat} {a b c : World} (h : Fr F a b) (k : Fr F b c) : Fr F a c := h.trans k (fun _ hi => .inl hi)
theorem Fr.alloc {F : List Nat} {a w : World} (h : Fr F a w) (o : Obj) : Fr F a (w.alloc o) :=
 h.trans_nil ⟨rfl, rfl, rfl, by simp, fun k hk _ => Below.heap_alloc w o k hk⟩
theorem Fr.drew {F : List Nat} {a w : World} (h : Fr F a w) : Fr F a w.drew := ⟨h.os, h.tape, h.output, h.size, h.same⟩
theorem Fr.drewN {F : List Nat} {a w : World} (h : Fr F a w) (n : Nat) : Fr F a (w.drewN n) := ⟨h.os, h.tape, h.output, h.size, h.same⟩
theorem Fr.setCell {F : List Nat} {a w : World} (h : Fr F a w) {p : Addr} (hp : p.block ∈ F ∨ a.heap.size ≤ p.block) (u : Value) : Fr F a (w.setCell p u) :=
 h.trans (G := [p.block]) ⟨rfl, rfl, rfl, by simp [World.setCell], fun k _ hn => Below.heap_setCell _ _ _ _ (by simpa using hn)⟩ (by simpa using hp)
theorem Fr.setRow {F : List Nat} {a w : World} (h : Fr F a w) {g : Nat} (hp : g ∈ F ∨ a.heap.size ≤ g) (cs : Array Value) : Fr F a (w.setRow g cs) :=
 h.trans (G := [g]) ⟨rfl, rfl, rfl, by simp [World.setRow], fun k _ hn => setRow_other w g k cs (by simpa using hn)⟩ (by simpa using hp)
theorem Fr.below {F : List Nat} {a b : World} {B : Nat} (h : Fr F a b) (hF : ∀ i ∈ F, B ≤ i) (hB : B ≤ a.heap.size) : Below B a b :=
 ⟨h.os, h.tape, h.output, h.size, fun k hk => h.same k (by omega) fun hf => by have := hF k hf; omega⟩
theorem Fr.of_below {a b : World} (h : Below a.heap.size a b) : Fr [] a b := ⟨h.os, h.tape, h.output, h.size, fun k hk _ => h.block k hk⟩
theorem Fr.blk {F : List Nat} {a b : World} (h : Fr F a b) {k : Nat} (hF : k ∉ F) {o : Obj} (hk : a.heap[k]? = some o) : b.heap[k]? = some o :=
 (h.same k (Array.getElem?_eq_some_iff.1 hk).1 hF).trans hk
theorem Fr.cell {F : List Nat} {a b : World} (h : Fr F a b) {p : Addr} (hF : p.block ∉ F) {v : Value} (hc : a.cell? p = some v) : b.cell? p = some v :=
 (World.cell?_of_block (h.same p.block (World.block_lt_of_cell? a p hc) hF)).trans hc
section
variable {w w' : World} {g : Nat} {t : TypeId} {cs : Array Value}
theorem Blk.lt (h : Blk w g t cs) : g < w.heap.size := (Array.getElem?_eq_some_iff.1 h).1
theorem Blk.cell (h : Blk w g t cs) (i : Nat) : w.cell? ⟨g, i, none⟩ = cs[i]? := cell_of_row w g i cs t (0, 0) h
theorem Blk.frozen (h : Blk w g t cs) (i : Nat) : w.frozen? ⟨g, i, none⟩ = false := by
 unfold Blk at h
 simp [World.frozen?, h]
theorem Blk.new (w : World) (t : TypeId) (cs : Array Value) : Blk (w.alloc (.cells cs t)) w.heap.size t cs := heap_alloc_new w _
theorem Blk.keep (h : Blk w g t cs) {F : List Nat} (hf : Fr F w w') (hn : g ∉ F) : Blk w' g t cs := hf.blk hn h
theorem Blk.alloc (h : Blk w g t cs) (o : Obj) : Blk (w.alloc o) g t cs := h.keep ((Fr.refl [] w).alloc o) (by simp)
theorem Blk.set_ (h : Blk w g t cs) (i : Nat) (u : Value) : Blk (w.setCell ⟨g, i, none⟩ u) g t (cs.setIfInBounds i u) := by
 unfold Blk at h ⊢
 simp [World.setCell, Array.getElem?_modify, h]
theorem Blk.far (h : Blk w g t cs) {p : Addr} (hp : g ≠ p.block) (u : Value) : Blk (w.setCell p u) g t cs := (Below.heap_setCell w p u g hp).trans h
theorem Blk.row_ (h : Blk w g t cs) (cs' : Array Value) : Blk (w.setRow g cs') g t cs' := setRow_heap w g cs cs' t (0, 0) h
theorem Blk.ne_ {g' : Nat} {t' : TypeId} {cs' : Array Value} {fz : Nat × Nat} (h : Blk w g t cs) (h' : w.heap[g']? = some (.cells cs' t' fz)) (hne : t ≠ t') : g ≠ g' := by
 rintro rfl
 unfold Blk at h
 rw [h] at h'
 injection h' with h'
 injection h' with _ ht
 exact hne ht
end
def Rd (w : World) (A : Option Addr) (xs : List Value) : Prop :=
 xs ≠ [] → ∃ g o, A = some ⟨g, o, none⟩ ∧ ∀ j u, xs[j]? = some u → w.cell? ⟨g, o + j, none⟩ = some u
def Rd.blks (A : Option Addr) : List Nat := (A.map (·.block)).toList
section
variable {w w' : World} {A : Option Addr} {xs : List Value}
theorem Rd.nil (w : World) (A : Option Addr) : Rd w A [] := fun h => absurd rfl h
theorem Rd.keep (h : Rd w A xs) {F : List Nat} (hf : Fr F w w') (hn : ∀ g o, A = some ⟨g, o, none⟩ → g ∉ F) : Rd w' A xs := fun hx => by
 obtain ⟨g, o, e, hc⟩ := h hx
 exact ⟨g, o, e, fun j u hu => hf.cell (p := ⟨g, o + j, none⟩) (hn g o e) (hc j u hu)⟩
theorem Rd.below (h : Rd w A xs) {B : Nat} (hb : Below B w w') (hn : ∀ g o, A = some ⟨g, o, none⟩ → g < B) : Rd w' A xs := fun hx => by
 obtain ⟨g, o, e, hc⟩ := h hx
 exact ⟨g, o, e, fun j u hu => (hb.cell (p := ⟨g, o + j, none⟩) (hn g o e)).trans (hc j u hu)⟩
theorem Rd.keep_nil (h : Rd w A xs) (hf : Fr [] w w') : Rd w' A xs := h.keep hf (fun _ _ _ => by simp)
theorem Rd.alloc (h : Rd w A xs) (o : Obj) : Rd (w.alloc o) A xs := h.keep_nil ((Fr.refl [] w).alloc o)
theorem Rd.lt (h : Rd w A xs) (hx : xs ≠ []) : ∃ g o, A = some ⟨g, o, none⟩ ∧ g < w.heap.size := by
 obtain ⟨g, o, e, hc⟩ := h hx
 cases xs with
 | nil => exact absurd rfl hx
 | cons x r => exact ⟨g, o, e, World.block_lt_of_cell? w ⟨g, o + 0, none⟩ (hc 0 x rfl)⟩
theorem addr_add (g o j : Nat) : (⟨g, o, none⟩ : Addr).add j = ⟨g, o + j, none⟩ := by unfold Addr.add; split <;> simp_all
theorem add_block (a : Addr) (n : Nat) : (a.add n).block = a.block := by unfold Addr.add; split <;> rfl
theorem Rd.cells (h : Rd w A xs) (hx : xs ≠ []) : ∃ ad, A = some ad ∧ ∀ j u, xs[j]? = some u → w.cell? (ad.add j) = some u := by
 obtain ⟨g, o, e, hc⟩ := h hx
 exact ⟨_, e, fun j u hu => by rw [addr_add]; exact hc j u hu⟩
theorem Rd.drop (h : Rd w A xs) (k : Nat) : Rd w (A.map (·.add k)) (xs.drop k) := fun hx => by
 obtain ⟨g, o, rfl, hc⟩ := h (by rintro rfl; simp at hx)
 refine ⟨g, o + k, by simp [addr_add], fun j u hu => ?_⟩
 rw [Nat.add_assoc]
 exact hc _ u (by rw [← hu, List.getElem?_drop])
theorem Rd.take (h : Rd w A xs) (k : Nat) : Rd w A (xs.take k) := fun hx => by
 obtain ⟨g, o, rfl, hc⟩ := h (by rintro rfl; simp at hx)
 refine ⟨g, o, rfl, fun j u hu => ?_⟩
 rw [List.getElem?_take] at hu
 split at hu
 ·exact hc _ u hu
 ·cases hu
theorem Rd.cut (h : Rd w A xs) (k cap : Nat) (hc : xs.length ≤ cap) : Rd w (if cap = k then A else A.map (·.add k)) (xs.drop k) := by
 split
 ·rw [List.drop_eq_nil_of_le (by omega)]; exact Rd.nil _ _
 ·exact h.drop k
theorem Rd.one (w : World) (x : Value) (t : TypeId) : Rd (w.alloc (.cells #[x] t)) (some ⟨w.heap.size, 0, none⟩) [x] := fun _ =>
 ⟨w.heap.size, 0, rfl, fun j u hu => by
  rw [Blk.cell (Blk.new w t #[x])]
  match j, hu with
  | 0, hu => simpa using hu⟩
theorem Rd.of_blk {g : Nat} {t : TypeId} {cs : Array Value} (h : Blk w g t cs) (o : Nat) (xs : List Value) (hx : ∀ j u, xs[j]? = some u → cs[o + j]? = some u) : Rd w (some ⟨g, o, none⟩) xs :=
 fun _ => ⟨g, o, rfl, fun j u hu => by rw [h.cell]; exact hx j u hu⟩
end
def Free (n : Nat) (fz : Nat × Nat) : Prop := ∀ j, j < n → ¬ (fz.1 ≤ j ∧ j < fz.2)
def Row (w : World) (base : Nat) (e : TypeId) (size : Nat) (v : Value) (n : Nat) (xs : List Value) : Prop :=
 xs.length = n * size ∧
 ((v = .slice none 0 0 ∧ n = 0) ∨
  ∃ g cap cur fz, v = .slice (some ⟨g, 0, none⟩) n cap ∧ base ≤ g ∧ w.heap[g]? = some (.cells cur e fz) ∧ Free cur.size fz ∧ n ≤ cap ∧ cap ≤ maxLen ∧ cur.size = cap * size ∧ cur.toList.take (n * size) = xs)
section
variable {w w' : World} {base : Nat} {e : TypeId} {size : Nat} {v : Value} {n : Nat} {xs : List Value}
theorem Row.of_own (h : w.ownsRow base e size v n xs) : Row w base e size v n xs := by
 refine ⟨h.1, ?_⟩
 rcases h.2 with h2 | ⟨g, cap, cur, h1, h2, h3, h4, h5, h6, h7⟩
 ·exact .inl h2
 ·exact .inr ⟨g, cap, cur, (0, 0), h1, h2, h3, fun j _ hj => by have := hj.2; dsimp only at this; omega, h4, h5, h6, h7⟩
theorem Row.nil (w : World) (base : Nat) (e : TypeId) (size : Nat) : Row w base e size (.slice none 0 0) 0 [] := ⟨by simp, .inl ⟨rfl, rfl⟩⟩
theorem Row.len (h : Row w base e size v n xs) : xs.length = n * size := h.1
theorem Row.shape (h : Row w base e size v n xs) : ∃ A cap, v = .slice A n cap ∧ n ≤ cap ∧ cap ≤ maxLen ∧ Rd w A xs ∧ (∀ a, A = some a → base ≤ a.block ∧ a.block < w.heap.size) ∧ v.ownBlock = A.map (·.block) := by
 rcases h.2 with ⟨rfl, rfl⟩ | ⟨g, cap, cur, fz, rfl, hb, hg, _, hnc, hcm, hs, htake⟩
 ·have hx : xs = [] := List.eq_nil_of_length_eq_zero (by simpa using h.1)
  subst hx
  exact ⟨none, 0, rfl, Nat.le_refl _, by unfold maxLen; omega, Rd.nil _ _, fun a ha => (by cases ha), rfl⟩
 ·refine ⟨some ⟨g, 0, none⟩, cap, rfl, hnc, hcm, fun _ => ⟨g, 0, rfl, fun j u hu => ?_⟩, fun a ha => ?_, rfl⟩
  ·rw [cell_of_row w g (0 + j) cur e fz hg, Nat.zero_add]
   rw [← htake, List.getElem?_take] at hu
   split at hu
   ·simpa using hu
   ·cases hu
  ·cases ha
   exact ⟨hb, (Array.getElem?_eq_some_iff.1 hg).1⟩
theorem Row.keep (h : Row w base e size v n xs) {F : List Nat} (hf : Fr F w w') (hn : ∀ g, v.ownBlock = some g → g ∉ F) : Row w' base e size v n xs := by
 refine ⟨h.1, ?_⟩
 rcases h.2 with h2 | ⟨g, cap, cur, fz, rfl, hb, hg, r⟩
 ·exact .inl h2
 ·exact .inr ⟨g, cap, cur, fz, rfl, hb, hf.blk (hn g rfl) hg, r⟩
theorem Row.keep_nil (h : Row w base e size v n xs) (hf : Fr [] w w') : Row w' base e size v n xs := h.keep hf (fun _ _ => by simp)
theorem Row.alloc (h : Row w base e size v n xs) (o : Obj) : Row (w.alloc o) base e size v n xs := h.keep_nil ((Fr.refl [] w).alloc o)
theorem Row.mono (h : Row w base e size v n xs) {B : Nat} (hB : B ≤ base) : Row w B e size v n xs := by
 refine ⟨h.1, ?_⟩
 rcases h.2 with h2 | ⟨g, cap, cur, fz, h1, h2, r⟩
 ·exact .inl h2
 ·exact .inr ⟨g, cap, cur, fz, h1, by omega, r⟩
theorem Row.lt (h : Row w base e size v n xs) : ∀ g, v.ownBlock = some g → base ≤ g ∧ g < w.heap.size := by
 intro g hg
 rcases h.2 with ⟨rfl, _⟩ | ⟨g', cap, cur, fz, rfl, hb, hgg, _⟩
 ·cases hg
 ·simp [Value.ownBlock] at hg
  subst hg
  exact ⟨hb, (Array.getElem?_eq_some_iff.1 hgg).1⟩
theorem Row.ne_blk (h : Row w base e size v n xs) {g : Nat} {t : TypeId} {cs : Array Value} (hg : Blk w g t cs) (hne : t ≠ e) : v.ownBlock ≠ some g := by
 rcases h.2 with ⟨rfl, _⟩ | ⟨g', cap, cur, fz, rfl, hb, hgg, _⟩
 ·simp [Value.ownBlock]
 ·intro he
  have : g' = g := by simpa [Value.ownBlock] using he
  subst this
  exact Blk.ne_ hg hgg hne rfl
theorem Row.new (w : World) (cur : Array Value) (e : TypeId) (size n : Nat) (fz : Nat × Nat) (hfz : Free cur.size fz) (hm : n ≤ maxLen) (hs : cur.size = n * size) {base : Nat} (hb : base ≤ w.heap.size) :
  Row (w.alloc (.cells cur e fz)) base e size (.slice (some ⟨w.heap.size, 0, none⟩) n n) n cur.toList :=
 ⟨by simpa using hs, .inr ⟨w.heap.size, n, cur, fz, rfl, hb, heap_alloc_new w _, hfz, Nat.le_refl _, hm, hs, by rw [← hs, ← Array.length_toList, List.take_length]⟩⟩
end
theorem free_zero (n : Nat) : Free n (0, 0) := fun _ _ h => by have := h.2; dsimp only at this; omega
theorem free_end (n k : Nat) : Free n (n, k) := fun j hj h => by have := h.1; dsimp only at this; omega
theorem own_mem {i g o n c : Nat} : i ∈ (Value.ownBlock (.slice (some ⟨g, o, none⟩) n c)).toList ↔ i = g := by
 show i ∈ (some g).toList ↔ _
 simp [Option.toList]
theorem own_nil {i n c : Nat} : i ∈ (Value.ownBlock (.slice none n c)).toList ↔ False := by
 show i ∈ (none : Option Nat).toList ↔ _
 simp [Option.toList]
theorem mem_own {i : Nat} {v : Value} : i ∈ v.ownBlock.toList ↔ v.ownBlock = some i := by
 cases v.ownBlock <;> simp [Option.toList, eq_comm]
structure SlT (P : Program) (t e : TypeId) (size bytes : Nat) (z : Value) : Prop where
 und : P.underlying t = some (.slice e)
 info : (P.info? e).map (fun i => (i.zero, i.size, i.bytes)) = some (some z, size, bytes)
 zs : z.cells.size = size
 pos : 0 < size
 bpos : 0 < bytes
section
variable {P : Program}
theorem run_storeCells_free (g o : Nat) (t : TypeId) (fz : Nat × Nat) : ∀ (vs : List Value) (i : Nat) (cur : Array Value) (w : World), w.heap[g]? = some (.cells cur t fz) → Free cur.size fz → o + i + vs.length ≤ cur.size → (∀ v ∈ vs, v.oneCell' = true) →
  (storeCells ⟨g, o, none⟩ vs i).run P w = .ok () (w.setRow g (cur.toList.take (o + i) ++ vs ++ cur.toList.drop (o + i + vs.length)).toArray)
 | [], i, cur, w, hg, _, _, _ => by
  simp only [storeCells, List.append_nil, List.length_nil, Nat.add_zero, List.take_append_drop, Array.toArray_toList]
  rw [setRow_self w g cur t fz hg]
  rfl
 | v :: rest, i, cur, w, hg, hfz, hl, h1 => by
  have hi : o + i < cur.size := by simp at hl; omega
  have hcell : w.cell? ⟨g, o + i, none⟩ = some cur[o + i] := by simp [World.cell?, hg, hi]
  have hfro : w.frozen? ⟨g, o + i, none⟩ = false := by
   have h := hfz (o + i) hi
   obtain ⟨lo, hi'⟩ := fz
   simp only [World.frozen?, hg, Bool.and_eq_false_iff, decide_eq_false_iff_not]
   simp only at h
   omega
  have hst : (store ((⟨g, o, none⟩ : Addr).add i) v).run P w = .ok () (w.setRow g (cur.setIfInBounds (o + i) v)) := by
   rw [addr_add, run_store P w _ v _ (h1 v (by simp)), hcell]
   simp [hfro, setCell_eq_setRow w g (o + i) cur t fz v hg]
  have ih := run_storeCells_free g o t fz rest (i + 1) (cur.setIfInBounds (o + i) v) (w.setRow g (cur.setIfInBounds (o + i) v)) (setRow_heap w g cur _ t _ hg) (by simpa using hfz) (by simp at hl ⊢; omega) (fun x hx => h1 x (by simp [hx]))
  simp only [storeCells, Sem.run_bind, hst, Result.andThen_ok, ih, setRow_setRow]
  congr 3
  have e := list_seg_step cur.toList (o + i) v rest (by simp at hl ⊢; omega)
  simpa [Array.toList_setIfInBounds, Nat.add_assoc] using e
theorem run_app {t e : TypeId} {size bytes : Nat} {z : Value} (hT : SlT P t e size bytes z) (w : World) (ty : TypeId) (base : Nat) (v : Value) (n : Nat) (xs : List Value) (hown : Row w base e size v n xs)
  (A : Option Addr) (m c : Nat) (ys : List Value) (hl : ys.length = m * size) (hr : Rd w A ys) (h1 : ∀ u ∈ ys, u.oneCell' = true) (hA : A = none → m = 0)
  (hbytes : (n + m) * bytes ≤ 140737488355328) (hbase : base ≤ w.heap.size) :
  ∃ v' w', (Builtin.append_ #[t, t] ty #[v, .slice A m c]).run P w = .ok v' w' ∧ Row w' base e size v' (n + m) (xs ++ ys) ∧ Fr v.ownBlock.toList w w' ∧
   (∀ g, v'.ownBlock = some g → v.ownBlock = some g ∨ g = w.heap.size) ∧ (v' = .slice none 0 0 → v = .slice none 0 0 ∧ m = 0) := by
 obtain ⟨i, hi, hz, hsz, hby⟩ := info_parts hT.info
 have hzs := hT.zs
 have ht := hT.und
 have h63 : n + m ≤ maxLen := by
  have : n + m ≤ (n + m) * bytes := Nat.le_mul_of_pos_right _ hT.bpos
  unfold maxLen; omega
 have hlen : (xs ++ ys).length = (n + m) * size := by rw [List.length_append, hown.1, hl, Nat.add_mul]
 rcases Nat.eq_zero_or_pos m with rfl | hm
 ·have hy : ys = [] := List.eq_nil_of_length_eq_zero (by simpa using hl)
  subst hy
  refine ⟨v, w, ?_, by simpa using hown, Fr.refl _ _, fun g hg => .inl hg, fun h => ⟨h, rfl⟩⟩
  rcases hown.2 with ⟨rfl, rfl⟩ | ⟨g, cap, cur, fz, rfl, _, _, _, hnc, _⟩
  ·cases A with
   | none => simp [Builtin.append_, run_underlying ht, sizeOf, typeInfo, hi, Builtin.lenOf, Builtin.firstCells]
   | some ad =>
    have hf := run_firstCells_some (P := P) w i.size 0 ad 0 c [] (by simp) (by simp)
    simp [Builtin.append_, run_underlying ht, sizeOf, typeInfo, hi, Builtin.lenOf, hf]
  ·cases A with
   | none => simp [Builtin.append_, run_underlying ht, sizeOf, typeInfo, hi, Builtin.lenOf, Builtin.firstCells, hnc, storeCells]
   | some ad =>
    have hf := run_firstCells_some (P := P) w i.size 0 ad 0 c [] (by simp) (by simp)
    simp [Builtin.append_, run_underlying ht, sizeOf, typeInfo, hi, Builtin.lenOf, hf, hnc, storeCells]
 ·have hy : ys ≠ [] := by
   rintro rfl
   have := hT.pos
   have h0 : m * size = 0 := by simpa using hl.symm
   rcases Nat.mul_eq_zero.1 h0 with h | h <;> omega
  obtain ⟨ad, rfl, hnews⟩ := hr.cells hy
  subst hsz
  subst hby
  rcases hown.2 with ⟨rfl, rfl⟩ | ⟨g, cap, cur, fz, rfl, hbg, hg, hfz, hnc, hcm, hcs, htake⟩
  ·have hx : xs = [] := List.eq_nil_of_length_eq_zero (by simpa using hown.1)
   subst hx
   have hrun := run_append_nil (P := P) w t ty e i z ht hi hz ad m c ys hl hnews hm (by unfold maxLen at h63; omega) (by rw [Nat.zero_add] at hbytes; omega)
   have hge := grownCap_ge w m 0 e
   have hcm2 : grownCap w m 0 e ≤ maxLen := grownCap_le_maxLen w m 0 e (by omega)
   refine ⟨_, _, hrun, ⟨by simpa using hlen, .inr ⟨w.heap.size, _, _, (0, 0), by simp, hbase, heap_alloc_new w.drew _, free_zero _, by omega, hcm2, ?_, ?_⟩⟩, ((Fr.refl _ w).drew).alloc _, fun g hg => .inr (by simpa [Value.ownBlock] using hg.symm), fun h => by simp at h⟩
   ·simp only [Array.size_append, List.size_toArray, size_zeroCells, hzs, hl, ← Nat.add_mul]
    congr 1
    omega
   ·simp only [Array.toList_append, Nat.zero_add, List.nil_append]
    rw [← hl]
    exact List.take_left
  ·by_cases hroom : n + m ≤ cap
   ·have hfit : n * i.size + ys.length ≤ cur.size := by rw [hl, hcs, ← Nat.add_mul]; exact Nat.mul_le_mul_right _ hroom
    have hf := run_firstCells_some (P := P) w i.size m ad m c ys hl hnews
    have hst := run_storeCells_free (P := P) g (n * i.size) e fz ys 0 cur w hg hfz (by simpa using hfit) h1
    simp only [Nat.add_zero] at hst
    have hrun : (Builtin.append_ #[t, t] ty #[.slice (some ⟨g, 0, none⟩) n cap, .slice (some ad) m c]).run P w =
      .ok (.slice (some ⟨g, 0, none⟩) (n + m) cap) (w.setRow g (cur.toList.take (n * i.size) ++ ys ++ cur.toList.drop (n * i.size + ys.length)).toArray) := by
     simp [Builtin.append_, run_underlying ht, sizeOf, typeInfo, hi, Builtin.lenOf, hroom, hf, addr_add, hst]
    refine ⟨_, _, hrun, ⟨hlen, .inr ⟨g, cap, _, fz, rfl, hbg, setRow_heap w g cur _ e _ hg, ?_, hroom, hcm, ?_, ?_⟩⟩, (Fr.refl _ w).setRow (.inl (by simp [Value.ownBlock])) _, fun g' hg' => .inl hg', fun h => by simp at h⟩
    ·have e1 : (cur.toList.take (n * i.size) ++ ys ++ cur.toList.drop (n * i.size + ys.length)).toArray.size = cur.size := by
      simp only [List.size_toArray, List.length_append, List.length_take, List.length_drop, Array.length_toList]
      omega
     rw [e1]; exact hfz
    ·simp only [List.size_toArray, List.length_append, List.length_take, List.length_drop, Array.length_toList]
     omega
    ·rw [htake, ← hlen]
     exact List.take_left
   ·have holds : ∀ j u, xs[j]? = some u → w.cell? ((⟨g, 0, none⟩ : Addr).add j) = some u := fun j u hu => by
     rw [addr_add, cell_of_row w g (0 + j) cur e fz hg, Nat.zero_add]
     rw [← htake, List.getElem?_take] at hu
     split at hu
     ·simpa using hu
     ·cases hu
    have hrun := run_append_grow (P := P) w t ty e i z ht hi hz ⟨g, 0, none⟩ n cap xs hown.1 holds ad m c ys hl hnews (by omega) (by unfold maxLen at h63; omega) (growslice_fits (by omega) hbytes)
    have hge := grownCap_ge w (n + m) cap e
    have hcm2 : grownCap w (n + m) cap e ≤ maxLen := grownCap_le_maxLen w (n + m) cap e h63
    refine ⟨_, _, hrun, ⟨hlen, .inr ⟨w.heap.size, _, _, (0, 0), rfl, hbase, heap_alloc_new w.drew _, free_zero _, hge, hcm2, ?_, ?_⟩⟩, ((Fr.refl _ w).drew).alloc _, fun g hg => .inr (by simpa [Value.ownBlock] using hg.symm), fun h => by simp at h⟩
    ·simp only [Array.size_append, List.size_toArray, size_zeroCells, hzs, hown.1, hl, ← Nat.add_mul]
     congr 1
     omega
    ·simp only [Array.toList_append, List.append_assoc]
     rw [← List.append_assoc, ← hlen]
     exact List.take_left
theorem wp_app {o : Oper} {a : Act} {w : World} {K : Act → World → Prop} {Q : Exit → Act → World → Prop} {s x : Operand} {t e : TypeId} {size bytes : Nat} {z : Value}
  (ho : o.op = .call { callee := .builtin .append, args := #[s, x], argTypes := #[t, t] }) (hT : SlT P t e size bytes z) (base : Nat) (v : Value) (n : Nat) (xs : List Value) (hs : a.eval s = v) (hown : Row w base e size v n xs)
  (A : Option Addr) (m c : Nat) (ys : List Value) (hx : a.eval x = .slice A m c) (hl : ys.length = m * size) (hr : Rd w A ys) (h1 : ∀ u ∈ ys, u.oneCell' = true) (hA : A = none → m = 0)
  (hbytes : (n + m) * bytes ≤ 140737488355328) (hbase : base ≤ w.heap.size)
  (h : ∀ v' w', Row w' base e size v' (n + m) (xs ++ ys) → Fr v.ownBlock.toList w w' → (∀ g, v'.ownBlock = some g → v.ownBlock = some g ∨ g = w.heap.size) → (v' = .slice none 0 0 → v = .slice none 0 0 ∧ m = 0) → K (a.put o.dst v') w') :
  o.wp P a w K Q := by
 obtain ⟨v', w', hrun, h2, h3, h4, h5⟩ := run_app hT w o.type base v n xs hown A m c ys hl hr h1 hA hbytes hbase
 unfold Oper.wp execOp
 simp only [ho, resolve, invoke, builtin, Sem.run_bind, Sem.run_pure, Result.andThen_ok, List.map_toArray, List.map_cons, List.map_nil, hs, hx, hrun]
 exact h v' w' h2 h3 h4 h5
theorem wpList_app {ops : Array Oper} {rest : List Oper} {o : Oper} {a : Act} {w : World} {Q : Exit → Act → World → Prop} {s x : Operand} {t e : TypeId} {size bytes : Nat} {z : Value}
  (hgd : o.guard = none) (ho : o.op = .call { callee := .builtin .append, args := #[s, x], argTypes := #[t, t] }) (hT : SlT P t e size bytes z) (base : Nat) (v : Value) (n : Nat) (xs : List Value) (hs : a.eval s = v) (hown : Row w base e size v n xs)
  (A : Option Addr) (m c : Nat) (ys : List Value) (hx : a.eval x = .slice A m c) (hl : ys.length = m * size) (hr : Rd w A ys) (h1 : ∀ u ∈ ys, u.oneCell' = true) (hA : A = none → m = 0)
  (hbytes : (n + m) * bytes ≤ 140737488355328) (hbase : base ≤ w.heap.size)
  (h : ∀ v' w', Row w' base e size v' (n + m) (xs ++ ys) → Fr v.ownBlock.toList w w' → (∀ g, v'.ownBlock = some g → v.ownBlock = some g ∨ g = w.heap.size) → (v' = .slice none 0 0 → v = .slice none 0 0 ∧ m = 0) → wpList P ops Q rest (a.put o.dst v') w') :
  wpList P ops Q (o :: rest) a w :=
 wpList_plain hgd fun _ hK => wp_app ho hT base v n xs hs hown A m c ys hx hl hr h1 hA hbytes hbase fun v' w' h2 h3 h4 h5 => hK _ _ (h v' w' h2 h3 h4 h5)
theorem step_app {ops : Array Oper} {o : Oper} {a : Act} {w : World} {K : Act → World → Prop} {Q : Exit → Act → World → Prop} {E : Prop} {s x : Operand} {t e : TypeId} {size bytes : Nat} {z : Value}
  (hgd : o.guard = none) (ho : o.op = .call { callee := .builtin .append, args := #[s, x], argTypes := #[t, t] }) (hT : SlT P t e size bytes z) (base : Nat) (v : Value) (n : Nat) (xs : List Value) (hs : a.eval s = v) (hown : Row w base e size v n xs)
  (A : Option Addr) (m c : Nat) (ys : List Value) (hx : a.eval x = .slice A m c) (hl : ys.length = m * size) (hr : Rd w A ys) (h1 : ∀ u ∈ ys, u.oneCell' = true) (hA : A = none → m = 0)
  (hbytes : (n + m) * bytes ≤ 140737488355328) (hbase : base ≤ w.heap.size)
  (h : ∀ v' w', Row w' base e size v' (n + m) (xs ++ ys) → Fr v.ownBlock.toList w w' → (∀ g, v'.ownBlock = some g → v.ownBlock = some g ∨ g = w.heap.size) → (v' = .slice none 0 0 → v = .slice none 0 0 ∧ m = 0) → K (a.put o.dst v') w') :
  if Region.wanted o (yielded ops a.tmps) = true then o.wp P a w K Q else E := by
 have hw : Region.wanted o (yielded ops a.tmps) = true := by simp [Region.wanted, hgd]
 rw [if_pos hw]
 exact wp_app ho hT base v n xs hs hown A m c ys hx hl hr h1 hA hbytes hbase h
end
end
end Go.Proofs.YtbanogfljpkbkaaGreatDoor
