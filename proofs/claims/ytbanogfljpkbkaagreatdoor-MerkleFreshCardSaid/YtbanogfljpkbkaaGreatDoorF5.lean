/-
  Texts of this claim, one behind the other: MapZ, DkLay, KeyL, SrLay, SrK, SrZb.
-/
import Derived.Test.YtbanogfljpkbkaaGreatDoorF2
import Derived.Test.YtbanogfljpkbkaaGreatDoorProg
import Derived.Maps.Own
import Derived.Maps.OwnOps
import Derived.Maps.OwnSet
import Derived.Maps.RangeWalk
import Derived.Shelf.SlIterI.Nil
import Derived.Ground.GgzProg
import Derived.Shelf.SortM.Plain
import Derived.Shelf.SortM.SortNone
import Derived.Ground.SlgmProg
set_option linter.unusedSimpArgs false
set_option linter.unusedVariables false
set_option linter.unnecessarySimpa false
namespace Go.Proofs.YtbanogfljpkbkaaGreatDoor
section
open Go.RowKit Go.Maps Go.ChangeMaps Go.MapKept
def rawV (v : Value) : Option (DataW Value × List MemPlace) := some (.held v, [])
theorem keyZ : Keyed Tryz.prog 3 := int_keyed Tryz.underlying3
def wfZ (x : Int) : Prop := (Lit.int .i64 x).wf = true
theorem wfZ_of {x : Int} (h : -9223372036854775808 ≤ x ∧ x ≤ 9223372036854775807) : wfZ x := by
 simp [wfZ, Lit.wf, IntKind.min, IntKind.max, IntKind.signed, IntKind.bits]
 exact h
theorem wfZ_b {x : Int} (h : wfZ x) : -9223372036854775808 ≤ x ∧ x ≤ 9223372036854775807 := by
 simp [wfZ, Lit.wf, IntKind.min, IntKind.max, IntKind.signed, IntKind.bits] at h
 exact h
theorem keyZ_of {x : Int} (h : wfZ x) : keyOf Tryz.prog 3 (.int .i64 x) = some (.int .i64 x) := keyOf_int_mk Tryz.underlying3 h
def AsF (D : DataW Value) (f : Int → Option Value) : Prop := ∀ x, wfZ x → Maps.has D (.int .i64 x) = (f x).isSome ∧ ∀ v, f x = some v → ∀ z, D.atKey (.int .i64 x) z = .held v
theorem AsF.at {D : DataW Value} {f : Int → Option Value} (h : AsF D f) {x : Int} (hx : wfZ x) (z : Value) : D.atKey (.int .i64 x) (.held z) = .held ((f x).getD z) := by
 obtain ⟨h1, h2⟩ := h x hx
 cases hf : f x with
 | none => rw [hf] at h1; rw [atKey_of_not_has h1]; rfl
 | some v => rw [h2 v hf]; rfl
def fput (f : Int → Option Value) (x : Int) (v : Value) : Int → Option Value := fun y => if y = x then some v else f y
def fdel (f : Int → Option Value) (x : Int) : Int → Option Value := fun y => if y = x then none else f y
theorem lit_ne {x y : Int} (h : y ≠ x) : Lit.int .i64 y ≠ Lit.int .i64 x := fun e => by injection e with _ e; exact h e
theorem AsF.put {D : DataW Value} {f : Int → Option Value} (h : AsF D f) (hD : IsMap D) (x : Int) (v : Value) : AsF (D.put (.int .i64 x) (.held v)) (fput f x v) := fun y hy => by
 unfold fput
 by_cases e : y = x
 ·subst e
  rw [if_pos rfl, has_put_same (k := .int .i64 y) hD trivial]
  exact ⟨rfl, fun u hu z => by cases hu; exact atKey_put_same (k := .int .i64 y) hD trivial _ _⟩
 ·rw [if_neg e, has_put_other (lit_ne e)]
  exact ⟨(h y hy).1, fun u hu z => by rw [atKey_put_other (lit_ne e)]; exact (h y hy).2 u hu z⟩
theorem AsF.del {D : DataW Value} {f : Int → Option Value} (h : AsF D f) (x : Int) : AsF (D.del (.int .i64 x)) (fdel f x) := fun y hy => by
 unfold fdel
 by_cases e : y = x
 ·subst e
  rw [if_pos rfl, has_del_same]
  exact ⟨rfl, fun u hu => by cases hu⟩
 ·rw [if_neg e, has_del_other (lit_ne e)]
  exact ⟨(h y hy).1, fun u hu z => by rw [atKey_del_other (lit_ne e)]; exact (h y hy).2 u hu z⟩
theorem AsF.nil : AsF (.map []) (fun _ => none) := fun x _ => ⟨rfl, fun v h => by cases h⟩
theorem AsF.eq {D : DataW Value} {f g : Int → Option Value} (h : AsF D f) (e : ∀ x, wfZ x → f x = g x) : AsF D g := fun x hx => by
 rw [← e x hx]; exact h x hx
def MapZ (w : World) (b n : Nat) (f : Int → Option Value) : Prop := ∃ D : DataW Value, w.ownsMap Tryz.prog 3 rawV b n D ∧ AsF D f
section
variable {w w' : World} {b n : Nat} {f : Int → Option Value}
theorem MapZ.lt (h : MapZ w b n f) : b < w.heap.size := by obtain ⟨D, h, _⟩ := h; exact h.lt
theorem MapZ.blk_eq (h : MapZ w b n f) (e : w'.heap[b]? = w.heap[b]?) : MapZ w' b n f := by
 obtain ⟨D, ⟨es, clock, hb, r⟩, hf⟩ := h
 exact ⟨D, ⟨es, clock, e.trans hb, r⟩, hf⟩
theorem MapZ.keep (h : MapZ w b n f) {F : List Nat} (hf : Fr F w w') (hb : b ∉ F) : MapZ w' b n f := h.blk_eq (hf.same b h.lt hb)
theorem MapZ.keep_nil (h : MapZ w b n f) (hf : Fr [] w w') : MapZ w' b n f := h.keep hf (by simp)
theorem MapZ.mono (h : MapZ w b n f) {m : Nat} (hm : n ≤ m) : MapZ w b m f := by
 obtain ⟨D, h, hf⟩ := h
 exact ⟨D, h.mono hm, hf⟩
theorem MapZ.eq (h : MapZ w b n f) {g : Int → Option Value} (e : ∀ x, wfZ x → f x = g x) : MapZ w b n g := by
 obtain ⟨D, h, hf⟩ := h
 exact ⟨D, h, hf.eq e⟩
theorem MapZ.made (w : World) : MapZ (w.alloc (.map #[] 0)) w.heap.size 0 (fun _ => none) := ⟨_, World.ownsMap_made _ _ _ _, AsF.nil⟩
theorem MapZ.no_cell (h : MapZ w b n f) (i : Nat) : w.cell? ⟨b, i, none⟩ = none := by
 obtain ⟨D, ⟨es, clock, hb, _⟩, _⟩ := h
 simp [World.cell?, hb]
theorem grown_frZ {b : Nat} (h : w.grownBy w' (some b)) : Fr [b] w w' := ⟨h.os, h.tape, h.output, h.size, fun k hk hn => h.block k hk (by simp at hn; simpa using hn)⟩
theorem grown_frN (h : w.grownBy w' none) : Fr [] w w' := ⟨h.os, h.tape, h.output, h.size, fun k hk hn => h.block k hk (by simp)⟩
theorem MapZ.look (h : MapZ w b n f) {t e : TypeId} (ht : Tryz.prog.underlying t = some (.map 3 e)) {z : Value} (hz : (zeroValue e).run Tryz.prog w = .ok z w) {x : Int} (hx : wfZ x) :
  (Instr.lookup t (.map (some b)) (.int .i64 x) false).run Tryz.prog w = .ok ((f x).getD z) w := by
 obtain ⟨D, h, hf⟩ := h
 obtain ⟨v, ps, hrun, hv⟩ := h.lookup keyZ ht hz (zd := .held z) (zp := []) rfl (keyZ_of hx)
 rw [hf.at hx] at hv
 simp only [rawV, Option.some.injEq, Prod.mk.injEq, DataW.held.injEq] at hv
 rw [hrun, hv.1]
theorem MapZ.look_ok (h : MapZ w b n f) {t e : TypeId} (ht : Tryz.prog.underlying t = some (.map 3 e)) {z : Value} (hz : (zeroValue e).run Tryz.prog w = .ok z w) {x : Int} (hx : wfZ x) :
  (Instr.lookup t (.map (some b)) (.int .i64 x) true).run Tryz.prog w = .ok (.tuple #[(f x).getD z, .bool (f x).isSome]) w := by
 obtain ⟨D, h, hf⟩ := h
 obtain ⟨v, ps, hrun, hv⟩ := h.look_ok keyZ ht hz (zd := .held z) (zp := []) rfl (keyZ_of hx)
 rw [hf.at hx] at hv
 simp only [rawV, Option.some.injEq, Prod.mk.injEq, DataW.held.injEq] at hv
 rw [hrun, hv.1, (hf x hx).1]
theorem MapZ.put (h : MapZ w b n f) {t e : TypeId} (ht : Tryz.prog.underlying t = some (.map 3 e)) (hn : n < maxLen) {x : Int} (hx : wfZ x) (v : Value) :
  ∃ w', (Instr.mapUpdate t (.map (some b)) (.int .i64 x) v).run Tryz.prog w = .ok () w' ∧ MapZ w' b (n + 1) (fput f x v) ∧ Fr [b] w w' ∧ w'.heap.size = w.heap.size := by
 obtain ⟨D, h, hf⟩ := h
 obtain ⟨w', hrun, ho, hg⟩ := h.store keyZ ht hn (val := v) (d := .held v) (ps := []) (keyZ_of hx) rfl
 refine ⟨w', hrun, ⟨_, ho, hf.put h.isMap x v⟩, grown_frZ hg.grown, ?_⟩
 obtain ⟨_, _, _, _, _, rfl⟩ := hg
 simp [setBlock]
theorem MapZ.del (h : MapZ w b n f) {t e : TypeId} (ht : Tryz.prog.underlying t = some (.map 3 e)) {x : Int} (hx : wfZ x) (ty : TypeId) :
  ∃ w', (Builtin.delete_ #[t, 3] ty #[.map (some b), .int .i64 x]).run Tryz.prog w = .ok (.tuple #[]) w' ∧ MapZ w' b n (fdel f x) ∧ Fr [b] w w' ∧ w'.heap.size = w.heap.size := by
 obtain ⟨D, h, hf⟩ := h
 obtain ⟨w', hrun, ho, hg⟩ := h.drop keyZ ht (keyZ_of hx) ty
 refine ⟨w', hrun, ⟨_, ho, hf.del x⟩, grown_frZ hg.grown, ?_⟩
 obtain ⟨_, _, _, _, _, rfl⟩ := hg
 simp [setBlock]
theorem MapZ.clear (h : MapZ w b n f) {t e : TypeId} (ht : Tryz.prog.underlying t = some (.map 3 e)) (ty : TypeId) :
  ∃ w', (Builtin.clear_ #[t] ty #[.map (some b)]).run Tryz.prog w = .ok (.tuple #[]) w' ∧ MapZ w' b 0 (fun _ => none) ∧ Fr [b] w w' ∧ w'.heap.size = w.heap.size := by
 obtain ⟨D, ⟨es, clock, hb, _⟩, _⟩ := h
 refine ⟨setBlock w b (.map #[] clock), ?_, ⟨.map [], ⟨#[], clock, heap_setBlock_same hb _, ⟨by simp, stamped_empty clock, by simp⟩, Nat.le_refl _, rfl⟩, AsF.nil⟩, ⟨rfl, rfl, rfl, by simp [setBlock], fun i _ hi => heap_setBlock_other hb _ (fun e => hi (by simp [e]))⟩, by simp [setBlock]⟩
 simp [Builtin.clear_, run_underlying ht, MapKept.run_getObj_map hb, MapKept.run_setObj_map _ hb, Result.andThen, setBlock]
theorem pigeon : ∀ (K : Nat) (l : List Nat), l.Nodup → (∀ x ∈ l, x < K) → l.length ≤ K
 | 0, l, _, h => by
  cases l with
  | nil => simp
  | cons x r => exact absurd (h x (by simp)) (by omega)
 | K + 1, l, hn, h => by
  by_cases hm : K ∈ l
  ·have h1 := pigeon K (l.erase K) (hn.erase K) (fun x hx => by
    have h2 := hn.mem_erase_iff.1 hx
    have := h x h2.2
    have := h2.1
    omega)
   rw [List.length_erase_of_mem hm] at h1
   omega
  ·have h1 := pigeon K l hn (fun x hx => by
    have := h x hx
    have : x ≠ K := fun e => hm (e ▸ hx)
    omega)
   omega
theorem MapZ.tight (h : MapZ w b n f) {K : Nat} (hk : ∀ x, wfZ x → f x ≠ none → 0 ≤ x ∧ x < K) : MapZ w b K f := by
 obtain ⟨D, ⟨es, clock, hb, F, hs, hD⟩, hf⟩ := h
 refine ⟨D, ⟨es, clock, hb, F, ?_, hD⟩, hf⟩
 have ap := fit_apart keyZ F
 have ks := fit_keys F
 have key : ∀ p ∈ es.toList.map (WideElems.rg Tryz.prog 3 rawV), ∃ x : Nat, p.1 = .int .i64 x ∧ x < K := by
  intro p hp
  obtain ⟨v, hv⟩ := ks p hp
  obtain ⟨x, rfl, e, hw⟩ := Maps.keyOf_int_inv Tryz.underlying3 hv
  have hh : Maps.has D (.int .i64 x) = true := by
   rw [hD]
   exact List.any_eq_true.2 ⟨p, mem_sorted.2 hp, by rw [e]; exact WideAt.sameKey_self (a := .int .i64 x) trivial⟩
  have h1 := (hf x hw).1
  rw [hh] at h1
  obtain ⟨h2, h3⟩ := hk x hw (fun e => by rw [e] at h1; cases h1)
  exact ⟨x.toNat, e.trans (congrArg (Lit.int .i64) (by omega)), by omega⟩
 have hl : ((es.toList.map (WideElems.rg Tryz.prog 3 rawV)).map (fun p => match p.1 with | .int _ z => z.toNat | _ => 0)).length ≤ K := by
  apply pigeon
  ·rw [List.nodup_iff_pairwise_ne, List.pairwise_map]
   refine List.Pairwise.imp_of_mem (fun {p q} hp hq hne => ?_) ap
   obtain ⟨x, e1, _⟩ := key p hp
   obtain ⟨y, e2, _⟩ := key q hq
   rw [e1, e2] at hne ⊢
   intro e
   apply hne
   have : x = y := by simpa using e
   rw [this]
  ·intro x hx
   obtain ⟨p, hp, rfl⟩ := List.mem_map.1 hx
   obtain ⟨y, e1, hy⟩ := key p hp
   rw [e1]
   simpa using hy
 simpa using hl
def RangeZ (w : World) (b r n : Nat) (f : Int → Option Value) (left : Int → Bool) (cnt : Nat) : Prop :=
 ∃ (D : DataW Value) (lf : Lit → Bool), w.ranges Tryz.prog 3 rawV b r n D lf cnt ∧ AsF D f ∧ ∀ x, wfZ x → lf (.int .i64 x) = left x
theorem RangeZ.map {r : Nat} {left : Int → Bool} {cnt : Nat} (h : RangeZ w b r n f left cnt) : MapZ w b n f := by
 obtain ⟨D, lf, h, hf, _⟩ := h
 exact ⟨D, h.owns, hf⟩
theorem RangeZ.left_eq {r : Nat} {left : Int → Bool} {cnt : Nat} (h : RangeZ w b r n f left cnt) : w.rangeLeft b r = cnt := by
 obtain ⟨D, lf, h, hf, _⟩ := h
 exact h.left_eq
theorem RangeZ.keep {r : Nat} {left : Int → Bool} {cnt : Nat} (h : RangeZ w b r n f left cnt) {F : List Nat} (hf : Fr F w w') (hb : b ∉ F) (hr : r ∉ F) : RangeZ w' b r n f left cnt := by
 obtain ⟨D, lf, h, h2, h3⟩ := h
 refine ⟨D, lf, ?_, h2, h3⟩
 have hlb := h.owns.lt
 have hlr := h.lt
 obtain ⟨es, clock, since, seen, c0, k1, k2, k3, k4, k5, k6⟩ := h
 exact ⟨es, clock, since, seen, c0, (hf.same b hlb hb).trans k1, k2, k3, k4, (hf.same r hlr hr).trans k5, k6⟩
end
section
variable {w : World} {ops : Array Oper} {rest : List Oper} {o : Oper} {a : Act} {Q : Exit → Act → World → Prop} {b n : Nat} {f : Int → Option Value}
theorem wpList_lookZ (hg : o.guard = none) {m x : Operand} {t e : TypeId} (hop : o.op = Op.lookup t m x false) (ht : Tryz.prog.underlying t = some (.map 3 e)) {z : Value} (hz : (zeroValue e).run Tryz.prog w = .ok z w)
  (hm : a.eval m = .map (some b)) (h : MapZ w b n f) (k : Int) (hx : a.eval x = .int .i64 k) (hk : wfZ k) (hK : wpList Tryz.prog ops Q rest (a.put o.dst ((f k).getD z)) w) : wpList Tryz.prog ops Q (o :: rest) a w := by
 refine wpList_plain hg fun K' hK' => ?_
 have hrun := h.look ht hz hk
 unfold Oper.wp
 simp [execOp, hop, hm, hx, hrun, Result.andThen]
 exact hK' _ _ hK
theorem wpList_lookOkZ (hg : o.guard = none) {m x : Operand} {t e : TypeId} (hop : o.op = Op.lookup t m x true) (ht : Tryz.prog.underlying t = some (.map 3 e)) {z : Value} (hz : (zeroValue e).run Tryz.prog w = .ok z w)
  (hm : a.eval m = .map (some b)) (h : MapZ w b n f) (k : Int) (hx : a.eval x = .int .i64 k) (hk : wfZ k) (hK : wpList Tryz.prog ops Q rest (a.put o.dst (.tuple #[(f k).getD z, .bool (f k).isSome])) w) : wpList Tryz.prog ops Q (o :: rest) a w := by
 refine wpList_plain hg fun K' hK' => ?_
 have hrun := h.look_ok ht hz hk
 unfold Oper.wp
 simp [execOp, hop, hm, hx, hrun, Result.andThen]
 exact hK' _ _ hK
theorem wpList_putZ (hg : o.guard = none) {m x v : Operand} {t e : TypeId} (hop : o.op = Op.mapUpdate t m x v) (ht : Tryz.prog.underlying t = some (.map 3 e))
  (hm : a.eval m = .map (some b)) (h : MapZ w b n f) (hn : n < maxLen) (k : Int) (hx : a.eval x = .int .i64 k) (hk : wfZ k) (u : Value) (hv : a.eval v = u)
  (hK : ∀ w', MapZ w' b (n + 1) (fput f k u) → Fr [b] w w' → w'.heap.size = w.heap.size → wpList Tryz.prog ops Q rest (a.put o.dst undef) w') : wpList Tryz.prog ops Q (o :: rest) a w := by
 refine wpList_plain hg fun K' hK' => ?_
 obtain ⟨w', hrun, h1, h2, h3⟩ := h.put ht hn hk u
 unfold Oper.wp
 simp [execOp, hop, hm, hx, hv, hrun, Result.andThen]
 exact hK' _ _ (hK w' h1 h2 h3)
theorem wpList_delZ (hg : o.guard = none) {m x : Operand} {t e : TypeId} (hop : o.op = Op.call { callee := Callee.builtin Builtin.delete, args := #[m, x], argTypes := #[t, 3] }) (ht : Tryz.prog.underlying t = some (.map 3 e))
  (hm : a.eval m = .map (some b)) (h : MapZ w b n f) (k : Int) (hx : a.eval x = .int .i64 k) (hk : wfZ k)
  (hK : ∀ w', MapZ w' b n (fdel f k) → Fr [b] w w' → w'.heap.size = w.heap.size → wpList Tryz.prog ops Q rest (a.put o.dst (.tuple #[])) w') : wpList Tryz.prog ops Q (o :: rest) a w := by
 refine wpList_plain hg fun K' hK' => ?_
 obtain ⟨w', hrun, h1, h2, h3⟩ := h.del ht hk o.type
 unfold Oper.wp
 simp [execOp, hop, resolve, invoke, builtin, hm, hx, hrun, Result.andThen]
 exact hK' _ _ (hK w' h1 h2 h3)
theorem wpList_clearZ (hg : o.guard = none) {m : Operand} {t e : TypeId} (hop : o.op = Op.call { callee := Callee.builtin Builtin.clear, args := #[m], argTypes := #[t] }) (ht : Tryz.prog.underlying t = some (.map 3 e))
  (hm : a.eval m = .map (some b)) (h : MapZ w b n f)
  (hK : ∀ w', MapZ w' b 0 (fun _ => none) → Fr [b] w w' → w'.heap.size = w.heap.size → wpList Tryz.prog ops Q rest (a.put o.dst (.tuple #[])) w') : wpList Tryz.prog ops Q (o :: rest) a w := by
 refine wpList_plain hg fun K' hK' => ?_
 obtain ⟨w', hrun, h1, h2, h3⟩ := h.clear ht o.type
 unfold Oper.wp
 simp [execOp, hop, resolve, invoke, builtin, hm, hrun, Result.andThen]
 exact hK' _ _ (hK w' h1 h2 h3)
theorem wpList_rangeZ (hg : o.guard = none) {m : Operand} {t e : TypeId} (hop : o.op = Op.range t m) (ht : Tryz.prog.underlying t = some (.map 3 e)) (hm : a.eval m = .map (some b)) (h : MapZ w b n f)
  (hK : ∀ w' cnt, RangeZ w' b w.heap.size n f (fun x => (f x).isSome) cnt → Fr [] w w' → w'.heap.size = w.heap.size + 1 → wpList Tryz.prog ops Q rest (a.put o.dst (.pointer (some ⟨w.heap.size, 0, none⟩))) w') : wpList Tryz.prog ops Q (o :: rest) a w := by
 obtain ⟨D, h, hf⟩ := h
 exact wpList_range_own w hg m t hop 3 e keyZ ht rawV b n D hm h fun w' h1 h2 h3 => hK w' _ ⟨D, _, h1, hf, fun x hx => (hf x hx).1⟩ (grown_frN h2) h3
theorem same_litZ (x y : Int) : (Lit.int .i64 y).sameKey (.int .i64 x) = (y == x) := by
 by_cases e : y = x
 ·subst e
  rw [WideAt.sameKey_self (a := .int .i64 y) trivial]; simp
 ·rw [sameKey_ne (lit_ne e)]
  simp [e]
theorem wpList_nextZ (hg : o.guard = none) {it : Operand} (hop : o.op = Op.next it false) {r : Nat} {left : Int → Bool} {cnt : Nat} (hit : a.eval it = .pointer (some ⟨r, 0, none⟩)) (h : RangeZ w b r n f left cnt)
  (hDone : (∀ x, wfZ x → left x = false) → wpList Tryz.prog ops Q rest (a.put o.dst (.tuple #[.bool false])) w)
  (hMore : ∀ (x : Int) (v : Value) (w' : World) (cnt' : Nat), wfZ x → left x = true → f x = some v → RangeZ w' b r n f (fun y => left y && !(y == x)) cnt' → cnt' < cnt → Fr [r] w w' → w'.heap.size = w.heap.size →
   (Instr.entry (.pointer (some ⟨r, 0, none⟩))).run Tryz.prog w' = .ok (.tuple #[.int .i64 x, v]) w' → wpList Tryz.prog ops Q rest (a.put o.dst (.tuple #[.bool true, .int .i64 x, v])) w') : wpList Tryz.prog ops Q (o :: rest) a w := by
 obtain ⟨D, lf, h, hf, hl⟩ := h
 refine wpList_next_ranges w hg it hop 3 keyZ rawV (Value.int .i64) (fun v : Value => v) (fun key kl hk => by obtain ⟨x, rfl, _⟩ := Maps.keyOf_int_inv Tryz.underlying3 hk; exact ⟨x, rfl⟩) (fun v y _ => ⟨v, rfl⟩) b r n D lf cnt hit h (fun _ hl0 => hDone fun x hx => by rw [← hl x hx]; exact hl0 _) ?_
 intro x c kl y w' cnt' hk hlk hv hat hrg hlt hgr hsz hen
 obtain ⟨x', ex, rfl, hwx⟩ := Maps.keyOf_int_inv Tryz.underlying3 hk
 cases ex
 have hvc : y.1 = .held c := by
  simp only [rawV, Option.some.injEq] at hv
  rw [← hv]
 have hfx : f x = some c := by
  have h1 := (hf x hwx).1
  have hh : Maps.has D (.int .i64 x) = true := has_true_of_atKey (y := .held c) fun z => by rw [hat, hvc]
  rw [hh] at h1
  cases hfx : f x with
  | none => rw [hfx] at h1; cases h1
  | some u =>
   have h2 := (hf x hwx).2 u hfx (.held c)
   rw [hat, hvc] at h2
   rw [DataW.held.inj h2]
 exact hMore x c w' cnt' hwx (by rw [← hl x hwx]; exact hlk) hfx ⟨D, _, hrg, hf, fun z hz => by rw [hl z hz, same_litZ]⟩ hlt (grown_frZ hgr) hsz hen
end
end
section
open Go.Shelf
def Tryz.sortedA_ren : Go.Shelf.Ren := ⟨fun | 6 => 88 | 8 => 138 | 9 => 139 | 11 => 189 | 13 => 191 | 12 => 190 | 23 => 219 | 24 => 220 | 14 => 210 | 15 => 211 | 16 => 212 | 17 => 213 | 18 => 214 | 19 => 215 | 20 => 216 | 21 => 217 | 22 => 218 | 25 => 228 | 26 => 229 | 27 => 230 | 28 => 231 | 29 => 232 | 30 => 233 | 31 => 236 | n => n, fun | 26 => 3 | 28 => 153 | 24 => 36 | 0 => 0 | 3 => 3 | 37 => 161 | 48 => 156 | 50 => 57 | 4 => 4 | 40 => 235 | 39 => 234 | 45 => 240 | 5 => 5 | 9 => 9 | 51 => 249 | 55 => 253 | 57 => 257 | 58 => 258 | 33 => 165 | n => n, fun | n => n⟩
theorem Tryz.sortedA : Go.Proofs.SlLaysZI.n6 Tryz.prog Tryz.sortedA_ren := {
 mixed := by kernel_rfl
 f6 := ⟨Tryz.f88.name, by decide, Tryz.func88.trans (congrArg some (by kernel_rfl))⟩
 f8 := ⟨Tryz.f138.name, by decide, Tryz.func138.trans (congrArg some (by kernel_rfl))⟩
 f11 := ⟨Tryz.f189.name, by decide, Tryz.func189.trans (congrArg some (by kernel_rfl))⟩
 t0 := Tryz.underlying0
 a0 := Tryz.isAgg0
 z0 := Tryz.sizeOf0
 v0 := Tryz.zeroValue0
 t24 := Tryz.underlying36
 a24 := Tryz.isAgg36
 z24 := Tryz.sizeOf36
 v24 := Tryz.zeroValue36
 t26 := Tryz.underlying3
 a26 := Tryz.isAgg3
 z26 := Tryz.sizeOf3
 v26 := Tryz.zeroValue3
 t28 := Tryz.underlying153
 a28 := Tryz.isAgg153
 z28 := Tryz.sizeOf153
 v28 := Tryz.zeroValue153
 i26 := by kernel_rfl }
def Tryz.sortA_ren : Go.Shelf.Ren := ⟨fun | 5 => 139 | 8 => 191 | 7 => 190 | 19 => 219 | 20 => 220 | 10 => 210 | 11 => 211 | 12 => 212 | 13 => 213 | 14 => 214 | 15 => 215 | 16 => 216 | 17 => 217 | 18 => 218 | 30 => 228 | 31 => 229 | 32 => 230 | 33 => 231 | 34 => 232 | 35 => 233 | 40 => 236 | n => n, fun | 23 => 36 | 25 => 3 | 3 => 3 | 32 => 161 | 22 => 36 | 0 => 0 | 44 => 156 | 46 => 57 | 4 => 4 | 36 => 235 | 35 => 234 | 41 => 240 | 5 => 5 | 9 => 9 | 53 => 249 | 57 => 253 | 63 => 257 | 64 => 258 | n => n, fun | n => n⟩
theorem Tryz.sortA : Go.Proofs.SlLaysM.n5 Tryz.prog Tryz.sortA_ren := {
 mixed := by kernel_rfl
 f5 := ⟨Tryz.f139.name, by decide, Tryz.func139.trans (congrArg some (by kernel_rfl))⟩
 f7 := ⟨Tryz.f190.name, by decide, Tryz.func190.trans (congrArg some (by kernel_rfl))⟩
 f8 := Tryz.func191.trans (congrArg some (by kernel_rfl))
 f10 := ⟨Tryz.f210.name, by decide, Tryz.func210.trans (congrArg some (by kernel_rfl))⟩
 f11 := ⟨Tryz.f211.name, by decide, Tryz.func211.trans (congrArg some (by kernel_rfl))⟩
 f12 := ⟨Tryz.f212.name, by decide, Tryz.func212.trans (congrArg some (by kernel_rfl))⟩
 f13 := ⟨Tryz.f213.name, by decide, Tryz.func213.trans (congrArg some (by kernel_rfl))⟩
 f14 := ⟨Tryz.f214.name, by decide, Tryz.func214.trans (congrArg some (by kernel_rfl))⟩
 f15 := ⟨Tryz.f215.name, by decide, Tryz.func215.trans (congrArg some (by kernel_rfl))⟩
 f16 := ⟨Tryz.f216.name, by decide, Tryz.func216.trans (congrArg some (by kernel_rfl))⟩
 f17 := ⟨Tryz.f217.name, by decide, Tryz.func217.trans (congrArg some (by kernel_rfl))⟩
 f18 := ⟨Tryz.f218.name, by decide, Tryz.func218.trans (congrArg some (by kernel_rfl))⟩
 f19 := Tryz.func219.trans (congrArg some (by kernel_rfl))
 f20 := Tryz.func220.trans (congrArg some (by kernel_rfl))
 f30 := ⟨Tryz.f228.name, by decide, Tryz.func228.trans (congrArg some (by kernel_rfl))⟩
 f31 := Tryz.func229.trans (congrArg some (by kernel_rfl))
 f32 := Tryz.func230.trans (congrArg some (by kernel_rfl))
 f33 := ⟨Tryz.f231.name, by decide, Tryz.func231.trans (congrArg some (by kernel_rfl))⟩
 f34 := ⟨Tryz.f232.name, by decide, Tryz.func232.trans (congrArg some (by kernel_rfl))⟩
 f35 := ⟨Tryz.f233.name, by decide, Tryz.func233.trans (congrArg some (by kernel_rfl))⟩
 f40 := ⟨Tryz.f236.name, by decide, Tryz.func236.trans (congrArg some (by kernel_rfl))⟩
 t0 := Tryz.underlying0
 a0 := Tryz.isAgg0
 z0 := Tryz.sizeOf0
 v0 := Tryz.zeroValue0
 t3 := Tryz.underlying3
 a3 := Tryz.isAgg3
 z3 := Tryz.sizeOf3
 v3 := Tryz.zeroValue3
 t4 := Tryz.underlying4
 a4 := Tryz.isAgg4
 z4 := Tryz.sizeOf4
 v4 := Tryz.zeroValue4
 t5 := Tryz.underlying5
 a5 := Tryz.isAgg5
 z5 := Tryz.sizeOf5
 v5 := Tryz.zeroValue5
 t9 := Tryz.underlying9
 a9 := Tryz.isAgg9
 z9 := Tryz.sizeOf9
 v9 := Tryz.zeroValue9
 t22 := Tryz.underlying36
 a22 := Tryz.isAgg36
 z22 := Tryz.sizeOf36
 v22 := Tryz.zeroValue36
 t23 := Tryz.underlying36
 a23 := Tryz.isAgg36
 z23 := Tryz.sizeOf36
 v23 := Tryz.zeroValue36
 t25 := Tryz.underlying3
 a25 := Tryz.isAgg3
 z25 := Tryz.sizeOf3
 v25 := Tryz.zeroValue3
 t32 := Tryz.underlying161
 a32 := Tryz.isAgg161
 z32 := Tryz.sizeOf161
 v32 := Tryz.zeroValue161
 t35 := Tryz.underlying234
 a35 := Tryz.isAgg234
 z35 := Tryz.sizeOf234
 v35 := Tryz.zeroValue234
 t36 := Tryz.underlying235
 a36 := Tryz.isAgg235
 z36 := Tryz.sizeOf235
 v36 := Tryz.zeroValue235
 t41 := Tryz.underlying240
 a41 := Tryz.isAgg240
 z41 := Tryz.sizeOf240
 v41 := Tryz.zeroValue240
 t44 := Tryz.underlying156
 a44 := Tryz.isAgg156
 z44 := Tryz.sizeOf156
 v44 := Tryz.zeroValue156
 t46 := Tryz.underlying57
 a46 := Tryz.isAgg57
 z46 := Tryz.sizeOf57
 v46 := Tryz.zeroValue57
 t53 := Tryz.underlying249
 a53 := Tryz.isAgg249
 z53 := Tryz.sizeOf249
 v53 := Tryz.zeroValue249
 t57 := Tryz.underlying253
 a57 := Tryz.isAgg253
 z57 := Tryz.sizeOf253
 v57 := Tryz.zeroValue253
 t63 := Tryz.underlying257
 a63 := Tryz.isAgg257
 z63 := Tryz.sizeOf257
 v63 := Tryz.zeroValue257
 t64 := Tryz.underlying258
 a64 := Tryz.isAgg258
 z64 := Tryz.sizeOf258
 v64 := Tryz.zeroValue258 }
end
section
open Go.RowKit Go.Maps Go.Sort Go.Shelf
set_option maxRecDepth 100000
theorem sortsA (m : Nat) : AnyZI.SortsIn Tryz.prog Tryz.sortedA_ren Fence.wide m :=
 ⟨fun blk off cap ss W hH hblk hsz => callsIn_wide.2 (AnyM.slices_Sort_int Tryz.sortA blk off cap ss W hH hblk hsz),
  fun p cap W => callsIn_wide.2 (AnyM.slices_Sort_int_none Tryz.sortA p cap W)⟩
def KeyL (f : Int → Option Value) (zs : List Int) : Prop := zs.Pairwise (fun x y => x < y) ∧ ∀ x, x ∈ zs ↔ (wfZ x ∧ (f x).isSome = true)
theorem KeyL.of_perm {D : DataW Value} {w : World} {b n : Nat} {f : Int → Option Value} (hown : w.ownsMap Tryz.prog 3 rawV b n D) (hf : AsF D f) {ss : List Int} (hS : ss.Perm (intKeys D)) :
  KeyL f (ss.mergeSort (fun x y => decide (x ≤ y))) ∧ ss.length ≤ n := by
 have hp := List.mergeSort_perm ss (fun x y : Int => decide (x ≤ y))
 obtain ⟨es, hD, hpw, _⟩ := hown.entries keyZ
 obtain ⟨es', hD', hko⟩ := hown.keysOf
 obtain rfl : es = es' := by rw [hD] at hD'; simpa using hD'
 subst hD
 have hk : ∀ p ∈ es, ∃ x, p.1 = .int .i64 x ∧ wfZ x := fun p hp => by
  obtain ⟨v, hv⟩ := hko p hp
  obtain ⟨x, _, h1, h2⟩ := Maps.keyOf_i64 Tryz.underlying3 hv
  exact ⟨x, h1, h2⟩
 have hnd : (intKeys (.map es)).Nodup := by
  show (es.map fun p => Go.intOf p.1).Nodup
  refine List.pairwise_map.2 (hpw.imp_of_mem fun {p q} hp' hq' hne e => hne ?_)
  obtain ⟨a, ha, _⟩ := hk p hp'
  obtain ⟨b, hb, _⟩ := hk q hq'
  rw [ha, hb] at e ⊢
  exact congrArg _ e
 have hm : ∀ x, x ∈ intKeys (.map es) ↔ (wfZ x ∧ (f x).isSome = true) := fun x => by
  show x ∈ es.map (fun p => Go.intOf p.1) ↔ _
  rw [List.mem_map]
  constructor
  ·rintro ⟨p, hp', rfl⟩
   obtain ⟨a, ha, hw⟩ := hk p hp'
   rw [ha]
   refine ⟨hw, ?_⟩
   show (f a).isSome = true
   rw [← (hf a hw).1, has_eq, List.any_eq_true]
   exact ⟨p, hp', by rw [ha]; simp [Lit.sameKey]⟩
  ·rintro ⟨hw, hx⟩
   rw [← (hf x hw).1, has_eq, List.any_eq_true] at hx
   obtain ⟨p, hp', hs⟩ := hx
   obtain ⟨a, ha, _⟩ := hk p hp'
   rw [ha] at hs
   exact ⟨p, hp', by rw [ha]; simpa [Lit.sameKey, Go.intOf] using hs⟩
 refine ⟨⟨?_, fun x => ?_⟩, ?_⟩
 ·have h1 : (ss.mergeSort (fun x y : Int => decide (x ≤ y))).Pairwise (fun a b => decide (a ≤ b) = true) :=
   List.pairwise_mergeSort (fun a b c h1 h2 => by simp only [decide_eq_true_eq] at *; omega) (fun a b => by simp only [Bool.or_eq_true, decide_eq_true_eq]; omega) ss
  have h2 : (ss.mergeSort (fun x y : Int => decide (x ≤ y))).Nodup := (hp.trans hS).nodup_iff.2 hnd
  exact (h1.and h2).imp fun {a b} h => by
   have := h.1
   simp only [decide_eq_true_eq] at this
   have := h.2
   omega
 ·rw [(hp.trans hS).mem_iff, hm]
 ·rw [hS.length_eq]
  have := hown.size_le
  show (es.map _).length ≤ n
  rw [List.length_map]
  exact this
theorem KeyL.uniq {f : Int → Option Value} {a b : List Int} (ha : KeyL f a) (hb : KeyL f b) : a = b := by
 have hm : ∀ x, x ∈ a ↔ x ∈ b := fun x => (ha.2 x).trans (hb.2 x).symm
 have na : a.Nodup := ha.1.imp fun {x y} h => by omega
 have nb : b.Nodup := hb.1.imp fun {x y} h => by omega
 have hp : a.Perm b := (List.perm_ext_iff_of_nodup na nb).2 hm
 exact hp.eq_of_pairwise (le := fun x y => x < y) (fun x y _ _ h1 h2 => by omega) ha.1 hb.1
end
section
open Go.Shelf
def Tryz.keysB_ren : Go.Shelf.Ren := ⟨fun | 7 => 89 | 10 => 140 | n => n, fun | 23 => 147 | 26 => 3 | 3 => 27 | 28 => 153 | 0 => 0 | 27 => 152 | 33 => 165 | 4 => 4 | n => n, fun | n => n⟩
theorem Tryz.keysB : Go.Proofs.SlLaysZI.n7 Tryz.prog Tryz.keysB_ren := {
 mixed := by kernel_rfl
 f7 := ⟨Tryz.f89.name, by decide, Tryz.func89.trans (congrArg some (by kernel_rfl))⟩
 f10 := ⟨Tryz.f140.name, by decide, Tryz.func140.trans (congrArg some (by kernel_rfl))⟩
 t0 := Tryz.underlying0
 a0 := Tryz.isAgg0
 z0 := Tryz.sizeOf0
 v0 := Tryz.zeroValue0
 t4 := Tryz.underlying4
 a4 := Tryz.isAgg4
 z4 := Tryz.sizeOf4
 v4 := Tryz.zeroValue4
 t23 := Tryz.underlying147
 a23 := Tryz.isAgg147
 z23 := Tryz.sizeOf147
 v23 := Tryz.zeroValue147
 t26 := Tryz.underlying3
 a26 := Tryz.isAgg3
 z26 := Tryz.sizeOf3
 v26 := Tryz.zeroValue3
 t27 := Tryz.underlying152
 a27 := Tryz.isAgg152
 z27 := Tryz.sizeOf152
 v27 := Tryz.zeroValue152
 t28 := Tryz.underlying153
 a28 := Tryz.isAgg153
 z28 := Tryz.sizeOf153
 v28 := Tryz.zeroValue153
 t33 := Tryz.underlying165
 a33 := Tryz.isAgg165
 z33 := Tryz.sizeOf165
 v33 := Tryz.zeroValue165 }
end
section
open Go.RowKit Go.Maps Go.Sort Go.Shelf
set_option maxRecDepth 100000
theorem keysS_any (b : Nat) (w : World) : Calls Tryz.prog 89 #[.map (some b)] w fun e w' => e = .returned (.func (.func 140) #[] #[.pointer (some ⟨w.heap.size, 0, none⟩)]) ∧ w' = w.alloc (.cells #[.map (some b)] 147) :=
 (callsIn_wide (n := 5)).1 (AnyZI.keys_in Tryz.keysB Fence.wide 5 trivial rfl (some b) w)
theorem sortedS_any {w : World} {b n : Nat} {f : Int → Option Value} (h : MapZ w b n f) (hn : n ≤ 17592186044416) :
  Calls Tryz.prog 88 #[.func (.func 140) #[] #[.pointer (some ⟨w.heap.size, 0, none⟩)]] (w.alloc (.cells #[.map (some b)] 147)) fun e w' => ∃ (v : Value) (zs : List Int), e = .returned v ∧ KeyL f zs ∧ zs.length ≤ n ∧
   Row w' w.heap.size 3 1 v zs.length (zs.map (Value.int .i64)) ∧ Fr [] (w.alloc (.cells #[.map (some b)] 147)) w' := by
 obtain ⟨D, hown, hf⟩ := h
 have hs := hown.size_le
 have hmx : Maps.size D ≤ maxLen := by simp only [maxLen]; omega
 have hby : Maps.size D * 8 ≤ 140737488355328 := by omega
 have hbl := hown.lt
 have hseq : SeqGives Fence.wide 2 Tryz.prog 140 #[.pointer (some ⟨w.heap.size, 0, none⟩)] encZ (fun ss => ss.Perm (intKeys D)) (Maps.size D) (w.alloc (.cells #[.map (some b)] 147)) :=
  AnyZI.keys_gives (ρ := Tryz.keysB_ren) { Tryz.keysB with } Fence.wide _ trivial rfl (by omega) w.heap.size b n D _ (by simp) (by simp) (by
   obtain ⟨es, clock, hb, Ft, hs, hD⟩ := hown
   exact ⟨es, clock, (Below.heap_alloc _ _ b hbl).trans hb, Ft, hs, hD⟩)
 have cS := AnyZI.sorted_in Tryz.sortedA Fence.wide 5 trivial trivial trivial trivial rfl (by omega) (sortsA _) (enters_of Tryz.func139 (by kernel_rfl) rfl) 140 #[.pointer (some ⟨w.heap.size, 0, none⟩)] trivial (enters_of Tryz.func140 (by kernel_rfl) rfl) _ _ hmx hby _ hseq
 change CallsIn _ _ Tryz.prog 88 _ _ _ at cS
 refine (callsIn_wide.1 cS).mono ?_
 rintro e w' ⟨v, ss, rfl, hS, hrow, -, hb⟩
 obtain ⟨k1, k2⟩ := KeyL.of_perm hown hf hS
 have hl : (ss.mergeSort (fun x y : Int => decide (x ≤ y))).length = ss.length := (List.mergeSort_perm _ _).length_eq
 refine ⟨v, _, rfl, k1, by omega, ?_, Fr.of_below hb⟩
 rw [hl]
 exact Row.of_own (ownsRow_base_a hrow (by simp))
end
section
open Go.RowKit
abbrev zS : Value := .slice none 0 0
theorem zeroS (w : World) : (zeroValue 27).run Tryz.prog w = .ok zS w := Tryz.zeroValue27 w
theorem undS : Tryz.prog.underlying 147 = some (.map 3 27) := Tryz.underlying147
end
end Go.Proofs.YtbanogfljpkbkaaGreatDoor
