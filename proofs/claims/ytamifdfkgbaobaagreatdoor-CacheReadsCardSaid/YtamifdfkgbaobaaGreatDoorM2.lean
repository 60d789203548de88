/-
  Texts of this claim, one behind the other: MapZ, CodA, Big, Reg, Mem3.
-/
import Derived.Test.YtamifdfkgbaobaaGreatDoorM1
import Derived.Test.YtamifdfkgbaobaaGreatDoorProg
import Derived.Maps.Own
import Derived.Maps.OwnOps
import Derived.Maps.OwnSet
import Derived.Maps.RangeWalk
import Derived.Deep.MidRow
import Derived.Laws.StructEq
import Derived.Stop.BytesEq
import Derived.Great.FillDense
import Derived.WalkKit
import Derived.Deep.RegionHeld3
/-
  Maps by whole numbers, as functions, whatever their values are: made, read, written, struck, cleared, gone over.
-/
set_option linter.unusedSimpArgs false
set_option linter.unusedVariables false
set_option linter.unnecessarySimpa false
namespace Go.Proofs.YtamifdfkgbaobaaGreatDoor
open Go.RowKit Go.Maps Go.ChangeMaps Go.MapKept

def rawV (v : Value) : Option (DataW Value × List MemPlace) := some (.held v, [])
theorem keyZ : Keyed Tryz.prog 3 := int_keyed Tryz.underlying3
def wfZ (x : Int) : Prop := (Lit.int .i64 x).wf = true
theorem wfZ_of {x : Int} (h : -9223372036854775808 ≤ x ∧ x ≤ 9223372036854775807) : wfZ x := by
  simp [wfZ, Lit.wf, IntKind.min, IntKind.max, IntKind.signed, IntKind.bits]
  exact h
theorem wfZ_b {x : Int} (h : wfZ x) : -9223372036854775808 ≤ x ∧ x ≤ 9223372036854775807 := by
  simp [wfZ, Lit.wf, IntKind.min, IntKind.max, IntKind.signed, IntKind.bits] at h
  exact h
theorem keyZ_of {x : Int} (h : wfZ x) : keyOf Tryz.prog 3 (.int .i64 x) = some (.int .i64 x) := keyOf_int_mk Tryz.underlying3 h
/-- The datum of a map, as a function. -/
def AsF (D : DataW Value) (f : Int → Option Value) : Prop := ∀ x, wfZ x → Maps.has D (.int .i64 x) = (f x).isSome ∧ ∀ v, f x = some v → ∀ z, D.atKey (.int .i64 x) z = .held v
theorem AsF.at {D : DataW Value} {f : Int → Option Value} (h : AsF D f) {x : Int} (hx : wfZ x) (z : Value) : D.atKey (.int .i64 x) (.held z) = .held ((f x).getD z) := by
  obtain ⟨h1, h2⟩ := h x hx
  cases hf : f x with
  | none => rw [hf] at h1; rw [atKey_of_not_has h1]; rfl
  | some v => rw [h2 v hf]; rfl
def fput (f : Int → Option Value) (x : Int) (v : Value) : Int → Option Value := fun y => if y = x then some v else f y
def fdel (f : Int → Option Value) (x : Int) : Int → Option Value := fun y => if y = x then none else f y
theorem lit_ne {x y : Int} (h : y ≠ x) : Lit.int .i64 y ≠ Lit.int .i64 x := fun e => by injection e with _ e; exact h e
theorem AsF.put {D : DataW Value} {f : Int → Option Value} (h : AsF D f) (hD : IsMap D) (x : Int) (v : Value) : AsF (D.put (.int .i64 x) (.held v)) (fput f x v) := fun y hy => by
  unfold fput
  by_cases e : y = x
  · subst e
    rw [if_pos rfl, has_put_same (k := .int .i64 y) hD trivial]
    exact ⟨rfl, fun u hu z => by cases hu; exact atKey_put_same (k := .int .i64 y) hD trivial _ _⟩
  · rw [if_neg e, has_put_other (lit_ne e)]
    exact ⟨(h y hy).1, fun u hu z => by rw [atKey_put_other (lit_ne e)]; exact (h y hy).2 u hu z⟩
theorem AsF.del {D : DataW Value} {f : Int → Option Value} (h : AsF D f) (x : Int) : AsF (D.del (.int .i64 x)) (fdel f x) := fun y hy => by
  unfold fdel
  by_cases e : y = x
  · subst e
    rw [if_pos rfl, has_del_same]
    exact ⟨rfl, fun u hu => by cases hu⟩
  · rw [if_neg e, has_del_other (lit_ne e)]
    exact ⟨(h y hy).1, fun u hu z => by rw [atKey_del_other (lit_ne e)]; exact (h y hy).2 u hu z⟩
theorem AsF.nil : AsF (.map []) (fun _ => none) := fun x _ => ⟨rfl, fun v h => by cases h⟩
theorem AsF.eq {D : DataW Value} {f g : Int → Option Value} (h : AsF D f) (e : ∀ x, wfZ x → f x = g x) : AsF D g := fun x hx => by
  rw [← e x hx]; exact h x hx

/-- Block b is a map of at most n entries, that is f. -/
def MapZ (w : World) (b n : Nat) (f : Int → Option Value) : Prop := ∃ D : DataW Value, w.ownsMap Tryz.prog 3 rawV b n D ∧ AsF D f
section
variable {w w' : World} {b n : Nat} {f : Int → Option Value}
theorem MapZ.lt (h : MapZ w b n f) : b < w.heap.size := by obtain ⟨D, h, _⟩ := h; exact h.lt
theorem MapZ.blk_eq (h : MapZ w b n f) (e : w'.heap[b]? = w.heap[b]?) : MapZ w' b n f := by
  obtain ⟨D, ⟨es, clock, hb, r⟩, hf⟩ := h
  exact ⟨D, ⟨es, clock, e.trans hb, r⟩, hf⟩
theorem MapZ.keep (h : MapZ w b n f) {F : List Nat} (hf : Fr F w w') (hb : b ∉ F) : MapZ w' b n f := h.blk_eq (hf.same b h.lt hb)
theorem MapZ.keep_nil (h : MapZ w b n f) (hf : Fr [] w w') : MapZ w' b n f := h.keep hf (by simp)
theorem MapZ.mono (h : MapZ w b n f) {m : Nat} (hm : n ≤ m) : MapZ w b m f := by
  obtain ⟨D, h, hf⟩ := h
  exact ⟨D, h.mono hm, hf⟩
theorem MapZ.eq (h : MapZ w b n f) {g : Int → Option Value} (e : ∀ x, wfZ x → f x = g x) : MapZ w b n g := by
  obtain ⟨D, h, hf⟩ := h
  exact ⟨D, h, hf.eq e⟩
theorem MapZ.made (w : World) : MapZ (w.alloc (.map #[] 0)) w.heap.size 0 (fun _ => none) := ⟨_, World.ownsMap_made _ _ _ _, AsF.nil⟩
/-- A map has no cells. -/
theorem MapZ.no_cell (h : MapZ w b n f) (i : Nat) : w.cell? ⟨b, i, none⟩ = none := by
  obtain ⟨D, ⟨es, clock, hb, _⟩, _⟩ := h
  simp [World.cell?, hb]
theorem grown_frZ {b : Nat} (h : w.grownBy w' (some b)) : Fr [b] w w' := ⟨h.os, h.tape, h.output, h.size, fun k hk hn => h.block k hk (by simp at hn; simpa using hn)⟩
theorem grown_frN (h : w.grownBy w' none) : Fr [] w w' := ⟨h.os, h.tape, h.output, h.size, fun k hk hn => h.block k hk (by simp)⟩
theorem MapZ.look (h : MapZ w b n f) {t e : TypeId} (ht : Tryz.prog.underlying t = some (.map 3 e)) {z : Value} (hz : (zeroValue e).run Tryz.prog w = .ok z w) {x : Int} (hx : wfZ x) :
    (Instr.lookup t (.map (some b)) (.int .i64 x) false).run Tryz.prog w = .ok ((f x).getD z) w := by
  obtain ⟨D, h, hf⟩ := h
  obtain ⟨v, ps, hrun, hv⟩ := h.lookup keyZ ht hz (zd := .held z) (zp := []) rfl (keyZ_of hx)
  rw [hf.at hx] at hv
  simp only [rawV, Option.some.injEq, Prod.mk.injEq, DataW.held.injEq] at hv
  rw [hrun, hv.1]
theorem MapZ.look_ok (h : MapZ w b n f) {t e : TypeId} (ht : Tryz.prog.underlying t = some (.map 3 e)) {z : Value} (hz : (zeroValue e).run Tryz.prog w = .ok z w) {x : Int} (hx : wfZ x) :
    (Instr.lookup t (.map (some b)) (.int .i64 x) true).run Tryz.prog w = .ok (.tuple #[(f x).getD z, .bool (f x).isSome]) w := by
  obtain ⟨D, h, hf⟩ := h
  obtain ⟨v, ps, hrun, hv⟩ := h.look_ok keyZ ht hz (zd := .held z) (zp := []) rfl (keyZ_of hx)
  rw [hf.at hx] at hv
  simp only [rawV, Option.some.injEq, Prod.mk.injEq, DataW.held.injEq] at hv
  rw [hrun, hv.1, (hf x hx).1]
theorem MapZ.put (h : MapZ w b n f) {t e : TypeId} (ht : Tryz.prog.underlying t = some (.map 3 e)) (hn : n < maxLen) {x : Int} (hx : wfZ x) (v : Value) :
    ∃ w', (Instr.mapUpdate t (.map (some b)) (.int .i64 x) v).run Tryz.prog w = .ok () w' ∧ MapZ w' b (n + 1) (fput f x v) ∧ Fr [b] w w' ∧ w'.heap.size = w.heap.size := by
  obtain ⟨D, h, hf⟩ := h
  obtain ⟨w', hrun, ho, hg⟩ := h.store keyZ ht hn (val := v) (d := .held v) (ps := []) (keyZ_of hx) rfl
  refine ⟨w', hrun, ⟨_, ho, hf.put h.isMap x v⟩, grown_frZ hg.grown, ?_⟩
  obtain ⟨_, _, _, _, _, rfl⟩ := hg
  simp [setBlock]
theorem MapZ.del (h : MapZ w b n f) {t e : TypeId} (ht : Tryz.prog.underlying t = some (.map 3 e)) {x : Int} (hx : wfZ x) (ty : TypeId) :
    ∃ w', (Builtin.delete_ #[t, 3] ty #[.map (some b), .int .i64 x]).run Tryz.prog w = .ok (.tuple #[]) w' ∧ MapZ w' b n (fdel f x) ∧ Fr [b] w w' ∧ w'.heap.size = w.heap.size := by
  obtain ⟨D, h, hf⟩ := h
  obtain ⟨w', hrun, ho, hg⟩ := h.drop keyZ ht (keyZ_of hx) ty
  refine ⟨w', hrun, ⟨_, ho, hf.del x⟩, grown_frZ hg.grown, ?_⟩
  obtain ⟨_, _, _, _, _, rfl⟩ := hg
  simp [setBlock]
theorem MapZ.clear (h : MapZ w b n f) {t e : TypeId} (ht : Tryz.prog.underlying t = some (.map 3 e)) (ty : TypeId) :
    ∃ w', (Builtin.clear_ #[t] ty #[.map (some b)]).run Tryz.prog w = .ok (.tuple #[]) w' ∧ MapZ w' b 0 (fun _ => none) ∧ Fr [b] w w' ∧ w'.heap.size = w.heap.size := by
  obtain ⟨D, ⟨es, clock, hb, _⟩, _⟩ := h
  refine ⟨setBlock w b (.map #[] clock), ?_, ⟨.map [], ⟨#[], clock, heap_setBlock_same hb _, ⟨by simp, stamped_empty clock, by simp⟩, Nat.le_refl _, rfl⟩, AsF.nil⟩, ⟨rfl, rfl, rfl, by simp [setBlock], fun i _ hi => heap_setBlock_other hb _ (fun e => hi (by simp [e]))⟩, by simp [setBlock]⟩
  simp [Builtin.clear_, run_underlying ht, MapKept.run_getObj_map hb, MapKept.run_setObj_map _ hb, Result.andThen, setBlock]

theorem pigeon : ∀ (K : Nat) (l : List Nat), l.Nodup → (∀ x ∈ l, x < K) → l.length ≤ K
  | 0, l, _, h => by
    cases l with
    | nil => simp
    | cons x r => exact absurd (h x (by simp)) (by omega)
  | K + 1, l, hn, h => by
    by_cases hm : K ∈ l
    · have h1 := pigeon K (l.erase K) (hn.erase K) (fun x hx => by
        have h2 := hn.mem_erase_iff.1 hx
        have := h x h2.2
        have := h2.1
        omega)
      rw [List.length_erase_of_mem hm] at h1
      omega
    · have h1 := pigeon K l hn (fun x hx => by
        have := h x hx
        have : x ≠ K := fun e => hm (e ▸ hx)
        omega)
      omega
/-- As many entries as there may be keys. -/
theorem MapZ.tight (h : MapZ w b n f) {K : Nat} (hk : ∀ x, wfZ x → f x ≠ none → 0 ≤ x ∧ x < K) : MapZ w b K f := by
  obtain ⟨D, ⟨es, clock, hb, F, hs, hD⟩, hf⟩ := h
  refine ⟨D, ⟨es, clock, hb, F, ?_, hD⟩, hf⟩
  have ap := fit_apart keyZ F
  have ks := fit_keys F
  have key : ∀ p ∈ es.toList.map (WideElems.rg Tryz.prog 3 rawV), ∃ x : Nat, p.1 = .int .i64 x ∧ x < K := by
    intro p hp
    obtain ⟨v, hv⟩ := ks p hp
    obtain ⟨x, rfl, e, hw⟩ := Maps.keyOf_int_inv Tryz.underlying3 hv
    have hh : Maps.has D (.int .i64 x) = true := by
      rw [hD]
      exact List.any_eq_true.2 ⟨p, mem_sorted.2 hp, by rw [e]; exact WideAt.sameKey_self (a := .int .i64 x) trivial⟩
    have h1 := (hf x hw).1
    rw [hh] at h1
    obtain ⟨h2, h3⟩ := hk x hw (fun e => by rw [e] at h1; cases h1)
    exact ⟨x.toNat, e.trans (congrArg (Lit.int .i64) (by omega)), by omega⟩
  have hl : ((es.toList.map (WideElems.rg Tryz.prog 3 rawV)).map (fun p => match p.1 with | .int _ z => z.toNat | _ => 0)).length ≤ K := by
    apply pigeon
    · rw [List.nodup_iff_pairwise_ne, List.pairwise_map]
      refine List.Pairwise.imp_of_mem (fun {p q} hp hq hne => ?_) ap
      obtain ⟨x, e1, _⟩ := key p hp
      obtain ⟨y, e2, _⟩ := key q hq
      rw [e1, e2] at hne ⊢
      intro e
      apply hne
      have : x = y := by simpa using e
      rw [this]
    · intro x hx
      obtain ⟨p, hp, rfl⟩ := List.mem_map.1 hx
      obtain ⟨y, e1, hy⟩ := key p hp
      rw [e1]
      simpa using hy
  simpa using hl

/-- 'for x, v := range m' under way: which keys are still to come. -/
def RangeZ (w : World) (b r n : Nat) (f : Int → Option Value) (left : Int → Bool) (cnt : Nat) : Prop :=
  ∃ (D : DataW Value) (lf : Lit → Bool), w.ranges Tryz.prog 3 rawV b r n D lf cnt ∧ AsF D f ∧ ∀ x, wfZ x → lf (.int .i64 x) = left x
theorem RangeZ.map {r : Nat} {left : Int → Bool} {cnt : Nat} (h : RangeZ w b r n f left cnt) : MapZ w b n f := by
  obtain ⟨D, lf, h, hf, _⟩ := h
  exact ⟨D, h.owns, hf⟩
theorem RangeZ.left_eq {r : Nat} {left : Int → Bool} {cnt : Nat} (h : RangeZ w b r n f left cnt) : w.rangeLeft b r = cnt := by
  obtain ⟨D, lf, h, hf, _⟩ := h
  exact h.left_eq
theorem RangeZ.keep {r : Nat} {left : Int → Bool} {cnt : Nat} (h : RangeZ w b r n f left cnt) {F : List Nat} (hf : Fr F w w') (hb : b ∉ F) (hr : r ∉ F) : RangeZ w' b r n f left cnt := by
  obtain ⟨D, lf, h, h2, h3⟩ := h
  refine ⟨D, lf, ?_, h2, h3⟩
  have hlb := h.owns.lt
  have hlr := h.lt
  obtain ⟨es, clock, since, seen, c0, k1, k2, k3, k4, k5, k6⟩ := h
  exact ⟨es, clock, since, seen, c0, (hf.same b hlb hb).trans k1, k2, k3, k4, (hf.same r hlr hr).trans k5, k6⟩
end

section
variable {w : World} {ops : Array Oper} {rest : List Oper} {o : Oper} {a : Act} {Q : Exit → Act → World → Prop} {b n : Nat} {f : Int → Option Value}
theorem wpList_lookZ (hg : o.guard = none) {m x : Operand} {t e : TypeId} (hop : o.op = Op.lookup t m x false) (ht : Tryz.prog.underlying t = some (.map 3 e)) {z : Value} (hz : (zeroValue e).run Tryz.prog w = .ok z w)
    (hm : a.eval m = .map (some b)) (h : MapZ w b n f) (k : Int) (hx : a.eval x = .int .i64 k) (hk : wfZ k) (hK : wpList Tryz.prog ops Q rest (a.put o.dst ((f k).getD z)) w) : wpList Tryz.prog ops Q (o :: rest) a w := by
  refine wpList_plain hg fun K' hK' => ?_
  have hrun := h.look ht hz hk
  unfold Oper.wp
  simp [execOp, hop, hm, hx, hrun, Result.andThen]
  exact hK' _ _ hK
theorem wpList_lookOkZ (hg : o.guard = none) {m x : Operand} {t e : TypeId} (hop : o.op = Op.lookup t m x true) (ht : Tryz.prog.underlying t = some (.map 3 e)) {z : Value} (hz : (zeroValue e).run Tryz.prog w = .ok z w)
    (hm : a.eval m = .map (some b)) (h : MapZ w b n f) (k : Int) (hx : a.eval x = .int .i64 k) (hk : wfZ k) (hK : wpList Tryz.prog ops Q rest (a.put o.dst (.tuple #[(f k).getD z, .bool (f k).isSome])) w) : wpList Tryz.prog ops Q (o :: rest) a w := by
  refine wpList_plain hg fun K' hK' => ?_
  have hrun := h.look_ok ht hz hk
  unfold Oper.wp
  simp [execOp, hop, hm, hx, hrun, Result.andThen]
  exact hK' _ _ hK
theorem wpList_putZ (hg : o.guard = none) {m x v : Operand} {t e : TypeId} (hop : o.op = Op.mapUpdate t m x v) (ht : Tryz.prog.underlying t = some (.map 3 e))
    (hm : a.eval m = .map (some b)) (h : MapZ w b n f) (hn : n < maxLen) (k : Int) (hx : a.eval x = .int .i64 k) (hk : wfZ k) (u : Value) (hv : a.eval v = u)
    (hK : ∀ w', MapZ w' b (n + 1) (fput f k u) → Fr [b] w w' → w'.heap.size = w.heap.size → wpList Tryz.prog ops Q rest (a.put o.dst undef) w') : wpList Tryz.prog ops Q (o :: rest) a w := by
  refine wpList_plain hg fun K' hK' => ?_
  obtain ⟨w', hrun, h1, h2, h3⟩ := h.put ht hn hk u
  unfold Oper.wp
  simp [execOp, hop, hm, hx, hv, hrun, Result.andThen]
  exact hK' _ _ (hK w' h1 h2 h3)
theorem wpList_delZ (hg : o.guard = none) {m x : Operand} {t e : TypeId} (hop : o.op = Op.call { callee := Callee.builtin Builtin.delete, args := #[m, x], argTypes := #[t, 3] }) (ht : Tryz.prog.underlying t = some (.map 3 e))
    (hm : a.eval m = .map (some b)) (h : MapZ w b n f) (k : Int) (hx : a.eval x = .int .i64 k) (hk : wfZ k)
    (hK : ∀ w', MapZ w' b n (fdel f k) → Fr [b] w w' → w'.heap.size = w.heap.size → wpList Tryz.prog ops Q rest (a.put o.dst (.tuple #[])) w') : wpList Tryz.prog ops Q (o :: rest) a w := by
  refine wpList_plain hg fun K' hK' => ?_
  obtain ⟨w', hrun, h1, h2, h3⟩ := h.del ht hk o.type
  unfold Oper.wp
  simp [execOp, hop, resolve, invoke, builtin, hm, hx, hrun, Result.andThen]
  exact hK' _ _ (hK w' h1 h2 h3)
theorem wpList_clearZ (hg : o.guard = none) {m : Operand} {t e : TypeId} (hop : o.op = Op.call { callee := Callee.builtin Builtin.clear, args := #[m], argTypes := #[t] }) (ht : Tryz.prog.underlying t = some (.map 3 e))
    (hm : a.eval m = .map (some b)) (h : MapZ w b n f)
    (hK : ∀ w', MapZ w' b 0 (fun _ => none) → Fr [b] w w' → w'.heap.size = w.heap.size → wpList Tryz.prog ops Q rest (a.put o.dst (.tuple #[])) w') : wpList Tryz.prog ops Q (o :: rest) a w := by
  refine wpList_plain hg fun K' hK' => ?_
  obtain ⟨w', hrun, h1, h2, h3⟩ := h.clear ht o.type
  unfold Oper.wp
  simp [execOp, hop, resolve, invoke, builtin, hm, hrun, Result.andThen]
  exact hK' _ _ (hK w' h1 h2 h3)
theorem wpList_rangeZ (hg : o.guard = none) {m : Operand} {t e : TypeId} (hop : o.op = Op.range t m) (ht : Tryz.prog.underlying t = some (.map 3 e)) (hm : a.eval m = .map (some b)) (h : MapZ w b n f)
    (hK : ∀ w' cnt, RangeZ w' b w.heap.size n f (fun x => (f x).isSome) cnt → Fr [] w w' → w'.heap.size = w.heap.size + 1 → wpList Tryz.prog ops Q rest (a.put o.dst (.pointer (some ⟨w.heap.size, 0, none⟩))) w') : wpList Tryz.prog ops Q (o :: rest) a w := by
  obtain ⟨D, h, hf⟩ := h
  exact wpList_range_own w hg m t hop 3 e keyZ ht rawV b n D hm h fun w' h1 h2 h3 => hK w' _ ⟨D, _, h1, hf, fun x hx => (hf x hx).1⟩ (grown_frN h2) h3
theorem same_litZ (x y : Int) : (Lit.int .i64 y).sameKey (.int .i64 x) = (y == x) := by
  by_cases e : y = x
  · subst e
    rw [WideAt.sameKey_self (a := .int .i64 y) trivial]; simp
  · rw [sameKey_ne (lit_ne e)]
    simp [e]
theorem wpList_nextZ (hg : o.guard = none) {it : Operand} (hop : o.op = Op.next it false) {r : Nat} {left : Int → Bool} {cnt : Nat} (hit : a.eval it = .pointer (some ⟨r, 0, none⟩)) (h : RangeZ w b r n f left cnt)
    (hDone : (∀ x, wfZ x → left x = false) → wpList Tryz.prog ops Q rest (a.put o.dst (.tuple #[.bool false])) w)
    (hMore : ∀ (x : Int) (v : Value) (w' : World) (cnt' : Nat), wfZ x → left x = true → f x = some v → RangeZ w' b r n f (fun y => left y && !(y == x)) cnt' → cnt' < cnt → Fr [r] w w' → w'.heap.size = w.heap.size →
      (Instr.entry (.pointer (some ⟨r, 0, none⟩))).run Tryz.prog w' = .ok (.tuple #[.int .i64 x, v]) w' → wpList Tryz.prog ops Q rest (a.put o.dst (.tuple #[.bool true, .int .i64 x, v])) w') : wpList Tryz.prog ops Q (o :: rest) a w := by
  obtain ⟨D, lf, h, hf, hl⟩ := h
  refine wpList_next_ranges w hg it hop 3 keyZ rawV (Value.int .i64) (fun v : Value => v) (fun key kl hk => by obtain ⟨x, rfl, _⟩ := Maps.keyOf_int_inv Tryz.underlying3 hk; exact ⟨x, rfl⟩) (fun v y _ => ⟨v, rfl⟩) b r n D lf cnt hit h (fun _ hl0 => hDone fun x hx => by rw [← hl x hx]; exact hl0 _) ?_
  intro x c kl y w' cnt' hk hlk hv hat hrg hlt hgr hsz hen
  obtain ⟨x', ex, rfl, hwx⟩ := Maps.keyOf_int_inv Tryz.underlying3 hk
  cases ex
  have hvc : y.1 = .held c := by
    simp only [rawV, Option.some.injEq] at hv
    rw [← hv]
  have hfx : f x = some c := by
    have h1 := (hf x hwx).1
    have hh : Maps.has D (.int .i64 x) = true := has_true_of_atKey (y := .held c) fun z => by rw [hat, hvc]
    rw [hh] at h1
    cases hfx : f x with
    | none => rw [hfx] at h1; cases h1
    | some u =>
      have h2 := (hf x hwx).2 u hfx (.held c)
      rw [hat, hvc] at h2
      rw [DataW.held.inj h2]
  exact hMore x c w' cnt' hwx (by rw [← hl x hwx]; exact hlk) hfx ⟨D, _, hrg, hf, fun z hz => by rw [hl z hz, same_litZ]⟩ hlt (grown_frZ hgr) hsz hen
end
end Go.Proofs.YtamifdfkgbaobaaGreatDoor
/-
  Contracts of codec's Reader: NewReader, Bytes, Uint, Zeros, Left, Done, and of what they call.
-/
set_option linter.unusedSimpArgs false
set_option linter.unusedVariables false
set_option linter.unnecessarySimpa false
namespace Go.Proofs.YtamifdfkgbaobaaGreatDoor
open Go.RowKit

theorem slB : SlT Tryz.prog 41 5 1 1 (.int .u8 0) := ⟨Tryz.underlying41, by kernel_rfl, rfl, by decide, by decide⟩

/-- slices.Clone of bytes. -/
theorem clone_any (A : Option Addr) (l : List UInt8) (n c : Nat) (w : World) (hn : l.length = n) (hr : Rd w A (bvs l)) (hA : A = none → n = 0) (hl : n ≤ 140737488355328) :
    Calls Tryz.prog 37 #[.slice A n c] w fun e w' => ∃ v, e = .returned v ∧ Row w' w.heap.size 5 1 v n (bvs l) ∧ Fr [] w w' := by
  subst hn
  have qT : ∀ (w : World) (a : Option Addr) (n c n' c' : Nat), (binOp .eql 41 (.slice a n c) (.slice none n' c')).run Tryz.prog w = .ok (.bool a.isNone) w :=
    fun w a n c n' c' => Lib.run_eql_slice_nil w _ _ a n c n' c' Tryz.underlying41
  cases A with
  | none =>
    obtain rfl : l = [] := List.eq_nil_of_length_eq_zero (hA rfl)
    go_enter Tryz.func37, Tryz.ntmps37
    go_wp2
    go_ret
    exact ⟨_, rfl, Row.nil _ _ _ _, Fr.refl _ _⟩
  | some ad =>
    go_enter Tryz.func37, Tryz.ntmps37
    go_wp2_with (at_builtin; refine wpList_app rfl rfl slB w.heap.size _ 0 [] rfl (Row.new w #[] 5 1 0 (0, 0) (free_zero _) (by unfold maxLen; omega) rfl (Nat.le_refl _)) (some ad) l.length c (bvs l) rfl (by simp [bvs]) (hr.alloc _) (bvs_one l) (fun h => by cases h) (by omega) (by simp) ?_; intro v1 w1 h1 h2 h3 h4)
    go_ret
    refine ⟨_, rfl, by simpa using h1, ?_⟩
    exact ((Fr.refl [] w).alloc _).trans h2 (fun i hi => .inr (by rw [own_mem.1 hi]; exact Nat.le_refl _))

def allZ (l : List UInt8) : Bool := l.all (· == 0)
def nzI (l : List UInt8) : Int := if allZ l then -1 else (l.findIdx (· != 0) : Nat)
theorem nzI_ge (l : List UInt8) : decide (0 ≤ nzI l) = !allZ l := by
  unfold nzI
  cases allZ l <;> simp
theorem allZ_take_succ (l : List UInt8) (k : Nat) (h : k < l.length) : allZ (l.take (k + 1)) = (allZ (l.take k) && (l[k] == 0)) := by
  unfold allZ
  rw [List.take_succ_eq_append_getElem h, List.all_append]; simp only [List.all_cons, List.all_nil, Bool.and_true]
theorem nzI_at (l : List UInt8) (k : Nat) (h : k < l.length) (h0 : allZ (l.take k) = true) (h1 : l[k] ≠ 0) : nzI l = k := by
  have hz : allZ l = false := by
    unfold allZ
    rw [List.all_eq_false]
    exact ⟨l[k], List.getElem_mem h, by simpa using h1⟩
  unfold nzI
  rw [hz, if_neg (by simp)]
  congr 1
  rw [List.findIdx_eq h]
  refine ⟨by simpa using h1, fun j hj => ?_⟩
  unfold allZ at h0
  rw [List.all_eq_true] at h0
  have hl : j < (l.take k).length := by rw [List.length_take]; omega
  have := h0 (l.take k)[j] (List.getElem_mem hl)
  rw [List.getElem_take] at this
  simp only [beq_iff_eq] at this
  simp [this]

theorem Rd.byte {w : World} {A : Option Addr} {l : List UInt8} (hr : Rd w A (bvs l)) {k : Nat} (hk : k < l.length) : ∃ g o, A = some ⟨g, o, none⟩ ∧ ∀ j (hj : j < l.length), w.cell? ⟨g, o + j, none⟩ = some (.int .u8 (l[j].toNat : Int)) := by
  obtain ⟨g, o, e, hc⟩ := hr (by intro h; have := congrArg List.length h; rw [bvs_length, List.length_nil] at this; omega)
  exact ⟨g, o, e, fun j hj => hc j _ (by simp [bvs, hj, bv])⟩

theorem u8_ne {x : UInt8} (h : x ≠ 0) : ((x.toNat : Int) != 0) = true := by
  rw [bne_iff_ne]; intro h'; exact h (UInt8.toNat_inj.1 (by simpa using h'))

set_option maxHeartbeats 400000 in
/-- IndexFunc at 'is not 0'. -/
theorem indexB_any (A : Option Addr) (l : List UInt8) (c : Nat) (w : World) (hr : Rd w A (bvs l)) (hl : l.length ≤ 140737488355328) :
    Calls Tryz.prog 138 #[.slice A l.length c, .func (.func 130) #[] #[]] w fun e w' => e = .returned (.int .i64 (nzI l)) ∧ w = w' := by
  go_enter Tryz.func138, Tryz.ntmps138
  go_wp2
  go_loop [8] (fun i => ∃ k : Nat, k ≤ l.length ∧ i = .int .i64 k ∧ allZ (l.take k) = true) (fun i => l.length - (intOf i).toNat)
  case atStart => exact ⟨0, Nat.zero_le _, rfl, rfl⟩
  case round =>
    obtain ⟨k, hk, rfl, hz⟩ := hrel
    have Hz := Lib.hid hz
    clear hz
    by_cases hlt : k < l.length
    · obtain ⟨g, o, rfl, hc⟩ := hr.byte hlt
      have hck := hc k hlt
      clear hc
      by_cases h0 : l[k] = 0
      · have ht := allZ_take_succ l k hlt
        have Ht : Hid (allZ (l.take (k + 1)) = true) := by rw [Hid, ht, Hz.out, h0]; rfl
        clear ht
        rw [h0] at hck
        clear h0
        go_wp2
        go_round
        case rel => exact ⟨k + 1, by omega, by go_num, Ht.out⟩
        case measure => simp [intOf]; omega
      · have e := nzI_at l k hlt Hz.out h0
        have H := Lib.hid e
        have h1 := u8_ne h0
        clear e
        go_wp2
        go_ret
        exact ⟨by rw [H.out]; rfl, rfl⟩
    · have hk' : k = l.length := by omega
      have e : nzI l = -1 := by
        have h1 := Hz.out
        rw [hk', List.take_length] at h1
        unfold nzI; rw [h1]; rfl
      have H := Lib.hid e
      clear e hk'
      go_wp2
      go_ret
      exact ⟨by rw [H.out]; rfl, rfl⟩

theorem containsB_any (A : Option Addr) (l : List UInt8) (c : Nat) (w : World) (hr : Rd w A (bvs l)) (hl : l.length ≤ 140737488355328) :
    Calls Tryz.prog 129 #[.slice A l.length c, .func (.func 130) #[] #[]] w fun e w' => e = .returned (.bool (!allZ l)) ∧ w = w' := by
  have H := Lib.hid (nzI_ge l)
  go_enter Tryz.func129, Tryz.ntmps129
  go_wp2_with (go_at_call 138; refine (indexB_any _ _ _ _ hr hl).mono ?_; rintro e w' ⟨rfl, rfl⟩)
  go_ret
  exact ⟨by rw [← H.out]; rfl, rfl⟩

theorem zeros_any (A : Option Addr) (l : List UInt8) (c : Nat) (w : World) (hr : Rd w A (bvs l)) (hl : l.length ≤ 140737488355328) :
    Calls Tryz.prog 115 #[.slice A l.length c] w fun e w' => e = .returned (.bool (allZ l)) ∧ w = w' := by
  go_enter Tryz.func115, Tryz.ntmps115
  go_wp2_with (go_at_call 129; refine (containsB_any _ _ _ _ hr hl).mono ?_; rintro e w' ⟨rfl, rfl⟩)
  go_ret
  exact ⟨by simp, rfl⟩

end Go.Proofs.YtamifdfkgbaobaaGreatDoor
/-
  Structs and arrays of many cells, by value: load, store, alloc, box, build, equality; none is opened cell by cell. No program of the seat is named here.
-/
set_option linter.unusedSimpArgs false
set_option linter.unusedVariables false
set_option linter.unnecessarySimpa false
namespace Go.Proofs.YtamifdfkgbaobaaGreatDoor
open Go.RowKit

/-- Facts on a type of many cells: its size, its zero. -/
structure StT (P : Program) (t : TypeId) (n : Nat) (z : List Value) : Prop where
  und : ∃ d, P.underlying t = some d ∧ d.isRow = true
  size : (P.info? t).map (fun i => (i.zero, i.size)) = some (some (.agg z.toArray), n)
  zlen : z.length = n
  eq : P.eqGuardType P.depth t = false
  ones : ∀ u ∈ z, u.oneCell' = true

section
variable {P : Program} {ops : Array Oper} {rest : List Oper} {o : Oper} {a : Act} {w : World} {K : Act → World → Prop} {Q : Exit → Act → World → Prop} {t : TypeId} {n : Nat} {z : List Value}

theorem StT.sz (hT : StT P t n z) : (P.info? t).map (·.size) = some n := by
  obtain ⟨i, hi, h⟩ := Option.map_eq_some_iff.1 hT.size
  simp only [Prod.mk.injEq] at h
  rw [hi, Option.map_some, h.2]
theorem StT.zv (hT : StT P t n z) (w : World) : (zeroValue t).run P w = .ok (.agg z.toArray) w := by
  obtain ⟨i, hi, h⟩ := Option.map_eq_some_iff.1 hT.size
  simp only [Prod.mk.injEq] at h
  simp [zeroValue, typeInfo, hi, h.1]

theorem wpList_want (hw : Region.wanted o (yielded ops a.tmps) = true) (h : ∀ K : Act → World → Prop, (∀ a w, wpList P ops Q rest a w → K a w) → o.wp P a w K Q) : wpList P ops Q (o :: rest) a w :=
  wpList_step fun K hK => by rw [if_pos hw]; exact h K hK

theorem wp_val (v : Value) (w' : World) (hy : (execOp a.eval o).run P w = .ok (.value v) w') (h : K (a.put o.dst v) w') : o.wp P a w K Q := by
  unfold Oper.wp
  simp only [hy, Result.andThen_ok]
  exact h

theorem wp_ldS {x : Operand} (hT : StT P t n z) (ho : o.op = .load t x) (g off : Nat) (hx : a.eval x = .pointer (some ⟨g, off, none⟩)) (cs : List Value) (hn : cs.length = n) (hc : w.rangeAt g off cs)
    (h : K (a.put o.dst (.agg cs.toArray)) w) : o.wp P a w K Q := by
  obtain ⟨d, hu, hd⟩ := hT.und
  exact wp_load_mid t x ho g off hx cs d hc hu hd (by rw [hT.sz, hn]) h
theorem wpList_ldS {x : Operand} (hT : StT P t n z) (hw : Region.wanted o (yielded ops a.tmps) = true) (ho : o.op = .load t x) (g off : Nat) (hx : a.eval x = .pointer (some ⟨g, off, none⟩)) (cs : List Value) (hn : cs.length = n) (hc : w.rangeAt g off cs)
    (h : wpList P ops Q rest (a.put o.dst (.agg cs.toArray)) w) : wpList P ops Q (o :: rest) a w :=
  wpList_want hw fun _ hK => wp_ldS hT ho g off hx cs hn hc (hK _ _ h)

/-- Of a block that is known whole. -/
theorem Blk.range {g : Nat} {tt : TypeId} {cs : Array Value} (hb : Blk w g tt cs) (off : Nat) (l : List Value) (hl : ∀ j u, l[j]? = some u → cs[off + j]? = some u) : w.rangeAt g off l := fun j v hv => by
  rw [hb.cell]; exact hl j v hv
theorem Blk.range0 {g : Nat} {tt : TypeId} {cs : List Value} (hb : Blk w g tt cs.toArray) : w.rangeAt g 0 cs := hb.range 0 cs (fun j u h => by rw [Nat.zero_add]; simpa using h)

theorem run_stS (hT : StT P t n z) (g off : Nat) (new : List Value) (hn : new.length = n) (h1 : ∀ u ∈ new, u.oneCell' = true) (cur : Array Value) (tt : TypeId) (fz : Nat × Nat) (hg : w.heap[g]? = some (.cells cur tt fz)) (hf : Free cur.size fz) (hfit : off + n ≤ cur.size) :
    (Instr.storeAt t (.pointer (some ⟨g, off, none⟩)) (.agg new.toArray)).run P w = .ok () (w.setRow g (cur.toList.take off ++ new ++ cur.toList.drop (off + new.length)).toArray) := by
  obtain ⟨i, hi, hs⟩ := Option.map_eq_some_iff.1 hT.sz
  have := run_storeCells_free (P := P) g off tt fz new 0 cur w hg hf (by omega) h1
  simp only [Nat.add_zero] at this
  simp only [Instr.storeAt, Instr.sureAddr, Sem.run_bind, Sem.run_pure, Result.andThen_ok]
  simp [storeVar, sizeOf, typeInfo, hi, hs, Value.cells, hn, this]

theorem wp_stS {x y : Operand} (hT : StT P t n z) (ho : o.op = .store t x y) (g off : Nat) (hx : a.eval x = .pointer (some ⟨g, off, none⟩)) (new : List Value) (hy : a.eval y = .agg new.toArray) (hn : new.length = n) (h1 : ∀ u ∈ new, u.oneCell' = true) (cur : Array Value) (tt : TypeId) (fz : Nat × Nat) (hg : w.heap[g]? = some (.cells cur tt fz)) (hf : Free cur.size fz) (hfit : off + n ≤ cur.size)
    (h : ∀ w', w'.heap[g]? = some (.cells (cur.toList.take off ++ new ++ cur.toList.drop (off + new.length)).toArray tt fz) → Fr [g] w w' → w'.heap.size = w.heap.size → K (a.put o.dst undef) w') : o.wp P a w K Q := by
  unfold Oper.wp execOp
  simp only [ho, hx, hy, Sem.run_bind, Sem.run_pure, Result.andThen_ok, run_stS hT g off new hn h1 cur tt fz hg hf hfit]
  exact h _ (setRow_heap w g cur _ tt fz hg) ((Fr.refl _ _).setRow (.inl (by simp)) _) (by unfold World.setRow; simp)

/-- A whole block is stored. -/
theorem wpList_stB {x y : Operand} (hT : StT P t n z) (hw : Region.wanted o (yielded ops a.tmps) = true) (ho : o.op = .store t x y) (g : Nat) (hx : a.eval x = .pointer (some ⟨g, 0, none⟩)) (new : List Value) (hy : a.eval y = .agg new.toArray) (hn : new.length = n) (h1 : ∀ u ∈ new, u.oneCell' = true) (cur : List Value) (hc : cur.length = n) (hb : Blk w g t cur.toArray)
    (h : ∀ w', Blk w' g t new.toArray → Fr [g] w w' → w'.heap.size = w.heap.size → wpList P ops Q rest (a.put o.dst undef) w') : wpList P ops Q (o :: rest) a w :=
  wpList_want hw fun _ hK => wp_stS hT ho g 0 hx new hy hn h1 cur.toArray t (0, 0) hb (free_zero _) (by simp; omega) fun w' h1 h2 h3 => hK _ _ (h w' (by
    have e : (cur.toArray.toList.take 0 ++ new ++ cur.toArray.toList.drop (0 + new.length)).toArray = new.toArray := by
      rw [List.take_zero, List.nil_append, Nat.zero_add, List.drop_of_length_le (by rw [hn, ← hc]; exact Nat.le_refl _), List.append_nil]
    rw [e] at h1
    exact h1) h2 h3)

theorem wpList_alS (hT : StT P t n z) (hw : Region.wanted o (yielded ops a.tmps) = true) (ho : o.op = .alloc t)
    (h : ∀ w', Blk w' w.heap.size t z.toArray → Fr [] w w' → w'.heap.size = w.heap.size + 1 → wpList P ops Q rest (a.put o.dst (.pointer (some ⟨w.heap.size, 0, none⟩))) w') : wpList P ops Q (o :: rest) a w :=
  wpList_want hw fun _ hK => by
    refine wp_val (.pointer (some ⟨w.heap.size, 0, none⟩)) (w.alloc (.cells z.toArray t)) ?_ (hK _ _ (h _ (Blk.new _ _ _) ((Fr.refl _ _).alloc _) (by simp)))
    unfold execOp
    simp [ho, Instr.alloc, hT.zv, newVar, newRow, Value.cells]

theorem wpList_boxS {x : Operand} (hw : Region.wanted o (yielded ops a.tmps) = true) (ho : o.op = .box t x) (cs : List Value) (hx : a.eval x = .agg cs.toArray)
    (h : ∀ w', Blk w' w.heap.size t cs.toArray → Fr [] w w' → w'.heap.size = w.heap.size + 1 → wpList P ops Q rest (a.put o.dst (.pointer (some ⟨w.heap.size, 0, none⟩))) w') : wpList P ops Q (o :: rest) a w :=
  wpList_want hw fun _ hK => by
    refine wp_val (.pointer (some ⟨w.heap.size, 0, none⟩)) (w.alloc (.cells cs.toArray t)) ?_ (hK _ _ (h _ (Blk.new _ _ _) ((Fr.refl _ _).alloc _) (by simp)))
    unfold execOp
    simp [ho, hx, Instr.box, newVar, newRow, Value.cells]

/-- What a build yields, told ahead. -/
theorem wpList_bld {ps : Array (Nat × Operand)} (hw : Region.wanted o (yielded ops a.tmps) = true) (ho : o.op = .build t ps) (v : Value) (hv : (Instr.build t (ps.map fun (i, x) => (i, a.eval x))).run P w = .ok v w)
    (h : wpList P ops Q rest (a.put o.dst v) w) : wpList P ops Q (o :: rest) a w :=
  wpList_want hw fun _ hK => by
    refine wp_val v w ?_ (hK _ _ h)
    unfold execOp
    simp only [ho, Sem.run_bind, Sem.run_pure, Result.andThen_ok, hv]

theorem run_eqS {op : BinOp} {x y : Operand} {xs ys : Array Value} (hT : StT P t n z) (ho : op = .eql ∨ op = .neq) (b : Bool) (he : (Op.equalIn 10000 t (.agg xs) (.agg ys)).run P w = .ok b w) :
    (do eqGuard op t x y (.agg xs) (.agg ys); binOp op t (.agg xs) (.agg ys) : Sem Value).run P w = .ok (.bool (if op = .eql then b else !b)) w := by
  rw [Sem.run_bind, run_eqGuard_agg w op t x y xs ys hT.eq, Result.andThen_ok]
  rcases ho with rfl | rfl
  · rw [run_eql_struct, he]; rfl
  · rw [run_neq_struct, he]; rfl

theorem wpList_eqS {op : BinOp} {x y : Operand} {ty : TypeId} {xs ys : Array Value} (hT : StT P t n z) (hw : Region.wanted o (yielded ops a.tmps) = true) (ho : o.op = .binOp op t x y ty) (hop : op = .eql ∨ op = .neq) (hx : a.eval x = .agg xs) (hy : a.eval y = .agg ys) (b : Bool) (he : (Op.equalIn 10000 t (.agg xs) (.agg ys)).run P w = .ok b w)
    (h : wpList P ops Q rest (a.put o.dst (.bool (if op = .eql then b else !b))) w) : wpList P ops Q (o :: rest) a w :=
  wpList_want hw fun _ hK => by
    refine wp_val _ w ?_ (hK _ _ h)
    have := run_eqS (x := x) (y := y) hT hop b he
    rw [Sem.run_bind] at this
    unfold execOp
    simp only [ho, hx, hy, Sem.run_bind, Sem.run_pure, this, Result.andThen_ok]

/-- A field of bytes out of a struct's cells. -/
theorem part_bytes {e : TypeId} (hu : P.underlying t = some (.array n e)) (hs : (P.info? t).map (·.size) = some n) (xs : Array Value) (off : Nat) (l : List UInt8) (hl : l.length = n) (hx : (xs.toList.drop off).take n = bvs l) :
    (part t xs off).run P w = .ok (.agg (bvs l).toArray) w := by
  obtain ⟨i, hi, hsz⟩ := Option.map_eq_some_iff.1 hs
  have : xs.extract off (off + n) = (bvs l).toArray := by
    apply Array.ext'
    rw [Array.toList_extract, List.extract_eq_take_drop, Nat.add_sub_cancel_left, hx]
  simp [part, isAgg, run_underlying hu, sizeOf, typeInfo, hi, hsz, this]
theorem part_one {d : TypeDesc} (hu : P.underlying t = some d) (hd : d.isRow = false) (xs : Array Value) (off : Nat) (v : Value) (hx : xs[off]? = some v) :
    (part t xs off).run P w = .ok v w := by
  cases d <;> simp_all [part, isAgg, run_underlying hu]
theorem eq_bytes {e : TypeId} (d : Nat) (hu : P.underlying t = some (.array n e)) (he : P.underlying e = some (.int .u8)) (hs : (P.info? e).map (·.size) = some 1) (a b : List UInt8) (ha : a.length = n) (hb : b.length = n) :
    (Op.equalIn (d + 2) t (.agg (bvs a).toArray) (.agg (bvs b).toArray)).run P w = .ok (a == b) w :=
  run_equalIn_bytes w d t e n hu he (fun w => by
    obtain ⟨i, hi, hsz⟩ := Option.map_eq_some_iff.1 hs
    simp [sizeOf, typeInfo, hi, hsz]) a b ha hb
/-- A field of an equality of structs. -/
theorem eqF_step (d : Nat) (xs ys : Array Value) (f : Field) (fs : List Field) (hn : f.name ≠ "_") (x y : Value) (hx : (part f.type xs f.offset).run P w = .ok x w) (hy : (part f.type ys f.offset).run P w = .ok y w) (b c : Bool) (he : (Op.equalIn d f.type x y).run P w = .ok b w) (hr : (Op.eqFields d xs ys fs).run P w = .ok c w) :
    (Op.eqFields d xs ys (f :: fs)).run P w = .ok (b && c) w := by
  simp only [Op.eqFields, hn, ne_eq, not_false_eq_true, if_true, Sem.run_bind, hx, hy, he, Result.andThen_ok]
  cases b
  · simp
  · simpa using hr

theorem run_loadB (hT : StT P t n z) {g : Nat} {cs : List Value} (hn : cs.length = n) (hb : Blk w g t cs.toArray) : (loadVar t ⟨g, 0, none⟩).run P w = .ok (.agg cs.toArray) w := by
  obtain ⟨d, hu, hd⟩ := hT.und
  exact run_loadVar_mid w g 0 t cs d hb.range0 hu hd (by rw [hT.sz, hn])
/-- Results that lie in a cell of their own. -/
theorem results_cell (hT : StT P t n z) {fn : Func} {p : Tmp} (hr : fn.results = #[.cell p t]) {tmps : Array Value} {g : Nat} {cs : List Value} (hv : tmps.getD p undef = .pointer (some ⟨g, 0, none⟩)) (hn : cs.length = n) (hb : Blk w g t cs.toArray) :
    (results fn tmps).run P w = .ok (.agg cs.toArray) w := by
  have hl := run_loadB hT hn hb
  have ha : (asAddr (.pointer (some ⟨g, 0, none⟩))).run P w = .ok ⟨g, 0, none⟩ w := rfl
  have hv' : tmps[p]?.getD undef = .pointer (some ⟨g, 0, none⟩) := by simpa using hv
  simp [results, hr, hv', ha, hl]
theorem results_cell2 (hT : StT P t n z) {fn : Func} {p q : Tmp} (hr : fn.results = #[.cell p t, .tmp q]) {tmps : Array Value} {g : Nat} {cs : List Value} (hv : tmps.getD p undef = .pointer (some ⟨g, 0, none⟩)) (hn : cs.length = n) (hb : Blk w g t cs.toArray) :
    (results fn tmps).run P w = .ok (.tuple #[.agg cs.toArray, tmps.getD q undef]) w := by
  have hl := run_loadB hT hn hb
  have ha : (asAddr (.pointer (some ⟨g, 0, none⟩))).run P w = .ok ⟨g, 0, none⟩ w := rfl
  have hv' : tmps[p]?.getD undef = .pointer (some ⟨g, 0, none⟩) := by simpa using hv
  simp [results, hr, hv', ha, hl]

/-- A slice's literal of structs. -/
theorem run_bs {ts : TypeId} (hT : StT P t n z) (ht : P.underlying ts = some (.slice t)) (hpos : 0 < n) (vs : List Value) (hv : ∀ v ∈ vs, v.cells.size = n) (hne : 0 < vs.length) (hsm : vs.length * n ≤ 2 ^ 24) :
    (Instr.buildSlice ts vs.length ((vs.zipIdx 0).map fun x => (x.2, x.1)).toArray).run P w = .ok (.slice (some ⟨w.heap.size, 0, none⟩) vs.length vs.length) (w.alloc (.cells (vs.flatMap fun v => v.cells.toList).toArray t)) := by
  obtain ⟨i, hi, hs⟩ := Option.map_eq_some_iff.1 hT.sz
  have h0 : ¬ (vs.length * n = 0) := by
    intro h
    rcases Nat.mul_eq_zero.1 h with h | h <;> omega
  have hbig : ¬ (2 ^ 24 < vs.length * n) := by omega
  have hf := Great.fill_whole hpos vs ((Array.range (vs.length * n)).map ((Value.agg z.toArray).cells[· % (Value.agg z.toArray).cells.size]!)) hv (by simp)
  unfold Instr.buildSlice
  simp only [Sem.run_bind, run_underlying ht, Result.andThen_ok, sizeOf, typeInfo, run_program, hi, Sem.run_pure, hs, gt_iff_lt, hbig, if_false, h0, hT.zv, hf, newRow, newObj]
  rfl

theorem wpList_bs1 {ts : TypeId} {x : Operand} (hT : StT P t n z) (ht : P.underlying ts = some (.slice t)) (hpos : 0 < n) (hsm : n ≤ 2 ^ 24) (hw : Region.wanted o (yielded ops a.tmps) = true) (ho : o.op = .buildSlice ts 1 #[(0, x)]) (cs : List Value) (hx : a.eval x = .agg cs.toArray) (hn : cs.length = n)
    (h : ∀ w', Blk w' w.heap.size t cs.toArray → Fr [] w w' → w'.heap.size = w.heap.size + 1 → wpList P ops Q rest (a.put o.dst (.slice (some ⟨w.heap.size, 0, none⟩) 1 1)) w') : wpList P ops Q (o :: rest) a w :=
  wpList_want hw fun _ hK => by
    refine wp_val (.slice (some ⟨w.heap.size, 0, none⟩) 1 1) (w.alloc (.cells cs.toArray t)) ?_ (hK _ _ (h _ (Blk.new _ _ _) ((Fr.refl _ _).alloc _) (by simp)))
    have hr := run_bs (w := w) hT ht hpos [.agg cs.toArray] (by intro v hv; rw [List.mem_singleton.1 hv]; simpa [Value.cells] using hn) (by simp) (by simpa using hsm)
    have e1 : ([Value.agg cs.toArray].flatMap fun v => v.cells.toList).toArray = cs.toArray := by simp [Value.cells]
    rw [e1] at hr
    unfold execOp
    simp only [ho, Sem.run_bind, Sem.run_pure, Result.andThen_ok]
    have e2 : (#[((0 : Nat), x)].map fun (i, x) => (i, a.eval x)) = (([Value.agg cs.toArray].zipIdx 0).map fun x => (x.2, x.1)).toArray := by simp [hx]
    rw [e2]
    show ((Instr.buildSlice ts [Value.agg cs.toArray].length _).run P w).andThen _ = _
    rw [hr]
    rfl
end
end Go.Proofs.YtamifdfkgbaobaaGreatDoor
/-
  Regions that draw their order, taken operation by operation: those that are not wanted (a guard is false) are taken first too. No program of the seat is named here.
-/
set_option linter.unusedSimpArgs false
set_option linter.unusedVariables false
set_option linter.unnecessarySimpa false
namespace Go.Proofs.YtamifdfkgbaobaaGreatDoor
section
variable {P : Program} {ops : Array Oper} {Q : Exit → Act → World → Prop} {S : World → Prop}

/-- An operation that yields. -/
theorem take_w {md : Region.Mode} (i : Nat) (d : Option Tmp) {oi : Oper} {v : Value} {fuel : Nat} {listed : Array Bool} {tm : Array Value} {df : List _} {w : World} (hi : ops[i]? = some oi) (hd : oi.dst = d)
    (hs : Region.noSelect ops = true) (hf : Region.free md ops listed i = true) (hr : (Region.ready md ops listed).contains i = true)
    (hQ : ∀ c a w, Q (.panic c) (a.put oi.dst v) w → Q (.panic c) a w) (hw : Region.wanted oi (yielded ops tm) = true)
    (hy : ∀ w, S w → (execOp (Act.eval ⟨tm, df⟩) oi).run P w = .ok (.value v) w) (hS : S w)
    (h : wpAnyH P md ops Q S fuel (listed.setIfInBounds i true) ((⟨tm, df⟩ : Act).put d v) w) : wpAnyH P md ops Q S (fuel + 1) listed ⟨tm, df⟩ w := by
  subst hd
  exact wpAnyH_take hi hs hf hr hQ (.inl ⟨hw, hy⟩) hS h

/-- An operation whose guard is false. -/
theorem take_u {md : Region.Mode} (i : Nat) (d : Option Tmp) {oi : Oper} {fuel : Nat} {listed : Array Bool} {tm : Array Value} {df : List _} {w : World} (hi : ops[i]? = some oi) (hd : oi.dst = d)
    (hs : Region.noSelect ops = true) (hf : Region.free md ops listed i = true) (hr : (Region.ready md ops listed).contains i = true)
    (hQ : ∀ c a w, Q (.panic c) (a.put oi.dst undef) w → Q (.panic c) a w) (hw : Region.wanted oi (yielded ops tm) = false) (hS : S w)
    (h : wpAnyH P md ops Q S fuel (listed.setIfInBounds i true) ((⟨tm, df⟩ : Act).put d undef) w) : wpAnyH P md ops Q S (fuel + 1) listed ⟨tm, df⟩ w := by
  subst hd
  exact wpAnyH_take hi hs hf hr hQ (.inr ⟨hw, rfl⟩) hS h

/-- One operation alone may come up: it is stepped over, and S shown anew. -/
theorem take_c {md : Region.Mode} (i : Nat) {oi : Oper} {fuel : Nat} {listed : Array Bool} {a : Act} {w : World} (hi : ops[i]? = some oi) (hr : Region.ready md ops listed = [i])
    (hw : Region.wanted oi (yielded ops a.tmps) = true)
    (h : ∀ K' : Act → World → Prop, Shut (∀ a w, S w → (S w → wpAnyH P md ops Q S fuel (listed.setIfInBounds i true) a w) → K' a w) → Oper.wp P oi a w K' Q) : wpAnyH P md ops Q S (fuel + 1) listed a w :=
  wpAnyH_ready hr (by simp) (AllReadyH.cons hi (fun K' hK => by rw [if_pos hw]; exact h K' hK) AllReadyH.nil)

/-- As 'take_c', the slot told: for a builtin by its law. -/
theorem take_cd {md : Region.Mode} (i : Nat) (d : Option Tmp) {oi : Oper} {fuel : Nat} {listed : Array Bool} {tm : Array Value} {df : List _} {w : World} (hi : ops[i]? = some oi) (hd : oi.dst = d) (hr : Region.ready md ops listed = [i])
    (hw : Region.wanted oi (yielded ops tm) = true)
    (h : ∀ K' : Act → World → Prop, (∀ v w', S w' → (S w' → wpAnyH P md ops Q S fuel (listed.setIfInBounds i true) ((⟨tm, df⟩ : Act).put d v) w') → K' ((⟨tm, df⟩ : Act).put oi.dst v) w') → Oper.wp P oi ⟨tm, df⟩ w K' Q) : wpAnyH P md ops Q S (fuel + 1) listed ⟨tm, df⟩ w :=
  take_c i hi hr hw fun K' hK => h K' fun v w' hS hW => hK.out _ _ hS (by rw [hd]; exact hW)
end
end Go.Proofs.YtamifdfkgbaobaaGreatDoor
/-
  Memory words, the third text: structs in regions that draw their order; one of two operations; blocks and ranges that stay. No program of the seat is named here.
-/
set_option linter.unusedSimpArgs false
set_option linter.unusedVariables false
set_option linter.unnecessarySimpa false
namespace Go.Proofs.YtamifdfkgbaobaaGreatDoor
open Go.RowKit

theorem Blk.keep_nil {w w' : World} {g : Nat} {t : TypeId} {cs : Array Value} (h : Blk w g t cs) (hf : Fr [] w w') : Blk w' g t cs := h.keep hf (by simp)
theorem rangeAt_keep {w w' : World} {g o : Nat} {cs : List Value} (h : w.rangeAt g o cs) {F : List Nat} (hf : Fr F w w') (hn : g ∉ F) : w'.rangeAt g o cs := fun j u hu => hf.cell (p := ⟨g, o + j, none⟩) hn (h j u hu)
/-- The const bytes '[]byte("..")'. -/
theorem Rd.mark (w : World) (xs : List UInt8) (t : TypeId) (fz : Nat × Nat) : Rd (w.alloc (.cells (bvs xs).toArray t fz)) (some ⟨w.heap.size, 0, none⟩) (bvs xs) := fun _ =>
  ⟨w.heap.size, 0, rfl, fun j u hu => by rw [cell_of_row _ _ _ _ _ _ (heap_alloc_new w _), Nat.zero_add]; simpa using hu⟩

section
variable {P : Program} {o : Oper} {a : Act} {w : World} {t : TypeId} {n : Nat} {z : List Value}
theorem hy_ld {x : Operand} (hT : StT P t n z) (ho : o.op = .load t x) (g off : Nat) (hx : a.eval x = .pointer (some ⟨g, off, none⟩)) (cs : List Value) (hn : cs.length = n) (hc : w.rangeAt g off cs) : (execOp a.eval o).run P w = .ok (.value (.agg cs.toArray)) w := by
  obtain ⟨d, hu, hd⟩ := hT.und
  unfold execOp
  simp only [ho, hx, Instr.loadAt, Instr.sureAddr, Sem.run_bind, Sem.run_pure, Result.andThen_ok, run_loadVar_mid w g off t cs d hc hu hd (by rw [hT.sz, hn])]
theorem hy_eq {op : BinOp} {x y : Operand} {ty : TypeId} {xs ys : Array Value} (hT : StT P t n z) (ho : o.op = .binOp op t x y ty) (hop : op = .eql ∨ op = .neq) (hx : a.eval x = .agg xs) (hy : a.eval y = .agg ys) (b : Bool) (he : (Op.equalIn 10000 t (.agg xs) (.agg ys)).run P w = .ok b w) : (execOp a.eval o).run P w = .ok (.value (.bool (if op = .eql then b else !b))) w := by
  have := run_eqS (x := x) (y := y) hT hop b he
  rw [Sem.run_bind] at this
  unfold execOp
  simp only [ho, hx, hy, Sem.run_bind, Sem.run_pure, this, Result.andThen_ok]
theorem hy_ne {x y : Operand} {ty : TypeId} {xs ys : Array Value} (hT : StT P t n z) (ho : o.op = .binOp .neq t x y ty) (hx : a.eval x = .agg xs) (hy : a.eval y = .agg ys) (he : (Op.equalIn 10000 t (.agg xs) (.agg ys)).run P w = .ok true w) : (execOp a.eval o).run P w = .ok (.value (.bool false)) w := hy_eq hT ho (.inr rfl) hx hy true he
end

section
theorem hy_bld {P : Program} {o : Oper} {a : Act} {w : World} {t : TypeId} {ps : Array (Nat × Operand)} {ps' : Array (Nat × Value)} (ho : o.op = .build t ps) (he : (ps.map fun (i, x) => (i, a.eval x)) = ps') (v : Value) (hv : (Instr.build t ps').run P w = .ok v w) : (execOp a.eval o).run P w = .ok (.value v) w := by
  unfold execOp
  simp only [ho, he, Sem.run_bind, Sem.run_pure, Result.andThen_ok, hv]
variable {P : Program} {o : Oper} {a : Act} {w : World} {K : Act → World → Prop} {Q : Exit → Act → World → Prop} {t : TypeId} {n : Nat} {z : List Value}
theorem wp_alS (hT : StT P t n z) (ho : o.op = .alloc t)
    (h : ∀ w', Blk w' w.heap.size t z.toArray → Fr [] w w' → w'.heap.size = w.heap.size + 1 → K (a.put o.dst (.pointer (some ⟨w.heap.size, 0, none⟩))) w') : o.wp P a w K Q := by
  refine wp_val (.pointer (some ⟨w.heap.size, 0, none⟩)) (w.alloc (.cells z.toArray t)) ?_ (h _ (Blk.new _ _ _) ((Fr.refl _ _).alloc _) (by simp))
  unfold execOp
  simp [ho, Instr.alloc, hT.zv, newVar, newRow, Value.cells]
theorem wp_stB {x y : Operand} (hT : StT P t n z) (ho : o.op = .store t x y) (g : Nat) (hx : a.eval x = .pointer (some ⟨g, 0, none⟩)) (new : List Value) (hy : a.eval y = .agg new.toArray) (hn : new.length = n) (h1 : ∀ u ∈ new, u.oneCell' = true) (cur : List Value) (hc : cur.length = n) (hb : Blk w g t cur.toArray)
    (h : ∀ w', Blk w' g t new.toArray → Fr [g] w w' → w'.heap.size = w.heap.size → K (a.put o.dst undef) w') : o.wp P a w K Q :=
  wp_stS hT ho g 0 hx new hy hn h1 cur.toArray t (0, 0) hb (free_zero _) (by simp; omega) fun w' h1 h2 h3 => h w' (by
    have e : (cur.toArray.toList.take 0 ++ new ++ cur.toArray.toList.drop (0 + new.length)).toArray = new.toArray := by
      rw [List.take_zero, List.nil_append, Nat.zero_add, List.drop_of_length_le (by rw [hn, ← hc]; exact Nat.le_refl _), List.append_nil]
    rw [e] at h1
    exact h1) h2 h3
end

section
variable {P : Program} {ops : Array Oper} {Q : Exit → Act → World → Prop} {S : World → Prop}
/-- One of two may come up. -/
theorem take_2 {md : Region.Mode} (i j : Nat) (di dj : Option Tmp) {oi oj : Oper} {fuel : Nat} {listed : Array Bool} {tm : Array Value} {df : List _} {w : World} (hi : ops[i]? = some oi) (hj : ops[j]? = some oj) (hdi : oi.dst = di) (hdj : oj.dst = dj) (hr : Region.ready md ops listed = [i, j])
    (hwi : Region.wanted oi (yielded ops tm) = true) (hwj : Region.wanted oj (yielded ops tm) = true)
    (h1 : ∀ K' : Act → World → Prop, (∀ v w', S w' → (S w' → wpAnyH P md ops Q S fuel (listed.setIfInBounds i true) ((⟨tm, df⟩ : Act).put di v) w') → K' ((⟨tm, df⟩ : Act).put oi.dst v) w') → Oper.wp P oi ⟨tm, df⟩ w K' Q)
    (h2 : ∀ K' : Act → World → Prop, (∀ v w', S w' → (S w' → wpAnyH P md ops Q S fuel (listed.setIfInBounds j true) ((⟨tm, df⟩ : Act).put dj v) w') → K' ((⟨tm, df⟩ : Act).put oj.dst v) w') → Oper.wp P oj ⟨tm, df⟩ w K' Q) : wpAnyH P md ops Q S (fuel + 1) listed ⟨tm, df⟩ w :=
  wpAnyH_ready hr (by simp) (AllReadyH.cons hi (fun K' hK => by rw [if_pos hwi]; exact h1 K' fun v w' hS hW => hK.out _ _ hS (by rw [hdi]; exact hW))
    (AllReadyH.cons hj (fun K' hK => by rw [if_pos hwj]; exact h2 K' fun v w' hS hW => hK.out _ _ hS (by rw [hdj]; exact hW)) AllReadyH.nil))
theorem wp_bs0 {o : Oper} {a : Act} {w : World} {K : Act → World → Prop} {t : TypeId} {n : Nat} {z : List Value} {ts : TypeId} (hT : StT P t n z) (ht : P.underlying ts = some (.slice t)) (ho : o.op = .buildSlice ts 0 #[])
    (h : K (a.put o.dst (.slice (some ⟨w.heap.size, 0, none⟩) 0 0)) (w.alloc (.cells #[] t))) : o.wp P a w K Q := by
  obtain ⟨i, hi, hs⟩ := Option.map_eq_some_iff.1 hT.sz
  refine wp_val (.slice (some ⟨w.heap.size, 0, none⟩) 0 0) (w.alloc (.cells #[] t)) ?_ h
  unfold execOp
  simp only [ho, Sem.run_bind, Sem.run_pure, Result.andThen_ok]
  simp [Instr.buildSlice, run_underlying ht, sizeOf, typeInfo, hi, hs, newRow, Instr.fill]
  have e : ∀ f : Nat → Value, Array.map f (Array.range 0) = #[] := fun f => by apply Array.eq_empty_of_size_eq_zero; simp
  rw [e]
end

/-- One cell is written. -/
theorem wp_st1 {P : Program} {o : Oper} {a : Act} {w : World} {K : Act → World → Prop} {Q : Exit → Act → World → Prop} {ty : TypeId} {x y : Operand} (ho : o.op = .store ty x y) (hsz : (P.info? ty).map (·.size) = some 1) (g i : Nat) (hx : a.eval x = .pointer (some ⟨g, i, none⟩)) (v : Value) (hy : a.eval y = v) (hv : v.cells = #[v]) (h1 : v.oneCell' = true)
    {old : Value} (hc : w.cell? ⟨g, i, none⟩ = some old) (hz : w.frozen? ⟨g, i, none⟩ = false) (h : K (a.put o.dst undef) (w.setCell ⟨g, i, none⟩ v)) : o.wp P a w K Q := by
  obtain ⟨j, hj, hs⟩ := Option.map_eq_some_iff.1 hsz
  have hst : (store ((⟨g, i, none⟩ : Addr).add 0) v).run P w = .ok () (w.setCell ⟨g, i, none⟩ v) := by
    rw [addr_add, run_store P w _ v _ h1, Nat.add_zero, hc]
    simp [hz]
  have hat : (Instr.storeAt ty (.pointer (some ⟨g, i, none⟩)) v).run P w = .ok () (w.setCell ⟨g, i, none⟩ v) := by
    simp only [Instr.storeAt, Instr.sureAddr, Sem.run_bind, Sem.run_pure, Result.andThen_ok]
    simp [storeVar, sizeOf, typeInfo, hj, hs, hv, storeCells, hst]
  unfold Oper.wp execOp
  simp only [ho, hx, hy, Sem.run_bind, Sem.run_pure, Result.andThen_ok, hat]
  exact h

/-- An element of an array by value. -/
theorem wpList_ix1 {P : Program} {ops : Array Oper} {rest : List Oper} {o : Oper} {a : Act} {w : World} {Q : Exit → Act → World → Prop} {t e : TypeId} {n : Nat} {d : TypeDesc} {x y : Operand} (hu : P.underlying t = some (.array n e)) (he : P.underlying e = some d) (hd : d.isRow = false) (hsz : (P.info? e).map (·.size) = some 1)
    (hw : Region.wanted o (yielded ops a.tmps) = true) (ho : o.op = .index t x y) (cs : Array Value) (hx : a.eval x = .agg cs) (k : IntKind) (i : Nat) (hy : a.eval y = .int k (i : Int)) (hi : i < n) (v : Value) (hv : cs[i]? = some v)
    (h : wpList P ops Q rest (a.put o.dst v) w) : wpList P ops Q (o :: rest) a w :=
  wpList_want hw fun _ hK => by
    refine wp_val v w ?_ (hK _ _ h)
    obtain ⟨j, hj, hs⟩ := Option.map_eq_some_iff.1 hsz
    have hp : (part e cs i).run P w = .ok v w := part_one he hd cs i v hv
    have h2 : (0 : Int) ≤ (i : Int) ∧ (i : Int) < (n : Int) := by omega
    unfold execOp
    simp only [ho, hx, hy, Sem.run_bind, Sem.run_pure, Result.andThen_ok]
    simp [Instr.index, asIntOf, run_underlying hu, h2, sizeOf, typeInfo, hj, hs, hp]
    intro hge
    omega

/-- What a build yields, its parts told. -/
theorem wpList_bldK {P : Program} {ops : Array Oper} {rest : List Oper} {o : Oper} {a : Act} {w : World} {Q : Exit → Act → World → Prop} {t : TypeId} {ps : Array (Nat × Operand)} (hw : Region.wanted o (yielded ops a.tmps) = true) (ho : o.op = .build t ps) (ps' : Array (Nat × Value)) (he : (ps.map fun (i, x) => (i, a.eval x)) = ps') (v : Value) (hv : (Instr.build t ps').run P w = .ok v w)
    (h : wpList P ops Q rest (a.put o.dst v) w) : wpList P ops Q (o :: rest) a w :=
  wpList_bld hw ho v (by rw [he]; exact hv) h

/-- One cell is read. -/
theorem wp_ld1 {P : Program} {o : Oper} {a : Act} {w : World} {K : Act → World → Prop} {Q : Exit → Act → World → Prop} {ty : TypeId} {d : TypeDesc} {x : Operand} (hu : P.underlying ty = some d) (hd : d.isRow = false) (ho : o.op = .load ty x) (g i : Nat) (hx : a.eval x = .pointer (some ⟨g, i, none⟩)) (v : Value) (hc : w.cell? ⟨g, i, none⟩ = some v)
    (h : K (a.put o.dst v) w) : o.wp P a w K Q := by
  have hl : (loadVar ty ⟨g, i, none⟩).run P w = .ok v w := by
    have ha : (isAgg ty).run P w = .ok false w := by cases d <;> simp_all [isAgg, run_underlying hu]
    simp [loadVar, ha, hc]
  refine wp_val v w ?_ h
  unfold execOp
  simp only [ho, hx, Instr.loadAt, Instr.sureAddr, Sem.run_bind, Sem.run_pure, Result.andThen_ok, hl]
end Go.Proofs.YtamifdfkgbaobaaGreatDoor
