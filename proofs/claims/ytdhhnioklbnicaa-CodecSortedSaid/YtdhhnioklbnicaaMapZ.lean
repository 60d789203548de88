/-
  Maps by whole numbers, as functions, whatever their values are: made, read, written, struck, cleared, gone over.
-/
import Derived.Test.YtdhhnioklbnicaaMemB
import Derived.Test.YtdhhnioklbnicaaProg
import Derived.Maps.Own
import Derived.Maps.OwnOps
import Derived.Maps.OwnSet
import Derived.Maps.RangeWalk
set_option linter.unusedSimpArgs false
set_option linter.unusedVariables false
set_option linter.unnecessarySimpa false
namespace Go.Proofs.Ytdhhnioklbnicaa
open Go.RowKit Go.Maps Go.ChangeMaps Go.MapKept

def rawV (v : Value) : Option (DataW Value × List MemPlace) := some (.held v, [])
theorem keyZ : Keyed Try.prog 3 := int_keyed Try.underlying3
def wfZ (x : Int) : Prop := (Lit.int .i64 x).wf = true
theorem wfZ_of {x : Int} (h : -9223372036854775808 ≤ x ∧ x ≤ 9223372036854775807) : wfZ x := by
  simp [wfZ, Lit.wf, IntKind.min, IntKind.max, IntKind.signed, IntKind.bits]
  exact h
theorem wfZ_b {x : Int} (h : wfZ x) : -9223372036854775808 ≤ x ∧ x ≤ 9223372036854775807 := by
  simp [wfZ, Lit.wf, IntKind.min, IntKind.max, IntKind.signed, IntKind.bits] at h
  exact h
theorem keyZ_of {x : Int} (h : wfZ x) : keyOf Try.prog 3 (.int .i64 x) = some (.int .i64 x) := keyOf_int_mk Try.underlying3 h
/-- The datum of a map, as a function. -/
def AsF (D : DataW Value) (f : Int → Option Value) : Prop := ∀ x, wfZ x → Maps.has D (.int .i64 x) = (f x).isSome ∧ ∀ v, f x = some v → ∀ z, D.atKey (.int .i64 x) z = .held v
theorem AsF.at {D : DataW Value} {f : Int → Option Value} (h : AsF D f) {x : Int} (hx : wfZ x) (z : Value) : D.atKey (.int .i64 x) (.held z) = .held ((f x).getD z) := by
  obtain ⟨h1, h2⟩ := h x hx
  cases hf : f x with
  | none => rw [hf] at h1; rw [atKey_of_not_has h1]; rfl
  | some v => rw [h2 v hf]; rfl
def fput (f : Int → Option Value) (x : Int) (v : Value) : Int → Option Value := fun y => if y = x then some v else f y
def fdel (f : Int → Option Value) (x : Int) : Int → Option Value := fun y => if y = x then none else f y
theorem lit_ne {x y : Int} (h : y ≠ x) : Lit.int .i64 y ≠ Lit.int .i64 x := fun e => by injection e with _ e; exact h e
theorem AsF.put {D : DataW Value} {f : Int → Option Value} (h : AsF D f) (hD : IsMap D) (x : Int) (v : Value) : AsF (D.put (.int .i64 x) (.held v)) (fput f x v) := fun y hy => by
  unfold fput
  by_cases e : y = x
  · subst e
    rw [if_pos rfl, has_put_same (k := .int .i64 y) hD trivial]
    exact ⟨rfl, fun u hu z => by cases hu; exact atKey_put_same (k := .int .i64 y) hD trivial _ _⟩
  · rw [if_neg e, has_put_other (lit_ne e)]
    exact ⟨(h y hy).1, fun u hu z => by rw [atKey_put_other (lit_ne e)]; exact (h y hy).2 u hu z⟩
theorem AsF.del {D : DataW Value} {f : Int → Option Value} (h : AsF D f) (x : Int) : AsF (D.del (.int .i64 x)) (fdel f x) := fun y hy => by
  unfold fdel
  by_cases e : y = x
  · subst e
    rw [if_pos rfl, has_del_same]
    exact ⟨rfl, fun u hu => by cases hu⟩
  · rw [if_neg e, has_del_other (lit_ne e)]
    exact ⟨(h y hy).1, fun u hu z => by rw [atKey_del_other (lit_ne e)]; exact (h y hy).2 u hu z⟩
theorem AsF.nil : AsF (.map []) (fun _ => none) := fun x _ => ⟨rfl, fun v h => by cases h⟩
theorem AsF.eq {D : DataW Value} {f g : Int → Option Value} (h : AsF D f) (e : ∀ x, wfZ x → f x = g x) : AsF D g := fun x hx => by
  rw [← e x hx]; exact h x hx

/-- Block b is a map of at most n entries, that is f. -/
def MapZ (w : World) (b n : Nat) (f : Int → Option Value) : Prop := ∃ D : DataW Value, w.ownsMap Try.prog 3 rawV b n D ∧ AsF D f
section
variable {w w' : World} {b n : Nat} {f : Int → Option Value}
theorem MapZ.lt (h : MapZ w b n f) : b < w.heap.size := by obtain ⟨D, h, _⟩ := h; exact h.lt
theorem MapZ.blk_eq (h : MapZ w b n f) (e : w'.heap[b]? = w.heap[b]?) : MapZ w' b n f := by
  obtain ⟨D, ⟨es, clock, hb, r⟩, hf⟩ := h
  exact ⟨D, ⟨es, clock, e.trans hb, r⟩, hf⟩
theorem MapZ.keep (h : MapZ w b n f) {F : List Nat} (hf : Fr F w w') (hb : b ∉ F) : MapZ w' b n f := h.blk_eq (hf.same b h.lt hb)
theorem MapZ.keep_nil (h : MapZ w b n f) (hf : Fr [] w w') : MapZ w' b n f := h.keep hf (by simp)
theorem MapZ.mono (h : MapZ w b n f) {m : Nat} (hm : n ≤ m) : MapZ w b m f := by
  obtain ⟨D, h, hf⟩ := h
  exact ⟨D, h.mono hm, hf⟩
theorem MapZ.eq (h : MapZ w b n f) {g : Int → Option Value} (e : ∀ x, wfZ x → f x = g x) : MapZ w b n g := by
  obtain ⟨D, h, hf⟩ := h
  exact ⟨D, h, hf.eq e⟩
theorem MapZ.made (w : World) : MapZ (w.alloc (.map #[] 0)) w.heap.size 0 (fun _ => none) := ⟨_, World.ownsMap_made _ _ _ _, AsF.nil⟩
/-- A map has no cells. -/
theorem MapZ.no_cell (h : MapZ w b n f) (i : Nat) : w.cell? ⟨b, i, none⟩ = none := by
  obtain ⟨D, ⟨es, clock, hb, _⟩, _⟩ := h
  simp [World.cell?, hb]
theorem grown_frZ {b : Nat} (h : w.grownBy w' (some b)) : Fr [b] w w' := ⟨h.os, h.tape, h.output, h.size, fun k hk hn => h.block k hk (by simp at hn; simpa using hn)⟩
theorem grown_frN (h : w.grownBy w' none) : Fr [] w w' := ⟨h.os, h.tape, h.output, h.size, fun k hk hn => h.block k hk (by simp)⟩
theorem MapZ.look (h : MapZ w b n f) {t e : TypeId} (ht : Try.prog.underlying t = some (.map 3 e)) {z : Value} (hz : (zeroValue e).run Try.prog w = .ok z w) {x : Int} (hx : wfZ x) :
    (Instr.lookup t (.map (some b)) (.int .i64 x) false).run Try.prog w = .ok ((f x).getD z) w := by
  obtain ⟨D, h, hf⟩ := h
  obtain ⟨v, ps, hrun, hv⟩ := h.lookup keyZ ht hz (zd := .held z) (zp := []) rfl (keyZ_of hx)
  rw [hf.at hx] at hv
  simp only [rawV, Option.some.injEq, Prod.mk.injEq, DataW.held.injEq] at hv
  rw [hrun, hv.1]
theorem MapZ.look_ok (h : MapZ w b n f) {t e : TypeId} (ht : Try.prog.underlying t = some (.map 3 e)) {z : Value} (hz : (zeroValue e).run Try.prog w = .ok z w) {x : Int} (hx : wfZ x) :
    (Instr.lookup t (.map (some b)) (.int .i64 x) true).run Try.prog w = .ok (.tuple #[(f x).getD z, .bool (f x).isSome]) w := by
  obtain ⟨D, h, hf⟩ := h
  obtain ⟨v, ps, hrun, hv⟩ := h.look_ok keyZ ht hz (zd := .held z) (zp := []) rfl (keyZ_of hx)
  rw [hf.at hx] at hv
  simp only [rawV, Option.some.injEq, Prod.mk.injEq, DataW.held.injEq] at hv
  rw [hrun, hv.1, (hf x hx).1]
theorem MapZ.put (h : MapZ w b n f) {t e : TypeId} (ht : Try.prog.underlying t = some (.map 3 e)) (hn : n < maxLen) {x : Int} (hx : wfZ x) (v : Value) :
    ∃ w', (Instr.mapUpdate t (.map (some b)) (.int .i64 x) v).run Try.prog w = .ok () w' ∧ MapZ w' b (n + 1) (fput f x v) ∧ Fr [b] w w' ∧ w'.heap.size = w.heap.size := by
  obtain ⟨D, h, hf⟩ := h
  obtain ⟨w', hrun, ho, hg⟩ := h.store keyZ ht hn (val := v) (d := .held v) (ps := []) (keyZ_of hx) rfl
  refine ⟨w', hrun, ⟨_, ho, hf.put h.isMap x v⟩, grown_frZ hg.grown, ?_⟩
  obtain ⟨_, _, _, _, _, rfl⟩ := hg
  simp [setBlock]
theorem MapZ.del (h : MapZ w b n f) {t e : TypeId} (ht : Try.prog.underlying t = some (.map 3 e)) {x : Int} (hx : wfZ x) (ty : TypeId) :
    ∃ w', (Builtin.delete_ #[t, 3] ty #[.map (some b), .int .i64 x]).run Try.prog w = .ok (.tuple #[]) w' ∧ MapZ w' b n (fdel f x) ∧ Fr [b] w w' ∧ w'.heap.size = w.heap.size := by
  obtain ⟨D, h, hf⟩ := h
  obtain ⟨w', hrun, ho, hg⟩ := h.drop keyZ ht (keyZ_of hx) ty
  refine ⟨w', hrun, ⟨_, ho, hf.del x⟩, grown_frZ hg.grown, ?_⟩
  obtain ⟨_, _, _, _, _, rfl⟩ := hg
  simp [setBlock]
theorem MapZ.clear (h : MapZ w b n f) {t e : TypeId} (ht : Try.prog.underlying t = some (.map 3 e)) (ty : TypeId) :
    ∃ w', (Builtin.clear_ #[t] ty #[.map (some b)]).run Try.prog w = .ok (.tuple #[]) w' ∧ MapZ w' b 0 (fun _ => none) ∧ Fr [b] w w' ∧ w'.heap.size = w.heap.size := by
  obtain ⟨D, ⟨es, clock, hb, _⟩, _⟩ := h
  refine ⟨setBlock w b (.map #[] clock), ?_, ⟨.map [], ⟨#[], clock, heap_setBlock_same hb _, ⟨by simp, stamped_empty clock, by simp⟩, Nat.le_refl _, rfl⟩, AsF.nil⟩, ⟨rfl, rfl, rfl, by simp [setBlock], fun i _ hi => heap_setBlock_other hb _ (fun e => hi (by simp [e]))⟩, by simp [setBlock]⟩
  simp [Builtin.clear_, run_underlying ht, MapKept.run_getObj_map hb, MapKept.run_setObj_map _ hb, Result.andThen, setBlock]

theorem pigeon : ∀ (K : Nat) (l : List Nat), l.Nodup → (∀ x ∈ l, x < K) → l.length ≤ K
  | 0, l, _, h => by
    cases l with
    | nil => simp
    | cons x r => exact absurd (h x (by simp)) (by omega)
  | K + 1, l, hn, h => by
    by_cases hm : K ∈ l
    · have h1 := pigeon K (l.erase K) (hn.erase K) (fun x hx => by
        have h2 := hn.mem_erase_iff.1 hx
        have := h x h2.2
        have := h2.1
        omega)
      rw [List.length_erase_of_mem hm] at h1
      omega
    · have h1 := pigeon K l hn (fun x hx => by
        have := h x hx
        have : x ≠ K := fun e => hm (e ▸ hx)
        omega)
      omega
/-- As many entries as there may be keys. -/
theorem MapZ.tight (h : MapZ w b n f) {K : Nat} (hk : ∀ x, wfZ x → f x ≠ none → 0 ≤ x ∧ x < K) : MapZ w b K f := by
  obtain ⟨D, ⟨es, clock, hb, F, hs, hD⟩, hf⟩ := h
  refine ⟨D, ⟨es, clock, hb, F, ?_, hD⟩, hf⟩
  have ap := fit_apart keyZ F
  have ks := fit_keys F
  have key : ∀ p ∈ es.toList.map (WideElems.rg Try.prog 3 rawV), ∃ x : Nat, p.1 = .int .i64 x ∧ x < K := by
    intro p hp
    obtain ⟨v, hv⟩ := ks p hp
    obtain ⟨x, rfl, e, hw⟩ := Maps.keyOf_int_inv Try.underlying3 hv
    have hh : Maps.has D (.int .i64 x) = true := by
      rw [hD]
      exact List.any_eq_true.2 ⟨p, mem_sorted.2 hp, by rw [e]; exact WideAt.sameKey_self (a := .int .i64 x) trivial⟩
    have h1 := (hf x hw).1
    rw [hh] at h1
    obtain ⟨h2, h3⟩ := hk x hw (fun e => by rw [e] at h1; cases h1)
    exact ⟨x.toNat, e.trans (congrArg (Lit.int .i64) (by omega)), by omega⟩
  have hl : ((es.toList.map (WideElems.rg Try.prog 3 rawV)).map (fun p => match p.1 with | .int _ z => z.toNat | _ => 0)).length ≤ K := by
    apply pigeon
    · rw [List.nodup_iff_pairwise_ne, List.pairwise_map]
      refine List.Pairwise.imp_of_mem (fun {p q} hp hq hne => ?_) ap
      obtain ⟨x, e1, _⟩ := key p hp
      obtain ⟨y, e2, _⟩ := key q hq
      rw [e1, e2] at hne ⊢
      intro e
      apply hne
      have : x = y := by simpa using e
      rw [this]
    · intro x hx
      obtain ⟨p, hp, rfl⟩ := List.mem_map.1 hx
      obtain ⟨y, e1, hy⟩ := key p hp
      rw [e1]
      simpa using hy
  simpa using hl

/-- 'for x, v := range m' under way: which keys are still to come. -/
def RangeZ (w : World) (b r n : Nat) (f : Int → Option Value) (left : Int → Bool) (cnt : Nat) : Prop :=
  ∃ (D : DataW Value) (lf : Lit → Bool), w.ranges Try.prog 3 rawV b r n D lf cnt ∧ AsF D f ∧ ∀ x, wfZ x → lf (.int .i64 x) = left x
theorem RangeZ.map {r : Nat} {left : Int → Bool} {cnt : Nat} (h : RangeZ w b r n f left cnt) : MapZ w b n f := by
  obtain ⟨D, lf, h, hf, _⟩ := h
  exact ⟨D, h.owns, hf⟩
theorem RangeZ.left_eq {r : Nat} {left : Int → Bool} {cnt : Nat} (h : RangeZ w b r n f left cnt) : w.rangeLeft b r = cnt := by
  obtain ⟨D, lf, h, hf, _⟩ := h
  exact h.left_eq
theorem RangeZ.keep {r : Nat} {left : Int → Bool} {cnt : Nat} (h : RangeZ w b r n f left cnt) {F : List Nat} (hf : Fr F w w') (hb : b ∉ F) (hr : r ∉ F) : RangeZ w' b r n f left cnt := by
  obtain ⟨D, lf, h, h2, h3⟩ := h
  refine ⟨D, lf, ?_, h2, h3⟩
  have hlb := h.owns.lt
  have hlr := h.lt
  obtain ⟨es, clock, since, seen, c0, k1, k2, k3, k4, k5, k6⟩ := h
  exact ⟨es, clock, since, seen, c0, (hf.same b hlb hb).trans k1, k2, k3, k4, (hf.same r hlr hr).trans k5, k6⟩
end

section
variable {w : World} {ops : Array Oper} {rest : List Oper} {o : Oper} {a : Act} {Q : Exit → Act → World → Prop} {b n : Nat} {f : Int → Option Value}
theorem wpList_lookZ (hg : o.guard = none) {m x : Operand} {t e : TypeId} (hop : o.op = Op.lookup t m x false) (ht : Try.prog.underlying t = some (.map 3 e)) {z : Value} (hz : (zeroValue e).run Try.prog w = .ok z w)
    (hm : a.eval m = .map (some b)) (h : MapZ w b n f) (k : Int) (hx : a.eval x = .int .i64 k) (hk : wfZ k) (hK : wpList Try.prog ops Q rest (a.put o.dst ((f k).getD z)) w) : wpList Try.prog ops Q (o :: rest) a w := by
  refine wpList_plain hg fun K' hK' => ?_
  have hrun := h.look ht hz hk
  unfold Oper.wp
  simp [execOp, hop, hm, hx, hrun, Result.andThen]
  exact hK' _ _ hK
theorem wpList_lookOkZ (hg : o.guard = none) {m x : Operand} {t e : TypeId} (hop : o.op = Op.lookup t m x true) (ht : Try.prog.underlying t = some (.map 3 e)) {z : Value} (hz : (zeroValue e).run Try.prog w = .ok z w)
    (hm : a.eval m = .map (some b)) (h : MapZ w b n f) (k : Int) (hx : a.eval x = .int .i64 k) (hk : wfZ k) (hK : wpList Try.prog ops Q rest (a.put o.dst (.tuple #[(f k).getD z, .bool (f k).isSome])) w) : wpList Try.prog ops Q (o :: rest) a w := by
  refine wpList_plain hg fun K' hK' => ?_
  have hrun := h.look_ok ht hz hk
  unfold Oper.wp
  simp [execOp, hop, hm, hx, hrun, Result.andThen]
  exact hK' _ _ hK
theorem wpList_putZ (hg : o.guard = none) {m x v : Operand} {t e : TypeId} (hop : o.op = Op.mapUpdate t m x v) (ht : Try.prog.underlying t = some (.map 3 e))
    (hm : a.eval m = .map (some b)) (h : MapZ w b n f) (hn : n < maxLen) (k : Int) (hx : a.eval x = .int .i64 k) (hk : wfZ k) (u : Value) (hv : a.eval v = u)
    (hK : ∀ w', MapZ w' b (n + 1) (fput f k u) → Fr [b] w w' → w'.heap.size = w.heap.size → wpList Try.prog ops Q rest (a.put o.dst undef) w') : wpList Try.prog ops Q (o :: rest) a w := by
  refine wpList_plain hg fun K' hK' => ?_
  obtain ⟨w', hrun, h1, h2, h3⟩ := h.put ht hn hk u
  unfold Oper.wp
  simp [execOp, hop, hm, hx, hv, hrun, Result.andThen]
  exact hK' _ _ (hK w' h1 h2 h3)
theorem wpList_delZ (hg : o.guard = none) {m x : Operand} {t e : TypeId} (hop : o.op = Op.call { callee := Callee.builtin Builtin.delete, args := #[m, x], argTypes := #[t, 3] }) (ht : Try.prog.underlying t = some (.map 3 e))
    (hm : a.eval m = .map (some b)) (h : MapZ w b n f) (k : Int) (hx : a.eval x = .int .i64 k) (hk : wfZ k)
    (hK : ∀ w', MapZ w' b n (fdel f k) → Fr [b] w w' → w'.heap.size = w.heap.size → wpList Try.prog ops Q rest (a.put o.dst (.tuple #[])) w') : wpList Try.prog ops Q (o :: rest) a w := by
  refine wpList_plain hg fun K' hK' => ?_
  obtain ⟨w', hrun, h1, h2, h3⟩ := h.del ht hk o.type
  unfold Oper.wp
  simp [execOp, hop, resolve, invoke, builtin, hm, hx, hrun, Result.andThen]
  exact hK' _ _ (hK w' h1 h2 h3)
theorem wpList_clearZ (hg : o.guard = none) {m : Operand} {t e : TypeId} (hop : o.op = Op.call { callee := Callee.builtin Builtin.clear, args := #[m], argTypes := #[t] }) (ht : Try.prog.underlying t = some (.map 3 e))
    (hm : a.eval m = .map (some b)) (h : MapZ w b n f)
    (hK : ∀ w', MapZ w' b 0 (fun _ => none) → Fr [b] w w' → w'.heap.size = w.heap.size → wpList Try.prog ops Q rest (a.put o.dst (.tuple #[])) w') : wpList Try.prog ops Q (o :: rest) a w := by
  refine wpList_plain hg fun K' hK' => ?_
  obtain ⟨w', hrun, h1, h2, h3⟩ := h.clear ht o.type
  unfold Oper.wp
  simp [execOp, hop, resolve, invoke, builtin, hm, hrun, Result.andThen]
  exact hK' _ _ (hK w' h1 h2 h3)
theorem wpList_rangeZ (hg : o.guard = none) {m : Operand} {t e : TypeId} (hop : o.op = Op.range t m) (ht : Try.prog.underlying t = some (.map 3 e)) (hm : a.eval m = .map (some b)) (h : MapZ w b n f)
    (hK : ∀ w' cnt, RangeZ w' b w.heap.size n f (fun x => (f x).isSome) cnt → Fr [] w w' → w'.heap.size = w.heap.size + 1 → wpList Try.prog ops Q rest (a.put o.dst (.pointer (some ⟨w.heap.size, 0, none⟩))) w') : wpList Try.prog ops Q (o :: rest) a w := by
  obtain ⟨D, h, hf⟩ := h
  exact wpList_range_own w hg m t hop 3 e keyZ ht rawV b n D hm h fun w' h1 h2 h3 => hK w' _ ⟨D, _, h1, hf, fun x hx => (hf x hx).1⟩ (grown_frN h2) h3
theorem same_litZ (x y : Int) : (Lit.int .i64 y).sameKey (.int .i64 x) = (y == x) := by
  by_cases e : y = x
  · subst e
    rw [WideAt.sameKey_self (a := .int .i64 y) trivial]; simp
  · rw [sameKey_ne (lit_ne e)]
    simp [e]
theorem wpList_nextZ (hg : o.guard = none) {it : Operand} (hop : o.op = Op.next it false) {r : Nat} {left : Int → Bool} {cnt : Nat} (hit : a.eval it = .pointer (some ⟨r, 0, none⟩)) (h : RangeZ w b r n f left cnt)
    (hDone : (∀ x, wfZ x → left x = false) → wpList Try.prog ops Q rest (a.put o.dst (.tuple #[.bool false])) w)
    (hMore : ∀ (x : Int) (v : Value) (w' : World) (cnt' : Nat), wfZ x → left x = true → f x = some v → RangeZ w' b r n f (fun y => left y && !(y == x)) cnt' → cnt' < cnt → Fr [r] w w' → w'.heap.size = w.heap.size →
      (Instr.entry (.pointer (some ⟨r, 0, none⟩))).run Try.prog w' = .ok (.tuple #[.int .i64 x, v]) w' → wpList Try.prog ops Q rest (a.put o.dst (.tuple #[.bool true, .int .i64 x, v])) w') : wpList Try.prog ops Q (o :: rest) a w := by
  obtain ⟨D, lf, h, hf, hl⟩ := h
  refine wpList_next_ranges w hg it hop 3 keyZ rawV (Value.int .i64) (fun v : Value => v) (fun key kl hk => by obtain ⟨x, rfl, _⟩ := Maps.keyOf_int_inv Try.underlying3 hk; exact ⟨x, rfl⟩) (fun v y _ => ⟨v, rfl⟩) b r n D lf cnt hit h (fun _ hl0 => hDone fun x hx => by rw [← hl x hx]; exact hl0 _) ?_
  intro x c kl y w' cnt' hk hlk hv hat hrg hlt hgr hsz hen
  obtain ⟨x', ex, rfl, hwx⟩ := Maps.keyOf_int_inv Try.underlying3 hk
  cases ex
  have hvc : y.1 = .held c := by
    simp only [rawV, Option.some.injEq] at hv
    rw [← hv]
  have hfx : f x = some c := by
    have h1 := (hf x hwx).1
    have hh : Maps.has D (.int .i64 x) = true := has_true_of_atKey (y := .held c) fun z => by rw [hat, hvc]
    rw [hh] at h1
    cases hfx : f x with
    | none => rw [hfx] at h1; cases h1
    | some u =>
      have h2 := (hf x hwx).2 u hfx (.held c)
      rw [hat, hvc] at h2
      rw [DataW.held.inj h2]
  exact hMore x c w' cnt' hwx (by rw [← hl x hwx]; exact hlk) hfx ⟨D, _, hrg, hf, fun z hz => by rw [hl z hz, same_litZ]⟩ hlt (grown_frZ hgr) hsz hen
end
end Go.Proofs.Ytdhhnioklbnicaa
