/-
  Texts of this claim, one behind the other: Big, Reg, Mem3, Bld, HeadA, HeadB, HeadD, ShaB.
-/
import Derived.Test.YtlelgeigighecaaDoorM2
import Derived.Deep.MidRow
import Derived.Laws.StructEq
import Derived.Stop.BytesEq
import Derived.Great.FillDense
import Derived.WalkKit
import Derived.Deep.RegionHeld3
import Derived.Deep.DeepCutAuto
import Derived.Deep.CutBlock
import Derived.Test.YtlelgeigighecaaDoorProg
import Derived.Laws.Bits64b
/-
  Structs and arrays of many cells, by value: load, store, alloc, box, build, equality; none is opened cell by cell. No program of the seat is named here.
-/
set_option linter.unusedSimpArgs false
set_option linter.unusedVariables false
set_option linter.unnecessarySimpa false
namespace Go.Proofs.YtlelgeigighecaaDoor
open Go.RowKit

/-- Facts on a type of many cells: its size, its zero. -/
structure StT (P : Program) (t : TypeId) (n : Nat) (z : List Value) : Prop where
  und : ∃ d, P.underlying t = some d ∧ d.isRow = true
  size : (P.info? t).map (fun i => (i.zero, i.size)) = some (some (.agg z.toArray), n)
  zlen : z.length = n
  eq : P.eqGuardType P.depth t = false
  ones : ∀ u ∈ z, u.oneCell' = true

section
variable {P : Program} {ops : Array Oper} {rest : List Oper} {o : Oper} {a : Act} {w : World} {K : Act → World → Prop} {Q : Exit → Act → World → Prop} {t : TypeId} {n : Nat} {z : List Value}

theorem StT.sz (hT : StT P t n z) : (P.info? t).map (·.size) = some n := by
  obtain ⟨i, hi, h⟩ := Option.map_eq_some_iff.1 hT.size
  simp only [Prod.mk.injEq] at h
  rw [hi, Option.map_some, h.2]
theorem StT.zv (hT : StT P t n z) (w : World) : (zeroValue t).run P w = .ok (.agg z.toArray) w := by
  obtain ⟨i, hi, h⟩ := Option.map_eq_some_iff.1 hT.size
  simp only [Prod.mk.injEq] at h
  simp [zeroValue, typeInfo, hi, h.1]

theorem wpList_want (hw : Region.wanted o (yielded ops a.tmps) = true) (h : ∀ K : Act → World → Prop, (∀ a w, wpList P ops Q rest a w → K a w) → o.wp P a w K Q) : wpList P ops Q (o :: rest) a w :=
  wpList_step fun K hK => by rw [if_pos hw]; exact h K hK

theorem wp_val (v : Value) (w' : World) (hy : (execOp a.eval o).run P w = .ok (.value v) w') (h : K (a.put o.dst v) w') : o.wp P a w K Q := by
  unfold Oper.wp
  simp only [hy, Result.andThen_ok]
  exact h

theorem wp_ldS {x : Operand} (hT : StT P t n z) (ho : o.op = .load t x) (g off : Nat) (hx : a.eval x = .pointer (some ⟨g, off, none⟩)) (cs : List Value) (hn : cs.length = n) (hc : w.rangeAt g off cs)
    (h : K (a.put o.dst (.agg cs.toArray)) w) : o.wp P a w K Q := by
  obtain ⟨d, hu, hd⟩ := hT.und
  exact wp_load_mid t x ho g off hx cs d hc hu hd (by rw [hT.sz, hn]) h
theorem wpList_ldS {x : Operand} (hT : StT P t n z) (hw : Region.wanted o (yielded ops a.tmps) = true) (ho : o.op = .load t x) (g off : Nat) (hx : a.eval x = .pointer (some ⟨g, off, none⟩)) (cs : List Value) (hn : cs.length = n) (hc : w.rangeAt g off cs)
    (h : wpList P ops Q rest (a.put o.dst (.agg cs.toArray)) w) : wpList P ops Q (o :: rest) a w :=
  wpList_want hw fun _ hK => wp_ldS hT ho g off hx cs hn hc (hK _ _ h)

/-- Of a block that is known whole. -/
theorem Blk.range {g : Nat} {tt : TypeId} {cs : Array Value} (hb : Blk w g tt cs) (off : Nat) (l : List Value) (hl : ∀ j u, l[j]? = some u → cs[off + j]? = some u) : w.rangeAt g off l := fun j v hv => by
  rw [hb.cell]; exact hl j v hv
theorem Blk.range0 {g : Nat} {tt : TypeId} {cs : List Value} (hb : Blk w g tt cs.toArray) : w.rangeAt g 0 cs := hb.range 0 cs (fun j u h => by rw [Nat.zero_add]; simpa using h)

theorem run_stS (hT : StT P t n z) (g off : Nat) (new : List Value) (hn : new.length = n) (h1 : ∀ u ∈ new, u.oneCell' = true) (cur : Array Value) (tt : TypeId) (fz : Nat × Nat) (hg : w.heap[g]? = some (.cells cur tt fz)) (hf : Free cur.size fz) (hfit : off + n ≤ cur.size) :
    (Instr.storeAt t (.pointer (some ⟨g, off, none⟩)) (.agg new.toArray)).run P w = .ok () (w.setRow g (cur.toList.take off ++ new ++ cur.toList.drop (off + new.length)).toArray) := by
  obtain ⟨i, hi, hs⟩ := Option.map_eq_some_iff.1 hT.sz
  have := run_storeCells_free (P := P) g off tt fz new 0 cur w hg hf (by omega) h1
  simp only [Nat.add_zero] at this
  simp only [Instr.storeAt, Instr.sureAddr, Sem.run_bind, Sem.run_pure, Result.andThen_ok]
  simp [storeVar, sizeOf, typeInfo, hi, hs, Value.cells, hn, this]

theorem wp_stS {x y : Operand} (hT : StT P t n z) (ho : o.op = .store t x y) (g off : Nat) (hx : a.eval x = .pointer (some ⟨g, off, none⟩)) (new : List Value) (hy : a.eval y = .agg new.toArray) (hn : new.length = n) (h1 : ∀ u ∈ new, u.oneCell' = true) (cur : Array Value) (tt : TypeId) (fz : Nat × Nat) (hg : w.heap[g]? = some (.cells cur tt fz)) (hf : Free cur.size fz) (hfit : off + n ≤ cur.size)
    (h : ∀ w', w'.heap[g]? = some (.cells (cur.toList.take off ++ new ++ cur.toList.drop (off + new.length)).toArray tt fz) → Fr [g] w w' → w'.heap.size = w.heap.size → K (a.put o.dst undef) w') : o.wp P a w K Q := by
  unfold Oper.wp execOp
  simp only [ho, hx, hy, Sem.run_bind, Sem.run_pure, Result.andThen_ok, run_stS hT g off new hn h1 cur tt fz hg hf hfit]
  exact h _ (setRow_heap w g cur _ tt fz hg) ((Fr.refl _ _).setRow (.inl (by simp)) _) (by unfold World.setRow; simp)

/-- A whole block is stored. -/
theorem wpList_stB {x y : Operand} (hT : StT P t n z) (hw : Region.wanted o (yielded ops a.tmps) = true) (ho : o.op = .store t x y) (g : Nat) (hx : a.eval x = .pointer (some ⟨g, 0, none⟩)) (new : List Value) (hy : a.eval y = .agg new.toArray) (hn : new.length = n) (h1 : ∀ u ∈ new, u.oneCell' = true) (cur : List Value) (hc : cur.length = n) (hb : Blk w g t cur.toArray)
    (h : ∀ w', Blk w' g t new.toArray → Fr [g] w w' → w'.heap.size = w.heap.size → wpList P ops Q rest (a.put o.dst undef) w') : wpList P ops Q (o :: rest) a w :=
  wpList_want hw fun _ hK => wp_stS hT ho g 0 hx new hy hn h1 cur.toArray t (0, 0) hb (free_zero _) (by simp; omega) fun w' h1 h2 h3 => hK _ _ (h w' (by
    have e : (cur.toArray.toList.take 0 ++ new ++ cur.toArray.toList.drop (0 + new.length)).toArray = new.toArray := by
      rw [List.take_zero, List.nil_append, Nat.zero_add, List.drop_of_length_le (by rw [hn, ← hc]; exact Nat.le_refl _), List.append_nil]
    rw [e] at h1
    exact h1) h2 h3)

theorem wpList_alS (hT : StT P t n z) (hw : Region.wanted o (yielded ops a.tmps) = true) (ho : o.op = .alloc t)
    (h : ∀ w', Blk w' w.heap.size t z.toArray → Fr [] w w' → w'.heap.size = w.heap.size + 1 → wpList P ops Q rest (a.put o.dst (.pointer (some ⟨w.heap.size, 0, none⟩))) w') : wpList P ops Q (o :: rest) a w :=
  wpList_want hw fun _ hK => by
    refine wp_val (.pointer (some ⟨w.heap.size, 0, none⟩)) (w.alloc (.cells z.toArray t)) ?_ (hK _ _ (h _ (Blk.new _ _ _) ((Fr.refl _ _).alloc _) (by simp)))
    unfold execOp
    simp [ho, Instr.alloc, hT.zv, newVar, newRow, Value.cells]

theorem wpList_boxS {x : Operand} (hw : Region.wanted o (yielded ops a.tmps) = true) (ho : o.op = .box t x) (cs : List Value) (hx : a.eval x = .agg cs.toArray)
    (h : ∀ w', Blk w' w.heap.size t cs.toArray → Fr [] w w' → w'.heap.size = w.heap.size + 1 → wpList P ops Q rest (a.put o.dst (.pointer (some ⟨w.heap.size, 0, none⟩))) w') : wpList P ops Q (o :: rest) a w :=
  wpList_want hw fun _ hK => by
    refine wp_val (.pointer (some ⟨w.heap.size, 0, none⟩)) (w.alloc (.cells cs.toArray t)) ?_ (hK _ _ (h _ (Blk.new _ _ _) ((Fr.refl _ _).alloc _) (by simp)))
    unfold execOp
    simp [ho, hx, Instr.box, newVar, newRow, Value.cells]

/-- What a build yields, told ahead. -/
theorem wpList_bld {ps : Array (Nat × Operand)} (hw : Region.wanted o (yielded ops a.tmps) = true) (ho : o.op = .build t ps) (v : Value) (hv : (Instr.build t (ps.map fun (i, x) => (i, a.eval x))).run P w = .ok v w)
    (h : wpList P ops Q rest (a.put o.dst v) w) : wpList P ops Q (o :: rest) a w :=
  wpList_want hw fun _ hK => by
    refine wp_val v w ?_ (hK _ _ h)
    unfold execOp
    simp only [ho, Sem.run_bind, Sem.run_pure, Result.andThen_ok, hv]

theorem run_eqS {op : BinOp} {x y : Operand} {xs ys : Array Value} (hT : StT P t n z) (ho : op = .eql ∨ op = .neq) (b : Bool) (he : (Op.equalIn 10000 t (.agg xs) (.agg ys)).run P w = .ok b w) :
    (do eqGuard op t x y (.agg xs) (.agg ys); binOp op t (.agg xs) (.agg ys) : Sem Value).run P w = .ok (.bool (if op = .eql then b else !b)) w := by
  rw [Sem.run_bind, run_eqGuard_agg w op t x y xs ys hT.eq, Result.andThen_ok]
  rcases ho with rfl | rfl
  · rw [run_eql_struct, he]; rfl
  · rw [run_neq_struct, he]; rfl

theorem wpList_eqS {op : BinOp} {x y : Operand} {ty : TypeId} {xs ys : Array Value} (hT : StT P t n z) (hw : Region.wanted o (yielded ops a.tmps) = true) (ho : o.op = .binOp op t x y ty) (hop : op = .eql ∨ op = .neq) (hx : a.eval x = .agg xs) (hy : a.eval y = .agg ys) (b : Bool) (he : (Op.equalIn 10000 t (.agg xs) (.agg ys)).run P w = .ok b w)
    (h : wpList P ops Q rest (a.put o.dst (.bool (if op = .eql then b else !b))) w) : wpList P ops Q (o :: rest) a w :=
  wpList_want hw fun _ hK => by
    refine wp_val _ w ?_ (hK _ _ h)
    have := run_eqS (x := x) (y := y) hT hop b he
    rw [Sem.run_bind] at this
    unfold execOp
    simp only [ho, hx, hy, Sem.run_bind, Sem.run_pure, this, Result.andThen_ok]

/-- A field of bytes out of a struct's cells. -/
theorem part_bytes {e : TypeId} (hu : P.underlying t = some (.array n e)) (hs : (P.info? t).map (·.size) = some n) (xs : Array Value) (off : Nat) (l : List UInt8) (hl : l.length = n) (hx : (xs.toList.drop off).take n = bvs l) :
    (part t xs off).run P w = .ok (.agg (bvs l).toArray) w := by
  obtain ⟨i, hi, hsz⟩ := Option.map_eq_some_iff.1 hs
  have : xs.extract off (off + n) = (bvs l).toArray := by
    apply Array.ext'
    rw [Array.toList_extract, List.extract_eq_take_drop, Nat.add_sub_cancel_left, hx]
  simp [part, isAgg, run_underlying hu, sizeOf, typeInfo, hi, hsz, this]
theorem part_one {d : TypeDesc} (hu : P.underlying t = some d) (hd : d.isRow = false) (xs : Array Value) (off : Nat) (v : Value) (hx : xs[off]? = some v) :
    (part t xs off).run P w = .ok v w := by
  cases d <;> simp_all [part, isAgg, run_underlying hu]
theorem eq_bytes {e : TypeId} (d : Nat) (hu : P.underlying t = some (.array n e)) (he : P.underlying e = some (.int .u8)) (hs : (P.info? e).map (·.size) = some 1) (a b : List UInt8) (ha : a.length = n) (hb : b.length = n) :
    (Op.equalIn (d + 2) t (.agg (bvs a).toArray) (.agg (bvs b).toArray)).run P w = .ok (a == b) w :=
  run_equalIn_bytes w d t e n hu he (fun w => by
    obtain ⟨i, hi, hsz⟩ := Option.map_eq_some_iff.1 hs
    simp [sizeOf, typeInfo, hi, hsz]) a b ha hb
/-- A field of an equality of structs. -/
theorem eqF_step (d : Nat) (xs ys : Array Value) (f : Field) (fs : List Field) (hn : f.name ≠ "_") (x y : Value) (hx : (part f.type xs f.offset).run P w = .ok x w) (hy : (part f.type ys f.offset).run P w = .ok y w) (b c : Bool) (he : (Op.equalIn d f.type x y).run P w = .ok b w) (hr : (Op.eqFields d xs ys fs).run P w = .ok c w) :
    (Op.eqFields d xs ys (f :: fs)).run P w = .ok (b && c) w := by
  simp only [Op.eqFields, hn, ne_eq, not_false_eq_true, if_true, Sem.run_bind, hx, hy, he, Result.andThen_ok]
  cases b
  · simp
  · simpa using hr

theorem run_loadB (hT : StT P t n z) {g : Nat} {cs : List Value} (hn : cs.length = n) (hb : Blk w g t cs.toArray) : (loadVar t ⟨g, 0, none⟩).run P w = .ok (.agg cs.toArray) w := by
  obtain ⟨d, hu, hd⟩ := hT.und
  exact run_loadVar_mid w g 0 t cs d hb.range0 hu hd (by rw [hT.sz, hn])
/-- Results that lie in a cell of their own. -/
theorem results_cell (hT : StT P t n z) {fn : Func} {p : Tmp} (hr : fn.results = #[.cell p t]) {tmps : Array Value} {g : Nat} {cs : List Value} (hv : tmps.getD p undef = .pointer (some ⟨g, 0, none⟩)) (hn : cs.length = n) (hb : Blk w g t cs.toArray) :
    (results fn tmps).run P w = .ok (.agg cs.toArray) w := by
  have hl := run_loadB hT hn hb
  have ha : (asAddr (.pointer (some ⟨g, 0, none⟩))).run P w = .ok ⟨g, 0, none⟩ w := rfl
  have hv' : tmps[p]?.getD undef = .pointer (some ⟨g, 0, none⟩) := by simpa using hv
  simp [results, hr, hv', ha, hl]
theorem results_cell2 (hT : StT P t n z) {fn : Func} {p q : Tmp} (hr : fn.results = #[.cell p t, .tmp q]) {tmps : Array Value} {g : Nat} {cs : List Value} (hv : tmps.getD p undef = .pointer (some ⟨g, 0, none⟩)) (hn : cs.length = n) (hb : Blk w g t cs.toArray) :
    (results fn tmps).run P w = .ok (.tuple #[.agg cs.toArray, tmps.getD q undef]) w := by
  have hl := run_loadB hT hn hb
  have ha : (asAddr (.pointer (some ⟨g, 0, none⟩))).run P w = .ok ⟨g, 0, none⟩ w := rfl
  have hv' : tmps[p]?.getD undef = .pointer (some ⟨g, 0, none⟩) := by simpa using hv
  simp [results, hr, hv', ha, hl]

/-- A slice's literal of structs. -/
theorem run_bs {ts : TypeId} (hT : StT P t n z) (ht : P.underlying ts = some (.slice t)) (hpos : 0 < n) (vs : List Value) (hv : ∀ v ∈ vs, v.cells.size = n) (hne : 0 < vs.length) (hsm : vs.length * n ≤ 2 ^ 24) :
    (Instr.buildSlice ts vs.length ((vs.zipIdx 0).map fun x => (x.2, x.1)).toArray).run P w = .ok (.slice (some ⟨w.heap.size, 0, none⟩) vs.length vs.length) (w.alloc (.cells (vs.flatMap fun v => v.cells.toList).toArray t)) := by
  obtain ⟨i, hi, hs⟩ := Option.map_eq_some_iff.1 hT.sz
  have h0 : ¬ (vs.length * n = 0) := by
    intro h
    rcases Nat.mul_eq_zero.1 h with h | h <;> omega
  have hbig : ¬ (2 ^ 24 < vs.length * n) := by omega
  have hf := Great.fill_whole hpos vs ((Array.range (vs.length * n)).map ((Value.agg z.toArray).cells[· % (Value.agg z.toArray).cells.size]!)) hv (by simp)
  unfold Instr.buildSlice
  simp only [Sem.run_bind, run_underlying ht, Result.andThen_ok, sizeOf, typeInfo, run_program, hi, Sem.run_pure, hs, gt_iff_lt, hbig, if_false, h0, hT.zv, hf, newRow, newObj]
  rfl

theorem wpList_bs1 {ts : TypeId} {x : Operand} (hT : StT P t n z) (ht : P.underlying ts = some (.slice t)) (hpos : 0 < n) (hsm : n ≤ 2 ^ 24) (hw : Region.wanted o (yielded ops a.tmps) = true) (ho : o.op = .buildSlice ts 1 #[(0, x)]) (cs : List Value) (hx : a.eval x = .agg cs.toArray) (hn : cs.length = n)
    (h : ∀ w', Blk w' w.heap.size t cs.toArray → Fr [] w w' → w'.heap.size = w.heap.size + 1 → wpList P ops Q rest (a.put o.dst (.slice (some ⟨w.heap.size, 0, none⟩) 1 1)) w') : wpList P ops Q (o :: rest) a w :=
  wpList_want hw fun _ hK => by
    refine wp_val (.slice (some ⟨w.heap.size, 0, none⟩) 1 1) (w.alloc (.cells cs.toArray t)) ?_ (hK _ _ (h _ (Blk.new _ _ _) ((Fr.refl _ _).alloc _) (by simp)))
    have hr := run_bs (w := w) hT ht hpos [.agg cs.toArray] (by intro v hv; rw [List.mem_singleton.1 hv]; simpa [Value.cells] using hn) (by simp) (by simpa using hsm)
    have e1 : ([Value.agg cs.toArray].flatMap fun v => v.cells.toList).toArray = cs.toArray := by simp [Value.cells]
    rw [e1] at hr
    unfold execOp
    simp only [ho, Sem.run_bind, Sem.run_pure, Result.andThen_ok]
    have e2 : (#[((0 : Nat), x)].map fun (i, x) => (i, a.eval x)) = (([Value.agg cs.toArray].zipIdx 0).map fun x => (x.2, x.1)).toArray := by simp [hx]
    rw [e2]
    show ((Instr.buildSlice ts [Value.agg cs.toArray].length _).run P w).andThen _ = _
    rw [hr]
    rfl
end
end Go.Proofs.YtlelgeigighecaaDoor
/-
  Regions that draw their order, taken operation by operation: those that are not wanted (a guard is false) are taken first too. No program of the seat is named here.
-/
set_option linter.unusedSimpArgs false
set_option linter.unusedVariables false
set_option linter.unnecessarySimpa false
namespace Go.Proofs.YtlelgeigighecaaDoor
section
variable {P : Program} {ops : Array Oper} {Q : Exit → Act → World → Prop} {S : World → Prop}

/-- An operation that yields. -/
theorem take_w {md : Region.Mode} (i : Nat) (d : Option Tmp) {oi : Oper} {v : Value} {fuel : Nat} {listed : Array Bool} {tm : Array Value} {df : List _} {w : World} (hi : ops[i]? = some oi) (hd : oi.dst = d)
    (hs : Region.noSelect ops = true) (hf : Region.free md ops listed i = true) (hr : (Region.ready md ops listed).contains i = true)
    (hQ : ∀ c a w, Q (.panic c) (a.put oi.dst v) w → Q (.panic c) a w) (hw : Region.wanted oi (yielded ops tm) = true)
    (hy : ∀ w, S w → (execOp (Act.eval ⟨tm, df⟩) oi).run P w = .ok (.value v) w) (hS : S w)
    (h : wpAnyH P md ops Q S fuel (listed.setIfInBounds i true) ((⟨tm, df⟩ : Act).put d v) w) : wpAnyH P md ops Q S (fuel + 1) listed ⟨tm, df⟩ w := by
  subst hd
  exact wpAnyH_take hi hs hf hr hQ (.inl ⟨hw, hy⟩) hS h

/-- An operation whose guard is false. -/
theorem take_u {md : Region.Mode} (i : Nat) (d : Option Tmp) {oi : Oper} {fuel : Nat} {listed : Array Bool} {tm : Array Value} {df : List _} {w : World} (hi : ops[i]? = some oi) (hd : oi.dst = d)
    (hs : Region.noSelect ops = true) (hf : Region.free md ops listed i = true) (hr : (Region.ready md ops listed).contains i = true)
    (hQ : ∀ c a w, Q (.panic c) (a.put oi.dst undef) w → Q (.panic c) a w) (hw : Region.wanted oi (yielded ops tm) = false) (hS : S w)
    (h : wpAnyH P md ops Q S fuel (listed.setIfInBounds i true) ((⟨tm, df⟩ : Act).put d undef) w) : wpAnyH P md ops Q S (fuel + 1) listed ⟨tm, df⟩ w := by
  subst hd
  exact wpAnyH_take hi hs hf hr hQ (.inr ⟨hw, rfl⟩) hS h

/-- One operation alone may come up: it is stepped over, and S shown anew. -/
theorem take_c {md : Region.Mode} (i : Nat) {oi : Oper} {fuel : Nat} {listed : Array Bool} {a : Act} {w : World} (hi : ops[i]? = some oi) (hr : Region.ready md ops listed = [i])
    (hw : Region.wanted oi (yielded ops a.tmps) = true)
    (h : ∀ K' : Act → World → Prop, Shut (∀ a w, S w → (S w → wpAnyH P md ops Q S fuel (listed.setIfInBounds i true) a w) → K' a w) → Oper.wp P oi a w K' Q) : wpAnyH P md ops Q S (fuel + 1) listed a w :=
  wpAnyH_ready hr (by simp) (AllReadyH.cons hi (fun K' hK => by rw [if_pos hw]; exact h K' hK) AllReadyH.nil)

/-- As 'take_c', the slot told: for a builtin by its law. -/
theorem take_cd {md : Region.Mode} (i : Nat) (d : Option Tmp) {oi : Oper} {fuel : Nat} {listed : Array Bool} {tm : Array Value} {df : List _} {w : World} (hi : ops[i]? = some oi) (hd : oi.dst = d) (hr : Region.ready md ops listed = [i])
    (hw : Region.wanted oi (yielded ops tm) = true)
    (h : ∀ K' : Act → World → Prop, (∀ v w', S w' → (S w' → wpAnyH P md ops Q S fuel (listed.setIfInBounds i true) ((⟨tm, df⟩ : Act).put d v) w') → K' ((⟨tm, df⟩ : Act).put oi.dst v) w') → Oper.wp P oi ⟨tm, df⟩ w K' Q) : wpAnyH P md ops Q S (fuel + 1) listed ⟨tm, df⟩ w :=
  take_c i hi hr hw fun K' hK => h K' fun v w' hS hW => hK.out _ _ hS (by rw [hd]; exact hW)
end
end Go.Proofs.YtlelgeigighecaaDoor
/-
  Memory words, the third text: structs in regions that draw their order; one of two operations; blocks and ranges that stay. No program of the seat is named here.
-/
set_option linter.unusedSimpArgs false
set_option linter.unusedVariables false
set_option linter.unnecessarySimpa false
namespace Go.Proofs.YtlelgeigighecaaDoor
open Go.RowKit

theorem Blk.keep_nil {w w' : World} {g : Nat} {t : TypeId} {cs : Array Value} (h : Blk w g t cs) (hf : Fr [] w w') : Blk w' g t cs := h.keep hf (by simp)
theorem rangeAt_keep {w w' : World} {g o : Nat} {cs : List Value} (h : w.rangeAt g o cs) {F : List Nat} (hf : Fr F w w') (hn : g ∉ F) : w'.rangeAt g o cs := fun j u hu => hf.cell (p := ⟨g, o + j, none⟩) hn (h j u hu)
/-- The const bytes '[]byte("..")'. -/
theorem Rd.mark (w : World) (xs : List UInt8) (t : TypeId) (fz : Nat × Nat) : Rd (w.alloc (.cells (bvs xs).toArray t fz)) (some ⟨w.heap.size, 0, none⟩) (bvs xs) := fun _ =>
  ⟨w.heap.size, 0, rfl, fun j u hu => by rw [cell_of_row _ _ _ _ _ _ (heap_alloc_new w _), Nat.zero_add]; simpa using hu⟩

section
variable {P : Program} {o : Oper} {a : Act} {w : World} {t : TypeId} {n : Nat} {z : List Value}
theorem hy_ld {x : Operand} (hT : StT P t n z) (ho : o.op = .load t x) (g off : Nat) (hx : a.eval x = .pointer (some ⟨g, off, none⟩)) (cs : List Value) (hn : cs.length = n) (hc : w.rangeAt g off cs) : (execOp a.eval o).run P w = .ok (.value (.agg cs.toArray)) w := by
  obtain ⟨d, hu, hd⟩ := hT.und
  unfold execOp
  simp only [ho, hx, Instr.loadAt, Instr.sureAddr, Sem.run_bind, Sem.run_pure, Result.andThen_ok, run_loadVar_mid w g off t cs d hc hu hd (by rw [hT.sz, hn])]
theorem hy_eq {op : BinOp} {x y : Operand} {ty : TypeId} {xs ys : Array Value} (hT : StT P t n z) (ho : o.op = .binOp op t x y ty) (hop : op = .eql ∨ op = .neq) (hx : a.eval x = .agg xs) (hy : a.eval y = .agg ys) (b : Bool) (he : (Op.equalIn 10000 t (.agg xs) (.agg ys)).run P w = .ok b w) : (execOp a.eval o).run P w = .ok (.value (.bool (if op = .eql then b else !b))) w := by
  have := run_eqS (x := x) (y := y) hT hop b he
  rw [Sem.run_bind] at this
  unfold execOp
  simp only [ho, hx, hy, Sem.run_bind, Sem.run_pure, this, Result.andThen_ok]
theorem hy_ne {x y : Operand} {ty : TypeId} {xs ys : Array Value} (hT : StT P t n z) (ho : o.op = .binOp .neq t x y ty) (hx : a.eval x = .agg xs) (hy : a.eval y = .agg ys) (he : (Op.equalIn 10000 t (.agg xs) (.agg ys)).run P w = .ok true w) : (execOp a.eval o).run P w = .ok (.value (.bool false)) w := hy_eq hT ho (.inr rfl) hx hy true he
end

section
theorem hy_bld {P : Program} {o : Oper} {a : Act} {w : World} {t : TypeId} {ps : Array (Nat × Operand)} {ps' : Array (Nat × Value)} (ho : o.op = .build t ps) (he : (ps.map fun (i, x) => (i, a.eval x)) = ps') (v : Value) (hv : (Instr.build t ps').run P w = .ok v w) : (execOp a.eval o).run P w = .ok (.value v) w := by
  unfold execOp
  simp only [ho, he, Sem.run_bind, Sem.run_pure, Result.andThen_ok, hv]
variable {P : Program} {o : Oper} {a : Act} {w : World} {K : Act → World → Prop} {Q : Exit → Act → World → Prop} {t : TypeId} {n : Nat} {z : List Value}
theorem wp_alS (hT : StT P t n z) (ho : o.op = .alloc t)
    (h : ∀ w', Blk w' w.heap.size t z.toArray → Fr [] w w' → w'.heap.size = w.heap.size + 1 → K (a.put o.dst (.pointer (some ⟨w.heap.size, 0, none⟩))) w') : o.wp P a w K Q := by
  refine wp_val (.pointer (some ⟨w.heap.size, 0, none⟩)) (w.alloc (.cells z.toArray t)) ?_ (h _ (Blk.new _ _ _) ((Fr.refl _ _).alloc _) (by simp))
  unfold execOp
  simp [ho, Instr.alloc, hT.zv, newVar, newRow, Value.cells]
theorem wp_stB {x y : Operand} (hT : StT P t n z) (ho : o.op = .store t x y) (g : Nat) (hx : a.eval x = .pointer (some ⟨g, 0, none⟩)) (new : List Value) (hy : a.eval y = .agg new.toArray) (hn : new.length = n) (h1 : ∀ u ∈ new, u.oneCell' = true) (cur : List Value) (hc : cur.length = n) (hb : Blk w g t cur.toArray)
    (h : ∀ w', Blk w' g t new.toArray → Fr [g] w w' → w'.heap.size = w.heap.size → K (a.put o.dst undef) w') : o.wp P a w K Q :=
  wp_stS hT ho g 0 hx new hy hn h1 cur.toArray t (0, 0) hb (free_zero _) (by simp; omega) fun w' h1 h2 h3 => h w' (by
    have e : (cur.toArray.toList.take 0 ++ new ++ cur.toArray.toList.drop (0 + new.length)).toArray = new.toArray := by
      rw [List.take_zero, List.nil_append, Nat.zero_add, List.drop_of_length_le (by rw [hn, ← hc]; exact Nat.le_refl _), List.append_nil]
    rw [e] at h1
    exact h1) h2 h3
end

section
variable {P : Program} {ops : Array Oper} {Q : Exit → Act → World → Prop} {S : World → Prop}
/-- One of two may come up. -/
theorem take_2 {md : Region.Mode} (i j : Nat) (di dj : Option Tmp) {oi oj : Oper} {fuel : Nat} {listed : Array Bool} {tm : Array Value} {df : List _} {w : World} (hi : ops[i]? = some oi) (hj : ops[j]? = some oj) (hdi : oi.dst = di) (hdj : oj.dst = dj) (hr : Region.ready md ops listed = [i, j])
    (hwi : Region.wanted oi (yielded ops tm) = true) (hwj : Region.wanted oj (yielded ops tm) = true)
    (h1 : ∀ K' : Act → World → Prop, (∀ v w', S w' → (S w' → wpAnyH P md ops Q S fuel (listed.setIfInBounds i true) ((⟨tm, df⟩ : Act).put di v) w') → K' ((⟨tm, df⟩ : Act).put oi.dst v) w') → Oper.wp P oi ⟨tm, df⟩ w K' Q)
    (h2 : ∀ K' : Act → World → Prop, (∀ v w', S w' → (S w' → wpAnyH P md ops Q S fuel (listed.setIfInBounds j true) ((⟨tm, df⟩ : Act).put dj v) w') → K' ((⟨tm, df⟩ : Act).put oj.dst v) w') → Oper.wp P oj ⟨tm, df⟩ w K' Q) : wpAnyH P md ops Q S (fuel + 1) listed ⟨tm, df⟩ w :=
  wpAnyH_ready hr (by simp) (AllReadyH.cons hi (fun K' hK => by rw [if_pos hwi]; exact h1 K' fun v w' hS hW => hK.out _ _ hS (by rw [hdi]; exact hW))
    (AllReadyH.cons hj (fun K' hK => by rw [if_pos hwj]; exact h2 K' fun v w' hS hW => hK.out _ _ hS (by rw [hdj]; exact hW)) AllReadyH.nil))
theorem wp_bs0 {o : Oper} {a : Act} {w : World} {K : Act → World → Prop} {t : TypeId} {n : Nat} {z : List Value} {ts : TypeId} (hT : StT P t n z) (ht : P.underlying ts = some (.slice t)) (ho : o.op = .buildSlice ts 0 #[])
    (h : K (a.put o.dst (.slice (some ⟨w.heap.size, 0, none⟩) 0 0)) (w.alloc (.cells #[] t))) : o.wp P a w K Q := by
  obtain ⟨i, hi, hs⟩ := Option.map_eq_some_iff.1 hT.sz
  refine wp_val (.slice (some ⟨w.heap.size, 0, none⟩) 0 0) (w.alloc (.cells #[] t)) ?_ h
  unfold execOp
  simp only [ho, Sem.run_bind, Sem.run_pure, Result.andThen_ok]
  simp [Instr.buildSlice, run_underlying ht, sizeOf, typeInfo, hi, hs, newRow, Instr.fill]
  have e : ∀ f : Nat → Value, Array.map f (Array.range 0) = #[] := fun f => by apply Array.eq_empty_of_size_eq_zero; simp
  rw [e]
end

/-- One cell is written. -/
theorem wp_st1 {P : Program} {o : Oper} {a : Act} {w : World} {K : Act → World → Prop} {Q : Exit → Act → World → Prop} {ty : TypeId} {x y : Operand} (ho : o.op = .store ty x y) (hsz : (P.info? ty).map (·.size) = some 1) (g i : Nat) (hx : a.eval x = .pointer (some ⟨g, i, none⟩)) (v : Value) (hy : a.eval y = v) (hv : v.cells = #[v]) (h1 : v.oneCell' = true)
    {old : Value} (hc : w.cell? ⟨g, i, none⟩ = some old) (hz : w.frozen? ⟨g, i, none⟩ = false) (h : K (a.put o.dst undef) (w.setCell ⟨g, i, none⟩ v)) : o.wp P a w K Q := by
  obtain ⟨j, hj, hs⟩ := Option.map_eq_some_iff.1 hsz
  have hst : (store ((⟨g, i, none⟩ : Addr).add 0) v).run P w = .ok () (w.setCell ⟨g, i, none⟩ v) := by
    rw [addr_add, run_store P w _ v _ h1, Nat.add_zero, hc]
    simp [hz]
  have hat : (Instr.storeAt ty (.pointer (some ⟨g, i, none⟩)) v).run P w = .ok () (w.setCell ⟨g, i, none⟩ v) := by
    simp only [Instr.storeAt, Instr.sureAddr, Sem.run_bind, Sem.run_pure, Result.andThen_ok]
    simp [storeVar, sizeOf, typeInfo, hj, hs, hv, storeCells, hst]
  unfold Oper.wp execOp
  simp only [ho, hx, hy, Sem.run_bind, Sem.run_pure, Result.andThen_ok, hat]
  exact h

/-- An element of an array by value. -/
theorem wpList_ix1 {P : Program} {ops : Array Oper} {rest : List Oper} {o : Oper} {a : Act} {w : World} {Q : Exit → Act → World → Prop} {t e : TypeId} {n : Nat} {d : TypeDesc} {x y : Operand} (hu : P.underlying t = some (.array n e)) (he : P.underlying e = some d) (hd : d.isRow = false) (hsz : (P.info? e).map (·.size) = some 1)
    (hw : Region.wanted o (yielded ops a.tmps) = true) (ho : o.op = .index t x y) (cs : Array Value) (hx : a.eval x = .agg cs) (k : IntKind) (i : Nat) (hy : a.eval y = .int k (i : Int)) (hi : i < n) (v : Value) (hv : cs[i]? = some v)
    (h : wpList P ops Q rest (a.put o.dst v) w) : wpList P ops Q (o :: rest) a w :=
  wpList_want hw fun _ hK => by
    refine wp_val v w ?_ (hK _ _ h)
    obtain ⟨j, hj, hs⟩ := Option.map_eq_some_iff.1 hsz
    have hp : (part e cs i).run P w = .ok v w := part_one he hd cs i v hv
    have h2 : (0 : Int) ≤ (i : Int) ∧ (i : Int) < (n : Int) := by omega
    unfold execOp
    simp only [ho, hx, hy, Sem.run_bind, Sem.run_pure, Result.andThen_ok]
    simp [Instr.index, asIntOf, run_underlying hu, h2, sizeOf, typeInfo, hj, hs, hp]
    intro hge
    omega

/-- What a build yields, its parts told. -/
theorem wpList_bldK {P : Program} {ops : Array Oper} {rest : List Oper} {o : Oper} {a : Act} {w : World} {Q : Exit → Act → World → Prop} {t : TypeId} {ps : Array (Nat × Operand)} (hw : Region.wanted o (yielded ops a.tmps) = true) (ho : o.op = .build t ps) (ps' : Array (Nat × Value)) (he : (ps.map fun (i, x) => (i, a.eval x)) = ps') (v : Value) (hv : (Instr.build t ps').run P w = .ok v w)
    (h : wpList P ops Q rest (a.put o.dst v) w) : wpList P ops Q (o :: rest) a w :=
  wpList_bld hw ho v (by rw [he]; exact hv) h

/-- One cell is read. -/
theorem wp_ld1 {P : Program} {o : Oper} {a : Act} {w : World} {K : Act → World → Prop} {Q : Exit → Act → World → Prop} {ty : TypeId} {d : TypeDesc} {x : Operand} (hu : P.underlying ty = some d) (hd : d.isRow = false) (ho : o.op = .load ty x) (g i : Nat) (hx : a.eval x = .pointer (some ⟨g, i, none⟩)) (v : Value) (hc : w.cell? ⟨g, i, none⟩ = some v)
    (h : K (a.put o.dst v) w) : o.wp P a w K Q := by
  have hl : (loadVar ty ⟨g, i, none⟩).run P w = .ok v w := by
    have ha : (isAgg ty).run P w = .ok false w := by cases d <;> simp_all [isAgg, run_underlying hu]
    simp [loadVar, ha, hc]
  refine wp_val v w ?_ h
  unfold execOp
  simp only [ho, hx, Instr.loadAt, Instr.sureAddr, Sem.run_bind, Sem.run_pure, Result.andThen_ok, hl]
end Go.Proofs.YtlelgeigighecaaDoor
/-
  A struct that is built out of parts of many cells. No program of the seat is named here.
-/
set_option linter.unusedSimpArgs false
set_option linter.unusedVariables false
set_option linter.unnecessarySimpa false
namespace Go.Proofs.YtlelgeigighecaaDoor
open Go.RowKit

theorem foldl_splice (off : Nat) (new : List Value) (cells : List Value) (hle : off + new.length ≤ cells.length) :
    (new.toArray.zipIdx.foldl (fun cs (x : Value × Nat) => cs.setIfInBounds (off + x.2) x.1) cells.toArray) = (cells.take off ++ new ++ cells.drop (off + new.length)).toArray := by
  obtain ⟨h1, h2⟩ := Great.foldl_set off new 0 cells.toArray
  rw [← Array.foldl_toList, Array.toList_zipIdx, List.toList_toArray]
  apply Array.ext_getElem?
  intro k
  rw [h2 k, List.getElem?_toArray, List.getElem?_toArray, List.size_toArray, Nat.add_zero]
  split
  · rename_i h
    rw [List.getElem?_append_left (by rw [List.length_append, List.length_take]; omega), List.getElem?_append_right (by rw [List.length_take]; omega), List.length_take, Nat.min_eq_left (by omega)]
  · rename_i h
    by_cases hk : k < off
    · rw [List.append_assoc, List.getElem?_append_left (by rw [List.length_take]; omega), List.getElem?_take, if_pos hk]
    · by_cases hk2 : off + new.length ≤ k
      · rw [List.getElem?_append_right (by rw [List.length_append, List.length_take]; omega), List.getElem?_drop, List.length_append, List.length_take]
        congr 1
        omega
      · have : cells.length ≤ k := by omega
        rw [List.getElem?_eq_none this, List.getElem?_eq_none (by simp only [List.length_append, List.length_take, List.length_drop]; omega)]

theorem fill_part {place : Nat → Option (Nat × Nat)} {i off : Nat} {v : Value} {new cells : List Value} {rest : List (Nat × Value)} {r : Array Value} (hp : place i = some (off, new.length)) (hv : v.cells = new.toArray) (hle : off + new.length ≤ cells.length)
    (h : Instr.fill place (cells.take off ++ new ++ cells.drop (off + new.length)).toArray rest = some r) : Instr.fill place cells.toArray ((i, v) :: rest) = some r := by
  unfold Instr.fill
  simp only [hp, hv]
  rw [if_neg (by simp; omega)]
  rw [← h]
  congr 1
  exact foldl_splice off new cells hle

section
variable {P : Program} {t : TypeId} {n : Nat} {z : List Value}
theorem build_fill (hT : StT P t n z) {fs : Array Field} (hu : P.underlying t = some (.struct fs)) {pl : Array (Nat × Nat)} (w : World) (hp : Sem.run P (fs.mapM fun f => do pure (f.offset, ← sizeOf f.type)) w = .ok pl w) (parts : Array (Nat × Value)) (cells : List Value) (hf : Instr.fill (pl[·]?) z.toArray parts.toList = some cells.toArray) :
    (Instr.build t parts).run P w = .ok (.agg cells.toArray) w := by
  unfold Instr.build
  simp only [Sem.run_bind, hT.zv, Result.andThen_ok, run_underlying hu, hp, Value.cells, hf, Sem.run_pure]
end
end Go.Proofs.YtlelgeigighecaaDoor
/-
  A header (layer 11) as a value: its cells, its equality, what may be, its bytes.
-/
set_option linter.unusedSimpArgs false
set_option linter.unusedVariables false
set_option linter.unnecessarySimpa false
namespace Go.Proofs.YtlelgeigighecaaDoor
open Go.RowKit

structure HeadM where
  gen : Nat
  sec : Int
  slo : Int
  jou : Int
  seg : Int
  tim : Int
  mem : Int
  lan : Int
  nam : List UInt8
  deriving DecidableEq
def HeadM.cells (h : HeadM) : List Value := .int .u64 (h.gen : Int) :: .int .i64 h.sec :: .int .i64 h.slo :: .int .i64 h.jou :: .int .i64 h.seg :: .int .i64 h.tim :: .int .i64 h.mem :: .int .i64 h.lan :: bvs h.nam
def in64 (z : Int) : Prop := -9223372036854775808 ≤ z ∧ z ≤ 9223372036854775807
structure HeadM.ok (h : HeadM) : Prop where
  gen : h.gen < 18446744073709551616
  sec : in64 h.sec
  slo : in64 h.slo
  jou : in64 h.jou
  seg : in64 h.seg
  tim : in64 h.tim
  mem : in64 h.mem
  lan : in64 h.lan
  nam : h.nam.length = 16
def zeroH : HeadM := ⟨0, 0, 0, 0, 0, 0, 0, 0, List.replicate 16 0⟩
theorem zeroH_ok : zeroH.ok := ⟨by decide, ⟨by decide, by decide⟩, ⟨by decide, by decide⟩, ⟨by decide, by decide⟩, ⟨by decide, by decide⟩, ⟨by decide, by decide⟩, ⟨by decide, by decide⟩, ⟨by decide, by decide⟩, rfl⟩
theorem HeadM.len {h : HeadM} (k : h.ok) : h.cells.length = 24 := by simp [HeadM.cells, bvs, k.nam]
theorem HeadM.ones (h : HeadM) : ∀ u ∈ h.cells, u.oneCell' = true := by
  intro u hu
  simp only [HeadM.cells, List.mem_cons] at hu
  rcases hu with rfl | rfl | rfl | rfl | rfl | rfl | rfl | rfl | hu
  all_goals first | rfl | exact bvs_one _ u hu

set_option maxRecDepth 100000 in
theorem stHead : StT Tryd.prog 27 24 zeroH.cells := ⟨⟨_, Tryd.underlying27, rfl⟩, by kernel_rfl, by decide, by kernel_rfl, zeroH.ones⟩
set_option maxRecDepth 100000 in
theorem headZero (w : World) : (Instr.build 27 #[]).run Tryd.prog w = .ok (.agg zeroH.cells.toArray) w := by kernel_rfl

def HeadM.eqB (a b : HeadM) : Bool := ((a.gen : Int) == (b.gen : Int)) && (a.sec == b.sec && (a.slo == b.slo && (a.jou == b.jou && (a.seg == b.seg && ((a.tim == b.tim && (a.mem == b.mem && (a.lan == b.lan && true))) && (a.nam == b.nam && true))))))
theorem HeadM.eqB_iff (a b : HeadM) : a.eqB b = true ↔ a = b := by
  obtain ⟨a1, a2, a3, a4, a5, a6, a7, a8, a9⟩ := a
  obtain ⟨b1, b2, b3, b4, b5, b6, b7, b8, b9⟩ := b
  simp [HeadM.eqB, and_assoc]
  intros; omega
theorem part_row {P : Program} {w : World} {t : TypeId} {n : Nat} {d : TypeDesc} (hu : P.underlying t = some d) (hd : d.isRow = true) (hs : (P.info? t).map (·.size) = some n) (xs : Array Value) (off : Nat) (l : List Value) (hx : (xs.toList.drop off).take n = l) :
    (part t xs off).run P w = .ok (.agg l.toArray) w := by
  obtain ⟨i, hi, hsz⟩ := Option.map_eq_some_iff.1 hs
  have : xs.extract off (off + n) = l.toArray := by
    apply Array.ext'
    rw [Array.toList_extract, List.extract_eq_take_drop, Nat.add_sub_cancel_left, hx]
  cases d <;> simp_all [part, isAgg, run_underlying hu, sizeOf, typeInfo, TypeDesc.isRow]

set_option maxRecDepth 100000 in
theorem head_eq {a b : HeadM} (ha : a.ok) (hb : b.ok) (w : World) : (Op.equalIn 10000 27 (.agg a.cells.toArray) (.agg b.cells.toArray)).run Tryd.prog w = .ok (a.eqB b) w := by
  rw [run_equalIn_struct w 9999 27 _ _ (by kernel_rfl) (by kernel_rfl)]
  simp only [Program.fieldsOf, Tryd.underlying27]
  have h16 : (Tryd.prog.info? 25).map (·.size) = some 16 := by kernel_rfl
  have h3 : (Tryd.prog.info? 24).map (·.size) = some 3 := by kernel_rfl
  have h8 : (Tryd.prog.info? 5).map (·.size) = some 1 := by kernel_rfl
  have p1 : ∀ {s : HeadM}, s.ok → (s.cells.toArray.toList.drop 8).take 16 = bvs s.nam := fun {s} h => by
    show (bvs s.nam).take 16 = _
    rw [List.take_of_length_le (by rw [bvs_length, h.nam]; exact Nat.le_refl _)]
  have pp : ∀ s : HeadM, (s.cells.toArray.toList.drop 5).take 3 = [.int .i64 s.tim, .int .i64 s.mem, .int .i64 s.lan] := fun s => rfl
  have U : ∀ d x y, (Op.equalIn (d + 1) 3 (.int .i64 x) (.int .i64 y)).run Tryd.prog w = .ok (x == y) w := fun d x y => run_equalIn_int w _ _ _ _ _ _ Tryd.underlying3
  have step : ∀ (d : Nat) (xs ys : Array Value) (f : Field) (fs : List Field) (x y : Int) (c : Bool), f.name ≠ "_" → f.type = 3 → xs[f.offset]? = some (.int .i64 x) → ys[f.offset]? = some (.int .i64 y) → (Op.eqFields (d + 1) xs ys fs).run Tryd.prog w = .ok c w → (Op.eqFields (d + 1) xs ys (f :: fs)).run Tryd.prog w = .ok ((x == y) && c) w := by
    intro d xs ys f fs x y c h1 h2 h3 h4 h5
    refine eqF_step _ _ _ _ _ h1 (.int .i64 x) (.int .i64 y) ?_ ?_ _ _ ?_ h5
    · rw [h2]; exact part_one Tryd.underlying3 rfl _ _ _ h3
    · rw [h2]; exact part_one Tryd.underlying3 rfl _ _ _ h4
    · rw [h2]; exact U _ _ _
  refine eqF_step _ _ _ _ _ (of_decide_eq_true (by kernel_rfl)) (.int .u64 (a.gen : Int)) (.int .u64 (b.gen : Int)) (part_one Tryd.underlying22 rfl _ _ _ rfl) (part_one Tryd.underlying22 rfl _ _ _ rfl) _ _ (run_equalIn_int w _ _ _ _ _ _ Tryd.underlying22) ?_
  refine step _ _ _ _ _ a.sec b.sec _ (of_decide_eq_true (by kernel_rfl)) rfl rfl rfl ?_
  refine step _ _ _ _ _ a.slo b.slo _ (of_decide_eq_true (by kernel_rfl)) rfl rfl rfl ?_
  refine step _ _ _ _ _ a.jou b.jou _ (of_decide_eq_true (by kernel_rfl)) rfl rfl rfl ?_
  refine step _ _ _ _ _ a.seg b.seg _ (of_decide_eq_true (by kernel_rfl)) rfl rfl rfl ?_
  refine eqF_step _ _ _ _ _ (of_decide_eq_true (by kernel_rfl)) (.agg #[.int .i64 a.tim, .int .i64 a.mem, .int .i64 a.lan]) (.agg #[.int .i64 b.tim, .int .i64 b.mem, .int .i64 b.lan]) (part_row Tryd.underlying24 rfl h3 _ _ _ (pp a)) (part_row Tryd.underlying24 rfl h3 _ _ _ (pp b)) _ _ ?_ ?_
  · refine (run_equalIn_struct w _ 24 _ _ (by kernel_rfl) (by kernel_rfl)).trans ?_
    simp only [Program.fieldsOf, Tryd.underlying24]
    refine step _ _ _ _ _ a.tim b.tim _ (of_decide_eq_true (by kernel_rfl)) rfl rfl rfl ?_
    refine step _ _ _ _ _ a.mem b.mem _ (of_decide_eq_true (by kernel_rfl)) rfl rfl rfl ?_
    refine step _ _ _ _ _ a.lan b.lan _ (of_decide_eq_true (by kernel_rfl)) rfl rfl rfl ?_
    rfl
  · refine eqF_step _ _ _ _ _ (of_decide_eq_true (by kernel_rfl)) (.agg (bvs a.nam).toArray) (.agg (bvs b.nam).toArray) (part_bytes Tryd.underlying25 h16 _ _ _ ha.nam (p1 ha)) (part_bytes Tryd.underlying25 h16 _ _ _ hb.nam (p1 hb)) _ _ (eq_bytes 9997 Tryd.underlying25 Tryd.underlying5 h8 _ _ ha.nam hb.nam) rfl

/-- Does n lie between a and b? -/
def wth (n a b : Int) : Bool := decide (a ≤ n ∧ n ≤ b)
theorem wth_yes {n a b : Int} (h : wth n a b = true) : a ≤ n ∧ n ≤ b := of_decide_eq_true h
theorem wth_no {n a b : Int} (h : wth n a b = false) : n < a ∨ b < n := by have := of_decide_eq_false h; omega
/-- May it be? -/
def parG (t m l : Int) : Bool := wth t 1 8 && (wth l 1 4 && wth m (8 * l) 256)
def HeadM.good (h : HeadM) : Bool := !((h.gen : Int) == 0) && (wth h.sec 1 1024 && (wth h.slo 1 8 && (wth h.jou 16 256 && (wth h.seg 1 16 && (!(decide (h.jou < h.seg + 10)) && parG h.tim h.mem h.lan)))))
structure HeadM.In (h : HeadM) : Prop where
  gen : 1 ≤ h.gen
  sec : 1 ≤ h.sec ∧ h.sec ≤ 1024
  slo : 1 ≤ h.slo ∧ h.slo ≤ 8
  jou : 16 ≤ h.jou ∧ h.jou ≤ 256
  seg : 1 ≤ h.seg ∧ h.seg ≤ 16
  room : h.seg + 10 ≤ h.jou
  tim : 1 ≤ h.tim ∧ h.tim ≤ 8
  lan : 1 ≤ h.lan ∧ h.lan ≤ 4
  mem : 8 * h.lan ≤ h.mem ∧ h.mem ≤ 256
theorem HeadM.in_of {h : HeadM} (k : h.good = true) : h.In := by
  simp only [HeadM.good, parG, wth, Bool.and_eq_true, Bool.not_eq_true', decide_eq_true_eq, decide_eq_false_iff_not, beq_eq_false_iff_ne] at k
  constructor <;> omega
theorem HeadM.good_of {h : HeadM} (k : h.In) : h.good = true := by
  obtain ⟨a, b, c, d, e, f, g, i, j⟩ := k
  simp only [HeadM.good, parG, wth, Bool.and_eq_true, Bool.not_eq_true', decide_eq_true_eq, decide_eq_false_iff_not, beq_eq_false_iff_ne]
  omega
def magicH : List UInt8 := [67, 65, 83, 75, 69, 84, 48, 49]
def HeadM.front (h : HeadM) : List UInt8 := magicH ++ (leB 8 h.gen ++ (leB 4 h.sec.toNat ++ (leB 1 h.slo.toNat ++ (leB 2 h.jou.toNat ++ (leB 1 h.seg.toNat ++ (leB 1 h.tim.toNat ++ (leB 2 h.mem.toNat ++ (leB 1 h.lan.toNat ++ h.nam))))))))
def HeadM.body (h : HeadM) : List UInt8 := h.front ++ List.replicate 436 0
def HeadM.bytes (h : HeadM) : List UInt8 := h.body ++ shaSum h.body
theorem HeadM.front_len {h : HeadM} (k : h.ok) : h.front.length = 44 := by simp [HeadM.front, magicH, leB_length, k.nam]
theorem HeadM.body_len {h : HeadM} (k : h.ok) : h.body.length = 480 := by rw [HeadM.body, List.length_append, List.length_replicate, HeadM.front_len k]
end Go.Proofs.YtlelgeigighecaaDoor
/-
  Contracts of layer 11: Check and its reference.
-/
set_option linter.unusedSimpArgs false
set_option linter.unusedVariables false
set_option linter.unnecessarySimpa false
namespace Go.Proofs.YtlelgeigighecaaDoor
open Go.RowKit

set_option maxRecDepth 100000 in
theorem stPar : StT Tryd.prog 24 3 [.int .i64 0, .int .i64 0, .int .i64 0] := ⟨⟨_, Tryd.underlying24, rfl⟩, by kernel_rfl, by decide, by kernel_rfl, by intro u hu; simp at hu; rw [hu]; rfl⟩

theorem hWithin_any (n a b : Int) (w : World) : Calls Tryd.prog 48 #[.int .i64 n, .int .i64 a, .int .i64 b] w fun e w' => e = .returned (.bool (wth n a b)) ∧ w = w' := by
  by_cases h1 : a ≤ n
  · by_cases h2 : n ≤ b
    · have H := Lib.hid (show wth n a b = true by simp [wth, h1, h2])
      go_enter Tryd.func48, Tryd.ntmps48
      go_wp2
      go_ret
      exact ⟨by rw [H.out]; rfl, rfl⟩
    · have H := Lib.hid (show wth n a b = false by simp [wth, h1, h2])
      go_enter Tryd.func48, Tryd.ntmps48
      go_wp2
      go_ret
      exact ⟨by rw [H.out]; rfl, rfl⟩
  · have H := Lib.hid (show wth n a b = false by simp [wth, h1])
    go_enter Tryd.func48, Tryd.ntmps48
    go_wp2
    go_ret
    exact ⟨by rw [H.out]; rfl, rfl⟩
theorem aWithin_any (n a b : Int) (w : World) : Calls Tryd.prog 86 #[.int .i64 n, .int .i64 a, .int .i64 b] w fun e w' => e = .returned (.bool (wth n a b)) ∧ w = w' := by
  by_cases h1 : a ≤ n
  · by_cases h2 : n ≤ b
    · have H := Lib.hid (show wth n a b = true by simp [wth, h1, h2])
      go_enter Tryd.func86, Tryd.ntmps86
      go_wp2
      go_ret
      exact ⟨by rw [H.out]; rfl, rfl⟩
    · have H := Lib.hid (show wth n a b = false by simp [wth, h1, h2])
      go_enter Tryd.func86, Tryd.ntmps86
      go_wp2
      go_ret
      exact ⟨by rw [H.out]; rfl, rfl⟩
  · have H := Lib.hid (show wth n a b = false by simp [wth, h1])
    go_enter Tryd.func86, Tryd.ntmps86
    go_wp2
    go_ret
    exact ⟨by rw [H.out]; rfl, rfl⟩

/-- What is told: nothing, or this. -/
def errG (b : Bool) (z : Int) : Int := if b then 0 else z
def parV (t m l : Int) : Value := .agg #[.int .i64 t, .int .i64 m, .int .i64 l]
set_option maxRecDepth 100000 in
set_option maxHeartbeats 1000000 in
theorem aCheck_any (t m l : Int) (w : World) (hl : in64 l) : Calls Tryd.prog 49 #[parV t m l] w fun e w' => e = .returned (.int .i64 (errG (parG t m l) 80)) ∧ Fr [] w w' := by
  unfold parV
  cases d1 : wth t 1 8
  · have H := Lib.hid (show parG t m l = false by simp [parG, d1])
    go_enter Tryd.func49, Tryd.ntmps49
    go_wp2_with
      (first
        | (refine wpList_boxS rfl rfl [.int .i64 t, .int .i64 m, .int .i64 l] rfl ?_; intro w1 h1 f1 z1; have c0 := h1.cell 0; have c1 := h1.cell 1; have c2 := h1.cell 2; simp at c0 c1 c2)
        | (go_at_call 86; refine (aWithin_any _ _ _ _).mono ?_; rintro e w' ⟨rfl, rfl⟩))
    go_ret
    exact ⟨by rw [H.out]; rfl, f1⟩
  · cases d2 : wth l 1 4
    · have H := Lib.hid (show parG t m l = false by simp [parG, d2])
      go_enter Tryd.func49, Tryd.ntmps49
      go_wp2_with
        (first
          | (refine wpList_boxS rfl rfl [.int .i64 t, .int .i64 m, .int .i64 l] rfl ?_; intro w1 h1 f1 z1; have c0 := h1.cell 0; have c1 := h1.cell 1; have c2 := h1.cell 2; simp at c0 c1 c2)
          | (go_at_call 86; refine (aWithin_any _ _ _ _).mono ?_; rintro e w' ⟨rfl, rfl⟩))
      go_ret
      exact ⟨by rw [H.out]; rfl, f1⟩
    · have hw : IntKind.i64.wrap (8 * l) = 8 * l := by have := wth_yes d2; rw [IntWalk.i64_in _ (by omega)]
      cases d3 : wth m (8 * l) 256
      · have H := Lib.hid (show parG t m l = false by simp [parG, d3])
        go_enter Tryd.func49, Tryd.ntmps49
        go_wp2_with
          (first
            | (refine wpList_boxS rfl rfl [.int .i64 t, .int .i64 m, .int .i64 l] rfl ?_; intro w1 h1 f1 z1; have c0 := h1.cell 0; have c1 := h1.cell 1; have c2 := h1.cell 2; simp at c0 c1 c2)
            | (go_at_call 86; refine (aWithin_any _ _ _ _).mono ?_; rintro e w' ⟨rfl, rfl⟩))
        go_ret
        exact ⟨by rw [H.out]; rfl, f1⟩
      · have H := Lib.hid (show parG t m l = true by simp [parG, d1, d2, d3])
        go_enter Tryd.func49, Tryd.ntmps49
        go_wp2_with
          (first
            | (refine wpList_boxS rfl rfl [.int .i64 t, .int .i64 m, .int .i64 l] rfl ?_; intro w1 h1 f1 z1; have c0 := h1.cell 0; have c1 := h1.cell 1; have c2 := h1.cell 2; simp at c0 c1 c2)
            | (go_at_call 86; refine (aWithin_any _ _ _ _).mono ?_; rintro e w' ⟨rfl, rfl⟩))
        go_ret
        exact ⟨by rw [H.out]; rfl, f1⟩

set_option maxRecDepth 100000 in
set_option maxHeartbeats 1000000 in
theorem xaCheck_any (t m l : Int) (w : World) (hl : in64 l) : Calls Tryd.prog 50 #[parV t m l] w fun e w' => e = .returned (.int .i64 (errG (parG t m l) 80)) ∧ Fr [] w w' := by
  unfold parV
  cases d1 : wth t 1 8
  · rcases wth_no d1 with k | k
    ·
      have H := Lib.hid (show parG t m l = false by simp [parG, *])
      go_enter Tryd.func50, Tryd.ntmps50
      go_wp2_with
        (first
          | (refine wpList_boxS rfl rfl [.int .i64 t, .int .i64 m, .int .i64 l] rfl ?_; intro w1 h1 f1 z1; have c0 := h1.cell 0; have c1 := h1.cell 1; have c2 := h1.cell 2; simp at c0 c1 c2))
      go_ret
      exact ⟨by rw [H.out]; rfl, f1⟩
    · have k' : ¬ (t < 1) := by omega
      have H := Lib.hid (show parG t m l = false by simp [parG, *])
      go_enter Tryd.func50, Tryd.ntmps50
      go_wp2_with
        (first
          | (refine wpList_boxS rfl rfl [.int .i64 t, .int .i64 m, .int .i64 l] rfl ?_; intro w1 h1 f1 z1; have c0 := h1.cell 0; have c1 := h1.cell 1; have c2 := h1.cell 2; simp at c0 c1 c2))
      go_ret
      exact ⟨by rw [H.out]; rfl, f1⟩
  · have k1 := wth_yes d1
    cases d2 : wth l 1 4
    · rcases wth_no d2 with k | k
      ·
        have H := Lib.hid (show parG t m l = false by simp [parG, *])
        go_enter Tryd.func50, Tryd.ntmps50
        go_wp2_with
          (first
            | (refine wpList_boxS rfl rfl [.int .i64 t, .int .i64 m, .int .i64 l] rfl ?_; intro w1 h1 f1 z1; have c0 := h1.cell 0; have c1 := h1.cell 1; have c2 := h1.cell 2; simp at c0 c1 c2))
        go_ret
        exact ⟨by rw [H.out]; rfl, f1⟩
      ·
        have H := Lib.hid (show parG t m l = false by simp [parG, *])
        go_enter Tryd.func50, Tryd.ntmps50
        go_wp2_with
          (first
            | (refine wpList_boxS rfl rfl [.int .i64 t, .int .i64 m, .int .i64 l] rfl ?_; intro w1 h1 f1 z1; have c0 := h1.cell 0; have c1 := h1.cell 1; have c2 := h1.cell 2; simp at c0 c1 c2))
        go_ret
        exact ⟨by rw [H.out]; rfl, f1⟩
    · have k2 := wth_yes d2
      have hw : IntKind.i64.wrap (8 * l) = 8 * l := by rw [IntWalk.i64_in _ (by omega)]
      cases d3 : wth m (8 * l) 256
      · rcases wth_no d3 with k | k
        ·
          have H := Lib.hid (show parG t m l = false by simp [parG, *])
          go_enter Tryd.func50, Tryd.ntmps50
          go_wp2_with
            (first
              | (refine wpList_boxS rfl rfl [.int .i64 t, .int .i64 m, .int .i64 l] rfl ?_; intro w1 h1 f1 z1; have c0 := h1.cell 0; have c1 := h1.cell 1; have c2 := h1.cell 2; simp at c0 c1 c2))
          go_ret
          exact ⟨by rw [H.out]; rfl, f1⟩
        ·
          have H := Lib.hid (show parG t m l = false by simp [parG, *])
          go_enter Tryd.func50, Tryd.ntmps50
          go_wp2_with
            (first
              | (refine wpList_boxS rfl rfl [.int .i64 t, .int .i64 m, .int .i64 l] rfl ?_; intro w1 h1 f1 z1; have c0 := h1.cell 0; have c1 := h1.cell 1; have c2 := h1.cell 2; simp at c0 c1 c2))
          go_ret
          exact ⟨by rw [H.out]; rfl, f1⟩
      · have k3 := wth_yes d3
        have H := Lib.hid (show parG t m l = true by simp [parG, *])
        go_enter Tryd.func50, Tryd.ntmps50
        go_wp2_with
          (first
            | (refine wpList_boxS rfl rfl [.int .i64 t, .int .i64 m, .int .i64 l] rfl ?_; intro w1 h1 f1 z1; have c0 := h1.cell 0; have c1 := h1.cell 1; have c2 := h1.cell 2; simp at c0 c1 c2))
        go_ret
        exact ⟨by rw [H.out]; rfl, f1⟩
end Go.Proofs.YtlelgeigighecaaDoor
/-
  Contracts of layer 11: number and value of the reference; bytes.Equal.
-/
set_option linter.unusedSimpArgs false
set_option linter.unusedVariables false
set_option linter.unnecessarySimpa false
namespace Go.Proofs.YtlelgeigighecaaDoor
open Go.RowKit

theorem leB_byte2 (x k : Nat) : Value.int .u8 ((x : Int) / 2 ^ (8 * k) % 256) = bv (UInt8.ofNat (x / 256 ^ k % 256)) := by
  have := leB_byte x k
  rw [IntKind.wrap_u8, show (8 * (k : Int)).toNat = 8 * k by omega] at this
  exact this
set_option maxHeartbeats 400000 in
theorem xhNumber_any (n x : Nat) (w : World) (hn : n ≤ 8) (hx : x < 18446744073709551616) : Calls Tryd.prog 43 #[.int .i64 n, .int .u64 x] w fun e w' => ∃ v, e = .returned v ∧ Row w' w.heap.size 5 1 v n (bvs (leB n x)) ∧ Fr [] w w' := by
  go_enter Tryd.func43, Tryd.ntmps43
  go_wp2_with fail
  go_loopw [5, 6] (fun v i wr => ∃ k : Nat, k ≤ n ∧ i = .int .i64 k ∧ Row wr w.heap.size 5 1 v k (bvs (leB k x)) ∧ Fr [] w wr) (fun _ i _ => n - (intOf i).toNat)
  case atStart => exact ⟨0, Nat.zero_le _, rfl, Row.nil _ _ _ _, Fr.refl _ _⟩
  case round =>
    obtain ⟨k, hk, rfl, r4, F4⟩ := hrel
    obtain ⟨A4, cap4, rfl, -, -, -, -, -⟩ := r4.shape
    by_cases hlt : k < n
    · go_wp2_with
        (first
          | (at_builtin; refine wpList_app rfl rfl slB w.heap.size _ k (bvs (leB k x)) rfl (r4.alloc _) _ 1 1 [_] rfl rfl (Rd.one _ _ _) (by intro u hu; rw [List.mem_singleton.1 hu]; rfl) (fun h => by cases h) (by omega) (by have := F4.size; simp; omega) ?_; intro v5 w5 q1 q2 q3 q4))
      refine ⟨⟨k + 1, by omega, by go_num, ?_, (F4.alloc _).trans q2 (fun i hi => .inr (r4.lt i (mem_own.1 hi)).1)⟩, by simp [intOf]; omega⟩
      rw [leB_byte2, show ∀ x : UInt8, [bv x] = bvs [x] from fun _ => rfl, ← bvs_append, ← leB_succ] at q1
      exact q1
    · obtain rfl : k = n := by omega
      go_wp2_with fail
      go_ret
      exact ⟨_, rfl, r4, F4⟩

theorem bytesEq_any (A A' : Option Addr) (l l' : List UInt8) (n c n' c' : Nat) (w : World) (hn : l.length = n) (hr : Rd w A (bvs l)) (hA : A = none → n = 0) (hn' : l'.length = n') (hr' : Rd w A' (bvs l')) (hA' : A' = none → n' = 0) :
    Calls Tryd.prog 56 #[.slice A n c, .slice A' n' c'] w fun e w' => e = .returned (.bool (l == l')) ∧ w = w' := by
  have E1 := strB w A l n c hn hr hA
  have E2 := strB w A' l' n' c' hn' hr' hA'
  go_enter Tryd.func56, Tryd.ntmps56
  go_wp2_with fail
  go_ret
  exact ⟨by rfl, rfl⟩

set_option maxHeartbeats 400000 in
theorem xhValue_any (A : Option Addr) (l : List UInt8) (n c : Nat) (w : World) (hn : l.length = n) (hr : Rd w A (bvs l)) (h8 : n ≤ 8) : Calls Tryd.prog 57 #[.slice A n c] w fun e w' => e = .returned (.int .u64 (leN l)) ∧ w = w' := by
  have HL := Lib.hid hn
  clear hn
  go_enter Tryd.func57, Tryd.ntmps57
  go_wp2_with fail
  go_loop [3, 4] (fun x i => ∃ k : Nat, k ≤ n ∧ i = .int .i64 k ∧ x = .int .u64 (leN (l.take k))) (fun _ i => n - (intOf i).toNat)
  case atStart => exact ⟨0, Nat.zero_le _, rfl, rfl⟩
  case round =>
    obtain ⟨k, hk, rfl, rfl⟩ := hrel
    by_cases hlt : k < n
    · have hk' : k < l.length := by rw [HL.out]; exact hlt
      obtain ⟨g, o, rfl, hc⟩ := hr.byte hk'
      have hck := hc k hk'
      have E := Lib.hid (or_byte (leN (l.take k)) l[k].toNat k (leN_take_lt l k) l[k].toNat_lt (by omega))
      have T := Lib.hid (leN_take_succ l k hk')
      clear hc
      go_wp2
      go_round
      case rel => exact ⟨k + 1, by omega, by go_num, by rw [E.out, T.out]⟩
      case measure => simp [intOf]; omega
    · have hk2 : k = n := by omega
      have E : l.take k = l := by rw [hk2, ← HL.out, List.take_length]
      have HE := Lib.hid E
      clear E hk2
      go_wp2
      go_ret
      exact ⟨by rw [HE.out]; rfl, rfl⟩
end Go.Proofs.YtlelgeigighecaaDoor
/-
  SHA-256: words turned, by the code and by the reference.
-/
set_option linter.unusedSimpArgs false
set_option linter.unusedVariables false
set_option linter.unnecessarySimpa false
namespace Go.Proofs.YtlelgeigighecaaDoor
open Go.RowKit

theorem and31 (n : Nat) (h0 : 0 < n) (h : n < 32) : bits .and .u64 (IntKind.u64.wrap (-(n : Int))) 31 = ((32 - n : Nat) : Int) := by
  have e : IntKind.u64.wrap (-(n : Int)) = ((18446744073709551616 - n : Nat) : Int) := by rw [IntKind.wrap_u64]; omega
  rw [e, show (31 : Int) = ((31 : Nat) : Int) from rfl, bits_and_u64_nat _ _ (by omega) (by decide), show (31 : Nat) = 2 ^ 5 - 1 by decide, Nat.and_two_pow_sub_one_eq_mod]
  omega
theorem rot32_any (x : UInt32) (n : Nat) (h0 : 0 < n) (h : n < 32) (w : World) :
    Calls Tryd.prog 107 #[.int .u32 (uw x), .int .i64 (-(n : Int))] w fun e w' => e = .returned (.int .u32 (uw (rotr x n))) ∧ w' = w := by
  have e1 := and31 n h0 h
  have e2 : IntKind.u64.wrap (32 - ((32 - n : Nat) : Int)) = (n : Int) := by rw [IntKind.wrap_u64]; omega
  have e3 := uw_shl x (32 - n)
  have e4 := uw_shr x n
  have e5 := uw_or (shl x (32 - n)) (shr x n)
  go_enter Tryd.func107, Tryd.ntmps107
  go_wp2
  go_ret
  exact ⟨rfl, rfl⟩
theorem right_any (x : UInt32) (n : Nat) (h0 : 0 < n) (h : n < 32) (w : World) :
    Calls Tryd.prog 105 #[.int .u32 (uw x), .int .i64 n] w fun e w' => e = .returned (.int .u32 (uw (rotr x n))) ∧ w' = w := by
  have e1 : IntKind.i64.wrap (-(n : Int)) = -(n : Int) := IntWalk.i64_in _ (by omega)
  go_enter Tryd.func105, Tryd.ntmps105
  go_wp2_with (refine (rot32_any x n h0 h _).mono ?_; rintro e w' ⟨rfl, rfl⟩)
  go_ret
  exact ⟨rfl, rfl⟩
theorem right_int (x : UInt32) (n : Int) (h0 : 0 < n) (h : n < 32) (w : World) :
    Calls Tryd.prog 105 #[.int .u32 (uw x), .int .i64 n] w fun e w' => e = .returned (.int .u32 (uw (rotr x n.toNat))) ∧ w' = w := by
  obtain ⟨m, rfl⟩ := Int.eq_ofNat_of_zero_le (Int.le_of_lt h0)
  exact right_any x m (by omega) (by omega) w
theorem turn_any (x : UInt32) (n : Nat) (h0 : 0 < n) (h : n < 32) (w : World) :
    Calls Tryd.prog 100 #[.int .i64 n, .int .u32 (uw x)] w fun e w' => e = .returned (.int .u32 (uw (rotr x n))) ∧ ∃ q, w' = w.drewN q := by
  have e2 : IntKind.i64.wrap (32 - (n : Int)) = ((32 - n : Nat) : Int) := by rw [IntWalk.i64_in _ (by omega)]; omega
  have e3 := uw_shl x (32 - n)
  have e4 := uw_shr x n
  have e5 : bits .or .u32 (uw (shr x n)) (uw (shl x (32 - n))) = uw (rotr x n) := by rw [uw_or, rotr']
  have p1 : (0 : Int) ≤ ((32 - n : Nat) : Int) := by omega
  go_enter Tryd.func100, Tryd.ntmps100
  go_wp2
  go_quiet (fail)
  go_wp2_with fail
  go_ret
  exact ⟨rfl, _, rfl⟩
theorem turn_int (x : UInt32) (n : Int) (h0 : 0 < n) (h : n < 32) (w : World) :
    Calls Tryd.prog 100 #[.int .i64 n, .int .u32 (uw x)] w fun e w' => e = .returned (.int .u32 (uw (rotr x n.toNat))) ∧ ∃ q, w' = w.drewN q := by
  obtain ⟨m, rfl⟩ := Int.eq_ofNat_of_zero_le (Int.le_of_lt h0)
  exact turn_any x m (by omega) (by omega) w
end Go.Proofs.YtlelgeigighecaaDoor
