/-
  Structs and arrays of many cells, by value: load, store, alloc, box, build, equality; none is opened cell by cell. No program of the seat is named here.
-/
import Derived.Test.YtdhhnioklbnicaaMemB
import Derived.Deep.MidRow
import Derived.Laws.StructEq
import Derived.Stop.BytesEq
import Derived.Great.FillDense
set_option linter.unusedSimpArgs false
set_option linter.unusedVariables false
set_option linter.unnecessarySimpa false
namespace Go.Proofs.Ytdhhnioklbnicaa
open Go.RowKit

/-- Facts on a type of many cells: its size, its zero. -/
structure StT (P : Program) (t : TypeId) (n : Nat) (z : List Value) : Prop where
  und : ∃ d, P.underlying t = some d ∧ d.isRow = true
  size : (P.info? t).map (fun i => (i.zero, i.size)) = some (some (.agg z.toArray), n)
  zlen : z.length = n
  eq : P.eqGuardType P.depth t = false
  ones : ∀ u ∈ z, u.oneCell' = true

section
variable {P : Program} {ops : Array Oper} {rest : List Oper} {o : Oper} {a : Act} {w : World} {K : Act → World → Prop} {Q : Exit → Act → World → Prop} {t : TypeId} {n : Nat} {z : List Value}

theorem StT.sz (hT : StT P t n z) : (P.info? t).map (·.size) = some n := by
  obtain ⟨i, hi, h⟩ := Option.map_eq_some_iff.1 hT.size
  simp only [Prod.mk.injEq] at h
  rw [hi, Option.map_some, h.2]
theorem StT.zv (hT : StT P t n z) (w : World) : (zeroValue t).run P w = .ok (.agg z.toArray) w := by
  obtain ⟨i, hi, h⟩ := Option.map_eq_some_iff.1 hT.size
  simp only [Prod.mk.injEq] at h
  simp [zeroValue, typeInfo, hi, h.1]

theorem wpList_want (hw : Region.wanted o (yielded ops a.tmps) = true) (h : ∀ K : Act → World → Prop, (∀ a w, wpList P ops Q rest a w → K a w) → o.wp P a w K Q) : wpList P ops Q (o :: rest) a w :=
  wpList_step fun K hK => by rw [if_pos hw]; exact h K hK

theorem wp_val (v : Value) (w' : World) (hy : (execOp a.eval o).run P w = .ok (.value v) w') (h : K (a.put o.dst v) w') : o.wp P a w K Q := by
  unfold Oper.wp
  simp only [hy, Result.andThen_ok]
  exact h

theorem wp_ldS {x : Operand} (hT : StT P t n z) (ho : o.op = .load t x) (g off : Nat) (hx : a.eval x = .pointer (some ⟨g, off, none⟩)) (cs : List Value) (hn : cs.length = n) (hc : w.rangeAt g off cs)
    (h : K (a.put o.dst (.agg cs.toArray)) w) : o.wp P a w K Q := by
  obtain ⟨d, hu, hd⟩ := hT.und
  exact wp_load_mid t x ho g off hx cs d hc hu hd (by rw [hT.sz, hn]) h
theorem wpList_ldS {x : Operand} (hT : StT P t n z) (hw : Region.wanted o (yielded ops a.tmps) = true) (ho : o.op = .load t x) (g off : Nat) (hx : a.eval x = .pointer (some ⟨g, off, none⟩)) (cs : List Value) (hn : cs.length = n) (hc : w.rangeAt g off cs)
    (h : wpList P ops Q rest (a.put o.dst (.agg cs.toArray)) w) : wpList P ops Q (o :: rest) a w :=
  wpList_want hw fun _ hK => wp_ldS hT ho g off hx cs hn hc (hK _ _ h)

/-- Of a block that is known whole. -/
theorem Blk.range {g : Nat} {tt : TypeId} {cs : Array Value} (hb : Blk w g tt cs) (off : Nat) (l : List Value) (hl : ∀ j u, l[j]? = some u → cs[off + j]? = some u) : w.rangeAt g off l := fun j v hv => by
  rw [hb.cell]; exact hl j v hv
theorem Blk.range0 {g : Nat} {tt : TypeId} {cs : List Value} (hb : Blk w g tt cs.toArray) : w.rangeAt g 0 cs := hb.range 0 cs (fun j u h => by rw [Nat.zero_add]; simpa using h)

theorem run_stS (hT : StT P t n z) (g off : Nat) (new : List Value) (hn : new.length = n) (h1 : ∀ u ∈ new, u.oneCell' = true) (cur : Array Value) (tt : TypeId) (fz : Nat × Nat) (hg : w.heap[g]? = some (.cells cur tt fz)) (hf : Free cur.size fz) (hfit : off + n ≤ cur.size) :
    (Instr.storeAt t (.pointer (some ⟨g, off, none⟩)) (.agg new.toArray)).run P w = .ok () (w.setRow g (cur.toList.take off ++ new ++ cur.toList.drop (off + new.length)).toArray) := by
  obtain ⟨i, hi, hs⟩ := Option.map_eq_some_iff.1 hT.sz
  have := run_storeCells_free (P := P) g off tt fz new 0 cur w hg hf (by omega) h1
  simp only [Nat.add_zero] at this
  simp only [Instr.storeAt, Instr.sureAddr, Sem.run_bind, Sem.run_pure, Result.andThen_ok]
  simp [storeVar, sizeOf, typeInfo, hi, hs, Value.cells, hn, this]

theorem wp_stS {x y : Operand} (hT : StT P t n z) (ho : o.op = .store t x y) (g off : Nat) (hx : a.eval x = .pointer (some ⟨g, off, none⟩)) (new : List Value) (hy : a.eval y = .agg new.toArray) (hn : new.length = n) (h1 : ∀ u ∈ new, u.oneCell' = true) (cur : Array Value) (tt : TypeId) (fz : Nat × Nat) (hg : w.heap[g]? = some (.cells cur tt fz)) (hf : Free cur.size fz) (hfit : off + n ≤ cur.size)
    (h : ∀ w', w'.heap[g]? = some (.cells (cur.toList.take off ++ new ++ cur.toList.drop (off + new.length)).toArray tt fz) → Fr [g] w w' → w'.heap.size = w.heap.size → K (a.put o.dst undef) w') : o.wp P a w K Q := by
  unfold Oper.wp execOp
  simp only [ho, hx, hy, Sem.run_bind, Sem.run_pure, Result.andThen_ok, run_stS hT g off new hn h1 cur tt fz hg hf hfit]
  exact h _ (setRow_heap w g cur _ tt fz hg) ((Fr.refl _ _).setRow (.inl (by simp)) _) (by unfold World.setRow; simp)

/-- A whole block is stored. -/
theorem wpList_stB {x y : Operand} (hT : StT P t n z) (hw : Region.wanted o (yielded ops a.tmps) = true) (ho : o.op = .store t x y) (g : Nat) (hx : a.eval x = .pointer (some ⟨g, 0, none⟩)) (new : List Value) (hy : a.eval y = .agg new.toArray) (hn : new.length = n) (h1 : ∀ u ∈ new, u.oneCell' = true) (cur : List Value) (hc : cur.length = n) (hb : Blk w g t cur.toArray)
    (h : ∀ w', Blk w' g t new.toArray → Fr [g] w w' → w'.heap.size = w.heap.size → wpList P ops Q rest (a.put o.dst undef) w') : wpList P ops Q (o :: rest) a w :=
  wpList_want hw fun _ hK => wp_stS hT ho g 0 hx new hy hn h1 cur.toArray t (0, 0) hb (free_zero _) (by simp; omega) fun w' h1 h2 h3 => hK _ _ (h w' (by
    have e : (cur.toArray.toList.take 0 ++ new ++ cur.toArray.toList.drop (0 + new.length)).toArray = new.toArray := by
      rw [List.take_zero, List.nil_append, Nat.zero_add, List.drop_of_length_le (by rw [hn, ← hc]; exact Nat.le_refl _), List.append_nil]
    rw [e] at h1
    exact h1) h2 h3)

theorem wpList_alS (hT : StT P t n z) (hw : Region.wanted o (yielded ops a.tmps) = true) (ho : o.op = .alloc t)
    (h : ∀ w', Blk w' w.heap.size t z.toArray → Fr [] w w' → w'.heap.size = w.heap.size + 1 → wpList P ops Q rest (a.put o.dst (.pointer (some ⟨w.heap.size, 0, none⟩))) w') : wpList P ops Q (o :: rest) a w :=
  wpList_want hw fun _ hK => by
    refine wp_val (.pointer (some ⟨w.heap.size, 0, none⟩)) (w.alloc (.cells z.toArray t)) ?_ (hK _ _ (h _ (Blk.new _ _ _) ((Fr.refl _ _).alloc _) (by simp)))
    unfold execOp
    simp [ho, Instr.alloc, hT.zv, newVar, newRow, Value.cells]

theorem wpList_boxS {x : Operand} (hw : Region.wanted o (yielded ops a.tmps) = true) (ho : o.op = .box t x) (cs : List Value) (hx : a.eval x = .agg cs.toArray)
    (h : ∀ w', Blk w' w.heap.size t cs.toArray → Fr [] w w' → w'.heap.size = w.heap.size + 1 → wpList P ops Q rest (a.put o.dst (.pointer (some ⟨w.heap.size, 0, none⟩))) w') : wpList P ops Q (o :: rest) a w :=
  wpList_want hw fun _ hK => by
    refine wp_val (.pointer (some ⟨w.heap.size, 0, none⟩)) (w.alloc (.cells cs.toArray t)) ?_ (hK _ _ (h _ (Blk.new _ _ _) ((Fr.refl _ _).alloc _) (by simp)))
    unfold execOp
    simp [ho, hx, Instr.box, newVar, newRow, Value.cells]

/-- What a build yields, told ahead. -/
theorem wpList_bld {ps : Array (Nat × Operand)} (hw : Region.wanted o (yielded ops a.tmps) = true) (ho : o.op = .build t ps) (v : Value) (hv : (Instr.build t (ps.map fun (i, x) => (i, a.eval x))).run P w = .ok v w)
    (h : wpList P ops Q rest (a.put o.dst v) w) : wpList P ops Q (o :: rest) a w :=
  wpList_want hw fun _ hK => by
    refine wp_val v w ?_ (hK _ _ h)
    unfold execOp
    simp only [ho, Sem.run_bind, Sem.run_pure, Result.andThen_ok, hv]

theorem run_eqS {op : BinOp} {x y : Operand} {xs ys : Array Value} (hT : StT P t n z) (ho : op = .eql ∨ op = .neq) (b : Bool) (he : (Op.equalIn 10000 t (.agg xs) (.agg ys)).run P w = .ok b w) :
    (do eqGuard op t x y (.agg xs) (.agg ys); binOp op t (.agg xs) (.agg ys) : Sem Value).run P w = .ok (.bool (if op = .eql then b else !b)) w := by
  rw [Sem.run_bind, run_eqGuard_agg w op t x y xs ys hT.eq, Result.andThen_ok]
  rcases ho with rfl | rfl
  · rw [run_eql_struct, he]; rfl
  · rw [run_neq_struct, he]; rfl

theorem wpList_eqS {op : BinOp} {x y : Operand} {ty : TypeId} {xs ys : Array Value} (hT : StT P t n z) (hw : Region.wanted o (yielded ops a.tmps) = true) (ho : o.op = .binOp op t x y ty) (hop : op = .eql ∨ op = .neq) (hx : a.eval x = .agg xs) (hy : a.eval y = .agg ys) (b : Bool) (he : (Op.equalIn 10000 t (.agg xs) (.agg ys)).run P w = .ok b w)
    (h : wpList P ops Q rest (a.put o.dst (.bool (if op = .eql then b else !b))) w) : wpList P ops Q (o :: rest) a w :=
  wpList_want hw fun _ hK => by
    refine wp_val _ w ?_ (hK _ _ h)
    have := run_eqS (x := x) (y := y) hT hop b he
    rw [Sem.run_bind] at this
    unfold execOp
    simp only [ho, hx, hy, Sem.run_bind, Sem.run_pure, this, Result.andThen_ok]

/-- A field of bytes out of a struct's cells. -/
theorem part_bytes {e : TypeId} (hu : P.underlying t = some (.array n e)) (hs : (P.info? t).map (·.size) = some n) (xs : Array Value) (off : Nat) (l : List UInt8) (hl : l.length = n) (hx : (xs.toList.drop off).take n = bvs l) :
    (part t xs off).run P w = .ok (.agg (bvs l).toArray) w := by
  obtain ⟨i, hi, hsz⟩ := Option.map_eq_some_iff.1 hs
  have : xs.extract off (off + n) = (bvs l).toArray := by
    apply Array.ext'
    rw [Array.toList_extract, List.extract_eq_take_drop, Nat.add_sub_cancel_left, hx]
  simp [part, isAgg, run_underlying hu, sizeOf, typeInfo, hi, hsz, this]
theorem part_one {d : TypeDesc} (hu : P.underlying t = some d) (hd : d.isRow = false) (xs : Array Value) (off : Nat) (v : Value) (hx : xs[off]? = some v) :
    (part t xs off).run P w = .ok v w := by
  cases d <;> simp_all [part, isAgg, run_underlying hu]
theorem eq_bytes {e : TypeId} (d : Nat) (hu : P.underlying t = some (.array n e)) (he : P.underlying e = some (.int .u8)) (hs : (P.info? e).map (·.size) = some 1) (a b : List UInt8) (ha : a.length = n) (hb : b.length = n) :
    (Op.equalIn (d + 2) t (.agg (bvs a).toArray) (.agg (bvs b).toArray)).run P w = .ok (a == b) w :=
  run_equalIn_bytes w d t e n hu he (fun w => by
    obtain ⟨i, hi, hsz⟩ := Option.map_eq_some_iff.1 hs
    simp [sizeOf, typeInfo, hi, hsz]) a b ha hb
/-- A field of an equality of structs. -/
theorem eqF_step (d : Nat) (xs ys : Array Value) (f : Field) (fs : List Field) (hn : f.name ≠ "_") (x y : Value) (hx : (part f.type xs f.offset).run P w = .ok x w) (hy : (part f.type ys f.offset).run P w = .ok y w) (b c : Bool) (he : (Op.equalIn d f.type x y).run P w = .ok b w) (hr : (Op.eqFields d xs ys fs).run P w = .ok c w) :
    (Op.eqFields d xs ys (f :: fs)).run P w = .ok (b && c) w := by
  simp only [Op.eqFields, hn, ne_eq, not_false_eq_true, if_true, Sem.run_bind, hx, hy, he, Result.andThen_ok]
  cases b
  · simp
  · simpa using hr

theorem run_loadB (hT : StT P t n z) {g : Nat} {cs : List Value} (hn : cs.length = n) (hb : Blk w g t cs.toArray) : (loadVar t ⟨g, 0, none⟩).run P w = .ok (.agg cs.toArray) w := by
  obtain ⟨d, hu, hd⟩ := hT.und
  exact run_loadVar_mid w g 0 t cs d hb.range0 hu hd (by rw [hT.sz, hn])
/-- Results that lie in a cell of their own. -/
theorem results_cell (hT : StT P t n z) {fn : Func} {p : Tmp} (hr : fn.results = #[.cell p t]) {tmps : Array Value} {g : Nat} {cs : List Value} (hv : tmps.getD p undef = .pointer (some ⟨g, 0, none⟩)) (hn : cs.length = n) (hb : Blk w g t cs.toArray) :
    (results fn tmps).run P w = .ok (.agg cs.toArray) w := by
  have hl := run_loadB hT hn hb
  have ha : (asAddr (.pointer (some ⟨g, 0, none⟩))).run P w = .ok ⟨g, 0, none⟩ w := rfl
  have hv' : tmps[p]?.getD undef = .pointer (some ⟨g, 0, none⟩) := by simpa using hv
  simp [results, hr, hv', ha, hl]
theorem results_cell2 (hT : StT P t n z) {fn : Func} {p q : Tmp} (hr : fn.results = #[.cell p t, .tmp q]) {tmps : Array Value} {g : Nat} {cs : List Value} (hv : tmps.getD p undef = .pointer (some ⟨g, 0, none⟩)) (hn : cs.length = n) (hb : Blk w g t cs.toArray) :
    (results fn tmps).run P w = .ok (.tuple #[.agg cs.toArray, tmps.getD q undef]) w := by
  have hl := run_loadB hT hn hb
  have ha : (asAddr (.pointer (some ⟨g, 0, none⟩))).run P w = .ok ⟨g, 0, none⟩ w := rfl
  have hv' : tmps[p]?.getD undef = .pointer (some ⟨g, 0, none⟩) := by simpa using hv
  simp [results, hr, hv', ha, hl]

/-- A slice's literal of structs. -/
theorem run_bs {ts : TypeId} (hT : StT P t n z) (ht : P.underlying ts = some (.slice t)) (hpos : 0 < n) (vs : List Value) (hv : ∀ v ∈ vs, v.cells.size = n) (hne : 0 < vs.length) (hsm : vs.length * n ≤ 2 ^ 24) :
    (Instr.buildSlice ts vs.length ((vs.zipIdx 0).map fun x => (x.2, x.1)).toArray).run P w = .ok (.slice (some ⟨w.heap.size, 0, none⟩) vs.length vs.length) (w.alloc (.cells (vs.flatMap fun v => v.cells.toList).toArray t)) := by
  obtain ⟨i, hi, hs⟩ := Option.map_eq_some_iff.1 hT.sz
  have h0 : ¬ (vs.length * n = 0) := by
    intro h
    rcases Nat.mul_eq_zero.1 h with h | h <;> omega
  have hbig : ¬ (2 ^ 24 < vs.length * n) := by omega
  have hf := Great.fill_whole hpos vs ((Array.range (vs.length * n)).map ((Value.agg z.toArray).cells[· % (Value.agg z.toArray).cells.size]!)) hv (by simp)
  unfold Instr.buildSlice
  simp only [Sem.run_bind, run_underlying ht, Result.andThen_ok, sizeOf, typeInfo, run_program, hi, Sem.run_pure, hs, gt_iff_lt, hbig, if_false, h0, hT.zv, hf, newRow, newObj]
  rfl

theorem wpList_bs1 {ts : TypeId} {x : Operand} (hT : StT P t n z) (ht : P.underlying ts = some (.slice t)) (hpos : 0 < n) (hsm : n ≤ 2 ^ 24) (hw : Region.wanted o (yielded ops a.tmps) = true) (ho : o.op = .buildSlice ts 1 #[(0, x)]) (cs : List Value) (hx : a.eval x = .agg cs.toArray) (hn : cs.length = n)
    (h : ∀ w', Blk w' w.heap.size t cs.toArray → Fr [] w w' → w'.heap.size = w.heap.size + 1 → wpList P ops Q rest (a.put o.dst (.slice (some ⟨w.heap.size, 0, none⟩) 1 1)) w') : wpList P ops Q (o :: rest) a w :=
  wpList_want hw fun _ hK => by
    refine wp_val (.slice (some ⟨w.heap.size, 0, none⟩) 1 1) (w.alloc (.cells cs.toArray t)) ?_ (hK _ _ (h _ (Blk.new _ _ _) ((Fr.refl _ _).alloc _) (by simp)))
    have hr := run_bs (w := w) hT ht hpos [.agg cs.toArray] (by intro v hv; rw [List.mem_singleton.1 hv]; simpa [Value.cells] using hn) (by simp) (by simpa using hsm)
    have e1 : ([Value.agg cs.toArray].flatMap fun v => v.cells.toList).toArray = cs.toArray := by simp [Value.cells]
    rw [e1] at hr
    unfold execOp
    simp only [ho, Sem.run_bind, Sem.run_pure, Result.andThen_ok]
    have e2 : (#[((0 : Nat), x)].map fun (i, x) => (i, a.eval x)) = (([Value.agg cs.toArray].zipIdx 0).map fun x => (x.2, x.1)).toArray := by simp [hx]
    rw [e2]
    show ((Instr.buildSlice ts [Value.agg cs.toArray].length _).run P w).andThen _ = _
    rw [hr]
    rfl
end
end Go.Proofs.Ytdhhnioklbnicaa
