/-
  Texts of this claim, one behind the other: Big, Reg, Mem3, CodA.
-/
import Derived.Test.YtbanogfljpkbkaaGreatDoorF2
import Derived.Deep.MidRow
import Derived.Laws.StructEq
import Derived.Stop.BytesEq
import Derived.Great.FillDense
import Derived.WalkKit
import Derived.Deep.RegionHeld3
import Derived.Test.YtbanogfljpkbkaaGreatDoorProg
import Derived.Test.YtbanogfljpkbkaaGreatDoorF1
set_option linter.unusedSimpArgs false
set_option linter.unusedVariables false
set_option linter.unnecessarySimpa false
namespace Go.Proofs.YtbanogfljpkbkaaGreatDoor
section
open Go.RowKit
structure StT (P : Program) (t : TypeId) (n : Nat) (z : List Value) : Prop where
 und : ∃ d, P.underlying t = some d ∧ d.isRow = true
 size : (P.info? t).map (fun i => (i.zero, i.size)) = some (some (.agg z.toArray), n)
 zlen : z.length = n
 eq : P.eqGuardType P.depth t = false
 ones : ∀ u ∈ z, u.oneCell' = true
section
variable {P : Program} {ops : Array Oper} {rest : List Oper} {o : Oper} {a : Act} {w : World} {K : Act → World → Prop} {Q : Exit → Act → World → Prop} {t : TypeId} {n : Nat} {z : List Value}
theorem StT.sz (hT : StT P t n z) : (P.info? t).map (·.size) = some n := by
 obtain ⟨i, hi, h⟩ := Option.map_eq_some_iff.1 hT.size
 simp only [Prod.mk.injEq] at h
 rw [hi, Option.map_some, h.2]
theorem StT.zv (hT : StT P t n z) (w : World) : (zeroValue t).run P w = .ok (.agg z.toArray) w := by
 obtain ⟨i, hi, h⟩ := Option.map_eq_some_iff.1 hT.size
 simp only [Prod.mk.injEq] at h
 simp [zeroValue, typeInfo, hi, h.1]
theorem wpList_want (hw : Region.wanted o (yielded ops a.tmps) = true) (h : ∀ K : Act → World → Prop, (∀ a w, wpList P ops Q rest a w → K a w) → o.wp P a w K Q) : wpList P ops Q (o :: rest) a w :=
 wpList_step fun K hK => by rw [if_pos hw]; exact h K hK
theorem wp_val (v : Value) (w' : World) (hy : (execOp a.eval o).run P w = .ok (.value v) w') (h : K (a.put o.dst v) w') : o.wp P a w K Q := by
 unfold Oper.wp
 simp only [hy, Result.andThen_ok]
 exact h
theorem wp_ldS {x : Operand} (hT : StT P t n z) (ho : o.op = .load t x) (g off : Nat) (hx : a.eval x = .pointer (some ⟨g, off, none⟩)) (cs : List Value) (hn : cs.length = n) (hc : w.rangeAt g off cs)
  (h : K (a.put o.dst (.agg cs.toArray)) w) : o.wp P a w K Q := by
 obtain ⟨d, hu, hd⟩ := hT.und
 exact wp_load_mid t x ho g off hx cs d hc hu hd (by rw [hT.sz, hn]) h
theorem wpList_ldS {x : Operand} (hT : StT P t n z) (hw : Region.wanted o (yielded ops a.tmps) = true) (ho : o.op = .load t x) (g off : Nat) (hx : a.eval x = .pointer (some ⟨g, off, none⟩)) (cs : List Value) (hn : cs.length = n) (hc : w.rangeAt g off cs)
  (h : wpList P ops Q rest (a.put o.dst (.agg cs.toArray)) w) : wpList P ops Q (o :: rest) a w :=
 wpList_want hw fun _ hK => wp_ldS hT ho g off hx cs hn hc (hK _ _ h)
theorem Blk.range {g : Nat} {tt : TypeId} {cs : Array Value} (hb : Blk w g tt cs) (off : Nat) (l : List Value) (hl : ∀ j u, l[j]? = some u → cs[off + j]? = some u) : w.rangeAt g off l := fun j v hv => by
 rw [hb.cell]; exact hl j v hv
theorem Blk.range0 {g : Nat} {tt : TypeId} {cs : List Value} (hb : Blk w g tt cs.toArray) : w.rangeAt g 0 cs := hb.range 0 cs (fun j u h => by rw [Nat.zero_add]; simpa using h)
theorem run_stS (hT : StT P t n z) (g off : Nat) (new : List Value) (hn : new.length = n) (h1 : ∀ u ∈ new, u.oneCell' = true) (cur : Array Value) (tt : TypeId) (fz : Nat × Nat) (hg : w.heap[g]? = some (.cells cur tt fz)) (hf : Free cur.size fz) (hfit : off + n ≤ cur.size) :
  (Instr.storeAt t (.pointer (some ⟨g, off, none⟩)) (.agg new.toArray)).run P w = .ok () (w.setRow g (cur.toList.take off ++ new ++ cur.toList.drop (off + new.length)).toArray) := by
 obtain ⟨i, hi, hs⟩ := Option.map_eq_some_iff.1 hT.sz
 have := run_storeCells_free (P := P) g off tt fz new 0 cur w hg hf (by omega) h1
 simp only [Nat.add_zero] at this
 simp only [Instr.storeAt, Instr.sureAddr, Sem.run_bind, Sem.run_pure, Result.andThen_ok]
 simp [storeVar, sizeOf, typeInfo, hi, hs, Value.cells, hn, this]
theorem wp_stS {x y : Operand} (hT : StT P t n z) (ho : o.op = .store t x y) (g off : Nat) (hx : a.eval x = .pointer (some ⟨g, off, none⟩)) (new : List Value) (hy : a.eval y = .agg new.toArray) (hn : new.length = n) (h1 : ∀ u ∈ new, u.oneCell' = true) (cur : Array Value) (tt : TypeId) (fz : Nat × Nat) (hg : w.heap[g]? = some (.cells cur tt fz)) (hf : Free cur.size fz) (hfit : off + n ≤ cur.size)
  (h : ∀ w', w'.heap[g]? = some (.cells (cur.toList.take off ++ new ++ cur.toList.drop (off + new.length)).toArray tt fz) → Fr [g] w w' → w'.heap.size = w.heap.size → K (a.put o.dst undef) w') : o.wp P a w K Q := by
 unfold Oper.wp execOp
 simp only [ho, hx, hy, Sem.run_bind, Sem.run_pure, Result.andThen_ok, run_stS hT g off new hn h1 cur tt fz hg hf hfit]
 exact h _ (setRow_heap w g cur _ tt fz hg) ((Fr.refl _ _).setRow (.inl (by simp)) _) (by unfold World.setRow; simp)
theorem wpList_stB {x y : Operand} (hT : StT P t n z) (hw : Region.wanted o (yielded ops a.tmps) = true) (ho : o.op = .store t x y) (g : Nat) (hx : a.eval x = .pointer (some ⟨g, 0, none⟩)) (new : List Value) (hy : a.eval y = .agg new.toArray) (hn : new.length = n) (h1 : ∀ u ∈ new, u.oneCell' = true) (cur : List Value) (hc : cur.length = n) (hb : Blk w g t cur.toArray)
  (h : ∀ w', Blk w' g t new.toArray → Fr [g] w w' → w'.heap.size = w.heap.size → wpList P ops Q rest (a.put o.dst undef) w') : wpList P ops Q (o :: rest) a w :=
 wpList_want hw fun _ hK => wp_stS hT ho g 0 hx new hy hn h1 cur.toArray t (0, 0) hb (free_zero _) (by simp; omega) fun w' h1 h2 h3 => hK _ _ (h w' (by
  have e : (cur.toArray.toList.take 0 ++ new ++ cur.toArray.toList.drop (0 + new.length)).toArray = new.toArray := by
   rw [List.take_zero, List.nil_append, Nat.zero_add, List.drop_of_length_le (by rw [hn, ← hc]; exact Nat.le_refl _), List.append_nil]
  rw [e] at h1
  exact h1) h2 h3)
theorem wpList_alS (hT : StT P t n z) (hw : Region.wanted o (yielded ops a.tmps) = true) (ho : o.op = .alloc t)
  (h : ∀ w', Blk w' w.heap.size t z.toArray → Fr [] w w' → w'.heap.size = w.heap.size + 1 → wpList P ops Q rest (a.put o.dst (.pointer (some ⟨w.heap.size, 0, none⟩))) w') : wpList P ops Q (o :: rest) a w :=
 wpList_want hw fun _ hK => by
  refine wp_val (.pointer (some ⟨w.heap.size, 0, none⟩)) (w.alloc (.cells z.toArray t)) ?_ (hK _ _ (h _ (Blk.new _ _ _) ((Fr.refl _ _).alloc _) (by simp)))
  unfold execOp
  simp [ho, Instr.alloc, hT.zv, newVar, newRow, Value.cells]
theorem wpList_boxS {x : Operand} (hw : Region.wanted o (yielded ops a.tmps) = true) (ho : o.op = .box t x) (cs : List Value) (hx : a.eval x = .agg cs.toArray)
  (h : ∀ w', Blk w' w.heap.size t cs.toArray → Fr [] w w' → w'.heap.size = w.heap.size + 1 → wpList P ops Q rest (a.put o.dst (.pointer (some ⟨w.heap.size, 0, none⟩))) w') : wpList P ops Q (o :: rest) a w :=
 wpList_want hw fun _ hK => by
  refine wp_val (.pointer (some ⟨w.heap.size, 0, none⟩)) (w.alloc (.cells cs.toArray t)) ?_ (hK _ _ (h _ (Blk.new _ _ _) ((Fr.refl _ _).alloc _) (by simp)))
  unfold execOp
  simp [ho, hx, Instr.box, newVar, newRow, Value.cells]
theorem wpList_bld {ps : Array (Nat × Operand)} (hw : Region.wanted o (yielded ops a.tmps) = true) (ho : o.op = .build t ps) (v : Value) (hv : (Instr.build t (ps.map fun (i, x) => (i, a.eval x))).run P w = .ok v w)
  (h : wpList P ops Q rest (a.put o.dst v) w) : wpList P ops Q (o :: rest) a w :=
 wpList_want hw fun _ hK => by
  refine wp_val v w ?_ (hK _ _ h)
  unfold execOp
  simp only [ho, Sem.run_bind, Sem.run_pure, Result.andThen_ok, hv]
theorem run_eqS {op : BinOp} {x y : Operand} {xs ys : Array Value} (hT : StT P t n z) (ho : op = .eql ∨ op = .neq) (b : Bool) (he : (Op.equalIn 10000 t (.agg xs) (.agg ys)).run P w = .ok b w) :
  (do eqGuard op t x y (.agg xs) (.agg ys); binOp op t (.agg xs) (.agg ys) : Sem Value).run P w = .ok (.bool (if op = .eql then b else !b)) w := by
 rw [Sem.run_bind, run_eqGuard_agg w op t x y xs ys hT.eq, Result.andThen_ok]
 rcases ho with rfl | rfl
 ·rw [run_eql_struct, he]; rfl
 ·rw [run_neq_struct, he]; rfl
theorem part_one {d : TypeDesc} (hu : P.underlying t = some d) (hd : d.isRow = false) (xs : Array Value) (off : Nat) (v : Value) (hx : xs[off]? = some v) :
  (part t xs off).run P w = .ok v w := by
 cases d <;> simp_all [part, isAgg, run_underlying hu]
theorem eq_bytes {e : TypeId} (d : Nat) (hu : P.underlying t = some (.array n e)) (he : P.underlying e = some (.int .u8)) (hs : (P.info? e).map (·.size) = some 1) (a b : List UInt8) (ha : a.length = n) (hb : b.length = n) :
  (Op.equalIn (d + 2) t (.agg (bvs a).toArray) (.agg (bvs b).toArray)).run P w = .ok (a == b) w :=
 run_equalIn_bytes w d t e n hu he (fun w => by
  obtain ⟨i, hi, hsz⟩ := Option.map_eq_some_iff.1 hs
  simp [sizeOf, typeInfo, hi, hsz]) a b ha hb
theorem run_loadB (hT : StT P t n z) {g : Nat} {cs : List Value} (hn : cs.length = n) (hb : Blk w g t cs.toArray) : (loadVar t ⟨g, 0, none⟩).run P w = .ok (.agg cs.toArray) w := by
 obtain ⟨d, hu, hd⟩ := hT.und
 exact run_loadVar_mid w g 0 t cs d hb.range0 hu hd (by rw [hT.sz, hn])
theorem results_cell (hT : StT P t n z) {fn : Func} {p : Tmp} (hr : fn.results = #[.cell p t]) {tmps : Array Value} {g : Nat} {cs : List Value} (hv : tmps.getD p undef = .pointer (some ⟨g, 0, none⟩)) (hn : cs.length = n) (hb : Blk w g t cs.toArray) :
  (results fn tmps).run P w = .ok (.agg cs.toArray) w := by
 have hl := run_loadB hT hn hb
 have ha : (asAddr (.pointer (some ⟨g, 0, none⟩))).run P w = .ok ⟨g, 0, none⟩ w := rfl
 have hv' : tmps[p]?.getD undef = .pointer (some ⟨g, 0, none⟩) := by simpa using hv
 simp [results, hr, hv', ha, hl]
theorem results_cell2 (hT : StT P t n z) {fn : Func} {p q : Tmp} (hr : fn.results = #[.cell p t, .tmp q]) {tmps : Array Value} {g : Nat} {cs : List Value} (hv : tmps.getD p undef = .pointer (some ⟨g, 0, none⟩)) (hn : cs.length = n) (hb : Blk w g t cs.toArray) :
  (results fn tmps).run P w = .ok (.tuple #[.agg cs.toArray, tmps.getD q undef]) w := by
 have hl := run_loadB hT hn hb
 have ha : (asAddr (.pointer (some ⟨g, 0, none⟩))).run P w = .ok ⟨g, 0, none⟩ w := rfl
 have hv' : tmps[p]?.getD undef = .pointer (some ⟨g, 0, none⟩) := by simpa using hv
 simp [results, hr, hv', ha, hl]
theorem run_bs {ts : TypeId} (hT : StT P t n z) (ht : P.underlying ts = some (.slice t)) (hpos : 0 < n) (vs : List Value) (hv : ∀ v ∈ vs, v.cells.size = n) (hne : 0 < vs.length) (hsm : vs.length * n ≤ 2 ^ 24) :
  (Instr.buildSlice ts vs.length ((vs.zipIdx 0).map fun x => (x.2, x.1)).toArray).run P w = .ok (.slice (some ⟨w.heap.size, 0, none⟩) vs.length vs.length) (w.alloc (.cells (vs.flatMap fun v => v.cells.toList).toArray t)) := by
 obtain ⟨i, hi, hs⟩ := Option.map_eq_some_iff.1 hT.sz
 have h0 : ¬ (vs.length * n = 0) := by
  intro h
  rcases Nat.mul_eq_zero.1 h with h | h <;> omega
 have hbig : ¬ (2 ^ 24 < vs.length * n) := by omega
 have hf := Great.fill_whole hpos vs ((Array.range (vs.length * n)).map ((Value.agg z.toArray).cells[· % (Value.agg z.toArray).cells.size]!)) hv (by simp)
 unfold Instr.buildSlice
 simp only [Sem.run_bind, run_underlying ht, Result.andThen_ok, sizeOf, typeInfo, run_program, hi, Sem.run_pure, hs, gt_iff_lt, hbig, if_false, h0, hT.zv, hf, newRow, newObj]
 rfl
theorem wpList_bs1 {ts : TypeId} {x : Operand} (hT : StT P t n z) (ht : P.underlying ts = some (.slice t)) (hpos : 0 < n) (hsm : n ≤ 2 ^ 24) (hw : Region.wanted o (yielded ops a.tmps) = true) (ho : o.op = .buildSlice ts 1 #[(0, x)]) (cs : List Value) (hx : a.eval x = .agg cs.toArray) (hn : cs.length = n)
  (h : ∀ w', Blk w' w.heap.size t cs.toArray → Fr [] w w' → w'.heap.size = w.heap.size + 1 → wpList P ops Q rest (a.put o.dst (.slice (some ⟨w.heap.size, 0, none⟩) 1 1)) w') : wpList P ops Q (o :: rest) a w :=
 wpList_want hw fun _ hK => by
  refine wp_val (.slice (some ⟨w.heap.size, 0, none⟩) 1 1) (w.alloc (.cells cs.toArray t)) ?_ (hK _ _ (h _ (Blk.new _ _ _) ((Fr.refl _ _).alloc _) (by simp)))
  have hr := run_bs (w := w) hT ht hpos [.agg cs.toArray] (by intro v hv; rw [List.mem_singleton.1 hv]; simpa [Value.cells] using hn) (by simp) (by simpa using hsm)
  have e1 : ([Value.agg cs.toArray].flatMap fun v => v.cells.toList).toArray = cs.toArray := by simp [Value.cells]
  rw [e1] at hr
  unfold execOp
  simp only [ho, Sem.run_bind, Sem.run_pure, Result.andThen_ok]
  have e2 : (#[((0 : Nat), x)].map fun (i, x) => (i, a.eval x)) = (([Value.agg cs.toArray].zipIdx 0).map fun x => (x.2, x.1)).toArray := by simp [hx]
  rw [e2]
  show ((Instr.buildSlice ts [Value.agg cs.toArray].length _).run P w).andThen _ = _
  rw [hr]
  rfl
end
end
section
section
variable {P : Program} {ops : Array Oper} {Q : Exit → Act → World → Prop} {S : World → Prop}
theorem take_w {md : Region.Mode} (i : Nat) (d : Option Tmp) {oi : Oper} {v : Value} {fuel : Nat} {listed : Array Bool} {tm : Array Value} {df : List _} {w : World} (hi : ops[i]? = some oi) (hd : oi.dst = d)
  (hs : Region.noSelect ops = true) (hf : Region.free md ops listed i = true) (hr : (Region.ready md ops listed).contains i = true)
  (hQ : ∀ c a w, Q (.panic c) (a.put oi.dst v) w → Q (.panic c) a w) (hw : Region.wanted oi (yielded ops tm) = true)
  (hy : ∀ w, S w → (execOp (Act.eval ⟨tm, df⟩) oi).run P w = .ok (.value v) w) (hS : S w)
  (h : wpAnyH P md ops Q S fuel (listed.setIfInBounds i true) ((⟨tm, df⟩ : Act).put d v) w) : wpAnyH P md ops Q S (fuel + 1) listed ⟨tm, df⟩ w := by
 subst hd
 exact wpAnyH_take hi hs hf hr hQ (.inl ⟨hw, hy⟩) hS h
theorem take_u {md : Region.Mode} (i : Nat) (d : Option Tmp) {oi : Oper} {fuel : Nat} {listed : Array Bool} {tm : Array Value} {df : List _} {w : World} (hi : ops[i]? = some oi) (hd : oi.dst = d)
  (hs : Region.noSelect ops = true) (hf : Region.free md ops listed i = true) (hr : (Region.ready md ops listed).contains i = true)
  (hQ : ∀ c a w, Q (.panic c) (a.put oi.dst undef) w → Q (.panic c) a w) (hw : Region.wanted oi (yielded ops tm) = false) (hS : S w)
  (h : wpAnyH P md ops Q S fuel (listed.setIfInBounds i true) ((⟨tm, df⟩ : Act).put d undef) w) : wpAnyH P md ops Q S (fuel + 1) listed ⟨tm, df⟩ w := by
 subst hd
 exact wpAnyH_take hi hs hf hr hQ (.inr ⟨hw, rfl⟩) hS h
theorem take_c {md : Region.Mode} (i : Nat) {oi : Oper} {fuel : Nat} {listed : Array Bool} {a : Act} {w : World} (hi : ops[i]? = some oi) (hr : Region.ready md ops listed = [i])
  (hw : Region.wanted oi (yielded ops a.tmps) = true)
  (h : ∀ K' : Act → World → Prop, Shut (∀ a w, S w → (S w → wpAnyH P md ops Q S fuel (listed.setIfInBounds i true) a w) → K' a w) → Oper.wp P oi a w K' Q) : wpAnyH P md ops Q S (fuel + 1) listed a w :=
 wpAnyH_ready hr (by simp) (AllReadyH.cons hi (fun K' hK => by rw [if_pos hw]; exact h K' hK) AllReadyH.nil)
theorem take_cd {md : Region.Mode} (i : Nat) (d : Option Tmp) {oi : Oper} {fuel : Nat} {listed : Array Bool} {tm : Array Value} {df : List _} {w : World} (hi : ops[i]? = some oi) (hd : oi.dst = d) (hr : Region.ready md ops listed = [i])
  (hw : Region.wanted oi (yielded ops tm) = true)
  (h : ∀ K' : Act → World → Prop, (∀ v w', S w' → (S w' → wpAnyH P md ops Q S fuel (listed.setIfInBounds i true) ((⟨tm, df⟩ : Act).put d v) w') → K' ((⟨tm, df⟩ : Act).put oi.dst v) w') → Oper.wp P oi ⟨tm, df⟩ w K' Q) : wpAnyH P md ops Q S (fuel + 1) listed ⟨tm, df⟩ w :=
 take_c i hi hr hw fun K' hK => h K' fun v w' hS hW => hK.out _ _ hS (by rw [hd]; exact hW)
theorem tw {md : Region.Mode} (i d : Nat) {oi : Oper} {v : Value} {fuel : Nat} {listed : Array Bool} {tm : Array Value} {df : List _} {w : World} {a : Act} (hS : S w)
  (h : wpAnyH P md ops Q S fuel (listed.setIfInBounds i true) a w) (hi : ops[i]? = some oi := by exact rfl) (hd : oi.dst = some d := by exact rfl)
  (hs : Region.noSelect ops = true := by kernel_rfl) (hf : Region.free md ops listed i = true := by kernel_rfl) (hr : (Region.ready md ops listed).contains i = true := by kernel_rfl)
  (hQ : ∀ c a w, Q (.panic c) (a.put oi.dst v) w → Q (.panic c) a w := by exact fun _ _ _ h => h) (hw : Region.wanted oi (yielded ops tm) = true := by rfl)
  (hy : ∀ w, S w → (execOp (Act.eval ⟨tm, df⟩) oi).run P w = .ok (.value v) w := by (intro w hSw; (try dsimp only at hSw); go_simp; try with_reducible rfl))
  (ha : (⟨tm, df⟩ : Act).put (some d) v = a := by (simp only [Act.put, List.setIfInBounds_toArray, List.set_cons_zero, List.set_cons_succ]; try exact rfl)) : wpAnyH P md ops Q S (fuel + 1) listed ⟨tm, df⟩ w :=
 take_w i (some d) hi hd hs hf hr hQ hw hy hS (ha ▸ h)
theorem tu {md : Region.Mode} (i d : Nat) {oi : Oper} {fuel : Nat} {listed : Array Bool} {tm : Array Value} {df : List _} {w : World} {a : Act} (hS : S w)
  (h : wpAnyH P md ops Q S fuel (listed.setIfInBounds i true) a w) (hi : ops[i]? = some oi := by exact rfl) (hd : oi.dst = some d := by exact rfl)
  (hs : Region.noSelect ops = true := by kernel_rfl) (hf : Region.free md ops listed i = true := by kernel_rfl) (hr : (Region.ready md ops listed).contains i = true := by kernel_rfl)
  (hQ : ∀ c a w, Q (.panic c) (a.put oi.dst undef) w → Q (.panic c) a w := by exact fun _ _ _ h => h) (hw : Region.wanted oi (yielded ops tm) = false := by rfl)
  (ha : (⟨tm, df⟩ : Act).put (some d) undef = a := by (simp only [Act.put, List.setIfInBounds_toArray, List.set_cons_zero, List.set_cons_succ]; try exact rfl)) : wpAnyH P md ops Q S (fuel + 1) listed ⟨tm, df⟩ w :=
 take_u i (some d) hi hd hs hf hr hQ hw hS (ha ▸ h)
theorem tc {md : Region.Mode} (i : Nat) {oi : Oper} {fuel : Nat} {listed : Array Bool} {a : Act} {w : World}
  (h : ∀ K' : Act → World → Prop, Shut (∀ a w, S w → (S w → wpAnyH P md ops Q S fuel (listed.setIfInBounds i true) a w) → K' a w) → Oper.wp P oi a w K' Q)
  (hi : ops[i]? = some oi := by exact rfl) (hr : Region.ready md ops listed = [i] := by kernel_rfl) (hw : Region.wanted oi (yielded ops a.tmps) = true := by rfl) : wpAnyH P md ops Q S (fuel + 1) listed a w :=
 take_c i hi hr hw h
theorem tcd {md : Region.Mode} (i : Nat) (d : Option Tmp) {oi : Oper} {fuel : Nat} {listed : Array Bool} {tm : Array Value} {df : List _} {w : World}
  (h : ∀ K' : Act → World → Prop, (∀ v w', S w' → (S w' → wpAnyH P md ops Q S fuel (listed.setIfInBounds i true) ((⟨tm, df⟩ : Act).put d v) w') → K' ((⟨tm, df⟩ : Act).put oi.dst v) w') → Oper.wp P oi ⟨tm, df⟩ w K' Q)
  (hi : ops[i]? = some oi := by exact rfl) (hd : oi.dst = d := by exact rfl) (hr : Region.ready md ops listed = [i] := by kernel_rfl) (hw : Region.wanted oi (yielded ops tm) = true := by rfl) : wpAnyH P md ops Q S (fuel + 1) listed ⟨tm, df⟩ w :=
 take_cd i d hi hd hr hw h
theorem p1 {α : Type} {l : List α} {i : Nat} {a : α} : l.toArray.setIfInBounds i a = (l.set i a).toArray := List.setIfInBounds_toArray ..
theorem p2 {α : Type} {x a : α} {l : List α} : (x :: l).set 0 a = a :: l := rfl
theorem p3 {α : Type} {x a : α} {l : List α} {n : Nat} : (x :: l).set (n + 1) a = x :: l.set n a := rfl
end
end
section
open Go.RowKit
theorem Blk.keep_nil {w w' : World} {g : Nat} {t : TypeId} {cs : Array Value} (h : Blk w g t cs) (hf : Fr [] w w') : Blk w' g t cs := h.keep hf (by simp)
theorem rangeAt_keep {w w' : World} {g o : Nat} {cs : List Value} (h : w.rangeAt g o cs) {F : List Nat} (hf : Fr F w w') (hn : g ∉ F) : w'.rangeAt g o cs := fun j u hu => hf.cell (p := ⟨g, o + j, none⟩) hn (h j u hu)
theorem Rd.mark (w : World) (xs : List UInt8) (t : TypeId) (fz : Nat × Nat) : Rd (w.alloc (.cells (bvs xs).toArray t fz)) (some ⟨w.heap.size, 0, none⟩) (bvs xs) := fun _ =>
 ⟨w.heap.size, 0, rfl, fun j u hu => by rw [cell_of_row _ _ _ _ _ _ (heap_alloc_new w _), Nat.zero_add]; simpa using hu⟩
section
variable {P : Program} {o : Oper} {a : Act} {w : World} {t : TypeId} {n : Nat} {z : List Value}
theorem hy_ld {x : Operand} (hT : StT P t n z) (ho : o.op = .load t x) (g off : Nat) (hx : a.eval x = .pointer (some ⟨g, off, none⟩)) (cs : List Value) (hn : cs.length = n) (hc : w.rangeAt g off cs) : (execOp a.eval o).run P w = .ok (.value (.agg cs.toArray)) w := by
 obtain ⟨d, hu, hd⟩ := hT.und
 unfold execOp
 simp only [ho, hx, Instr.loadAt, Instr.sureAddr, Sem.run_bind, Sem.run_pure, Result.andThen_ok, run_loadVar_mid w g off t cs d hc hu hd (by rw [hT.sz, hn])]
theorem hy_eq {op : BinOp} {x y : Operand} {ty : TypeId} {xs ys : Array Value} (hT : StT P t n z) (ho : o.op = .binOp op t x y ty) (hop : op = .eql ∨ op = .neq) (hx : a.eval x = .agg xs) (hy : a.eval y = .agg ys) (b : Bool) (he : (Op.equalIn 10000 t (.agg xs) (.agg ys)).run P w = .ok b w) : (execOp a.eval o).run P w = .ok (.value (.bool (if op = .eql then b else !b))) w := by
 have := run_eqS (x := x) (y := y) hT hop b he
 rw [Sem.run_bind] at this
 unfold execOp
 simp only [ho, hx, hy, Sem.run_bind, Sem.run_pure, this, Result.andThen_ok]
end
section
theorem hy_bld {P : Program} {o : Oper} {a : Act} {w : World} {t : TypeId} {ps : Array (Nat × Operand)} {ps' : Array (Nat × Value)} (ho : o.op = .build t ps) (he : (ps.map fun (i, x) => (i, a.eval x)) = ps') (v : Value) (hv : (Instr.build t ps').run P w = .ok v w) : (execOp a.eval o).run P w = .ok (.value v) w := by
 unfold execOp
 simp only [ho, he, Sem.run_bind, Sem.run_pure, Result.andThen_ok, hv]
variable {P : Program} {o : Oper} {a : Act} {w : World} {K : Act → World → Prop} {Q : Exit → Act → World → Prop} {t : TypeId} {n : Nat} {z : List Value}
theorem wp_alS (hT : StT P t n z) (ho : o.op = .alloc t)
  (h : ∀ w', Blk w' w.heap.size t z.toArray → Fr [] w w' → w'.heap.size = w.heap.size + 1 → K (a.put o.dst (.pointer (some ⟨w.heap.size, 0, none⟩))) w') : o.wp P a w K Q := by
 refine wp_val (.pointer (some ⟨w.heap.size, 0, none⟩)) (w.alloc (.cells z.toArray t)) ?_ (h _ (Blk.new _ _ _) ((Fr.refl _ _).alloc _) (by simp))
 unfold execOp
 simp [ho, Instr.alloc, hT.zv, newVar, newRow, Value.cells]
theorem wp_stB {x y : Operand} (hT : StT P t n z) (ho : o.op = .store t x y) (g : Nat) (hx : a.eval x = .pointer (some ⟨g, 0, none⟩)) (new : List Value) (hy : a.eval y = .agg new.toArray) (hn : new.length = n) (h1 : ∀ u ∈ new, u.oneCell' = true) (cur : List Value) (hc : cur.length = n) (hb : Blk w g t cur.toArray)
  (h : ∀ w', Blk w' g t new.toArray → Fr [g] w w' → w'.heap.size = w.heap.size → K (a.put o.dst undef) w') : o.wp P a w K Q :=
 wp_stS hT ho g 0 hx new hy hn h1 cur.toArray t (0, 0) hb (free_zero _) (by simp; omega) fun w' h1 h2 h3 => h w' (by
  have e : (cur.toArray.toList.take 0 ++ new ++ cur.toArray.toList.drop (0 + new.length)).toArray = new.toArray := by
   rw [List.take_zero, List.nil_append, Nat.zero_add, List.drop_of_length_le (by rw [hn, ← hc]; exact Nat.le_refl _), List.append_nil]
  rw [e] at h1
  exact h1) h2 h3
end
section
variable {P : Program} {ops : Array Oper} {Q : Exit → Act → World → Prop} {S : World → Prop}
theorem take_2 {md : Region.Mode} (i j : Nat) (di dj : Option Tmp) {oi oj : Oper} {fuel : Nat} {listed : Array Bool} {tm : Array Value} {df : List _} {w : World} (hi : ops[i]? = some oi) (hj : ops[j]? = some oj) (hdi : oi.dst = di) (hdj : oj.dst = dj) (hr : Region.ready md ops listed = [i, j])
  (hwi : Region.wanted oi (yielded ops tm) = true) (hwj : Region.wanted oj (yielded ops tm) = true)
  (h1 : ∀ K' : Act → World → Prop, (∀ v w', S w' → (S w' → wpAnyH P md ops Q S fuel (listed.setIfInBounds i true) ((⟨tm, df⟩ : Act).put di v) w') → K' ((⟨tm, df⟩ : Act).put oi.dst v) w') → Oper.wp P oi ⟨tm, df⟩ w K' Q)
  (h2 : ∀ K' : Act → World → Prop, (∀ v w', S w' → (S w' → wpAnyH P md ops Q S fuel (listed.setIfInBounds j true) ((⟨tm, df⟩ : Act).put dj v) w') → K' ((⟨tm, df⟩ : Act).put oj.dst v) w') → Oper.wp P oj ⟨tm, df⟩ w K' Q) : wpAnyH P md ops Q S (fuel + 1) listed ⟨tm, df⟩ w :=
 wpAnyH_ready hr (by simp) (AllReadyH.cons hi (fun K' hK => by rw [if_pos hwi]; exact h1 K' fun v w' hS hW => hK.out _ _ hS (by rw [hdi]; exact hW))
  (AllReadyH.cons hj (fun K' hK => by rw [if_pos hwj]; exact h2 K' fun v w' hS hW => hK.out _ _ hS (by rw [hdj]; exact hW)) AllReadyH.nil))
end
theorem wp_st1 {P : Program} {o : Oper} {a : Act} {w : World} {K : Act → World → Prop} {Q : Exit → Act → World → Prop} {ty : TypeId} {x y : Operand} (ho : o.op = .store ty x y) (hsz : (P.info? ty).map (·.size) = some 1) (g i : Nat) (hx : a.eval x = .pointer (some ⟨g, i, none⟩)) (v : Value) (hy : a.eval y = v) (hv : v.cells = #[v]) (h1 : v.oneCell' = true)
  {old : Value} (hc : w.cell? ⟨g, i, none⟩ = some old) (hz : w.frozen? ⟨g, i, none⟩ = false) (h : K (a.put o.dst undef) (w.setCell ⟨g, i, none⟩ v)) : o.wp P a w K Q := by
 obtain ⟨j, hj, hs⟩ := Option.map_eq_some_iff.1 hsz
 have hst : (store ((⟨g, i, none⟩ : Addr).add 0) v).run P w = .ok () (w.setCell ⟨g, i, none⟩ v) := by
  rw [addr_add, run_store P w _ v _ h1, Nat.add_zero, hc]
  simp [hz]
 have hat : (Instr.storeAt ty (.pointer (some ⟨g, i, none⟩)) v).run P w = .ok () (w.setCell ⟨g, i, none⟩ v) := by
  simp only [Instr.storeAt, Instr.sureAddr, Sem.run_bind, Sem.run_pure, Result.andThen_ok]
  simp [storeVar, sizeOf, typeInfo, hj, hs, hv, storeCells, hst]
 unfold Oper.wp execOp
 simp only [ho, hx, hy, Sem.run_bind, Sem.run_pure, Result.andThen_ok, hat]
 exact h
theorem wpList_ix1 {P : Program} {ops : Array Oper} {rest : List Oper} {o : Oper} {a : Act} {w : World} {Q : Exit → Act → World → Prop} {t e : TypeId} {n : Nat} {d : TypeDesc} {x y : Operand} (hu : P.underlying t = some (.array n e)) (he : P.underlying e = some d) (hd : d.isRow = false) (hsz : (P.info? e).map (·.size) = some 1)
  (hw : Region.wanted o (yielded ops a.tmps) = true) (ho : o.op = .index t x y) (cs : Array Value) (hx : a.eval x = .agg cs) (k : IntKind) (i : Nat) (hy : a.eval y = .int k (i : Int)) (hi : i < n) (v : Value) (hv : cs[i]? = some v)
  (h : wpList P ops Q rest (a.put o.dst v) w) : wpList P ops Q (o :: rest) a w :=
 wpList_want hw fun _ hK => by
  refine wp_val v w ?_ (hK _ _ h)
  obtain ⟨j, hj, hs⟩ := Option.map_eq_some_iff.1 hsz
  have hp : (part e cs i).run P w = .ok v w := part_one he hd cs i v hv
  have h2 : (0 : Int) ≤ (i : Int) ∧ (i : Int) < (n : Int) := by omega
  unfold execOp
  simp only [ho, hx, hy, Sem.run_bind, Sem.run_pure, Result.andThen_ok]
  simp [Instr.index, asIntOf, run_underlying hu, h2, sizeOf, typeInfo, hj, hs, hp]
  intro hge
  omega
theorem wpList_bldK {P : Program} {ops : Array Oper} {rest : List Oper} {o : Oper} {a : Act} {w : World} {Q : Exit → Act → World → Prop} {t : TypeId} {ps : Array (Nat × Operand)} (hw : Region.wanted o (yielded ops a.tmps) = true) (ho : o.op = .build t ps) (ps' : Array (Nat × Value)) (he : (ps.map fun (i, x) => (i, a.eval x)) = ps') (v : Value) (hv : (Instr.build t ps').run P w = .ok v w)
  (h : wpList P ops Q rest (a.put o.dst v) w) : wpList P ops Q (o :: rest) a w :=
 wpList_bld hw ho v (by rw [he]; exact hv) h
theorem wp_ld1 {P : Program} {o : Oper} {a : Act} {w : World} {K : Act → World → Prop} {Q : Exit → Act → World → Prop} {ty : TypeId} {d : TypeDesc} {x : Operand} (hu : P.underlying ty = some d) (hd : d.isRow = false) (ho : o.op = .load ty x) (g i : Nat) (hx : a.eval x = .pointer (some ⟨g, i, none⟩)) (v : Value) (hc : w.cell? ⟨g, i, none⟩ = some v)
  (h : K (a.put o.dst v) w) : o.wp P a w K Q := by
 have hl : (loadVar ty ⟨g, i, none⟩).run P w = .ok v w := by
  have ha : (isAgg ty).run P w = .ok false w := by cases d <;> simp_all [isAgg, run_underlying hu]
  simp [loadVar, ha, hc]
 refine wp_val v w ?_ h
 unfold execOp
 simp only [ho, hx, Instr.loadAt, Instr.sureAddr, Sem.run_bind, Sem.run_pure, Result.andThen_ok, hl]
end
section
open Go.RowKit
theorem slB : SlT Tryz.prog 27 5 1 1 (.int .u8 0) := ⟨Tryz.underlying27, by kernel_rfl, rfl, by decide, by decide⟩
theorem clone_any (A : Option Addr) (l : List UInt8) (n c : Nat) (w : World) (hn : l.length = n) (hr : Rd w A (bvs l)) (hA : A = none → n = 0) (hl : n ≤ 140737488355328) :
  Calls Tryz.prog 58 #[.slice A n c] w fun e w' => ∃ v, e = .returned v ∧ Row w' w.heap.size 5 1 v n (bvs l) ∧ Fr [] w w' := by
 subst hn
 have qT : ∀ (w : World) (a : Option Addr) (n c n' c' : Nat), (binOp .eql 27 (.slice a n c) (.slice none n' c')).run Tryz.prog w = .ok (.bool a.isNone) w :=
  fun w a n c n' c' => Lib.run_eql_slice_nil w _ _ a n c n' c' Tryz.underlying27
 cases A with
 | none =>
  obtain rfl : l = [] := List.eq_nil_of_length_eq_zero (hA rfl)
  go_enter Tryz.func58, Tryz.ntmps58
  go_wp2
  go_ret
  exact ⟨_, rfl, Row.nil _ _ _ _, Fr.refl _ _⟩
 | some ad =>
  go_enter Tryz.func58, Tryz.ntmps58
  go_wp2_with (at_builtin; refine wpList_app rfl rfl slB w.heap.size _ 0 [] rfl (Row.new w #[] 5 1 0 (0, 0) (free_zero _) (by unfold maxLen; omega) rfl (Nat.le_refl _)) (some ad) l.length c (bvs l) rfl (by simp [bvs]) (hr.alloc _) (bvs_one l) (fun h => by cases h) (by omega) (by simp) ?_; intro v1 w1 h1 h2 h3 h4)
  go_ret
  refine ⟨_, rfl, by simpa using h1, ?_⟩
  exact ((Fr.refl [] w).alloc _).trans h2 (fun i hi => .inr (by rw [own_mem.1 hi]; exact Nat.le_refl _))
def allZ (l : List UInt8) : Bool := l.all (· == 0)
def nzI (l : List UInt8) : Int := if allZ l then -1 else (l.findIdx (· != 0) : Nat)
theorem nzI_ge (l : List UInt8) : decide (0 ≤ nzI l) = !allZ l := by
 unfold nzI
 cases allZ l <;> simp
theorem allZ_take_succ (l : List UInt8) (k : Nat) (h : k < l.length) : allZ (l.take (k + 1)) = (allZ (l.take k) && (l[k] == 0)) := by
 unfold allZ
 rw [List.take_succ_eq_append_getElem h, List.all_append]; simp only [List.all_cons, List.all_nil, Bool.and_true]
theorem nzI_at (l : List UInt8) (k : Nat) (h : k < l.length) (h0 : allZ (l.take k) = true) (h1 : l[k] ≠ 0) : nzI l = k := by
 have hz : allZ l = false := by
  unfold allZ
  rw [List.all_eq_false]
  exact ⟨l[k], List.getElem_mem h, by simpa using h1⟩
 unfold nzI
 rw [hz, if_neg (by simp)]
 congr 1
 rw [List.findIdx_eq h]
 refine ⟨by simpa using h1, fun j hj => ?_⟩
 unfold allZ at h0
 rw [List.all_eq_true] at h0
 have hl : j < (l.take k).length := by rw [List.length_take]; omega
 have := h0 (l.take k)[j] (List.getElem_mem hl)
 rw [List.getElem_take] at this
 simp only [beq_iff_eq] at this
 simp [this]
theorem Rd.byte {w : World} {A : Option Addr} {l : List UInt8} (hr : Rd w A (bvs l)) {k : Nat} (hk : k < l.length) : ∃ g o, A = some ⟨g, o, none⟩ ∧ ∀ j (hj : j < l.length), w.cell? ⟨g, o + j, none⟩ = some (.int .u8 (l[j].toNat : Int)) := by
 obtain ⟨g, o, e, hc⟩ := hr (by intro h; have := congrArg List.length h; rw [bvs_length, List.length_nil] at this; omega)
 exact ⟨g, o, e, fun j hj => hc j _ (by simp [bvs, hj, bv])⟩
theorem u8_ne {x : UInt8} (h : x ≠ 0) : ((x.toNat : Int) != 0) = true := by
 rw [bne_iff_ne]; intro h'; exact h (UInt8.toNat_inj.1 (by simpa using h'))
set_option maxHeartbeats 400000 in
theorem indexB_any (A : Option Addr) (l : List UInt8) (c : Nat) (w : World) (hr : Rd w A (bvs l)) (hl : l.length ≤ 140737488355328) :
  Calls Tryz.prog 237 #[.slice A l.length c, .func (.func 235) #[] #[]] w fun e w' => e = .returned (.int .i64 (nzI l)) ∧ w = w' := by
 go_enter Tryz.func237, Tryz.ntmps237
 go_wp2
 go_loop [8] (fun i => ∃ k : Nat, k ≤ l.length ∧ i = .int .i64 k ∧ allZ (l.take k) = true) (fun i => l.length - (intOf i).toNat)
 case atStart => exact ⟨0, Nat.zero_le _, rfl, rfl⟩
 case round =>
  obtain ⟨k, hk, rfl, hz⟩ := hrel
  have Hz := Lib.hid hz
  clear hz
  by_cases hlt : k < l.length
  ·obtain ⟨g, o, rfl, hc⟩ := hr.byte hlt
   have hck := hc k hlt
   clear hc
   by_cases h0 : l[k] = 0
   ·have ht := allZ_take_succ l k hlt
    have Ht : Hid (allZ (l.take (k + 1)) = true) := by rw [Hid, ht, Hz.out, h0]; rfl
    clear ht
    rw [h0] at hck
    clear h0
    go_wp2
    go_round
    case rel => exact ⟨k + 1, by omega, by go_num, Ht.out⟩
    case measure => simp [intOf]; omega
   ·have e := nzI_at l k hlt Hz.out h0
    have H := Lib.hid e
    have h1 := u8_ne h0
    clear e
    go_wp2
    go_ret
    exact ⟨by rw [H.out]; rfl, rfl⟩
  ·have hk' : k = l.length := by omega
   have e : nzI l = -1 := by
    have h1 := Hz.out
    rw [hk', List.take_length] at h1
    unfold nzI; rw [h1]; rfl
   have H := Lib.hid e
   clear e hk'
   go_wp2
   go_ret
   exact ⟨by rw [H.out]; rfl, rfl⟩
theorem containsB_any (A : Option Addr) (l : List UInt8) (c : Nat) (w : World) (hr : Rd w A (bvs l)) (hl : l.length ≤ 140737488355328) :
  Calls Tryz.prog 234 #[.slice A l.length c, .func (.func 235) #[] #[]] w fun e w' => e = .returned (.bool (!allZ l)) ∧ w = w' := by
 have H := Lib.hid (nzI_ge l)
 go_enter Tryz.func234, Tryz.ntmps234
 go_wp2_with (go_at_call 237; refine (indexB_any _ _ _ _ hr hl).mono ?_; rintro e w' ⟨rfl, rfl⟩)
 go_ret
 exact ⟨by rw [← H.out]; rfl, rfl⟩
theorem zeros_any (A : Option Addr) (l : List UInt8) (c : Nat) (w : World) (hr : Rd w A (bvs l)) (hl : l.length ≤ 140737488355328) :
  Calls Tryz.prog 226 #[.slice A l.length c] w fun e w' => e = .returned (.bool (allZ l)) ∧ w = w' := by
 go_enter Tryz.func226, Tryz.ntmps226
 go_wp2_with (go_at_call 234; refine (containsB_any _ _ _ _ hr hl).mono ?_; rintro e w' ⟨rfl, rfl⟩)
 go_ret
 exact ⟨by simp, rfl⟩
end
end Go.Proofs.YtbanogfljpkbkaaGreatDoor
