/-
  Memory words, the third text: structs in regions that draw their order; one of two operations; blocks and ranges that stay. No program of the seat is named here.
-/
import Derived.Test.YtdhhnioklbnicaaBig
import Derived.Test.YtdhhnioklbnicaaReg
set_option linter.unusedSimpArgs false
set_option linter.unusedVariables false
set_option linter.unnecessarySimpa false
namespace Go.Proofs.Ytdhhnioklbnicaa
open Go.RowKit

theorem Blk.keep_nil {w w' : World} {g : Nat} {t : TypeId} {cs : Array Value} (h : Blk w g t cs) (hf : Fr [] w w') : Blk w' g t cs := h.keep hf (by simp)
theorem rangeAt_keep {w w' : World} {g o : Nat} {cs : List Value} (h : w.rangeAt g o cs) {F : List Nat} (hf : Fr F w w') (hn : g ∉ F) : w'.rangeAt g o cs := fun j u hu => hf.cell (p := ⟨g, o + j, none⟩) hn (h j u hu)
/-- The const bytes '[]byte("..")'. -/
theorem Rd.mark (w : World) (xs : List UInt8) (t : TypeId) (fz : Nat × Nat) : Rd (w.alloc (.cells (bvs xs).toArray t fz)) (some ⟨w.heap.size, 0, none⟩) (bvs xs) := fun _ =>
  ⟨w.heap.size, 0, rfl, fun j u hu => by rw [cell_of_row _ _ _ _ _ _ (heap_alloc_new w _), Nat.zero_add]; simpa using hu⟩

section
variable {P : Program} {o : Oper} {a : Act} {w : World} {t : TypeId} {n : Nat} {z : List Value}
theorem hy_ld {x : Operand} (hT : StT P t n z) (ho : o.op = .load t x) (g off : Nat) (hx : a.eval x = .pointer (some ⟨g, off, none⟩)) (cs : List Value) (hn : cs.length = n) (hc : w.rangeAt g off cs) : (execOp a.eval o).run P w = .ok (.value (.agg cs.toArray)) w := by
  obtain ⟨d, hu, hd⟩ := hT.und
  unfold execOp
  simp only [ho, hx, Instr.loadAt, Instr.sureAddr, Sem.run_bind, Sem.run_pure, Result.andThen_ok, run_loadVar_mid w g off t cs d hc hu hd (by rw [hT.sz, hn])]
theorem hy_eq {op : BinOp} {x y : Operand} {ty : TypeId} {xs ys : Array Value} (hT : StT P t n z) (ho : o.op = .binOp op t x y ty) (hop : op = .eql ∨ op = .neq) (hx : a.eval x = .agg xs) (hy : a.eval y = .agg ys) (b : Bool) (he : (Op.equalIn 10000 t (.agg xs) (.agg ys)).run P w = .ok b w) : (execOp a.eval o).run P w = .ok (.value (.bool (if op = .eql then b else !b))) w := by
  have := run_eqS (x := x) (y := y) hT hop b he
  rw [Sem.run_bind] at this
  unfold execOp
  simp only [ho, hx, hy, Sem.run_bind, Sem.run_pure, this, Result.andThen_ok]
theorem hy_ne {x y : Operand} {ty : TypeId} {xs ys : Array Value} (hT : StT P t n z) (ho : o.op = .binOp .neq t x y ty) (hx : a.eval x = .agg xs) (hy : a.eval y = .agg ys) (he : (Op.equalIn 10000 t (.agg xs) (.agg ys)).run P w = .ok true w) : (execOp a.eval o).run P w = .ok (.value (.bool false)) w := hy_eq hT ho (.inr rfl) hx hy true he
end

section
theorem hy_bld {P : Program} {o : Oper} {a : Act} {w : World} {t : TypeId} {ps : Array (Nat × Operand)} {ps' : Array (Nat × Value)} (ho : o.op = .build t ps) (he : (ps.map fun (i, x) => (i, a.eval x)) = ps') (v : Value) (hv : (Instr.build t ps').run P w = .ok v w) : (execOp a.eval o).run P w = .ok (.value v) w := by
  unfold execOp
  simp only [ho, he, Sem.run_bind, Sem.run_pure, Result.andThen_ok, hv]
variable {P : Program} {o : Oper} {a : Act} {w : World} {K : Act → World → Prop} {Q : Exit → Act → World → Prop} {t : TypeId} {n : Nat} {z : List Value}
theorem wp_alS (hT : StT P t n z) (ho : o.op = .alloc t)
    (h : ∀ w', Blk w' w.heap.size t z.toArray → Fr [] w w' → w'.heap.size = w.heap.size + 1 → K (a.put o.dst (.pointer (some ⟨w.heap.size, 0, none⟩))) w') : o.wp P a w K Q := by
  refine wp_val (.pointer (some ⟨w.heap.size, 0, none⟩)) (w.alloc (.cells z.toArray t)) ?_ (h _ (Blk.new _ _ _) ((Fr.refl _ _).alloc _) (by simp))
  unfold execOp
  simp [ho, Instr.alloc, hT.zv, newVar, newRow, Value.cells]
theorem wp_stB {x y : Operand} (hT : StT P t n z) (ho : o.op = .store t x y) (g : Nat) (hx : a.eval x = .pointer (some ⟨g, 0, none⟩)) (new : List Value) (hy : a.eval y = .agg new.toArray) (hn : new.length = n) (h1 : ∀ u ∈ new, u.oneCell' = true) (cur : List Value) (hc : cur.length = n) (hb : Blk w g t cur.toArray)
    (h : ∀ w', Blk w' g t new.toArray → Fr [g] w w' → w'.heap.size = w.heap.size → K (a.put o.dst undef) w') : o.wp P a w K Q :=
  wp_stS hT ho g 0 hx new hy hn h1 cur.toArray t (0, 0) hb (free_zero _) (by simp; omega) fun w' h1 h2 h3 => h w' (by
    have e : (cur.toArray.toList.take 0 ++ new ++ cur.toArray.toList.drop (0 + new.length)).toArray = new.toArray := by
      rw [List.take_zero, List.nil_append, Nat.zero_add, List.drop_of_length_le (by rw [hn, ← hc]; exact Nat.le_refl _), List.append_nil]
    rw [e] at h1
    exact h1) h2 h3
end

section
variable {P : Program} {ops : Array Oper} {Q : Exit → Act → World → Prop} {S : World → Prop}
/-- One of two may come up. -/
theorem take_2 {md : Region.Mode} (i j : Nat) (di dj : Option Tmp) {oi oj : Oper} {fuel : Nat} {listed : Array Bool} {tm : Array Value} {df : List _} {w : World} (hi : ops[i]? = some oi) (hj : ops[j]? = some oj) (hdi : oi.dst = di) (hdj : oj.dst = dj) (hr : Region.ready md ops listed = [i, j])
    (hwi : Region.wanted oi (yielded ops tm) = true) (hwj : Region.wanted oj (yielded ops tm) = true)
    (h1 : ∀ K' : Act → World → Prop, (∀ v w', S w' → (S w' → wpAnyH P md ops Q S fuel (listed.setIfInBounds i true) ((⟨tm, df⟩ : Act).put di v) w') → K' ((⟨tm, df⟩ : Act).put oi.dst v) w') → Oper.wp P oi ⟨tm, df⟩ w K' Q)
    (h2 : ∀ K' : Act → World → Prop, (∀ v w', S w' → (S w' → wpAnyH P md ops Q S fuel (listed.setIfInBounds j true) ((⟨tm, df⟩ : Act).put dj v) w') → K' ((⟨tm, df⟩ : Act).put oj.dst v) w') → Oper.wp P oj ⟨tm, df⟩ w K' Q) : wpAnyH P md ops Q S (fuel + 1) listed ⟨tm, df⟩ w :=
  wpAnyH_ready hr (by simp) (AllReadyH.cons hi (fun K' hK => by rw [if_pos hwi]; exact h1 K' fun v w' hS hW => hK.out _ _ hS (by rw [hdi]; exact hW))
    (AllReadyH.cons hj (fun K' hK => by rw [if_pos hwj]; exact h2 K' fun v w' hS hW => hK.out _ _ hS (by rw [hdj]; exact hW)) AllReadyH.nil))
theorem wp_bs0 {o : Oper} {a : Act} {w : World} {K : Act → World → Prop} {t : TypeId} {n : Nat} {z : List Value} {ts : TypeId} (hT : StT P t n z) (ht : P.underlying ts = some (.slice t)) (ho : o.op = .buildSlice ts 0 #[])
    (h : K (a.put o.dst (.slice (some ⟨w.heap.size, 0, none⟩) 0 0)) (w.alloc (.cells #[] t))) : o.wp P a w K Q := by
  obtain ⟨i, hi, hs⟩ := Option.map_eq_some_iff.1 hT.sz
  refine wp_val (.slice (some ⟨w.heap.size, 0, none⟩) 0 0) (w.alloc (.cells #[] t)) ?_ h
  unfold execOp
  simp only [ho, Sem.run_bind, Sem.run_pure, Result.andThen_ok]
  simp [Instr.buildSlice, run_underlying ht, sizeOf, typeInfo, hi, hs, newRow, Instr.fill]
  have e : ∀ f : Nat → Value, Array.map f (Array.range 0) = #[] := fun f => by apply Array.eq_empty_of_size_eq_zero; simp
  rw [e]
end

/-- One cell is written. -/
theorem wp_st1 {P : Program} {o : Oper} {a : Act} {w : World} {K : Act → World → Prop} {Q : Exit → Act → World → Prop} {ty : TypeId} {x y : Operand} (ho : o.op = .store ty x y) (hsz : (P.info? ty).map (·.size) = some 1) (g i : Nat) (hx : a.eval x = .pointer (some ⟨g, i, none⟩)) (v : Value) (hy : a.eval y = v) (hv : v.cells = #[v]) (h1 : v.oneCell' = true)
    {old : Value} (hc : w.cell? ⟨g, i, none⟩ = some old) (hz : w.frozen? ⟨g, i, none⟩ = false) (h : K (a.put o.dst undef) (w.setCell ⟨g, i, none⟩ v)) : o.wp P a w K Q := by
  obtain ⟨j, hj, hs⟩ := Option.map_eq_some_iff.1 hsz
  have hst : (store ((⟨g, i, none⟩ : Addr).add 0) v).run P w = .ok () (w.setCell ⟨g, i, none⟩ v) := by
    rw [addr_add, run_store P w _ v _ h1, Nat.add_zero, hc]
    simp [hz]
  have hat : (Instr.storeAt ty (.pointer (some ⟨g, i, none⟩)) v).run P w = .ok () (w.setCell ⟨g, i, none⟩ v) := by
    simp only [Instr.storeAt, Instr.sureAddr, Sem.run_bind, Sem.run_pure, Result.andThen_ok]
    simp [storeVar, sizeOf, typeInfo, hj, hs, hv, storeCells, hst]
  unfold Oper.wp execOp
  simp only [ho, hx, hy, Sem.run_bind, Sem.run_pure, Result.andThen_ok, hat]
  exact h

/-- An element of an array by value. -/
theorem wpList_ix1 {P : Program} {ops : Array Oper} {rest : List Oper} {o : Oper} {a : Act} {w : World} {Q : Exit → Act → World → Prop} {t e : TypeId} {n : Nat} {d : TypeDesc} {x y : Operand} (hu : P.underlying t = some (.array n e)) (he : P.underlying e = some d) (hd : d.isRow = false) (hsz : (P.info? e).map (·.size) = some 1)
    (hw : Region.wanted o (yielded ops a.tmps) = true) (ho : o.op = .index t x y) (cs : Array Value) (hx : a.eval x = .agg cs) (k : IntKind) (i : Nat) (hy : a.eval y = .int k (i : Int)) (hi : i < n) (v : Value) (hv : cs[i]? = some v)
    (h : wpList P ops Q rest (a.put o.dst v) w) : wpList P ops Q (o :: rest) a w :=
  wpList_want hw fun _ hK => by
    refine wp_val v w ?_ (hK _ _ h)
    obtain ⟨j, hj, hs⟩ := Option.map_eq_some_iff.1 hsz
    have hp : (part e cs i).run P w = .ok v w := part_one he hd cs i v hv
    have h2 : (0 : Int) ≤ (i : Int) ∧ (i : Int) < (n : Int) := by omega
    unfold execOp
    simp only [ho, hx, hy, Sem.run_bind, Sem.run_pure, Result.andThen_ok]
    simp [Instr.index, asIntOf, run_underlying hu, h2, sizeOf, typeInfo, hj, hs, hp]
    intro hge
    omega

/-- What a build yields, its parts told. -/
theorem wpList_bldK {P : Program} {ops : Array Oper} {rest : List Oper} {o : Oper} {a : Act} {w : World} {Q : Exit → Act → World → Prop} {t : TypeId} {ps : Array (Nat × Operand)} (hw : Region.wanted o (yielded ops a.tmps) = true) (ho : o.op = .build t ps) (ps' : Array (Nat × Value)) (he : (ps.map fun (i, x) => (i, a.eval x)) = ps') (v : Value) (hv : (Instr.build t ps').run P w = .ok v w)
    (h : wpList P ops Q rest (a.put o.dst v) w) : wpList P ops Q (o :: rest) a w :=
  wpList_bld hw ho v (by rw [he]; exact hv) h

/-- One cell is read. -/
theorem wp_ld1 {P : Program} {o : Oper} {a : Act} {w : World} {K : Act → World → Prop} {Q : Exit → Act → World → Prop} {ty : TypeId} {d : TypeDesc} {x : Operand} (hu : P.underlying ty = some d) (hd : d.isRow = false) (ho : o.op = .load ty x) (g i : Nat) (hx : a.eval x = .pointer (some ⟨g, i, none⟩)) (v : Value) (hc : w.cell? ⟨g, i, none⟩ = some v)
    (h : K (a.put o.dst v) w) : o.wp P a w K Q := by
  have hl : (loadVar ty ⟨g, i, none⟩).run P w = .ok v w := by
    have ha : (isAgg ty).run P w = .ok false w := by cases d <;> simp_all [isAgg, run_underlying hu]
    simp [loadVar, ha, hc]
  refine wp_val v w ?_ h
  unfold execOp
  simp only [ho, hx, Instr.loadAt, Instr.sureAddr, Sem.run_bind, Sem.run_pure, Result.andThen_ok, hl]
end Go.Proofs.Ytdhhnioklbnicaa
