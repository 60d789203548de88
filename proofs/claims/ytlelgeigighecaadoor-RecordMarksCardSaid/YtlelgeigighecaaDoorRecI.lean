/-
  Layer 13 (record): the reference's done.
-/
import Derived.Test.YtlelgeigighecaaDoorRecH
set_option linter.unusedSimpArgs false
set_option linter.unusedVariables false
set_option linter.unnecessarySimpa false
namespace Go.Proofs.YtlelgeigighecaaDoor
open Go.RowKit

section
variable {P : Program} {ops : Array Oper} {Q : Exit → Act → World → Prop} {S : World → Prop}
/-- One of two may come up (calls among them). -/
theorem take_2r {md : Region.Mode} (i j : Nat) {oi oj : Oper} {fuel : Nat} {listed : Array Bool} {a : Act} {w : World} (hi : ops[i]? = some oi) (hj : ops[j]? = some oj) (hr : Region.ready md ops listed = [i, j])
    (hwi : Region.wanted oi (yielded ops a.tmps) = true) (hwj : Region.wanted oj (yielded ops a.tmps) = true)
    (h1 : ∀ K' : Act → World → Prop, Shut (∀ a w, S w → (S w → wpAnyH P md ops Q S fuel (listed.setIfInBounds i true) a w) → K' a w) → Oper.wp P oi a w K' Q)
    (h2 : ∀ K' : Act → World → Prop, Shut (∀ a w, S w → (S w → wpAnyH P md ops Q S fuel (listed.setIfInBounds j true) a w) → K' a w) → Oper.wp P oj a w K' Q) : wpAnyH P md ops Q S (fuel + 1) listed a w :=
  wpAnyH_ready hr (by simp) (AllReadyH.cons hi (fun K' hK => by rw [if_pos hwi]; exact h1 K' hK) (AllReadyH.cons hj (fun K' hK => by rw [if_pos hwj]; exact h2 K' hK) AllReadyH.nil))
/-- A slice's literal of elements of one cell. -/
theorem run_bsR {w : World} {ts t : TypeId} {bytes : Nat} {z : Value} (hT : SlT P ts t 1 bytes z) (vs : List Value) (hv : ∀ v ∈ vs, v.cells.size = 1) (hne : 0 < vs.length) (hsm : vs.length ≤ 2 ^ 24) :
    (Instr.buildSlice ts vs.length ((vs.zipIdx 0).map fun x => (x.2, x.1)).toArray).run P w = .ok (.slice (some ⟨w.heap.size, 0, none⟩) vs.length vs.length) (w.alloc (.cells (vs.flatMap fun v => v.cells.toList).toArray t)) := by
  obtain ⟨i, hi, hz, hs, -⟩ := info_parts hT.info
  have h0 : ¬ (vs.length * 1 = 0) := by omega
  have hbig : ¬ (2 ^ 24 < vs.length * 1) := by omega
  have hf := Great.fill_whole (s := 1) (by omega) vs ((Array.range (vs.length * 1)).map (z.cells[· % z.cells.size]!)) hv (by simp)
  have hzv : ∀ w, (zeroValue t).run P w = .ok z w := fun w => by simp [zeroValue, typeInfo, hi, hz]
  unfold Instr.buildSlice
  simp only [Sem.run_bind, run_underlying hT.und, Result.andThen_ok, sizeOf, typeInfo, run_program, hi, Sem.run_pure, hs, gt_iff_lt, hbig, if_false, h0, hzv, hf, newRow, newObj]
  rfl
theorem wp_bsR {o : Oper} {a : Act} {w : World} {K : Act → World → Prop} {ts t : TypeId} {bytes : Nat} {z : Value} {n : Nat} {ps : Array (Nat × Operand)} (hT : SlT P ts t 1 bytes z) (ho : o.op = .buildSlice ts n ps) (vs : List Value) (hn : vs.length = n) (hx : (ps.map fun (i, x) => (i, a.eval x)) = ((vs.zipIdx 0).map fun x => (x.2, x.1)).toArray) (hv : ∀ v ∈ vs, v.cells = #[v]) (hne : 0 < vs.length) (hsm : vs.length ≤ 2 ^ 24)
    (h : ∀ w', Blk w' w.heap.size t vs.toArray → Fr [] w w' → w'.heap.size = w.heap.size + 1 → K (a.put o.dst (.slice (some ⟨w.heap.size, 0, none⟩) n n)) w') : o.wp P a w K Q := by
  subst hn
  have hr := run_bsR (w := w) hT vs (fun v h => by rw [hv v h]; rfl) hne hsm
  have e : (vs.flatMap fun v => v.cells.toList) = vs := by
    clear hr hx h hne hsm ho
    induction vs with
    | nil => rfl
    | cons v r ih => rw [List.flatMap_cons, hv v (by simp), ih (fun u hu => hv u (List.mem_cons_of_mem _ hu))]; rfl
  rw [e] at hr
  refine wp_val _ (w.alloc (.cells vs.toArray t)) ?_ (h _ (Blk.new _ _ _) ((Fr.refl _ _).alloc _) (by simp))
  unfold execOp
  simp only [ho, Sem.run_bind, Sem.run_pure, Result.andThen_ok, hx, hr]
/-- A slice of a literal's bytes is converted to its own type. -/
theorem run_cvB {w : World} {t e : TypeId} {C : Array Value} {n c g : Nat} (ht : P.underlying t = some (.slice e)) (he : P.underlying e = some (.int .u8)) (hb : Blk w g e C) :
    ∃ w', (convert t t (.slice (some ⟨g, 0, none⟩) n c)).run P w = .ok (.slice (some ⟨g, 0, none⟩) n c) w' ∧ w'.heap[g]? = some (.cells C e (C.size, C.size + 1)) ∧ Fr [g] w w' ∧ w'.heap.size = w.heap.size := by
  have hsh : w.shape? g = some (e, C.size) := by
    unfold World.shape?
    rw [show w.heap[g]? = some (.cells C e) from hb]
  refine ⟨w.freeze ⟨g, C.size, none⟩ 1, ?_, ?_, ⟨by unfold World.freeze; rw [if_neg (by decide)], by unfold World.freeze; rw [if_neg (by decide)], by unfold World.freeze; rw [if_neg (by decide)], by unfold World.freeze; rw [if_neg (by decide)]; simp, fun k hk hn => ?_⟩, ?_⟩
  · simp [convert, run_underlying ht, run_underlying he, markStringish, hsh]
  · unfold World.freeze
    rw [if_neg (by decide)]
    have h2 : w.heap[g]? = some (.cells C e) := hb
    simp [Array.getElem?_modify, h2]
  · unfold World.freeze
    rw [if_neg (by decide)]
    have : g ≠ k := by intro h; apply hn; simp [h]
    simp [Array.getElem?_modify, this]
  · unfold World.freeze
    rw [if_neg (by decide)]
    simp
theorem wp_cvB {o : Oper} {a : Act} {w : World} {K : Act → World → Prop} {x : Operand} {t e : TypeId} {C : Array Value} {n c g : Nat} (ho : o.op = .convert t t x) (ht : P.underlying t = some (.slice e)) (he : P.underlying e = some (.int .u8)) (hx : a.eval x = .slice (some ⟨g, 0, none⟩) n c) (hb : Blk w g e C)
    (h : ∀ w', w'.heap[g]? = some (.cells C e (C.size, C.size + 1)) → Fr [g] w w' → w'.heap.size = w.heap.size → K (a.put o.dst (.slice (some ⟨g, 0, none⟩) n c)) w') : o.wp P a w K Q := by
  obtain ⟨w', hr, h1, h2, h3⟩ := run_cvB (n := n) (c := c) ht he hb
  refine wp_val _ w' ?_ (h _ h1 h2 h3)
  unfold execOp
  simp only [ho, Sem.run_bind, Sem.run_pure, Result.andThen_ok, hx, hr]
end
theorem Row.of_lit {w : World} {g n : Nat} {l : List UInt8} {B : Nat} (hl : l.length = n) (h : w.heap[g]? = some (.cells (bvs l).toArray 5 ((bvs l).toArray.size, (bvs l).toArray.size + 1))) (hB : B ≤ g) (hn : n ≤ maxLen) :
    Row w B 5 1 (.slice (some ⟨g, 0, none⟩) n n) n (bvs l) := by
  subst hl
  exact ⟨by simp [bvs], .inr ⟨g, _, _, _, rfl, hB, h, free_end _ _, Nat.le_refl _, hn, by simp [bvs], by rw [List.toList_toArray, Nat.mul_one, List.take_of_length_le (by simp [bvs])]⟩⟩

set_option maxRecDepth 100000 in
set_option maxHeartbeats 4000000 in
theorem xrcDone_any {w : World} {n c m : Nat} {A : Option Addr} {all : List UInt8} (hm : m < 18446744073709551616) (hn : all.length = n) (hr : Rd w A (bvs all)) (hA : A = none → n = 0) (hl : n ≤ 140737488355200) :
    Calls Tryd.prog 68 #[.int .u64 (m : Int), .slice A n c] w fun e w' => ∃ r, e = .returned r ∧ Row w' w.heap.size 5 1 r 512 (bvs (doneB m all)) ∧ Fr [] w w' := by
  have HN := Lib.hid hn
  clear hn
  go_enter Tryd.func68, Tryd.ntmps68
  go_wp2_with fail
  refine (xSum_any A all n c w HN.out hr hA (by omega)).mono ?_
  rintro e w1 ⟨rfl, f1⟩
  obtain ⟨D, hD⟩ : ∃ D, shaSum all = D := ⟨_, rfl⟩
  have hdl : D.length = 32 := by rw [← hD, shaSum_length]
  rw [hD]
  have HDD := Lib.hid (fun _ : Unit => hD)
  have HDL := Lib.hid hdl
  clear hD hdl
  go_upto_region 2 with
    (first
      | (refine wpList_alS stA32 (o := ⟨some 5, _, _, _, _, _⟩) rfl rfl ?_; intro wa ha fa za; have ZA := Lib.hid za; clear za; obtain ⟨g5, hgg⟩ : ∃ g, w1.heap.size = g := ⟨_, rfl⟩; rw [hgg] at ha; rw [hgg]; have HG5 := Lib.hid hgg; clear hgg)
      | (refine wpList_stB stA32 rfl rfl g5 rfl (bvs D) rfl (by rw [bvs_length, HDL.out]) (bvs_one _) (bvs (zB 32)) rfl ha ?_; intro wb hb fb zb; have ZB := Lib.hid zb; clear zb))
  have f2 : Fr [] w1 wb := fa.trans fb (fun i hi => .inr (by have := HG5.out; simp at hi; omega))
  have F := (f1.trans_nil f2).drew
  clear f1 f2 fa fb hr
  refine wp_region_held_drew (S := fun w' => Blk w' g5 70 (bvs D).toArray) (by kernel_rfl) (hb.keep_nil (Fr.refl [] _).drew) (fun hHeld => ?_)
  clear hb
  generalize wb.drew = w6 at *
  refine take_w 2 (some 10) (v := ?_) rfl rfl (by kernel_rfl) (by kernel_rfl) (by kernel_rfl) (fun _ _ _ h => h) (by rfl) ?_ hHeld ?_
  rotate_left
  · (intro w hSw; (try dsimp only at hSw); go_simp; try with_reducible rfl)
  simp only [Act.put, List.setIfInBounds_toArray, List.set_cons_zero, List.set_cons_succ]
  refine take_w 5 (some 13) (v := .slice (some ⟨g5, 0, none⟩) 32 32) rfl rfl (by kernel_rfl) (by kernel_rfl) (by kernel_rfl) (fun _ _ _ h => h) (by rfl) (fun w hSw => by go_simp) hHeld ?_
  try simp only [Act.put, List.setIfInBounds_toArray, List.set_cons_zero, List.set_cons_succ]
  refine take_2r 0 3 rfl rfl (by kernel_rfl) (by rfl) (by rfl) (fun K hK => ?_) (fun K hK => ?_)
  ·
    refine wp_bsR (n := 4) slB rfl (bvs doneM) rfl (by kernel_rfl) (by intro v hv; simp [bvs, doneM, bv] at hv; rcases hv with rfl | rfl | rfl | rfl <;> rfl) (by decide) (by decide) (fun wb D fD zD => hK.out _ _ (hHeld.keep_nil fD) (fun hHx => ?_))
    obtain ⟨g9, hg9⟩ : ∃ g9, w6.heap.size = g9 := ⟨_, rfl⟩
    have NE : g5 ≠ g9 := by have := hHeld.lt; omega
    have LE : w.heap.size ≤ g9 := by have := F.size; omega
    rw [hg9] at D
    try rw [hg9]
    replace F := F.trans_nil fD
    skip
    clear fD zD hg9
    clear hHeld
    have hHeld := hHx
    clear hHx
    clear hK K
    try simp only [Act.put, List.setIfInBounds_toArray, List.set_cons_zero, List.set_cons_succ]
    refine take_2r 1 3 rfl rfl (by kernel_rfl) (by rfl) (by rfl) (fun K hK => ?_) (fun K hK => ?_)
    ·
      refine wp_cvB rfl Tryd.underlying28 Tryd.underlying5 rfl D (fun wv R fv zv => hK.out _ _ (hHeld.keep fv (by simpa using NE)) (fun hHx => ?_))
      replace R := Row.of_lit (l := doneM) (n := 4) rfl R LE (by unfold maxLen; omega)
      replace F := F.trans fv (fun i hi => .inr (by rw [List.mem_singleton.1 hi]; exact LE))
      skip
      clear D fv zv
      clear hHeld
      have hHeld := hHx
      clear hHx
      clear hK K
      try simp only [Act.put, List.setIfInBounds_toArray, List.set_cons_zero, List.set_cons_succ]
      refine take_c 3 rfl (by kernel_rfl) (by rfl) (fun K hK => ?_)
      go_simp
      refine (xrcNumber_any 8 m _ (by omega) hm).mono ?_
      rintro e wn ⟨v, rfl, rn, f⟩
      obtain ⟨An, capn, rfl, -, -, -, -, -⟩ := rn.shape
      (replace R := R.keep_nil f)
      replace F := F.trans_nil f
      refine hK.out _ _ (hHeld.keep_nil f) (fun hHx => ?_)
      clear f
      clear hHeld
      have hHeld := hHx
      clear hHx
      clear hK K
      try simp only [Act.put, List.setIfInBounds_toArray, List.set_cons_zero, List.set_cons_succ]
      refine take_c 4 rfl (by kernel_rfl) (by rfl) (fun K hK => ?_)
      refine wp_app rfl slB w.heap.size _ 4 (bvs doneM) rfl R _ 8 _ (bvs (leB 8 m)) rfl (by rw [bvs_length, leB_length]) rn.rd.1 (bvs_one _) rn.rd.2.2 (by omega) F.size (fun va wa q1 q2 q3 q4 => hK.out _ _ (hHeld.keep q2 (fun hm => R.ne_blk hHeld (by decide) (mem_own.1 hm))) (fun hHx => ?_))
      replace F := F.trans q2 (fun k hk => .inr (R.lt k (mem_own.1 hk)).1)
      rw [← bvs_append, show 4 + 8 = 12 from rfl] at q1
      obtain ⟨Aa, capa, rfl, -, -, -, -, -⟩ := q1.shape
      clear R q2 q3 q4
      have R := q1
      clear q1
      clear hHeld
      have hHeld := hHx
      clear hHx
      clear hK K
      try simp only [Act.put, List.setIfInBounds_toArray, List.set_cons_zero, List.set_cons_succ]
      refine take_c 6 rfl (by kernel_rfl) (by rfl) (fun K hK => ?_)
      refine wp_app rfl slB w.heap.size _ 12 (bvs (doneM ++ leB 8 m)) rfl R _ 32 _ (bvs D) rfl (by rw [bvs_length, HDL.out]) (Rd.ofBm hHeld) (bvs_one _) (fun h => by cases h) (by omega) F.size (fun va wa q1 q2 q3 q4 => hK.out _ _ (hHeld.keep q2 (fun hm => R.ne_blk hHeld (by decide) (mem_own.1 hm))) (fun hHx => ?_))
      replace F := F.trans q2 (fun k hk => .inr (R.lt k (mem_own.1 hk)).1)
      rw [← bvs_append, show 12 + 32 = 44 from rfl] at q1
      obtain ⟨Aa, capa, rfl, -, -, -, -, -⟩ := q1.shape
      clear R q2 q3 q4
      have R := q1
      clear q1
      clear hHeld
      have hHeld := hHx
      clear hHx
      clear hK K
      try simp only [Act.put, List.setIfInBounds_toArray, List.set_cons_zero, List.set_cons_succ]
      have hl : (doneM ++ leB 8 m ++ D).length = 44 := by rw [List.length_append, List.length_append, leB_length, HDL.out]; rfl
      refine take_c 7 rfl (by kernel_rfl) (by rfl) (fun K hK => ?_)
      go_simp
      refine (xrcFill_any hl R (by omega) F.size).mono ?_
      rintro e w9 ⟨r, rfl, r9, f9⟩
      refine hK.out _ _ (hHeld.keep f9 (fun hm => R.ne_blk hHeld (by decide) (mem_own.1 hm))) (fun hHx => ?_)
      replace F := F.trans f9 (fun k hk => .inr (R.lt k (mem_own.1 hk)).1)
      clear R f9 hl rn
      obtain ⟨A9, cap9, rfl, -, -, -, -, -⟩ := r9.shape
      clear hHeld
      have hHeld := hHx
      clear hHx
      clear hK K
      try simp only [Act.put, List.setIfInBounds_toArray, List.set_cons_zero, List.set_cons_succ]
      refine take_w 8 (some 4) (v := ?_) rfl rfl (by kernel_rfl) (by kernel_rfl) (by kernel_rfl) (fun _ _ _ h => h) (by rfl) ?_ hHeld ?_
      rotate_left
      · (intro w hSw; (try dsimp only at hSw); go_simp; try with_reducible rfl)
      simp only [Act.put, List.setIfInBounds_toArray, List.set_cons_zero, List.set_cons_succ]
      refine wpAnyH_done (by kernel_rfl) ?_ _
      go_wp2_with fail
      go_ret
      refine ⟨_, rfl, ?_, F⟩
      rw [doneB, doneR, HDD.out ()]
      exact r9
    ·
      go_simp
      refine (xrcNumber_any 8 m _ (by omega) hm).mono ?_
      rintro e wn ⟨v, rfl, rn, f⟩
      obtain ⟨An, capn, rfl, -, -, -, -, -⟩ := rn.shape
      (have L9 := D.lt; replace D := D.keep_nil f)
      replace F := F.trans_nil f
      refine hK.out _ _ (hHeld.keep_nil f) (fun hHx => ?_)
      clear f
      clear hHeld
      have hHeld := hHx
      clear hHx
      clear hK K
      try simp only [Act.put, List.setIfInBounds_toArray, List.set_cons_zero, List.set_cons_succ]
      refine take_c 1 rfl (by kernel_rfl) (by rfl) (fun K hK => ?_)
      refine wp_cvB rfl Tryd.underlying28 Tryd.underlying5 rfl D (fun wv R fv zv => hK.out _ _ (hHeld.keep fv (by simpa using NE)) (fun hHx => ?_))
      replace R := Row.of_lit (l := doneM) (n := 4) rfl R LE (by unfold maxLen; omega)
      replace F := F.trans fv (fun i hi => .inr (by rw [List.mem_singleton.1 hi]; exact LE))
      (replace rn := rn.keep fv (fun g hg hm => by have := rn.lt g hg; have := List.mem_singleton.1 hm; omega))
      clear D fv zv
      clear hHeld
      have hHeld := hHx
      clear hHx
      clear hK K
      try simp only [Act.put, List.setIfInBounds_toArray, List.set_cons_zero, List.set_cons_succ]
      refine take_c 4 rfl (by kernel_rfl) (by rfl) (fun K hK => ?_)
      refine wp_app rfl slB w.heap.size _ 4 (bvs doneM) rfl R _ 8 _ (bvs (leB 8 m)) rfl (by rw [bvs_length, leB_length]) rn.rd.1 (bvs_one _) rn.rd.2.2 (by omega) F.size (fun va wa q1 q2 q3 q4 => hK.out _ _ (hHeld.keep q2 (fun hm => R.ne_blk hHeld (by decide) (mem_own.1 hm))) (fun hHx => ?_))
      replace F := F.trans q2 (fun k hk => .inr (R.lt k (mem_own.1 hk)).1)
      rw [← bvs_append, show 4 + 8 = 12 from rfl] at q1
      obtain ⟨Aa, capa, rfl, -, -, -, -, -⟩ := q1.shape
      clear R q2 q3 q4
      have R := q1
      clear q1
      clear hHeld
      have hHeld := hHx
      clear hHx
      clear hK K
      try simp only [Act.put, List.setIfInBounds_toArray, List.set_cons_zero, List.set_cons_succ]
      refine take_c 6 rfl (by kernel_rfl) (by rfl) (fun K hK => ?_)
      refine wp_app rfl slB w.heap.size _ 12 (bvs (doneM ++ leB 8 m)) rfl R _ 32 _ (bvs D) rfl (by rw [bvs_length, HDL.out]) (Rd.ofBm hHeld) (bvs_one _) (fun h => by cases h) (by omega) F.size (fun va wa q1 q2 q3 q4 => hK.out _ _ (hHeld.keep q2 (fun hm => R.ne_blk hHeld (by decide) (mem_own.1 hm))) (fun hHx => ?_))
      replace F := F.trans q2 (fun k hk => .inr (R.lt k (mem_own.1 hk)).1)
      rw [← bvs_append, show 12 + 32 = 44 from rfl] at q1
      obtain ⟨Aa, capa, rfl, -, -, -, -, -⟩ := q1.shape
      clear R q2 q3 q4
      have R := q1
      clear q1
      clear hHeld
      have hHeld := hHx
      clear hHx
      clear hK K
      try simp only [Act.put, List.setIfInBounds_toArray, List.set_cons_zero, List.set_cons_succ]
      have hl : (doneM ++ leB 8 m ++ D).length = 44 := by rw [List.length_append, List.length_append, leB_length, HDL.out]; rfl
      refine take_c 7 rfl (by kernel_rfl) (by rfl) (fun K hK => ?_)
      go_simp
      refine (xrcFill_any hl R (by omega) F.size).mono ?_
      rintro e w9 ⟨r, rfl, r9, f9⟩
      refine hK.out _ _ (hHeld.keep f9 (fun hm => R.ne_blk hHeld (by decide) (mem_own.1 hm))) (fun hHx => ?_)
      replace F := F.trans f9 (fun k hk => .inr (R.lt k (mem_own.1 hk)).1)
      clear R f9 hl rn
      obtain ⟨A9, cap9, rfl, -, -, -, -, -⟩ := r9.shape
      clear hHeld
      have hHeld := hHx
      clear hHx
      clear hK K
      try simp only [Act.put, List.setIfInBounds_toArray, List.set_cons_zero, List.set_cons_succ]
      refine take_w 8 (some 4) (v := ?_) rfl rfl (by kernel_rfl) (by kernel_rfl) (by kernel_rfl) (fun _ _ _ h => h) (by rfl) ?_ hHeld ?_
      rotate_left
      · (intro w hSw; (try dsimp only at hSw); go_simp; try with_reducible rfl)
      simp only [Act.put, List.setIfInBounds_toArray, List.set_cons_zero, List.set_cons_succ]
      refine wpAnyH_done (by kernel_rfl) ?_ _
      go_wp2_with fail
      go_ret
      refine ⟨_, rfl, ?_, F⟩
      rw [doneB, doneR, HDD.out ()]
      exact r9
  ·
    go_simp
    refine (xrcNumber_any 8 m _ (by omega) hm).mono ?_
    rintro e wn ⟨v, rfl, rn, f⟩
    obtain ⟨An, capn, rfl, -, -, -, -, -⟩ := rn.shape
    skip
    replace F := F.trans_nil f
    refine hK.out _ _ (hHeld.keep_nil f) (fun hHx => ?_)
    clear f
    clear hHeld
    have hHeld := hHx
    clear hHx
    clear hK K
    try simp only [Act.put, List.setIfInBounds_toArray, List.set_cons_zero, List.set_cons_succ]
    refine take_c 0 rfl (by kernel_rfl) (by rfl) (fun K hK => ?_)
    refine wp_bsR (n := 4) slB rfl (bvs doneM) rfl (by kernel_rfl) (by intro v hv; simp [bvs, doneM, bv] at hv; rcases hv with rfl | rfl | rfl | rfl <;> rfl) (by decide) (by decide) (fun wb D fD zD => hK.out _ _ (hHeld.keep_nil fD) (fun hHx => ?_))
    obtain ⟨g9, hg9⟩ : ∃ g9, wn.heap.size = g9 := ⟨_, rfl⟩
    have NE : g5 ≠ g9 := by have := hHeld.lt; omega
    have LE : w.heap.size ≤ g9 := by have := F.size; omega
    rw [hg9] at D
    try rw [hg9]
    replace F := F.trans_nil fD
    (have RL : ∀ g, (Value.slice An 8 capn).ownBlock = some g → g ≠ g9 := fun g hg => by have := (rn.lt g hg).2; omega); replace rn := rn.keep_nil fD
    clear fD zD hg9
    clear hHeld
    have hHeld := hHx
    clear hHx
    clear hK K
    try simp only [Act.put, List.setIfInBounds_toArray, List.set_cons_zero, List.set_cons_succ]
    refine take_c 1 rfl (by kernel_rfl) (by rfl) (fun K hK => ?_)
    refine wp_cvB rfl Tryd.underlying28 Tryd.underlying5 rfl D (fun wv R fv zv => hK.out _ _ (hHeld.keep fv (by simpa using NE)) (fun hHx => ?_))
    replace R := Row.of_lit (l := doneM) (n := 4) rfl R LE (by unfold maxLen; omega)
    replace F := F.trans fv (fun i hi => .inr (by rw [List.mem_singleton.1 hi]; exact LE))
    (replace rn := rn.keep fv (fun g hg hm => RL g hg (List.mem_singleton.1 hm)))
    clear D fv zv
    clear hHeld
    have hHeld := hHx
    clear hHx
    clear hK K
    try simp only [Act.put, List.setIfInBounds_toArray, List.set_cons_zero, List.set_cons_succ]
    refine take_c 4 rfl (by kernel_rfl) (by rfl) (fun K hK => ?_)
    refine wp_app rfl slB w.heap.size _ 4 (bvs doneM) rfl R _ 8 _ (bvs (leB 8 m)) rfl (by rw [bvs_length, leB_length]) rn.rd.1 (bvs_one _) rn.rd.2.2 (by omega) F.size (fun va wa q1 q2 q3 q4 => hK.out _ _ (hHeld.keep q2 (fun hm => R.ne_blk hHeld (by decide) (mem_own.1 hm))) (fun hHx => ?_))
    replace F := F.trans q2 (fun k hk => .inr (R.lt k (mem_own.1 hk)).1)
    rw [← bvs_append, show 4 + 8 = 12 from rfl] at q1
    obtain ⟨Aa, capa, rfl, -, -, -, -, -⟩ := q1.shape
    clear R q2 q3 q4
    have R := q1
    clear q1
    clear hHeld
    have hHeld := hHx
    clear hHx
    clear hK K
    try simp only [Act.put, List.setIfInBounds_toArray, List.set_cons_zero, List.set_cons_succ]
    refine take_c 6 rfl (by kernel_rfl) (by rfl) (fun K hK => ?_)
    refine wp_app rfl slB w.heap.size _ 12 (bvs (doneM ++ leB 8 m)) rfl R _ 32 _ (bvs D) rfl (by rw [bvs_length, HDL.out]) (Rd.ofBm hHeld) (bvs_one _) (fun h => by cases h) (by omega) F.size (fun va wa q1 q2 q3 q4 => hK.out _ _ (hHeld.keep q2 (fun hm => R.ne_blk hHeld (by decide) (mem_own.1 hm))) (fun hHx => ?_))
    replace F := F.trans q2 (fun k hk => .inr (R.lt k (mem_own.1 hk)).1)
    rw [← bvs_append, show 12 + 32 = 44 from rfl] at q1
    obtain ⟨Aa, capa, rfl, -, -, -, -, -⟩ := q1.shape
    clear R q2 q3 q4
    have R := q1
    clear q1
    clear hHeld
    have hHeld := hHx
    clear hHx
    clear hK K
    try simp only [Act.put, List.setIfInBounds_toArray, List.set_cons_zero, List.set_cons_succ]
    have hl : (doneM ++ leB 8 m ++ D).length = 44 := by rw [List.length_append, List.length_append, leB_length, HDL.out]; rfl
    refine take_c 7 rfl (by kernel_rfl) (by rfl) (fun K hK => ?_)
    go_simp
    refine (xrcFill_any hl R (by omega) F.size).mono ?_
    rintro e w9 ⟨r, rfl, r9, f9⟩
    refine hK.out _ _ (hHeld.keep f9 (fun hm => R.ne_blk hHeld (by decide) (mem_own.1 hm))) (fun hHx => ?_)
    replace F := F.trans f9 (fun k hk => .inr (R.lt k (mem_own.1 hk)).1)
    clear R f9 hl rn
    obtain ⟨A9, cap9, rfl, -, -, -, -, -⟩ := r9.shape
    clear hHeld
    have hHeld := hHx
    clear hHx
    clear hK K
    try simp only [Act.put, List.setIfInBounds_toArray, List.set_cons_zero, List.set_cons_succ]
    refine take_w 8 (some 4) (v := ?_) rfl rfl (by kernel_rfl) (by kernel_rfl) (by kernel_rfl) (fun _ _ _ h => h) (by rfl) ?_ hHeld ?_
    rotate_left
    · (intro w hSw; (try dsimp only at hSw); go_simp; try with_reducible rfl)
    simp only [Act.put, List.setIfInBounds_toArray, List.set_cons_zero, List.set_cons_succ]
    refine wpAnyH_done (by kernel_rfl) ?_ _
    go_wp2_with fail
    go_ret
    refine ⟨_, rfl, ?_, F⟩
    rw [doneB, doneR, HDD.out ()]
    exact r9
end Go.Proofs.YtlelgeigighecaaDoor
