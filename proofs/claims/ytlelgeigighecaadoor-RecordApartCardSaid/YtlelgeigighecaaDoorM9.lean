/-
  Texts of this claim, one behind the other: RecI, RecJ, RecK.
-/
import Derived.Test.YtlelgeigighecaaDoorM8
/-
  Layer 13 (record): the reference's done.
-/
set_option linter.unusedSimpArgs false
set_option linter.unusedVariables false
set_option linter.unnecessarySimpa false
namespace Go.Proofs.YtlelgeigighecaaDoor
open Go.RowKit

section
variable {P : Program} {ops : Array Oper} {Q : Exit → Act → World → Prop} {S : World → Prop}
/-- One of two may come up (calls among them). -/
theorem take_2r {md : Region.Mode} (i j : Nat) {oi oj : Oper} {fuel : Nat} {listed : Array Bool} {a : Act} {w : World} (hi : ops[i]? = some oi) (hj : ops[j]? = some oj) (hr : Region.ready md ops listed = [i, j])
    (hwi : Region.wanted oi (yielded ops a.tmps) = true) (hwj : Region.wanted oj (yielded ops a.tmps) = true)
    (h1 : ∀ K' : Act → World → Prop, Shut (∀ a w, S w → (S w → wpAnyH P md ops Q S fuel (listed.setIfInBounds i true) a w) → K' a w) → Oper.wp P oi a w K' Q)
    (h2 : ∀ K' : Act → World → Prop, Shut (∀ a w, S w → (S w → wpAnyH P md ops Q S fuel (listed.setIfInBounds j true) a w) → K' a w) → Oper.wp P oj a w K' Q) : wpAnyH P md ops Q S (fuel + 1) listed a w :=
  wpAnyH_ready hr (by simp) (AllReadyH.cons hi (fun K' hK => by rw [if_pos hwi]; exact h1 K' hK) (AllReadyH.cons hj (fun K' hK => by rw [if_pos hwj]; exact h2 K' hK) AllReadyH.nil))
/-- A slice's literal of elements of one cell. -/
theorem run_bsR {w : World} {ts t : TypeId} {bytes : Nat} {z : Value} (hT : SlT P ts t 1 bytes z) (vs : List Value) (hv : ∀ v ∈ vs, v.cells.size = 1) (hne : 0 < vs.length) (hsm : vs.length ≤ 2 ^ 24) :
    (Instr.buildSlice ts vs.length ((vs.zipIdx 0).map fun x => (x.2, x.1)).toArray).run P w = .ok (.slice (some ⟨w.heap.size, 0, none⟩) vs.length vs.length) (w.alloc (.cells (vs.flatMap fun v => v.cells.toList).toArray t)) := by
  obtain ⟨i, hi, hz, hs, -⟩ := info_parts hT.info
  have h0 : ¬ (vs.length * 1 = 0) := by omega
  have hbig : ¬ (2 ^ 24 < vs.length * 1) := by omega
  have hf := Great.fill_whole (s := 1) (by omega) vs ((Array.range (vs.length * 1)).map (z.cells[· % z.cells.size]!)) hv (by simp)
  have hzv : ∀ w, (zeroValue t).run P w = .ok z w := fun w => by simp [zeroValue, typeInfo, hi, hz]
  unfold Instr.buildSlice
  simp only [Sem.run_bind, run_underlying hT.und, Result.andThen_ok, sizeOf, typeInfo, run_program, hi, Sem.run_pure, hs, gt_iff_lt, hbig, if_false, h0, hzv, hf, newRow, newObj]
  rfl
theorem wp_bsR {o : Oper} {a : Act} {w : World} {K : Act → World → Prop} {ts t : TypeId} {bytes : Nat} {z : Value} {n : Nat} {ps : Array (Nat × Operand)} (hT : SlT P ts t 1 bytes z) (ho : o.op = .buildSlice ts n ps) (vs : List Value) (hn : vs.length = n) (hx : (ps.map fun (i, x) => (i, a.eval x)) = ((vs.zipIdx 0).map fun x => (x.2, x.1)).toArray) (hv : ∀ v ∈ vs, v.cells = #[v]) (hne : 0 < vs.length) (hsm : vs.length ≤ 2 ^ 24)
    (h : ∀ w', Blk w' w.heap.size t vs.toArray → Fr [] w w' → w'.heap.size = w.heap.size + 1 → K (a.put o.dst (.slice (some ⟨w.heap.size, 0, none⟩) n n)) w') : o.wp P a w K Q := by
  subst hn
  have hr := run_bsR (w := w) hT vs (fun v h => by rw [hv v h]; rfl) hne hsm
  have e : (vs.flatMap fun v => v.cells.toList) = vs := by
    clear hr hx h hne hsm ho
    induction vs with
    | nil => rfl
    | cons v r ih => rw [List.flatMap_cons, hv v (by simp), ih (fun u hu => hv u (List.mem_cons_of_mem _ hu))]; rfl
  rw [e] at hr
  refine wp_val _ (w.alloc (.cells vs.toArray t)) ?_ (h _ (Blk.new _ _ _) ((Fr.refl _ _).alloc _) (by simp))
  unfold execOp
  simp only [ho, Sem.run_bind, Sem.run_pure, Result.andThen_ok, hx, hr]
/-- A slice of a literal's bytes is converted to its own type. -/
theorem run_cvB {w : World} {t e : TypeId} {C : Array Value} {n c g : Nat} (ht : P.underlying t = some (.slice e)) (he : P.underlying e = some (.int .u8)) (hb : Blk w g e C) :
    ∃ w', (convert t t (.slice (some ⟨g, 0, none⟩) n c)).run P w = .ok (.slice (some ⟨g, 0, none⟩) n c) w' ∧ w'.heap[g]? = some (.cells C e (C.size, C.size + 1)) ∧ Fr [g] w w' ∧ w'.heap.size = w.heap.size := by
  have hsh : w.shape? g = some (e, C.size) := by
    unfold World.shape?
    rw [show w.heap[g]? = some (.cells C e) from hb]
  refine ⟨w.freeze ⟨g, C.size, none⟩ 1, ?_, ?_, ⟨by unfold World.freeze; rw [if_neg (by decide)], by unfold World.freeze; rw [if_neg (by decide)], by unfold World.freeze; rw [if_neg (by decide)], by unfold World.freeze; rw [if_neg (by decide)]; simp, fun k hk hn => ?_⟩, ?_⟩
  · simp [convert, run_underlying ht, run_underlying he, markStringish, hsh]
  · unfold World.freeze
    rw [if_neg (by decide)]
    have h2 : w.heap[g]? = some (.cells C e) := hb
    simp [Array.getElem?_modify, h2]
  · unfold World.freeze
    rw [if_neg (by decide)]
    have : g ≠ k := by intro h; apply hn; simp [h]
    simp [Array.getElem?_modify, this]
  · unfold World.freeze
    rw [if_neg (by decide)]
    simp
theorem wp_cvB {o : Oper} {a : Act} {w : World} {K : Act → World → Prop} {x : Operand} {t e : TypeId} {C : Array Value} {n c g : Nat} (ho : o.op = .convert t t x) (ht : P.underlying t = some (.slice e)) (he : P.underlying e = some (.int .u8)) (hx : a.eval x = .slice (some ⟨g, 0, none⟩) n c) (hb : Blk w g e C)
    (h : ∀ w', w'.heap[g]? = some (.cells C e (C.size, C.size + 1)) → Fr [g] w w' → w'.heap.size = w.heap.size → K (a.put o.dst (.slice (some ⟨g, 0, none⟩) n c)) w') : o.wp P a w K Q := by
  obtain ⟨w', hr, h1, h2, h3⟩ := run_cvB (n := n) (c := c) ht he hb
  refine wp_val _ w' ?_ (h _ h1 h2 h3)
  unfold execOp
  simp only [ho, Sem.run_bind, Sem.run_pure, Result.andThen_ok, hx, hr]
end
theorem Row.of_lit {w : World} {g n : Nat} {l : List UInt8} {B : Nat} (hl : l.length = n) (h : w.heap[g]? = some (.cells (bvs l).toArray 5 ((bvs l).toArray.size, (bvs l).toArray.size + 1))) (hB : B ≤ g) (hn : n ≤ maxLen) :
    Row w B 5 1 (.slice (some ⟨g, 0, none⟩) n n) n (bvs l) := by
  subst hl
  exact ⟨by simp [bvs], .inr ⟨g, _, _, _, rfl, hB, h, free_end _ _, Nat.le_refl _, hn, by simp [bvs], by rw [List.toList_toArray, Nat.mul_one, List.take_of_length_le (by simp [bvs])]⟩⟩

set_option maxRecDepth 100000 in
set_option maxHeartbeats 4000000 in
theorem xrcDone_any {w : World} {n c m : Nat} {A : Option Addr} {all : List UInt8} (hm : m < 18446744073709551616) (hn : all.length = n) (hr : Rd w A (bvs all)) (hA : A = none → n = 0) (hl : n ≤ 140737488355200) :
    Calls Tryd.prog 68 #[.int .u64 (m : Int), .slice A n c] w fun e w' => ∃ r, e = .returned r ∧ Row w' w.heap.size 5 1 r 512 (bvs (doneB m all)) ∧ Fr [] w w' := by
  have HN := Lib.hid hn
  clear hn
  go_enter Tryd.func68, Tryd.ntmps68
  go_wp2_with fail
  refine (xSum_any A all n c w HN.out hr hA (by omega)).mono ?_
  rintro e w1 ⟨rfl, f1⟩
  obtain ⟨D, hD⟩ : ∃ D, shaSum all = D := ⟨_, rfl⟩
  have hdl : D.length = 32 := by rw [← hD, shaSum_length]
  rw [hD]
  have HDD := Lib.hid (fun _ : Unit => hD)
  have HDL := Lib.hid hdl
  clear hD hdl
  go_upto_region 2 with
    (first
      | (refine wpList_alS stA32 (o := ⟨some 5, _, _, _, _, _⟩) rfl rfl ?_; intro wa ha fa za; have ZA := Lib.hid za; clear za; obtain ⟨g5, hgg⟩ : ∃ g, w1.heap.size = g := ⟨_, rfl⟩; rw [hgg] at ha; rw [hgg]; have HG5 := Lib.hid hgg; clear hgg)
      | (refine wpList_stB stA32 rfl rfl g5 rfl (bvs D) rfl (by rw [bvs_length, HDL.out]) (bvs_one _) (bvs (zB 32)) rfl ha ?_; intro wb hb fb zb; have ZB := Lib.hid zb; clear zb))
  have f2 : Fr [] w1 wb := fa.trans fb (fun i hi => .inr (by have := HG5.out; simp at hi; omega))
  have F := (f1.trans_nil f2).drew
  clear f1 f2 fa fb hr
  refine wp_region_held_drew (S := fun w' => Blk w' g5 70 (bvs D).toArray) (by kernel_rfl) (hb.keep_nil (Fr.refl [] _).drew) (fun hHeld => ?_)
  clear hb
  generalize wb.drew = w6 at *
  refine take_w 2 (some 10) (v := ?_) rfl rfl (by kernel_rfl) (by kernel_rfl) (by kernel_rfl) (fun _ _ _ h => h) (by rfl) ?_ hHeld ?_
  rotate_left
  · (intro w hSw; (try dsimp only at hSw); go_simp; try with_reducible rfl)
  simp only [Act.put, List.setIfInBounds_toArray, List.set_cons_zero, List.set_cons_succ]
  refine take_w 5 (some 13) (v := .slice (some ⟨g5, 0, none⟩) 32 32) rfl rfl (by kernel_rfl) (by kernel_rfl) (by kernel_rfl) (fun _ _ _ h => h) (by rfl) (fun w hSw => by go_simp) hHeld ?_
  try simp only [Act.put, List.setIfInBounds_toArray, List.set_cons_zero, List.set_cons_succ]
  refine take_2r 0 3 rfl rfl (by kernel_rfl) (by rfl) (by rfl) (fun K hK => ?_) (fun K hK => ?_)
  ·
    refine wp_bsR (n := 4) slB rfl (bvs doneM) rfl (by kernel_rfl) (by intro v hv; simp [bvs, doneM, bv] at hv; rcases hv with rfl | rfl | rfl | rfl <;> rfl) (by decide) (by decide) (fun wb D fD zD => hK.out _ _ (hHeld.keep_nil fD) (fun hHx => ?_))
    obtain ⟨g9, hg9⟩ : ∃ g9, w6.heap.size = g9 := ⟨_, rfl⟩
    have NE : g5 ≠ g9 := by have := hHeld.lt; omega
    have LE : w.heap.size ≤ g9 := by have := F.size; omega
    rw [hg9] at D
    try rw [hg9]
    replace F := F.trans_nil fD
    skip
    clear fD zD hg9
    clear hHeld
    have hHeld := hHx
    clear hHx
    clear hK K
    try simp only [Act.put, List.setIfInBounds_toArray, List.set_cons_zero, List.set_cons_succ]
    refine take_2r 1 3 rfl rfl (by kernel_rfl) (by rfl) (by rfl) (fun K hK => ?_) (fun K hK => ?_)
    ·
      refine wp_cvB rfl Tryd.underlying28 Tryd.underlying5 rfl D (fun wv R fv zv => hK.out _ _ (hHeld.keep fv (by simpa using NE)) (fun hHx => ?_))
      replace R := Row.of_lit (l := doneM) (n := 4) rfl R LE (by unfold maxLen; omega)
      replace F := F.trans fv (fun i hi => .inr (by rw [List.mem_singleton.1 hi]; exact LE))
      skip
      clear D fv zv
      clear hHeld
      have hHeld := hHx
      clear hHx
      clear hK K
      try simp only [Act.put, List.setIfInBounds_toArray, List.set_cons_zero, List.set_cons_succ]
      refine take_c 3 rfl (by kernel_rfl) (by rfl) (fun K hK => ?_)
      go_simp
      refine (xrcNumber_any 8 m _ (by omega) hm).mono ?_
      rintro e wn ⟨v, rfl, rn, f⟩
      obtain ⟨An, capn, rfl, -, -, -, -, -⟩ := rn.shape
      (replace R := R.keep_nil f)
      replace F := F.trans_nil f
      refine hK.out _ _ (hHeld.keep_nil f) (fun hHx => ?_)
      clear f
      clear hHeld
      have hHeld := hHx
      clear hHx
      clear hK K
      try simp only [Act.put, List.setIfInBounds_toArray, List.set_cons_zero, List.set_cons_succ]
      refine take_c 4 rfl (by kernel_rfl) (by rfl) (fun K hK => ?_)
      refine wp_app rfl slB w.heap.size _ 4 (bvs doneM) rfl R _ 8 _ (bvs (leB 8 m)) rfl (by rw [bvs_length, leB_length]) rn.rd.1 (bvs_one _) rn.rd.2.2 (by omega) F.size (fun va wa q1 q2 q3 q4 => hK.out _ _ (hHeld.keep q2 (fun hm => R.ne_blk hHeld (by decide) (mem_own.1 hm))) (fun hHx => ?_))
      replace F := F.trans q2 (fun k hk => .inr (R.lt k (mem_own.1 hk)).1)
      rw [← bvs_append, show 4 + 8 = 12 from rfl] at q1
      obtain ⟨Aa, capa, rfl, -, -, -, -, -⟩ := q1.shape
      clear R q2 q3 q4
      have R := q1
      clear q1
      clear hHeld
      have hHeld := hHx
      clear hHx
      clear hK K
      try simp only [Act.put, List.setIfInBounds_toArray, List.set_cons_zero, List.set_cons_succ]
      refine take_c 6 rfl (by kernel_rfl) (by rfl) (fun K hK => ?_)
      refine wp_app rfl slB w.heap.size _ 12 (bvs (doneM ++ leB 8 m)) rfl R _ 32 _ (bvs D) rfl (by rw [bvs_length, HDL.out]) (Rd.ofBm hHeld) (bvs_one _) (fun h => by cases h) (by omega) F.size (fun va wa q1 q2 q3 q4 => hK.out _ _ (hHeld.keep q2 (fun hm => R.ne_blk hHeld (by decide) (mem_own.1 hm))) (fun hHx => ?_))
      replace F := F.trans q2 (fun k hk => .inr (R.lt k (mem_own.1 hk)).1)
      rw [← bvs_append, show 12 + 32 = 44 from rfl] at q1
      obtain ⟨Aa, capa, rfl, -, -, -, -, -⟩ := q1.shape
      clear R q2 q3 q4
      have R := q1
      clear q1
      clear hHeld
      have hHeld := hHx
      clear hHx
      clear hK K
      try simp only [Act.put, List.setIfInBounds_toArray, List.set_cons_zero, List.set_cons_succ]
      have hl : (doneM ++ leB 8 m ++ D).length = 44 := by rw [List.length_append, List.length_append, leB_length, HDL.out]; rfl
      refine take_c 7 rfl (by kernel_rfl) (by rfl) (fun K hK => ?_)
      go_simp
      refine (xrcFill_any hl R (by omega) F.size).mono ?_
      rintro e w9 ⟨r, rfl, r9, f9⟩
      refine hK.out _ _ (hHeld.keep f9 (fun hm => R.ne_blk hHeld (by decide) (mem_own.1 hm))) (fun hHx => ?_)
      replace F := F.trans f9 (fun k hk => .inr (R.lt k (mem_own.1 hk)).1)
      clear R f9 hl rn
      obtain ⟨A9, cap9, rfl, -, -, -, -, -⟩ := r9.shape
      clear hHeld
      have hHeld := hHx
      clear hHx
      clear hK K
      try simp only [Act.put, List.setIfInBounds_toArray, List.set_cons_zero, List.set_cons_succ]
      refine take_w 8 (some 4) (v := ?_) rfl rfl (by kernel_rfl) (by kernel_rfl) (by kernel_rfl) (fun _ _ _ h => h) (by rfl) ?_ hHeld ?_
      rotate_left
      · (intro w hSw; (try dsimp only at hSw); go_simp; try with_reducible rfl)
      simp only [Act.put, List.setIfInBounds_toArray, List.set_cons_zero, List.set_cons_succ]
      refine wpAnyH_done (by kernel_rfl) ?_ _
      go_wp2_with fail
      go_ret
      refine ⟨_, rfl, ?_, F⟩
      rw [doneB, doneR, HDD.out ()]
      exact r9
    ·
      go_simp
      refine (xrcNumber_any 8 m _ (by omega) hm).mono ?_
      rintro e wn ⟨v, rfl, rn, f⟩
      obtain ⟨An, capn, rfl, -, -, -, -, -⟩ := rn.shape
      (have L9 := D.lt; replace D := D.keep_nil f)
      replace F := F.trans_nil f
      refine hK.out _ _ (hHeld.keep_nil f) (fun hHx => ?_)
      clear f
      clear hHeld
      have hHeld := hHx
      clear hHx
      clear hK K
      try simp only [Act.put, List.setIfInBounds_toArray, List.set_cons_zero, List.set_cons_succ]
      refine take_c 1 rfl (by kernel_rfl) (by rfl) (fun K hK => ?_)
      refine wp_cvB rfl Tryd.underlying28 Tryd.underlying5 rfl D (fun wv R fv zv => hK.out _ _ (hHeld.keep fv (by simpa using NE)) (fun hHx => ?_))
      replace R := Row.of_lit (l := doneM) (n := 4) rfl R LE (by unfold maxLen; omega)
      replace F := F.trans fv (fun i hi => .inr (by rw [List.mem_singleton.1 hi]; exact LE))
      (replace rn := rn.keep fv (fun g hg hm => by have := rn.lt g hg; have := List.mem_singleton.1 hm; omega))
      clear D fv zv
      clear hHeld
      have hHeld := hHx
      clear hHx
      clear hK K
      try simp only [Act.put, List.setIfInBounds_toArray, List.set_cons_zero, List.set_cons_succ]
      refine take_c 4 rfl (by kernel_rfl) (by rfl) (fun K hK => ?_)
      refine wp_app rfl slB w.heap.size _ 4 (bvs doneM) rfl R _ 8 _ (bvs (leB 8 m)) rfl (by rw [bvs_length, leB_length]) rn.rd.1 (bvs_one _) rn.rd.2.2 (by omega) F.size (fun va wa q1 q2 q3 q4 => hK.out _ _ (hHeld.keep q2 (fun hm => R.ne_blk hHeld (by decide) (mem_own.1 hm))) (fun hHx => ?_))
      replace F := F.trans q2 (fun k hk => .inr (R.lt k (mem_own.1 hk)).1)
      rw [← bvs_append, show 4 + 8 = 12 from rfl] at q1
      obtain ⟨Aa, capa, rfl, -, -, -, -, -⟩ := q1.shape
      clear R q2 q3 q4
      have R := q1
      clear q1
      clear hHeld
      have hHeld := hHx
      clear hHx
      clear hK K
      try simp only [Act.put, List.setIfInBounds_toArray, List.set_cons_zero, List.set_cons_succ]
      refine take_c 6 rfl (by kernel_rfl) (by rfl) (fun K hK => ?_)
      refine wp_app rfl slB w.heap.size _ 12 (bvs (doneM ++ leB 8 m)) rfl R _ 32 _ (bvs D) rfl (by rw [bvs_length, HDL.out]) (Rd.ofBm hHeld) (bvs_one _) (fun h => by cases h) (by omega) F.size (fun va wa q1 q2 q3 q4 => hK.out _ _ (hHeld.keep q2 (fun hm => R.ne_blk hHeld (by decide) (mem_own.1 hm))) (fun hHx => ?_))
      replace F := F.trans q2 (fun k hk => .inr (R.lt k (mem_own.1 hk)).1)
      rw [← bvs_append, show 12 + 32 = 44 from rfl] at q1
      obtain ⟨Aa, capa, rfl, -, -, -, -, -⟩ := q1.shape
      clear R q2 q3 q4
      have R := q1
      clear q1
      clear hHeld
      have hHeld := hHx
      clear hHx
      clear hK K
      try simp only [Act.put, List.setIfInBounds_toArray, List.set_cons_zero, List.set_cons_succ]
      have hl : (doneM ++ leB 8 m ++ D).length = 44 := by rw [List.length_append, List.length_append, leB_length, HDL.out]; rfl
      refine take_c 7 rfl (by kernel_rfl) (by rfl) (fun K hK => ?_)
      go_simp
      refine (xrcFill_any hl R (by omega) F.size).mono ?_
      rintro e w9 ⟨r, rfl, r9, f9⟩
      refine hK.out _ _ (hHeld.keep f9 (fun hm => R.ne_blk hHeld (by decide) (mem_own.1 hm))) (fun hHx => ?_)
      replace F := F.trans f9 (fun k hk => .inr (R.lt k (mem_own.1 hk)).1)
      clear R f9 hl rn
      obtain ⟨A9, cap9, rfl, -, -, -, -, -⟩ := r9.shape
      clear hHeld
      have hHeld := hHx
      clear hHx
      clear hK K
      try simp only [Act.put, List.setIfInBounds_toArray, List.set_cons_zero, List.set_cons_succ]
      refine take_w 8 (some 4) (v := ?_) rfl rfl (by kernel_rfl) (by kernel_rfl) (by kernel_rfl) (fun _ _ _ h => h) (by rfl) ?_ hHeld ?_
      rotate_left
      · (intro w hSw; (try dsimp only at hSw); go_simp; try with_reducible rfl)
      simp only [Act.put, List.setIfInBounds_toArray, List.set_cons_zero, List.set_cons_succ]
      refine wpAnyH_done (by kernel_rfl) ?_ _
      go_wp2_with fail
      go_ret
      refine ⟨_, rfl, ?_, F⟩
      rw [doneB, doneR, HDD.out ()]
      exact r9
  ·
    go_simp
    refine (xrcNumber_any 8 m _ (by omega) hm).mono ?_
    rintro e wn ⟨v, rfl, rn, f⟩
    obtain ⟨An, capn, rfl, -, -, -, -, -⟩ := rn.shape
    skip
    replace F := F.trans_nil f
    refine hK.out _ _ (hHeld.keep_nil f) (fun hHx => ?_)
    clear f
    clear hHeld
    have hHeld := hHx
    clear hHx
    clear hK K
    try simp only [Act.put, List.setIfInBounds_toArray, List.set_cons_zero, List.set_cons_succ]
    refine take_c 0 rfl (by kernel_rfl) (by rfl) (fun K hK => ?_)
    refine wp_bsR (n := 4) slB rfl (bvs doneM) rfl (by kernel_rfl) (by intro v hv; simp [bvs, doneM, bv] at hv; rcases hv with rfl | rfl | rfl | rfl <;> rfl) (by decide) (by decide) (fun wb D fD zD => hK.out _ _ (hHeld.keep_nil fD) (fun hHx => ?_))
    obtain ⟨g9, hg9⟩ : ∃ g9, wn.heap.size = g9 := ⟨_, rfl⟩
    have NE : g5 ≠ g9 := by have := hHeld.lt; omega
    have LE : w.heap.size ≤ g9 := by have := F.size; omega
    rw [hg9] at D
    try rw [hg9]
    replace F := F.trans_nil fD
    (have RL : ∀ g, (Value.slice An 8 capn).ownBlock = some g → g ≠ g9 := fun g hg => by have := (rn.lt g hg).2; omega); replace rn := rn.keep_nil fD
    clear fD zD hg9
    clear hHeld
    have hHeld := hHx
    clear hHx
    clear hK K
    try simp only [Act.put, List.setIfInBounds_toArray, List.set_cons_zero, List.set_cons_succ]
    refine take_c 1 rfl (by kernel_rfl) (by rfl) (fun K hK => ?_)
    refine wp_cvB rfl Tryd.underlying28 Tryd.underlying5 rfl D (fun wv R fv zv => hK.out _ _ (hHeld.keep fv (by simpa using NE)) (fun hHx => ?_))
    replace R := Row.of_lit (l := doneM) (n := 4) rfl R LE (by unfold maxLen; omega)
    replace F := F.trans fv (fun i hi => .inr (by rw [List.mem_singleton.1 hi]; exact LE))
    (replace rn := rn.keep fv (fun g hg hm => RL g hg (List.mem_singleton.1 hm)))
    clear D fv zv
    clear hHeld
    have hHeld := hHx
    clear hHx
    clear hK K
    try simp only [Act.put, List.setIfInBounds_toArray, List.set_cons_zero, List.set_cons_succ]
    refine take_c 4 rfl (by kernel_rfl) (by rfl) (fun K hK => ?_)
    refine wp_app rfl slB w.heap.size _ 4 (bvs doneM) rfl R _ 8 _ (bvs (leB 8 m)) rfl (by rw [bvs_length, leB_length]) rn.rd.1 (bvs_one _) rn.rd.2.2 (by omega) F.size (fun va wa q1 q2 q3 q4 => hK.out _ _ (hHeld.keep q2 (fun hm => R.ne_blk hHeld (by decide) (mem_own.1 hm))) (fun hHx => ?_))
    replace F := F.trans q2 (fun k hk => .inr (R.lt k (mem_own.1 hk)).1)
    rw [← bvs_append, show 4 + 8 = 12 from rfl] at q1
    obtain ⟨Aa, capa, rfl, -, -, -, -, -⟩ := q1.shape
    clear R q2 q3 q4
    have R := q1
    clear q1
    clear hHeld
    have hHeld := hHx
    clear hHx
    clear hK K
    try simp only [Act.put, List.setIfInBounds_toArray, List.set_cons_zero, List.set_cons_succ]
    refine take_c 6 rfl (by kernel_rfl) (by rfl) (fun K hK => ?_)
    refine wp_app rfl slB w.heap.size _ 12 (bvs (doneM ++ leB 8 m)) rfl R _ 32 _ (bvs D) rfl (by rw [bvs_length, HDL.out]) (Rd.ofBm hHeld) (bvs_one _) (fun h => by cases h) (by omega) F.size (fun va wa q1 q2 q3 q4 => hK.out _ _ (hHeld.keep q2 (fun hm => R.ne_blk hHeld (by decide) (mem_own.1 hm))) (fun hHx => ?_))
    replace F := F.trans q2 (fun k hk => .inr (R.lt k (mem_own.1 hk)).1)
    rw [← bvs_append, show 12 + 32 = 44 from rfl] at q1
    obtain ⟨Aa, capa, rfl, -, -, -, -, -⟩ := q1.shape
    clear R q2 q3 q4
    have R := q1
    clear q1
    clear hHeld
    have hHeld := hHx
    clear hHx
    clear hK K
    try simp only [Act.put, List.setIfInBounds_toArray, List.set_cons_zero, List.set_cons_succ]
    have hl : (doneM ++ leB 8 m ++ D).length = 44 := by rw [List.length_append, List.length_append, leB_length, HDL.out]; rfl
    refine take_c 7 rfl (by kernel_rfl) (by rfl) (fun K hK => ?_)
    go_simp
    refine (xrcFill_any hl R (by omega) F.size).mono ?_
    rintro e w9 ⟨r, rfl, r9, f9⟩
    refine hK.out _ _ (hHeld.keep f9 (fun hm => R.ne_blk hHeld (by decide) (mem_own.1 hm))) (fun hHx => ?_)
    replace F := F.trans f9 (fun k hk => .inr (R.lt k (mem_own.1 hk)).1)
    clear R f9 hl rn
    obtain ⟨A9, cap9, rfl, -, -, -, -, -⟩ := r9.shape
    clear hHeld
    have hHeld := hHx
    clear hHx
    clear hK K
    try simp only [Act.put, List.setIfInBounds_toArray, List.set_cons_zero, List.set_cons_succ]
    refine take_w 8 (some 4) (v := ?_) rfl rfl (by kernel_rfl) (by kernel_rfl) (by kernel_rfl) (fun _ _ _ h => h) (by rfl) ?_ hHeld ?_
    rotate_left
    · (intro w hSw; (try dsimp only at hSw); go_simp; try with_reducible rfl)
    simp only [Act.put, List.setIfInBounds_toArray, List.set_cons_zero, List.set_cons_succ]
    refine wpAnyH_done (by kernel_rfl) ?_ _
    go_wp2_with fail
    go_ret
    refine ⟨_, rfl, ?_, F⟩
    rw [doneB, doneR, HDD.out ()]
    exact r9
end Go.Proofs.YtlelgeigighecaaDoor
/-
  Layer 13 (record): read, Plan.
-/
set_option linter.unusedSimpArgs false
set_option linter.unusedVariables false
set_option linter.unnecessarySimpa false
namespace Go.Proofs.YtlelgeigighecaaDoor
open Go.RowKit

theorem slI13 : SlT Tryd.prog 32 3 1 8 (.int .i64 0) := ⟨Tryd.underlying32, by kernel_rfl, rfl, by decide, by decide⟩
def intsN (l : List UInt8) (n : Nat) : List Int := (List.range n).map fun i => ((leN ((l.drop (4 * i)).take 4) : Nat) : Int)
theorem intsN_len (l : List UInt8) (n : Nat) : (intsN l n).length = n := by simp [intsN]
theorem intsN_succ (l : List UInt8) (n : Nat) : intsN l (n + 1) = intsN l n ++ [((leN ((l.drop (4 * n)).take 4) : Nat) : Int)] := by simp [intsN, List.range_succ]
theorem leN4_lt (l : List UInt8) : leN (l.take 4) < 4294967296 := Nat.lt_of_lt_of_le (leN_take_lt l 4) (by decide)
theorem intsN_in (l : List UInt8) (n : Nat) : ∀ x ∈ intsN l n, in64 x := by
  intro x hx
  simp only [intsN, List.mem_map] at hx
  obtain ⟨i, -, rfl⟩ := hx
  have := leN4_lt (l.drop (4 * i))
  unfold in64
  omega
theorem intsN_take (l : List UInt8) (n k : Nat) (hk : k ≤ n) : (intsN l n).take k = intsN l k := by
  rw [intsN, ← List.map_take, List.take_range, Nat.min_eq_left hk, intsN]

set_option maxHeartbeats 1000000 in
theorem rcRead1_ok {w : World} {p : Nat} {G : List Nat} {l : List UInt8} (h : Rdr 108 w p G l false) (h4 : 4 ≤ l.length) :
    Calls Tryd.prog 93 #[.pointer (some ⟨p, 0, none⟩)] w fun e w' => e = .returned (.int .i64 (leN (l.take 4))) ∧ Rdr 108 w' p G (l.drop 4) false ∧ Fr [p] w w' := by
  go_enter Tryd.func93, Tryd.ntmps93
  go_wp2_with fail
  refine (rUint_ok h 4 h4 rfl).mono ?_
  rintro e w' ⟨rfl, h1, h2⟩
  have hx := leN4_lt l
  obtain ⟨x, hxx⟩ : ∃ x, leN (l.take 4) = x := ⟨_, rfl⟩
  rw [hxx] at hx ⊢
  have HX := Lib.hid hxx
  clear hxx
  have U : IntKind.i64.wrap (x : Int) = x := by rw [IntKind.wrap_i64]; omega
  go_wp2_with fail
  go_ret
  exact ⟨by rw [HX.out]; rfl, h1, h2⟩

theorem rdr_badc {T : TypeId} {w : World} {p : Nat} {G : List Nat} {l : List UInt8} {bad : Bool} (h : Rdr T w p G l bad) : w.cell? ⟨p, 1, none⟩ = some (.bool bad) ∧ w.frozen? ⟨p, 1, none⟩ = false := by
  obtain ⟨A, c, h1, _⟩ := h
  exact ⟨by have := h1.cell 1; simpa using this, h1.frozen 1⟩

set_option maxRecDepth 100000 in
set_option maxHeartbeats 1000000 in
theorem getI_ok {w : World} {p : Nat} {G : List Nat} {l : List UInt8} (h : Rdr 108 w p G l false) (n : Nat) (hn : n ≤ 64) (hl : 4 * n ≤ l.length) (hG : ∀ g ∈ G, g < w.heap.size) (hpG : ∀ g ∈ G, g ≠ p) :
    Calls Tryd.prog 92 #[.pointer (some ⟨p, 0, none⟩), .int .i64 n, .func (.func 93) #[] #[]] w fun e w' => ∃ v, e = .returned v ∧ Row w' w.heap.size 3 1 v n (zvs (intsN l n)) ∧ Rdr 108 w' p G (l.drop (4 * n)) false ∧ Fr [p] w w' := by
  have d1 : decide ((n : Int) < 0) = false := by simp
  have hp := h.lt
  obtain ⟨ln, hln⟩ : ∃ ln, l.length = ln := ⟨_, rfl⟩
  rw [hln] at hl
  have HLN := Lib.hid hln
  go_enter Tryd.func92, Tryd.ntmps92
  go_wp2_with fail
  have cl := rLeft_any h
  rw [hln] at cl
  clear hln
  refine cl.mono ?_
  clear cl
  rintro e w' ⟨rfl, rfl⟩
  have d2 : decide (ln < n) = false := by simp; omega
  go_wp2_with fail
  go_loopw [7, 23] (fun v i wr => ∃ k : Nat, k ≤ n ∧ i = .int .i64 k ∧ Row wr w.heap.size 3 1 v k (zvs (intsN l k)) ∧ Rdr 108 wr p G (l.drop (4 * k)) false ∧ Fr [p] w wr) (fun _ i _ => n - (intOf i).toNat)
  case atStart => exact ⟨0, Nat.zero_le _, rfl, Row.nil _ _ _ _, by simpa using h, Fr.refl _ _⟩
  case round =>
    obtain ⟨k, hk, rfl, hrow, hrd, f⟩ := hrel
    obtain ⟨c1, f1⟩ := rdr_badc hrd
    by_cases hlt : k < n
    · obtain ⟨A7, cap7, rfl, -, -, -, -, -⟩ := hrow.shape
      go_wp2_with fail
      have cc := rcRead1_ok hrd (by rw [List.length_drop, HLN.out]; omega)
      rw [List.drop_drop] at cc
      have HT := Lib.hid (show zvs (intsN l (k + 1)) = zvs (intsN l k) ++ [.int .i64 ((leN ((l.drop (4 * k)).take 4) : Nat) : Int)] by rw [intsN_succ, zvs_append]; rfl)
      generalize leN ((l.drop (4 * k)).take 4) = x at *
      refine cc.mono ?_
      clear cc
      rintro e w2 ⟨rfl, g1, g2⟩
      have hrow2 := hrow.keep g2 (fun g hg => by have := hrow.lt g hg; simp; omega)
      go_wp2_with (at_builtin; refine wpList_app rfl rfl slI13 w.heap.size (.slice A7 k cap7) k (zvs (intsN l k)) rfl (hrow2.alloc _) _ 1 1 [_] rfl rfl (Rd.one _ _ _) (by intro u hu; rw [List.mem_singleton.1 hu]; rfl) (fun h => by cases h) (by omega) (by have := f.size; have := g2.size; simp; omega) ?_; intro v3 w3 q1 q2 q3 q4)
      have q2' := q2
      refine ⟨⟨k + 1, by omega, by go_num, by rw [HT.out]; exact q1, ?_, ?_⟩, by simp [intOf]; omega⟩
      · have g3 := g1.keep ((Fr.refl [] _).alloc (.cells #[.int .i64 x] 3)) (by simp) (by simp)
        rw [show 4 * (k + 1) = 4 * k + 4 by omega]
        refine g3.keep q2' (fun hm => ?_) (fun g hg hm => ?_)
        · have := (hrow.lt _ (mem_own.1 hm)).1; omega
        · have := (hrow.lt _ (mem_own.1 hm)).1; have := hG g hg; omega
      · refine (f.trans_same g2).trans (((Fr.refl [] _).alloc _).nil.trans q2' (fun i hi => .inl hi)) (fun i hi => .inr ?_)
        exact (hrow.lt i (mem_own.1 hi)).1
    · obtain rfl : k = n := by omega
      go_wp2_with fail
      go_ret
      exact ⟨_, rfl, hrow, hrd, f⟩

def plN (l : List UInt8) : Nat := leN ((l.drop 4).take 8)
def plC (l : List UInt8) : Nat := leN ((l.drop 12).take 2)
def plT (l : List UInt8) : Nat := leN ((l.drop 14).take 8)
def plL (l : List UInt8) : List Int := intsN (l.drop 22) (plC l)
theorem plN_lt (l : List UInt8) : plN l < 18446744073709551616 := Nat.lt_of_lt_of_le (leN_take_lt _ _) (by decide)
theorem plT_lt (l : List UInt8) : plT l < 18446744073709551616 := Nat.lt_of_lt_of_le (leN_take_lt _ _) (by decide)
theorem plC_lt (l : List UInt8) : plC l < 65536 := Nat.lt_of_lt_of_le (leN_take_lt _ _) (by decide)
theorem plL_len (l : List UInt8) : (plL l).length = plC l := intsN_len _ _
def plOk (l : List UInt8) : Prop := plC l ≤ 64 ∧ (64 ≤ plC l ∨ plT l / 2 ^ plC l = 0) ∧ allZ (l.drop (22 + 4 * plC l)) = true ∧ l.take 4 = planM ∧ plN l ≠ 0 ∧ rightF (plL l) = true
instance (l : List UInt8) : Decidable (plOk l) := by unfold plOk; infer_instance
/-- What bytes say as a plan: number, blocks, which are turned. -/
def plV (l : List UInt8) : Option (Nat × List Int × Nat) := if l.length = 512 ∧ plOk l then some (plN l, plL l, plT l) else none
theorem plV_none {l : List UInt8} (h : ¬ (l.length = 512 ∧ plOk l)) : plV l = none := if_neg h
theorem plV_some {l : List UInt8} (h1 : l.length = 512) (h : plOk l) : plV l = some (plN l, plL l, plT l) := if_pos ⟨h1, h⟩
/-- A plan's parts. -/
def PartC (w : World) (l : List UInt8) (e : Ending) (w' : World) : Prop :=
  ∃ v, e = .returned (.tuple #[.int .u64 ((((plV l).getD (0, [], 0)).1 : Nat) : Int), v, .int .u64 ((((plV l).getD (0, [], 0)).2.2 : Nat) : Int), .int .i64 (errG (plV l).isSome 110)]) ∧
    Row w' w.heap.size 3 1 v ((plV l).getD (0, [], 0)).2.1.length (zvs ((plV l).getD (0, [], 0)).2.1) ∧ Fr [] w w'
theorem PartC.no {w w' : World} {l : List UInt8} (h : plV l = none) (f : Fr [] w w') : PartC w l (.returned (.tuple #[.int .u64 0, .slice none 0 0, .int .u64 0, .int .i64 110])) w' := by
  unfold PartC
  rw [h]
  exact ⟨_, rfl, Row.nil _ _ _ _, f⟩
theorem PartC.yes {w w' : World} {l : List UInt8} {n t : Nat} {L : List Int} {v : Value} {k : Nat} (h : plV l = some (n, L, t)) (hk : L.length = k) (r : Row w' w.heap.size 3 1 v k (zvs L)) (f : Fr [] w w') : PartC w l (.returned (.tuple #[.int .u64 (n : Int), v, .int .u64 (t : Int), .int .i64 0])) w' := by
  unfold PartC
  rw [h]
  subst hk
  exact ⟨_, rfl, r, f⟩

theorem leB_leN13 : ∀ l : List UInt8, leB l.length (leN l) = l := by
  intro l
  refine List.ext_getElem (by rw [leB_length]) fun k h1 h2 => ?_
  rw [leB_length] at h1
  have hp : 0 < 256 ^ k := Nat.pow_pos (by omega)
  have e : leN l = leN (l.take k) + 256 ^ k * leN (l.drop k) := by
    conv => lhs; rw [← List.take_append_drop k l]
    rw [leN_append, List.length_take, Nat.min_eq_left (by omega)]
  have e2 : leN l / 256 ^ k = leN (l.drop k) := by
    rw [e, Nat.add_mul_div_left _ _ hp, Nat.div_eq_of_lt (leN_take_lt l k), Nat.zero_add]
  have e3 : leN (l.drop k) % 256 = l[k].toNat := by
    rw [List.drop_eq_getElem_cons h1]
    simp only [leN]
    have := l[k].toNat_lt
    omega
  simp only [leB, List.getElem_map, List.getElem_range, e2, e3]
  simp
theorem leN_leB13 (n x : Nat) (h : x < 256 ^ n) : leN (leB n x) = x := by
  have key : ∀ n x, leN (leB n x) = x % 256 ^ n := by
    intro n
    induction n with
    | zero => intro x; simp [leB, leN, Nat.mod_one]
    | succ n ih =>
      intro x
      rw [leB_succ, leN_append, ih, leB_length]
      simp only [leN, Nat.mul_zero, Nat.add_zero]
      rw [UInt8.toNat_ofNat', Nat.mod_mod, Nat.pow_succ, Nat.mod_mul]
  rw [key, Nat.mod_eq_of_lt h]
theorem leB_at13 (l : List UInt8) (i n : Nat) (h : i + n ≤ l.length) : leB n (leN ((l.drop i).take n)) = (l.drop i).take n := by
  have := leB_leN13 ((l.drop i).take n)
  rwa [List.length_take, List.length_drop, Nat.min_eq_left (by omega)] at this
theorem allZ_iff13 (l : List UInt8) : allZ l = true ↔ l = List.replicate l.length 0 := by
  rw [allZ, List.all_eq_true, List.eq_replicate_iff]
  simp
theorem encI_intsN (l : List UInt8) : ∀ n, 4 * n ≤ l.length → encI (intsN l n) = l.take (4 * n)
  | 0, _ => by simp [encI, intsN]
  | n + 1, h => by
    rw [intsN_succ, encI, List.flatMap_append, ← encI, encI_intsN l n (by omega)]
    simp only [List.flatMap_cons, List.flatMap_nil, List.append_nil, Int.toNat_natCast]
    rw [leB_at13 l (4 * n) 4 (by omega), ← List.take_add]
    rfl
theorem pad_eq {q l : List UInt8} (hl : l.length = 512) (hq : q.length ≤ 512) : pad512 q = l ↔ l.take q.length = q ∧ allZ (l.drop q.length) = true := by
  rw [allZ_iff13, List.length_drop, hl, pad512]
  constructor
  · rintro rfl
    exact ⟨List.take_left' rfl, List.drop_left' rfl⟩
  · rintro ⟨h1, h2⟩
    conv => rhs; rw [← List.take_append_drop q.length l]
    rw [h1, ← h2]
/-- The plan of what bytes say is these bytes. -/
theorem plan_law {l : List UInt8} (hl : l.length = 512) (hc : plC l ≤ 64) : planB (plN l) (plL l) (plT l) = l ↔ l.take 4 = planM ∧ allZ (l.drop (22 + 4 * plC l)) = true := by
  have hlen : (planR (plN l) (plL l) (plT l)).length = 22 + 4 * plC l := by rw [planR_len, plL_len]
  rw [planB, pad_eq hl (by omega), hlen]
  have e : planR (plN l) (plL l) (plT l) = planM ++ (l.drop 4).take (18 + 4 * plC l) := by
    rw [planR, plL_len, plN, plT, show leB 2 (plC l) = (l.drop 12).take 2 from leB_at13 l 12 2 (by omega), leB_at13 l 4 8 (by omega), leB_at13 l 14 8 (by omega)]
    rw [plL, encI_intsN _ _ (by rw [List.length_drop]; omega)]
    rw [show 18 + 4 * plC l = 8 + (2 + (8 + 4 * plC l)) by omega, List.take_add, List.take_add, List.take_add]
    simp only [List.drop_drop, List.append_assoc]
  have e2 : l.take (22 + 4 * plC l) = l.take 4 ++ (l.drop 4).take (18 + 4 * plC l) := by
    rw [show 22 + 4 * plC l = 4 + (18 + 4 * plC l) by omega, List.take_add]
  rw [e, e2]
  constructor
  · rintro ⟨h1, h2⟩
    exact ⟨(List.append_inj h1 (by rw [List.length_take, hl]; rfl)).1, h2⟩
  · rintro ⟨h1, h2⟩
    exact ⟨by rw [h1], h2⟩
theorem right_in {l : List Int} (h : rightF l = true) : ∀ x ∈ l, 0 ≤ x ∧ x < 4096 := by
  simp only [rightF, Bool.and_eq_true, List.all_eq_true] at h
  intro x hx
  have := h.1 x hx
  simp only [inP, Bool.and_eq_true, decide_eq_true_eq] at this
  exact this
end Go.Proofs.YtlelgeigighecaaDoor
/-
  Layer 13 (record): read, Plan.
-/
set_option linter.unusedSimpArgs false
set_option linter.unusedVariables false
set_option linter.unnecessarySimpa false
namespace Go.Proofs.YtlelgeigighecaaDoor
open Go.RowKit

theorem results_tmp4 {fn : Func} {t u v x : Tmp} (h : fn.results = #[.tmp t, .tmp u, .tmp v, .tmp x]) (tmps : Array Value) (P : Program) (w : World) :
    (results fn tmps).run P w = .ok (.tuple #[tmps.getD t undef, tmps.getD u undef, tmps.getD v undef, tmps.getD x undef]) w := by
  simp [results, h]
set_option maxRecDepth 100000 in
set_option maxHeartbeats 4000000 in
theorem rcRead_any (w : World) (A : Option Addr) (l : List UInt8) (n c : Nat) (hn : l.length = n) (hr : Rd w A (bvs l)) (hA : A = none → n = 0) :
    Calls Tryd.prog 69 #[.slice A n c] w (PartC w l) := by
  by_cases h512 : n = 512
  · subst h512
    have HN := Lib.hid hn
    have hcl := plC_lt l
    obtain ⟨k, hk⟩ : ∃ k, plC l = k := ⟨_, rfl⟩
    obtain ⟨t, ht⟩ : ∃ t, plT l = t := ⟨_, rfl⟩
    obtain ⟨m, hm⟩ : ∃ m, plN l = m := ⟨_, rfl⟩
    obtain ⟨q, hq⟩ : ∃ q, l.take 4 = q := ⟨_, rfl⟩
    obtain ⟨L, hL⟩ : ∃ L, plL l = L := ⟨_, rfl⟩
    have HKK := Lib.hid hk
    have HT := Lib.hid ht
    have HM := Lib.hid hm
    have HQ := Lib.hid hq
    have HL := Lib.hid hL
    rw [hk] at hcl
    have U : IntKind.i64.wrap (k : Int) = k := by rw [IntKind.wrap_i64]; omega
    clear hn hk ht hm hq hL
    go_enter Tryd.func69, Tryd.ntmps69
    go_wp2_with fail
    refine (newReader_any A l 512 c w HN.out hr hA (by omega)).mono ?_
    rintro e w1 ⟨p, G, rfl, x1, f1, z1, g1⟩
    go_wp2_with fail
    refine (rBytes_ok x1 4 (by rw [HN.out]; omega)).mono ?_
    rintro e w2 ⟨v2, rfl, r2, x2, f2⟩
    have E2 := r2.str
    rw [show l.take 4 = q from HQ.out] at E2
    have F2 : Fr [] w w2 := f1.trans f2 (fun i hi => .inr (by simp at hi; omega))
    clear r2 x1
    go_wp2_with fail
    have cc := rUint_ok x2 8 (by rw [List.length_drop, HN.out]; omega) rfl
    rw [show leN ((l.drop 4).take 8) = m from HM.out, List.drop_drop] at cc
    refine cc.mono ?_
    clear cc
    rintro e w3 ⟨rfl, x3, f3⟩
    have F3 : Fr [] w w3 := F2.trans f3 (fun i hi => .inr (by simp at hi; omega))
    clear x2 E2 F2
    go_wp2_with fail
    have cc := rUint_ok x3 2 (by rw [List.length_drop, HN.out]; omega) rfl
    rw [show leN ((l.drop (4 + 8)).take 2) = k from HKK.out, List.drop_drop] at cc
    refine cc.mono ?_
    clear cc
    rintro e w4 ⟨rfl, x4, f4⟩
    have F4 : Fr [] w w4 := F3.trans f4 (fun i hi => .inr (by simp at hi; omega))
    clear x3 F3
    go_wp2_with fail
    have cc := rUint_ok x4 8 (by rw [List.length_drop, HN.out]; omega) rfl
    rw [show leN ((l.drop (4 + 8 + 2)).take 8) = t from HT.out, List.drop_drop, show 4 + 8 + 2 + 8 = 22 from rfl] at cc
    refine cc.mono ?_
    clear cc
    rintro e w5 ⟨rfl, x5, f5⟩
    have F5 : Fr [] w w5 := F4.trans f5 (fun i hi => .inr (by simp at hi; omega))
    clear x4 F4
    by_cases h64 : 64 < k
    · have hv : plV l = none := plV_none fun h => by have := h.2.1; rw [HKK.out] at this; omega
      have HV := Lib.hid hv
      clear hv
      go_wp2_with fail
      (try simp only [Exit.inBlock, Exit.then]); refine bodyPost_ret (results_tmp4 rfl _ _ _) rfl ?_
      exact PartC.no HV.out F5
    · have K64 : (k : Int) ≤ 64 := by omega
      have S5 : w1.heap.size ≤ w5.heap.size := Nat.le_trans f2.size (Nat.le_trans f3.size (Nat.le_trans f4.size f5.size))
      have HL2 := Lib.hid (show intsN (l.drop 22) k = L by rw [← HL.out, plL, HKK.out])
      have hLl : L.length = k := by rw [← HL.out, plL_len, HKK.out]
      have hLi : ∀ x ∈ L, in64 x := by rw [← HL2.out]; exact intsN_in _ _
      have HLL := Lib.hid hLl
      have HLI := Lib.hid hLi
      clear hLl hLi f2 f3 f4 f5
      by_cases hts : 64 ≤ k ∨ t / 2 ^ k = 0
      · by_cases hk2 : 64 ≤ k
        · have HTS := Lib.hid hts
          clear hts
          go_wp2_with fail
          have cc := getI_ok x5 k (by omega) (by rw [List.length_drop, HN.out]; omega) (fun g hg => by have := g1 g hg; omega) (fun g hg => (g1 g hg).2.2)
          rw [HL2.out, List.drop_drop] at cc
          refine cc.mono ?_
          clear cc
          rintro e w6 ⟨v6, rfl, r6, x6, f6⟩
          have F6 : Fr [] w w6 := F5.trans f6 (fun i hi => .inr (by simp at hi; omega))
          obtain ⟨A6, c6, rfl, -, -, -, -, -⟩ := r6.shape
          go_wp2_with fail
          have cc := rDone_any x6
          cases hz : allZ (l.drop (22 + 4 * k))
          ·
            rw [doneE, hz] at cc
            have HZ := Lib.hid hz
            clear hz
            refine cc.mono ?_
            clear cc
            rintro e w7 ⟨rfl, rfl⟩
            have HV := Lib.hid (show plV l = none from plV_none fun h => (by have := h.2.2.2.1; rw [HKK.out, HZ.out] at this; cases this))
            go_wp2_with fail
            (try simp only [Exit.inBlock, Exit.then]); refine bodyPost_ret (results_tmp4 rfl _ _ _) rfl ?_
            exact PartC.no HV.out F6
          ·
            rw [doneE, hz] at cc
            have HZ := Lib.hid hz
            clear hz
            refine cc.mono ?_
            clear cc
            rintro e w7 ⟨rfl, rfl⟩
            cases hqe : (q == [80, 76, 65, 78])
            ·
              have HQE := Lib.hid hqe
              have HV := Lib.hid (show plV l = none from plV_none fun h => (by have := h.2.2.2.2.1; rw [HQ.out] at this; have h2 := HQE.out; rw [this] at h2; cases h2))
              go_wp2_with fail
              (try simp only [Exit.inBlock, Exit.then]); refine bodyPost_ret (results_tmp4 rfl _ _ _) rfl ?_
              exact PartC.no HV.out F6
            ·
              have HQE := Lib.hid hqe
              by_cases hm0 : m = 0
              ·
                subst hm0
                have HV := Lib.hid (show plV l = none from plV_none fun h => (h.2.2.2.2.2.1 HM.out))
                go_wp2_with fail
                (try simp only [Exit.inBlock, Exit.then]); refine bodyPost_ret (results_tmp4 rfl _ _ _) rfl ?_
                exact PartC.no HV.out F6
              ·
                have hmm : ((m : Int) == 0) = false := by rw [beq_eq_false_iff_ne]; omega
                have HM0 := Lib.hid hm0
                clear hm0
                go_wp2_with fail
                have cc := rcRight_any A6 L k c6 w6 HLL.out r6.rd.1 HLI.out (by omega)
                cases hrt : rightF L
                ·
                  rw [hrt] at cc
                  have HR := Lib.hid hrt
                  clear hrt
                  refine cc.mono ?_
                  clear cc
                  rintro e w8 ⟨rfl, f8⟩
                  have HV := Lib.hid (show plV l = none from plV_none fun h => (by have := h.2.2.2.2.2.2; rw [HL.out, HR.out] at this; cases this))
                  go_wp2_with fail
                  (try simp only [Exit.inBlock, Exit.then]); refine bodyPost_ret (results_tmp4 rfl _ _ _) rfl ?_
                  exact PartC.no HV.out (F6.trans_nil f8)
                ·
                  rw [hrt] at cc
                  have HR := Lib.hid hrt
                  clear hrt
                  refine cc.mono ?_
                  clear cc
                  rintro e w8 ⟨rfl, f8⟩
                  have HV := Lib.hid (show plV l = some (m, L, t) by
                    rw [plV_some HN.out, HM.out, HL.out, HT.out]
                    unfold plOk
                    rw [HKK.out, HM.out, HT.out, HQ.out, HL.out]
                    exact ⟨by omega, HTS.out, HZ.out, eq_of_beq HQE.out, HM0.out, HR.out⟩)
                  go_wp2_with fail
                  (try simp only [Exit.inBlock, Exit.then]); refine bodyPost_ret (results_tmp4 rfl _ _ _) rfl ?_
                  exact PartC.yes HV.out HLL.out ((r6.keep_nil f8).mono F5.size) (F6.trans_nil f8)
        · replace hk2 : k < 64 := by omega
          have HTS := Lib.hid hts
          have d : ((t : Int) / 2 ^ k != 0) = false := by
            rcases hts with h | h
            · omega
            · have : (t : Int) / 2 ^ k = ((t / 2 ^ k : Nat) : Int) := by push_cast; rfl
              rw [this, h]
              rfl
          clear hts
          go_wp2_with fail
          have cc := getI_ok x5 k (by omega) (by rw [List.length_drop, HN.out]; omega) (fun g hg => by have := g1 g hg; omega) (fun g hg => (g1 g hg).2.2)
          rw [HL2.out, List.drop_drop] at cc
          refine cc.mono ?_
          clear cc
          rintro e w6 ⟨v6, rfl, r6, x6, f6⟩
          have F6 : Fr [] w w6 := F5.trans f6 (fun i hi => .inr (by simp at hi; omega))
          obtain ⟨A6, c6, rfl, -, -, -, -, -⟩ := r6.shape
          go_wp2_with fail
          have cc := rDone_any x6
          cases hz : allZ (l.drop (22 + 4 * k))
          ·
            rw [doneE, hz] at cc
            have HZ := Lib.hid hz
            clear hz
            refine cc.mono ?_
            clear cc
            rintro e w7 ⟨rfl, rfl⟩
            have HV := Lib.hid (show plV l = none from plV_none fun h => (by have := h.2.2.2.1; rw [HKK.out, HZ.out] at this; cases this))
            go_wp2_with fail
            (try simp only [Exit.inBlock, Exit.then]); refine bodyPost_ret (results_tmp4 rfl _ _ _) rfl ?_
            exact PartC.no HV.out F6
          ·
            rw [doneE, hz] at cc
            have HZ := Lib.hid hz
            clear hz
            refine cc.mono ?_
            clear cc
            rintro e w7 ⟨rfl, rfl⟩
            cases hqe : (q == [80, 76, 65, 78])
            ·
              have HQE := Lib.hid hqe
              have HV := Lib.hid (show plV l = none from plV_none fun h => (by have := h.2.2.2.2.1; rw [HQ.out] at this; have h2 := HQE.out; rw [this] at h2; cases h2))
              go_wp2_with fail
              (try simp only [Exit.inBlock, Exit.then]); refine bodyPost_ret (results_tmp4 rfl _ _ _) rfl ?_
              exact PartC.no HV.out F6
            ·
              have HQE := Lib.hid hqe
              by_cases hm0 : m = 0
              ·
                subst hm0
                have HV := Lib.hid (show plV l = none from plV_none fun h => (h.2.2.2.2.2.1 HM.out))
                go_wp2_with fail
                (try simp only [Exit.inBlock, Exit.then]); refine bodyPost_ret (results_tmp4 rfl _ _ _) rfl ?_
                exact PartC.no HV.out F6
              ·
                have hmm : ((m : Int) == 0) = false := by rw [beq_eq_false_iff_ne]; omega
                have HM0 := Lib.hid hm0
                clear hm0
                go_wp2_with fail
                have cc := rcRight_any A6 L k c6 w6 HLL.out r6.rd.1 HLI.out (by omega)
                cases hrt : rightF L
                ·
                  rw [hrt] at cc
                  have HR := Lib.hid hrt
                  clear hrt
                  refine cc.mono ?_
                  clear cc
                  rintro e w8 ⟨rfl, f8⟩
                  have HV := Lib.hid (show plV l = none from plV_none fun h => (by have := h.2.2.2.2.2.2; rw [HL.out, HR.out] at this; cases this))
                  go_wp2_with fail
                  (try simp only [Exit.inBlock, Exit.then]); refine bodyPost_ret (results_tmp4 rfl _ _ _) rfl ?_
                  exact PartC.no HV.out (F6.trans_nil f8)
                ·
                  rw [hrt] at cc
                  have HR := Lib.hid hrt
                  clear hrt
                  refine cc.mono ?_
                  clear cc
                  rintro e w8 ⟨rfl, f8⟩
                  have HV := Lib.hid (show plV l = some (m, L, t) by
                    rw [plV_some HN.out, HM.out, HL.out, HT.out]
                    unfold plOk
                    rw [HKK.out, HM.out, HT.out, HQ.out, HL.out]
                    exact ⟨by omega, HTS.out, HZ.out, eq_of_beq HQE.out, HM0.out, HR.out⟩)
                  go_wp2_with fail
                  (try simp only [Exit.inBlock, Exit.then]); refine bodyPost_ret (results_tmp4 rfl _ _ _) rfl ?_
                  exact PartC.yes HV.out HLL.out ((r6.keep_nil f8).mono F5.size) (F6.trans_nil f8)
      · have hv : plV l = none := plV_none fun h => by have := h.2.2.1; rw [HKK.out, HT.out] at this; exact hts this
        have HV := Lib.hid hv
        have hk2 : k < 64 := by omega
        have d : ((t : Int) / 2 ^ k != 0) = true := by
          have h : t / 2 ^ k ≠ 0 := fun h => hts (.inr h)
          have : (t : Int) / 2 ^ k = ((t / 2 ^ k : Nat) : Int) := by push_cast; rfl
          rw [this]
          simp only [bne_iff_ne]
          omega
        clear hv
        go_wp2_with fail
        (try simp only [Exit.inBlock, Exit.then]); refine bodyPost_ret (results_tmp4 rfl _ _ _) rfl ?_
        exact PartC.no HV.out F5
  · have hv : plV l = none := plV_none fun h => by omega
    have HV := Lib.hid hv
    have d : ((n : Int) == 512) = false := by rw [beq_eq_false_iff_ne]; omega
    clear hv hn
    go_enter Tryd.func69, Tryd.ntmps69
    go_wp2_with fail
    (try simp only [Exit.inBlock, Exit.then]); refine bodyPost_ret (results_tmp4 rfl _ _ _) rfl ?_
    exact PartC.no HV.out (Fr.refl _ _)
end Go.Proofs.YtlelgeigighecaaDoor
