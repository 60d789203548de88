/-
  Contracts of layer 11: the reference's Encode.
-/
import Derived.Test.YtlelgeigighecaaDoorHeadE
set_option linter.unusedSimpArgs false
set_option linter.unusedVariables false
set_option linter.unnecessarySimpa false
namespace Go.Proofs.YtlelgeigighecaaDoor
open Go.RowKit

section
variable {P : Program} {ops : Array Oper} {Q : Exit → Act → World → Prop} {S : World → Prop}
/-- One of two may come up (calls among them). -/
theorem take_2c {md : Region.Mode} (i j : Nat) {oi oj : Oper} {fuel : Nat} {listed : Array Bool} {a : Act} {w : World} (hi : ops[i]? = some oi) (hj : ops[j]? = some oj) (hr : Region.ready md ops listed = [i, j])
    (hwi : Region.wanted oi (yielded ops a.tmps) = true) (hwj : Region.wanted oj (yielded ops a.tmps) = true)
    (h1 : ∀ K' : Act → World → Prop, Shut (∀ a w, S w → (S w → wpAnyH P md ops Q S fuel (listed.setIfInBounds i true) a w) → K' a w) → Oper.wp P oi a w K' Q)
    (h2 : ∀ K' : Act → World → Prop, Shut (∀ a w, S w → (S w → wpAnyH P md ops Q S fuel (listed.setIfInBounds j true) a w) → K' a w) → Oper.wp P oj a w K' Q) : wpAnyH P md ops Q S (fuel + 1) listed a w :=
  wpAnyH_ready hr (by simp) (AllReadyH.cons hi (fun K' hK => by rw [if_pos hwi]; exact h1 K' hK) (AllReadyH.cons hj (fun K' hK => by rw [if_pos hwj]; exact h2 K' hK) AllReadyH.nil))
end

/-- A slice's literal of elements of one cell. -/
theorem run_bsL {P : Program} {w : World} {ts t : TypeId} {bytes : Nat} {z : Value} (hT : SlT P ts t 1 bytes z) (vs : List Value) (hv : ∀ v ∈ vs, v.cells.size = 1) (hne : 0 < vs.length) (hsm : vs.length ≤ 2 ^ 24) :
    (Instr.buildSlice ts vs.length ((vs.zipIdx 0).map fun x => (x.2, x.1)).toArray).run P w = .ok (.slice (some ⟨w.heap.size, 0, none⟩) vs.length vs.length) (w.alloc (.cells (vs.flatMap fun v => v.cells.toList).toArray t)) := by
  obtain ⟨i, hi, hz, hs, -⟩ := info_parts hT.info
  have h0 : ¬ (vs.length * 1 = 0) := by omega
  have hbig : ¬ (2 ^ 24 < vs.length * 1) := by omega
  have hf := Great.fill_whole (s := 1) (by omega) vs ((Array.range (vs.length * 1)).map (z.cells[· % z.cells.size]!)) hv (by simp)
  have hzv : ∀ w, (zeroValue t).run P w = .ok z w := fun w => by simp [zeroValue, typeInfo, hi, hz]
  unfold Instr.buildSlice
  simp only [Sem.run_bind, run_underlying hT.und, Result.andThen_ok, sizeOf, typeInfo, run_program, hi, Sem.run_pure, hs, gt_iff_lt, hbig, if_false, h0, hzv, hf, newRow, newObj]
  rfl
theorem wp_bsL {P : Program} {o : Oper} {a : Act} {w : World} {K : Act → World → Prop} {Q : Exit → Act → World → Prop} {ts t : TypeId} {bytes : Nat} {z : Value} {n : Nat} {ps : Array (Nat × Operand)} (hT : SlT P ts t 1 bytes z) (ho : o.op = .buildSlice ts n ps) (vs : List Value) (hn : vs.length = n) (hx : (ps.map fun (i, x) => (i, a.eval x)) = ((vs.zipIdx 0).map fun x => (x.2, x.1)).toArray) (hv : ∀ v ∈ vs, v.cells = #[v]) (hne : 0 < vs.length) (hsm : vs.length ≤ 2 ^ 24)
    (h : ∀ w', Blk w' w.heap.size t vs.toArray → Fr [] w w' → w'.heap.size = w.heap.size + 1 → K (a.put o.dst (.slice (some ⟨w.heap.size, 0, none⟩) n n)) w') : o.wp P a w K Q := by
  subst hn
  have hr := run_bsL (w := w) hT vs (fun v h => by rw [hv v h]; rfl) hne hsm
  have e : (vs.flatMap fun v => v.cells.toList) = vs := by
    clear hr hx h hne hsm ho
    induction vs with
    | nil => rfl
    | cons v r ih => rw [List.flatMap_cons, hv v (by simp), ih (fun u hu => hv u (List.mem_cons_of_mem _ hu))]; rfl
  rw [e] at hr
  refine wp_val _ (w.alloc (.cells vs.toArray t)) ?_ (h _ (Blk.new _ _ _) ((Fr.refl _ _).alloc _) (by simp))
  unfold execOp
  simp only [ho, Sem.run_bind, Sem.run_pure, Result.andThen_ok, hx, hr]

theorem leB1 {n : Nat} (h : n ≤ 255) : [Value.int .u8 (n : Int)] = bvs (leB 1 n) := by
  have : leB 1 n = [UInt8.ofNat n] := by
    simp [leB]
    rw [Nat.mod_eq_of_lt (by omega)]
  rw [this]
  simp only [bvs, bv, List.map_cons, List.map_nil, UInt8.toNat_ofNat']
  rw [Nat.mod_eq_of_lt (by omega)]
theorem wrapB {n : Nat} (h : n ≤ 255) : IntKind.u8.wrap (n : Int) = n := by rw [IntKind.wrap_u8]; omega
theorem Rd.ofB {w : World} {g : Nat} {t : TypeId} {l : List UInt8} (hb : Blk w g t (bvs l).toArray) : Rd w (some ⟨g, 0, none⟩) (bvs l) := Rd.of_blk hb 0 _ (fun j u hu => by rw [Nat.zero_add]; simpa using hu)

set_option maxRecDepth 100000 in
set_option maxHeartbeats 4000000 in
theorem xhEncode_any (w : World) (h : HeadM) (hs : h.ok) : Calls Tryd.prog 14 #[.agg h.cells.toArray] w (EncH w h) := by
  cases hg : h.good
  · have HG := Lib.hid hg
    have cc := fun w => xhCheck_any h hs w
    rw [hg] at cc
    have CC := Lib.hid cc
    clear cc hg
    go_enter Tryd.func14, Tryd.ntmps14
    go_wp2_with
      (first
        | (refine wpList_boxS rfl rfl h.cells rfl ?_; intro w1 h1 f1 z1; have Z1 := Lib.hid z1; clear z1; obtain ⟨g, hg⟩ : ∃ g, w.heap.size = g := ⟨_, rfl⟩; rw [hg] at h1; rw [hg]; have HGG := Lib.hid hg; clear hg)
        | (refine wpList_ldS stHead rfl rfl g 0 rfl h.cells (HeadM.len hs) h1.range0 ?_))
    refine (CC.out _).mono ?_
    rintro e w2 ⟨rfl, f2⟩
    rw [show errG false 1 = 1 from rfl]
    go_wp2_with fail
    go_ret2
    exact ⟨_, by rw [HG.out]; rfl, by rw [HG.out]; exact Row.nil _ _ _ _, f1.trans_nil f2⟩
  · have HG := Lib.hid hg
    have I := HeadM.in_of hg
    obtain ⟨ns, nl, nj, ne, nt, nm, na, NN⟩ := HeadM.nat_of I
    have HN := Lib.hid NN
    have U1 := wrapN NN.bs.2
    have U3 := wrapN (Nat.le_trans NN.bj.2 (by omega))
    have U6 := wrapN (Nat.le_trans NN.bm.2 (by omega))
    have V2 := wrapB (Nat.le_trans NN.bl.2 (by omega))
    have V4 := wrapB (Nat.le_trans NN.be.2 (by omega))
    have V5 := wrapB (Nat.le_trans NN.bt.2 (by omega))
    have V7 := wrapB (Nat.le_trans NN.ba.2 (by omega))
    have hgen := hs.gen
    have cc := fun w => xhCheck_any h hs w
    rw [hg] at cc
    have CC := Lib.hid cc
    clear cc hg I NN
    have kc := fun (w : World) (C : Array Value) (n c : Nat) => Lib.run_convert_bytes_const (P := Tryd.prog) w 28 5 C n c Tryd.underlying28 Tryd.underlying5
    go_enter Tryd.func14, Tryd.ntmps14
    go_wp2_with
      (first
        | (refine wpList_boxS rfl rfl h.cells rfl ?_; intro w1 h1 f1 z1; have Z1 := Lib.hid z1; clear z1; obtain ⟨g, hg⟩ : ∃ g, w.heap.size = g := ⟨_, rfl⟩; rw [hg] at h1; rw [hg]; have HGG := Lib.hid hg; clear hg)
        | (refine wpList_ldS stHead rfl rfl g 0 rfl h.cells (HeadM.len hs) h1.range0 ?_))
    refine (CC.out _).mono ?_
    rintro e w2 ⟨rfl, f2⟩
    rw [show errG true 1 = 0 from rfl]
    have F2 := f1.trans_nil f2
    have b2 := h1.keep_nil f2
    clear f1 f2 h1
    have fa : Fr [] w2 (w2.alloc (.cells (bvs magicH).toArray 5 (8, 9))) := (Fr.refl _ _).alloc _
    have rm := Row.new w2 (bvs magicH).toArray 5 1 8 (8, 9) (free_end _ _) (by unfold maxLen; omega) rfl F2.size
    have b3 := b2.keep_nil fa
    have F3 := F2.trans_nil fa
    obtain ⟨c0, c1, c2, c3, c4, c5, c6, c7⟩ := head_cellsN HN.out b3
    rw [show (bvs magicH).toArray = #[Value.int .u8 67, Value.int .u8 65, Value.int .u8 83, Value.int .u8 75, Value.int .u8 69, Value.int .u8 84, Value.int .u8 48, Value.int .u8 49] from rfl] at c0
    go_wp2_with fail
    refine (xhNumber_any 8 h.gen _ (by omega) hgen).mono ?_
    rintro e w4 ⟨v4, rfl, r4, f4⟩
    obtain ⟨A4, cap4, rfl, -, -, -, -, -⟩ := r4.shape
    have R4 := rm.keep_nil f4
    have b4 := b3.keep_nil f4
    have F4 := F3.trans_nil f4
    clear rm f4 b3 F3 fa c0 c1 c2 c3 c4 c5 c6 c7 kc b2 F2
    go_wp2_with
      (first
        | (at_builtin; refine wpList_app rfl rfl slB w.heap.size _ 8 (bvs magicH) rfl R4 _ 8 cap4 (bvs (leB 8 h.gen)) rfl (by rw [bvs_length, leB_length]) r4.rd.1 (bvs_one _) r4.rd.2.2 (by omega) F4.size ?_; intro v5 w5 q1 q2 q3 q4))
    have b5 := b4.keep q2 (fun hm => R4.ne_blk b4 (by decide) (mem_own.1 hm))
    have F := F4.trans q2 (fun k hk => .inr (R4.lt k (mem_own.1 hk)).1)
    rw [← bvs_append, show 8 + 8 = 16 from rfl] at q1
    obtain ⟨A5, cap5, rfl, -, -, -, -, -⟩ := q1.shape
    have R := q1
    clear R4 r4 b4 F4 q1 q2 q3 q4
    obtain ⟨q, hq⟩ : ∃ q, magicH ++ leB 8 h.gen = q := ⟨_, rfl⟩
    rw [hq] at R
    have Q5 := Lib.hid (fun _ : Unit => hq)
    clear hq
    obtain ⟨c0, c1, c2, c3, c4, c5, c6, c7⟩ := head_cellsN HN.out b5
    go_upto_region 4 with fail
    go_cut [4] from 15 to 31 (fun v wx => ∃ A c, v = .slice A 23 c ∧ Row wx w.heap.size 5 1 (.slice A 23 c) 23 (bvs (q ++ leB 4 ns ++ leB 1 nl ++ leB 2 nj)) ∧ Blk wx g 27 h.cells.toArray ∧ Fr [] w wx)
    case first =>
     go_wp2_with fail
     refine wp_region_held_drew (S := fun w' => Blk w' g 27 h.cells.toArray) (by kernel_rfl) (b5.keep_nil (Fr.refl [] _).drew) (fun hHeld => ?_)
     replace R := R.keep_nil ((Fr.refl [] w5).drew)
     replace F := F.drew
     clear b5 c0 c1 c2 c3 c4 c5 c6 c7
     generalize w5.drew = w6 at *
     refine take_w 0 (some 15) (v := ?_) rfl rfl (by kernel_rfl) (by kernel_rfl) (by kernel_rfl) (fun _ _ _ h => h) (by rfl) ?_ hHeld ?_
     rotate_left
     · (intro w hSw; (try dsimp only at hSw); go_simp; try with_reducible rfl)
     simp only [Act.put, List.setIfInBounds_toArray, List.set_cons_zero, List.set_cons_succ]
     refine take_w 1 (some 16) (v := ?_) rfl rfl (by kernel_rfl) (by kernel_rfl) (by kernel_rfl) (fun _ _ _ h => h) (by rfl) ?_ hHeld ?_
     rotate_left
     · (intro w hSw; (try dsimp only at hSw); go_simp; try with_reducible rfl)
     simp only [Act.put, List.setIfInBounds_toArray, List.set_cons_zero, List.set_cons_succ]
     refine take_w 6 (some 21) (v := ?_) rfl rfl (by kernel_rfl) (by kernel_rfl) (by kernel_rfl) (fun _ _ _ h => h) (by rfl) ?_ hHeld ?_
     rotate_left
     · (intro w hSw; (try dsimp only at hSw); go_simp; try with_reducible rfl)
     simp only [Act.put, List.setIfInBounds_toArray, List.set_cons_zero, List.set_cons_succ]
     refine take_w 11 (some 26) (v := ?_) rfl rfl (by kernel_rfl) (by kernel_rfl) (by kernel_rfl) (fun _ _ _ h => h) (by rfl) ?_ hHeld ?_
     rotate_left
     · (intro w hSw; (try dsimp only at hSw); go_simp; try with_reducible rfl)
     simp only [Act.put, List.setIfInBounds_toArray, List.set_cons_zero, List.set_cons_succ]
     refine take_w 2 (some 17) (v := .int .i64 (ns:Int)) rfl rfl (by kernel_rfl) (by kernel_rfl) (by kernel_rfl) (fun _ _ _ h => h) (by rfl) (fun w hSw => by obtain ⟨c0, c1, c2, c3, c4, c5, c6, c7⟩ := head_cellsN HN.out hSw; go_simp) hHeld ?_
     try simp only [Act.put, List.setIfInBounds_toArray, List.set_cons_zero, List.set_cons_succ]
     refine take_w 3 (some 18) (v := ?_) rfl rfl (by kernel_rfl) (by kernel_rfl) (by kernel_rfl) (fun _ _ _ h => h) (by rfl) ?_ hHeld ?_
     rotate_left
     · (intro w hSw; (try dsimp only at hSw); go_simp; try with_reducible rfl)
     simp only [Act.put, List.setIfInBounds_toArray, List.set_cons_zero, List.set_cons_succ]
     refine take_w 7 (some 22) (v := .int .i64 (nl:Int)) rfl rfl (by kernel_rfl) (by kernel_rfl) (by kernel_rfl) (fun _ _ _ h => h) (by rfl) (fun w hSw => by obtain ⟨c0, c1, c2, c3, c4, c5, c6, c7⟩ := head_cellsN HN.out hSw; go_simp) hHeld ?_
     try simp only [Act.put, List.setIfInBounds_toArray, List.set_cons_zero, List.set_cons_succ]
     refine take_w 8 (some 23) (v := ?_) rfl rfl (by kernel_rfl) (by kernel_rfl) (by kernel_rfl) (fun _ _ _ h => h) (by rfl) ?_ hHeld ?_
     rotate_left
     · (intro w hSw; (try dsimp only at hSw); go_simp; try with_reducible rfl)
     simp only [Act.put, List.setIfInBounds_toArray, List.set_cons_zero, List.set_cons_succ]
     refine take_w 12 (some 27) (v := .int .i64 (nj:Int)) rfl rfl (by kernel_rfl) (by kernel_rfl) (by kernel_rfl) (fun _ _ _ h => h) (by rfl) (fun w hSw => by obtain ⟨c0, c1, c2, c3, c4, c5, c6, c7⟩ := head_cellsN HN.out hSw; go_simp) hHeld ?_
     try simp only [Act.put, List.setIfInBounds_toArray, List.set_cons_zero, List.set_cons_succ]
     refine take_w 13 (some 28) (v := ?_) rfl rfl (by kernel_rfl) (by kernel_rfl) (by kernel_rfl) (fun _ _ _ h => h) (by rfl) ?_ hHeld ?_
     rotate_left
     · (intro w hSw; (try dsimp only at hSw); go_simp; try with_reducible rfl)
     simp only [Act.put, List.setIfInBounds_toArray, List.set_cons_zero, List.set_cons_succ]
     refine take_2c 4 9 rfl rfl (by kernel_rfl) (by rfl) (by rfl) (fun K hK => ?_) (fun K hK => ?_)
     ·
       go_simp
       refine (xhNumber_any 4 ns _ (by omega) (by have := HN.out.bs; omega)).mono ?_
       rintro e wn ⟨v, rfl, rn, f⟩
       obtain ⟨An, capn, rfl, -, -, -, -, -⟩ := rn.shape
       replace R := R.keep_nil f
       replace F := F.trans_nil f
       skip
       refine hK.out _ _ (hHeld.keep_nil f) (fun hHx => ?_)
       clear f
       clear hHeld
       have hHeld := hHx
       clear hHx
       clear hK K
       try simp only [Act.put, List.setIfInBounds_toArray, List.set_cons_zero, List.set_cons_succ]
       refine take_2c 5 9 rfl rfl (by kernel_rfl) (by rfl) (by rfl) (fun K hK => ?_) (fun K hK => ?_)
       ·
         refine wp_app rfl slB w.heap.size _ 16 (bvs q) rfl R _ 4 _ (bvs (leB 4 ns)) rfl (by rw [bvs_length, leB_length]) rn.rd.1 (bvs_one _) rn.rd.2.2 (by omega) F.size (fun va wa q1 q2 q3 q4 => hK.out _ _ (hHeld.keep q2 (fun hm => R.ne_blk hHeld (by decide) (mem_own.1 hm))) (fun hHx => ?_))
         skip
         replace F := F.trans q2 (fun k hk => .inr (R.lt k (mem_own.1 hk)).1)
         rw [← bvs_append, show 16 + 4 = 20 from rfl] at q1
         obtain ⟨Aa, capa, rfl, -, -, -, -, -⟩ := q1.shape
         clear R q2 q3 q4
         have R := q1
         clear q1
         clear hHeld
         have hHeld := hHx
         clear hHx
         clear hK K
         try simp only [Act.put, List.setIfInBounds_toArray, List.set_cons_zero, List.set_cons_succ]
         refine take_c 9 rfl (by kernel_rfl) (by rfl) (fun K hK => ?_)
         refine wp_bsL (n := 1) slB rfl [.int .u8 (nl:Int)] rfl (by kernel_rfl) (by intro v hv; simp at hv; first | (rw [hv]; rfl) | (rcases hv with rfl | rfl <;> rfl)) (by simp) (by simp) (fun wb D fD zD => hK.out _ _ (hHeld.keep_nil fD) (fun hHx => ?_))
         have G9 : ∀ i, (Value.slice Aa 20 capa).ownBlock = some i → i ≠ wa.heap.size := fun i hi => by have := (R.lt i hi).2; omega
         obtain ⟨g9, hg9⟩ : ∃ g9, wa.heap.size = g9 := ⟨_, rfl⟩
         rw [hg9] at D G9
         try rw [hg9]
         replace R := R.keep_nil fD
         replace F := F.trans_nil fD
         skip
         clear fD zD hg9
         clear hHeld
         have hHeld := hHx
         clear hHx
         clear hK K
         try simp only [Act.put, List.setIfInBounds_toArray, List.set_cons_zero, List.set_cons_succ]
         rw [leB1 (Nat.le_trans HN.out.bl.2 (by omega))] at D
         refine take_c 10 rfl (by kernel_rfl) (by rfl) (fun K hK => ?_)
         refine wp_app rfl slB w.heap.size _ 20 (bvs (q ++ leB 4 ns)) rfl R _ 1 _ (bvs (leB 1 nl)) rfl (by rw [bvs_length, leB_length]) (Rd.ofB D) (bvs_one _) (fun h => by cases h) (by omega) F.size (fun va wa q1 q2 q3 q4 => hK.out _ _ (hHeld.keep q2 (fun hm => R.ne_blk hHeld (by decide) (mem_own.1 hm))) (fun hHx => ?_))
         skip
         replace F := F.trans q2 (fun k hk => .inr (R.lt k (mem_own.1 hk)).1)
         rw [← bvs_append, show 20 + 1 = 21 from rfl] at q1
         obtain ⟨Aa, capa, rfl, -, -, -, -, -⟩ := q1.shape
         clear R q2 q3 q4
         have R := q1
         clear q1
         clear hHeld
         have hHeld := hHx
         clear hHx
         clear hK K
         try simp only [Act.put, List.setIfInBounds_toArray, List.set_cons_zero, List.set_cons_succ]
         clear D G9
         refine take_c 14 rfl (by kernel_rfl) (by rfl) (fun K hK => ?_)
         go_simp
         refine (xhNumber_any 2 nj _ (by omega) (by have := HN.out.bj; omega)).mono ?_
         rintro e wn ⟨v, rfl, rn, f⟩
         obtain ⟨An, capn, rfl, -, -, -, -, -⟩ := rn.shape
         replace R := R.keep_nil f
         replace F := F.trans_nil f
         skip
         refine hK.out _ _ (hHeld.keep_nil f) (fun hHx => ?_)
         clear f
         clear hHeld
         have hHeld := hHx
         clear hHx
         clear hK K
         try simp only [Act.put, List.setIfInBounds_toArray, List.set_cons_zero, List.set_cons_succ]
         refine take_c 15 rfl (by kernel_rfl) (by rfl) (fun K hK => ?_)
         refine wp_app rfl slB w.heap.size _ 21 (bvs (q ++ leB 4 ns ++ leB 1 nl)) rfl R _ 2 _ (bvs (leB 2 nj)) rfl (by rw [bvs_length, leB_length]) rn.rd.1 (bvs_one _) rn.rd.2.2 (by omega) F.size (fun va wa q1 q2 q3 q4 => hK.out _ _ (hHeld.keep q2 (fun hm => R.ne_blk hHeld (by decide) (mem_own.1 hm))) (fun hHx => ?_))
         skip
         replace F := F.trans q2 (fun k hk => .inr (R.lt k (mem_own.1 hk)).1)
         rw [← bvs_append, show 21 + 2 = 23 from rfl] at q1
         obtain ⟨Aa, capa, rfl, -, -, -, -, -⟩ := q1.shape
         clear R q2 q3 q4
         have R := q1
         clear q1
         clear hHeld
         have hHeld := hHx
         clear hHx
         clear hK K
         try simp only [Act.put, List.setIfInBounds_toArray, List.set_cons_zero, List.set_cons_succ]
         refine take_w 16 (some 4) (v := ?_) rfl rfl (by kernel_rfl) (by kernel_rfl) (by kernel_rfl) (fun _ _ _ h => h) (by rfl) ?_ hHeld ?_
         rotate_left
         · (intro w hSw; (try dsimp only at hSw); go_simp; try with_reducible rfl)
         simp only [Act.put, List.setIfInBounds_toArray, List.set_cons_zero, List.set_cons_succ]
         refine wpAnyH_done (by kernel_rfl) ?_ _
         go_wp2_with fail
         go_meet
         exact ⟨_, _, rfl, R, hHeld, F⟩
       ·
         refine wp_bsL (n := 1) slB rfl [.int .u8 (nl:Int)] rfl (by kernel_rfl) (by intro v hv; simp at hv; first | (rw [hv]; rfl) | (rcases hv with rfl | rfl <;> rfl)) (by simp) (by simp) (fun wb D fD zD => hK.out _ _ (hHeld.keep_nil fD) (fun hHx => ?_))
         have G9 : ∀ i, (Value.slice A5 16 cap5).ownBlock = some i → i ≠ wn.heap.size := fun i hi => by have := (R.lt i hi).2; omega
         obtain ⟨g9, hg9⟩ : ∃ g9, wn.heap.size = g9 := ⟨_, rfl⟩
         rw [hg9] at D G9
         try rw [hg9]
         replace R := R.keep_nil fD
         replace F := F.trans_nil fD
         (replace rn := rn.keep_nil fD)
         clear fD zD hg9
         clear hHeld
         have hHeld := hHx
         clear hHx
         clear hK K
         try simp only [Act.put, List.setIfInBounds_toArray, List.set_cons_zero, List.set_cons_succ]
         refine take_c 5 rfl (by kernel_rfl) (by rfl) (fun K hK => ?_)
         refine wp_app rfl slB w.heap.size _ 16 (bvs q) rfl R _ 4 _ (bvs (leB 4 ns)) rfl (by rw [bvs_length, leB_length]) rn.rd.1 (bvs_one _) rn.rd.2.2 (by omega) F.size (fun va wa q1 q2 q3 q4 => hK.out _ _ (hHeld.keep q2 (fun hm => R.ne_blk hHeld (by decide) (mem_own.1 hm))) (fun hHx => ?_))
         (replace D := D.keep q2 (fun hm => G9 _ (mem_own.1 hm) rfl))
         replace F := F.trans q2 (fun k hk => .inr (R.lt k (mem_own.1 hk)).1)
         rw [← bvs_append, show 16 + 4 = 20 from rfl] at q1
         obtain ⟨Aa, capa, rfl, -, -, -, -, -⟩ := q1.shape
         clear R q2 q3 q4
         have R := q1
         clear q1
         clear hHeld
         have hHeld := hHx
         clear hHx
         clear hK K
         try simp only [Act.put, List.setIfInBounds_toArray, List.set_cons_zero, List.set_cons_succ]
         rw [leB1 (Nat.le_trans HN.out.bl.2 (by omega))] at D
         refine take_c 10 rfl (by kernel_rfl) (by rfl) (fun K hK => ?_)
         refine wp_app rfl slB w.heap.size _ 20 (bvs (q ++ leB 4 ns)) rfl R _ 1 _ (bvs (leB 1 nl)) rfl (by rw [bvs_length, leB_length]) (Rd.ofB D) (bvs_one _) (fun h => by cases h) (by omega) F.size (fun va wa q1 q2 q3 q4 => hK.out _ _ (hHeld.keep q2 (fun hm => R.ne_blk hHeld (by decide) (mem_own.1 hm))) (fun hHx => ?_))
         skip
         replace F := F.trans q2 (fun k hk => .inr (R.lt k (mem_own.1 hk)).1)
         rw [← bvs_append, show 20 + 1 = 21 from rfl] at q1
         obtain ⟨Aa, capa, rfl, -, -, -, -, -⟩ := q1.shape
         clear R q2 q3 q4
         have R := q1
         clear q1
         clear hHeld
         have hHeld := hHx
         clear hHx
         clear hK K
         try simp only [Act.put, List.setIfInBounds_toArray, List.set_cons_zero, List.set_cons_succ]
         clear D G9
         refine take_c 14 rfl (by kernel_rfl) (by rfl) (fun K hK => ?_)
         go_simp
         refine (xhNumber_any 2 nj _ (by omega) (by have := HN.out.bj; omega)).mono ?_
         rintro e wn ⟨v, rfl, rn, f⟩
         obtain ⟨An, capn, rfl, -, -, -, -, -⟩ := rn.shape
         replace R := R.keep_nil f
         replace F := F.trans_nil f
         skip
         refine hK.out _ _ (hHeld.keep_nil f) (fun hHx => ?_)
         clear f
         clear hHeld
         have hHeld := hHx
         clear hHx
         clear hK K
         try simp only [Act.put, List.setIfInBounds_toArray, List.set_cons_zero, List.set_cons_succ]
         refine take_c 15 rfl (by kernel_rfl) (by rfl) (fun K hK => ?_)
         refine wp_app rfl slB w.heap.size _ 21 (bvs (q ++ leB 4 ns ++ leB 1 nl)) rfl R _ 2 _ (bvs (leB 2 nj)) rfl (by rw [bvs_length, leB_length]) rn.rd.1 (bvs_one _) rn.rd.2.2 (by omega) F.size (fun va wa q1 q2 q3 q4 => hK.out _ _ (hHeld.keep q2 (fun hm => R.ne_blk hHeld (by decide) (mem_own.1 hm))) (fun hHx => ?_))
         skip
         replace F := F.trans q2 (fun k hk => .inr (R.lt k (mem_own.1 hk)).1)
         rw [← bvs_append, show 21 + 2 = 23 from rfl] at q1
         obtain ⟨Aa, capa, rfl, -, -, -, -, -⟩ := q1.shape
         clear R q2 q3 q4
         have R := q1
         clear q1
         clear hHeld
         have hHeld := hHx
         clear hHx
         clear hK K
         try simp only [Act.put, List.setIfInBounds_toArray, List.set_cons_zero, List.set_cons_succ]
         refine take_w 16 (some 4) (v := ?_) rfl rfl (by kernel_rfl) (by kernel_rfl) (by kernel_rfl) (fun _ _ _ h => h) (by rfl) ?_ hHeld ?_
         rotate_left
         · (intro w hSw; (try dsimp only at hSw); go_simp; try with_reducible rfl)
         simp only [Act.put, List.setIfInBounds_toArray, List.set_cons_zero, List.set_cons_succ]
         refine wpAnyH_done (by kernel_rfl) ?_ _
         go_wp2_with fail
         go_meet
         exact ⟨_, _, rfl, R, hHeld, F⟩
     ·
       refine wp_bsL (n := 1) slB rfl [.int .u8 (nl:Int)] rfl (by kernel_rfl) (by intro v hv; simp at hv; first | (rw [hv]; rfl) | (rcases hv with rfl | rfl <;> rfl)) (by simp) (by simp) (fun wb D fD zD => hK.out _ _ (hHeld.keep_nil fD) (fun hHx => ?_))
       have G9 : ∀ i, (Value.slice A5 16 cap5).ownBlock = some i → i ≠ w6.heap.size := fun i hi => by have := (R.lt i hi).2; omega
       obtain ⟨g9, hg9⟩ : ∃ g9, w6.heap.size = g9 := ⟨_, rfl⟩
       rw [hg9] at D G9
       try rw [hg9]
       replace R := R.keep_nil fD
       replace F := F.trans_nil fD
       skip
       clear fD zD hg9
       clear hHeld
       have hHeld := hHx
       clear hHx
       clear hK K
       try simp only [Act.put, List.setIfInBounds_toArray, List.set_cons_zero, List.set_cons_succ]
       refine take_c 4 rfl (by kernel_rfl) (by rfl) (fun K hK => ?_)
       go_simp
       refine (xhNumber_any 4 ns _ (by omega) (by have := HN.out.bs; omega)).mono ?_
       rintro e wn ⟨v, rfl, rn, f⟩
       obtain ⟨An, capn, rfl, -, -, -, -, -⟩ := rn.shape
       replace R := R.keep_nil f
       replace F := F.trans_nil f
       (replace D := D.keep_nil f)
       refine hK.out _ _ (hHeld.keep_nil f) (fun hHx => ?_)
       clear f
       clear hHeld
       have hHeld := hHx
       clear hHx
       clear hK K
       try simp only [Act.put, List.setIfInBounds_toArray, List.set_cons_zero, List.set_cons_succ]
       refine take_c 5 rfl (by kernel_rfl) (by rfl) (fun K hK => ?_)
       refine wp_app rfl slB w.heap.size _ 16 (bvs q) rfl R _ 4 _ (bvs (leB 4 ns)) rfl (by rw [bvs_length, leB_length]) rn.rd.1 (bvs_one _) rn.rd.2.2 (by omega) F.size (fun va wa q1 q2 q3 q4 => hK.out _ _ (hHeld.keep q2 (fun hm => R.ne_blk hHeld (by decide) (mem_own.1 hm))) (fun hHx => ?_))
       (replace D := D.keep q2 (fun hm => G9 _ (mem_own.1 hm) rfl))
       replace F := F.trans q2 (fun k hk => .inr (R.lt k (mem_own.1 hk)).1)
       rw [← bvs_append, show 16 + 4 = 20 from rfl] at q1
       obtain ⟨Aa, capa, rfl, -, -, -, -, -⟩ := q1.shape
       clear R q2 q3 q4
       have R := q1
       clear q1
       clear hHeld
       have hHeld := hHx
       clear hHx
       clear hK K
       try simp only [Act.put, List.setIfInBounds_toArray, List.set_cons_zero, List.set_cons_succ]
       rw [leB1 (Nat.le_trans HN.out.bl.2 (by omega))] at D
       refine take_c 10 rfl (by kernel_rfl) (by rfl) (fun K hK => ?_)
       refine wp_app rfl slB w.heap.size _ 20 (bvs (q ++ leB 4 ns)) rfl R _ 1 _ (bvs (leB 1 nl)) rfl (by rw [bvs_length, leB_length]) (Rd.ofB D) (bvs_one _) (fun h => by cases h) (by omega) F.size (fun va wa q1 q2 q3 q4 => hK.out _ _ (hHeld.keep q2 (fun hm => R.ne_blk hHeld (by decide) (mem_own.1 hm))) (fun hHx => ?_))
       skip
       replace F := F.trans q2 (fun k hk => .inr (R.lt k (mem_own.1 hk)).1)
       rw [← bvs_append, show 20 + 1 = 21 from rfl] at q1
       obtain ⟨Aa, capa, rfl, -, -, -, -, -⟩ := q1.shape
       clear R q2 q3 q4
       have R := q1
       clear q1
       clear hHeld
       have hHeld := hHx
       clear hHx
       clear hK K
       try simp only [Act.put, List.setIfInBounds_toArray, List.set_cons_zero, List.set_cons_succ]
       clear D G9
       refine take_c 14 rfl (by kernel_rfl) (by rfl) (fun K hK => ?_)
       go_simp
       refine (xhNumber_any 2 nj _ (by omega) (by have := HN.out.bj; omega)).mono ?_
       rintro e wn ⟨v, rfl, rn, f⟩
       obtain ⟨An, capn, rfl, -, -, -, -, -⟩ := rn.shape
       replace R := R.keep_nil f
       replace F := F.trans_nil f
       skip
       refine hK.out _ _ (hHeld.keep_nil f) (fun hHx => ?_)
       clear f
       clear hHeld
       have hHeld := hHx
       clear hHx
       clear hK K
       try simp only [Act.put, List.setIfInBounds_toArray, List.set_cons_zero, List.set_cons_succ]
       refine take_c 15 rfl (by kernel_rfl) (by rfl) (fun K hK => ?_)
       refine wp_app rfl slB w.heap.size _ 21 (bvs (q ++ leB 4 ns ++ leB 1 nl)) rfl R _ 2 _ (bvs (leB 2 nj)) rfl (by rw [bvs_length, leB_length]) rn.rd.1 (bvs_one _) rn.rd.2.2 (by omega) F.size (fun va wa q1 q2 q3 q4 => hK.out _ _ (hHeld.keep q2 (fun hm => R.ne_blk hHeld (by decide) (mem_own.1 hm))) (fun hHx => ?_))
       skip
       replace F := F.trans q2 (fun k hk => .inr (R.lt k (mem_own.1 hk)).1)
       rw [← bvs_append, show 21 + 2 = 23 from rfl] at q1
       obtain ⟨Aa, capa, rfl, -, -, -, -, -⟩ := q1.shape
       clear R q2 q3 q4
       have R := q1
       clear q1
       clear hHeld
       have hHeld := hHx
       clear hHx
       clear hK K
       try simp only [Act.put, List.setIfInBounds_toArray, List.set_cons_zero, List.set_cons_succ]
       refine take_w 16 (some 4) (v := ?_) rfl rfl (by kernel_rfl) (by kernel_rfl) (by kernel_rfl) (fun _ _ _ h => h) (by rfl) ?_ hHeld ?_
       rotate_left
       · (intro w hSw; (try dsimp only at hSw); go_simp; try with_reducible rfl)
       simp only [Act.put, List.setIfInBounds_toArray, List.set_cons_zero, List.set_cons_succ]
       refine wpAnyH_done (by kernel_rfl) ?_ _
       go_wp2_with fail
       go_meet
       exact ⟨_, _, rfl, R, hHeld, F⟩
    case rest =>
      obtain ⟨A6, cap6, rfl, R, b5, F⟩ := hcut
      obtain ⟨qq, hqq⟩ : ∃ qq, q ++ leB 4 ns ++ leB 1 nl ++ leB 2 nj = qq := ⟨_, rfl⟩
      rw [hqq] at R
      have QQ := Lib.hid (fun _ : Unit => hqq)
      clear hqq
      obtain ⟨c0, c1, c2, c3, c4, c5, c6, c7⟩ := head_cellsN HN.out b5
      go_wp2_with fail
      refine wp_region_held_drew (S := fun w' => Blk w' g 27 h.cells.toArray) (by kernel_rfl) (b5.keep_nil (Fr.refl [] _).drew) (fun hHeld => ?_)
      replace R := R.keep_nil ((Fr.refl [] wc).drew)
      replace F := F.drew
      clear b5 c0 c1 c2 c3 c4 c5 c6 c7
      generalize wc.drew = w6 at *
      refine take_w 0 (some 31) (v := ?_) rfl rfl (by kernel_rfl) (by kernel_rfl) (by kernel_rfl) (fun _ _ _ h => h) (by rfl) ?_ hHeld ?_
      rotate_left
      · (intro w hSw; (try dsimp only at hSw); go_simp; try with_reducible rfl)
      simp only [Act.put, List.setIfInBounds_toArray, List.set_cons_zero, List.set_cons_succ]
      refine take_w 1 (some 32) (v := ?_) rfl rfl (by kernel_rfl) (by kernel_rfl) (by kernel_rfl) (fun _ _ _ h => h) (by rfl) ?_ hHeld ?_
      rotate_left
      · (intro w hSw; (try dsimp only at hSw); go_simp; try with_reducible rfl)
      simp only [Act.put, List.setIfInBounds_toArray, List.set_cons_zero, List.set_cons_succ]
      refine take_w 4 (some 35) (v := ?_) rfl rfl (by kernel_rfl) (by kernel_rfl) (by kernel_rfl) (fun _ _ _ h => h) (by rfl) ?_ hHeld ?_
      rotate_left
      · (intro w hSw; (try dsimp only at hSw); go_simp; try with_reducible rfl)
      simp only [Act.put, List.setIfInBounds_toArray, List.set_cons_zero, List.set_cons_succ]
      refine take_w 5 (some 36) (v := ?_) rfl rfl (by kernel_rfl) (by kernel_rfl) (by kernel_rfl) (fun _ _ _ h => h) (by rfl) ?_ hHeld ?_
      rotate_left
      · (intro w hSw; (try dsimp only at hSw); go_simp; try with_reducible rfl)
      simp only [Act.put, List.setIfInBounds_toArray, List.set_cons_zero, List.set_cons_succ]
      refine take_w 10 (some 41) (v := ?_) rfl rfl (by kernel_rfl) (by kernel_rfl) (by kernel_rfl) (fun _ _ _ h => h) (by rfl) ?_ hHeld ?_
      rotate_left
      · (intro w hSw; (try dsimp only at hSw); go_simp; try with_reducible rfl)
      simp only [Act.put, List.setIfInBounds_toArray, List.set_cons_zero, List.set_cons_succ]
      refine take_w 11 (some 42) (v := ?_) rfl rfl (by kernel_rfl) (by kernel_rfl) (by kernel_rfl) (fun _ _ _ h => h) (by rfl) ?_ hHeld ?_
      rotate_left
      · (intro w hSw; (try dsimp only at hSw); go_simp; try with_reducible rfl)
      simp only [Act.put, List.setIfInBounds_toArray, List.set_cons_zero, List.set_cons_succ]
      refine take_w 2 (some 33) (v := .int .i64 (ne:Int)) rfl rfl (by kernel_rfl) (by kernel_rfl) (by kernel_rfl) (fun _ _ _ h => h) (by rfl) (fun w hSw => by obtain ⟨c0, c1, c2, c3, c4, c5, c6, c7⟩ := head_cellsN HN.out hSw; go_simp) hHeld ?_
      try simp only [Act.put, List.setIfInBounds_toArray, List.set_cons_zero, List.set_cons_succ]
      refine take_w 3 (some 34) (v := ?_) rfl rfl (by kernel_rfl) (by kernel_rfl) (by kernel_rfl) (fun _ _ _ h => h) (by rfl) ?_ hHeld ?_
      rotate_left
      · (intro w hSw; (try dsimp only at hSw); go_simp; try with_reducible rfl)
      simp only [Act.put, List.setIfInBounds_toArray, List.set_cons_zero, List.set_cons_succ]
      refine take_w 6 (some 37) (v := .int .i64 (nt:Int)) rfl rfl (by kernel_rfl) (by kernel_rfl) (by kernel_rfl) (fun _ _ _ h => h) (by rfl) (fun w hSw => by obtain ⟨c0, c1, c2, c3, c4, c5, c6, c7⟩ := head_cellsN HN.out hSw; go_simp) hHeld ?_
      try simp only [Act.put, List.setIfInBounds_toArray, List.set_cons_zero, List.set_cons_succ]
      refine take_w 7 (some 38) (v := ?_) rfl rfl (by kernel_rfl) (by kernel_rfl) (by kernel_rfl) (fun _ _ _ h => h) (by rfl) ?_ hHeld ?_
      rotate_left
      · (intro w hSw; (try dsimp only at hSw); go_simp; try with_reducible rfl)
      simp only [Act.put, List.setIfInBounds_toArray, List.set_cons_zero, List.set_cons_succ]
      refine take_w 12 (some 43) (v := .int .i64 (nm:Int)) rfl rfl (by kernel_rfl) (by kernel_rfl) (by kernel_rfl) (fun _ _ _ h => h) (by rfl) (fun w hSw => by obtain ⟨c0, c1, c2, c3, c4, c5, c6, c7⟩ := head_cellsN HN.out hSw; go_simp) hHeld ?_
      try simp only [Act.put, List.setIfInBounds_toArray, List.set_cons_zero, List.set_cons_succ]
      refine take_w 13 (some 44) (v := ?_) rfl rfl (by kernel_rfl) (by kernel_rfl) (by kernel_rfl) (fun _ _ _ h => h) (by rfl) ?_ hHeld ?_
      rotate_left
      · (intro w hSw; (try dsimp only at hSw); go_simp; try with_reducible rfl)
      simp only [Act.put, List.setIfInBounds_toArray, List.set_cons_zero, List.set_cons_succ]
      refine take_c 8 rfl (by kernel_rfl) (by rfl) (fun K hK => ?_)
      refine wp_bsL (n := 2) slB rfl [.int .u8 (ne:Int), .int .u8 (nt:Int)] rfl (by kernel_rfl) (by intro v hv; simp at hv; first | (rw [hv]; rfl) | (rcases hv with rfl | rfl <;> rfl)) (by simp) (by simp) (fun wb D fD zD => hK.out _ _ (hHeld.keep_nil fD) (fun hHx => ?_))
      have G9 : ∀ i, (Value.slice A6 23 cap6).ownBlock = some i → i ≠ w6.heap.size := fun i hi => by have := (R.lt i hi).2; omega
      obtain ⟨g9, hg9⟩ : ∃ g9, w6.heap.size = g9 := ⟨_, rfl⟩
      rw [hg9] at D G9
      try rw [hg9]
      replace R := R.keep_nil fD
      replace F := F.trans_nil fD
      skip
      clear fD zD hg9
      clear hHeld
      have hHeld := hHx
      clear hHx
      clear hK K
      try simp only [Act.put, List.setIfInBounds_toArray, List.set_cons_zero, List.set_cons_succ]
      rw [show [Value.int .u8 (ne : Int), .int .u8 (nt : Int)] = bvs (leB 1 ne ++ leB 1 nt) by rw [bvs_append, ← leB1 (Nat.le_trans HN.out.be.2 (by omega)), ← leB1 (Nat.le_trans HN.out.bt.2 (by omega))]; rfl] at D
      refine take_c 9 rfl (by kernel_rfl) (by rfl) (fun K hK => ?_)
      refine wp_app rfl slB w.heap.size _ 23 (bvs qq) rfl R _ 2 _ (bvs (leB 1 ne ++ leB 1 nt)) rfl (by rw [bvs_length, List.length_append, leB_length, leB_length]) (Rd.ofB D) (bvs_one _) (fun h => by cases h) (by omega) F.size (fun va wa q1 q2 q3 q4 => hK.out _ _ (hHeld.keep q2 (fun hm => R.ne_blk hHeld (by decide) (mem_own.1 hm))) (fun hHx => ?_))
      skip
      replace F := F.trans q2 (fun k hk => .inr (R.lt k (mem_own.1 hk)).1)
      rw [← bvs_append, show 23 + 2 = 25 from rfl] at q1
      obtain ⟨Aa, capa, rfl, -, -, -, -, -⟩ := q1.shape
      clear R q2 q3 q4
      have R := q1
      clear q1
      clear hHeld
      have hHeld := hHx
      clear hHx
      clear hK K
      try simp only [Act.put, List.setIfInBounds_toArray, List.set_cons_zero, List.set_cons_succ]
      clear D G9
      refine take_c 14 rfl (by kernel_rfl) (by rfl) (fun K hK => ?_)
      go_simp
      refine (xhNumber_any 2 nm _ (by omega) (by have := HN.out.bm; omega)).mono ?_
      rintro e wn ⟨v, rfl, rn, f⟩
      obtain ⟨An, capn, rfl, -, -, -, -, -⟩ := rn.shape
      replace R := R.keep_nil f
      replace F := F.trans_nil f
      skip
      refine hK.out _ _ (hHeld.keep_nil f) (fun hHx => ?_)
      clear f
      clear hHeld
      have hHeld := hHx
      clear hHx
      clear hK K
      try simp only [Act.put, List.setIfInBounds_toArray, List.set_cons_zero, List.set_cons_succ]
      refine take_c 15 rfl (by kernel_rfl) (by rfl) (fun K hK => ?_)
      refine wp_app rfl slB w.heap.size _ 25 (bvs (qq ++ (leB 1 ne ++ leB 1 nt))) rfl R _ 2 _ (bvs (leB 2 nm)) rfl (by rw [bvs_length, leB_length]) rn.rd.1 (bvs_one _) rn.rd.2.2 (by omega) F.size (fun va wa q1 q2 q3 q4 => hK.out _ _ (hHeld.keep q2 (fun hm => R.ne_blk hHeld (by decide) (mem_own.1 hm))) (fun hHx => ?_))
      skip
      replace F := F.trans q2 (fun k hk => .inr (R.lt k (mem_own.1 hk)).1)
      rw [← bvs_append, show 25 + 2 = 27 from rfl] at q1
      obtain ⟨Aa, capa, rfl, -, -, -, -, -⟩ := q1.shape
      clear R q2 q3 q4
      have R := q1
      clear q1
      clear hHeld
      have hHeld := hHx
      clear hHx
      clear hK K
      try simp only [Act.put, List.setIfInBounds_toArray, List.set_cons_zero, List.set_cons_succ]
      refine take_w 16 (some 4) (v := ?_) rfl rfl (by kernel_rfl) (by kernel_rfl) (by kernel_rfl) (fun _ _ _ h => h) (by rfl) ?_ hHeld ?_
      rotate_left
      · (intro w hSw; (try dsimp only at hSw); go_simp; try with_reducible rfl)
      simp only [Act.put, List.setIfInBounds_toArray, List.set_cons_zero, List.set_cons_succ]
      refine wpAnyH_done (by kernel_rfl) ?_ _
      clear rn
      obtain ⟨q6, hq6⟩ : ∃ q6, qq ++ (leB 1 ne ++ leB 1 nt) ++ leB 2 nm = q6 := ⟨_, rfl⟩
      rw [hq6] at R
      have Q6 := Lib.hid (fun _ : Unit => hq6)
      clear hq6
      have b6 := hHeld
      clear hHeld
      obtain ⟨c0, c1, c2, c3, c4, c5, c6, c7⟩ := head_cellsN HN.out b6
      go_wp2_with fail
      refine wp_region_held_drew (S := fun w' => Blk w' g 27 h.cells.toArray) (by kernel_rfl) (b6.keep_nil (Fr.refl [] _).drew) (fun hHeld => ?_)
      replace R := R.keep_nil ((Fr.refl [] wa).drew)
      replace F := F.drew
      clear b6 c0 c1 c2 c3 c4 c5 c6 c7
      generalize wa.drew = w6 at *
      refine take_w 0 (some 47) (v := ?_) rfl rfl (by kernel_rfl) (by kernel_rfl) (by kernel_rfl) (fun _ _ _ h => h) (by rfl) ?_ hHeld ?_
      rotate_left
      · (intro w hSw; (try dsimp only at hSw); go_simp; try with_reducible rfl)
      simp only [Act.put, List.setIfInBounds_toArray, List.set_cons_zero, List.set_cons_succ]
      refine take_w 1 (some 48) (v := ?_) rfl rfl (by kernel_rfl) (by kernel_rfl) (by kernel_rfl) (fun _ _ _ h => h) (by rfl) ?_ hHeld ?_
      rotate_left
      · (intro w hSw; (try dsimp only at hSw); go_simp; try with_reducible rfl)
      simp only [Act.put, List.setIfInBounds_toArray, List.set_cons_zero, List.set_cons_succ]
      refine take_w 2 (some 49) (v := ?_) rfl rfl (by kernel_rfl) (by kernel_rfl) (by kernel_rfl) (fun _ _ _ h => h) (by rfl) ?_ hHeld ?_
      rotate_left
      · (intro w hSw; (try dsimp only at hSw); go_simp; try with_reducible rfl)
      simp only [Act.put, List.setIfInBounds_toArray, List.set_cons_zero, List.set_cons_succ]
      refine take_w 7 (some 54) (v := ?_) rfl rfl (by kernel_rfl) (by kernel_rfl) (by kernel_rfl) (fun _ _ _ h => h) (by rfl) ?_ hHeld ?_
      rotate_left
      · (intro w hSw; (try dsimp only at hSw); go_simp; try with_reducible rfl)
      simp only [Act.put, List.setIfInBounds_toArray, List.set_cons_zero, List.set_cons_succ]
      refine take_w 3 (some 50) (v := .int .i64 (na:Int)) rfl rfl (by kernel_rfl) (by kernel_rfl) (by kernel_rfl) (fun _ _ _ h => h) (by rfl) (fun w hSw => by obtain ⟨c0, c1, c2, c3, c4, c5, c6, c7⟩ := head_cellsN HN.out hSw; go_simp) hHeld ?_
      try simp only [Act.put, List.setIfInBounds_toArray, List.set_cons_zero, List.set_cons_succ]
      refine take_w 4 (some 51) (v := ?_) rfl rfl (by kernel_rfl) (by kernel_rfl) (by kernel_rfl) (fun _ _ _ h => h) (by rfl) ?_ hHeld ?_
      rotate_left
      · (intro w hSw; (try dsimp only at hSw); go_simp; try with_reducible rfl)
      simp only [Act.put, List.setIfInBounds_toArray, List.set_cons_zero, List.set_cons_succ]
      refine take_w 8 (some 55) (v := ?_) rfl rfl (by kernel_rfl) (by kernel_rfl) (by kernel_rfl) (fun _ _ _ h => h) (by rfl) ?_ hHeld ?_
      rotate_left
      · (intro w hSw; (try dsimp only at hSw); go_simp; try with_reducible rfl)
      simp only [Act.put, List.setIfInBounds_toArray, List.set_cons_zero, List.set_cons_succ]
      refine take_c 5 rfl (by kernel_rfl) (by rfl) (fun K hK => ?_)
      refine wp_bsL (n := 1) slB rfl [.int .u8 (na:Int)] rfl (by kernel_rfl) (by intro v hv; simp at hv; first | (rw [hv]; rfl) | (rcases hv with rfl | rfl <;> rfl)) (by simp) (by simp) (fun wb D fD zD => hK.out _ _ (hHeld.keep_nil fD) (fun hHx => ?_))
      have G9 : ∀ i, (Value.slice Aa 27 capa).ownBlock = some i → i ≠ w6.heap.size := fun i hi => by have := (R.lt i hi).2; omega
      obtain ⟨g9, hg9⟩ : ∃ g9, w6.heap.size = g9 := ⟨_, rfl⟩
      rw [hg9] at D G9
      try rw [hg9]
      replace R := R.keep_nil fD
      replace F := F.trans_nil fD
      skip
      clear fD zD hg9
      clear hHeld
      have hHeld := hHx
      clear hHx
      clear hK K
      try simp only [Act.put, List.setIfInBounds_toArray, List.set_cons_zero, List.set_cons_succ]
      rw [leB1 (Nat.le_trans HN.out.ba.2 (by omega))] at D
      refine take_c 6 rfl (by kernel_rfl) (by rfl) (fun K hK => ?_)
      refine wp_app rfl slB w.heap.size _ 27 (bvs q6) rfl R _ 1 _ (bvs (leB 1 na)) rfl (by rw [bvs_length, leB_length]) (Rd.ofB D) (bvs_one _) (fun h => by cases h) (by omega) F.size (fun va wa q1 q2 q3 q4 => hK.out _ _ (hHeld.keep q2 (fun hm => R.ne_blk hHeld (by decide) (mem_own.1 hm))) (fun hHx => ?_))
      skip
      replace F := F.trans q2 (fun k hk => .inr (R.lt k (mem_own.1 hk)).1)
      rw [← bvs_append, show 27 + 1 = 28 from rfl] at q1
      obtain ⟨Aa, capa, rfl, -, -, -, -, -⟩ := q1.shape
      clear R q2 q3 q4
      have R := q1
      clear q1
      clear hHeld
      have hHeld := hHx
      clear hHx
      clear hK K
      try simp only [Act.put, List.setIfInBounds_toArray, List.set_cons_zero, List.set_cons_succ]
      clear D G9
      refine take_c 9 rfl (by kernel_rfl) (by rfl) (fun K hK => ?_)
      refine wp_app rfl slB w.heap.size _ 28 (bvs (q6 ++ leB 1 na)) rfl R _ 16 _ (bvs h.nam) rfl (by rw [bvs_length, hs.nam]) (nam_rd hHeld) (bvs_one _) (fun h => by cases h) (by omega) F.size (fun va wa q1 q2 q3 q4 => hK.out _ _ (hHeld.keep q2 (fun hm => R.ne_blk hHeld (by decide) (mem_own.1 hm))) (fun hHx => ?_))
      skip
      replace F := F.trans q2 (fun k hk => .inr (R.lt k (mem_own.1 hk)).1)
      rw [← bvs_append, show 28 + 16 = 44 from rfl] at q1
      obtain ⟨Aa, capa, rfl, -, -, -, -, -⟩ := q1.shape
      clear R q2 q3 q4
      have R := q1
      clear q1
      clear hHeld
      have hHeld := hHx
      clear hHx
      clear hK K
      try simp only [Act.put, List.setIfInBounds_toArray, List.set_cons_zero, List.set_cons_succ]
      refine take_w 10 (some 4) (v := ?_) rfl rfl (by kernel_rfl) (by kernel_rfl) (by kernel_rfl) (fun _ _ _ h => h) (by rfl) ?_ hHeld ?_
      rotate_left
      · (intro w hSw; (try dsimp only at hSw); go_simp; try with_reducible rfl)
      simp only [Act.put, List.setIfInBounds_toArray, List.set_cons_zero, List.set_cons_succ]
      refine wpAnyH_done (by kernel_rfl) ?_ _
      have hq7 : q6 ++ leB 1 na ++ h.nam = h.front := by
        rw [front_eq HN.out, ← Q6.out (), ← QQ.out (), ← Q5.out ()]
        simp only [List.append_assoc]
      rw [hq7] at R
      clear hq7 Q6 QQ Q5 hHeld U1 U3 U6 V2 V4 V5 V7
      go_wp2_with
        (first
          | (at_builtin; refine wpList_appz rfl rfl slB rfl rfl Tryd.underlying3 w.heap.size _ 44 (bvs h.front) rfl R .i64 436 _ rfl (by omega) (by omega) F.size ?_; intro v7 w7 g1 g2 g3))
      have F7 := F.trans g2 (fun k hk => .inr (R.lt k (mem_own.1 hk)).1)
      rw [show List.replicate 436 (Value.int .u8 0) = bvs (List.replicate 436 0) by simp [bvs, bv], ← bvs_append, show 44 + 436 = 480 from rfl, show h.front ++ List.replicate 436 0 = h.body from rfl] at g1
      have hbl := HeadM.body_len hs
      obtain ⟨body, hbd⟩ : ∃ b, h.body = b := ⟨_, rfl⟩
      rw [hbd] at g1 hbl
      have HBD := Lib.hid (fun _ : Unit => hbd)
      have HBL := Lib.hid hbl
      clear hbd hbl R F g2 g3
      obtain ⟨A14, cap14, rfl, -, -, rd14, -, -⟩ := g1.shape
      go_wp2_with fail
      refine (xSum_any A14 body 480 cap14 w7 HBL.out rd14 g1.rd.2.2 (by omega)).mono ?_
      rintro e w15 ⟨rfl, f15⟩
      have F15 := F7.trans_nil f15
      have r15 := g1.keep_nil f15
      have hdl := shaSum_length body
      obtain ⟨D, hD⟩ : ∃ D, shaSum body = D := ⟨_, rfl⟩
      rw [hD] at hdl
      rw [hD]
      have HDD := Lib.hid (fun _ : Unit => hD)
      have HDL := Lib.hid hdl
      clear hD hdl f15 rd14 g1 F7
      go_wp2_with
        (first
          | (refine wpList_alS stA32 (o := ⟨some 5, _, _, _, _, _⟩) rfl rfl ?_; intro w16 h16 f16 z16; have Z16 := Lib.hid z16; clear z16; obtain ⟨g8, hg8⟩ : ∃ g8, w15.heap.size = g8 := ⟨_, rfl⟩; rw [hg8] at h16; rw [hg8]; have HG8 := Lib.hid hg8; clear hg8)
          | (refine wpList_stB stA32 rfl rfl g8 rfl (bvs D) rfl (by rw [bvs_length, HDL.out]) (bvs_one _) (bvs (zB 32)) rfl h16 ?_; intro w17 h17 f17 z17; have Z17 := Lib.hid z17; clear z17; have r17 := (r15.keep_nil f16).keep f17 (fun i hi hm => by have := (r15.lt i hi).2; have := HG8.out; simp at hm; omega); have F17 := (F15.trans_nil f16).trans f17 (fun i hi => .inr (by have := HG8.out; have := F15.size; simp at hi; omega)))
          | (at_builtin; refine wpList_app rfl rfl slB w.heap.size _ 480 (bvs body) rfl r17 _ 32 32 (bvs D) rfl (by rw [bvs_length, HDL.out]) (Rd.of_blk h17 0 _ (fun j u hu => by rw [Nat.zero_add]; simpa using hu)) (bvs_one _) (fun h => by cases h) (by omega) F17.size ?_; intro v18 w18 q1 q2 q3 q4))
      go_ret2
      have hby : h.bytes = body ++ D := by rw [HeadM.bytes, HBD.out (), HDD.out ()]
      refine ⟨_, by rw [HG.out]; rfl, ?_, F17.trans q2 (fun i hi => .inr (r17.lt i (mem_own.1 hi)).1)⟩
      rw [HG.out, if_pos rfl, if_pos rfl, hby, bvs_append]
      exact q1
end Go.Proofs.YtlelgeigighecaaDoor
