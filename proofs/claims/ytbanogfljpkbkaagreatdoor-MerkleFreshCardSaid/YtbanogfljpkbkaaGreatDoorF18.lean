/-
  Texts of this claim, one behind the other: HeadC, HeadE, HeadG, HeadF, HeadJ, TreV.
-/
import Derived.Test.YtbanogfljpkbkaaGreatDoorF9
import Derived.Test.YtbanogfljpkbkaaGreatDoorF13
import Derived.Test.YtbanogfljpkbkaaGreatDoorF8
set_option linter.unusedSimpArgs false
set_option linter.unusedVariables false
set_option linter.unnecessarySimpa false
namespace Go.Proofs.YtbanogfljpkbkaaGreatDoor
section
open Go.RowKit
section
variable {w : World} {g : Nat} {h : HeadM}
theorem par_rng (hb : Blk w g 62 h.cells.toArray) : w.rangeAt g 5 [.int .i64 h.tim, .int .i64 h.mem, .int .i64 h.lan] := hb.range 5 _ (fun j u hu => by
 match j, hu with
 | 0, hu => exact hu
 | 1, hu => exact hu
 | 2, hu => exact hu)
theorem head_cells (hb : Blk w g 62 h.cells.toArray) : w.cell? ⟨g, 0, none⟩ = some (.int .u64 (h.gen : Int)) ∧ w.cell? ⟨g, 1, none⟩ = some (.int .i64 h.sec) ∧ w.cell? ⟨g, 2, none⟩ = some (.int .i64 h.slo) ∧ w.cell? ⟨g, 3, none⟩ = some (.int .i64 h.jou) ∧ w.cell? ⟨g, 4, none⟩ = some (.int .i64 h.seg) ∧ w.cell? ⟨g, 5, none⟩ = some (.int .i64 h.tim) ∧ w.cell? ⟨g, 6, none⟩ = some (.int .i64 h.mem) ∧ w.cell? ⟨g, 7, none⟩ = some (.int .i64 h.lan) :=
 ⟨hb.cell 0, hb.cell 1, hb.cell 2, hb.cell 3, hb.cell 4, hb.cell 5, hb.cell 6, hb.cell 7⟩
end
set_option maxRecDepth 100000 in
set_option maxHeartbeats 4000000 in
theorem xhCheck_any (h : HeadM) (hs : h.ok) (w : World) : Calls Tryz.prog 54 #[.agg h.cells.toArray] w fun e w' => e = .returned (.int .i64 (errG h.good 1)) ∧ Fr [] w w' := by
 cases d0 : ((h.gen : Int) == 0)
 rotate_left
 ·have k : (h.gen : Int) < 1 := by have := eq_of_beq d0; omega
  have H := Lib.hid (show h.good = false by simp [HeadM.good, *])
  go_enter Tryz.func54, Tryz.ntmps54
  go_wp2_with
   (first
    | (refine wpList_boxS rfl rfl h.cells rfl ?_; intro w1 h1 f1 z1; obtain ⟨c0, c1, c2, c3, c4, c5, c6, c7⟩ := head_cells h1; clear z1)
    | (refine wpList_ldS stPar rfl rfl w.heap.size 5 rfl _ rfl (par_rng h1) ?_))
  go_ret
  exact ⟨by rw [H.out]; rfl, f1⟩
 have k0 : ¬ ((h.gen : Int) < 1) := by have := ne_of_beq_false d0; omega
 cases d1 : wth h.sec 1 1024
 ·
  rcases wth_no d1 with k | k
  ·
   have H := Lib.hid (show h.good = false by simp [HeadM.good, *])
   go_enter Tryz.func54, Tryz.ntmps54
   go_wp2_with
    (first
     | (refine wpList_boxS rfl rfl h.cells rfl ?_; intro w1 h1 f1 z1; obtain ⟨c0, c1, c2, c3, c4, c5, c6, c7⟩ := head_cells h1; clear z1)
     | (refine wpList_ldS stPar rfl rfl w.heap.size 5 rfl _ rfl (par_rng h1) ?_))
   go_ret
   exact ⟨by rw [H.out]; rfl, f1⟩
  ·have k' : ¬ (h.sec < 1) := by omega
   have H := Lib.hid (show h.good = false by simp [HeadM.good, *])
   go_enter Tryz.func54, Tryz.ntmps54
   go_wp2_with
    (first
     | (refine wpList_boxS rfl rfl h.cells rfl ?_; intro w1 h1 f1 z1; obtain ⟨c0, c1, c2, c3, c4, c5, c6, c7⟩ := head_cells h1; clear z1)
     | (refine wpList_ldS stPar rfl rfl w.heap.size 5 rfl _ rfl (par_rng h1) ?_))
   go_ret
   exact ⟨by rw [H.out]; rfl, f1⟩
 have k1 := wth_yes d1
 cases d2 : wth h.slo 1 8
 ·
  rcases wth_no d2 with k | k
  ·
   have H := Lib.hid (show h.good = false by simp [HeadM.good, *])
   go_enter Tryz.func54, Tryz.ntmps54
   go_wp2_with
    (first
     | (refine wpList_boxS rfl rfl h.cells rfl ?_; intro w1 h1 f1 z1; obtain ⟨c0, c1, c2, c3, c4, c5, c6, c7⟩ := head_cells h1; clear z1)
     | (refine wpList_ldS stPar rfl rfl w.heap.size 5 rfl _ rfl (par_rng h1) ?_))
   go_ret
   exact ⟨by rw [H.out]; rfl, f1⟩
  ·have k' : ¬ (h.slo < 1) := by omega
   have H := Lib.hid (show h.good = false by simp [HeadM.good, *])
   go_enter Tryz.func54, Tryz.ntmps54
   go_wp2_with
    (first
     | (refine wpList_boxS rfl rfl h.cells rfl ?_; intro w1 h1 f1 z1; obtain ⟨c0, c1, c2, c3, c4, c5, c6, c7⟩ := head_cells h1; clear z1)
     | (refine wpList_ldS stPar rfl rfl w.heap.size 5 rfl _ rfl (par_rng h1) ?_))
   go_ret
   exact ⟨by rw [H.out]; rfl, f1⟩
 have k2 := wth_yes d2
 cases d3 : wth h.jou 16 256
 ·
  rcases wth_no d3 with k | k
  ·
   have H := Lib.hid (show h.good = false by simp [HeadM.good, *])
   go_enter Tryz.func54, Tryz.ntmps54
   go_wp2_with
    (first
     | (refine wpList_boxS rfl rfl h.cells rfl ?_; intro w1 h1 f1 z1; obtain ⟨c0, c1, c2, c3, c4, c5, c6, c7⟩ := head_cells h1; clear z1)
     | (refine wpList_ldS stPar rfl rfl w.heap.size 5 rfl _ rfl (par_rng h1) ?_))
   go_ret
   exact ⟨by rw [H.out]; rfl, f1⟩
  ·have k' : ¬ (h.jou < 16) := by omega
   have H := Lib.hid (show h.good = false by simp [HeadM.good, *])
   go_enter Tryz.func54, Tryz.ntmps54
   go_wp2_with
    (first
     | (refine wpList_boxS rfl rfl h.cells rfl ?_; intro w1 h1 f1 z1; obtain ⟨c0, c1, c2, c3, c4, c5, c6, c7⟩ := head_cells h1; clear z1)
     | (refine wpList_ldS stPar rfl rfl w.heap.size 5 rfl _ rfl (par_rng h1) ?_))
   go_ret
   exact ⟨by rw [H.out]; rfl, f1⟩
 have k3 := wth_yes d3
 cases d4 : wth h.seg 1 16
 ·
  rcases wth_no d4 with k | k
  ·
   have H := Lib.hid (show h.good = false by simp [HeadM.good, *])
   go_enter Tryz.func54, Tryz.ntmps54
   go_wp2_with
    (first
     | (refine wpList_boxS rfl rfl h.cells rfl ?_; intro w1 h1 f1 z1; obtain ⟨c0, c1, c2, c3, c4, c5, c6, c7⟩ := head_cells h1; clear z1)
     | (refine wpList_ldS stPar rfl rfl w.heap.size 5 rfl _ rfl (par_rng h1) ?_))
   go_ret
   exact ⟨by rw [H.out]; rfl, f1⟩
  ·have k' : ¬ (h.seg < 1) := by omega
   have H := Lib.hid (show h.good = false by simp [HeadM.good, *])
   go_enter Tryz.func54, Tryz.ntmps54
   go_wp2_with
    (first
     | (refine wpList_boxS rfl rfl h.cells rfl ?_; intro w1 h1 f1 z1; obtain ⟨c0, c1, c2, c3, c4, c5, c6, c7⟩ := head_cells h1; clear z1)
     | (refine wpList_ldS stPar rfl rfl w.heap.size 5 rfl _ rfl (par_rng h1) ?_))
   go_ret
   exact ⟨by rw [H.out]; rfl, f1⟩
 have k4 := wth_yes d4
 have hw : IntKind.i64.wrap (h.seg + 10) = h.seg + 10 := by rw [IntWalk.i64_in _ (by omega)]
 by_cases d5 : h.jou < h.seg + 10
 ·
  have H := Lib.hid (show h.good = false by simp [HeadM.good, *])
  go_enter Tryz.func54, Tryz.ntmps54
  go_wp2_with
   (first
    | (refine wpList_boxS rfl rfl h.cells rfl ?_; intro w1 h1 f1 z1; obtain ⟨c0, c1, c2, c3, c4, c5, c6, c7⟩ := head_cells h1; clear z1)
    | (refine wpList_ldS stPar rfl rfl w.heap.size 5 rfl _ rfl (par_rng h1) ?_))
  go_ret
  exact ⟨by rw [H.out]; rfl, f1⟩
 have cc := fun w => xaCheck_any h.tim h.mem h.lan w hs.lan
 cases d6 : parG h.tim h.mem h.lan
 ·have H := Lib.hid (show h.good = false by simp [HeadM.good, *])
  rw [d6] at cc
  have CC := Lib.hid cc
  clear cc d6
  go_enter Tryz.func54, Tryz.ntmps54
  go_wp2_with
   (first
    | (refine wpList_boxS rfl rfl h.cells rfl ?_; intro w1 h1 f1 z1; obtain ⟨c0, c1, c2, c3, c4, c5, c6, c7⟩ := head_cells h1; clear z1)
    | (refine wpList_ldS stPar rfl rfl w.heap.size 5 rfl _ rfl (par_rng h1) ?_))
  refine (CC.out _).mono ?_
  rintro e w2 ⟨rfl, f2⟩
  rw [show errG false 80 = 80 from rfl]
  go_wp2_with fail
  go_ret
  exact ⟨by rw [H.out]; rfl, f1.trans_nil f2⟩
 ·have H := Lib.hid (show h.good = true by simp [HeadM.good, *])
  rw [d6] at cc
  have CC := Lib.hid cc
  clear cc d6
  go_enter Tryz.func54, Tryz.ntmps54
  go_wp2_with
   (first
    | (refine wpList_boxS rfl rfl h.cells rfl ?_; intro w1 h1 f1 z1; obtain ⟨c0, c1, c2, c3, c4, c5, c6, c7⟩ := head_cells h1; clear z1)
    | (refine wpList_ldS stPar rfl rfl w.heap.size 5 rfl _ rfl (par_rng h1) ?_))
  refine (CC.out _).mono ?_
  rintro e w2 ⟨rfl, f2⟩
  rw [show errG true 80 = 0 from rfl]
  go_wp2_with fail
  go_ret
  exact ⟨by rw [H.out]; rfl, f1.trans_nil f2⟩
end
section
open Go.RowKit
structure HeadM.Nat (h : HeadM) (s l j e t m a : Nat) : Prop where
 sec : h.sec = s
 slo : h.slo = l
 jou : h.jou = j
 seg : h.seg = e
 tim : h.tim = t
 mem : h.mem = m
 lan : h.lan = a
 bs : 1 ≤ s ∧ s ≤ 1024
 bl : 1 ≤ l ∧ l ≤ 8
 bj : 16 ≤ j ∧ j ≤ 256
 be : 1 ≤ e ∧ e ≤ 16
 bt : 1 ≤ t ∧ t ≤ 8
 bm : 8 ≤ m ∧ m ≤ 256
 ba : 1 ≤ a ∧ a ≤ 4
theorem HeadM.nat_of {h : HeadM} (k : h.In) : ∃ s l j e t m a, h.Nat s l j e t m a := by
 obtain ⟨a, b, c, d, e, f, g, i, j⟩ := k
 refine ⟨h.sec.toNat, h.slo.toNat, h.jou.toNat, h.seg.toNat, h.tim.toNat, h.mem.toNat, h.lan.toNat, ?_⟩
 constructor <;> omega
theorem head_cellsN {w : World} {g : Nat} {h : HeadM} {s l j e t m a : Nat} (N : h.Nat s l j e t m a) (hb : Blk w g 62 h.cells.toArray) : w.cell? ⟨g, 0, none⟩ = some (.int .u64 (h.gen : Int)) ∧ w.cell? ⟨g, 1, none⟩ = some (.int .i64 (s : Int)) ∧ w.cell? ⟨g, 2, none⟩ = some (.int .i64 (l : Int)) ∧ w.cell? ⟨g, 3, none⟩ = some (.int .i64 (j : Int)) ∧ w.cell? ⟨g, 4, none⟩ = some (.int .i64 (e : Int)) ∧ w.cell? ⟨g, 5, none⟩ = some (.int .i64 (t : Int)) ∧ w.cell? ⟨g, 6, none⟩ = some (.int .i64 (m : Int)) ∧ w.cell? ⟨g, 7, none⟩ = some (.int .i64 (a : Int)) := by
 have := head_cells hb
 rwa [N.sec, N.slo, N.jou, N.seg, N.tim, N.mem, N.lan] at this
end
section
open Go.RowKit
def hdrB (l : List UInt8) : Prop := (allZ ((l.take 480).drop 44) = true ∧ l.take 8 = magicH) ∧ shaSum (l.take 480) = l.drop 480
instance (l : List UInt8) : Decidable (hdrB l) := by unfold hdrB; infer_instance
end
section
open Go.RowKit
section
variable {P : Program} {ops : Array Oper} {Q : Exit → Act → World → Prop} {S : World → Prop}
theorem take_2c {md : Region.Mode} (i j : Nat) {oi oj : Oper} {fuel : Nat} {listed : Array Bool} {a : Act} {w : World} (hi : ops[i]? = some oi) (hj : ops[j]? = some oj) (hr : Region.ready md ops listed = [i, j])
  (hwi : Region.wanted oi (yielded ops a.tmps) = true) (hwj : Region.wanted oj (yielded ops a.tmps) = true)
  (h1 : ∀ K' : Act → World → Prop, Shut (∀ a w, S w → (S w → wpAnyH P md ops Q S fuel (listed.setIfInBounds i true) a w) → K' a w) → Oper.wp P oi a w K' Q)
  (h2 : ∀ K' : Act → World → Prop, Shut (∀ a w, S w → (S w → wpAnyH P md ops Q S fuel (listed.setIfInBounds j true) a w) → K' a w) → Oper.wp P oj a w K' Q) : wpAnyH P md ops Q S (fuel + 1) listed a w :=
 wpAnyH_ready hr (by simp) (AllReadyH.cons hi (fun K' hK => by rw [if_pos hwi]; exact h1 K' hK) (AllReadyH.cons hj (fun K' hK => by rw [if_pos hwj]; exact h2 K' hK) AllReadyH.nil))
end
theorem run_bsL {P : Program} {w : World} {ts t : TypeId} {bytes : Nat} {z : Value} (hT : SlT P ts t 1 bytes z) (vs : List Value) (hv : ∀ v ∈ vs, v.cells.size = 1) (hne : 0 < vs.length) (hsm : vs.length ≤ 2 ^ 24) :
  (Instr.buildSlice ts vs.length ((vs.zipIdx 0).map fun x => (x.2, x.1)).toArray).run P w = .ok (.slice (some ⟨w.heap.size, 0, none⟩) vs.length vs.length) (w.alloc (.cells (vs.flatMap fun v => v.cells.toList).toArray t)) := by
 obtain ⟨i, hi, hz, hs, -⟩ := info_parts hT.info
 have h0 : ¬ (vs.length * 1 = 0) := by omega
 have hbig : ¬ (2 ^ 24 < vs.length * 1) := by omega
 have hf := Great.fill_whole (s := 1) (by omega) vs ((Array.range (vs.length * 1)).map (z.cells[· % z.cells.size]!)) hv (by simp)
 have hzv : ∀ w, (zeroValue t).run P w = .ok z w := fun w => by simp [zeroValue, typeInfo, hi, hz]
 unfold Instr.buildSlice
 simp only [Sem.run_bind, run_underlying hT.und, Result.andThen_ok, sizeOf, typeInfo, run_program, hi, Sem.run_pure, hs, gt_iff_lt, hbig, if_false, h0, hzv, hf, newRow, newObj]
 rfl
theorem wp_bsL {P : Program} {o : Oper} {a : Act} {w : World} {K : Act → World → Prop} {Q : Exit → Act → World → Prop} {ts t : TypeId} {bytes : Nat} {z : Value} {n : Nat} {ps : Array (Nat × Operand)} (hT : SlT P ts t 1 bytes z) (ho : o.op = .buildSlice ts n ps) (vs : List Value) (hn : vs.length = n) (hx : (ps.map fun (i, x) => (i, a.eval x)) = ((vs.zipIdx 0).map fun x => (x.2, x.1)).toArray) (hv : ∀ v ∈ vs, v.cells = #[v]) (hne : 0 < vs.length) (hsm : vs.length ≤ 2 ^ 24)
  (h : ∀ w', Blk w' w.heap.size t vs.toArray → Fr [] w w' → w'.heap.size = w.heap.size + 1 → K (a.put o.dst (.slice (some ⟨w.heap.size, 0, none⟩) n n)) w') : o.wp P a w K Q := by
 subst hn
 have hr := run_bsL (w := w) hT vs (fun v h => by rw [hv v h]; rfl) hne hsm
 have e : (vs.flatMap fun v => v.cells.toList) = vs := by
  clear hr hx h hne hsm ho
  induction vs with
  | nil => rfl
  | cons v r ih => rw [List.flatMap_cons, hv v (by simp), ih (fun u hu => hv u (List.mem_cons_of_mem _ hu))]; rfl
 rw [e] at hr
 refine wp_val _ (w.alloc (.cells vs.toArray t)) ?_ (h _ (Blk.new _ _ _) ((Fr.refl _ _).alloc _) (by simp))
 unfold execOp
 simp only [ho, Sem.run_bind, Sem.run_pure, Result.andThen_ok, hx, hr]
end
section
open Go.RowKit
def ivs (l : List Nat) : List Value := l.map fun (n : Nat) => Value.int .i64 (n : Int)
theorem ivs_len (l : List Nat) : (ivs l).length = l.length := by simp [ivs]
theorem ivs_append (a b : List Nat) : ivs (a ++ b) = ivs a ++ ivs b := by simp [ivs]
def layC (a b c d e : Nat) (v : Value) (f g h : Nat) : List Value := [.int .i64 (a : Int), .int .i64 (b : Int), .int .i64 (c : Int), .int .i64 (d : Int), .int .i64 (e : Int), v, .int .i64 (f : Int), .int .i64 (g : Int), .int .i64 (h : Int)]
theorem layC_ones {a b c d e : Nat} {A : Option Addr} {n m : Nat} {f g h : Nat} : ∀ u ∈ layC a b c d e (.slice A n m) f g h, u.oneCell' = true := by
 intro u hu
 simp only [layC, List.mem_cons, List.not_mem_nil, or_false] at hu
 rcases hu with rfl | rfl | rfl | rfl | rfl | rfl | rfl | rfl | rfl <;> rfl
def zeroL : List Value := layC 0 0 0 0 0 (.slice none 0 0) 0 0 0
set_option maxRecDepth 100000 in
theorem stLay : StT Tryz.prog 38 9 zeroL := ⟨⟨_, Tryz.underlying38, rfl⟩, by kernel_rfl, by decide, by kernel_rfl, layC_ones⟩
set_option maxRecDepth 100000 in
theorem layZero (w : World) : (Instr.build 38 #[]).run Tryz.prog w = .ok (.agg zeroL.toArray) w := by kernel_rfl
set_option maxRecDepth 100000 in
theorem layFive (w : World) (b c d e : Nat) : (Instr.build 38 #[(0, .int .i64 2), (1, .int .i64 (b : Int)), (2, .int .i64 (c : Int)), (3, .int .i64 (d : Int)), (4, .int .i64 (e : Int))]).run Tryz.prog w = .ok (.agg (layC 2 b c d e (.slice none 0 0) 0 0 0).toArray) w := by kernel_rfl
theorem slI : SlT Tryz.prog 36 3 1 8 (.int .i64 0) := ⟨Tryz.underlying36, by kernel_rfl, rfl, by decide, by decide⟩
def tagsN (s : Nat) : Nat := (s + 7) / 8
def oneN (s : Nat) : Nat := (tagsN s + 15) / 16
def levN (s : Nat) : List Nat := if oneN s = 1 then [1] else [oneN s, 1]
theorem tagsN_b {s : Nat} (h : 1 ≤ s ∧ s ≤ 1024) : 1 ≤ tagsN s ∧ tagsN s ≤ 128 := by unfold tagsN; omega
theorem oneN_b {s : Nat} (h : 1 ≤ s ∧ s ≤ 1024) : 1 ≤ oneN s ∧ oneN s ≤ 8 := by have := tagsN_b h; unfold oneN; omega
def sumL (l : List Nat) : Nat := l.foldr (· + ·) 0
def layH (s l j : Nat) (v : Value) : List Value :=
 layC 2 (2 + l) (3 + l) (4 + l) (4 + l + j) v (4 + l + j + sumL (levN s)) (4 + l + j + sumL (levN s) + tagsN s) (4 + l + j + sumL (levN s) + tagsN s + s)
def LayH (w : World) (h : HeadM) (e : Ending) (w' : World) : Prop :=
 ∃ v, e = .returned (.tuple #[.agg (if h.good then layH h.sec.toNat h.slo.toNat h.jou.toNat v else zeroL).toArray, .int .i64 (errG h.good 1)]) ∧ Row w' w.heap.size 3 1 v (if h.good then (levN h.sec.toNat).length else 0) (ivs (if h.good then levN h.sec.toNat else [])) ∧ Fr [] w w'
theorem xhUp_any (n k : Nat) (w : World) (hn : n ≤ 1024) (hk : k = 8 ∨ k = 16) : Calls Tryz.prog 55 #[.int .i64 n, .int .i64 k] w fun e w' => e = .returned (.int .i64 (((n + (k - 1)) / k : Nat) : Int)) ∧ w = w' := by
 rcases hk with rfl | rfl
 ·go_enter Tryz.func55, Tryz.ntmps55
  go_wp2
  go_ret
  refine ⟨?_, rfl⟩
  show Ending.returned (.int .i64 _) = _
  congr 2
  omega
 ·go_enter Tryz.func55, Tryz.ntmps55
  go_wp2
  go_ret
  refine ⟨?_, rfl⟩
  show Ending.returned (.int .i64 _) = _
  congr 2
  omega
theorem sumL_append (a b : List Nat) : sumL (a ++ b) = sumL a + sumL b := by
 induction a with
 | nil => simp [sumL]
 | cons x r ih => simp only [List.cons_append, sumL, List.foldr_cons] at *; omega
theorem sumL_one (n : Nat) : sumL [n] = n := rfl
def lenAt (w : World) (g : Nat) : Nat := match w.cell? ⟨g, 5, none⟩ with
 | some (.slice _ m _) => m
 | _ => 0
end
section
open Go.RowKit
set_option maxRecDepth 100000
theorem trIsCount_any (n : Nat) (w : World) (h : 1 ≤ n ∧ n ≤ 4096) : Calls Tryz.prog 103 #[.int .i64 n] w fun e w' => e = .returned (.bool true) ∧ w = w' := by
 have d0 : decide ((n : Int) ≥ 1) = true := by simp; omega
 have d1 : decide ((n : Int) ≤ 4096) = true := by simp; omega
 clear h
 go_enter Tryz.func103, Tryz.ntmps103
 go_wp2_with fail
 go_ret
 exact ⟨rfl, rfl⟩
theorem trUp_any (n : Nat) (w : World) (h : n ≤ 100000) : Calls Tryz.prog 155 #[.int .i64 n] w fun e w' => e = .returned (.int .i64 (upN n : Nat)) ∧ w = w' := by
 have HE := Lib.hid (show ((upN n : Nat) : Int) = ((n : Int) + 16 - 1) / 16 by unfold upN; omega)
 go_enter Tryz.func155, Tryz.ntmps155
 go_wp2_with fail
 go_ret
 exact ⟨by rw [HE.out]; rfl, rfl⟩
theorem trChild_any (g o c i : Nat) (w : World) (hc : 512 ≤ c) (hi : i ≤ 100000) : Calls Tryz.prog 83 #[.slice (some ⟨g, o, none⟩) 512 c, .int .i64 i] w fun e w' => e = .returned (.slice (some ⟨g, o + 32 * (i % 16), none⟩) 32 (c - 32 * (i % 16))) ∧ w = w' := by
 have E1 : (i : Int).tmod 16 = ((i % 16 : Nat) : Int) := (Int.ofNat_tmod _ _).symm
 have hm : i % 16 < 16 := Nat.mod_lt _ (by decide)
 obtain ⟨m, hmm⟩ : ∃ m, i % 16 = m := ⟨_, rfl⟩
 rw [hmm] at E1 hm ⊢
 have E2 : (i : Int) % 16 = (m : Int) := by omega
 clear hmm
 have K1 : 32 * (m : Int) + 32 ≤ c := by omega
 have N1 : ¬ (c = 32 * m) := by omega
 go_enter Tryz.func83, Tryz.ntmps83
 go_wp2_with fail
 rw [show 32 * m + 32 - 32 * m = 32 by omega]
 go_ret
 exact ⟨rfl, rfl⟩
def LevC (w : World) (n : Nat) (e : Ending) (w' : World) : Prop := ∃ v, e = .returned v ∧ Row w' w.heap.size 3 1 v (levsN n).length (ivs (levsN n)) ∧ Fr [] w w'
set_option maxHeartbeats 1000000 in
theorem trLevels_any (n : Nat) (w : World) (h : 1 ≤ n ∧ n ≤ 128) : Calls Tryz.prog 104 #[.int .i64 n] w (LevC w n) := by
 have hu := upN_b h
 have huu := upup h
 have c0 := trIsCount_any n w (by omega)
 have c1 := fun w => trUp_any n w (by omega)
 have c2 := fun w => trUp_any (upN n) w (by omega)
 have c3 := fun w => trUp_any 1 w (by omega)
 rw [huu] at c2
 rw [show upN 1 = 1 from rfl] at c3
 have HL1 := Lib.hid (show upN n = 1 → levsN n = [1] from fun h => if_pos h)
 have HL2 := Lib.hid (show upN n ≠ 1 → levsN n = [upN n, 1] from fun h => if_neg h)
 obtain ⟨u, hU⟩ : ∃ u, upN n = u := ⟨_, rfl⟩
 rw [hU] at hu HL1 HL2 c1 c2
 have C1 := Lib.hid c1
 have C2 := Lib.hid c2
 have C3 := Lib.hid c3
 clear hU huu c1 c2 c3
 go_enter Tryz.func104, Tryz.ntmps104
 go_wp2_with fail
 refine c0.mono ?_
 rintro e w1 ⟨rfl, rfl⟩
 go_wp2_with fail
 refine (C1.out _).mono ?_
 rintro e w1 ⟨rfl, rfl⟩
 go_wp2_with fail
 refine (C1.out _).mono ?_
 rintro e w1 ⟨rfl, rfl⟩
 have r1 : Row (w.alloc (.cells #[.int .i64 (u : Int)] 3)) w.heap.size 3 1 (.slice (some ⟨w.heap.size, 0, none⟩) 1 1) 1 (ivs [u]) := Row.new w #[.int .i64 (u : Int)] 3 1 1 (0, 0) (free_zero _) (by unfold maxLen; omega) rfl (Nat.le_refl _)
 have f1 : Fr [] w (w.alloc (.cells #[.int .i64 (u : Int)] 3)) := (Fr.refl _ _).alloc _
 go_wp2_with fail
 go_loopw [0, 3] (fun i v wr => Fr [] w wr ∧ ((i = .int .i64 (u : Int) ∧ Row wr w.heap.size 3 1 v 1 (ivs [u])) ∨ (u ≠ 1 ∧ i = .int .i64 ((1 : Nat) : Int) ∧ Row wr w.heap.size 3 1 v 2 (ivs [u, 1])))) (fun i _ _ => (intOf i).toNat)
 case atStart => exact ⟨f1, .inl ⟨rfl, r1⟩⟩
 case round =>
  clear r1 f1
  obtain ⟨F, ⟨rfl, R⟩ | ⟨hu1, rfl, R⟩⟩ := hrel
  ·by_cases hu1 : u = 1
   ·subst hu1
    have HLL := Lib.hid (HL1.out rfl)
    obtain ⟨A3, c3, rfl, -, -, -, -, -⟩ := R.shape
    go_wp2_with fail
    go_ret
    exact ⟨_, rfl, by rw [HLL.out]; exact R, F⟩
   ·have d0 : (1 : Int) < u := by omega
    obtain ⟨A3, c3, rfl, -, -, -, -, -⟩ := R.shape
    go_wp2_with fail
    refine (C2.out _).mono ?_
    rintro e w2 ⟨rfl, rfl⟩
    go_wp2_with (at_builtin; refine wpList_app rfl rfl slI w.heap.size _ 1 (ivs [u]) rfl (R.alloc _) _ 1 1 [_] rfl rfl (Rd.one _ _ _) (by intro u hu; rw [List.mem_singleton.1 hu]; rfl) (fun h => by cases h) (by omega) (by have := F.size; simp; omega) ?_; intro v7 w7 q1 q2 q3 q4)
    refine (C2.out _).mono ?_
    rintro e w8 ⟨rfl, rfl⟩
    obtain ⟨A7, c7, rfl, -, -, -, -, -⟩ := q1.shape
    have F7 : Fr [] w w7 := (F.alloc _).trans q2 (fun i hi => .inr (R.lt i (mem_own.1 hi)).1)
    go_wp2_with fail
    exact ⟨⟨F7, .inr ⟨hu1, rfl, q1⟩⟩, by simp [intOf]; omega⟩
  ·have HLL := Lib.hid (HL2.out hu1)
   obtain ⟨A3, c3, rfl, -, -, -, -, -⟩ := R.shape
   go_wp2_with fail
   go_ret
   exact ⟨_, rfl, by rw [HLL.out]; exact R, F⟩
set_option maxHeartbeats 1000000 in
theorem xtLevels_any (n : Nat) (w : World) (h : 1 ≤ n ∧ n ≤ 128) : Calls Tryz.prog 51 #[.int .i64 n] w (LevC w n) := by
 have hu := upN_b h
 have huu := upup h
 have HL1 := Lib.hid (show upN n = 1 → levsN n = [1] from fun h => if_pos h)
 have HL2 := Lib.hid (show upN n ≠ 1 → levsN n = [upN n, 1] from fun h => if_neg h)
 have E1 : ((n : Int) + 15) / 16 = ((upN n : Nat) : Int) := by unfold upN; omega
 have E2 : (((upN n : Nat) : Int) + 15) / 16 = ((1 : Nat) : Int) := by rw [← huu]; unfold upN; omega
 obtain ⟨u, hU⟩ : ∃ u, upN n = u := ⟨_, rfl⟩
 rw [hU] at hu HL1 HL2 E1 E2
 clear hU huu
 have d0 : decide ((n : Int) < 1) = false := by simp; omega
 have d1 : decide ((n : Int) > 4096) = false := by simp; omega
 go_enter Tryz.func51, Tryz.ntmps51
 go_wp2_with fail
 clear d0 d1
 go_loopw [0, 3] (fun i v wr => Fr [] w wr ∧ ((i = .int .i64 (u : Int) ∧ v = .slice none 0 0) ∨ (u ≠ 1 ∧ i = .int .i64 ((1 : Nat) : Int) ∧ Row wr w.heap.size 3 1 v 1 (ivs [u])))) (fun i _ _ => (intOf i).toNat)
 case atStart => exact ⟨Fr.refl _ _, .inl ⟨by rw [E1], rfl⟩⟩
 case round =>
  clear E1
  obtain ⟨F, ⟨rfl, rfl⟩ | ⟨hu1, rfl, R⟩⟩ := hrel
  ·by_cases hu1 : u = 1
   ·subst hu1
    have HLL := Lib.hid (HL1.out rfl)
    go_wp2_with (at_builtin; refine wpList_app rfl rfl slI w.heap.size _ 0 [] rfl (Row.nil _ _ _ _) _ 1 1 [_] rfl rfl (Rd.one _ _ _) (by intro u hu; rw [List.mem_singleton.1 hu]; rfl) (fun h => by cases h) (by omega) (by have := F.size; simp; omega) ?_; intro v7 w7 q1 q2 q3 q4)
    obtain ⟨A7, c7, rfl, -, -, -, -, -⟩ := q1.shape
    go_wp2_with fail
    go_ret
    exact ⟨_, rfl, by rw [HLL.out]; exact q1, (F.alloc _).trans q2 (fun i hi => (own_nil.1 hi).elim)⟩
   ·have d0 : (1 : Int) < u := by omega
    go_wp2_with (at_builtin; refine wpList_app rfl rfl slI w.heap.size _ 0 [] rfl (Row.nil _ _ _ _) _ 1 1 [_] rfl rfl (Rd.one _ _ _) (by intro u hu; rw [List.mem_singleton.1 hu]; rfl) (fun h => by cases h) (by omega) (by have := F.size; simp; omega) ?_; intro v7 w7 q1 q2 q3 q4)
    obtain ⟨A7, c7, rfl, -, -, -, -, -⟩ := q1.shape
    have F7 : Fr [] w w7 := (F.alloc _).trans q2 (fun i hi => (own_nil.1 hi).elim)
    exact ⟨⟨F7, .inr ⟨hu1, by rw [E2], q1⟩⟩, by simp [intOf]; omega⟩
  ·have HLL := Lib.hid (HL2.out hu1)
   obtain ⟨A3, c3, rfl, -, -, -, -, -⟩ := R.shape
   go_wp2_with (at_builtin; refine wpList_app rfl rfl slI w.heap.size _ 1 (ivs [u]) rfl (R.alloc _) _ 1 1 [_] rfl rfl (Rd.one _ _ _) (by intro u hu; rw [List.mem_singleton.1 hu]; rfl) (fun h => by cases h) (by omega) (by have := F.size; simp; omega) ?_; intro v7 w7 q1 q2 q3 q4)
   obtain ⟨A7, c7, rfl, -, -, -, -, -⟩ := q1.shape
   go_wp2_with fail
   go_ret
   exact ⟨_, rfl, by rw [HLL.out]; exact q1, (F.alloc _).trans q2 (fun i hi => .inr (R.lt i (mem_own.1 hi)).1)⟩
end
end Go.Proofs.YtbanogfljpkbkaaGreatDoor
