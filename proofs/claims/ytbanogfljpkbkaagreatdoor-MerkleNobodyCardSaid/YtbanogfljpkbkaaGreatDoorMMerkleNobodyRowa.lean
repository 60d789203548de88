/-
  Texts of this claim, one behind the other: RowB, RowH, Row17, MerS.
-/
import Derived.Test.YtbanogfljpkbkaaGreatDoorM25
import Derived.ChangeArms
import Derived.DataReads
import Derived.Test.YtbanogfljpkbkaaGreatDoorM5
import Derived.OpenShut
import Derived.Test.YtbanogfljpkbkaaGreatDoorM24
set_option linter.unusedSimpArgs false
set_option linter.unusedVariables false
set_option linter.unnecessarySimpa false
namespace Go.Proofs.YtbanogfljpkbkaaGreatDoor
section
open Go.ChangeShapes Go.WideShapes Go.ChangeAt Go.RowKit
section
variable {H : Type} {enc : TypeId × Value → H} {P : Program} {W : World} {fuel : Nat} {held : Bool}
structure ArgS (enc : TypeId × Value → H) (P : Program) (W : World) (held : Bool) (e : TypeId) (A : Option Addr) (n cap : Nat) (els : List (List Value)) : Prop where
 len : els.length = n
 rd : 0 < n → ∃ g o, A = some ⟨g, o, none⟩ ∧ g < W.heap.size ∧ ∀ i (hi : i < els.length) j, j < P.cellsOf e → W.cell? ⟨g, o + i * P.cellsOf e + j, none⟩ = els[i][j]?
 nil : A = none → n = 0
 le : n ≤ cap
 cap : cap ≤ maxLen
 reach : n * P.bytesOf e ≤ 140737488351232
 each : ∀ x ∈ els, x.length = P.cellsOf e ∧ ∃ m y, DataW.trod enc P W 0 (fun _ => true) held m e x = some y ∧ (DataW.weights P e y.1).all (· ≤ reachBytes) = true
theorem weightsAll_mem {e : TypeId} : ∀ {l : List (DataW H)} {d : DataW H}, d ∈ l → ∀ n ∈ d.weights P e, n ∈ DataW.weightsAll P e l
 | d0 :: l, d, hd, n, hn => by
  rw [DataW.weightsAll, List.mem_append]
  rcases List.mem_cons.1 hd with rfl | h
  ·exact .inl hn
  ·exact .inr (weightsAll_mem h n hn)
theorem open_elems {t e : TypeId} {cs : List Value} {x : DataW H × List MemPlace} (ht : P.underlying t = some (.slice e)) (hpos : 0 < P.cellsOf e)
  (h : DataW.trod enc P W 0 (fun _ => true) held fuel t cs = some x) (hw : (DataW.weights P t x.1).all (· ≤ reachBytes) = true) :
  ∃ A n cap els, cs = [.slice A n cap] ∧ ArgS enc P W held e A n cap els := by
 rcases DataW.trod_slice ht h with ⟨rfl, rfl⟩ | ⟨a, len, cap, elems, rest, k, _, rfl, hx, hb, hl, hm, hlen, hel, hsp, _⟩
 ·exact ⟨none, 0, 0, [], rfl, ⟨rfl, fun h => by omega, fun _ => rfl, Nat.le_refl _, by unfold maxLen; omega, by omega, by simp⟩⟩
 ·have hread : ∀ i, i < len → ∃ cs' y, W.cells? 0 (a.add (i * P.cellsOf e)) (P.cellsOf e) = some cs' ∧ DataW.trod enc P W 0 (fun _ => true) held k e cs' = some y ∧ elems[i]? = some y := by
   intro i hi
   have h1 := hel i hi
   have h2 : elems[i]? = some elems[i] := List.getElem?_eq_getElem (by omega)
   rw [h2] at h1
   obtain ⟨cs', e1, e2⟩ := Option.bind_eq_some_iff.1 h1
   exact ⟨cs', _, e1, e2, h2⟩
  obtain ⟨els, hels⟩ : ∃ els : List (List Value), els = (List.range len).map fun i => (W.cells? 0 (a.add (i * P.cellsOf e)) (P.cellsOf e)).getD [] := ⟨_, rfl⟩
  have hel2 : els.length = len := by rw [hels]; simp
  have hat : ∀ i (hi : i < els.length), W.cells? 0 (a.add (i * P.cellsOf e)) (P.cellsOf e) = some els[i] := by
   intro i hi
   obtain ⟨cs', y, e1, _⟩ := hread i (by omega)
   subst hels
   simp [e1]
  refine ⟨some a, len, cap, els, rfl, ⟨hel2, fun hn => ?_, fun h => (by cases h), hl, hm, ?_, fun z hz => ?_⟩⟩
  ·obtain ⟨g, o, sp⟩ := a
   have h0 := World.cells?_some (hat 0 (by omega))
   have c0 := h0.2.2 0 hpos
   rw [List.getElem?_eq_getElem (by omega)] at c0
   have hspot : sp = none := by simpa [Addr.add] using World.cell?_spot c0
   subst hspot
   refine ⟨g, o, rfl, ?_, fun i hi j hj => ?_⟩
   ·have := World.block_lt_of_cell? W _ c0
    simpa [Addr.add] using this
   ·have h1 := (World.cells?_some (hat i hi)).2.2 j hj
    rw [addr_add, addr_add] at h1
    exact h1
  ·rw [hx] at hw
   have h2 := List.all_eq_true.1 hw (((elems.map (·.1)).length + (rest.map (·.1)).length) * P.bytesOf e) (by simp [DataW.weights, ht])
   have h3 : (elems.length + rest.length) * P.bytesOf e ≤ 140737488351232 := by simpa [reachBytes] using h2
   exact Nat.le_trans (Nat.mul_le_mul_right _ (by omega)) h3
  ·obtain ⟨i, hi, rfl⟩ := List.getElem_of_mem hz
   obtain ⟨cs', y, e1, e2, e3⟩ := hread i (by omega)
   have e4 := hat i hi
   rw [e1] at e4
   cases e4
   refine ⟨(World.cells?_some e1).2.1, k, y, e2, ?_⟩
   rw [hx] at hw
   rw [List.all_eq_true] at hw ⊢
   intro n hn
   refine hw n ?_
   simp only [DataW.weights, ht, List.mem_cons, List.mem_append]
   exact .inr (.inl (weightsAll_mem (List.mem_map.2 ⟨y, List.mem_of_getElem? e3, rfl⟩) n hn))
theorem open_field {t : TypeId} {fs : Array Field} {cs : List Value} {x : DataW H × List MemPlace} (ht : P.underlying t = some (.struct fs))
  (h : DataW.trod enc P W 0 (fun _ => true) held fuel t cs = some x) (hw : (DataW.weights P t x.1).all (· ≤ reachBytes) = true) (i : Nat) (ft : TypeId) (off : Nat) (hf : (fs[i]?).map (fun f => (f.type, f.offset)) = some (ft, off)) :
  cs.length = P.cellsOf t ∧ ∃ m y, DataW.trod enc P W 0 (fun _ => true) held m ft ((cs.drop off).take (P.cellsOf ft)) = some y ∧ (DataW.weights P ft y.1).all (· ≤ reachBytes) = true := by
 obtain ⟨f, hf', e⟩ := Option.map_eq_some_iff.1 hf
 simp only [Prod.mk.injEq] at e
 obtain ⟨rfl, rfl⟩ := e
 obtain ⟨xs, m, _, hx, hcl, hxl, hall⟩ := DataW.trod_struct ht h
 have h1 := hall i f hf'
 have hi : i < fs.size := (Array.getElem?_eq_some_iff.1 hf').1
 have h2 : xs[i]? = some xs[i] := List.getElem?_eq_getElem (by omega)
 rw [h2] at h1
 refine ⟨hcl, m, _, h1, ?_⟩
 rw [hx] at hw
 simp only [DataW.weights, ht] at hw
 refine weights_at (j := i) hw ?_ ?_
 ·simp [hf']
 ·simp [h2]
end
end
section
open Go.ChangeShapes Go.WideShapes Go.ChangeAt Go.RowKit
section
variable {H : Type} {enc : TypeId × Value → H} {P : Program} {W : World} {held : Bool}
theorem open_barrH {fuel n : Nat} {t e : TypeId} {cs : List Value} {x : DataW H × List MemPlace} (ht : P.underlying t = some (.array n e)) (he : P.underlying e = some (.int .u8)) (hc : P.cellsOf e = 1) (hn : P.cellsOf t = n)
  (h : DataW.trod enc P W 0 (fun _ => true) held fuel t cs = some x) : ∃ l : List UInt8, l.length = n ∧ cs = bvs l := by
 obtain ⟨xs, m, _, _, hl, hx, hall⟩ := DataW.trod_array ht h
 rw [hn] at hl
 have each : ∀ i (hi : i < cs.length), ∃ b : UInt8, cs[i] = bv b := by
  intro i hi
  have h1 := hall i (by omega)
  rw [hc, Nat.mul_one] at h1
  have h2 : (cs.drop i).take 1 = [cs[i]] := by rw [List.take_one, List.head?_drop, List.getElem?_eq_getElem hi]; rfl
  rw [h2, List.getElem?_eq_getElem (by omega)] at h1
  obtain ⟨z, e1, _, r⟩ := DataW.trod_int he h1
  obtain ⟨b, rfl⟩ := wf_u8 r
  simp only [List.cons.injEq, and_true] at e1
  exact ⟨b, e1⟩
 clear hall hx
 have key : ∀ (cs : List Value), (∀ i (hi : i < cs.length), ∃ b : UInt8, cs[i] = bv b) → ∃ l : List UInt8, cs = bvs l := by
  intro cs
  induction cs with
  | nil => exact fun _ => ⟨[], rfl⟩
  | cons v r ih =>
   intro hh
   obtain ⟨b, hb⟩ := hh 0 (by simp)
   obtain ⟨l, hl⟩ := ih (fun i hi => by
    obtain ⟨b, hb⟩ := hh (i + 1) (by simp; omega)
    exact ⟨b, by simpa using hb⟩)
   exact ⟨b :: l, by rw [hl]; simp at hb; rw [hb]; rfl⟩
 obtain ⟨l, rfl⟩ := key cs each
 exact ⟨l, by rw [bvs_length] at hl; exact hl, rfl⟩
end
end
section
open Go.ChangeShapes Go.WideShapes Go.ChangeAt Go.RowKit
structure O17 where
 kind : Int
 n : Int
 A : Option Addr
 m : Nat
 c : Nat
 l : List UInt8
 bad : Bool
def O17.cells (o : O17) : List Value := [.int .i64 o.kind, .int .i64 o.n, .slice o.A o.m o.c, .bool o.bad]
structure O17.ok (W : World) (o : O17) : Prop where
 kind : -9223372036854775808 ≤ o.kind ∧ o.kind ≤ 9223372036854775807
 n : -9223372036854775808 ≤ o.n ∧ o.n ≤ 9223372036854775807
 b : ArgB W o.A o.m o.c o.l
section
variable {H : Type} {enc : TypeId × Value → H} {W : World} {held : Bool}
set_option maxRecDepth 100000 in
theorem open_op17 {fuel : Nat} {cs : List Value} {x : DataW H × List MemPlace} (h : DataW.trod enc Tryz.prog W 0 (fun _ => true) held fuel 29 cs = some x) (hw : (DataW.weights Tryz.prog 29 x.1).all (· ≤ reachBytes) = true) :
  ∃ o : O17, cs = o.cells ∧ o.ok W := by
 obtain ⟨hl, m0, y0, t0, _⟩ := open_field Tryz.underlying29 h hw 0 3 0 rfl
 obtain ⟨_, m1, y1, t1, _⟩ := open_field Tryz.underlying29 h hw 1 3 1 rfl
 obtain ⟨_, m2, y2, t2, w2⟩ := open_field Tryz.underlying29 h hw 2 27 2 rfl
 obtain ⟨_, m3, y3, t3, _⟩ := open_field Tryz.underlying29 h hw 3 4 3 rfl
 have c4 : Tryz.prog.cellsOf 29 = 4 := by kernel_rfl
 have ci : Tryz.prog.cellsOf 3 = 1 := by kernel_rfl
 have cb : Tryz.prog.cellsOf 27 = 1 := by kernel_rfl
 have co : Tryz.prog.cellsOf 4 = 1 := by kernel_rfl
 rw [c4] at hl
 match cs, hl with
 | [a, b, c, d], _ =>
  simp only [ci, cb, co, List.drop_zero, List.drop_succ_cons, List.take_succ_cons, List.take_zero] at t0 t1 t2 t3
  obtain ⟨k, e0, _, r0⟩ := DataW.trod_int Tryz.underlying3 t0
  obtain ⟨n, e1, _, r1⟩ := DataW.trod_int Tryz.underlying3 t1
  obtain ⟨A, m, cap, l, e2, hb⟩ := open_bytes Tryz.underlying27 Tryz.underlying5 (by kernel_rfl) (by kernel_rfl) t2 w2
  obtain ⟨z, e3, _⟩ := DataW.trod_bool Tryz.underlying4 t3
  simp only [List.cons.injEq, and_true] at e0 e1 e2 e3
  subst e0 e1 e2 e3
  exact ⟨⟨k, n, A, m, cap, l, z⟩, rfl, wf_i64 r0, wf_i64 r1, hb⟩
set_option maxRecDepth 100000 in
theorem arg_op17 {v : Value} {d : DataW H} {ps : List MemPlace} {r : Reach} {b0 : Nat} (hv : Value.okWide Tryz.prog W r b0 29 v) (h : DataW.Trod enc Tryz.prog W 0 (fun _ => true) held 29 v d ps) (hw : (DataW.weights Tryz.prog 29 d).all (· ≤ reachBytes) = true) :
  ∃ o : O17, v = .agg o.cells.toArray ∧ o.ok W := by
 obtain ⟨cs, rfl, _⟩ := okWide_struct Tryz.underlying29 hv
 obtain ⟨fuel, hf⟩ := h
 obtain ⟨o, h1, h2⟩ := open_op17 hf hw
 refine ⟨o, ?_, h2⟩
 rw [← h1]
 simp [Value.cells]
structure ArgO17 (W : World) (A : Option Addr) (n cap : Nat) (l : List O17) : Prop where
 len : l.length = n
 rd : 0 < n → ∃ g o, A = some ⟨g, o, none⟩ ∧ g < W.heap.size ∧ ∀ i (hi : i < l.length) j, j < 4 → W.cell? ⟨g, o + i * 4 + j, none⟩ = l[i].cells[j]?
 nil : A = none → n = 0
 le : n ≤ cap
 cap : cap ≤ maxLen
 ok : ∀ o ∈ l, o.ok W
set_option maxRecDepth 100000 in
theorem arg_op17s {v : Value} {d : DataW H} {ps : List MemPlace} {r : Reach} {b0 : Nat} (hv : Value.okWide Tryz.prog W r b0 22 v) (h : DataW.Trod enc Tryz.prog W 0 (fun _ => true) held 22 v d ps) (hw : (DataW.weights Tryz.prog 22 d).all (· ≤ reachBytes) = true) :
  ∃ A n cap l, v = .slice A n cap ∧ ArgO17 W A n cap l := by
 obtain ⟨A, n, cap, rfl⟩ := okWide_slice Tryz.underlying22 hv
 obtain ⟨fuel, hf⟩ := h
 have c4 : Tryz.prog.cellsOf 29 = 4 := by kernel_rfl
 obtain ⟨A', n', cap', els, h1, h2⟩ := open_elems Tryz.underlying22 (by rw [c4]; omega) hf hw
 simp [Value.cells] at h1
 obtain ⟨rfl, rfl, rfl⟩ := h1
 have hm : ∀ x ∈ els, ∃ o : O17, x = o.cells ∧ o.ok W := fun x hx => by
  obtain ⟨_, m, y, e1, e2⟩ := h2.each x hx
  exact open_op17 e1 e2
 obtain ⟨l, hl⟩ : ∃ l : List O17, l.map O17.cells = els ∧ ∀ o ∈ l, o.ok W := by
  clear h2 hf
  induction els with
  | nil => exact ⟨[], rfl, by simp⟩
  | cons x r ih =>
   obtain ⟨o, h1, h2⟩ := hm x (by simp)
   obtain ⟨l, h3, h4⟩ := ih (fun y hy => hm y (by simp [hy]))
   exact ⟨o :: l, by rw [List.map_cons, h3, h1], by simpa using ⟨h2, h4⟩⟩
 obtain ⟨rfl, hok⟩ := hl
 refine ⟨A, n, cap, l, rfl, by simpa using h2.len, fun hn => ?_, h2.nil, h2.le, h2.cap, hok⟩
 obtain ⟨g, o, e, hg, hc⟩ := h2.rd hn
 refine ⟨g, o, e, hg, fun i hi j hj => ?_⟩
 have := hc i (by simpa using hi) j (by rw [c4]; exact hj)
 rw [c4] at this
 simpa using this
set_option maxRecDepth 100000 in
theorem arg_a32 {v : Value} {d : DataW H} {ps : List MemPlace} {r : Reach} {b0 : Nat} (hv : Value.okWide Tryz.prog W r b0 39 v) (h : DataW.Trod enc Tryz.prog W 0 (fun _ => true) held 39 v d ps) (hw : (DataW.weights Tryz.prog 39 d).all (· ≤ reachBytes) = true) :
  ∃ l : List UInt8, v = .agg (bvs l).toArray ∧ l.length = 32 := by
 simp only [Value.okWide, Tryz.underlying39] at hv
 obtain ⟨cs, rfl, _, _⟩ := hv
 obtain ⟨fuel, hf⟩ := h
 obtain ⟨l, hl, e⟩ := open_barrH Tryz.underlying39 Tryz.underlying5 (by kernel_rfl) (by kernel_rfl) hf
 refine ⟨l, ?_, hl⟩
 rw [← e]
 simp [Value.cells]
end
end
section
open Go.RowKit
set_option maxRecDepth 100000
set_option maxHeartbeats 4000000 in
theorem meNobody_any (w : World) (o : O17) (ho : o.ok w) (root : List UInt8) (hr : root.length = 32) (hK : KG w) : Calls Tryz.prog 5 #[.agg o.cells.toArray, .agg (bvs root).toArray] w fun e w' => e = .returned (.bool true) ∧ Fr [] w w' := by
 have HK := Lib.hid hK
 have HO := Lib.hid ho
 have HRL := Lib.hid hr
 have ch := fun w => head17_any w ((10 : Nat) : Int)
 have cl := fun w => xhLayoutB (s := 10) (by decide) w
 have HCO := Lib.hid (show o.cells.length = 4 from rfl)
 clear hK ho hr
 go_enter Tryz.func5, Tryz.ntmps5
 go_wp2_with
  (first
   | (refine wpList_boxS (o := ⟨some 2, _, _, _, _, _⟩) rfl rfl o.cells rfl ?_; intro w1 hB f1 z1; have Z1 := Lib.hid z1; clear z1; obtain ⟨gB, hgB⟩ : ∃ g, w.heap.size = g := ⟨_, rfl⟩; rw [hgB] at hB; rw [hgB]; have HGB := Lib.hid hgB; clear hgB)
   | (refine wpList_boxS (o := ⟨some 3, _, _, _, _, _⟩) rfl rfl (bvs root) rfl ?_; intro w2 hR f2 z2; have Z2 := Lib.hid z2; clear z2; obtain ⟨gR, hgR⟩ : ∃ g, w1.heap.size = g := ⟨_, rfl⟩; rw [hgR] at hR; rw [hgR]; have HGR := Lib.hid hgR; clear hgR))
 replace hB := hB.keep_nil f2
 have F2 := f1.trans_nil f2
 clear f1 f2
 refine (ch w2).mono ?_
 rintro e w3 ⟨rfl, f3⟩
 have F3 := F2.trans_nil f3
 replace hB := hB.keep_nil f3
 replace hR := hR.keep_nil f3
 clear f3 F2 ch
 go_wp2_with fail
 refine (cl w3).mono ?_
 rintro e w4 ⟨A, c, rfl, -, f4⟩
 have F4 := F3.trans_nil f4
 replace hB := hB.keep_nil f4
 replace hR := hR.keep_nil f4
 clear f4 F3 cl
 obtain ⟨V, hV⟩ : ∃ V : Value, .slice A (lyB 10).lev.length c = V := ⟨_, rfl⟩
 rw [hV]
 obtain ⟨Cs, hCs⟩ : ∃ Cs, (lyB 10).cells V = Cs := ⟨_, rfl⟩
 have HCs := Lib.hid hCs
 have HCL := Lib.hid (show Cs.length = 9 by rw [← hCs]; rfl)
 have HC1 := Lib.hid (show ∀ u ∈ Cs, u.oneCell' = true by rw [← hCs, ← hV]; exact layC_ones)
 rw [hCs]
 clear hCs hV
 go_upto_region 3 with
  (first
   | (refine wpList_alS stLay (o := ⟨some 6, _, _, _, _, _⟩) rfl rfl ?_; intro w5 h5 f5 z5; have Z5 := Lib.hid z5; clear z5; obtain ⟨gl, hgl⟩ : ∃ g, w4.heap.size = g := ⟨_, rfl⟩; rw [hgl] at h5; rw [hgl]; have HGL := Lib.hid hgl; clear hgl)
   | (refine wpList_stB stLay rfl rfl gl rfl Cs rfl HCL.out HC1.out zeroL (by rfl) h5 ?_; intro w6 hL f6 z6; have Z6 := Lib.hid z6; clear z6))
 have f46 : Fr [] w4 w6 := f5.trans f6 (fun i hi => .inr (by have := HGL.out; simp at hi; omega))
 replace hB := hB.keep_nil f46
 replace hR := hR.keep_nil f46
 have HF0 := Lib.hid (F4.trans_nil f46)
 clear F4 f5 f6 f46 h5
 have c1 : w6.cell? ⟨gB, 1, none⟩ = some (.int .i64 o.n) := hB.cell 1
 go_wp2_with (first | (go_at_call 20; refine (sgDrop_nil _).mono ?_; rintro e w' ⟨rfl, rfl⟩) | (go_at_call 21; refine (sgRead_nil _ _).mono ?_; rintro e w' ⟨rfl, rfl⟩) | (refine wpList_ldS stLay rfl rfl gl 0 rfl Cs HCL.out hL.range0 ?_))
 have cp := mePath_nil (lyB 10) V 0 w6
 rw [HCs.out] at cp
 refine cp.mono ?_
 rintro e w7 ⟨rfl, f7⟩
 replace hB := hB.keep_nil f7
 replace hR := hR.keep_nil f7
 replace hL := hL.keep_nil f7
 have HF1 := Lib.hid (HF0.out.trans_nil f7)
 clear cp f7 c1 HF0
 go_wp2_with (first | (refine wpList_ldS stLay rfl rfl gl 0 rfl Cs HCL.out hL.range0 ?_) | (refine wpList_ldS stA32 rfl rfl gR 0 rfl (bvs root) (by rw [bvs_length]; exact HRL.out) hR.range0 ?_))
 have cc := meCheck_err (E := 6) (pv := .pointer none) (v0 := V) (i := 0) (w := w7) (L := lyB 10) (root := root) (by decide) (fun w1 _ => mePath_nil (lyB 10) V 0 w1) HRL.out
 rw [HCs.out] at cc
 refine cc.mono ?_
 rintro e w8 ⟨rfl, f8⟩
 replace hB := hB.keep_nil f8
 replace hR := hR.keep_nil f8
 replace hL := hL.keep_nil f8
 have HF2 := Lib.hid (HF1.out.trans_nil f8)
 clear cc f8 HF1
 go_upto_region 7 with fail
 have HB8 := Lib.hid hB
 have HR8 := Lib.hid hR
 have HL8 := Lib.hid hL
 clear hB hR hL
 go_cut [14, 15] from 43 to 52 (fun s14 s15 wx => ∃ g4, s14 = .pointer (some ⟨g4, 0, none⟩) ∧ s15 = .int .i64 6 ∧ Blk wx g4 39 (bvs (zB 32)).toArray ∧ Fr [] w8 wx)
 case first =>
  go_wp2_with fail
  obtain ⟨wD, hwD⟩ : ∃ wD, w8.drew = wD := ⟨_, rfl⟩
  have fD : Fr [] w8 wD := by rw [← hwD]; exact (Fr.refl [] _).drew
  have HFD := Lib.hid fD
  have HF := Lib.hid (HF2.out.trans_nil fD)
  have hL := HL8.out.keep_nil fD
  have hR := HR8.out.keep_nil fD
  have cB2 : wD.cell? ⟨gB, 2, none⟩ = some (.slice o.A o.m o.c) := (HB8.out.keep_nil fD).cell 2
  clear fD
  refine wp_region_held_drew (S := fun w' => Fr [] wD w') (by kernel_rfl) (by rw [hwD]; exact Fr.refl _ _) (fun hHeld => ?_)
  rw [hwD] at hHeld ⊢
  clear hwD
  refine tw 0 44 hHeld ?_
  refine tw 1 45 hHeld ?_ (v := .agg Cs.toArray) (hy := (fun w hSw => hy_ld stLay rfl gl 0 rfl Cs HCL.out (Blk.keep_nil hL hSw).range0))
  refine tw 2 46 hHeld ?_
  refine tw 3 47 hHeld ?_ (v := .slice o.A o.m o.c) (hy := (fun w hSw => by have c := Fr.cell hSw (by simp) cB2; go_simp))
  refine tw 5 49 hHeld ?_ (v := .agg (bvs root).toArray) (hy := (fun w hSw => hy_ld stA32 rfl gR 0 rfl (bvs root) (by rw [bvs_length]; exact HRL.out) (Blk.keep_nil hR hSw).range0))
  refine take_2c 4 10 rfl rfl (by kernel_rfl) (by rfl) (by rfl) (fun K hK => ?_) (fun K hK => ?_)
  ·skip
   have cbk := dkBlock_any wD o.A o.m o.c o.l HO.out.b.len (HO.out.b.rd.keep_nil (HF.out.trans_nil hHeld)) (by have := HO.out.b.reach; omega)
   go_simp
   refine cbk.mono ?_
   rintro e wa ⟨vq, rfl, rq, fq⟩
   obtain ⟨Aq, cq, rfl, hcq, -, -, -, -⟩ := rq.shape
   refine hK.out _ _ (hHeld.trans_nil fq) (fun hHx => ?_)
   clear hK cbk
   skip
   clear fq hHeld hcq rq
   have hHeld := hHx
   clear hHx
   try simp only [Act.put, p1, p2, p3]
   refine take_2c 6 10 rfl rfl (by kernel_rfl) (by rfl) (by rfl) (fun K hK => ?_) (fun K hK => ?_)
   ·skip
    have cg := meChange_err (E := 6) (pv := .pointer none) (v0 := V) (vb := .slice Aq 512 cq) (i := 0) (w := wa) (L := lyB 10) (root := root) (by decide) (fun w1 _ => mePath_nil (lyB 10) V 0 w1) HRL.out
    rw [HCs.out] at cg
    go_simp
    refine cg.mono ?_
    rintro e wb ⟨rfl, fq⟩
    refine hK.out _ _ (hHeld.trans_nil fq) (fun hHx => ?_)
    clear hK cg
    skip
    clear fq hHeld
    have hHeld := hHx
    clear hHx
    try simp only [Act.put, p1, p2, p3]
    refine tw 7 43 hHeld ?_
    refine tw 8 51 hHeld ?_
    refine tw 9 52 hHeld ?_
    refine tc 10 (fun K hK => ?_)
    refine wp_alS stA32 rfl (fun wc k4 f4 z4 => hK.out _ _ (hHeld.trans_nil f4) (fun hHx => ?_))
    clear hK
    obtain ⟨g4, hg4⟩ : ∃ g, wb.heap.size = g := ⟨_, rfl⟩
    rw [hg4] at k4 ⊢
    have H4 := Lib.hid (show wD.heap.size ≤ g4 by rw [← hg4]; exact hHeld.size)
    clear hHeld z4 hg4 f4
    have hHeld := hHx
    clear hHx
    try simp only [Act.put, p1, p2, p3]
    have hg4 := H4.out
    refine tcd 11 none (fun K hK => ?_)
    refine wp_stB stA32 rfl g4 rfl (bvs (zB 32)) rfl (by rfl) (bvs_one _) (bvs (zB 32)) rfl k4 (fun wz hz fz zz => hK _ wz (hHeld.trans fz (fun i hi => .inr (by rw [List.mem_singleton.1 hi]; exact hg4))) fun hHx => ?_)
    clear hHeld hK
    have hHeld := hHx
    clear hHx
    try simp only [Act.put, p1, p2, p3]
    refine tw 12 15 hHeld ?_
    refine wpAnyH_done (by kernel_rfl) ?_ _
    have hf := HFD.out.trans_nil hHeld
    clear hHeld
    go_wp2_with fail
    go_meet
    exact ⟨g4, rfl, rfl, hz, hf⟩
   ·skip
    refine wp_alS stA32 rfl (fun wb k4 f4 z4 => hK.out _ _ (hHeld.trans_nil f4) (fun hHx => ?_))
    clear hK
    obtain ⟨g4, hg4⟩ : ∃ g, wa.heap.size = g := ⟨_, rfl⟩
    rw [hg4] at k4 ⊢
    have H4 := Lib.hid (show wD.heap.size ≤ g4 by rw [← hg4]; exact hHeld.size)
    clear hHeld z4 hg4 f4
    have hHeld := hHx
    clear hHx
    try simp only [Act.put, p1, p2, p3]
    refine tc 6 (fun K hK => ?_)
    have cg := meChange_err (E := 6) (pv := .pointer none) (v0 := V) (vb := .slice Aq 512 cq) (i := 0) (w := wb) (L := lyB 10) (root := root) (by decide) (fun w1 _ => mePath_nil (lyB 10) V 0 w1) HRL.out
    rw [HCs.out] at cg
    go_simp
    refine cg.mono ?_
    rintro e wc ⟨rfl, fq⟩
    refine hK.out _ _ (hHeld.trans_nil fq) (fun hHx => ?_)
    clear hK cg
    (have k4 := k4.keep_nil fq)
    clear fq hHeld
    have hHeld := hHx
    clear hHx
    try simp only [Act.put, p1, p2, p3]
    refine tw 7 43 hHeld ?_
    refine tw 8 51 hHeld ?_
    refine tw 9 52 hHeld ?_
    have hg4 := H4.out
    refine tcd 11 none (fun K hK => ?_)
    refine wp_stB stA32 rfl g4 rfl (bvs (zB 32)) rfl (by rfl) (bvs_one _) (bvs (zB 32)) rfl k4 (fun wz hz fz zz => hK _ wz (hHeld.trans fz (fun i hi => .inr (by rw [List.mem_singleton.1 hi]; exact hg4))) fun hHx => ?_)
    clear hHeld hK
    have hHeld := hHx
    clear hHx
    try simp only [Act.put, p1, p2, p3]
    refine tw 12 15 hHeld ?_
    refine wpAnyH_done (by kernel_rfl) ?_ _
    have hf := HFD.out.trans_nil hHeld
    clear hHeld
    go_wp2_with fail
    go_meet
    exact ⟨g4, rfl, rfl, hz, hf⟩
  ·skip
   refine wp_alS stA32 rfl (fun wa k4 f4 z4 => hK.out _ _ (hHeld.trans_nil f4) (fun hHx => ?_))
   clear hK
   obtain ⟨g4, hg4⟩ : ∃ g, wD.heap.size = g := ⟨_, rfl⟩
   rw [hg4] at k4 ⊢
   have H4 := Lib.hid (show wD.heap.size ≤ g4 by rw [← hg4]; exact hHeld.size)
   clear hHeld z4 hg4 f4
   have hHeld := hHx
   clear hHx
   try simp only [Act.put, p1, p2, p3]
   refine tc 4 (fun K hK => ?_)
   have cbk := dkBlock_any wa o.A o.m o.c o.l HO.out.b.len (HO.out.b.rd.keep_nil (HF.out.trans_nil hHeld)) (by have := HO.out.b.reach; omega)
   go_simp
   refine cbk.mono ?_
   rintro e wb ⟨vq, rfl, rq, fq⟩
   obtain ⟨Aq, cq, rfl, hcq, -, -, -, -⟩ := rq.shape
   refine hK.out _ _ (hHeld.trans_nil fq) (fun hHx => ?_)
   clear hK cbk
   (have k4 := k4.keep_nil fq)
   clear fq hHeld hcq rq
   have hHeld := hHx
   clear hHx
   try simp only [Act.put, p1, p2, p3]
   refine tc 6 (fun K hK => ?_)
   have cg := meChange_err (E := 6) (pv := .pointer none) (v0 := V) (vb := .slice Aq 512 cq) (i := 0) (w := wb) (L := lyB 10) (root := root) (by decide) (fun w1 _ => mePath_nil (lyB 10) V 0 w1) HRL.out
   rw [HCs.out] at cg
   go_simp
   refine cg.mono ?_
   rintro e wc ⟨rfl, fq⟩
   refine hK.out _ _ (hHeld.trans_nil fq) (fun hHx => ?_)
   clear hK cg
   (have k4 := k4.keep_nil fq)
   clear fq hHeld
   have hHeld := hHx
   clear hHx
   try simp only [Act.put, p1, p2, p3]
   refine tw 7 43 hHeld ?_
   refine tw 8 51 hHeld ?_
   refine tw 9 52 hHeld ?_
   have hg4 := H4.out
   refine tcd 11 none (fun K hK => ?_)
   refine wp_stB stA32 rfl g4 rfl (bvs (zB 32)) rfl (by rfl) (bvs_one _) (bvs (zB 32)) rfl k4 (fun wz hz fz zz => hK _ wz (hHeld.trans fz (fun i hi => .inr (by rw [List.mem_singleton.1 hi]; exact hg4))) fun hHx => ?_)
   clear hHeld hK
   have hHeld := hHx
   clear hHx
   try simp only [Act.put, p1, p2, p3]
   refine tw 12 15 hHeld ?_
   refine wpAnyH_done (by kernel_rfl) ?_ _
   have hf := HFD.out.trans_nil hHeld
   clear hHeld
   go_wp2_with fail
   go_meet
   exact ⟨g4, rfl, rfl, hz, hf⟩
 case rest =>
  obtain ⟨g4, rfl, rfl, h4, f8⟩ := hcut
  obtain ⟨wD, hwD⟩ : ∃ wD, wc.drew = wD := ⟨_, rfl⟩
  have fD : Fr [] wc wD := by rw [← hwD]; exact (Fr.refl [] _).drew
  have f8D := f8.trans_nil fD
  have HF := Lib.hid (HF2.out.trans_nil f8D)
  have k4 := h4.keep_nil fD
  have cB1 : wD.cell? ⟨gB, 1, none⟩ = some (.int .i64 o.n) := (HB8.out.keep_nil f8D).cell 1
  have cB2 : wD.cell? ⟨gB, 2, none⟩ = some (.slice o.A o.m o.c) := (HB8.out.keep_nil f8D).cell 2
  clear fD f8D f8 h4
  go_upto_region 8 with fail
  refine wp_region_held_drew (S := fun w' => Fr [] wD w') (by kernel_rfl) (by rw [hwD]; exact Fr.refl _ _) (fun hHeld => ?_)
  rw [hwD] at hHeld ⊢
  clear hwD
  refine tc 0 (fun K hK => ?_)
  go_simp
  refine ((lives17_any wD (HK.out.keep HF.out))).mono ?_
  rintro e wa ⟨rfl, fq⟩
  refine hK.out _ _ (hHeld.trans_nil fq) (fun hHx => ?_)
  clear hHeld fq hK
  have hHeld := hHx
  clear hHx
  try simp only [Act.put, p1, p2, p3]
  refine tw 1 54 hHeld ?_
  refine tw 2 55 hHeld ?_
  refine tw 3 56 hHeld ?_
  refine tw 4 57 hHeld ?_
  refine tw 5 58 hHeld ?_
  refine tw 6 59 hHeld ?_
  refine tw 7 60 hHeld ?_
  refine tw 8 61 hHeld ?_
  refine tw 9 62 hHeld ?_
  refine tw 10 63 hHeld ?_
  refine tw 11 64 hHeld ?_
  refine tw 12 65 hHeld ?_
  refine tw 13 66 hHeld ?_ (v := .int .i64 o.n) (hy := (fun w hSw => by have c := Fr.cell hSw (by simp) cB1; go_simp))
  refine tw 14 67 hHeld ?_
  refine tw 15 68 hHeld ?_ (v := .slice o.A o.m o.c) (hy := (fun w hSw => by have c := Fr.cell hSw (by simp) cB2; go_simp))
  refine tc 16 (fun K hK => ?_)
  have cbk := dkBlock_any wa o.A o.m o.c o.l HO.out.b.len (HO.out.b.rd.keep_nil (HF.out.trans_nil hHeld)) (by have := HO.out.b.reach; omega)
  go_simp
  refine cbk.mono ?_
  rintro e wb ⟨vq, rfl, rq, fq⟩
  obtain ⟨Aq, cq, rfl, hcq, -, -, -, -⟩ := rq.shape
  refine hK.out _ _ (hHeld.trans_nil fq) (fun hHx => ?_)
  clear hK cbk
  skip
  clear fq hHeld hcq rq
  have hHeld := hHx
  clear hHx
  try simp only [Act.put, p1, p2, p3]
  refine tc 17 (fun K hK => ?_)
  go_simp
  refine ((sgWrite_nil _ _ _)).mono ?_
  rintro e w' ⟨rfl, rfl⟩
  refine hK.out _ _ hHeld (fun hHx => ?_)
  clear hHx hK
  try simp only [Act.put, p1, p2, p3]
  refine tw 18 71 hHeld ?_
  refine tw 19 72 hHeld ?_
  refine tw 20 73 hHeld ?_
  refine tw 21 74 hHeld ?_
  refine tc 22 (fun K hK => ?_)
  go_simp
  refine ((sgLen_nil _)).mono ?_
  rintro e w' ⟨rfl, rfl⟩
  refine hK.out _ _ hHeld (fun hHx => ?_)
  clear hHx hK
  try simp only [Act.put, p1, p2, p3]
  refine tw 23 76 hHeld ?_
  refine tw 24 77 hHeld ?_
  refine tw 25 78 hHeld ?_
  refine tw 26 79 hHeld ?_
  refine tc 27 (fun K hK => ?_)
  go_simp
  refine ((sgCommit_nil _)).mono ?_
  rintro e we ⟨rfl, fq⟩
  refine hK.out _ _ (hHeld.trans_nil fq) (fun hHx => ?_)
  clear hHeld fq hK
  have hHeld := hHx
  clear hHx
  try simp only [Act.put, p1, p2, p3]
  refine tw 28 81 hHeld ?_
  refine tw 29 82 hHeld ?_
  refine tw 30 83 hHeld ?_
  refine tw 31 84 hHeld ?_
  refine tw 32 85 hHeld ?_
  refine tw 33 86 hHeld ?_
  refine tw 34 87 hHeld ?_
  refine tw 35 88 hHeld ?_
  refine tw 36 89 hHeld ?_
  refine tw 37 90 hHeld ?_
  refine tw 38 91 hHeld ?_
  refine tw 39 92 hHeld ?_
  refine tw 40 93 hHeld ?_
  refine tw 41 94 hHeld ?_
  refine tw 42 95 hHeld ?_
  refine tw 43 96 hHeld ?_
  refine tw 44 97 hHeld ?_
  refine tw 45 98 hHeld ?_
  refine tw 46 99 hHeld ?_
  refine tw 47 100 hHeld ?_
  refine tw 48 101 hHeld ?_
  refine tw 49 102 hHeld ?_ (v := .agg (bvs (zB 32)).toArray) (hy := (fun w hSw => hy_ld stA32 rfl g4 0 rfl (bvs (zB 32)) (by rfl) (Blk.keep_nil k4 hSw).range0))
  refine tw 50 103 hHeld ?_ (v := .agg (bvs (zB 32)).toArray) (hy := (fun w _ => hy_bld (ps' := #[]) rfl (by kernel_rfl) _ (zeroA w)))
  refine tw 51 104 hHeld ?_ (v := .bool true) (hy := (fun w hSw => hy_eq stA32 rfl (.inl rfl) rfl rfl true ((eq_bytes 9998 Tryz.underlying39 Tryz.underlying5 (by kernel_rfl) (zB 32) (zB 32) (by rfl) (by rfl)).trans (by simp))))
  refine tw 52 105 hHeld ?_
  refine tw 53 106 hHeld ?_
  refine tw 54 107 hHeld ?_
  refine tw 55 108 hHeld ?_
  refine tw 56 109 hHeld ?_
  refine tw 57 110 hHeld ?_
  refine tc 58 (fun K hK => ?_)
  go_simp
  refine ((meNew_nil _)).mono ?_
  rintro e w' ⟨rfl, rfl⟩
  refine hK.out _ _ hHeld (fun hHx => ?_)
  clear hHx hK
  try simp only [Act.put, p1, p2, p3]
  refine tw 59 112 hHeld ?_
  refine tw 60 113 hHeld ?_
  refine tw 61 4 hHeld ?_
  refine wpAnyH_done (by kernel_rfl) ?_ _
  go_wp2_with fail
  go_ret
  exact ⟨rfl, HF.out.trans_nil hHeld⟩
end
end Go.Proofs.YtbanogfljpkbkaaGreatDoor
