/-
  Texts of this claim, one behind the other: RowB, RowH, Row17, MerT, MerU.
-/
import Derived.Test.YtbanogfljpkbkaaGreatDoorM25
import Derived.ChangeArms
import Derived.DataReads
import Derived.Test.YtbanogfljpkbkaaGreatDoorM5
import Derived.OpenShut
import Derived.Test.YtbanogfljpkbkaaGreatDoorM24
set_option linter.unusedSimpArgs false
set_option linter.unusedVariables false
set_option linter.unnecessarySimpa false
namespace Go.Proofs.YtbanogfljpkbkaaGreatDoor
section
open Go.ChangeShapes Go.WideShapes Go.ChangeAt Go.RowKit
section
variable {H : Type} {enc : TypeId × Value → H} {P : Program} {W : World} {fuel : Nat} {held : Bool}
structure ArgS (enc : TypeId × Value → H) (P : Program) (W : World) (held : Bool) (e : TypeId) (A : Option Addr) (n cap : Nat) (els : List (List Value)) : Prop where
 len : els.length = n
 rd : 0 < n → ∃ g o, A = some ⟨g, o, none⟩ ∧ g < W.heap.size ∧ ∀ i (hi : i < els.length) j, j < P.cellsOf e → W.cell? ⟨g, o + i * P.cellsOf e + j, none⟩ = els[i][j]?
 nil : A = none → n = 0
 le : n ≤ cap
 cap : cap ≤ maxLen
 reach : n * P.bytesOf e ≤ 140737488351232
 each : ∀ x ∈ els, x.length = P.cellsOf e ∧ ∃ m y, DataW.trod enc P W 0 (fun _ => true) held m e x = some y ∧ (DataW.weights P e y.1).all (· ≤ reachBytes) = true
theorem weightsAll_mem {e : TypeId} : ∀ {l : List (DataW H)} {d : DataW H}, d ∈ l → ∀ n ∈ d.weights P e, n ∈ DataW.weightsAll P e l
 | d0 :: l, d, hd, n, hn => by
  rw [DataW.weightsAll, List.mem_append]
  rcases List.mem_cons.1 hd with rfl | h
  ·exact .inl hn
  ·exact .inr (weightsAll_mem h n hn)
theorem open_elems {t e : TypeId} {cs : List Value} {x : DataW H × List MemPlace} (ht : P.underlying t = some (.slice e)) (hpos : 0 < P.cellsOf e)
  (h : DataW.trod enc P W 0 (fun _ => true) held fuel t cs = some x) (hw : (DataW.weights P t x.1).all (· ≤ reachBytes) = true) :
  ∃ A n cap els, cs = [.slice A n cap] ∧ ArgS enc P W held e A n cap els := by
 rcases DataW.trod_slice ht h with ⟨rfl, rfl⟩ | ⟨a, len, cap, elems, rest, k, _, rfl, hx, hb, hl, hm, hlen, hel, hsp, _⟩
 ·exact ⟨none, 0, 0, [], rfl, ⟨rfl, fun h => by omega, fun _ => rfl, Nat.le_refl _, by unfold maxLen; omega, by omega, by simp⟩⟩
 ·have hread : ∀ i, i < len → ∃ cs' y, W.cells? 0 (a.add (i * P.cellsOf e)) (P.cellsOf e) = some cs' ∧ DataW.trod enc P W 0 (fun _ => true) held k e cs' = some y ∧ elems[i]? = some y := by
   intro i hi
   have h1 := hel i hi
   have h2 : elems[i]? = some elems[i] := List.getElem?_eq_getElem (by omega)
   rw [h2] at h1
   obtain ⟨cs', e1, e2⟩ := Option.bind_eq_some_iff.1 h1
   exact ⟨cs', _, e1, e2, h2⟩
  obtain ⟨els, hels⟩ : ∃ els : List (List Value), els = (List.range len).map fun i => (W.cells? 0 (a.add (i * P.cellsOf e)) (P.cellsOf e)).getD [] := ⟨_, rfl⟩
  have hel2 : els.length = len := by rw [hels]; simp
  have hat : ∀ i (hi : i < els.length), W.cells? 0 (a.add (i * P.cellsOf e)) (P.cellsOf e) = some els[i] := by
   intro i hi
   obtain ⟨cs', y, e1, _⟩ := hread i (by omega)
   subst hels
   simp [e1]
  refine ⟨some a, len, cap, els, rfl, ⟨hel2, fun hn => ?_, fun h => (by cases h), hl, hm, ?_, fun z hz => ?_⟩⟩
  ·obtain ⟨g, o, sp⟩ := a
   have h0 := World.cells?_some (hat 0 (by omega))
   have c0 := h0.2.2 0 hpos
   rw [List.getElem?_eq_getElem (by omega)] at c0
   have hspot : sp = none := by simpa [Addr.add] using World.cell?_spot c0
   subst hspot
   refine ⟨g, o, rfl, ?_, fun i hi j hj => ?_⟩
   ·have := World.block_lt_of_cell? W _ c0
    simpa [Addr.add] using this
   ·have h1 := (World.cells?_some (hat i hi)).2.2 j hj
    rw [addr_add, addr_add] at h1
    exact h1
  ·rw [hx] at hw
   have h2 := List.all_eq_true.1 hw (((elems.map (·.1)).length + (rest.map (·.1)).length) * P.bytesOf e) (by simp [DataW.weights, ht])
   have h3 : (elems.length + rest.length) * P.bytesOf e ≤ 140737488351232 := by simpa [reachBytes] using h2
   exact Nat.le_trans (Nat.mul_le_mul_right _ (by omega)) h3
  ·obtain ⟨i, hi, rfl⟩ := List.getElem_of_mem hz
   obtain ⟨cs', y, e1, e2, e3⟩ := hread i (by omega)
   have e4 := hat i hi
   rw [e1] at e4
   cases e4
   refine ⟨(World.cells?_some e1).2.1, k, y, e2, ?_⟩
   rw [hx] at hw
   rw [List.all_eq_true] at hw ⊢
   intro n hn
   refine hw n ?_
   simp only [DataW.weights, ht, List.mem_cons, List.mem_append]
   exact .inr (.inl (weightsAll_mem (List.mem_map.2 ⟨y, List.mem_of_getElem? e3, rfl⟩) n hn))
theorem open_field {t : TypeId} {fs : Array Field} {cs : List Value} {x : DataW H × List MemPlace} (ht : P.underlying t = some (.struct fs))
  (h : DataW.trod enc P W 0 (fun _ => true) held fuel t cs = some x) (hw : (DataW.weights P t x.1).all (· ≤ reachBytes) = true) (i : Nat) (ft : TypeId) (off : Nat) (hf : (fs[i]?).map (fun f => (f.type, f.offset)) = some (ft, off)) :
  cs.length = P.cellsOf t ∧ ∃ m y, DataW.trod enc P W 0 (fun _ => true) held m ft ((cs.drop off).take (P.cellsOf ft)) = some y ∧ (DataW.weights P ft y.1).all (· ≤ reachBytes) = true := by
 obtain ⟨f, hf', e⟩ := Option.map_eq_some_iff.1 hf
 simp only [Prod.mk.injEq] at e
 obtain ⟨rfl, rfl⟩ := e
 obtain ⟨xs, m, _, hx, hcl, hxl, hall⟩ := DataW.trod_struct ht h
 have h1 := hall i f hf'
 have hi : i < fs.size := (Array.getElem?_eq_some_iff.1 hf').1
 have h2 : xs[i]? = some xs[i] := List.getElem?_eq_getElem (by omega)
 rw [h2] at h1
 refine ⟨hcl, m, _, h1, ?_⟩
 rw [hx] at hw
 simp only [DataW.weights, ht] at hw
 refine weights_at (j := i) hw ?_ ?_
 ·simp [hf']
 ·simp [h2]
end
end
section
open Go.ChangeShapes Go.WideShapes Go.ChangeAt Go.RowKit
section
variable {H : Type} {enc : TypeId × Value → H} {P : Program} {W : World} {held : Bool}
theorem open_barrH {fuel n : Nat} {t e : TypeId} {cs : List Value} {x : DataW H × List MemPlace} (ht : P.underlying t = some (.array n e)) (he : P.underlying e = some (.int .u8)) (hc : P.cellsOf e = 1) (hn : P.cellsOf t = n)
  (h : DataW.trod enc P W 0 (fun _ => true) held fuel t cs = some x) : ∃ l : List UInt8, l.length = n ∧ cs = bvs l := by
 obtain ⟨xs, m, _, _, hl, hx, hall⟩ := DataW.trod_array ht h
 rw [hn] at hl
 have each : ∀ i (hi : i < cs.length), ∃ b : UInt8, cs[i] = bv b := by
  intro i hi
  have h1 := hall i (by omega)
  rw [hc, Nat.mul_one] at h1
  have h2 : (cs.drop i).take 1 = [cs[i]] := by rw [List.take_one, List.head?_drop, List.getElem?_eq_getElem hi]; rfl
  rw [h2, List.getElem?_eq_getElem (by omega)] at h1
  obtain ⟨z, e1, _, r⟩ := DataW.trod_int he h1
  obtain ⟨b, rfl⟩ := wf_u8 r
  simp only [List.cons.injEq, and_true] at e1
  exact ⟨b, e1⟩
 clear hall hx
 have key : ∀ (cs : List Value), (∀ i (hi : i < cs.length), ∃ b : UInt8, cs[i] = bv b) → ∃ l : List UInt8, cs = bvs l := by
  intro cs
  induction cs with
  | nil => exact fun _ => ⟨[], rfl⟩
  | cons v r ih =>
   intro hh
   obtain ⟨b, hb⟩ := hh 0 (by simp)
   obtain ⟨l, hl⟩ := ih (fun i hi => by
    obtain ⟨b, hb⟩ := hh (i + 1) (by simp; omega)
    exact ⟨b, by simpa using hb⟩)
   exact ⟨b :: l, by rw [hl]; simp at hb; rw [hb]; rfl⟩
 obtain ⟨l, rfl⟩ := key cs each
 exact ⟨l, by rw [bvs_length] at hl; exact hl, rfl⟩
end
end
section
open Go.ChangeShapes Go.WideShapes Go.ChangeAt Go.RowKit
structure O17 where
 kind : Int
 n : Int
 A : Option Addr
 m : Nat
 c : Nat
 l : List UInt8
 bad : Bool
def O17.cells (o : O17) : List Value := [.int .i64 o.kind, .int .i64 o.n, .slice o.A o.m o.c, .bool o.bad]
structure O17.ok (W : World) (o : O17) : Prop where
 kind : -9223372036854775808 ≤ o.kind ∧ o.kind ≤ 9223372036854775807
 n : -9223372036854775808 ≤ o.n ∧ o.n ≤ 9223372036854775807
 b : ArgB W o.A o.m o.c o.l
section
variable {H : Type} {enc : TypeId × Value → H} {W : World} {held : Bool}
set_option maxRecDepth 100000 in
theorem open_op17 {fuel : Nat} {cs : List Value} {x : DataW H × List MemPlace} (h : DataW.trod enc Tryz.prog W 0 (fun _ => true) held fuel 29 cs = some x) (hw : (DataW.weights Tryz.prog 29 x.1).all (· ≤ reachBytes) = true) :
  ∃ o : O17, cs = o.cells ∧ o.ok W := by
 obtain ⟨hl, m0, y0, t0, _⟩ := open_field Tryz.underlying29 h hw 0 3 0 rfl
 obtain ⟨_, m1, y1, t1, _⟩ := open_field Tryz.underlying29 h hw 1 3 1 rfl
 obtain ⟨_, m2, y2, t2, w2⟩ := open_field Tryz.underlying29 h hw 2 27 2 rfl
 obtain ⟨_, m3, y3, t3, _⟩ := open_field Tryz.underlying29 h hw 3 4 3 rfl
 have c4 : Tryz.prog.cellsOf 29 = 4 := by kernel_rfl
 have ci : Tryz.prog.cellsOf 3 = 1 := by kernel_rfl
 have cb : Tryz.prog.cellsOf 27 = 1 := by kernel_rfl
 have co : Tryz.prog.cellsOf 4 = 1 := by kernel_rfl
 rw [c4] at hl
 match cs, hl with
 | [a, b, c, d], _ =>
  simp only [ci, cb, co, List.drop_zero, List.drop_succ_cons, List.take_succ_cons, List.take_zero] at t0 t1 t2 t3
  obtain ⟨k, e0, _, r0⟩ := DataW.trod_int Tryz.underlying3 t0
  obtain ⟨n, e1, _, r1⟩ := DataW.trod_int Tryz.underlying3 t1
  obtain ⟨A, m, cap, l, e2, hb⟩ := open_bytes Tryz.underlying27 Tryz.underlying5 (by kernel_rfl) (by kernel_rfl) t2 w2
  obtain ⟨z, e3, _⟩ := DataW.trod_bool Tryz.underlying4 t3
  simp only [List.cons.injEq, and_true] at e0 e1 e2 e3
  subst e0 e1 e2 e3
  exact ⟨⟨k, n, A, m, cap, l, z⟩, rfl, wf_i64 r0, wf_i64 r1, hb⟩
set_option maxRecDepth 100000 in
theorem arg_op17 {v : Value} {d : DataW H} {ps : List MemPlace} {r : Reach} {b0 : Nat} (hv : Value.okWide Tryz.prog W r b0 29 v) (h : DataW.Trod enc Tryz.prog W 0 (fun _ => true) held 29 v d ps) (hw : (DataW.weights Tryz.prog 29 d).all (· ≤ reachBytes) = true) :
  ∃ o : O17, v = .agg o.cells.toArray ∧ o.ok W := by
 obtain ⟨cs, rfl, _⟩ := okWide_struct Tryz.underlying29 hv
 obtain ⟨fuel, hf⟩ := h
 obtain ⟨o, h1, h2⟩ := open_op17 hf hw
 refine ⟨o, ?_, h2⟩
 rw [← h1]
 simp [Value.cells]
structure ArgO17 (W : World) (A : Option Addr) (n cap : Nat) (l : List O17) : Prop where
 len : l.length = n
 rd : 0 < n → ∃ g o, A = some ⟨g, o, none⟩ ∧ g < W.heap.size ∧ ∀ i (hi : i < l.length) j, j < 4 → W.cell? ⟨g, o + i * 4 + j, none⟩ = l[i].cells[j]?
 nil : A = none → n = 0
 le : n ≤ cap
 cap : cap ≤ maxLen
 ok : ∀ o ∈ l, o.ok W
set_option maxRecDepth 100000 in
theorem arg_op17s {v : Value} {d : DataW H} {ps : List MemPlace} {r : Reach} {b0 : Nat} (hv : Value.okWide Tryz.prog W r b0 22 v) (h : DataW.Trod enc Tryz.prog W 0 (fun _ => true) held 22 v d ps) (hw : (DataW.weights Tryz.prog 22 d).all (· ≤ reachBytes) = true) :
  ∃ A n cap l, v = .slice A n cap ∧ ArgO17 W A n cap l := by
 obtain ⟨A, n, cap, rfl⟩ := okWide_slice Tryz.underlying22 hv
 obtain ⟨fuel, hf⟩ := h
 have c4 : Tryz.prog.cellsOf 29 = 4 := by kernel_rfl
 obtain ⟨A', n', cap', els, h1, h2⟩ := open_elems Tryz.underlying22 (by rw [c4]; omega) hf hw
 simp [Value.cells] at h1
 obtain ⟨rfl, rfl, rfl⟩ := h1
 have hm : ∀ x ∈ els, ∃ o : O17, x = o.cells ∧ o.ok W := fun x hx => by
  obtain ⟨_, m, y, e1, e2⟩ := h2.each x hx
  exact open_op17 e1 e2
 obtain ⟨l, hl⟩ : ∃ l : List O17, l.map O17.cells = els ∧ ∀ o ∈ l, o.ok W := by
  clear h2 hf
  induction els with
  | nil => exact ⟨[], rfl, by simp⟩
  | cons x r ih =>
   obtain ⟨o, h1, h2⟩ := hm x (by simp)
   obtain ⟨l, h3, h4⟩ := ih (fun y hy => hm y (by simp [hy]))
   exact ⟨o :: l, by rw [List.map_cons, h3, h1], by simpa using ⟨h2, h4⟩⟩
 obtain ⟨rfl, hok⟩ := hl
 refine ⟨A, n, cap, l, rfl, by simpa using h2.len, fun hn => ?_, h2.nil, h2.le, h2.cap, hok⟩
 obtain ⟨g, o, e, hg, hc⟩ := h2.rd hn
 refine ⟨g, o, e, hg, fun i hi j hj => ?_⟩
 have := hc i (by simpa using hi) j (by rw [c4]; exact hj)
 rw [c4] at this
 simpa using this
set_option maxRecDepth 100000 in
theorem arg_a32 {v : Value} {d : DataW H} {ps : List MemPlace} {r : Reach} {b0 : Nat} (hv : Value.okWide Tryz.prog W r b0 39 v) (h : DataW.Trod enc Tryz.prog W 0 (fun _ => true) held 39 v d ps) (hw : (DataW.weights Tryz.prog 39 d).all (· ≤ reachBytes) = true) :
  ∃ l : List UInt8, v = .agg (bvs l).toArray ∧ l.length = 32 := by
 simp only [Value.okWide, Tryz.underlying39] at hv
 obtain ⟨cs, rfl, _, _⟩ := hv
 obtain ⟨fuel, hf⟩ := h
 obtain ⟨l, hl, e⟩ := open_barrH Tryz.underlying39 Tryz.underlying5 (by kernel_rfl) (by kernel_rfl) hf
 refine ⟨l, ?_, hl⟩
 rw [← e]
 simp [Value.cells]
end
end
section
open Go.RowKit
set_option maxRecDepth 100000
set_option maxHeartbeats 4000000 in
theorem meOthers_any (w : World) (z x : Int) (hz : in64 z) (hx : in64 x) (A : Option Addr) (m c : Nat) (l : List UInt8) (hb : ArgB w A m c l) (hK : KG w) : Calls Tryz.prog 6 #[.int .i64 z, .int .i64 x, .slice A m c] w fun e w' => e = .returned (.bool true) ∧ Fr [] w w' := by
 have cb := begin17_any w z hz hK
 have hs := secB_b z
 obtain ⟨s, hse⟩ : ∃ s, secB z = s := ⟨_, rfl⟩
 rw [hse] at cb hs
 have HK := Lib.hid hK
 have HB := Lib.hid hb
 have hT := tagsN_b hs
 have HS := Lib.hid hs
 clear hK hb hse hs hz
 go_enter Tryz.func6, Tryz.ntmps6
 go_wp2_with fail
 refine cb.mono ?_
 rintro e w1 ⟨P, O, OX, B, rfl, hBg⟩
 have h0 := LvS.of hBg
 have HFW := Lib.hid hBg.frW
 have cl := lives17_any w1 (HK.out.keep (HFW.out.trans_nil h0.fr))
 have H1 := Lib.hid h0
 clear cb hBg h0
 go_wp2_with fail
 refine cl.mono ?_
 rintro e w2 ⟨rfl, f2⟩
 have H0 := Lib.hid (H1.out.keep f2)
 clear cl f2 H1
 obtain ⟨T, hTT⟩ : ∃ T, tagsN s = T := ⟨_, rfl⟩
 have HTT := Lib.hid hTT
 have HGx := Lib.hid (TrG.beg HS.out)
 rw [hTT] at HGx hT
 have h0 := H0.out
 rw [hTT] at h0
 have H2 := Lib.hid h0
 obtain ⟨Cs, hCs⟩ : ∃ Cs, (lyB s).cells (.slice P.A (lyB s).lev.length P.c) = Cs := ⟨_, rfl⟩
 have HCs := Lib.hid hCs
 have HCL := Lib.hid (show Cs.length = 9 by rw [← hCs]; rfl)
 obtain ⟨R, hR⟩ : ∃ R, bldR (fresh T) = R := ⟨_, rfl⟩
 have HR := Lib.hid hR
 have HRL := Lib.hid (show (bvs R).length = 32 by rw [← hR, bvs_length]; exact h0.rl)
 have HPB := Lib.hid (show P.b ∉ [P.S.m] from fun hm => h0.sm.2 (List.mem_singleton.1 hm).symm)
 have hc := h0.cells
 rw [hCs, hR] at hc
 have cl := meLeaves_any h0.lyW
 rw [hCs] at cl
 have l4 := hc.2.1
 clear hCs hR hc h0 hTT H0
 go_wp2_with
  (first
   | (refine wpList_ldS stLay rfl rfl P.b 4 rfl Cs HCL.out l4 ?_))
 refine cl.mono ?_
 rintro e w3 ⟨rfl, f3⟩
 have H3 := Lib.hid (H2.out.keep f3)
 clear cl f3 l4 H2
 have d0 : ((T : Int) == 0) = false := by rw [beq_eq_false_iff_ne]; omega
 obtain ⟨r, hr⟩ : ∃ r, x.tmod T = r := ⟨_, rfl⟩
 have t1 := Int.tmod_lt_of_pos x (show (0 : Int) < T by omega)
 have t2 := Int.lt_tmod_of_pos x (show (0 : Int) < T by omega)
 rw [hr] at t1 t2
 obtain ⟨at_, hat⟩ : ∃ a : Nat, (if r < 0 then r + T else r) = (a : Int) := ⟨(if r < 0 then r + T else r).toNat, by split <;> omega⟩
 have hatT : at_ < T := by split at hat <;> omega
 have HAt := Lib.hid hat
 have HXX := Lib.hid hx
 clear hat hx
 go_upto_if 33 with fail
 go_cut [9] from 34 to 36 (fun v wx => v = .int .i64 (at_ : Int) ∧ wx = w3)
 case first =>
  have E4 : IntKind.i64.wrap (r + T) = r + T := IntWalk.i64_in _ (by omega)
  by_cases hneg : r < 0
  ·go_wp2_with fail
   go_meet
   exact ⟨by rw [← HAt.out, if_pos hneg], rfl⟩
  ·go_wp2_with fail
   go_meet
   exact ⟨by rw [← HAt.out, if_neg (by omega)], rfl⟩
 case rest =>
  obtain ⟨rfl, hwc⟩ := hcut
  subst hwc
  clear t1 t2 hr
  have hat2 : at_ < tagsN s := by rw [HTT.out]; exact hatT
  have HAT := Lib.hid (And.intro hatT hat2)
  have hg := HGx.out
  obtain ⟨g1, g2, g3, -⟩ := hg.chg (i := at_) (b := blkOf l) H3.out.sg hat2 (blkOf_len _)
  have hlk := hg.look hat2
  rw [HTT.out] at hlk
  rw [fresh_map, HR.out] at hlk
  have hml := mS_len (M := mB s) (b := blkOf l) HS.out hat2 rfl
  have HG := Lib.hid (show TrG s (mB s) (List.replicate T zB512) from hg)
  have HLK := Lib.hid hlk
  obtain ⟨M1, hM1⟩ : ∃ M1, mS s (mB s) at_ (blkOf l) = M1 := ⟨_, rfl⟩
  obtain ⟨R1, hR1⟩ : ∃ R1, rS s (mB s) at_ (blkOf l) = R1 := ⟨_, rfl⟩
  have HRr := Lib.hid (show rootP T (chL (pathS (mB s) (lyB s).tree (lyB s).lev at_) at_ (leafH (blkOf l))) = R1 ∧ chgS (mB s) (lyB s).tree (lyB s).tags (lyB s).lev at_ (blkOf l) = M1 from ⟨by rw [← hR1, rS, HTT.out]; rfl, by rw [← hM1]; rfl⟩)
  have HR1 := Lib.hid (And.intro trivial (show R1.length = 32 by rw [← hR1]; exact shaSum_length _))
  rw [hM1] at g1 hml
  rw [hR1] at g2
  have HG1 := Lib.hid (And.intro g1 (And.intro g2 hml))
  clear g1 g2 g3 hlk hml hM1 hR1 hg hat2
  go_upto_region 8 with fail
  go_cut [10, 11] from 37 to 55 (fun s10 s11 wx => ∃ g4, s10 = .pointer (some ⟨g4, 0, none⟩) ∧ s11 = .int .i64 0 ∧ Blk wx g4 39 (bvs R1).toArray ∧ LvS B wx P (lyB s) T (bldR (fresh T)) O M1 (0 + 3) ∧ True)
  case first =>
   go_wp2_with fail
   obtain ⟨wD, hwD⟩ : ∃ wD, wc.drew = wD := ⟨_, rfl⟩
   have fD : Fr [] wc wD := by rw [← hwD]; exact (Fr.refl [] _).drew
   have HD := Lib.hid (H3.out.keep fD)
   have hc := HD.out.cells
   rw [HCs.out, HR.out] at hc
   have HLD := Lib.hid hc
   have HFD := Lib.hid fD
   clear hc fD
   refine wp_region_held_drew (S := fun w' => Fr [P.S.m] wD w') (by kernel_rfl) (by rw [hwD]; exact Fr.refl _ _) (fun hHeld => ?_)
   rw [hwD] at hHeld ⊢
   clear hwD
   have HBL := Lib.hid (And.intro HD.out.sg.belowW HD.out.blk.lt)
   refine tw 0 38 hHeld ?_
   refine tw 1 39 hHeld ?_
   refine tw 2 40 hHeld ?_
   refine tw 3 41 hHeld ?_ (v := .pointer (some ⟨P.S.g, 0, none⟩)) (hy := (fun w hSw => by have c := hSw.cell HPB.out HLD.out.1; go_simp))
   refine tw 4 42 hHeld ?_
   refine tw 5 43 hHeld ?_
   refine tw 6 44 hHeld ?_
   refine tw 7 45 hHeld ?_ (v := .agg Cs.toArray) (hy := (fun w hSw => hy_ld stLay rfl P.b 4 rfl Cs HCL.out (rangeAt_keep HLD.out.2.1 hSw HPB.out)))
   refine tw 8 46 hHeld ?_
   refine tw 9 47 hHeld ?_
   refine tw 11 49 hHeld ?_
   refine tw 12 50 hHeld ?_
   refine tw 13 51 hHeld ?_
   refine tw 14 52 hHeld ?_ (v := .agg (bvs R).toArray) (hy := (fun w hSw => hy_ld stA32 rfl P.b 13 rfl (bvs R) HRL.out (rangeAt_keep HLD.out.2.2 hSw HPB.out)))
   have FQ : Fr [] wD wD := Fr.refl _ _
   refine take_2c 10 19 rfl rfl (by kernel_rfl) (by rfl) (by rfl) (fun K hK => ?_) (fun K hK => ?_)
   ·skip
    have cbk := dkBlock_any wD A m c l HB.out.len ((fun (f : Fr [] wD wD) => HB.out.rd.keep_nil (HFW.out.trans_nil (HD.out.fr.trans_nil f))) FQ) (by have := HB.out.reach; omega)
    go_simp
    refine cbk.mono ?_
    rintro e wa ⟨vq, rfl, rq, fq⟩
    obtain ⟨Aq, cq, rfl, hcq, -, -, -, -⟩ := rq.shape
    refine hK.out _ _ (hHeld.trans_nil fq) (fun hHx => ?_)
    clear hK cbk
    have FQ := FQ.trans_nil fq
    skip
    clear fq hHeld
    have hHeld := hHx
    clear hHx
    try simp only [Act.put, p1, p2, p3]
    refine take_2c 15 19 rfl rfl (by kernel_rfl) (by rfl) (by rfl) (fun K hK => ?_) (fun K hK => ?_)
    ·skip
     have cg := meChange_any (HD.out.keep FQ).sg (by omega) (HD.out.keep FQ).lyW (i := at_) HAT.out.1 (HG.out.leaf (HD.out.keep FQ).sg HAT.out.2) HD.out.rl (HK.out.keep (HFW.out.trans_nil (HD.out.keep FQ).fr)) (b := blkOf l) (blkOf_len _) rq.rdD.1 rq.rdD.2.2 hcq
     rw [HR.out, HCs.out] at cg
     go_simp
     refine cg.mono ?_
     rintro e wb hC
     obtain ⟨rfl, hsg, fg⟩ : e = .returned (.tuple #[.agg (bvs R1).toArray, .int .i64 0]) ∧ SgW wb P.S O M1 (0 + 3) ∧ Fr [P.S.m] wa wb := by
      rcases hC with ⟨-, -, h⟩ | ⟨-, hb, -⟩ | ⟨hb, -⟩
      ·rw [HRr.out.1, HRr.out.2] at h; exact h
      ·exact absurd (blkOf_len _) hb
      ·rw [HLK.out] at hb; cases hb
     refine hK.out _ _ (hHeld.trans_same fg) (fun hHx => ?_)
     clear hK cg
     have LL := (HD.out.keep FQ).chg hsg fg
     skip
     clear hsg fg hHeld FQ rq
     have hHeld := hHx
     clear hHx
     try simp only [Act.put, p1, p2, p3]
     refine tw 16 37 hHeld ?_
     refine tw 17 54 hHeld ?_
     refine tw 18 55 hHeld ?_
     refine tc 19 (fun K hK => ?_)
     refine wp_alS stA32 rfl (fun wc2 k4 f4 z4 => hK.out _ _ (hHeld.trans_nil f4) (fun hHx => ?_))
     clear hK
     obtain ⟨g4, hg4⟩ : ∃ g, wb.heap.size = g := ⟨_, rfl⟩
     rw [hg4] at k4 ⊢
     have H4 := Lib.hid (show wD.heap.size ≤ g4 by rw [← hg4]; exact hHeld.size)
     (have LL := LL.keep f4)
     clear hHeld z4 hg4 f4
     have hHeld := hHx
     clear hHx
     try simp only [Act.put, p1, p2, p3]
     have hg4 := H4.out
     have hbl := HBL.out.1
     have hpb := HBL.out.2
     refine tcd 20 none (fun K hK => ?_)
     refine wp_stB stA32 rfl g4 rfl (bvs R1) rfl (by rw [bvs_length]; exact HR1.out.2) (bvs_one _) (bvs (zB 32)) rfl k4 (fun wz hz fz zz => hK _ wz (hHeld.trans fz (fun i hi => .inr (by rw [List.mem_singleton.1 hi]; exact hg4))) fun hHx => ?_)
     have LZ := LL.put hbl hpb hg4 fz (k4.noTyOf (by decide))
     have FZ := hHx
     clear hHeld hK
     have hHeld := hHx
     clear hHx
     try simp only [Act.put, p1, p2, p3]
     refine tw 21 11 hHeld ?_
     refine wpAnyH_done (by kernel_rfl) ?_ _
     clear hHeld
     go_wp2_with fail
     go_meet
     exact ⟨g4, rfl, rfl, hz, LZ, trivial⟩
    ·skip
     refine wp_alS stA32 rfl (fun wb k4 f4 z4 => hK.out _ _ (hHeld.trans_nil f4) (fun hHx => ?_))
     clear hK
     obtain ⟨g4, hg4⟩ : ∃ g, wa.heap.size = g := ⟨_, rfl⟩
     rw [hg4] at k4 ⊢
     have H4 := Lib.hid (show wD.heap.size ≤ g4 by rw [← hg4]; exact hHeld.size)
     (have FQ := FQ.trans_nil f4; have rq := rq.keep_nil f4)
     clear hHeld z4 hg4 f4
     have hHeld := hHx
     clear hHx
     try simp only [Act.put, p1, p2, p3]
     refine tc 15 (fun K hK => ?_)
     have cg := meChange_any (HD.out.keep FQ).sg (by omega) (HD.out.keep FQ).lyW (i := at_) HAT.out.1 (HG.out.leaf (HD.out.keep FQ).sg HAT.out.2) HD.out.rl (HK.out.keep (HFW.out.trans_nil (HD.out.keep FQ).fr)) (b := blkOf l) (blkOf_len _) rq.rdD.1 rq.rdD.2.2 hcq
     rw [HR.out, HCs.out] at cg
     go_simp
     refine cg.mono ?_
     rintro e wc2 hC
     obtain ⟨rfl, hsg, fg⟩ : e = .returned (.tuple #[.agg (bvs R1).toArray, .int .i64 0]) ∧ SgW wc2 P.S O M1 (0 + 3) ∧ Fr [P.S.m] wb wc2 := by
      rcases hC with ⟨-, -, h⟩ | ⟨-, hb, -⟩ | ⟨hb, -⟩
      ·rw [HRr.out.1, HRr.out.2] at h; exact h
      ·exact absurd (blkOf_len _) hb
      ·rw [HLK.out] at hb; cases hb
     refine hK.out _ _ (hHeld.trans_same fg) (fun hHx => ?_)
     clear hK cg
     have LL := (HD.out.keep FQ).chg hsg fg
     (have k4 := k4.keep fg ((HD.out.keep FQ).sg.offF k4))
     clear hsg fg hHeld FQ rq
     have hHeld := hHx
     clear hHx
     try simp only [Act.put, p1, p2, p3]
     refine tw 16 37 hHeld ?_
     refine tw 17 54 hHeld ?_
     refine tw 18 55 hHeld ?_
     have hg4 := H4.out
     have hbl := HBL.out.1
     have hpb := HBL.out.2
     refine tcd 20 none (fun K hK => ?_)
     refine wp_stB stA32 rfl g4 rfl (bvs R1) rfl (by rw [bvs_length]; exact HR1.out.2) (bvs_one _) (bvs (zB 32)) rfl k4 (fun wz hz fz zz => hK _ wz (hHeld.trans fz (fun i hi => .inr (by rw [List.mem_singleton.1 hi]; exact hg4))) fun hHx => ?_)
     have LZ := LL.put hbl hpb hg4 fz (k4.noTyOf (by decide))
     have FZ := hHx
     clear hHeld hK
     have hHeld := hHx
     clear hHx
     try simp only [Act.put, p1, p2, p3]
     refine tw 21 11 hHeld ?_
     refine wpAnyH_done (by kernel_rfl) ?_ _
     clear hHeld
     go_wp2_with fail
     go_meet
     exact ⟨g4, rfl, rfl, hz, LZ, trivial⟩
   ·skip
    refine wp_alS stA32 rfl (fun wa k4 f4 z4 => hK.out _ _ (hHeld.trans_nil f4) (fun hHx => ?_))
    clear hK
    obtain ⟨g4, hg4⟩ : ∃ g, wD.heap.size = g := ⟨_, rfl⟩
    rw [hg4] at k4 ⊢
    have H4 := Lib.hid (show wD.heap.size ≤ g4 by rw [← hg4]; exact hHeld.size)
    (have FQ := FQ.trans_nil f4)
    clear hHeld z4 hg4 f4
    have hHeld := hHx
    clear hHx
    try simp only [Act.put, p1, p2, p3]
    refine tc 10 (fun K hK => ?_)
    have cbk := dkBlock_any wa A m c l HB.out.len ((fun (f : Fr [] wD wa) => HB.out.rd.keep_nil (HFW.out.trans_nil (HD.out.fr.trans_nil f))) FQ) (by have := HB.out.reach; omega)
    go_simp
    refine cbk.mono ?_
    rintro e wb ⟨vq, rfl, rq, fq⟩
    obtain ⟨Aq, cq, rfl, hcq, -, -, -, -⟩ := rq.shape
    refine hK.out _ _ (hHeld.trans_nil fq) (fun hHx => ?_)
    clear hK cbk
    have FQ := FQ.trans_nil fq
    (have k4 := k4.keep_nil fq)
    clear fq hHeld
    have hHeld := hHx
    clear hHx
    try simp only [Act.put, p1, p2, p3]
    refine tc 15 (fun K hK => ?_)
    have cg := meChange_any (HD.out.keep FQ).sg (by omega) (HD.out.keep FQ).lyW (i := at_) HAT.out.1 (HG.out.leaf (HD.out.keep FQ).sg HAT.out.2) HD.out.rl (HK.out.keep (HFW.out.trans_nil (HD.out.keep FQ).fr)) (b := blkOf l) (blkOf_len _) rq.rdD.1 rq.rdD.2.2 hcq
    rw [HR.out, HCs.out] at cg
    go_simp
    refine cg.mono ?_
    rintro e wc2 hC
    obtain ⟨rfl, hsg, fg⟩ : e = .returned (.tuple #[.agg (bvs R1).toArray, .int .i64 0]) ∧ SgW wc2 P.S O M1 (0 + 3) ∧ Fr [P.S.m] wb wc2 := by
     rcases hC with ⟨-, -, h⟩ | ⟨-, hb, -⟩ | ⟨hb, -⟩
     ·rw [HRr.out.1, HRr.out.2] at h; exact h
     ·exact absurd (blkOf_len _) hb
     ·rw [HLK.out] at hb; cases hb
    refine hK.out _ _ (hHeld.trans_same fg) (fun hHx => ?_)
    clear hK cg
    have LL := (HD.out.keep FQ).chg hsg fg
    (have k4 := k4.keep fg ((HD.out.keep FQ).sg.offF k4))
    clear hsg fg hHeld FQ rq
    have hHeld := hHx
    clear hHx
    try simp only [Act.put, p1, p2, p3]
    refine tw 16 37 hHeld ?_
    refine tw 17 54 hHeld ?_
    refine tw 18 55 hHeld ?_
    have hg4 := H4.out
    have hbl := HBL.out.1
    have hpb := HBL.out.2
    refine tcd 20 none (fun K hK => ?_)
    refine wp_stB stA32 rfl g4 rfl (bvs R1) rfl (by rw [bvs_length]; exact HR1.out.2) (bvs_one _) (bvs (zB 32)) rfl k4 (fun wz hz fz zz => hK _ wz (hHeld.trans fz (fun i hi => .inr (by rw [List.mem_singleton.1 hi]; exact hg4))) fun hHx => ?_)
    have LZ := LL.put hbl hpb hg4 fz (k4.noTyOf (by decide))
    have FZ := hHx
    clear hHeld hK
    have hHeld := hHx
    clear hHx
    try simp only [Act.put, p1, p2, p3]
    refine tw 21 11 hHeld ?_
    refine wpAnyH_done (by kernel_rfl) ?_ _
    clear hHeld
    go_wp2_with fail
    go_meet
    exact ⟨g4, rfl, rfl, hz, LZ, trivial⟩
  case rest =>
   obtain ⟨g4, rfl, rfl, h4, LZ, -⟩ := hcut
   clear H3
   have H3 := Lib.hid LZ
   have HB4 := Lib.hid h4
   have hT128 : T ≤ 128 := hT.2
   obtain ⟨nl, hnl⟩ : ∃ nl, (lyB s).lev.length = nl := ⟨_, rfl⟩
   have hnl2 : nl ≤ 2 := by rw [← hnl]; exact lev_len s HS.out
   have HNL := Lib.hid hnl
   clear LZ h4 hnl
   go_upto_region 9 with fail
   obtain ⟨wD, hwD⟩ : ∃ wD, wc.drew = wD := ⟨_, rfl⟩
   have fD : Fr [] wc wD := by rw [← hwD]; exact (Fr.refl [] _).drew
   have HD := Lib.hid (H3.out.keep fD)
   have hc := HD.out.cells
   rw [HCs.out, HR.out] at hc
   have HLD := Lib.hid hc
   have HFD := Lib.hid fD
   clear hc fD
   refine wp_region_held_drew (S := fun w' => Fr [P.S.m] wD w') (by kernel_rfl) (by rw [hwD]; exact Fr.refl _ _) (fun hHeld => ?_)
   rw [hwD] at hHeld ⊢
   clear hwD
   have hc9 : wD.cell? ⟨P.b, 9, none⟩ = some (.slice P.A nl P.c) := by rw [← HNL.out]; exact HD.out.blk.cell 9
   have HC9 := Lib.hid hc9
   have e14 : IntKind.i64.wrap (1 + (nl : Int)) = 1 + nl := IntWalk.i64_in _ (by omega)
   have csl := sgLen_any HD.out.sg
   rw [HG1.out.2.2, HNL.out, show ((1 + nl : Nat) : Int) = 1 + (nl : Int) by omega] at csl
   clear hc9
   refine tw 0 56 hHeld ?_
   refine tw 1 57 hHeld ?_
   refine tw 2 58 hHeld ?_
   refine tw 3 59 hHeld ?_
   refine tw 4 60 hHeld ?_
   refine tw 5 61 hHeld ?_
   refine tw 6 62 hHeld ?_ (v := .pointer (some ⟨P.S.g, 0, none⟩)) (hy := (fun w hSw => by have c := hSw.cell HPB.out HLD.out.1; go_simp))
   refine tw 8 64 hHeld ?_
   refine tw 9 65 hHeld ?_
   refine tw 10 66 hHeld ?_
   refine tw 11 67 hHeld ?_
   refine tw 12 68 hHeld ?_ (v := .slice P.A nl P.c) (hy := (fun w hSw => by have c := hSw.cell HPB.out HC9.out; go_simp))
   refine tw 13 69 hHeld ?_
   refine tw 14 70 hHeld ?_
   refine tc 7 (fun K hK => ?_)
   go_simp
   refine csl.mono ?_
   rintro e w' ⟨rfl, rfl⟩
   refine hK.out _ _ hHeld (fun hHx => ?_)
   clear hHx hK csl
   try simp only [Act.put, p1, p2, p3]
   refine tw 15 71 hHeld ?_
   refine tw 16 72 hHeld ?_
   refine wpAnyH_done (by kernel_rfl) ?_ _
   have H4 := Lib.hid HD.out
   have HB5 := Lib.hid (HB4.out.keep_nil HFD.out)
   obtain ⟨w5, hw5⟩ : ∃ w5, w5 = wD := ⟨_, rfl⟩
   rw [← hw5] at H4 HB5 ⊢
   clear hHeld HLD HC9 HD HFD hw5 H3 HB4 e14
   go_wp2_with fail
   go_loopw [12] (fun t12 wr => ∃ i : Nat, i ≤ T ∧ t12 = .int .i64 i ∧ Fr [] w5 wr) (fun t _ => T - (intOf t).toNat)
   case atStart => exact ⟨0, Nat.zero_le _, rfl, Fr.refl _ _⟩
   case round =>
    obtain ⟨i, hi, rfl, fr⟩ := hrel
    have H6 := Lib.hid (H4.out.keep fr)
    have HB6 := Lib.hid (HB5.out.keep_nil fr)
    obtain ⟨w6, hw6⟩ : ∃ w6, w6 = wr := ⟨_, rfl⟩
    subst hw6
    by_cases hend : i < T ∧ i < 24
    ·obtain ⟨hiT, hi24⟩ := hend
     have hiS : i < tagsN s := by rw [HTT.out]; exact hiT
     go_upto_region 14 with fail
     obtain ⟨wD, hwD⟩ : ∃ wD, w6.drew = wD := ⟨_, rfl⟩
     have fD : Fr [] w6 wD := by rw [← hwD]; exact (Fr.refl [] _).drew
     have HD := Lib.hid (H6.out.keep fD)
     have hc := HD.out.cells
     rw [HCs.out, HR.out] at hc
     have HLD := Lib.hid hc
     have HFD := Lib.hid fD
     clear hc fD
     refine wp_region_held_drew (S := fun w' => Fr [P.S.m] wD w') (by kernel_rfl) (by rw [hwD]; exact Fr.refl _ _) (fun hHeld => ?_)
     rw [hwD] at hHeld ⊢
     clear hwD
     have k4 := HB6.out.keep_nil HFD.out
     have HO4 := Lib.hid (HD.out.sg.offF k4)
     have hg1 := HG1.out.1
     have hlk := hg1.look hiS
     rw [← HG1.out.2.1, HTT.out] at hlk
     have hilen : i < ((List.replicate T zB512).set at_ (blkOf l)).length := by rw [hg1.n]; exact hiS
     have htag := hg1.tagI hilen
     have hx5 := hg1.l5 _ (List.getElem_mem hilen)
     obtain ⟨XB, hXB⟩ : ∃ XB, ((List.replicate T zB512).set at_ (blkOf l))[i]'hilen = XB := ⟨_, rfl⟩
     have HXE := Lib.hid (show (i = at_ → XB = blkOf l) ∧ (i ≠ at_ → XB = zB512) from ⟨fun e => by rw [← hXB]; subst e; exact List.getElem_set_self _, fun e => by rw [← hXB, List.getElem_set_ne (fun h => e h.symm), List.getElem_replicate]⟩)
     rw [hXB] at htag hx5
     have HXB := Lib.hid hx5
     have HTG := Lib.hid htag
     have HLL := Lib.hid hlk
     have cc := meCheck_any HD.out.sg HD.out.lyW (i := i) hiT (hg1.leaf HD.out.sg hiS) HR1.out.2 (HK.out.keep (HFW.out.trans_nil HD.out.fr))
     rw [HCs.out] at cc
     clear hg1 hlk htag hx5 hXB hilen
     refine tw 0 83 hHeld ?_
     refine tw 1 84 hHeld ?_
     refine tw 2 85 hHeld ?_
     refine tw 3 86 hHeld ?_ (v := .pointer (some ⟨P.S.g, 0, none⟩)) (hy := (fun w hSw => by have c := hSw.cell HPB.out HLD.out.1; go_simp))
     refine tw 4 87 hHeld ?_
     refine tw 5 88 hHeld ?_
     refine tw 6 89 hHeld ?_
     refine tw 7 90 hHeld ?_ (v := .agg Cs.toArray) (hy := (fun w hSw => hy_ld stLay rfl P.b 4 rfl Cs HCL.out (rangeAt_keep HLD.out.2.1 hSw HPB.out)))
     refine tw 8 91 hHeld ?_
     refine tw 9 92 hHeld ?_ (v := .agg (bvs R1).toArray) (hy := (fun w hSw => hy_ld stA32 rfl g4 0 rfl (bvs R1) (by rw [bvs_length]; exact HR1.out.2) (k4.keep hSw HO4.out).range0))
     refine tc 10 (fun K hK => ?_)
     go_simp
     refine cc.mono ?_
     rintro e w7 hC
     obtain ⟨vb, rfl, rb, fb⟩ : ∃ vb, e = .returned (.tuple #[vb, .int .i64 0]) ∧ Row w7 wD.heap.size 5 1 vb 512 (bvs (rdS M1 (((lyB s).tags + i : Nat) : Int))) ∧ Fr [] wD w7 := by
      rcases hC with ⟨-, h⟩ | ⟨hb, -⟩
      ·exact h
      ·rw [HLL.out] at hb; cases hb
     refine hK.out _ _ (hHeld.trans_nil fb) (fun hHx => ?_)
     clear hHeld hHx hK cc
     have hHeld : Fr [P.S.m] wD w7 := (Fr.refl _ _).trans_nil fb
     try simp only [Act.put, p1, p2, p3]
     rw [HTG.out] at rb
     refine tw 11 82 hHeld ?_
     refine tw 12 94 hHeld ?_
     refine tw 13 95 hHeld ?_
     refine tw 14 13 hHeld ?_
     refine tw 15 14 hHeld ?_
     refine wpAnyH_done (by kernel_rfl) ?_ _
     obtain ⟨g5, c5, rfl⟩ := rb.hdD (by omega)
     have FR := fr.trans_nil (HFD.out.trans_nil fb)
     have HFR := Lib.hid FR
     have HRB := Lib.hid rb.rdD.1
     clear hHeld rb fb HLD HD HFD k4 HO4 H6 HB6 FR fr
     go_upto_region 15 with fail
     obtain ⟨wD, hwD⟩ : ∃ wD, w7.drew = wD := ⟨_, rfl⟩
     have fD : Fr [] w7 wD := by rw [← hwD]; exact (Fr.refl [] _).drew
     have HFD := Lib.hid (HFR.out.trans_nil fD)
     have HRD := Lib.hid (HRB.out.keep_nil fD)
     obtain ⟨SX, hSX⟩ : ∃ SX : ByteArray, (⟨XB.toArray⟩ : ByteArray) = SX := ⟨_, rfl⟩
     have HSX := Lib.hid hSX
     clear fD hSX HRB HFR
     have mkS : ∀ w' : World, Fr [] wD w' → (convert 27 9 (.slice (some ⟨g5, 0, none⟩) 512 c5)).run Tryz.prog w' = .ok (.string SX) w' := fun w' f => by
      rw [← HSX.out]
      exact conv_str Tryz.underlying27 Tryz.underlying5 Tryz.underlying9 w' _ XB 512 c5 HXB.out (HRD.out.keep_nil f) (fun h => by cases h)
     have MK := Lib.hid mkS
     clear mkS
     refine wp_region_held_drew (S := fun w' => Fr [] wD w') (by kernel_rfl) (by rw [hwD]; exact Fr.refl _ _) (fun hHeld => ?_)
     rw [hwD] at hHeld ⊢
     clear hwD
     by_cases hia : i = at_
     ·have hXe := HXE.out.1 hia
      have HXQ := Lib.hid hXe
      clear hXe
      have hia2 : ((i : Int) == (at_ : Int)) = true := by rw [hia]; simp
      have HIA := Lib.hid hia2
      clear hia2
      refine tw 0 96 hHeld ?_
      refine tw 1 97 hHeld ?_
      refine tw 2 98 hHeld ?_
      refine tw 3 99 hHeld ?_
      refine tw 4 100 hHeld ?_
      refine tw 5 101 hHeld ?_ (v := .bool false) (hy := (fun w hSw => by have e := HIA.out; go_simp; try omega))
      refine tw 6 102 hHeld ?_
      refine tu 7 103 hHeld ?_
      refine tu 8 104 hHeld ?_
      refine tu 9 105 hHeld ?_
      refine tu 10 106 hHeld ?_
      refine tu 11 107 hHeld ?_
      refine tw 12 108 hHeld ?_
      refine tw 13 109 hHeld ?_
      refine tw 14 110 hHeld ?_
      refine tw 15 111 hHeld ?_
      refine tw 16 112 hHeld ?_
      refine tw 17 113 hHeld ?_ (v := .bool true) (hy := (fun w hSw => by have e := HIA.out; go_simp; try omega))
      refine tw 18 114 hHeld ?_
      refine tw 19 115 hHeld ?_
      refine tw 20 116 hHeld ?_ (v := .string SX) (hy := (fun w hSw => by have := MK.out _ hSw; go_simp))
      refine tw 21 117 hHeld ?_
      refine tc 22 (fun K hK => ?_)
      have cbk := dkBlock_any wD A m c l HB.out.len (HB.out.rd.keep_nil (HFW.out.trans_nil (H4.out.fr.trans_nil HFD.out))) (by have := HB.out.reach; omega)
      go_simp
      refine cbk.mono ?_
      rintro e w8 ⟨vq, rfl, rq, fq⟩
      obtain ⟨Aq, cq, rfl, -, -, -, -, -⟩ := rq.shape
      have cv8 : (convert 27 9 (.slice Aq 512 cq)).run Tryz.prog w8 = .ok (.string SX) w8 := by
       rw [← HSX.out, HXQ.out]
       exact conv_str Tryz.underlying27 Tryz.underlying5 Tryz.underlying9 w8 _ (blkOf l) 512 cq (blkOf_len _) rq.rdD.1 rq.rdD.2.2
      refine hK.out _ _ (hHeld.trans_nil fq) (fun hHx => ?_)
      clear hK cbk rq fq hHeld
      have hHeld := hHx
      clear hHx
      try simp only [Act.put, p1, p2, p3]
      refine tc 23 (fun K hK => ?_)
      go_simp
      refine hK.out _ _ hHeld (fun hHx => ?_)
      clear hK hHx cv8
      try simp only [Act.put, p1, p2, p3]
      refine tw 24 120 hHeld ?_
      refine tw 25 121 hHeld ?_
      refine tw 26 122 hHeld ?_
      refine wpAnyH_done (by kernel_rfl) ?_ _
      go_wp2_with fail
      exact ⟨⟨i + 1, by omega, by go_num, HFD.out.trans_nil hHeld⟩, by simp [intOf]; omega⟩
     ·have hXe := HXE.out.2 hia
      have HXQ := Lib.hid hXe
      clear hXe
      have hia2 : ((i : Int) == (at_ : Int)) = false := by rw [beq_eq_false_iff_ne]; omega
      have HIA := Lib.hid hia2
      clear hia2
      obtain ⟨Z, hZ⟩ : ∃ Z, (List.replicate 512 (Value.int .u8 0)).toArray = Z := ⟨_, rfl⟩
      have rmk : ∀ W : World, (Instr.makeSlice 27 (.int .i64 512) (.int .i64 512)).run Tryz.prog W = .ok (.slice (some ⟨W.heap.size, 0, none⟩) 512 512) (W.alloc (.cells Z 5)) := fun W => by
       rw [← hZ]
       exact run_mk1 slB rfl W .i64 .i64 512 (by omega)
      have cvn : (convert 27 9 (.slice (some ⟨wD.heap.size, 0, none⟩) 512 512)).run Tryz.prog (wD.alloc (.cells Z 5)) = .ok (.string SX) (wD.alloc (.cells Z 5)) := by
       rw [← HSX.out, HXQ.out]
       exact conv_str Tryz.underlying27 Tryz.underlying5 Tryz.underlying9 _ _ zB512 512 512 zB512_len (Rd.of_blk (Blk.new wD 5 Z) 0 _ (fun j u hu => by
        rw [zB512_vs] at hu
        rw [← hZ, Nat.zero_add, List.getElem?_toArray]
        exact hu)) (fun h => by cases h)
      have HCV := Lib.hid cvn
      clear hZ cvn
      refine tw 0 96 hHeld ?_
      refine tw 1 97 hHeld ?_
      refine tw 2 98 hHeld ?_
      refine tw 3 99 hHeld ?_
      refine tw 4 100 hHeld ?_
      refine tw 5 101 hHeld ?_ (v := .bool true) (hy := (fun w hSw => by have e := HIA.out; go_simp; try omega))
      refine tw 6 102 hHeld ?_
      refine tw 7 103 hHeld ?_
      refine tw 8 104 hHeld ?_ (v := .string SX) (hy := (fun w hSw => by have := MK.out _ hSw; go_simp))
      refine tc 9 (fun K hK => ?_)
      go_simp
      have fz : Fr [] wD (wD.alloc (.cells Z 5)) := (Fr.refl [] wD).alloc _
      refine hK.out _ _ fz (fun hHx => ?_)
      clear hK hHeld
      try simp only [Act.put, p1, p2, p3]
      have cv := HCV.out
      generalize wD.alloc (.cells Z 5) = wE at *
      refine tc 10 (fun K hK => ?_)
      go_simp
      refine hK.out _ _ fz (fun hHeld => ?_)
      clear hK hHx cv
      try simp only [Act.put, p1, p2, p3]
      refine tw 11 107 hHeld ?_
      refine tw 12 108 hHeld ?_
      refine tw 13 109 hHeld ?_
      refine tw 14 110 hHeld ?_
      refine tw 15 111 hHeld ?_
      refine tw 16 112 hHeld ?_
      refine tw 17 113 hHeld ?_ (v := .bool false) (hy := (fun w hSw => by have e := HIA.out; go_simp; try omega))
      refine tw 18 114 hHeld ?_
      refine tu 19 115 hHeld ?_
      refine tu 20 116 hHeld ?_
      refine tu 21 117 hHeld ?_
      refine tu 22 118 hHeld ?_
      refine tu 23 119 hHeld ?_
      refine tu 24 120 hHeld ?_
      refine tw 25 121 hHeld ?_
      refine tw 26 122 hHeld ?_
      refine wpAnyH_done (by kernel_rfl) ?_ _
      go_wp2_with fail
      exact ⟨⟨i + 1, by omega, by go_num, HFD.out.trans_nil hHeld⟩, by simp [intOf]; omega⟩
    ·by_cases hiT : i < T
     ·have hi24 : ¬ i < 24 := fun h => hend ⟨hiT, h⟩
      clear hend
      go_upto_region 17 with fail
      obtain ⟨wD, hwD⟩ : ∃ wD, w6.drew = wD := ⟨_, rfl⟩
      have fD : Fr [] w6 wD := by rw [← hwD]; exact (Fr.refl [] _).drew
      have HD := Lib.hid (H6.out.keep fD)
      have hc := HD.out.cells
      rw [HCs.out, HR.out] at hc
      have HLD := Lib.hid hc
      have HFD := Lib.hid fD
      clear hc fD
      refine wp_region_held_drew (S := fun w' => Fr [P.S.m] wD w') (by kernel_rfl) (by rw [hwD]; exact Fr.refl _ _) (fun hHeld => ?_)
      rw [hwD] at hHeld ⊢
      clear hwD
      have cc := mePath_any HD.out.sg HD.out.lyW (i := at_) HAT.out.1 (HG1.out.1.leaf HD.out.sg HAT.out.2).pe
      rw [HCs.out] at cc
      have hc9 : wD.cell? ⟨P.b, 9, none⟩ = some (.slice P.A nl P.c) := by rw [← HNL.out]; exact HD.out.blk.cell 9
      have HC9 := Lib.hid hc9
      clear hc9
      refine tw 0 124 hHeld ?_
      refine tw 1 125 hHeld ?_
      refine tw 2 126 hHeld ?_
      refine tw 3 127 hHeld ?_ (v := .pointer (some ⟨P.S.g, 0, none⟩)) (hy := (fun w hSw => by have c := hSw.cell HPB.out HLD.out.1; go_simp))
      refine tw 4 128 hHeld ?_
      refine tw 5 129 hHeld ?_
      refine tw 6 130 hHeld ?_
      refine tw 7 131 hHeld ?_ (v := .agg Cs.toArray) (hy := (fun w hSw => hy_ld stLay rfl P.b 4 rfl Cs HCL.out (rangeAt_keep HLD.out.2.1 hSw HPB.out)))
      refine tw 8 132 hHeld ?_
      refine tc 9 (fun K hK => ?_)
      go_simp
      refine cc.mono ?_
      rintro e w7 ⟨vp, vs, rfl, rp, fp⟩
      refine hK.out _ _ (hHeld.trans_nil fp) (fun hHx => ?_)
      clear hHeld hHx hK cc
      have hHeld : Fr [P.S.m] wD w7 := (Fr.refl _ _).trans_nil fp
      try simp only [Act.put, p1, p2, p3]
      refine tw 10 123 hHeld ?_
      refine tw 11 134 hHeld ?_
      refine tw 12 135 hHeld ?_
      refine tw 13 15 hHeld ?_
      refine tw 14 11 hHeld ?_
      refine wpAnyH_done (by kernel_rfl) ?_ _
      have rr := rp.row
      rw [show (pathS M1 (lyB s).tree (lyB s).lev at_).length = nl by rw [pathS, List.length_map, plcL_len, HNL.out]] at rr
      obtain ⟨Ap, cp, rfl, -, -, -, -, -⟩ := rr.shape
      have c9 := fp.cell (by simp) HC9.out
      have HFE := Lib.hid (HFW.out.trans_nil (HD.out.keep fp).fr)
      clear hHeld HLD HD HFD rr rp fp HC9
      go_wp2_with fail
      go_ret
      exact ⟨rfl, HFE.out⟩
     ·clear hend
      go_upto_region 17 with fail
      obtain ⟨wD, hwD⟩ : ∃ wD, w6.drew = wD := ⟨_, rfl⟩
      have fD : Fr [] w6 wD := by rw [← hwD]; exact (Fr.refl [] _).drew
      have HD := Lib.hid (H6.out.keep fD)
      have hc := HD.out.cells
      rw [HCs.out, HR.out] at hc
      have HLD := Lib.hid hc
      have HFD := Lib.hid fD
      clear hc fD
      refine wp_region_held_drew (S := fun w' => Fr [P.S.m] wD w') (by kernel_rfl) (by rw [hwD]; exact Fr.refl _ _) (fun hHeld => ?_)
      rw [hwD] at hHeld ⊢
      clear hwD
      have cc := mePath_any HD.out.sg HD.out.lyW (i := at_) HAT.out.1 (HG1.out.1.leaf HD.out.sg HAT.out.2).pe
      rw [HCs.out] at cc
      have hc9 : wD.cell? ⟨P.b, 9, none⟩ = some (.slice P.A nl P.c) := by rw [← HNL.out]; exact HD.out.blk.cell 9
      have HC9 := Lib.hid hc9
      clear hc9
      refine tw 0 124 hHeld ?_
      refine tw 1 125 hHeld ?_
      refine tw 2 126 hHeld ?_
      refine tw 3 127 hHeld ?_ (v := .pointer (some ⟨P.S.g, 0, none⟩)) (hy := (fun w hSw => by have c := hSw.cell HPB.out HLD.out.1; go_simp))
      refine tw 4 128 hHeld ?_
      refine tw 5 129 hHeld ?_
      refine tw 6 130 hHeld ?_
      refine tw 7 131 hHeld ?_ (v := .agg Cs.toArray) (hy := (fun w hSw => hy_ld stLay rfl P.b 4 rfl Cs HCL.out (rangeAt_keep HLD.out.2.1 hSw HPB.out)))
      refine tw 8 132 hHeld ?_
      refine tc 9 (fun K hK => ?_)
      go_simp
      refine cc.mono ?_
      rintro e w7 ⟨vp, vs, rfl, rp, fp⟩
      refine hK.out _ _ (hHeld.trans_nil fp) (fun hHx => ?_)
      clear hHeld hHx hK cc
      have hHeld : Fr [P.S.m] wD w7 := (Fr.refl _ _).trans_nil fp
      try simp only [Act.put, p1, p2, p3]
      refine tw 10 123 hHeld ?_
      refine tw 11 134 hHeld ?_
      refine tw 12 135 hHeld ?_
      refine tw 13 15 hHeld ?_
      refine tw 14 11 hHeld ?_
      refine wpAnyH_done (by kernel_rfl) ?_ _
      have rr := rp.row
      rw [show (pathS M1 (lyB s).tree (lyB s).lev at_).length = nl by rw [pathS, List.length_map, plcL_len, HNL.out]] at rr
      obtain ⟨Ap, cp, rfl, -, -, -, -, -⟩ := rr.shape
      have c9 := fp.cell (by simp) HC9.out
      have HFE := Lib.hid (HFW.out.trans_nil (HD.out.keep fp).fr)
      clear hHeld HLD HD HFD rr rp fp HC9
      go_wp2_with fail
      go_ret
      exact ⟨rfl, HFE.out⟩
end
section
open Go.RowKit
set_option maxRecDepth 100000
section
variable {P : Program} {ops : Array Oper} {rest : List Oper} {o : Oper} {a : Act} {w : World} {Q : Exit → Act → World → Prop} {t : TypeId} {n : Nat} {z : List Value}
theorem wpList_stS {x y : Operand} (hT : StT P t n z) (hw : Region.wanted o (yielded ops a.tmps) = true) (ho : o.op = .store t x y) (g off : Nat) (hx : a.eval x = .pointer (some ⟨g, off, none⟩)) (new : List Value) (hy : a.eval y = .agg new.toArray) (hn : new.length = n) (h1 : ∀ u ∈ new, u.oneCell' = true) (cur : Array Value) (tt : TypeId) (fz : Nat × Nat) (hg : w.heap[g]? = some (.cells cur tt fz)) (hf : Free cur.size fz) (hfit : off + n ≤ cur.size)
  (h : ∀ w', w'.heap[g]? = some (.cells (cur.toList.take off ++ new ++ cur.toList.drop (off + new.length)).toArray tt fz) → Fr [g] w w' → w'.heap.size = w.heap.size → wpList P ops Q rest (a.put o.dst undef) w') : wpList P ops Q (o :: rest) a w :=
 wpList_want hw fun _ hK => wp_stS hT ho g off hx new hy hn h1 cur tt fz hg hf hfit (fun w' h1 h2 h3 => hK _ _ (h w' h1 h2 h3))
end
theorem bothC_put (d x s r : Nat) (L R R' : List Value) (hL : L.length = 9) (hR : R.length = 32) (hR' : R'.length = 32) : (bothC d x s r L R).take 13 ++ R' ++ (bothC d x s r L R).drop (13 + R'.length) = bothC d x s r L R' := by
 obtain ⟨a0, a1, a2, a3, a4, a5, a6, a7, a8, rfl⟩ := list9 hL
 rw [hR']
 have e1 : (bothC d x s r [a0, a1, a2, a3, a4, a5, a6, a7, a8] R).take 13 = bothC d x s r [a0, a1, a2, a3, a4, a5, a6, a7, a8] [] := by
  simp [bothC]
 have e2 : (bothC d x s r [a0, a1, a2, a3, a4, a5, a6, a7, a8] R).drop (13 + 32) = [] := List.drop_eq_nil_of_le (by simp [bothC, hR])
 rw [e1, e2]
 simp [bothC]
theorem bothC_len (d x s r : Nat) (L R : List Value) (hL : L.length = 9) (hR : R.length = 32) : (bothC d x s r L R).length = 45 := by simp [bothC, hL, hR]
section
variable {B w w' : World} {P : BgP} {L : LyM} {n : Nat} {root root' : List UInt8} {O : List Nat} {M : StM} {k : Nat}
theorem blk_ne {g g' : Nat} {t t' : TypeId} {cs cs' : Array Value} (h : Blk w g t cs) (h' : Blk w g' t' cs') (ht : t ≠ t') : g ≠ g' := fun e => by
 subst e
 exact cells_ne ht (h.symm.trans h')
theorem LvS.off (h : LvS B w P L n root O M k) : P.S.g ≠ P.b ∧ P.S.q ≠ P.b ∧ P.S.ca.s ≠ P.b := by
 obtain ⟨f, hs, -⟩ := h.sg.srt
 obtain ⟨f2, hs2, -⟩ := h.sg.ca.srt
 exact ⟨blk_ne h.sg.blk h.blk (by decide), blk_ne hs.blk h.blk (by decide), blk_ne hs2.blk h.blk (by decide)⟩
theorem LvS.sgF {g : Nat} (h : LvS B w P L n root O M k) (f : Fr [g] w w') (h8 : NoTy w [g] 5) (ho : g ∉ P.S.own O) (h1 : P.S.g ≠ g) (h2 : P.S.q ≠ g) (h3 : P.S.ca.s ≠ g) : SgW w' P.S O M k := by
 unfold SgP.own CaP.own at ho
 simp only [List.mem_cons, not_or] at ho
 obtain ⟨hm, hc, hg, hb, hO⟩ := ho
 exact h.sg.keep f (by simpa using fun e => hc e.symm) (by simpa using fun e => hg e.symm) (by simpa using h3) (by simpa using fun e => hb e.symm) (fun i hi hm2 => hO (by rw [← List.mem_singleton.1 hm2]; exact hi)) h8 (by simpa using h1) (by simpa using h2) (by simpa using fun e => hm e.symm)
theorem LvS.toRoot (h : LvS B w P L n root O M k) (hr : root'.length = 32) (f : Fr [P.b] w w') (hb : Blk w' P.b 41 (P.cells L root').toArray) : LvS B w' P L n root' O M k := by
 obtain ⟨h1, h2, h3⟩ := h.off
 exact ⟨hb, hr, h.ly, h.sgF f (h.blk.noTyOf (by decide)) (fun hm => (h.new _ hm).2 rfl) h1 h2 h3, h.new, h.pb, h.fr.trans f (fun i hi => .inr (by rw [List.mem_singleton.1 hi]; exact h.pb))⟩
theorem LvS.row {g : Nat} (h : LvS B w P L n root O M k) (f : Fr [g] w w') (h8 : NoTy w [g] 5) (ho : g ∉ P.S.own O) (hg : B.heap.size ≤ g) (hn : ∀ e, e ≠ 27 → NoTy w [g] e) : LvS B w' P L n root O M k := by
 obtain ⟨f1, hs, -⟩ := h.sg.srt
 obtain ⟨f2, hs2, -⟩ := h.sg.ca.srt
 have ne : ∀ {q : Nat} {t : TypeId} {cs : Array Value}, Blk w q t cs → t ≠ 27 → q ≠ g := fun {q _ _} hb ht e => hn _ ht q (List.mem_singleton.2 e) _ _ hb
 exact ⟨h.blk.keep f (fun hm => ne h.blk (by decide) (List.mem_singleton.1 hm)), h.rl, h.ly, h.sgF f h8 ho (ne h.sg.blk (by decide)) (ne hs.blk (by decide)) (ne hs2.blk (by decide)), h.new, h.pb, h.fr.trans f (fun i hi => .inr (by rw [List.mem_singleton.1 hi]; exact hg))⟩
end
theorem BRow.set_ {w : World} {B g n c k : Nat} {us : List Value} {bs : List (List UInt8)} {x : Value} {b : List UInt8} (h : BRow w B (.slice (some ⟨g, 0, none⟩) n c) us bs) (hn : bs.length = n) (hk : k < n) (hx : Row w B 5 1 x b.length (bvs b)) :
  w.cell? ⟨g, k, none⟩ = us[k]? ∧ w.frozen? ⟨g, k, none⟩ = false ∧ BRow (w.setCell ⟨g, k, none⟩ x) B (.slice (some ⟨g, 0, none⟩) n c) (us.set k x) (bs.set k b) := by
 subst hn
 obtain ⟨h1, h2, h3⟩ := h.row.setD k hk x
 have fz : Fr [g] w (w.setCell ⟨g, k, none⟩ x) := (Fr.refl _ _).setCell (.inl (by simp)) _
 have h8 : NoTy w [g] 5 := fun i hi => h.row.noTy (show 27 ≠ 5 by decide) i (mem_own.2 (by rw [List.mem_singleton.1 hi]; rfl))
 refine ⟨h1, h2, by rw [List.length_set]; exact h3, fun i a b' => ?_⟩
 rw [List.getElem_set, List.getElem_set]
 split
 ·exact hx.keepT fz h8
 ·exact (h.each i _ _).keepT fz h8
end
end Go.Proofs.YtbanogfljpkbkaaGreatDoor
