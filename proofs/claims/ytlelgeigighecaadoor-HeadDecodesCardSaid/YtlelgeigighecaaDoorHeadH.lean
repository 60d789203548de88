/-
  Contracts of layer 11: Decode.
-/
import Derived.Test.YtlelgeigighecaaDoorHeadG
import Derived.Test.YtlelgeigighecaaDoorHeadF
set_option linter.unusedSimpArgs false
set_option linter.unusedVariables false
set_option linter.unnecessarySimpa false
namespace Go.Proofs.YtlelgeigighecaaDoor
open Go.RowKit

set_option maxHeartbeats 1000000 in
theorem hDecode1_any {w : World} {gr p : Nat} {G : List Nat} {l : List UInt8} (hb : Blk w gr 77 #[.pointer (some ⟨p, 0, none⟩)]) (h : Rdr 108 w p G l false) (n : Nat) (hn : n ≤ l.length) (hw : wide n = true) (h4 : n ≤ 4) :
    Calls Tryd.prog 53 #[.int .i64 n, .pointer (some ⟨gr, 0, none⟩)] w fun e w' => e = .returned (.int .i64 (leN (l.take n))) ∧ Rdr 108 w' p G (l.drop n) false ∧ Fr [p] w w' := by
  have c0 := hb.cell 0
  simp at c0
  have hlt := leN_take_lt l n
  have hle : 256 ^ n ≤ 256 ^ 4 := Nat.pow_le_pow_right (by omega) h4
  obtain ⟨x, hx⟩ : ∃ x, leN (l.take n) = x := ⟨_, rfl⟩
  rw [hx] at hlt
  have U : IntKind.i64.wrap (x : Int) = x := by rw [IntWalk.i64_in _ (by omega)]
  have HX := Lib.hid hx
  clear hx hle hlt
  go_enter Tryd.func53, Tryd.ntmps53
  go_wp2_with fail
  have cc := rUint_ok h n hn hw
  rw [HX.out] at cc
  refine cc.mono ?_
  rintro e w1 ⟨rfl, h1, f1⟩
  go_wp2_with fail
  go_ret
  exact ⟨by rw [HX.out]; rfl, h1, f1⟩

/-- Where Decode stands: what is left to read, and the header so far. -/
structure DSt (W : World) (w : World) (g0 gr g7 p : Nat) (G : List Nat) (v5 : Value) (nm rest : List UInt8) (h : HeadM) : Prop where
  F : Fr [] W w
  o : Blk w g0 27 zeroH.cells.toArray
  kr : Blk w gr 77 #[.pointer (some ⟨p, 0, none⟩)]
  x : Rdr 108 w p G rest false
  k : Blk w g7 27 h.cells.toArray
  r5 : Row w W.heap.size 5 1 v5 8 (bvs nm)
  o0 : W.heap.size = g0
  o1 : g0 < p
  o2 : p < gr
  o3 : gr < g7
  oG : ∀ g ∈ G, g0 < g ∧ g < gr ∧ g ≠ p
  o5 : ∀ i, v5.ownBlock = some i → gr < i ∧ i < g7
section
variable {W w w' : World} {g0 gr g7 p : Nat} {G : List Nat} {v5 : Value} {nm rest rest' : List UInt8} {h h' : HeadM}
theorem DSt.nil (d : DSt W w g0 gr g7 p G v5 nm rest h) (f : Fr [] w w') : DSt W w' g0 gr g7 p G v5 nm rest h :=
  { d with F := d.F.trans_nil f, o := d.o.keep_nil f, kr := d.kr.keep_nil f, x := d.x.keep f (by simp) (by simp), k := d.k.keep_nil f, r5 := d.r5.keep_nil f }
theorem DSt.call (d : DSt W w g0 gr g7 p G v5 nm rest h) (f : Fr [p] w w') (x : Rdr 108 w' p G rest' false) : DSt W w' g0 gr g7 p G v5 nm rest' h := by
  obtain ⟨F, o, kr, -, k, r5, o0, o1, o2, o3, oG, o5⟩ := d
  exact ⟨F.trans f (fun i hi => .inr (by simp at hi; omega)), o.keep f (by simp; omega), kr.keep f (by simp; omega), x, k.keep f (by simp; omega), r5.keep f (fun i hi hm => by have := o5 i hi; simp at hm; omega), o0, o1, o2, o3, oG, o5⟩
theorem DSt.set (d : DSt W w g0 gr g7 p G v5 nm rest h) (f : Fr [g7] w w') (k : Blk w' g7 27 h'.cells.toArray) : DSt W w' g0 gr g7 p G v5 nm rest h' := by
  obtain ⟨F, o, kr, x, -, r5, o0, o1, o2, o3, oG, o5⟩ := d
  exact ⟨F.trans f (fun i hi => .inr (by simp at hi; omega)), o.keep f (by simp; omega), kr.keep f (by simp; omega), x.keep f (by simp; omega) (fun g hg => by have := oG g hg; simp; omega), k, r5.keep f (fun i hi hm => by have := o5 i hi; simp at hm; omega), o0, o1, o2, o3, oG, o5⟩
end
theorem cut480 (l : List UInt8) (i n : Nat) (h : i + n ≤ 480) : ((l.take 480).drop i).take n = (l.drop i).take n := by
  rw [List.drop_take, List.take_take, Nat.min_eq_left (by omega)]

theorem set_nam {h : HeadM} (k : h.nam.length = 16) (q : List UInt8) (hq : q.length = 16) : (h.cells.toArray.toList.take 8 ++ bvs q ++ h.cells.toArray.toList.drop (8 + (bvs q).length)).toArray = ({ h with nam := q } : HeadM).cells.toArray := by
  rw [bvs_length, hq, List.drop_of_length_le (by show h.cells.length ≤ _; simp [HeadM.cells, bvs, k]), List.append_nil]
  rfl
set_option maxRecDepth 100000 in
theorem headGen (w : World) (x : Int) : (Instr.build 27 #[(0, .int .u64 x)]).run Tryd.prog w = .ok (.agg (.int .u64 x :: zeroH.cells.tail).toArray) w := by kernel_rfl
set_option maxRecDepth 100000 in
set_option maxHeartbeats 4000000 in
theorem hDecode_any (w : World) (A : Option Addr) (l : List UInt8) (n c : Nat) (hn : l.length = n) (hr : Rd w A (bvs l)) (hA : A = none → n = 0) (hc : n ≤ c) (hK : KG w) :
    Calls Tryd.prog 21 #[.slice A n c] w (DecH w l) := by
  have p0 := hK.pos
  by_cases h512 : n = 512
  · subst h512
    have HN := Lib.hid hn
    have HR := Lib.hid (fun _ : Unit => hr)
    have hr480 : Rd w A (bvs (l.take 480)) := by rw [bvs_take]; exact hr.take 480
    have HR4 := Lib.hid (fun _ : Unit => hr480)
    have hl480 : (l.take 480).length = 480 := by rw [List.length_take, hn]; rfl
    have HL4 := Lib.hid hl480
    clear hn hr hr480 hl480
    go_enter Tryd.func21, Tryd.ntmps21
    go_wp2_with
      (first
        | (refine wpList_alS stHead (o := ⟨some 2, _, _, _, _, _⟩) rfl rfl ?_; intro wb hb fb zb; have ZB := Lib.hid zb; clear zb; obtain ⟨g0, hg0⟩ : ∃ g0, w.heap.size = g0 := ⟨_, rfl⟩; rw [hg0] at hb; rw [hg0]; have HG0 := Lib.hid hg0; clear hg0))
    have cc := newReader_any A (l.take 480) 480 c wb HL4.out ((HR4.out ()).keep_nil fb) (fun h => absurd (hA h) (by omega)) (by omega)
    refine cc.mono ?_
    clear cc
    rintro e w4 ⟨p, G, rfl, x4, f4, z4, g4⟩
    have F4 := fb.trans_nil f4
    have o4 := hb.keep_nil f4
    go_upto_region 4 with fail
    have f5 : Fr [] w4 (w4.alloc (.cells #[.pointer (some ⟨p, 0, none⟩)] 77)) := (Fr.refl _ _).alloc _
    have kr := Blk.new w4 77 #[.pointer (some ⟨p, 0, none⟩)]
    have x5 := x4.keep f5 (by simp) (by simp)
    have o5 := o4.keep_nil f5
    have F5 := F4.trans_nil f5
    have pl := x4.lt
    have z0 := HG0.out
    have z1 := hb.lt
    obtain ⟨gr, hgr⟩ : ∃ gr, w4.heap.size = gr := ⟨_, rfl⟩
    have hgr2 : gr < (w4.alloc (.cells #[.pointer (some ⟨p, 0, none⟩)] 77)).heap.size := by simp; omega
    rw [hgr] at kr ⊢
    rw [hgr] at g4
    generalize w4.alloc (.cells #[.pointer (some ⟨p, 0, none⟩)] 77) = w5 at *
    have cr := kr.cell 0
    simp at cr
    clear x4 o4 F4 f4 f5 hb fb
    go_wp2_with fail
    have cc := rBytes_ok x5 8 (by rw [HL4.out]; omega)
    rw [List.take_take, Nat.min_eq_left (by omega)] at cc
    refine cc.mono ?_
    clear cc
    rintro e w6 ⟨v5, rfl, r6, x6, f6⟩
    obtain ⟨A5, cap5, rfl, -, -, -, -, -⟩ := r6.shape
    have F6 := F5.trans f6 (fun i hi => .inr (by simp at hi; omega))
    have kr6 := kr.keep f6 (by simp; omega)
    have o6 := o5.keep f6 (by simp; omega)
    have n5 : ∀ i, (Value.slice A5 8 cap5).ownBlock = some i → gr < i ∧ i < w6.heap.size := fun i hi => by have := r6.lt i hi; omega
    have r6 := r6.mono F5.size
    have cr := kr6.cell 0
    simp at cr
    clear kr x5 o5 f6 F5
    go_wp2_with fail
    have cc := rUint_ok x6 8 (by rw [List.length_drop, HL4.out]; omega) rfl
    rw [cut480 l 8 8 (by omega), List.drop_drop, show 8 + 8 = 16 from rfl] at cc
    obtain ⟨v0, hv⟩ : ∃ v, leN ((l.drop 8).take 8) = v := ⟨_, rfl⟩
    rw [hv] at cc
    have Hv0 := Lib.hid hv
    refine cc.mono ?_
    clear cc hv
    rintro e w7 ⟨rfl, x7, f7⟩
    have F7 := F6.trans f7 (fun i hi => .inr (by simp at hi; omega))
    have kr7 := kr6.keep f7 (by simp; omega)
    have o7 := o6.keep f7 (by simp; omega)
    have r7 := r6.keep f7 (fun i hi hm => by have := n5 i hi; simp at hm; omega)
    have s7 := f7.size
    clear kr6 x6 o6 f7 F6 r6 cr
    go_wp2_with
      (first
        | (refine wpList_bldK (o := ⟨some 21, _, _, _, _, _⟩) rfl rfl #[(0, .int .u64 (v0 : Int))] (by kernel_rfl) (.agg (HeadM.cells ⟨v0, 0, 0, 0, 0, 0, 0, 0, List.replicate 16 0⟩).toArray) (headGen _ _) ?_)
        | (refine wpList_alS stHead (o := ⟨some 7, _, _, _, _, _⟩) rfl rfl ?_; intro w8 h8 f8 z8; have Z8 := Lib.hid z8; clear z8; obtain ⟨g7, hg7⟩ : ∃ g7, w7.heap.size = g7 := ⟨_, rfl⟩; rw [hg7] at h8; rw [hg7]; have HG7 := Lib.hid hg7; clear hg7)
        | (refine wpList_stB stHead rfl rfl g7 rfl (HeadM.cells ⟨v0, 0, 0, 0, 0, 0, 0, 0, List.replicate 16 0⟩) rfl (by simp [HeadM.cells, bvs]) (HeadM.ones _) zeroH.cells (HeadM.len zeroH_ok) h8 ?_; intro w9 h9 f9 z9; have Z9 := Lib.hid z9; clear z9; have s8 := HG7.out; have hkr := kr7.lt))
    have d : DSt w w9 g0 gr g7 p G (.slice A5 8 cap5) (l.take 8) ((l.take 480).drop 16) ⟨v0, 0, 0, 0, 0, 0, 0, 0, List.replicate 16 0⟩ :=
      ⟨(F7.trans_nil f8).trans f9 (fun i hi => .inr (by have := F7.size; simp at hi; omega)), (o7.keep_nil f8).keep f9 (by have := o7.lt; simp; omega), (kr7.keep_nil f8).keep f9 (by simp; omega), (x7.keep f8 (by simp) (by simp)).keep f9 (by have := x7.lt; simp; omega) (fun g hg => by have := g4 g hg; simp; omega), h9, (r7.keep_nil f8).keep f9 (fun i hi hm => by have := n5 i hi; simp at hm; omega), z0, by omega, by omega, by omega, fun g hg => by have := g4 g hg; omega, fun i hi => by have := n5 i hi; omega⟩
    clear h8 h9 f8 f9 F7 o7 kr7 x7 r7 s7 s8 hkr n5 g4 z0 z1 pl z4 hgr2 hgr
    go_wp2_with fail
    have cc := hDecode1_any d.kr d.x 4 (by rw [List.length_drop, HL4.out]; omega) rfl (by omega)
    rw [cut480 l 16 4 (by omega), List.drop_drop, show 16 + 4 = 20 from rfl] at cc
    obtain ⟨v1, hv⟩ : ∃ v, leN ((l.drop 16).take 4) = v := ⟨_, rfl⟩
    rw [hv] at cc
    have Hv1 := Lib.hid hv
    refine cc.mono ?_
    clear cc hv
    rintro e wn ⟨rfl, xn, fn⟩
    replace d := d.call fn xn
    clear xn fn
    obtain ⟨c0, c1, c2, c3, c4, c5, c6, c7⟩ := head_cells d.k
    have z := d.k.frozen 1
    go_upto_region 8 with fail
    have d' := d.set (h' := ⟨v0, v1, 0, 0, 0, 0, 0, 0, List.replicate 16 0⟩) ((Fr.refl [g7] _).setCell (p := ⟨g7, 1, none⟩) (.inl (by simp)) (.int .i64 (v1 : Int))) (d.k.set_ 1 _)
    clear d c0 c1 c2 c3 c4 c5 c6 c7 z
    have d := d'
    clear d'
    generalize World.setCell _ _ _ = wq at *
    go_wp2_with fail
    have cc := hDecode1_any d.kr d.x 1 (by rw [List.length_drop, HL4.out]; omega) rfl (by omega)
    rw [cut480 l 20 1 (by omega), List.drop_drop, show 20 + 1 = 21 from rfl] at cc
    obtain ⟨v2, hv⟩ : ∃ v, leN ((l.drop 20).take 1) = v := ⟨_, rfl⟩
    rw [hv] at cc
    have Hv2 := Lib.hid hv
    refine cc.mono ?_
    clear cc hv
    rintro e wn ⟨rfl, xn, fn⟩
    replace d := d.call fn xn
    clear xn fn
    obtain ⟨c0, c1, c2, c3, c4, c5, c6, c7⟩ := head_cells d.k
    have z := d.k.frozen 2
    go_upto_region 9 with fail
    have d' := d.set (h' := ⟨v0, v1, v2, 0, 0, 0, 0, 0, List.replicate 16 0⟩) ((Fr.refl [g7] _).setCell (p := ⟨g7, 2, none⟩) (.inl (by simp)) (.int .i64 (v2 : Int))) (d.k.set_ 2 _)
    clear d c0 c1 c2 c3 c4 c5 c6 c7 z
    have d := d'
    clear d'
    generalize World.setCell _ _ _ = wq at *
    go_wp2_with fail
    have cc := hDecode1_any d.kr d.x 2 (by rw [List.length_drop, HL4.out]; omega) rfl (by omega)
    rw [cut480 l 21 2 (by omega), List.drop_drop, show 21 + 2 = 23 from rfl] at cc
    obtain ⟨v3, hv⟩ : ∃ v, leN ((l.drop 21).take 2) = v := ⟨_, rfl⟩
    rw [hv] at cc
    have Hv3 := Lib.hid hv
    refine cc.mono ?_
    clear cc hv
    rintro e wn ⟨rfl, xn, fn⟩
    replace d := d.call fn xn
    clear xn fn
    obtain ⟨c0, c1, c2, c3, c4, c5, c6, c7⟩ := head_cells d.k
    have z := d.k.frozen 3
    go_upto_region 10 with fail
    have d' := d.set (h' := ⟨v0, v1, v2, v3, 0, 0, 0, 0, List.replicate 16 0⟩) ((Fr.refl [g7] _).setCell (p := ⟨g7, 3, none⟩) (.inl (by simp)) (.int .i64 (v3 : Int))) (d.k.set_ 3 _)
    clear d c0 c1 c2 c3 c4 c5 c6 c7 z
    have d := d'
    clear d'
    generalize World.setCell _ _ _ = wq at *
    go_wp2_with fail
    have cc := hDecode1_any d.kr d.x 1 (by rw [List.length_drop, HL4.out]; omega) rfl (by omega)
    rw [cut480 l 23 1 (by omega), List.drop_drop, show 23 + 1 = 24 from rfl] at cc
    obtain ⟨v4, hv⟩ : ∃ v, leN ((l.drop 23).take 1) = v := ⟨_, rfl⟩
    rw [hv] at cc
    have Hv4 := Lib.hid hv
    refine cc.mono ?_
    clear cc hv
    rintro e wn ⟨rfl, xn, fn⟩
    replace d := d.call fn xn
    clear xn fn
    obtain ⟨c0, c1, c2, c3, c4, c5, c6, c7⟩ := head_cells d.k
    have z := d.k.frozen 4
    go_upto_region 11 with fail
    have d' := d.set (h' := ⟨v0, v1, v2, v3, v4, 0, 0, 0, List.replicate 16 0⟩) ((Fr.refl [g7] _).setCell (p := ⟨g7, 4, none⟩) (.inl (by simp)) (.int .i64 (v4 : Int))) (d.k.set_ 4 _)
    clear d c0 c1 c2 c3 c4 c5 c6 c7 z
    have d := d'
    clear d'
    generalize World.setCell _ _ _ = wq at *
    go_wp2_with fail
    have cc := hDecode1_any d.kr d.x 1 (by rw [List.length_drop, HL4.out]; omega) rfl (by omega)
    rw [cut480 l 24 1 (by omega), List.drop_drop, show 24 + 1 = 25 from rfl] at cc
    obtain ⟨v5, hv⟩ : ∃ v, leN ((l.drop 24).take 1) = v := ⟨_, rfl⟩
    rw [hv] at cc
    have Hv5 := Lib.hid hv
    refine cc.mono ?_
    clear cc hv
    rintro e wn ⟨rfl, xn, fn⟩
    replace d := d.call fn xn
    clear xn fn
    obtain ⟨c0, c1, c2, c3, c4, c5, c6, c7⟩ := head_cells d.k
    have z := d.k.frozen 5
    go_upto_region 12 with fail
    have d' := d.set (h' := ⟨v0, v1, v2, v3, v4, v5, 0, 0, List.replicate 16 0⟩) ((Fr.refl [g7] _).setCell (p := ⟨g7, 5, none⟩) (.inl (by simp)) (.int .i64 (v5 : Int))) (d.k.set_ 5 _)
    clear d c0 c1 c2 c3 c4 c5 c6 c7 z
    have d := d'
    clear d'
    generalize World.setCell _ _ _ = wq at *
    go_wp2_with fail
    have cc := hDecode1_any d.kr d.x 2 (by rw [List.length_drop, HL4.out]; omega) rfl (by omega)
    rw [cut480 l 25 2 (by omega), List.drop_drop, show 25 + 2 = 27 from rfl] at cc
    obtain ⟨v6, hv⟩ : ∃ v, leN ((l.drop 25).take 2) = v := ⟨_, rfl⟩
    rw [hv] at cc
    have Hv6 := Lib.hid hv
    refine cc.mono ?_
    clear cc hv
    rintro e wn ⟨rfl, xn, fn⟩
    replace d := d.call fn xn
    clear xn fn
    obtain ⟨c0, c1, c2, c3, c4, c5, c6, c7⟩ := head_cells d.k
    have z := d.k.frozen 6
    go_upto_region 13 with fail
    have d' := d.set (h' := ⟨v0, v1, v2, v3, v4, v5, v6, 0, List.replicate 16 0⟩) ((Fr.refl [g7] _).setCell (p := ⟨g7, 6, none⟩) (.inl (by simp)) (.int .i64 (v6 : Int))) (d.k.set_ 6 _)
    clear d c0 c1 c2 c3 c4 c5 c6 c7 z
    have d := d'
    clear d'
    generalize World.setCell _ _ _ = wq at *
    go_wp2_with fail
    have cc := hDecode1_any d.kr d.x 1 (by rw [List.length_drop, HL4.out]; omega) rfl (by omega)
    rw [cut480 l 27 1 (by omega), List.drop_drop, show 27 + 1 = 28 from rfl] at cc
    obtain ⟨v7, hv⟩ : ∃ v, leN ((l.drop 27).take 1) = v := ⟨_, rfl⟩
    rw [hv] at cc
    have Hv7 := Lib.hid hv
    refine cc.mono ?_
    clear cc hv
    rintro e wn ⟨rfl, xn, fn⟩
    replace d := d.call fn xn
    clear xn fn
    obtain ⟨c0, c1, c2, c3, c4, c5, c6, c7⟩ := head_cells d.k
    have z := d.k.frozen 7
    go_upto_region 14 with fail
    have d' := d.set (h' := ⟨v0, v1, v2, v3, v4, v5, v6, v7, List.replicate 16 0⟩) ((Fr.refl [g7] _).setCell (p := ⟨g7, 7, none⟩) (.inl (by simp)) (.int .i64 (v7 : Int))) (d.k.set_ 7 _)
    clear d c0 c1 c2 c3 c4 c5 c6 c7 z
    have d := d'
    clear d'
    generalize World.setCell _ _ _ = wq at *
    go_wp2_with fail
    have cr := d.kr.cell 0
    simp at cr
    refine wp_region_held_drew (S := fun w' => w'.cell? ⟨gr, 0, none⟩ = some (.pointer (some ⟨p, 0, none⟩))) (by kernel_rfl) cr (fun hHeld => ?_)
    refine take_w 0 (some 46) (v := ?_) rfl rfl (by kernel_rfl) (by kernel_rfl) (by kernel_rfl) (fun _ _ _ h => h) (by rfl) ?_ hHeld ?_
    rotate_left
    · (intro w hSw; (try dsimp only at hSw); go_simp; try with_reducible rfl)
    simp only [Act.put, List.setIfInBounds_toArray, List.set_cons_zero, List.set_cons_succ]
    refine take_w 1 (some 47) (v := ?_) rfl rfl (by kernel_rfl) (by kernel_rfl) (by kernel_rfl) (fun _ _ _ h => h) (by rfl) ?_ hHeld ?_
    rotate_left
    · (intro w hSw; (try dsimp only at hSw); go_simp; try with_reducible rfl)
    simp only [Act.put, List.setIfInBounds_toArray, List.set_cons_zero, List.set_cons_succ]
    refine take_w 2 (some 48) (v := ?_) rfl rfl (by kernel_rfl) (by kernel_rfl) (by kernel_rfl) (fun _ _ _ h => h) (by rfl) ?_ hHeld ?_
    rotate_left
    · (intro w hSw; (try dsimp only at hSw); go_simp; try with_reducible rfl)
    simp only [Act.put, List.setIfInBounds_toArray, List.set_cons_zero, List.set_cons_succ]
    replace d := d.nil ((Fr.refl [] _).drew)
    generalize wq.drew = wr at *
    refine take_c 3 rfl (by kernel_rfl) (by rfl) (fun K hK => ?_)
    go_simp
    have cc := rBytes_ok d.x 16 (by rw [List.length_drop, HL4.out]; omega)
    rw [cut480 l 28 16 (by omega), List.drop_drop, show 28 + 16 = 44 from rfl] at cc
    refine cc.mono ?_
    clear cc
    rintro e wn ⟨vn, rfl, rn, xn, fn⟩
    obtain ⟨An, capn, rfl, -, -, rdn, -, -⟩ := rn.shape
    replace d := d.call fn xn
    have cr := d.kr.cell 0
    simp at cr
    refine hK.out _ _ cr (fun hHx => ?_)
    clear hHeld
    have hHeld := hHx
    clear hHx
    clear hK K
    try simp only [Act.put, List.setIfInBounds_toArray, List.set_cons_zero, List.set_cons_succ]
    have hnl : ((l.drop 28).take 16).length = 16 := by rw [List.length_take, List.length_drop, HN.out]; rfl
    refine take_cd 4 (some 50) rfl rfl (by kernel_rfl) (by rfl) (fun K hK => wp_cp rfl Tryd.underlying28 (by kernel_rfl) _ _ 16 16 16 capn rfl rfl (bvs ((l.drop 28).take 16)) (by rw [bvs_length, hnl]; rfl) rdn (bvs_one _) g7 8 (fun _ => rfl) (HeadM.cells ⟨v0, v1, v2, v3, v4, v5, v6, v7, List.replicate 16 0⟩).toArray 27 (0, 0) d.k (free_zero _) (by rw [bvs_length, hnl]; simp [HeadM.cells, bvs]) fun w8 k8 f8 => hK _ w8 ?_ fun hHx => ?_)
    · exact f8.cell (by have := d.o3; simp; omega) cr
    clear hHeld
    have hHeld := hHx
    clear hHx
    clear hK K
    try simp only [Act.put, List.setIfInBounds_toArray, List.set_cons_zero, List.set_cons_succ]
    refine wpAnyH_done (by kernel_rfl) ?_ _
    rw [set_nam rfl _ hnl] at k8
    replace d := d.set f8 k8
    have hh : (⟨v0, v1, v2, v3, v4, v5, v6, v7, (l.drop 28).take 16⟩ : HeadM) = hdr l := by
      rw [hdr, ← Hv0.out, ← Hv1.out, ← Hv2.out, ← Hv3.out, ← Hv4.out, ← Hv5.out, ← Hv6.out, ← Hv7.out]
    replace d : DSt w w8 g0 gr g7 p G (.slice A5 8 cap5) (l.take 8) ((l.take 480).drop 44) (hdr l) := by rw [← hh]; exact d
    have hok := hdr_ok HN.out
    obtain ⟨hd', hhd⟩ : ∃ h, hdr l = h := ⟨_, rfl⟩
    rw [hhd] at d hok
    have HHD := Lib.hid (fun _ : Unit => hhd)
    clear hh hhd k8 f8 hHeld rn rdn xn fn cr hnl Hv0 Hv1 Hv2 Hv3 Hv4 Hv5 Hv6 Hv7
    go_wp2_with fail
    refine (sum_any A (l.take 480) 480 c w8 HL4.out ((HR4.out ()).keep_nil d.F) (fun h => absurd (hA h) (by omega)) (by omega) (hK.keep d.F)).mono ?_
    rintro e w9 ⟨rfl, f9⟩
    replace d := d.nil f9
    have hdl := shaSum_length (l.take 480)
    obtain ⟨D, hD⟩ : ∃ D, shaSum (l.take 480) = D := ⟨_, rfl⟩
    rw [hD] at hdl
    rw [hD]
    have HDD := Lib.hid (fun _ : Unit => hD)
    have HDL := Lib.hid hdl
    clear hD hdl f9
    go_wp2_with
      (first
        | (refine wpList_alS stA32 (o := ⟨some 8, _, _, _, _, _⟩) rfl rfl ?_; intro w16 h16 f16 z16; have Z16 := Lib.hid z16; clear z16; obtain ⟨g8, hg8⟩ : ∃ g8, w9.heap.size = g8 := ⟨_, rfl⟩; rw [hg8] at h16; rw [hg8]; have HG8 := Lib.hid hg8; clear hg8)
        | (refine wpList_stB stA32 rfl rfl g8 rfl (bvs D) rfl (by rw [bvs_length, HDL.out]) (bvs_one _) (bvs (zB 32)) rfl h16 ?_; intro w17 h17 f17 z17; have Z17 := Lib.hid z17; clear z17))
    replace d := d.nil (f16.trans f17 (fun i hi => .inr (by have := HG8.out; simp at hi; omega)))
    clear h16 f16 f17
    obtain ⟨wz, hwz⟩ : ∃ wz, w17.drew = wz := ⟨_, rfl⟩
    have d0 := d.nil ((Fr.refl [] w17).drew)
    have h0 := h17.keep_nil ((Fr.refl [] w17).drew)
    rw [hwz] at d0 h0
    have cr := d0.kr.cell 0
    simp at cr
    refine wp_region_held_drew (S := fun w' => Fr [] wz w') (by kernel_rfl) (by rw [← hwz]; exact Fr.refl _ _) (fun hHeld => ?_)
    rw [hwz] at hHeld ⊢
    clear d h17 hwz
    have d := d0
    clear d0
    cases hz : allZ ((l.take 480).drop 44)
    · have HZ := Lib.hid hz
      have hd : decH l = none := decH_no (fun h => by have := h.2.1.1.1; rw [hz] at this; cases this)
      have HD := Lib.hid hd
      clear hz hd
      as_aux_lemma =>
        refine take_w 0 (some 54) (v := .pointer (some ⟨p, 0, none⟩)) rfl rfl (by kernel_rfl) (by kernel_rfl) (by kernel_rfl) (fun _ _ _ h => h) (by rfl) (fun w hSw => by have c := hSw.cell (by simp) cr; go_simp) hHeld ?_
        try simp only [Act.put, List.setIfInBounds_toArray, List.set_cons_zero, List.set_cons_succ]
        have cc := rDone_any d.x
        rw [show doneE ((l.take 480).drop 44) false = 90 by simp [doneE, HZ.out]] at cc
        refine take_c 1 rfl (by kernel_rfl) (by rfl) (fun K hK => ?_)
        go_simp
        refine cc.mono ?_
        clear cc
        rintro e w' ⟨rfl, rfl⟩
        refine hK.out _ _ hHeld (fun hHx => ?_)
        clear hHx
        clear hK K
        try simp only [Act.put, List.setIfInBounds_toArray, List.set_cons_zero, List.set_cons_succ]
        refine take_w 2 (some 56) (v := ?_) rfl rfl (by kernel_rfl) (by kernel_rfl) (by kernel_rfl) (fun _ _ _ h => h) (by rfl) ?_ hHeld ?_
        rotate_left
        · (intro w hSw; (try dsimp only at hSw); go_simp; try with_reducible rfl)
        simp only [Act.put, List.setIfInBounds_toArray, List.set_cons_zero, List.set_cons_succ]
        refine take_w 3 (some 57) (v := ?_) rfl rfl (by kernel_rfl) (by kernel_rfl) (by kernel_rfl) (fun _ _ _ h => h) (by rfl) ?_ hHeld ?_
        rotate_left
        · (intro w hSw; (try dsimp only at hSw); go_simp; try with_reducible rfl)
        simp only [Act.put, List.setIfInBounds_toArray, List.set_cons_zero, List.set_cons_succ]
        refine take_u 4 (some 58) rfl rfl (by kernel_rfl) (by kernel_rfl) (by kernel_rfl) (fun _ _ _ h => h) (by rfl) hHeld ?_
        simp only [Act.put, List.setIfInBounds_toArray, List.set_cons_zero, List.set_cons_succ]
        refine take_u 5 (some 59) rfl rfl (by kernel_rfl) (by kernel_rfl) (by kernel_rfl) (fun _ _ _ h => h) (by rfl) hHeld ?_
        simp only [Act.put, List.setIfInBounds_toArray, List.set_cons_zero, List.set_cons_succ]
        refine take_u 6 (some 60) rfl rfl (by kernel_rfl) (by kernel_rfl) (by kernel_rfl) (fun _ _ _ h => h) (by rfl) hHeld ?_
        simp only [Act.put, List.setIfInBounds_toArray, List.set_cons_zero, List.set_cons_succ]
        refine take_w 7 (some 61) (v := ?_) rfl rfl (by kernel_rfl) (by kernel_rfl) (by kernel_rfl) (fun _ _ _ h => h) (by rfl) ?_ hHeld ?_
        rotate_left
        · (intro w hSw; (try dsimp only at hSw); go_simp; try with_reducible rfl)
        simp only [Act.put, List.setIfInBounds_toArray, List.set_cons_zero, List.set_cons_succ]
        refine take_w 8 (some 62) (v := ?_) rfl rfl (by kernel_rfl) (by kernel_rfl) (by kernel_rfl) (fun _ _ _ h => h) (by rfl) ?_ hHeld ?_
        rotate_left
        · (intro w hSw; (try dsimp only at hSw); go_simp; try with_reducible rfl)
        simp only [Act.put, List.setIfInBounds_toArray, List.set_cons_zero, List.set_cons_succ]
        refine take_u 9 (some 63) rfl rfl (by kernel_rfl) (by kernel_rfl) (by kernel_rfl) (fun _ _ _ h => h) (by rfl) hHeld ?_
        simp only [Act.put, List.setIfInBounds_toArray, List.set_cons_zero, List.set_cons_succ]
        refine take_u 10 (some 64) rfl rfl (by kernel_rfl) (by kernel_rfl) (by kernel_rfl) (fun _ _ _ h => h) (by rfl) hHeld ?_
        simp only [Act.put, List.setIfInBounds_toArray, List.set_cons_zero, List.set_cons_succ]
        refine take_u 11 (some 65) rfl rfl (by kernel_rfl) (by kernel_rfl) (by kernel_rfl) (fun _ _ _ h => h) (by rfl) hHeld ?_
        simp only [Act.put, List.setIfInBounds_toArray, List.set_cons_zero, List.set_cons_succ]
        refine take_u 12 (some 66) rfl rfl (by kernel_rfl) (by kernel_rfl) (by kernel_rfl) (fun _ _ _ h => h) (by rfl) hHeld ?_
        simp only [Act.put, List.setIfInBounds_toArray, List.set_cons_zero, List.set_cons_succ]
        refine take_u 13 (some 67) rfl rfl (by kernel_rfl) (by kernel_rfl) (by kernel_rfl) (fun _ _ _ h => h) (by rfl) hHeld ?_
        simp only [Act.put, List.setIfInBounds_toArray, List.set_cons_zero, List.set_cons_succ]
        refine take_w 14 (some 68) (v := ?_) rfl rfl (by kernel_rfl) (by kernel_rfl) (by kernel_rfl) (fun _ _ _ h => h) (by rfl) ?_ hHeld ?_
        rotate_left
        · (intro w hSw; (try dsimp only at hSw); go_simp; try with_reducible rfl)
        simp only [Act.put, List.setIfInBounds_toArray, List.set_cons_zero, List.set_cons_succ]
        refine take_w 15 (some 69) (v := ?_) rfl rfl (by kernel_rfl) (by kernel_rfl) (by kernel_rfl) (fun _ _ _ h => h) (by rfl) ?_ hHeld ?_
        rotate_left
        · (intro w hSw; (try dsimp only at hSw); go_simp; try with_reducible rfl)
        simp only [Act.put, List.setIfInBounds_toArray, List.set_cons_zero, List.set_cons_succ]
        refine take_u 16 (some 70) rfl rfl (by kernel_rfl) (by kernel_rfl) (by kernel_rfl) (fun _ _ _ h => h) (by rfl) hHeld ?_
        simp only [Act.put, List.setIfInBounds_toArray, List.set_cons_zero, List.set_cons_succ]
        refine take_u 17 (some 71) rfl rfl (by kernel_rfl) (by kernel_rfl) (by kernel_rfl) (fun _ _ _ h => h) (by rfl) hHeld ?_
        simp only [Act.put, List.setIfInBounds_toArray, List.set_cons_zero, List.set_cons_succ]
        refine take_u 18 (some 72) rfl rfl (by kernel_rfl) (by kernel_rfl) (by kernel_rfl) (fun _ _ _ h => h) (by rfl) hHeld ?_
        simp only [Act.put, List.setIfInBounds_toArray, List.set_cons_zero, List.set_cons_succ]
        refine take_w 19 (some 73) (v := ?_) rfl rfl (by kernel_rfl) (by kernel_rfl) (by kernel_rfl) (fun _ _ _ h => h) (by rfl) ?_ hHeld ?_
        rotate_left
        · (intro w hSw; (try dsimp only at hSw); go_simp; try with_reducible rfl)
        simp only [Act.put, List.setIfInBounds_toArray, List.set_cons_zero, List.set_cons_succ]
        refine wpAnyH_done (by kernel_rfl) ?_ _
        go_wp2_with
          (first
            | (refine wpList_bld rfl rfl (.agg zeroH.cells.toArray) ?_ ?_; exact headZero _)
            | (refine wpList_stB stHead rfl rfl g0 rfl zeroH.cells rfl (HeadM.len zeroH_ok) zeroH.ones zeroH.cells (HeadM.len zeroH_ok) d.o ?_; intro wc hc fc zc))
        try simp only [Exit.inBlock, Exit.then]
        refine bodyPost_ret (results_cell2 stHead rfl rfl (HeadM.len zeroH_ok) hc) rfl ?_
        exact ⟨by simp only [decHV, HD.out]; rfl, d.F.trans fc (fun i hi => .inr (by have := d.o0; simp at hi; omega))⟩
    · have HZ := Lib.hid hz
      by_cases hm : l.take 8 = magicH
      · have HM := Lib.hid hm
        have hms : (l.take 8).toArray = #[67, 65, 83, 75, 69, 84, 48, 49] := by rw [hm]; rfl
        obtain ⟨ga, oa, rfl⟩ : ∃ ga oa, A = some ⟨ga, oa, none⟩ := by
          obtain ⟨g', o', e', -⟩ := (HR.out ()) (by intro h0; have := congrArg List.length h0; rw [bvs_length, HN.out, List.length_nil] at this; omega)
          exact ⟨g', o', e'⟩
        have U5 : ¬ (c = 480) := by omega
        cases heq : (D == l.drop 480)
        · have HEQ := Lib.hid heq
          have hd : decH l = none := decH_no (fun h => by
            have := h.2.1.2
            rw [HDD.out ()] at this
            rw [this] at heq
            simp at heq)
          have HD := Lib.hid hd
          clear hz hd heq hm
          as_aux_lemma =>
            refine take_w 0 (some 54) (v := .pointer (some ⟨p, 0, none⟩)) rfl rfl (by kernel_rfl) (by kernel_rfl) (by kernel_rfl) (fun _ _ _ h => h) (by rfl) (fun w hSw => by have c := hSw.cell (by simp) cr; go_simp) hHeld ?_
            try simp only [Act.put, List.setIfInBounds_toArray, List.set_cons_zero, List.set_cons_succ]
            have cc := rDone_any d.x
            rw [show doneE ((l.take 480).drop 44) false = 0 by simp [doneE, HZ.out]] at cc
            refine take_c 1 rfl (by kernel_rfl) (by rfl) (fun K hK => ?_)
            go_simp
            refine cc.mono ?_
            clear cc
            rintro e w' ⟨rfl, rfl⟩
            refine hK.out _ _ hHeld (fun hHx => ?_)
            clear hHx
            clear hK K
            try simp only [Act.put, List.setIfInBounds_toArray, List.set_cons_zero, List.set_cons_succ]
            refine take_w 2 (some 56) (v := ?_) rfl rfl (by kernel_rfl) (by kernel_rfl) (by kernel_rfl) (fun _ _ _ h => h) (by rfl) ?_ hHeld ?_
            rotate_left
            · (intro w hSw; (try dsimp only at hSw); go_simp; try with_reducible rfl)
            simp only [Act.put, List.setIfInBounds_toArray, List.set_cons_zero, List.set_cons_succ]
            refine take_w 3 (some 57) (v := ?_) rfl rfl (by kernel_rfl) (by kernel_rfl) (by kernel_rfl) (fun _ _ _ h => h) (by rfl) ?_ hHeld ?_
            rotate_left
            · (intro w hSw; (try dsimp only at hSw); go_simp; try with_reducible rfl)
            simp only [Act.put, List.setIfInBounds_toArray, List.set_cons_zero, List.set_cons_succ]
            refine take_w 4 (some 58) (v := ?_) rfl rfl (by kernel_rfl) (by kernel_rfl) (by kernel_rfl) (fun _ _ _ h => h) (by rfl) ?_ hHeld ?_
            rotate_left
            · (intro w hSw; (try dsimp only at hSw); go_simp; try with_reducible rfl)
            simp only [Act.put, List.setIfInBounds_toArray, List.set_cons_zero, List.set_cons_succ]
            refine take_w 5 (some 59) (v := .string ⟨(l.take 8).toArray⟩) rfl rfl (by kernel_rfl) (by kernel_rfl) (by kernel_rfl) (fun _ _ _ h => h) (by rfl) (fun w hSw => by have E := (d.r5.keep_nil hSw).str; go_simp) hHeld ?_
            try simp only [Act.put, List.setIfInBounds_toArray, List.set_cons_zero, List.set_cons_succ]
            rw [hms]
            refine take_w 6 (some 60) (v := ?_) rfl rfl (by kernel_rfl) (by kernel_rfl) (by kernel_rfl) (fun _ _ _ h => h) (by rfl) ?_ hHeld ?_
            rotate_left
            · (intro w hSw; (try dsimp only at hSw); go_simp; try with_reducible rfl)
            simp only [Act.put, List.setIfInBounds_toArray, List.set_cons_zero, List.set_cons_succ]
            refine take_w 7 (some 61) (v := ?_) rfl rfl (by kernel_rfl) (by kernel_rfl) (by kernel_rfl) (fun _ _ _ h => h) (by rfl) ?_ hHeld ?_
            rotate_left
            · (intro w hSw; (try dsimp only at hSw); go_simp; try with_reducible rfl)
            simp only [Act.put, List.setIfInBounds_toArray, List.set_cons_zero, List.set_cons_succ]
            refine take_w 8 (some 62) (v := ?_) rfl rfl (by kernel_rfl) (by kernel_rfl) (by kernel_rfl) (fun _ _ _ h => h) (by rfl) ?_ hHeld ?_
            rotate_left
            · (intro w hSw; (try dsimp only at hSw); go_simp; try with_reducible rfl)
            simp only [Act.put, List.setIfInBounds_toArray, List.set_cons_zero, List.set_cons_succ]
            refine take_w 9 (some 63) (v := ?_) rfl rfl (by kernel_rfl) (by kernel_rfl) (by kernel_rfl) (fun _ _ _ h => h) (by rfl) ?_ hHeld ?_
            rotate_left
            · (intro w hSw; (try dsimp only at hSw); go_simp; try with_reducible rfl)
            simp only [Act.put, List.setIfInBounds_toArray, List.set_cons_zero, List.set_cons_succ]
            refine take_w 10 (some 64) (v := ?_) rfl rfl (by kernel_rfl) (by kernel_rfl) (by kernel_rfl) (fun _ _ _ h => h) (by rfl) ?_ hHeld ?_
            rotate_left
            · (intro w hSw; (try dsimp only at hSw); go_simp; try with_reducible rfl)
            simp only [Act.put, List.setIfInBounds_toArray, List.set_cons_zero, List.set_cons_succ]
            refine take_w 11 (some 65) (v := ?_) rfl rfl (by kernel_rfl) (by kernel_rfl) (by kernel_rfl) (fun _ _ _ h => h) (by rfl) ?_ hHeld ?_
            rotate_left
            · (intro w hSw; (try dsimp only at hSw); go_simp; try with_reducible rfl)
            simp only [Act.put, List.setIfInBounds_toArray, List.set_cons_zero, List.set_cons_succ]
            refine take_c 12 rfl (by kernel_rfl) (by rfl) (fun K hK => ?_)
            go_simp
            have cc := bytesEq_any (some ⟨g8, 0, none⟩) (some ⟨ga, oa + 480, none⟩) D (l.drop 480) 32 32 32 (c - 480) wz HDL.out (Rd.ofB h0) (by simp) (by rw [List.length_drop, HN.out]) (by
              have := ((HR.out ()).keep_nil d.F).drop 480
              rw [← bvs_drop] at this
              simpa [addr_add] using this) (by simp)
            rw [show (D == l.drop 480) = false from HEQ.out] at cc
            refine cc.mono ?_
            clear cc
            rintro e w' ⟨rfl, rfl⟩
            refine hK.out _ _ hHeld (fun hHx => ?_)
            clear hHx
            clear hK K
            try simp only [Act.put, List.setIfInBounds_toArray, List.set_cons_zero, List.set_cons_succ]
            refine take_w 13 (some 67) (v := ?_) rfl rfl (by kernel_rfl) (by kernel_rfl) (by kernel_rfl) (fun _ _ _ h => h) (by rfl) ?_ hHeld ?_
            rotate_left
            · (intro w hSw; (try dsimp only at hSw); go_simp; try with_reducible rfl)
            simp only [Act.put, List.setIfInBounds_toArray, List.set_cons_zero, List.set_cons_succ]
            refine take_w 14 (some 68) (v := ?_) rfl rfl (by kernel_rfl) (by kernel_rfl) (by kernel_rfl) (fun _ _ _ h => h) (by rfl) ?_ hHeld ?_
            rotate_left
            · (intro w hSw; (try dsimp only at hSw); go_simp; try with_reducible rfl)
            simp only [Act.put, List.setIfInBounds_toArray, List.set_cons_zero, List.set_cons_succ]
            refine take_w 15 (some 69) (v := ?_) rfl rfl (by kernel_rfl) (by kernel_rfl) (by kernel_rfl) (fun _ _ _ h => h) (by rfl) ?_ hHeld ?_
            rotate_left
            · (intro w hSw; (try dsimp only at hSw); go_simp; try with_reducible rfl)
            simp only [Act.put, List.setIfInBounds_toArray, List.set_cons_zero, List.set_cons_succ]
            refine take_u 16 (some 70) rfl rfl (by kernel_rfl) (by kernel_rfl) (by kernel_rfl) (fun _ _ _ h => h) (by rfl) hHeld ?_
            simp only [Act.put, List.setIfInBounds_toArray, List.set_cons_zero, List.set_cons_succ]
            refine take_u 17 (some 71) rfl rfl (by kernel_rfl) (by kernel_rfl) (by kernel_rfl) (fun _ _ _ h => h) (by rfl) hHeld ?_
            simp only [Act.put, List.setIfInBounds_toArray, List.set_cons_zero, List.set_cons_succ]
            refine take_u 18 (some 72) rfl rfl (by kernel_rfl) (by kernel_rfl) (by kernel_rfl) (fun _ _ _ h => h) (by rfl) hHeld ?_
            simp only [Act.put, List.setIfInBounds_toArray, List.set_cons_zero, List.set_cons_succ]
            refine take_w 19 (some 73) (v := ?_) rfl rfl (by kernel_rfl) (by kernel_rfl) (by kernel_rfl) (fun _ _ _ h => h) (by rfl) ?_ hHeld ?_
            rotate_left
            · (intro w hSw; (try dsimp only at hSw); go_simp; try with_reducible rfl)
            simp only [Act.put, List.setIfInBounds_toArray, List.set_cons_zero, List.set_cons_succ]
            refine wpAnyH_done (by kernel_rfl) ?_ _
            clear hms
            go_wp2_with
              (first
                | (refine wpList_bld rfl rfl (.agg zeroH.cells.toArray) ?_ ?_; exact headZero _)
                | (refine wpList_stB stHead rfl rfl g0 rfl zeroH.cells rfl (HeadM.len zeroH_ok) zeroH.ones zeroH.cells (HeadM.len zeroH_ok) d.o ?_; intro wc hc fc zc))
            try simp only [Exit.inBlock, Exit.then]
            refine bodyPost_ret (results_cell2 stHead rfl rfl (HeadM.len zeroH_ok) hc) rfl ?_
            exact ⟨by simp only [decHV, HD.out]; rfl, d.F.trans fc (fun i hi => .inr (by have := d.o0; simp at hi; omega))⟩
        · have HEQ := Lib.hid heq
          have hB : hdrB l := ⟨⟨hz, hm⟩, by rw [HDD.out ()]; exact eq_of_beq heq⟩
          have HB := Lib.hid hB
          clear hz heq hm hB
          as_aux_lemma =>
            refine take_w 0 (some 54) (v := .pointer (some ⟨p, 0, none⟩)) rfl rfl (by kernel_rfl) (by kernel_rfl) (by kernel_rfl) (fun _ _ _ h => h) (by rfl) (fun w hSw => by have c := hSw.cell (by simp) cr; go_simp) hHeld ?_
            try simp only [Act.put, List.setIfInBounds_toArray, List.set_cons_zero, List.set_cons_succ]
            have cc := rDone_any d.x
            rw [show doneE ((l.take 480).drop 44) false = 0 by simp [doneE, HZ.out]] at cc
            refine take_c 1 rfl (by kernel_rfl) (by rfl) (fun K hK => ?_)
            go_simp
            refine cc.mono ?_
            clear cc
            rintro e w' ⟨rfl, rfl⟩
            refine hK.out _ _ hHeld (fun hHx => ?_)
            clear hHx
            clear hK K
            try simp only [Act.put, List.setIfInBounds_toArray, List.set_cons_zero, List.set_cons_succ]
            refine take_w 2 (some 56) (v := ?_) rfl rfl (by kernel_rfl) (by kernel_rfl) (by kernel_rfl) (fun _ _ _ h => h) (by rfl) ?_ hHeld ?_
            rotate_left
            · (intro w hSw; (try dsimp only at hSw); go_simp; try with_reducible rfl)
            simp only [Act.put, List.setIfInBounds_toArray, List.set_cons_zero, List.set_cons_succ]
            refine take_w 3 (some 57) (v := ?_) rfl rfl (by kernel_rfl) (by kernel_rfl) (by kernel_rfl) (fun _ _ _ h => h) (by rfl) ?_ hHeld ?_
            rotate_left
            · (intro w hSw; (try dsimp only at hSw); go_simp; try with_reducible rfl)
            simp only [Act.put, List.setIfInBounds_toArray, List.set_cons_zero, List.set_cons_succ]
            refine take_w 4 (some 58) (v := ?_) rfl rfl (by kernel_rfl) (by kernel_rfl) (by kernel_rfl) (fun _ _ _ h => h) (by rfl) ?_ hHeld ?_
            rotate_left
            · (intro w hSw; (try dsimp only at hSw); go_simp; try with_reducible rfl)
            simp only [Act.put, List.setIfInBounds_toArray, List.set_cons_zero, List.set_cons_succ]
            refine take_w 5 (some 59) (v := .string ⟨(l.take 8).toArray⟩) rfl rfl (by kernel_rfl) (by kernel_rfl) (by kernel_rfl) (fun _ _ _ h => h) (by rfl) (fun w hSw => by have E := (d.r5.keep_nil hSw).str; go_simp) hHeld ?_
            try simp only [Act.put, List.setIfInBounds_toArray, List.set_cons_zero, List.set_cons_succ]
            rw [hms]
            refine take_w 6 (some 60) (v := ?_) rfl rfl (by kernel_rfl) (by kernel_rfl) (by kernel_rfl) (fun _ _ _ h => h) (by rfl) ?_ hHeld ?_
            rotate_left
            · (intro w hSw; (try dsimp only at hSw); go_simp; try with_reducible rfl)
            simp only [Act.put, List.setIfInBounds_toArray, List.set_cons_zero, List.set_cons_succ]
            refine take_w 7 (some 61) (v := ?_) rfl rfl (by kernel_rfl) (by kernel_rfl) (by kernel_rfl) (fun _ _ _ h => h) (by rfl) ?_ hHeld ?_
            rotate_left
            · (intro w hSw; (try dsimp only at hSw); go_simp; try with_reducible rfl)
            simp only [Act.put, List.setIfInBounds_toArray, List.set_cons_zero, List.set_cons_succ]
            refine take_w 8 (some 62) (v := ?_) rfl rfl (by kernel_rfl) (by kernel_rfl) (by kernel_rfl) (fun _ _ _ h => h) (by rfl) ?_ hHeld ?_
            rotate_left
            · (intro w hSw; (try dsimp only at hSw); go_simp; try with_reducible rfl)
            simp only [Act.put, List.setIfInBounds_toArray, List.set_cons_zero, List.set_cons_succ]
            refine take_w 9 (some 63) (v := ?_) rfl rfl (by kernel_rfl) (by kernel_rfl) (by kernel_rfl) (fun _ _ _ h => h) (by rfl) ?_ hHeld ?_
            rotate_left
            · (intro w hSw; (try dsimp only at hSw); go_simp; try with_reducible rfl)
            simp only [Act.put, List.setIfInBounds_toArray, List.set_cons_zero, List.set_cons_succ]
            refine take_w 10 (some 64) (v := ?_) rfl rfl (by kernel_rfl) (by kernel_rfl) (by kernel_rfl) (fun _ _ _ h => h) (by rfl) ?_ hHeld ?_
            rotate_left
            · (intro w hSw; (try dsimp only at hSw); go_simp; try with_reducible rfl)
            simp only [Act.put, List.setIfInBounds_toArray, List.set_cons_zero, List.set_cons_succ]
            refine take_w 11 (some 65) (v := ?_) rfl rfl (by kernel_rfl) (by kernel_rfl) (by kernel_rfl) (fun _ _ _ h => h) (by rfl) ?_ hHeld ?_
            rotate_left
            · (intro w hSw; (try dsimp only at hSw); go_simp; try with_reducible rfl)
            simp only [Act.put, List.setIfInBounds_toArray, List.set_cons_zero, List.set_cons_succ]
            refine take_c 12 rfl (by kernel_rfl) (by rfl) (fun K hK => ?_)
            go_simp
            have cc := bytesEq_any (some ⟨g8, 0, none⟩) (some ⟨ga, oa + 480, none⟩) D (l.drop 480) 32 32 32 (c - 480) wz HDL.out (Rd.ofB h0) (by simp) (by rw [List.length_drop, HN.out]) (by
              have := ((HR.out ()).keep_nil d.F).drop 480
              rw [← bvs_drop] at this
              simpa [addr_add] using this) (by simp)
            rw [show (D == l.drop 480) = true from HEQ.out] at cc
            refine cc.mono ?_
            clear cc
            rintro e w' ⟨rfl, rfl⟩
            refine hK.out _ _ hHeld (fun hHx => ?_)
            clear hHx
            clear hK K
            try simp only [Act.put, List.setIfInBounds_toArray, List.set_cons_zero, List.set_cons_succ]
            refine take_w 13 (some 67) (v := ?_) rfl rfl (by kernel_rfl) (by kernel_rfl) (by kernel_rfl) (fun _ _ _ h => h) (by rfl) ?_ hHeld ?_
            rotate_left
            · (intro w hSw; (try dsimp only at hSw); go_simp; try with_reducible rfl)
            simp only [Act.put, List.setIfInBounds_toArray, List.set_cons_zero, List.set_cons_succ]
            refine take_w 14 (some 68) (v := ?_) rfl rfl (by kernel_rfl) (by kernel_rfl) (by kernel_rfl) (fun _ _ _ h => h) (by rfl) ?_ hHeld ?_
            rotate_left
            · (intro w hSw; (try dsimp only at hSw); go_simp; try with_reducible rfl)
            simp only [Act.put, List.setIfInBounds_toArray, List.set_cons_zero, List.set_cons_succ]
            refine take_w 15 (some 69) (v := ?_) rfl rfl (by kernel_rfl) (by kernel_rfl) (by kernel_rfl) (fun _ _ _ h => h) (by rfl) ?_ hHeld ?_
            rotate_left
            · (intro w hSw; (try dsimp only at hSw); go_simp; try with_reducible rfl)
            simp only [Act.put, List.setIfInBounds_toArray, List.set_cons_zero, List.set_cons_succ]
            refine take_w 16 (some 70) (v := .agg hd'.cells.toArray) rfl rfl (by kernel_rfl) (by kernel_rfl) (by kernel_rfl) (fun _ _ _ h => h) (by rfl) (fun w hSw => hy_ld stHead rfl g7 0 rfl _ (HeadM.len hok) (d.k.keep_nil hSw).range0) hHeld ?_
            try simp only [Act.put, List.setIfInBounds_toArray, List.set_cons_zero, List.set_cons_succ]
            refine take_c 17 rfl (by kernel_rfl) (by rfl) (fun K hK => ?_)
            go_simp
            refine (hCheck_any hd' hok _).mono ?_
            rintro e wn ⟨rfl, fn⟩
            replace d := d.nil fn
            refine hK.out _ _ fn (fun hHx => ?_)
            clear hHeld
            have hHeld := hHx
            clear hHx fn
            clear hK K
            try simp only [Act.put, List.setIfInBounds_toArray, List.set_cons_zero, List.set_cons_succ]
            cases hg : hd'.good
            · have hd : decH l = none := decH_no (fun h => by have := h.2.2; rw [HHD.out (), hg] at this; cases this)
              have HD := Lib.hid hd
              rw [show errG false 1 = 1 from rfl]
              clear hd
              refine take_w 18 (some 72) (v := ?_) rfl rfl (by kernel_rfl) (by kernel_rfl) (by kernel_rfl) (fun _ _ _ h => h) (by rfl) ?_ hHeld ?_
              rotate_left
              · (intro w hSw; (try dsimp only at hSw); go_simp; try with_reducible rfl)
              simp only [Act.put, List.setIfInBounds_toArray, List.set_cons_zero, List.set_cons_succ]
              refine take_w 19 (some 73) (v := ?_) rfl rfl (by kernel_rfl) (by kernel_rfl) (by kernel_rfl) (fun _ _ _ h => h) (by rfl) ?_ hHeld ?_
              rotate_left
              · (intro w hSw; (try dsimp only at hSw); go_simp; try with_reducible rfl)
              simp only [Act.put, List.setIfInBounds_toArray, List.set_cons_zero, List.set_cons_succ]
              refine wpAnyH_done (by kernel_rfl) ?_ _
              clear hms
              go_wp2_with
                (first
                  | (refine wpList_bld rfl rfl (.agg zeroH.cells.toArray) ?_ ?_; exact headZero _)
                  | (refine wpList_stB stHead rfl rfl g0 rfl zeroH.cells rfl (HeadM.len zeroH_ok) zeroH.ones zeroH.cells (HeadM.len zeroH_ok) d.o ?_; intro wc hc fc zc))
              try simp only [Exit.inBlock, Exit.then]
              refine bodyPost_ret (results_cell2 stHead rfl rfl (HeadM.len zeroH_ok) hc) rfl ?_
              exact ⟨by simp only [decHV, HD.out]; rfl, d.F.trans fc (fun i hi => .inr (by have := d.o0; simp at hi; omega))⟩
            · have hd : decH l = some hd' := by rw [← HHD.out ()]; exact decH_yes HN.out HB.out (by rw [HHD.out ()]; exact hg)
              have HD := Lib.hid hd
              rw [show errG true 1 = 0 from rfl]
              clear hd
              refine take_w 18 (some 72) (v := ?_) rfl rfl (by kernel_rfl) (by kernel_rfl) (by kernel_rfl) (fun _ _ _ h => h) (by rfl) ?_ hHeld ?_
              rotate_left
              · (intro w hSw; (try dsimp only at hSw); go_simp; try with_reducible rfl)
              simp only [Act.put, List.setIfInBounds_toArray, List.set_cons_zero, List.set_cons_succ]
              refine take_w 19 (some 73) (v := ?_) rfl rfl (by kernel_rfl) (by kernel_rfl) (by kernel_rfl) (fun _ _ _ h => h) (by rfl) ?_ hHeld ?_
              rotate_left
              · (intro w hSw; (try dsimp only at hSw); go_simp; try with_reducible rfl)
              simp only [Act.put, List.setIfInBounds_toArray, List.set_cons_zero, List.set_cons_succ]
              refine wpAnyH_done (by kernel_rfl) ?_ _
              clear hms
              go_wp2_with
                (first
                  | (refine wpList_ldS stHead rfl rfl g7 0 rfl hd'.cells (HeadM.len hok) d.k.range0 ?_)
                  | (refine wpList_stB stHead rfl rfl g0 rfl hd'.cells rfl (HeadM.len hok) hd'.ones zeroH.cells (HeadM.len zeroH_ok) d.o ?_; intro wc hc fc zc))
              try simp only [Exit.inBlock, Exit.then]
              refine bodyPost_ret (results_cell2 stHead rfl rfl (HeadM.len hok) hc) rfl ?_
              exact ⟨by simp only [decHV, HD.out]; rfl, d.F.trans fc (fun i hi => .inr (by have := d.o0; simp at hi; omega))⟩
      · have hd : decH l = none := decH_no (fun h => hm h.2.1.1.2)
        have HD := Lib.hid hd
        have hmb : (l.take 8 == [67, 65, 83, 75, 69, 84, 48, 49]) = false := by rw [beq_eq_false_iff_ne]; exact hm
        clear hz hd hm
        as_aux_lemma =>
          refine take_w 0 (some 54) (v := .pointer (some ⟨p, 0, none⟩)) rfl rfl (by kernel_rfl) (by kernel_rfl) (by kernel_rfl) (fun _ _ _ h => h) (by rfl) (fun w hSw => by have c := hSw.cell (by simp) cr; go_simp) hHeld ?_
          try simp only [Act.put, List.setIfInBounds_toArray, List.set_cons_zero, List.set_cons_succ]
          have cc := rDone_any d.x
          rw [show doneE ((l.take 480).drop 44) false = 0 by simp [doneE, HZ.out]] at cc
          refine take_c 1 rfl (by kernel_rfl) (by rfl) (fun K hK => ?_)
          go_simp
          refine cc.mono ?_
          clear cc
          rintro e w' ⟨rfl, rfl⟩
          refine hK.out _ _ hHeld (fun hHx => ?_)
          clear hHx
          clear hK K
          try simp only [Act.put, List.setIfInBounds_toArray, List.set_cons_zero, List.set_cons_succ]
          refine take_w 2 (some 56) (v := ?_) rfl rfl (by kernel_rfl) (by kernel_rfl) (by kernel_rfl) (fun _ _ _ h => h) (by rfl) ?_ hHeld ?_
          rotate_left
          · (intro w hSw; (try dsimp only at hSw); go_simp; try with_reducible rfl)
          simp only [Act.put, List.setIfInBounds_toArray, List.set_cons_zero, List.set_cons_succ]
          refine take_w 3 (some 57) (v := ?_) rfl rfl (by kernel_rfl) (by kernel_rfl) (by kernel_rfl) (fun _ _ _ h => h) (by rfl) ?_ hHeld ?_
          rotate_left
          · (intro w hSw; (try dsimp only at hSw); go_simp; try with_reducible rfl)
          simp only [Act.put, List.setIfInBounds_toArray, List.set_cons_zero, List.set_cons_succ]
          refine take_w 4 (some 58) (v := ?_) rfl rfl (by kernel_rfl) (by kernel_rfl) (by kernel_rfl) (fun _ _ _ h => h) (by rfl) ?_ hHeld ?_
          rotate_left
          · (intro w hSw; (try dsimp only at hSw); go_simp; try with_reducible rfl)
          simp only [Act.put, List.setIfInBounds_toArray, List.set_cons_zero, List.set_cons_succ]
          refine take_w 5 (some 59) (v := .string ⟨(l.take 8).toArray⟩) rfl rfl (by kernel_rfl) (by kernel_rfl) (by kernel_rfl) (fun _ _ _ h => h) (by rfl) (fun w hSw => by have E := (d.r5.keep_nil hSw).str; go_simp) hHeld ?_
          try simp only [Act.put, List.setIfInBounds_toArray, List.set_cons_zero, List.set_cons_succ]
          refine take_w 6 (some 60) (v := ?_) rfl rfl (by kernel_rfl) (by kernel_rfl) (by kernel_rfl) (fun _ _ _ h => h) (by rfl) ?_ hHeld ?_
          rotate_left
          · (intro w hSw; (try dsimp only at hSw); go_simp; try with_reducible rfl)
          simp only [Act.put, List.setIfInBounds_toArray, List.set_cons_zero, List.set_cons_succ]
          refine take_w 7 (some 61) (v := ?_) rfl rfl (by kernel_rfl) (by kernel_rfl) (by kernel_rfl) (fun _ _ _ h => h) (by rfl) ?_ hHeld ?_
          rotate_left
          · (intro w hSw; (try dsimp only at hSw); go_simp; try with_reducible rfl)
          simp only [Act.put, List.setIfInBounds_toArray, List.set_cons_zero, List.set_cons_succ]
          refine take_w 8 (some 62) (v := ?_) rfl rfl (by kernel_rfl) (by kernel_rfl) (by kernel_rfl) (fun _ _ _ h => h) (by rfl) ?_ hHeld ?_
          rotate_left
          · (intro w hSw; (try dsimp only at hSw); go_simp; try with_reducible rfl)
          simp only [Act.put, List.setIfInBounds_toArray, List.set_cons_zero, List.set_cons_succ]
          refine take_u 9 (some 63) rfl rfl (by kernel_rfl) (by kernel_rfl) (by kernel_rfl) (fun _ _ _ h => h) (by rfl) hHeld ?_
          simp only [Act.put, List.setIfInBounds_toArray, List.set_cons_zero, List.set_cons_succ]
          refine take_u 10 (some 64) rfl rfl (by kernel_rfl) (by kernel_rfl) (by kernel_rfl) (fun _ _ _ h => h) (by rfl) hHeld ?_
          simp only [Act.put, List.setIfInBounds_toArray, List.set_cons_zero, List.set_cons_succ]
          refine take_u 11 (some 65) rfl rfl (by kernel_rfl) (by kernel_rfl) (by kernel_rfl) (fun _ _ _ h => h) (by rfl) hHeld ?_
          simp only [Act.put, List.setIfInBounds_toArray, List.set_cons_zero, List.set_cons_succ]
          refine take_u 12 (some 66) rfl rfl (by kernel_rfl) (by kernel_rfl) (by kernel_rfl) (fun _ _ _ h => h) (by rfl) hHeld ?_
          simp only [Act.put, List.setIfInBounds_toArray, List.set_cons_zero, List.set_cons_succ]
          refine take_u 13 (some 67) rfl rfl (by kernel_rfl) (by kernel_rfl) (by kernel_rfl) (fun _ _ _ h => h) (by rfl) hHeld ?_
          simp only [Act.put, List.setIfInBounds_toArray, List.set_cons_zero, List.set_cons_succ]
          refine take_w 14 (some 68) (v := ?_) rfl rfl (by kernel_rfl) (by kernel_rfl) (by kernel_rfl) (fun _ _ _ h => h) (by rfl) ?_ hHeld ?_
          rotate_left
          · (intro w hSw; (try dsimp only at hSw); go_simp; try with_reducible rfl)
          simp only [Act.put, List.setIfInBounds_toArray, List.set_cons_zero, List.set_cons_succ]
          refine take_w 15 (some 69) (v := ?_) rfl rfl (by kernel_rfl) (by kernel_rfl) (by kernel_rfl) (fun _ _ _ h => h) (by rfl) ?_ hHeld ?_
          rotate_left
          · (intro w hSw; (try dsimp only at hSw); go_simp; try with_reducible rfl)
          simp only [Act.put, List.setIfInBounds_toArray, List.set_cons_zero, List.set_cons_succ]
          refine take_u 16 (some 70) rfl rfl (by kernel_rfl) (by kernel_rfl) (by kernel_rfl) (fun _ _ _ h => h) (by rfl) hHeld ?_
          simp only [Act.put, List.setIfInBounds_toArray, List.set_cons_zero, List.set_cons_succ]
          refine take_u 17 (some 71) rfl rfl (by kernel_rfl) (by kernel_rfl) (by kernel_rfl) (fun _ _ _ h => h) (by rfl) hHeld ?_
          simp only [Act.put, List.setIfInBounds_toArray, List.set_cons_zero, List.set_cons_succ]
          refine take_u 18 (some 72) rfl rfl (by kernel_rfl) (by kernel_rfl) (by kernel_rfl) (fun _ _ _ h => h) (by rfl) hHeld ?_
          simp only [Act.put, List.setIfInBounds_toArray, List.set_cons_zero, List.set_cons_succ]
          refine take_w 19 (some 73) (v := ?_) rfl rfl (by kernel_rfl) (by kernel_rfl) (by kernel_rfl) (fun _ _ _ h => h) (by rfl) ?_ hHeld ?_
          rotate_left
          · (intro w hSw; (try dsimp only at hSw); go_simp; try with_reducible rfl)
          simp only [Act.put, List.setIfInBounds_toArray, List.set_cons_zero, List.set_cons_succ]
          refine wpAnyH_done (by kernel_rfl) ?_ _
          go_wp2_with
            (first
              | (refine wpList_bld rfl rfl (.agg zeroH.cells.toArray) ?_ ?_; exact headZero _)
              | (refine wpList_stB stHead rfl rfl g0 rfl zeroH.cells rfl (HeadM.len zeroH_ok) zeroH.ones zeroH.cells (HeadM.len zeroH_ok) d.o ?_; intro wc hc fc zc))
          try simp only [Exit.inBlock, Exit.then]
          refine bodyPost_ret (results_cell2 stHead rfl rfl (HeadM.len zeroH_ok) hc) rfl ?_
          exact ⟨by simp only [decHV, HD.out]; rfl, d.F.trans fc (fun i hi => .inr (by have := d.o0; simp at hi; omega))⟩
  · have hd : decH l = none := decH_no (fun h => h512 (by rw [← hn]; exact h.1))
    have HD := Lib.hid hd
    have d : ((n : Int) == 512) = false := by rw [beq_eq_false_iff_ne]; omega
    clear hd
    go_enter Tryd.func21, Tryd.ntmps21
    go_wp2_with
      (first
        | (refine wpList_alS stHead rfl rfl ?_; intro wb hb fb zb)
        | (refine wpList_bld rfl rfl (.agg zeroH.cells.toArray) ?_ ?_; exact headZero _)
        | (refine wpList_stB stHead rfl rfl w.heap.size rfl zeroH.cells rfl (HeadM.len zeroH_ok) zeroH.ones zeroH.cells (HeadM.len zeroH_ok) hb ?_; intro wc hc fc zc))
    try simp only [Exit.inBlock, Exit.then]
    refine bodyPost_ret (results_cell2 stHead rfl rfl (HeadM.len zeroH_ok) hc) rfl ?_
    exact ⟨by simp only [decHV, HD.out]; rfl, fb.trans fc (fun i hi => .inr (by simp at hi; omega))⟩
end Go.Proofs.YtlelgeigighecaaDoor
