/-
  Contracts of layer 11: Layout.
-/
import Derived.Test.YtlelgeigighecaaDoorHeadG
import Derived.Test.YtlelgeigighecaaDoorHeadF
set_option linter.unusedSimpArgs false
set_option linter.unusedVariables false
set_option linter.unnecessarySimpa false
namespace Go.Proofs.YtlelgeigighecaaDoor
open Go.RowKit

def ivs (l : List Nat) : List Value := l.map fun (n : Nat) => Value.int .i64 (n : Int)
theorem ivs_len (l : List Nat) : (ivs l).length = l.length := by simp [ivs]
theorem ivs_append (a b : List Nat) : ivs (a ++ b) = ivs a ++ ivs b := by simp [ivs]
def layC (a b c d e : Nat) (v : Value) (f g h : Nat) : List Value := [.int .i64 (a : Int), .int .i64 (b : Int), .int .i64 (c : Int), .int .i64 (d : Int), .int .i64 (e : Int), v, .int .i64 (f : Int), .int .i64 (g : Int), .int .i64 (h : Int)]
theorem layC_len {a b c d e : Nat} {v : Value} {f g h : Nat} : (layC a b c d e v f g h).length = 9 := rfl
theorem layC_ones {a b c d e : Nat} {A : Option Addr} {n m : Nat} {f g h : Nat} : ∀ u ∈ layC a b c d e (.slice A n m) f g h, u.oneCell' = true := by
  intro u hu
  simp only [layC, List.mem_cons, List.not_mem_nil, or_false] at hu
  rcases hu with rfl | rfl | rfl | rfl | rfl | rfl | rfl | rfl | rfl <;> rfl
def zeroL : List Value := layC 0 0 0 0 0 (.slice none 0 0) 0 0 0
set_option maxRecDepth 100000 in
theorem stLay : StT Tryd.prog 34 9 zeroL := ⟨⟨_, Tryd.underlying34, rfl⟩, by kernel_rfl, by decide, by kernel_rfl, layC_ones⟩
set_option maxRecDepth 100000 in
theorem layZero (w : World) : (Instr.build 34 #[]).run Tryd.prog w = .ok (.agg zeroL.toArray) w := by kernel_rfl
set_option maxRecDepth 100000 in
theorem layTwo (w : World) : (Instr.build 34 #[(0, .int .i64 2)]).run Tryd.prog w = .ok (.agg (layC 2 0 0 0 0 (.slice none 0 0) 0 0 0).toArray) w := by kernel_rfl
set_option maxRecDepth 100000 in
theorem layFive (w : World) (b c d e : Nat) : (Instr.build 34 #[(0, .int .i64 2), (1, .int .i64 (b : Int)), (2, .int .i64 (c : Int)), (3, .int .i64 (d : Int)), (4, .int .i64 (e : Int))]).run Tryd.prog w = .ok (.agg (layC 2 b c d e (.slice none 0 0) 0 0 0).toArray) w := by kernel_rfl
theorem slI : SlT Tryd.prog 32 3 1 8 (.int .i64 0) := ⟨Tryd.underlying32, by kernel_rfl, rfl, by decide, by decide⟩

/-- How many blocks of tags; of the first level; the levels. -/
def tagsN (s : Nat) : Nat := (s + 7) / 8
def oneN (s : Nat) : Nat := (tagsN s + 15) / 16
def levN (s : Nat) : List Nat := if oneN s = 1 then [1] else [oneN s, 1]
theorem tagsN_b {s : Nat} (h : 1 ≤ s ∧ s ≤ 1024) : 1 ≤ tagsN s ∧ tagsN s ≤ 128 := by unfold tagsN; omega
theorem oneN_b {s : Nat} (h : 1 ≤ s ∧ s ≤ 1024) : 1 ≤ oneN s ∧ oneN s ≤ 8 := by have := tagsN_b h; unfold oneN; omega
def sumL (l : List Nat) : Nat := l.foldr (· + ·) 0
/-- A good header's layout. -/
def layH (s l j : Nat) (v : Value) : List Value :=
  layC 2 (2 + l) (3 + l) (4 + l) (4 + l + j) v (4 + l + j + sumL (levN s)) (4 + l + j + sumL (levN s) + tagsN s) (4 + l + j + sumL (levN s) + tagsN s + s)
def LayH (w : World) (h : HeadM) (e : Ending) (w' : World) : Prop :=
  ∃ v, e = .returned (.tuple #[.agg (if h.good then layH h.sec.toNat h.slo.toNat h.jou.toNat v else zeroL).toArray, .int .i64 (errG h.good 1)]) ∧ Row w' w.heap.size 3 1 v (if h.good then (levN h.sec.toNat).length else 0) (ivs (if h.good then levN h.sec.toNat else [])) ∧ Fr [] w w'

theorem hParts_any (n k : Nat) (w : World) (hn : n ≤ 1024) (hk : k = 8 ∨ k = 16) : Calls Tryd.prog 45 #[.int .i64 n, .int .i64 k] w fun e w' => e = .returned (.int .i64 (((n + (k - 1)) / k : Nat) : Int)) ∧ w = w' := by
  rcases hk with rfl | rfl
  · go_enter Tryd.func45, Tryd.ntmps45
    go_wp2
    go_ret
    refine ⟨?_, rfl⟩
    show Ending.returned (.int .i64 _) = _
    congr 2
    omega
  · go_enter Tryd.func45, Tryd.ntmps45
    go_wp2
    go_ret
    refine ⟨?_, rfl⟩
    show Ending.returned (.int .i64 _) = _
    congr 2
    omega
theorem xhUp_any (n k : Nat) (w : World) (hn : n ≤ 1024) (hk : k = 8 ∨ k = 16) : Calls Tryd.prog 46 #[.int .i64 n, .int .i64 k] w fun e w' => e = .returned (.int .i64 (((n + (k - 1)) / k : Nat) : Int)) ∧ w = w' := by
  rcases hk with rfl | rfl
  · go_enter Tryd.func46, Tryd.ntmps46
    go_wp2
    go_ret
    refine ⟨?_, rfl⟩
    show Ending.returned (.int .i64 _) = _
    congr 2
    omega
  · go_enter Tryd.func46, Tryd.ntmps46
    go_wp2
    go_ret
    refine ⟨?_, rfl⟩
    show Ending.returned (.int .i64 _) = _
    congr 2
    omega

theorem sumL_append (a b : List Nat) : sumL (a ++ b) = sumL a + sumL b := by
  induction a with
  | nil => simp [sumL]
  | cons x r ih => simp only [List.cons_append, sumL, List.foldr_cons] at *; omega
theorem sumL_one (n : Nat) : sumL [n] = n := rfl
def lenAt (w : World) (g : Nat) : Nat := match w.cell? ⟨g, 5, none⟩ with
  | some (.slice _ m _) => m
  | _ => 0
/-- Where the loop stands. -/
def LSt (s : Nat) (done : List Nat) (cur : Nat) : Prop := (done = [] ∧ cur = tagsN s) ∨ (done = [oneN s] ∧ cur = oneN s) ∨ (done = [oneN s, 1] ∧ cur = 1 ∧ 1 < oneN s)

theorem LSt.next {s : Nat} {done : List Nat} {cur : Nat} (hs : 1 ≤ s ∧ s ≤ 1024) (h : LSt s done cur) :
    (∃ nx, LSt s (done ++ [nx]) nx ∧ (cur + 15) / 16 = nx ∧ (1 < cur ∨ done = []) ∧ done.length ≤ 1 ∧ cur ≤ 128 ∧ nx ≤ 8 ∧ sumL done ≤ 8) ∨ (cur = 1 ∧ done ≠ [] ∧ done = levN s ∧ sumL done ≤ 9) := by
  have b1 := tagsN_b hs
  have b2 := oneN_b hs
  rcases h with ⟨rfl, rfl⟩ | ⟨rfl, rfl⟩ | ⟨rfl, rfl, h⟩
  · exact .inl ⟨oneN s, .inr (.inl ⟨rfl, rfl⟩), rfl, .inr rfl, by simp, by omega, by omega, by simp [sumL]⟩
  · by_cases h1 : 1 < oneN s
    · exact .inl ⟨1, .inr (.inr ⟨rfl, rfl, h1⟩), by omega, .inl h1, by simp, by omega, by omega, by rw [sumL_one]; omega⟩
    · have h2 : oneN s = 1 := by omega
      exact .inr ⟨h2, by simp, by rw [levN, if_pos h2, h2], by rw [sumL_one]; omega⟩
  · exact .inr ⟨rfl, by simp, by rw [levN, if_neg (by omega)], by simp [sumL]; omega⟩
set_option maxRecDepth 100000 in
set_option maxHeartbeats 4000000 in
theorem hLayout_any (w : World) (h : HeadM) (hs : h.ok) : Calls Tryd.prog 15 #[.agg h.cells.toArray] w (LayH w h) := by
  have qT : ∀ (w : World) (a : Option Addr) (n c n' c' : Nat), (binOp .eql 32 (.slice a n c) (.slice none n' c')).run Tryd.prog w = .ok (.bool a.isNone) w :=
    fun w a n c n' c' => Lib.run_eql_slice_nil w _ _ a n c n' c' Tryd.underlying32
  cases hg : h.good
  · have HG := Lib.hid hg
    have cc := fun w => hCheck_any h hs w
    rw [hg] at cc
    have CC := Lib.hid cc
    clear cc hg
    go_enter Tryd.func15, Tryd.ntmps15
    go_wp2_with
      (first
        | (refine wpList_boxS rfl rfl h.cells rfl ?_; intro w1 h1 f1 z1; have Z1 := Lib.hid z1; clear z1; obtain ⟨g, hg⟩ : ∃ g, w.heap.size = g := ⟨_, rfl⟩; rw [hg] at h1; rw [hg]; have HGG := Lib.hid hg; clear hg)
        | (refine wpList_alS stLay (o := ⟨some 2, _, _, _, _, _⟩) rfl rfl ?_; intro w2 h2 f2 z2; have Z2 := Lib.hid z2; clear z2; obtain ⟨g2, hg2⟩ : ∃ g2, w1.heap.size = g2 := ⟨_, rfl⟩; rw [hg2] at h2; rw [hg2]; have HG2 := Lib.hid hg2; clear hg2; have h1 := h1.keep_nil f2)
        | (refine wpList_ldS stHead rfl rfl g 0 rfl h.cells (HeadM.len hs) h1.range0 ?_))
    refine (CC.out _).mono ?_
    rintro e w3 ⟨rfl, f3⟩
    rw [show errG false 1 = 1 from rfl]
    have i2 := h2.keep_nil f3
    have z0 := HGG.out
    have z2 := HG2.out
    have s1 := f1.size
    go_wp2_with
      (first
        | (refine wpList_bld rfl rfl (.agg zeroL.toArray) ?_ ?_; exact layZero _)
        | (refine wpList_stB stLay rfl rfl g2 rfl zeroL rfl rfl layC_ones zeroL rfl i2 ?_; intro wc hc fc zc))
    try simp only [Exit.inBlock, Exit.then]
    refine bodyPost_ret (results_cell2 stLay rfl rfl rfl hc) rfl ?_
    exact ⟨.slice none 0 0, by rw [HG.out]; rfl, by rw [HG.out]; exact Row.nil _ _ _ _, ((f1.trans_nil f2).trans_nil f3).trans fc (fun i hi => .inr (by simp at hi; omega))⟩
  · have HG := Lib.hid hg
    have I := HeadM.in_of hg
    obtain ⟨ns, nl, nj, ne, nt, nm, na, NN⟩ := HeadM.nat_of I
    have HN := Lib.hid NN
    have B1 := NN.bs
    have B2 := NN.bl
    have B3 := NN.bj
    have cc := fun w => hCheck_any h hs w
    rw [hg] at cc
    have CC := Lib.hid cc
    clear cc hg I NN
    go_enter Tryd.func15, Tryd.ntmps15
    go_wp2_with
      (first
        | (refine wpList_boxS rfl rfl h.cells rfl ?_; intro w1 h1 f1 z1; have Z1 := Lib.hid z1; clear z1; obtain ⟨g, hg⟩ : ∃ g, w.heap.size = g := ⟨_, rfl⟩; rw [hg] at h1; rw [hg]; have HGG := Lib.hid hg; clear hg)
        | (refine wpList_alS stLay (o := ⟨some 2, _, _, _, _, _⟩) rfl rfl ?_; intro w2 h2 f2 z2; have Z2 := Lib.hid z2; clear z2; obtain ⟨g2, hg2⟩ : ∃ g2, w1.heap.size = g2 := ⟨_, rfl⟩; rw [hg2] at h2; rw [hg2]; have HG2 := Lib.hid hg2; clear hg2; have h1 := h1.keep_nil f2)
        | (refine wpList_ldS stHead rfl rfl g 0 rfl h.cells (HeadM.len hs) h1.range0 ?_))
    refine (CC.out _).mono ?_
    rintro e w3 ⟨rfl, f3⟩
    rw [show errG true 1 = 0 from rfl]
    have i2 := h2.keep_nil f3
    have i1 := h1.keep_nil f3
    have F3 := (f1.trans_nil f2).trans_nil f3
    have z0 := HGG.out
    have z2 := HG2.out
    have s1 := h1.lt
    have s2 := i2.lt
    have s3 := f1.size
    clear h1 h2 f1 f2 f3
    go_upto_region 5 with
      (first
        | (refine wpList_bld rfl rfl (.agg (layC 2 0 0 0 0 (.slice none 0 0) 0 0 0).toArray) ?_ ?_; exact layTwo _)
        | (refine wpList_alS stLay (o := ⟨some 5, _, _, _, _, _⟩) rfl rfl ?_; intro w4 h4 f4 z4; have Z4 := Lib.hid z4; clear z4; obtain ⟨g5, hg5⟩ : ∃ g5, w3.heap.size = g5 := ⟨_, rfl⟩; rw [hg5] at h4; rw [hg5]; have HG5 := Lib.hid hg5; clear hg5)
        | (refine wpList_stB stLay rfl rfl g5 rfl (layC 2 0 0 0 0 (.slice none 0 0) 0 0 0) rfl rfl layC_ones zeroL rfl h4 ?_; intro w5 h5 f5 z5; have Z5 := Lib.hid z5; clear z5))
    have ne1 : g < g5 := by have := HG5.out; omega
    have ne3 : g2 < g5 := by have := HG5.out; omega
    have j1 := (i1.keep_nil f4).keep f5 (by simp; omega)
    replace i2 := (i2.keep_nil f4).keep f5 (by simp; omega)
    have F : Fr [] w w5 := (F3.trans_nil f4).trans f5 (fun i hi => .inr (by simp at hi; omega))
    clear F3 f4 f5 h4 i1
    obtain ⟨k1, hk1⟩ : ∃ k : Nat, k = 2 + nl := ⟨_, rfl⟩
    obtain ⟨k2, hk2⟩ : ∃ k : Nat, k = 3 + nl := ⟨_, rfl⟩
    obtain ⟨k3, hk3⟩ : ∃ k : Nat, k = 4 + nl := ⟨_, rfl⟩
    obtain ⟨k4, hk4⟩ : ∃ k : Nat, k = 4 + nl + nj := ⟨_, rfl⟩
    have E1 : (2 : Int) + (nl : Int) = (k1 : Int) := by omega
    have E2 : (k1 : Int) + 1 = (k2 : Int) := by omega
    have E3 : (k2 : Int) + 1 = (k3 : Int) := by omega
    have E4 : (k3 : Int) + (nj : Int) = (k4 : Int) := by omega
    have HK := Lib.hid (And.intro hk1 (And.intro hk2 (And.intro hk3 hk4)))
    have K1 : k1 ≤ 10 := by omega
    have K2 : k2 ≤ 11 := by omega
    have K3 : k3 ≤ 12 := by omega
    have K4 : k4 ≤ 300 := by omega
    clear hk1 hk2 hk3 hk4
    obtain ⟨-, -, c2, -, -, -, -, -⟩ := head_cellsN HN.out j1
    have e0 := h5.cell 0
    have e1 := h5.cell 1
    have y1 := h5.frozen 1
    simp [layC] at e0 e1
    go_upto_region 6 with fail
    have fs := (Fr.refl [g5] w5).setCell (p := ⟨g5, 1, none⟩) (.inl (by simp)) (.int .i64 (k1 : Int))
    have h6 := h5.set_ 1 (.int .i64 (k1 : Int))
    replace j1 := j1.keep fs (by simp; omega)
    skip
    replace i2 := i2.keep fs (by simp; omega)
    replace F := F.trans fs (fun i hi => .inr (by simp at hi; omega))
    generalize World.setCell w5 ⟨g5, 1, none⟩ (.int .i64 (k1 : Int)) = w6 at *
    clear h5 fs c2 e0 e1 y1
    have h5 : Blk w6 g5 34 (layC 2 k1 0 0 0 (.slice none 0 0) 0 0 0).toArray := h6
    clear h6
    have e1 := h5.cell 1
    have e2 := h5.cell 2
    have y2 := h5.frozen 2
    simp [layC] at e1 e2
    go_upto_region 7 with fail
    have fs := (Fr.refl [g5] w6).setCell (p := ⟨g5, 2, none⟩) (.inl (by simp)) (.int .i64 (k2 : Int))
    have h6 := h5.set_ 2 (.int .i64 (k2 : Int))
    replace j1 := j1.keep fs (by simp; omega)
    skip
    replace i2 := i2.keep fs (by simp; omega)
    replace F := F.trans fs (fun i hi => .inr (by simp at hi; omega))
    generalize World.setCell w6 ⟨g5, 2, none⟩ (.int .i64 (k2 : Int)) = w6 at *
    clear h5 fs e1 e2 y2
    have h5 : Blk w6 g5 34 (layC 2 k1 k2 0 0 (.slice none 0 0) 0 0 0).toArray := h6
    clear h6
    have e2 := h5.cell 2
    have e3 := h5.cell 3
    have y3 := h5.frozen 3
    simp [layC] at e2 e3
    go_upto_region 8 with fail
    have fs := (Fr.refl [g5] w6).setCell (p := ⟨g5, 3, none⟩) (.inl (by simp)) (.int .i64 (k3 : Int))
    have h6 := h5.set_ 3 (.int .i64 (k3 : Int))
    replace j1 := j1.keep fs (by simp; omega)
    skip
    replace i2 := i2.keep fs (by simp; omega)
    replace F := F.trans fs (fun i hi => .inr (by simp at hi; omega))
    generalize World.setCell w6 ⟨g5, 3, none⟩ (.int .i64 (k3 : Int)) = w6 at *
    clear h5 fs e2 e3 y3
    have h5 : Blk w6 g5 34 (layC 2 k1 k2 k3 0 (.slice none 0 0) 0 0 0).toArray := h6
    clear h6
    obtain ⟨-, -, -, c3, -, -, -, -⟩ := head_cellsN HN.out j1
    have e3 := h5.cell 3
    have e4 := h5.cell 4
    have y4 := h5.frozen 4
    simp [layC] at e3 e4
    go_upto_region 9 with fail
    have fs := (Fr.refl [g5] w6).setCell (p := ⟨g5, 4, none⟩) (.inl (by simp)) (.int .i64 (k4 : Int))
    have h6 := h5.set_ 4 (.int .i64 (k4 : Int))
    replace j1 := j1.keep fs (by simp; omega)
    skip
    replace i2 := i2.keep fs (by simp; omega)
    replace F := F.trans fs (fun i hi => .inr (by simp at hi; omega))
    generalize World.setCell w6 ⟨g5, 4, none⟩ (.int .i64 (k4 : Int)) = w6 at *
    clear h5 fs c3 e3 e4 y4
    have h5 : Blk w6 g5 34 (layC 2 k1 k2 k3 k4 (.slice none 0 0) 0 0 0).toArray := h6
    clear h6
    obtain ⟨-, c1, -, -, -, -, -, -⟩ := head_cellsN HN.out j1
    go_wp2_with fail
    have cc := hParts_any ns 8 w6 (by omega) (.inl rfl)
    rw [show ((ns + (8 - 1)) / 8 : Nat) = tagsN ns from rfl] at cc
    refine cc.mono ?_
    clear cc
    rintro e w' ⟨rfl, rfl⟩
    have T0 := tagsN_b B1
    have O0 := oneN_b B1
    obtain ⟨T, hT⟩ : ∃ T, tagsN ns = T := ⟨_, rfl⟩
    rw [hT]
    rw [hT] at T0
    have HT := Lib.hid hT
    clear hT c1
    have e4 := h5.cell 4
    have e6 := h5.cell 6
    have y6 := h5.frozen 6
    simp [layC] at e4 e6
    go_upto_region 11 with fail
    have fs := (Fr.refl [g5] w6).setCell (p := ⟨g5, 6, none⟩) (.inl (by simp)) (.int .i64 (k4 : Int))
    have h6 := h5.set_ 6 (.int .i64 (k4 : Int))
    replace j1 := j1.keep fs (by simp; omega)
    skip
    replace i2 := i2.keep fs (by simp; omega)
    replace F := F.trans fs (fun i hi => .inr (by simp at hi; omega))
    generalize World.setCell w6 ⟨g5, 6, none⟩ (.int .i64 (k4 : Int)) = w6 at *
    clear h5 fs e4 e6 y6
    have h5 : Blk w6 g5 34 (layC 2 k1 k2 k3 k4 (.slice none 0 0) k4 0 0).toArray := h6
    clear h6
    go_wp2_with fail
    go_loopw [7] (fun n wr => ∃ done cur A m c, n = .int .i64 ((cur : Nat) : Int) ∧ LSt ns done cur ∧ m = done.length ∧ (A.isNone = true ↔ done = []) ∧ Blk wr g5 34 (layC 2 k1 k2 k3 k4 (.slice A m c) (k4 + sumL done) 0 0).toArray ∧ Row wr w.heap.size 3 1 (.slice A m c) m (ivs done) ∧ Blk wr g 27 h.cells.toArray ∧ Blk wr g2 34 zeroL.toArray ∧ Fr [] w wr) (fun _ wr => 3 - lenAt wr g5)
    case atStart => exact ⟨[], T, none, 0, 0, rfl, .inl ⟨rfl, HT.out.symm⟩, rfl, by simp, h5, Row.nil _ _ _ _, j1, i2, F⟩
    case round =>
      clear h5 j1 i2 F
      obtain ⟨done, cur, A, m, c, rfl, hst, hm, hA, h5, r5, j1, i2, F⟩ := hrel
      subst hm
      rcases hst.next B1 with ⟨nx, hnx, hup, hcont, hdl, hcur, hnb, hsb⟩ | ⟨rfl, hne, hlev, hsb⟩
      · obtain ⟨S, hS⟩ : ∃ S, k4 + sumL done = S := ⟨_, rfl⟩
        have hS' : k4 + sumL (done ++ [nx]) = S + nx := by rw [sumL_append, sumL_one]; omega
        have HS' := Lib.hid hS'
        have HNX := Lib.hid hnx
        have HUP := Lib.hid hup
        rw [hS] at h5
        have Sb : S ≤ 310 := by omega
        have c5 := h5.cell 5
        have c6 := h5.cell 6
        have y5 := h5.frozen 5
        have y6 := h5.frozen 6
        simp [layC] at c5 c6
        have hlen : lenAt wr g5 = done.length := by simp [lenAt, c5]
        have HLEN := Lib.hid hlen
        obtain ⟨dl, hdl'⟩ : ∃ n, done.length = n := ⟨_, rfl⟩
        rw [hdl'] at h5 r5 c5 hdl
        have HDL := Lib.hid hdl'
        clear hnx hup hS hS' hst hsb hlen
        by_cases K : 1 < cur
        ·
          clear hcont
          go_wp2_with fail
          have cc := hParts_any cur 16 wr (by omega) (.inr rfl)
          rw [show ((cur + (16 - 1)) / 16 : Nat) = nx from HUP.out] at cc
          refine cc.mono ?_
          clear cc
          rintro e w' ⟨rfl, rfl⟩
          go_wp2_with
            (first
              | (at_builtin; refine wpList_app rfl rfl slI w.heap.size _ dl (ivs done) rfl (r5.alloc _) _ 1 1 [_] rfl rfl (Rd.one _ _ _) (by intro u hu; rw [List.mem_singleton.1 hu]; rfl) (fun h => by cases h) (by omega) (by have := F.size; simp; omega) ?_; intro v7 w7 q1 q2 q3 q4; have h7 := (h5.alloc (.cells #[.int .i64 (nx : Int)] 3)).keep q2 (fun hm => r5.ne_blk h5 (by decide) (mem_own.1 hm)); have d5 := h7.cell 5; have d6 := h7.cell 6; have x5 := h7.frozen 5; have x6 := h7.frozen 6; simp [layC] at d5 d6; obtain ⟨A7, cap7, rfl, -, -, -, -, -⟩ := q1.shape))
          have F7 : Fr [] w w7 := (F.alloc _).trans q2 (fun i hi => .inr (r5.lt i (mem_own.1 hi)).1)
          have j7 := (j1.alloc (.cells #[.int .i64 (nx : Int)] 3)).keep q2 (fun hm => r5.ne_blk j1 (by decide) (mem_own.1 hm))
          have i7 := (i2.alloc (.cells #[.int .i64 (nx : Int)] 3)).keep q2 (fun hm => r5.ne_blk i2 (by decide) (mem_own.1 hm))
          have n7 := q1.ne_blk h7 (by decide)
          have hA7 : A7.isNone = false := by
            cases A7 with
            | none => exact absurd (q1.rd.2.2 rfl) (by omega)
            | some a => rfl
          rw [show ivs done ++ [Value.int .i64 (nx : Int)] = ivs (done ++ [nx]) by rw [ivs_append]; rfl] at q1
          have h8 := (h7.set_ 5 (.slice A7 (dl + 1) cap7)).set_ 6 (.int .i64 ((S : Int) + (nx : Int)))
          have fs : Fr [g5] w7 ((w7.setCell ⟨g5, 5, none⟩ (.slice A7 (dl + 1) cap7)).setCell ⟨g5, 6, none⟩ (.int .i64 ((S : Int) + (nx : Int)))) := ((Fr.refl [g5] w7).setCell (p := ⟨g5, 5, none⟩) (.inl (by simp)) _).setCell (p := ⟨g5, 6, none⟩) (.inl (by simp)) _
          have hl8 : lenAt ((w7.setCell ⟨g5, 5, none⟩ (.slice A7 (dl + 1) cap7)).setCell ⟨g5, 6, none⟩ (.int .i64 ((S : Int) + (nx : Int)))) g5 = dl + 1 := by
            have := h8.cell 5
            simp [layC] at this
            simp [lenAt, this]
          refine ⟨⟨done ++ [nx], nx, A7, dl + 1, cap7, rfl, HNX.out, by rw [List.length_append, HDL.out]; rfl, by rw [hA7]; simp, ?_, q1.keep fs (fun i hi hm => n7 (by rw [hi]; simp at hm; rw [hm])), j7.keep fs (by simp; omega), i7.keep fs (by simp; omega), F7.trans fs (fun i hi => .inr (by simp at hi; omega))⟩, ?_⟩
          · rw [HS'.out]
            exact h8
          · rw [hl8, HLEN.out, HDL.out]; omega
        · have hA' : A = none := by
            have := hA.2 (hcont.resolve_left K)
            simpa using this
          subst hA'
          have K' : ¬ ((1 : Int) < (cur : Int)) := by omega
          clear hcont
          go_wp2_with fail
          have cc := hParts_any cur 16 wr (by omega) (.inr rfl)
          rw [show ((cur + (16 - 1)) / 16 : Nat) = nx from HUP.out] at cc
          refine cc.mono ?_
          clear cc
          rintro e w' ⟨rfl, rfl⟩
          go_wp2_with
            (first
              | (at_builtin; refine wpList_app rfl rfl slI w.heap.size _ dl (ivs done) rfl (r5.alloc _) _ 1 1 [_] rfl rfl (Rd.one _ _ _) (by intro u hu; rw [List.mem_singleton.1 hu]; rfl) (fun h => by cases h) (by omega) (by have := F.size; simp; omega) ?_; intro v7 w7 q1 q2 q3 q4; have h7 := (h5.alloc (.cells #[.int .i64 (nx : Int)] 3)).keep q2 (fun hm => r5.ne_blk h5 (by decide) (mem_own.1 hm)); have d5 := h7.cell 5; have d6 := h7.cell 6; have x5 := h7.frozen 5; have x6 := h7.frozen 6; simp [layC] at d5 d6; obtain ⟨A7, cap7, rfl, -, -, -, -, -⟩ := q1.shape))
          have F7 : Fr [] w w7 := (F.alloc _).trans q2 (fun i hi => .inr (r5.lt i (mem_own.1 hi)).1)
          have j7 := (j1.alloc (.cells #[.int .i64 (nx : Int)] 3)).keep q2 (fun hm => r5.ne_blk j1 (by decide) (mem_own.1 hm))
          have i7 := (i2.alloc (.cells #[.int .i64 (nx : Int)] 3)).keep q2 (fun hm => r5.ne_blk i2 (by decide) (mem_own.1 hm))
          have n7 := q1.ne_blk h7 (by decide)
          have hA7 : A7.isNone = false := by
            cases A7 with
            | none => exact absurd (q1.rd.2.2 rfl) (by omega)
            | some a => rfl
          rw [show ivs done ++ [Value.int .i64 (nx : Int)] = ivs (done ++ [nx]) by rw [ivs_append]; rfl] at q1
          have h8 := (h7.set_ 5 (.slice A7 (dl + 1) cap7)).set_ 6 (.int .i64 ((S : Int) + (nx : Int)))
          have fs : Fr [g5] w7 ((w7.setCell ⟨g5, 5, none⟩ (.slice A7 (dl + 1) cap7)).setCell ⟨g5, 6, none⟩ (.int .i64 ((S : Int) + (nx : Int)))) := ((Fr.refl [g5] w7).setCell (p := ⟨g5, 5, none⟩) (.inl (by simp)) _).setCell (p := ⟨g5, 6, none⟩) (.inl (by simp)) _
          have hl8 : lenAt ((w7.setCell ⟨g5, 5, none⟩ (.slice A7 (dl + 1) cap7)).setCell ⟨g5, 6, none⟩ (.int .i64 ((S : Int) + (nx : Int)))) g5 = dl + 1 := by
            have := h8.cell 5
            simp [layC] at this
            simp [lenAt, this]
          refine ⟨⟨done ++ [nx], nx, A7, dl + 1, cap7, rfl, HNX.out, by rw [List.length_append, HDL.out]; rfl, by rw [hA7]; simp, ?_, q1.keep fs (fun i hi hm => n7 (by rw [hi]; simp at hm; rw [hm])), j7.keep fs (by simp; omega), i7.keep fs (by simp; omega), F7.trans fs (fun i hi => .inr (by simp at hi; omega))⟩, ?_⟩
          · rw [HS'.out]
            exact h8
          · rw [hl8, HLEN.out, HDL.out]; omega
      · obtain ⟨a, rfl⟩ : ∃ a, A = some a := by
          cases A with
          | none => exact absurd (hA.1 rfl) hne
          | some a => exact ⟨a, rfl⟩
        obtain ⟨S, hS⟩ : ∃ S, k4 + sumL done = S := ⟨_, rfl⟩
        rw [hS] at h5
        have Sb : S ≤ 310 := by omega
        have HS := Lib.hid hS
        have HLV := Lib.hid hlev
        have c5 := h5.cell 5
        have c6 := h5.cell 6
        have c7 := h5.cell 7
        have y7 := h5.frozen 7
        simp [layC] at c5 c6 c7
        obtain ⟨S2, hS2⟩ : ∃ S2, S2 = S + T := ⟨_, rfl⟩
        obtain ⟨S3, hS3⟩ : ∃ S3, S3 = S2 + ns := ⟨_, rfl⟩
        have E5 : (S : Int) + (T : Int) = (S2 : Int) := by omega
        have E6 : (S2 : Int) + (ns : Int) = (S3 : Int) := by omega
        have S2b : S2 ≤ 440 := by omega
        have HS2 := Lib.hid (And.intro hS2 hS3)
        obtain ⟨dl, hdl'⟩ : ∃ n, done.length = n := ⟨_, rfl⟩
        rw [hdl'] at h5 r5 c5
        have HDL := Lib.hid hdl'
        clear hS hS2 hS3 hsb hst hdl' hlev hA hne
        have hne5 := r5.ne_blk h5 (by decide)
        go_upto_region 17 with fail
        have fs := (Fr.refl [g5] wr).setCell (p := ⟨g5, 7, none⟩) (.inl (by simp)) (.int .i64 (S2 : Int))
        have h6 := h5.set_ 7 (.int .i64 (S2 : Int))
        replace j1 := j1.keep fs (by simp; omega)
        replace r5 := r5.keep fs (fun i hi hm => hne5 (by rw [hi]; simp at hm; rw [hm]))
        replace i2 := i2.keep fs (by simp; omega)
        replace F := F.trans fs (fun i hi => .inr (by simp at hi; omega))
        generalize World.setCell wr ⟨g5, 7, none⟩ (.int .i64 (S2 : Int)) = w6 at *
        clear h5 fs c5 c6 c7 y7
        have h5 : Blk w6 g5 34 (layC 2 k1 k2 k3 k4 (.slice (some a) dl c) S S2 0).toArray := h6
        clear h6
        obtain ⟨-, c1, -, -, -, -, -, -⟩ := head_cellsN HN.out j1
        have c7 := h5.cell 7
        have c8 := h5.cell 8
        have y8 := h5.frozen 8
        simp [layC] at c7 c8
        go_upto_region 18 with fail
        have fs := (Fr.refl [g5] w6).setCell (p := ⟨g5, 8, none⟩) (.inl (by simp)) (.int .i64 (S3 : Int))
        have h6 := h5.set_ 8 (.int .i64 (S3 : Int))
        replace j1 := j1.keep fs (by simp; omega)
        replace r5 := r5.keep fs (fun i hi hm => hne5 (by rw [hi]; simp at hm; rw [hm]))
        replace i2 := i2.keep fs (by simp; omega)
        replace F := F.trans fs (fun i hi => .inr (by simp at hi; omega))
        generalize World.setCell w6 ⟨g5, 8, none⟩ (.int .i64 (S3 : Int)) = w6 at *
        clear h5 fs c1 c7 c8 y8
        have h5 : Blk w6 g5 34 (layC 2 k1 k2 k3 k4 (.slice (some a) dl c) S S2 S3).toArray := h6
        clear h6
        go_wp2_with
          (first
            | (refine wpList_ldS stLay rfl rfl g5 0 rfl (layC 2 k1 k2 k3 k4 (.slice (some a) dl c) S S2 S3) rfl h5.range0 ?_)
            | (refine wpList_stB stLay rfl rfl g2 rfl (layC 2 k1 k2 k3 k4 (.slice (some a) dl c) S S2 S3) rfl rfl layC_ones zeroL rfl i2 ?_; intro wc hc fc zc))
        try simp only [Exit.inBlock, Exit.then]
        refine bodyPost_ret (results_cell2 stLay rfl rfl rfl hc) rfl ?_
        obtain ⟨hk1, hk2, hk3, hk4⟩ := HK.out
        have e : layH h.sec.toNat h.slo.toNat h.jou.toNat (.slice (some a) dl c) = layC 2 k1 k2 k3 k4 (.slice (some a) dl c) S S2 S3 := by
          rw [HN.out.sec, HN.out.slo, HN.out.jou]
          simp only [Int.toNat_natCast]
          unfold layH
          rw [← hk4, ← hk3, ← hk1, ← hk2, ← HLV.out, HS.out, HT.out, ← HS2.out.1, ← HS2.out.2]
        have e2 : levN h.sec.toNat = done := by rw [HN.out.sec, Int.toNat_natCast, HLV.out]
        refine ⟨.slice (some a) dl c, by rw [HG.out, if_pos rfl, e]; rfl, ?_, F.trans fc (fun i hi => .inr (by simp at hi; omega))⟩
        rw [HG.out, if_pos rfl, if_pos rfl, e2, HDL.out]
        exact r5.keep fc (fun i hi hm => (r5.ne_blk i2 (by decide)) (by rw [hi]; simp at hm; rw [hm]))
end Go.Proofs.YtlelgeigighecaaDoor
