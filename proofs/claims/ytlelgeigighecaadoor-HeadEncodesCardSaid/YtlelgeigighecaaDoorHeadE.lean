/-
  Contracts of layer 11: Encode.
-/
import Derived.Test.YtlelgeigighecaaDoorHeadC
import Derived.Test.YtlelgeigighecaaDoorHeadD
import Derived.Test.YtlelgeigighecaaDoorShaK
set_option linter.unusedSimpArgs false
set_option linter.unusedVariables false
set_option linter.unnecessarySimpa false
namespace Go.Proofs.YtlelgeigighecaaDoor
open Go.RowKit

/-- Encode. -/
def EncH (w : World) (h : HeadM) (e : Ending) (w' : World) : Prop :=
  ∃ v, e = .returned (.tuple #[v, .int .i64 (errG h.good 1)]) ∧ Row w' w.heap.size 5 1 v (if h.good then 512 else 0) (bvs (if h.good then h.bytes else [])) ∧ Fr [] w w'

/-- A good header's numbers. -/
structure HeadM.Nat (h : HeadM) (s l j e t m a : Nat) : Prop where
  sec : h.sec = s
  slo : h.slo = l
  jou : h.jou = j
  seg : h.seg = e
  tim : h.tim = t
  mem : h.mem = m
  lan : h.lan = a
  bs : 1 ≤ s ∧ s ≤ 1024
  bl : 1 ≤ l ∧ l ≤ 8
  bj : 16 ≤ j ∧ j ≤ 256
  be : 1 ≤ e ∧ e ≤ 16
  bt : 1 ≤ t ∧ t ≤ 8
  bm : 8 ≤ m ∧ m ≤ 256
  ba : 1 ≤ a ∧ a ≤ 4
theorem HeadM.nat_of {h : HeadM} (k : h.In) : ∃ s l j e t m a, h.Nat s l j e t m a := by
  obtain ⟨a, b, c, d, e, f, g, i, j⟩ := k
  refine ⟨h.sec.toNat, h.slo.toNat, h.jou.toNat, h.seg.toNat, h.tim.toNat, h.mem.toNat, h.lan.toNat, ?_⟩
  constructor <;> omega
theorem wrapN {n : Nat} (h : n ≤ 1024) : IntKind.u64.wrap (n : Int) = n := by rw [IntKind.wrap_u64]; omega
theorem head_cellsN {w : World} {g : Nat} {h : HeadM} {s l j e t m a : Nat} (N : h.Nat s l j e t m a) (hb : Blk w g 27 h.cells.toArray) : w.cell? ⟨g, 0, none⟩ = some (.int .u64 (h.gen : Int)) ∧ w.cell? ⟨g, 1, none⟩ = some (.int .i64 (s : Int)) ∧ w.cell? ⟨g, 2, none⟩ = some (.int .i64 (l : Int)) ∧ w.cell? ⟨g, 3, none⟩ = some (.int .i64 (j : Int)) ∧ w.cell? ⟨g, 4, none⟩ = some (.int .i64 (e : Int)) ∧ w.cell? ⟨g, 5, none⟩ = some (.int .i64 (t : Int)) ∧ w.cell? ⟨g, 6, none⟩ = some (.int .i64 (m : Int)) ∧ w.cell? ⟨g, 7, none⟩ = some (.int .i64 (a : Int)) := by
  have := head_cells hb
  rwa [N.sec, N.slo, N.jou, N.seg, N.tim, N.mem, N.lan] at this
theorem front_eq {h : HeadM} {s l j e t m a : Nat} (N : h.Nat s l j e t m a) : h.front = magicH ++ leB 8 h.gen ++ leB 4 s ++ leB 1 l ++ leB 2 j ++ leB 1 e ++ leB 1 t ++ leB 2 m ++ leB 1 a ++ h.nam := by
  rw [HeadM.front, N.sec, N.slo, N.jou, N.seg, N.tim, N.mem, N.lan]
  simp only [Int.toNat_natCast, List.append_assoc]
theorem nam_rd {w : World} {g : Nat} {h : HeadM} (hb : Blk w g 27 h.cells.toArray) : Rd w (some ⟨g, 8, none⟩) (bvs h.nam) :=
  Rd.of_blk hb _ _ (fun j u hu => by
    rw [List.getElem?_toArray, show 8 + j = j + 8 by omega]
    exact hu)

set_option maxRecDepth 100000 in
set_option maxHeartbeats 4000000 in
theorem hEncode_any (w : World) (h : HeadM) (hs : h.ok) (hK : KG w) : Calls Tryd.prog 13 #[.agg h.cells.toArray] w (EncH w h) := by
  cases hg : h.good
  · have HG := Lib.hid hg
    have cc := fun w => hCheck_any h hs w
    rw [hg] at cc
    have CC := Lib.hid cc
    clear cc hg
    go_enter Tryd.func13, Tryd.ntmps13
    go_wp2_with
      (first
        | (refine wpList_boxS rfl rfl h.cells rfl ?_; intro w1 h1 f1 z1; have Z1 := Lib.hid z1; clear z1; obtain ⟨g, hg⟩ : ∃ g, w.heap.size = g := ⟨_, rfl⟩; rw [hg] at h1; rw [hg]; have HGG := Lib.hid hg; clear hg)
        | (refine wpList_ldS stHead rfl rfl g 0 rfl h.cells (HeadM.len hs) h1.range0 ?_))
    refine (CC.out _).mono ?_
    rintro e w2 ⟨rfl, f2⟩
    rw [show errG false 1 = 1 from rfl]
    go_wp2_with fail
    go_ret2
    exact ⟨_, by rw [HG.out]; rfl, by rw [HG.out]; exact Row.nil _ _ _ _, f1.trans_nil f2⟩
  · have HG := Lib.hid hg
    have I := HeadM.in_of hg
    obtain ⟨ns, nl, nj, ne, nt, nm, na, NN⟩ := HeadM.nat_of I
    have HN := Lib.hid NN
    have U1 := wrapN NN.bs.2
    have U2 := wrapN (Nat.le_trans NN.bl.2 (by omega))
    have U3 := wrapN (Nat.le_trans NN.bj.2 (by omega))
    have U4 := wrapN (Nat.le_trans NN.be.2 (by omega))
    have U5 := wrapN (Nat.le_trans NN.bt.2 (by omega))
    have U6 := wrapN (Nat.le_trans NN.bm.2 (by omega))
    have U7 := wrapN (Nat.le_trans NN.ba.2 (by omega))
    clear NN
    have hgen := hs.gen
    have cc := fun w => hCheck_any h hs w
    rw [hg] at cc
    have CC := Lib.hid cc
    clear cc hg I
    have kc := fun (w : World) (C : Array Value) (n c : Nat) => Lib.run_convert_bytes_const (P := Tryd.prog) w 28 5 C n c Tryd.underlying28 Tryd.underlying5
    go_enter Tryd.func13, Tryd.ntmps13
    go_wp2_with
      (first
        | (refine wpList_boxS rfl rfl h.cells rfl ?_; intro w1 h1 f1 z1; have Z1 := Lib.hid z1; clear z1; obtain ⟨g, hg⟩ : ∃ g, w.heap.size = g := ⟨_, rfl⟩; rw [hg] at h1; rw [hg]; have HGG := Lib.hid hg; clear hg)
        | (refine wpList_ldS stHead rfl rfl g 0 rfl h.cells (HeadM.len hs) h1.range0 ?_))
    refine (CC.out _).mono ?_
    rintro e w2 ⟨rfl, f2⟩
    rw [show errG true 1 = 0 from rfl]
    have F2 := f1.trans_nil f2
    have b2 := h1.keep_nil f2
    clear f1 f2 h1
    go_wp2_with fail
    have cc := newWriter_any 480 w2
    rw [show sizeN 480 = 480 from rfl] at cc
    refine cc.mono ?_
    clear cc
    rintro e w3 ⟨rfl, h3, f3, z3⟩
    have Z3 := Lib.hid z3
    clear z3
    have F3 := F2.trans_nil f3
    have b3 := b2.keep_nil f3
    obtain ⟨p, hp⟩ : ∃ p, w2.heap.size = p := ⟨_, rfl⟩
    rw [hp] at h3 ⊢
    have HP := Lib.hid hp
    clear hp b2 f3
    go_wp2_with fail
    have ra := Rd.mark w3 magicH 5 (8, 9)
    have fa : Fr [] w3 (w3.alloc (.cells (bvs magicH).toArray 5 (8, 9))) := (Fr.refl _ _).alloc _
    refine (wBytes_ok (h3.keep_nil fa) _ 8 8 magicH rfl ra (by simp) (fun g o e _ => by cases e; have := h3.lt; omega) (by simp)).mono ?_
    rintro e w4 ⟨rfl, x4⟩
    have b4 := x4.blk (h3.keep_nil fa) (b3.keep_nil fa) (by decide) (by decide)
    obtain ⟨v4, h4, f4, g4⟩ := WPost.trans (fa.mono (by simp)) (fun g hg => .inl hg) x4
    rw [List.nil_append] at h4
    obtain ⟨q4, hq⟩ : ∃ q, magicH = q := ⟨_, rfl⟩
    rw [hq] at h4
    have L4 := Lib.hid (show q4.length = 8 by rw [← hq]; rfl)
    have Q4 := Lib.hid (fun _ : Unit => hq)
    clear ra fa x4 b3 kc hq
    obtain ⟨c0, c1, c2, c3, c4, c5, c6, c7⟩ := head_cellsN HN.out b4
    go_wp2_with fail
    refine (wUint_ok h4 8 h.gen rfl (by omega) (by omega) (by rw [L4.out]; omega)).mono ?_
    rintro e w5 ⟨rfl, x5⟩
    have b5 := x5.blk h4 b4 (by decide) (by decide)
    obtain ⟨v5, h5, f5, g5⟩ := WPost.trans f4 g4 x5
    obtain ⟨q5, hq⟩ : ∃ q, q4 ++ leB 8 h.gen = q := ⟨_, rfl⟩
    rw [hq] at h5
    have L5 := Lib.hid (show q5.length = 16 by rw [← hq, List.length_append, L4.out, leB_length])
    have Q5 := Lib.hid (fun _ : Unit => hq)
    clear x5 b4 f4 g4 h4 hq c0 c1 c2 c3 c4 c5 c6 c7
    obtain ⟨c0, c1, c2, c3, c4, c5, c6, c7⟩ := head_cellsN HN.out b5
    go_wp2_with fail
    refine (wUint_ok h5 4 ns rfl (by have := HN.out.bs; omega) (by have := HN.out.bs; omega) (by rw [L5.out]; omega)).mono ?_
    rintro e w6 ⟨rfl, x6⟩
    have b6 := x6.blk h5 b5 (by decide) (by decide)
    obtain ⟨v6, h6, f6, g6⟩ := WPost.trans f5 g5 x6
    obtain ⟨q6, hq⟩ : ∃ q, q5 ++ leB 4 ns = q := ⟨_, rfl⟩
    rw [hq] at h6
    have L6 := Lib.hid (show q6.length = 20 by rw [← hq, List.length_append, L5.out, leB_length])
    have Q6 := Lib.hid (fun _ : Unit => hq)
    clear x6 b5 f5 g5 h5 hq c0 c1 c2 c3 c4 c5 c6 c7
    obtain ⟨c0, c1, c2, c3, c4, c5, c6, c7⟩ := head_cellsN HN.out b6
    go_wp2_with fail
    refine (wUint_ok h6 1 nl rfl (by have := HN.out.bl; omega) (by have := HN.out.bl; omega) (by rw [L6.out]; omega)).mono ?_
    rintro e w7 ⟨rfl, x7⟩
    have b7 := x7.blk h6 b6 (by decide) (by decide)
    obtain ⟨v7, h7, f7, g7⟩ := WPost.trans f6 g6 x7
    obtain ⟨q7, hq⟩ : ∃ q, q6 ++ leB 1 nl = q := ⟨_, rfl⟩
    rw [hq] at h7
    have L7 := Lib.hid (show q7.length = 21 by rw [← hq, List.length_append, L6.out, leB_length])
    have Q7 := Lib.hid (fun _ : Unit => hq)
    clear x7 b6 f6 g6 h6 hq c0 c1 c2 c3 c4 c5 c6 c7
    obtain ⟨c0, c1, c2, c3, c4, c5, c6, c7⟩ := head_cellsN HN.out b7
    go_wp2_with fail
    refine (wUint_ok h7 2 nj rfl (by have := HN.out.bj; omega) (by have := HN.out.bj; omega) (by rw [L7.out]; omega)).mono ?_
    rintro e w8 ⟨rfl, x8⟩
    have b8 := x8.blk h7 b7 (by decide) (by decide)
    obtain ⟨v8, h8, f8, g8⟩ := WPost.trans f7 g7 x8
    obtain ⟨q8, hq⟩ : ∃ q, q7 ++ leB 2 nj = q := ⟨_, rfl⟩
    rw [hq] at h8
    have L8 := Lib.hid (show q8.length = 23 by rw [← hq, List.length_append, L7.out, leB_length])
    have Q8 := Lib.hid (fun _ : Unit => hq)
    clear x8 b7 f7 g7 h7 hq c0 c1 c2 c3 c4 c5 c6 c7
    obtain ⟨c0, c1, c2, c3, c4, c5, c6, c7⟩ := head_cellsN HN.out b8
    go_wp2_with fail
    refine (wUint_ok h8 1 ne rfl (by have := HN.out.be; omega) (by have := HN.out.be; omega) (by rw [L8.out]; omega)).mono ?_
    rintro e w9 ⟨rfl, x9⟩
    have b9 := x9.blk h8 b8 (by decide) (by decide)
    obtain ⟨v9, h9, f9, g9⟩ := WPost.trans f8 g8 x9
    obtain ⟨q9, hq⟩ : ∃ q, q8 ++ leB 1 ne = q := ⟨_, rfl⟩
    rw [hq] at h9
    have L9 := Lib.hid (show q9.length = 24 by rw [← hq, List.length_append, L8.out, leB_length])
    have Q9 := Lib.hid (fun _ : Unit => hq)
    clear x9 b8 f8 g8 h8 hq c0 c1 c2 c3 c4 c5 c6 c7
    obtain ⟨c0, c1, c2, c3, c4, c5, c6, c7⟩ := head_cellsN HN.out b9
    go_wp2_with fail
    refine (wUint_ok h9 1 nt rfl (by have := HN.out.bt; omega) (by have := HN.out.bt; omega) (by rw [L9.out]; omega)).mono ?_
    rintro e w10 ⟨rfl, x10⟩
    have b10 := x10.blk h9 b9 (by decide) (by decide)
    obtain ⟨v10, h10, f10, g10⟩ := WPost.trans f9 g9 x10
    obtain ⟨q10, hq⟩ : ∃ q, q9 ++ leB 1 nt = q := ⟨_, rfl⟩
    rw [hq] at h10
    have L10 := Lib.hid (show q10.length = 25 by rw [← hq, List.length_append, L9.out, leB_length])
    have Q10 := Lib.hid (fun _ : Unit => hq)
    clear x10 b9 f9 g9 h9 hq c0 c1 c2 c3 c4 c5 c6 c7
    obtain ⟨c0, c1, c2, c3, c4, c5, c6, c7⟩ := head_cellsN HN.out b10
    go_wp2_with fail
    refine (wUint_ok h10 2 nm rfl (by have := HN.out.bm; omega) (by have := HN.out.bm; omega) (by rw [L10.out]; omega)).mono ?_
    rintro e w11 ⟨rfl, x11⟩
    have b11 := x11.blk h10 b10 (by decide) (by decide)
    obtain ⟨v11, h11, f11, g11⟩ := WPost.trans f10 g10 x11
    obtain ⟨q11, hq⟩ : ∃ q, q10 ++ leB 2 nm = q := ⟨_, rfl⟩
    rw [hq] at h11
    have L11 := Lib.hid (show q11.length = 27 by rw [← hq, List.length_append, L10.out, leB_length])
    have Q11 := Lib.hid (fun _ : Unit => hq)
    clear x11 b10 f10 g10 h10 hq c0 c1 c2 c3 c4 c5 c6 c7
    obtain ⟨c0, c1, c2, c3, c4, c5, c6, c7⟩ := head_cellsN HN.out b11
    go_wp2_with fail
    refine (wUint_ok h11 1 na rfl (by have := HN.out.ba; omega) (by have := HN.out.ba; omega) (by rw [L11.out]; omega)).mono ?_
    rintro e w12 ⟨rfl, x12⟩
    have b12 := x12.blk h11 b11 (by decide) (by decide)
    obtain ⟨v12, h12, f12, g12⟩ := WPost.trans f11 g11 x12
    obtain ⟨q12, hq⟩ : ∃ q, q11 ++ leB 1 na = q := ⟨_, rfl⟩
    rw [hq] at h12
    have L12 := Lib.hid (show q12.length = 28 by rw [← hq, List.length_append, L11.out, leB_length])
    have Q12 := Lib.hid (fun _ : Unit => hq)
    clear x12 b11 f11 g11 h11 hq c0 c1 c2 c3 c4 c5 c6 c7
    obtain ⟨c0, c1, c2, c3, c4, c5, c6, c7⟩ := head_cellsN HN.out b12
    go_wp2_with fail
    have hpg : p ≠ g := fun e => (b12.ne_ h12.1 (by decide)) e.symm
    refine (wBytes_ok h12 _ 16 16 h.nam hs.nam (nam_rd b12) (by simp) (fun g o e _ => by cases e; exact hpg.symm) (by rw [L12.out]; omega)).mono ?_
    rintro e w13 ⟨rfl, x13⟩
    obtain ⟨v13, h13, f13, g13⟩ := WPost.trans f12 g12 x13
    have hq : q12 ++ h.nam = h.front := by rw [← Q12.out (), ← Q11.out (), ← Q10.out (), ← Q9.out (), ← Q8.out (), ← Q7.out (), ← Q6.out (), ← Q5.out (), ← Q4.out (), front_eq HN.out]
    rw [hq] at h13
    have F13 : Fr [] w w13 := F3.trans f13 (fun i hi => by
      rcases List.mem_cons.1 hi with rfl | hi
      · exact .inr (by have := HP.out; have := F2.size; omega)
      · exact absurd hi (by simp [Value.ownBlock]))
    clear x13 b12 f12 g12 h12 hq c0 c1 c2 c3 c4 c5 c6 c7 Q4 Q5 Q6 Q7 Q8 Q9 Q10 Q11 Q12 L4 L5 L6 L7 L8 L9 L10 L11 L12 U1 U2 U3 U4 U5 U6 U7
    go_wp2_with fail
    refine (wDone_ok h13).mono ?_
    rintro e w14 ⟨r, rfl, r14, f14⟩
    rw [show h.front ++ List.replicate (480 - h.front.length) 0 = h.body by rw [HeadM.front_len hs]; rfl] at r14
    have F14 := F13.trans_nil f14
    have s13 := F13.size
    have K14 := hK.keep F14
    have hbl := HeadM.body_len hs
    obtain ⟨body, hbd⟩ : ∃ b, h.body = b := ⟨_, rfl⟩
    rw [hbd] at r14 hbl
    have HBD := Lib.hid (fun _ : Unit => hbd)
    have HBL := Lib.hid hbl
    clear h13 f13 f14 F13 hbd hbl
    obtain ⟨A14, cap14, rfl, -, -, rd14, -, -⟩ := r14.shape
    go_wp2_with fail
    refine (sum_any A14 body 480 cap14 w14 HBL.out rd14 r14.rd.2.2 (by omega) K14).mono ?_
    rintro e w15 ⟨rfl, f15⟩
    have F15 := F14.trans_nil f15
    have r15 := r14.keep_nil f15
    have hdl := shaSum_length body
    obtain ⟨D, hD⟩ : ∃ D, shaSum body = D := ⟨_, rfl⟩
    rw [hD] at hdl
    rw [hD]
    have HDD := Lib.hid (fun _ : Unit => hD)
    have HDL := Lib.hid hdl
    clear hD hdl f15 K14 rd14 r14
    go_wp2_with
      (first
        | (refine wpList_alS stA32 (o := ⟨some 8, _, _, _, _, _⟩) rfl rfl ?_; intro w16 h16 f16 z16; have Z16 := Lib.hid z16; clear z16; obtain ⟨g8, hg8⟩ : ∃ g8, w15.heap.size = g8 := ⟨_, rfl⟩; rw [hg8] at h16; rw [hg8]; have HG8 := Lib.hid hg8; clear hg8)
        | (refine wpList_stB stA32 rfl rfl g8 rfl (bvs D) rfl (by rw [bvs_length, HDL.out]) (bvs_one _) (bvs (zB 32)) rfl h16 ?_; intro w17 h17 f17 z17; have Z17 := Lib.hid z17; clear z17; have r17 := (r15.keep_nil f16).keep f17 (fun i hi hm => by have := (r15.lt i hi).2; have := HG8.out; simp at hm; omega); have F17 := (F15.trans_nil f16).trans f17 (fun i hi => .inr (by have := HG8.out; have := F15.size; simp at hi; omega)))
        | (at_builtin; refine wpList_app rfl rfl slB w.heap.size _ 480 (bvs body) rfl (r17.mono s13) _ 32 32 (bvs D) rfl (by rw [bvs_length, HDL.out]) (Rd.of_blk h17 0 _ (fun j u hu => by rw [Nat.zero_add]; simpa using hu)) (bvs_one _) (fun h => by cases h) (by omega) F17.size ?_; intro v18 w18 q1 q2 q3 q4))
    go_ret2
    have hby : h.bytes = body ++ D := by rw [HeadM.bytes, HBD.out (), HDD.out ()]
    refine ⟨_, by rw [HG.out]; rfl, ?_, F17.trans q2 (fun i hi => .inr (by have := (r15.lt i (mem_own.1 hi)).1; omega))⟩
    rw [HG.out, if_pos rfl, if_pos rfl, hby, bvs_append]
    exact q1
end Go.Proofs.YtlelgeigighecaaDoor
