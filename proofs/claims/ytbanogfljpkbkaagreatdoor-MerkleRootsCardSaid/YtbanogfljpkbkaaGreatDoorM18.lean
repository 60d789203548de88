/-
  Texts of this claim, one behind the other: TreX, TreR, MerD, HeadK, MerH, TreJ.
-/
import Derived.Test.YtbanogfljpkbkaaGreatDoorM7
import Derived.Test.YtbanogfljpkbkaaGreatDoorM2
import Derived.Test.YtbanogfljpkbkaaGreatDoorM17
import Derived.Test.YtbanogfljpkbkaaGreatDoorM10
import Derived.Test.YtbanogfljpkbkaaGreatDoorM14
import Derived.Test.YtbanogfljpkbkaaGreatDoorM11
import Derived.Test.YtbanogfljpkbkaaGreatDoorM5
set_option linter.unusedSimpArgs false
set_option linter.unusedVariables false
set_option linter.unnecessarySimpa false
namespace Go.Proofs.YtbanogfljpkbkaaGreatDoor
section
open Go.RowKit
set_option maxRecDepth 100000
set_option maxHeartbeats 1000000 in
theorem xtLeaf_any (A : Option Addr) (l : List UInt8) (n c : Nat) (w : World) (hn : l.length = n) (hr : Rd w A (bvs l)) (hA : A = none → n = 0) (hN : n ≤ 70368744177664) :
  Calls Tryz.prog 15 #[.slice A n c] w fun e w' => e = .returned (.agg (bvs (leafH l)).toArray) ∧ Fr [] w w' := by
 have HN := Lib.hid hn
 have hD : shaSum ([0] ++ l) = leafH l := by simp [leafH]
 have hDL : (leafH l).length = 32 := shaSum_length _
 obtain ⟨D, hDD⟩ : ∃ D, leafH l = D := ⟨_, rfl⟩
 rw [hDD] at hD hDL ⊢
 have HD := Lib.hid hD
 have HDL := Lib.hid hDL
 clear hn hD hDL hDD
 go_enter Tryz.func15, Tryz.ntmps15
 go_wp2_with
  (first
   | (refine wpList_alS stA32 (o := ⟨some 2, _, _, _, _, _⟩) rfl rfl ?_; intro w1 h1 f1 z1; have Z1 := Lib.hid z1; clear z1; obtain ⟨g1, hg1⟩ : ∃ g1, w.heap.size = g1 := ⟨_, rfl⟩; rw [hg1] at h1; rw [hg1]; have HG1 := Lib.hid hg1; clear hg1)
   | (at_builtin; refine wpList_app rfl rfl slB w1.heap.size _ 1 (bvs [0]) rfl (Row.new w1 #[.int .u8 0] 5 1 1 (0, 0) (free_zero _) (by unfold maxLen; omega) rfl (Nat.le_refl _)) A n c (bvs l) rfl (by rw [bvs_length, HN.out]; omega) ((hr.keep_nil f1).alloc _) (bvs_one _) hA (by omega) (by simp) ?_; intro v5 w5 q1 q2 q3 q4))
 rw [← bvs_append] at q1
 have fa : Fr [] w1 w5 := ((Fr.refl [] w1).alloc _).trans q2 (fun i hi => by rw [own_mem.1 hi]; exact .inr (Nat.le_refl _))
 obtain ⟨A5, c5, rfl, -, -, -, -, -⟩ := q1.shape
 have cc := xSum_any A5 ([0] ++ l) (1 + n) c5 w5 (by have := HN.out; simp; omega) q1.rdD.1 q1.rdD.2.2 (by omega)
 rw [HD.out] at cc
 have i2 := h1.keep_nil fa
 have FZ := Lib.hid (f1.trans_nil fa)
 clear fa q1 q2 q3 q4 h1 f1
 refine cc.mono ?_
 rintro e w3 ⟨rfl, f3⟩
 have i3 := i2.keep_nil f3
 have F3 := FZ.out.trans_nil f3
 clear i2 f3 cc
 go_wp2_with (first | (refine wpList_stB stA32 rfl rfl g1 rfl (bvs D) rfl (by rw [bvs_length, HDL.out]) (bvs_one _) (bvs (zB 32)) rfl i3 ?_; intro wc hc fc zc; clear zc))
 try simp only [Exit.inBlock, Exit.then]
 refine bodyPost_ret (results_cell stA32 rfl rfl (by rw [bvs_length, HDL.out]) hc) rfl ?_
 exact ⟨rfl, F3.trans fc (fun i hi => .inr (by have := HG1.out; simp at hi; omega))⟩
set_option maxHeartbeats 1000000 in
theorem xtNode_any (k : Nat) (hk : k ≤ 200) (A : Option Addr) (l : List UInt8) (n c : Nat) (w : World) (hn : l.length = n) (hr : Rd w A (bvs l)) (hA : A = none → n = 0) (hN : n ≤ 70368744177664) :
  Calls Tryz.prog 52 #[.int .i64 k, .slice A n c] w fun e w' => e = .returned (.agg (bvs (nodeH (UInt8.ofNat k) l)).toArray) ∧ Fr [] w w' := by
 have HN := Lib.hid hn
 have hD : shaSum ([1, UInt8.ofNat k] ++ l) = nodeH (UInt8.ofNat k) l := by simp [nodeH]
 have hDL : (nodeH (UInt8.ofNat k) l).length = 32 := shaSum_length _
 obtain ⟨D, hDD⟩ : ∃ D, nodeH (UInt8.ofNat k) l = D := ⟨_, rfl⟩
 rw [hDD] at hD hDL ⊢
 have HD := Lib.hid hD
 have HDL := Lib.hid hDL
 have U : IntKind.u8.wrap (k : Int) = k := by rw [IntKind.wrap_u8]; omega
 have HB := Lib.hid (show #[Value.int .u8 1, Value.int .u8 (k : Int)].toList = bvs [1, UInt8.ofNat k] by rw [ofNat_toNat (k := k) (by omega)]; rfl)
 clear hn hD hDL hDD
 go_enter Tryz.func52, Tryz.ntmps52
 go_wp2_with
  (first
   | (refine wpList_alS stA32 (o := ⟨some 4, _, _, _, _, _⟩) rfl rfl ?_; intro w1 h1 f1 z1; have Z1 := Lib.hid z1; clear z1; obtain ⟨g1, hg1⟩ : ∃ g1, w.heap.size = g1 := ⟨_, rfl⟩; rw [hg1] at h1; rw [hg1]; have HG1 := Lib.hid hg1; clear hg1)
   | (at_builtin; refine wpList_app rfl rfl slB w1.heap.size _ 2 (bvs [1, UInt8.ofNat k]) rfl (by rw [← HB.out]; exact Row.new w1 #[.int .u8 1, .int .u8 k] 5 1 2 (0, 0) (free_zero _) (by unfold maxLen; omega) rfl (Nat.le_refl _)) A n c (bvs l) rfl (by rw [bvs_length, HN.out]; omega) ((hr.keep_nil f1).alloc _) (bvs_one _) hA (by omega) (by simp) ?_; intro v5 w5 q1 q2 q3 q4))
 rw [← bvs_append] at q1
 have fa : Fr [] w1 w5 := ((Fr.refl [] w1).alloc _).trans q2 (fun i hi => by rw [own_mem.1 hi]; exact .inr (Nat.le_refl _))
 obtain ⟨A5, c5, rfl, -, -, -, -, -⟩ := q1.shape
 have cc := xSum_any A5 ([1, UInt8.ofNat k] ++ l) (2 + n) c5 w5 (by have := HN.out; simp; omega) q1.rdD.1 q1.rdD.2.2 (by omega)
 rw [HD.out] at cc
 have i2 := h1.keep_nil fa
 have FZ := Lib.hid (f1.trans_nil fa)
 clear fa q1 q2 q3 q4 h1 f1
 refine cc.mono ?_
 rintro e w3 ⟨rfl, f3⟩
 have i3 := i2.keep_nil f3
 have F3 := FZ.out.trans_nil f3
 clear i2 f3 cc
 go_wp2_with (first | (refine wpList_stB stA32 rfl rfl g1 rfl (bvs D) rfl (by rw [bvs_length, HDL.out]) (bvs_one _) (bvs (zB 32)) rfl i3 ?_; intro wc hc fc zc; clear zc))
 try simp only [Exit.inBlock, Exit.then]
 refine bodyPost_ret (results_cell stA32 rfl rfl (by rw [bvs_length, HDL.out]) hc) rfl ?_
 exact ⟨rfl, F3.trans fc (fun i hi => .inr (by have := HG1.out; simp at hi; omega))⟩
set_option maxHeartbeats 1000000 in
theorem xtTop_any (m k : Nat) (hm : m ≤ 4096) (hk : k ≤ 200) (A : Option Addr) (l : List UInt8) (n c : Nat) (w : World) (hn : l.length = n) (hr : Rd w A (bvs l)) (hA : A = none → n = 0) (hN : n ≤ 70368744177664) :
  Calls Tryz.prog 53 #[.int .i64 m, .int .i64 k, .slice A n c] w fun e w' => e = .returned (.agg (bvs (rootH m (UInt8.ofNat k) l)).toArray) ∧ Fr [] w w' := by
 have HN := Lib.hid hn
 obtain ⟨N, hNN⟩ : ∃ N, nodeH (UInt8.ofNat k) l = N := ⟨_, rfl⟩
 have hNL : N.length = 32 := by rw [← hNN]; exact shaSum_length _
 have hD : shaSum ([2, UInt8.ofNat m, UInt8.ofNat (m / 256), UInt8.ofNat (m / 65536), UInt8.ofNat (m / 16777216)] ++ N) = rootH m (UInt8.ofNat k) l := by rw [← hNN]; simp [rootH]
 have hDL : (rootH m (UInt8.ofNat k) l).length = 32 := shaSum_length _
 obtain ⟨D, hDD⟩ : ∃ D, rootH m (UInt8.ofNat k) l = D := ⟨_, rfl⟩
 rw [hDD] at hD hDL ⊢
 have HD := Lib.hid hD
 have HDL := Lib.hid hDL
 have HNL := Lib.hid hNL
 clear hD hDL hDD hNL
 have cn := fun w1 (f : Fr [] w w1) => xtNode_any k hk A l n c w1 HN.out (hr.keep_nil f) hA hN
 rw [hNN] at cn
 have CN := Lib.hid cn
 have HCC := Lib.hid (root_head (m := m) (by omega))
 clear hn hr hA hNN cn
 go_enter Tryz.func53, Tryz.ntmps53
 go_wp2_with
  (first
   | (refine wpList_alS stA32 (o := ⟨some 6, _, _, _, _, _⟩) rfl rfl ?_; intro w1 h1 f1 z1; have Z1 := Lib.hid z1; clear z1; obtain ⟨g1, hg1⟩ : ∃ g1, w.heap.size = g1 := ⟨_, rfl⟩; rw [hg1] at h1; rw [hg1]; have HG1 := Lib.hid hg1; clear hg1)
   | fail)
 refine (CN.out w1 f1).mono ?_
 rintro e w2 ⟨rfl, f2⟩
 have F2 := f1.trans_nil f2
 have i2 := h1.keep_nil f2
 clear f1 f2 h1
 go_upto_region 2 with
  (first
   | (refine wpList_alS stA32 (o := ⟨some 7, _, _, _, _, _⟩) rfl rfl ?_; intro w3 h3 f3 z3; have Z3 := Lib.hid z3; clear z3; obtain ⟨g3, hg3⟩ : ∃ g3, w2.heap.size = g3 := ⟨_, rfl⟩; rw [hg3] at h3; rw [hg3]; have HG3 := Lib.hid hg3; clear hg3)
   | (refine wpList_stB stA32 rfl rfl g3 rfl (bvs N) rfl (by rw [bvs_length, HNL.out]) (bvs_one _) (bvs (zB 32)) rfl h3 ?_; intro w4 h4 f4 z4; have Z4 := Lib.hid z4; clear z4))
 have f5 : Fr [] w2 w4 := f3.trans f4 (fun i hi => .inr (by have := HG3.out; simp at hi; omega))
 have i4 := i2.keep_nil f5
 have F4 := F2.trans_nil f5
 have rN : Rd w4 (some ⟨g3, 0, none⟩) (bvs N) := Rd.of_blk h4 0 _ (fun j u hu => by rw [Nat.zero_add]; simpa using hu)
 have rw0 : ∀ cs : Array Value, cs.toList = bvs [2, UInt8.ofNat m, UInt8.ofNat (m / 256), UInt8.ofNat (m / 65536), UInt8.ofNat (m / 16777216)] → Row (w4.alloc (.cells cs 5)) w4.heap.size 5 1 (.slice (some ⟨w4.heap.size, 0, none⟩) 5 5) 5 (bvs [2, UInt8.ofNat m, UInt8.ofNat (m / 256), UInt8.ofNat (m / 65536), UInt8.ofNat (m / 16777216)]) := fun cs h => by
  rw [← h]
  exact Row.new w4 cs 5 1 5 (0, 0) (free_zero _) (by unfold maxLen; omega) (by rw [← Array.length_toList, h]; rfl) (Nat.le_refl _)
 clear f3 f4 h3 h4 F2 i2
 go_wp2_with (at_builtin; refine wpList_app rfl rfl slB w4.heap.size _ 5 (bvs [2, UInt8.ofNat m, UInt8.ofNat (m / 256), UInt8.ofNat (m / 65536), UInt8.ofNat (m / 16777216)]) rfl (rw0 _ (congrArg Array.toList HCC.out)) (some ⟨g3, 0, none⟩) 32 32 (bvs N) rfl (by rw [bvs_length, HNL.out]) (rN.alloc _) (bvs_one _) (by simp) (by omega) (by simp) ?_; intro v5 w5 q1 q2 q3 q4)
 rw [← bvs_append] at q1
 have fa : Fr [] w4 w5 := ((Fr.refl [] w4).alloc _).trans q2 (fun i hi => by rw [own_mem.1 hi]; exact .inr (Nat.le_refl _))
 obtain ⟨A5, c5, rfl, -, -, -, -, -⟩ := q1.shape
 have cc := xSum_any A5 ([2, UInt8.ofNat m, UInt8.ofNat (m / 256), UInt8.ofNat (m / 65536), UInt8.ofNat (m / 16777216)] ++ N) (5 + 32) c5 w5 (by have := HNL.out; simp; omega) q1.rdD.1 q1.rdD.2.2 (by omega)
 rw [HD.out] at cc
 have i5 := i4.keep_nil fa
 have FZ := Lib.hid (F4.trans_nil fa)
 clear fa q1 q2 q3 q4 i4 F4 rN rw0
 refine cc.mono ?_
 rintro e w6 ⟨rfl, f6⟩
 have i3 := i5.keep_nil f6
 have F3 := FZ.out.trans_nil f6
 clear i5 f6 cc
 go_wp2_with (first | (refine wpList_stB stA32 rfl rfl g1 rfl (bvs D) rfl (by rw [bvs_length, HDL.out]) (bvs_one _) (bvs (zB 32)) rfl i3 ?_; intro wc hc fc zc; clear zc))
 try simp only [Exit.inBlock, Exit.then]
 refine bodyPost_ret (results_cell stA32 rfl rfl (by rw [bvs_length, HDL.out]) hc) rfl ?_
 exact ⟨rfl, F3.trans fc (fun i hi => .inr (by have := HG1.out; simp at hi; omega))⟩
end
section
open Go.RowKit
set_option maxRecDepth 100000
structure PathW (w : World) (A : Option Addr) (m c : Nat) (vs : List Value) (n : Nat) (path : List (List UInt8)) : Prop where
 rd : BRd w A vs path
 len : path.length = m
 c : m ≤ c
 lev : (levsN n).length = m
 l5 : ∀ b ∈ path, b.length = 512
 n : 1 ≤ n ∧ n ≤ 128
section
variable {w w' : World} {A : Option Addr} {m c n : Nat} {vs : List Value} {path : List (List UInt8)}
theorem PathW.keep_nil (h : PathW w A m c vs n path) (f : Fr [] w w') : PathW w' A m c vs n path := ⟨h.rd.keep_nil f, h.len, h.c, h.lev, h.l5, h.n⟩
theorem PathW.mb (h : PathW w A m c vs n path) : 1 ≤ m ∧ m ≤ 2 := by
 have := h.lev
 rw [levsN_len] at this
 split at this <;> omega
theorem PathW.at (h : PathW w A m c vs n path) {k : Nat} (hk : k < m) : ∃ g o g2 o2 c2, A = some ⟨g, o, none⟩ ∧ w.cell? ⟨g, o + k, none⟩ = some (.slice (some ⟨g2, o2, none⟩) 512 c2) ∧ 512 ≤ c2 ∧ Rd w (some ⟨g2, o2, none⟩) (bvs (path.getD k [])) ∧ (path.getD k []).length = 512 ∧ g2 < w.heap.size := by
 have hl := h.len
 have hv := h.rd.len
 have hkp : k < path.length := by omega
 have hkv : k < vs.length := by omega
 obtain ⟨g, o, e, hc⟩ := h.rd.rd (by intro h0; rw [h0] at hkv; simp at hkv)
 have ck := hc k _ (List.getElem?_eq_getElem hkv)
 obtain ⟨A2, c2, hv2, r2, n2, hc2⟩ := h.rd.each k hkv hkp
 have h5 := h.l5 _ (List.getElem_mem hkp)
 have eg : path.getD k [] = path[k] := by rw [List.getD_eq_getElem?_getD, List.getElem?_eq_getElem hkp]; rfl
 rw [h5] at hv2 n2 hc2
 obtain ⟨g2, o2, rfl, -⟩ := r2 (by intro h0; have := congrArg List.length h0; rw [bvs_length, h5] at this; cases this)
 rw [hv2] at ck
 obtain ⟨g3, o3, e3, hlt⟩ := r2.lt (by intro h0; have := congrArg List.length h0; rw [bvs_length, h5] at this; cases this)
 cases e3
 exact ⟨g, o, g2, o2, c2, e, ck, hc2, by rw [eg]; exact r2, by rw [eg]; exact h5, hlt⟩
theorem trRight1_any (A : Option Addr) (c : Nat) (w : World) : Calls Tryz.prog 134 #[.slice A 512 c] w fun e w' => e = .returned (.bool false) ∧ w = w' := by
 go_enter Tryz.func134, Tryz.ntmps134
 go_wp2_with fail
 go_ret
 exact ⟨rfl, rfl⟩
set_option maxHeartbeats 1000000 in
theorem trIndex_any (h : PathW w A m c vs n path) :
  Calls Tryz.prog 185 #[.slice A m c, .func (.func 134) #[] #[]] w fun e w' => e = .returned (.int .i64 (-1)) ∧ w = w' := by
 have hm := h.mb
 have HH := Lib.hid h
 clear h
 go_enter Tryz.func185, Tryz.ntmps185
 go_wp2_with fail
 go_loop [8] (fun i => ∃ k : Nat, k ≤ m ∧ i = .int .i64 k) (fun i => m - (intOf i).toNat)
 case atStart => exact ⟨0, Nat.zero_le _, rfl⟩
 case round =>
  obtain ⟨k, hk, rfl⟩ := hrel
  by_cases hlt : k < m
  ·obtain ⟨g, o, g2, o2, c2, rfl, ck, -⟩ := HH.out.at hlt
   go_wp2_with fail
   refine (trRight1_any _ _ _).mono ?_
   rintro e w1 ⟨rfl, rfl⟩
   go_wp2_with fail
   exact ⟨⟨k + 1, by omega, by go_num⟩, by simp [intOf]; omega⟩
  ·go_wp2_with fail
   go_ret
   exact ⟨rfl, rfl⟩
set_option maxHeartbeats 1000000 in
theorem trContains_any (h : PathW w A m c vs n path) :
  Calls Tryz.prog 133 #[.slice A m c, .func (.func 134) #[] #[]] w fun e w' => e = .returned (.bool false) ∧ w = w' := by
 go_enter Tryz.func133, Tryz.ntmps133
 go_wp2_with fail
 refine (trIndex_any h).mono ?_
 rintro e w1 ⟨rfl, rfl⟩
 go_wp2_with fail
 go_ret
 exact ⟨rfl, rfl⟩
set_option maxHeartbeats 1000000 in
theorem trRight_any (h : PathW w A m c vs n path) :
  Calls Tryz.prog 81 #[.int .i64 n, .slice A m c] w fun e w' => e = .returned (.bool true) ∧ Fr [] w w' := by
 have c0 := trIsCount_any n w (by have := h.n; omega)
 have c1 := trLevels_any n w h.n
 unfold LevC at c1
 rw [h.lev] at c1
 have hm := h.mb
 have HH := Lib.hid h
 clear h
 go_enter Tryz.func81, Tryz.ntmps81
 go_wp2_with fail
 refine c0.mono ?_
 rintro e w1 ⟨rfl, rfl⟩
 go_wp2_with fail
 refine c1.mono ?_
 rintro e w2 ⟨v, rfl, r, f⟩
 obtain ⟨A2, c2, rfl, -, -, -, -, -⟩ := r.shape
 clear c0 c1 r
 go_wp2_with fail
 refine (trContains_any (HH.out.keep_nil f)).mono ?_
 rintro e w3 ⟨rfl, rfl⟩
 go_wp2_with fail
 go_ret
 exact ⟨rfl, f⟩
theorem PathW.last (h : PathW w A m c vs n path) : rootP n path = rootH n (UInt8.ofNat (m - 1)) (path.getD (m - 1) []) := by rw [rootP, h.len]
def RootC (w : World) (n : Nat) (path : List (List UInt8)) (e : Ending) (w' : World) : Prop := e = .returned (.tuple #[.agg (bvs (rootP n path)).toArray, .int .i64 0]) ∧ Fr [] w w'
theorem rootP_len (n : Nat) (path : List (List UInt8)) : (rootP n path).length = 32 := shaSum_length _
set_option maxHeartbeats 1000000 in
theorem trRootP_any (h : PathW w A m c vs n path) (hK : KG w) :
  Calls Tryz.prog 85 #[.int .i64 n, .slice A m c] w (RootC w n path) := by
 have hm := h.mb
 have HL := Lib.hid h.last
 have HRL := Lib.hid (rootP_len n path)
 have HH := Lib.hid h
 obtain ⟨q, rfl⟩ : ∃ q, m = q + 1 := ⟨m - 1, by omega⟩
 obtain ⟨D, hD⟩ : ∃ D, rootP n path = D := ⟨_, rfl⟩
 rw [hD] at HL HRL
 have HDD := Lib.hid hD
 have cr := fun w1 (f : Fr [] w w1) => trRight_any (h.keep_nil f)
 have CR := Lib.hid cr
 clear h hD cr
 go_enter Tryz.func85, Tryz.ntmps85
 go_wp2_with
  (first
   | (refine wpList_alS stA32 (o := ⟨some 4, _, _, _, _, _⟩) rfl rfl ?_; intro w1 h1 f1 z1; have Z1 := Lib.hid z1; clear z1; obtain ⟨g1, hg1⟩ : ∃ g1, w.heap.size = g1 := ⟨_, rfl⟩; rw [hg1] at h1; rw [hg1]; have HG1 := Lib.hid hg1; clear hg1)
   | fail)
 refine (CR.out w1 f1).mono ?_
 rintro e w2 ⟨rfl, f2⟩
 have F2 := f1.trans_nil f2
 have i2 := h1.keep_nil f2
 obtain ⟨g, o, gb, ob, cb, rfl, ck, hcb, rb, lb, -⟩ := (HH.out.keep_nil F2).at (k := q) (by omega)
 have cc := trRoot_any n q (by have := HH.out.n; omega) (by omega) (some ⟨gb, ob, none⟩) _ 512 cb w2 lb rb (by simp) hcb (by omega) (hK.keep F2)
 rw [show rootH n (UInt8.ofNat q) (path.getD q []) = D from HL.out.symm] at cc
 clear f1 f2 h1 rb lb
 go_wp2_with fail
 refine cc.mono ?_
 rintro e w3 ⟨rfl, f3⟩
 have i3 := i2.keep_nil f3
 have F3 := F2.trans_nil f3
 clear cc i2 f3 F2 ck
 go_wp2_with (first | (refine wpList_stB stA32 rfl rfl g1 rfl (bvs D) rfl (by rw [bvs_length, HRL.out]) (bvs_one _) (bvs (zB 32)) rfl i3 ?_; intro wc hc fc zc; clear zc))
 try simp only [Exit.inBlock, Exit.then]
 refine bodyPost_ret (results_cell2 stA32 rfl rfl (by rw [bvs_length, HRL.out]) hc) rfl ?_
 exact ⟨by rw [HDD.out]; rfl, F3.trans fc (fun i hi => .inr (by have := HG1.out; simp at hi; omega))⟩
end
end
section
open Go.RowKit
set_option maxRecDepth 100000
structure LyM where
 a : Nat
 b : Nat
 c : Nat
 d : Nat
 tree : Nat
 lev : List Nat
 tags : Nat
 data : Nat
 blocks : Nat
def LyM.cells (L : LyM) (v : Value) : List Value := layC L.a L.b L.c L.d L.tree v L.tags L.data L.blocks
structure LyW (w : World) (A : Option Addr) (c : Nat) (L : LyM) (n : Nat) : Prop where
 rd : Rd w A (ivs L.lev)
 lev : L.lev = levsN n
 nb : 1 ≤ n ∧ n ≤ 128
 data : L.data = L.tags + n
 tree : L.tree ≤ 100000
 tags : L.tags ≤ 100000
section
variable {w w' : World} {S : SgP} {O : List Nat} {M : StM} {k : Nat} {L : LyM} {A : Option Addr} {c n : Nat}
theorem LyW.keep_nil (h : LyW w A c L n) (f : Fr [] w w') : LyW w' A c L n := ⟨h.rd.keep_nil f, h.lev, h.nb, h.data, h.tree, h.tags⟩
theorem LyW.m (h : LyW w A c L n) : L.lev.length = (levsN n).length ∧ 1 ≤ L.lev.length ∧ L.lev.length ≤ 2 := by
 have := levsN_len n
 rw [h.lev]
 split at this <;> omega
theorem layC_ones' {a b c d e : Nat} {A : Option Addr} {n m : Nat} {f g h : Nat} : ∀ u ∈ layC a b c d e (.slice A n m) f g h, u.oneCell' = true := layC_ones
theorem lay_box {w : World} {g : Nat} {L : LyM} {v : Value} (h : Blk w g 38 (L.cells v).toArray) : w.cell? ⟨g, 4, none⟩ = some (.int .i64 (L.tree : Int)) ∧ w.cell? ⟨g, 5, none⟩ = some v ∧ w.cell? ⟨g, 6, none⟩ = some (.int .i64 (L.tags : Int)) ∧ w.cell? ⟨g, 7, none⟩ = some (.int .i64 (L.data : Int)) := ⟨h.cell 4, h.cell 5, h.cell 6, h.cell 7⟩
set_option maxHeartbeats 1000000 in
theorem meLeaves_any (h : LyW w A c L n) : Calls Tryz.prog 11 #[.agg (L.cells (.slice A L.lev.length c)).toArray] w fun e w' => e = .returned (.int .i64 n) ∧ Fr [] w w' := by
 have E1 : (L.data : Int) - (L.tags : Int) = (n : Int) := by have := h.data; omega
 have E2 : IntKind.i64.wrap ((L.data : Int) - (L.tags : Int)) = (n : Int) := by rw [E1]; exact IntWalk.i64_in _ (by have := h.nb; omega)
 have hd := h.data
 have ht := h.tags
 have hn := h.nb
 have E3 := Lib.hid (show (L.tags : Int) + n - L.tags = n by omega)
 clear h
 go_enter Tryz.func11, Tryz.ntmps11
 go_wp2_with
  (first
   | (refine wpList_boxS (o := ⟨some 1, _, _, _, _, _⟩) rfl rfl (L.cells (.slice A L.lev.length c)) rfl ?_; intro w1 hB f1 z1; have Z1 := Lib.hid z1; clear z1; obtain ⟨gB, hgB⟩ : ∃ g, w.heap.size = g := ⟨_, rfl⟩; rw [hgB] at hB; rw [hgB]; have HGB := Lib.hid hgB; clear hgB; have b4 := (lay_box hB).1; have b5 := (lay_box hB).2.1; have b6 := (lay_box hB).2.2.1; have b7 := (lay_box hB).2.2.2)
   | fail)
 go_ret
 exact ⟨by show Ending.returned (.int .i64 ((L.tags : Int) + n - L.tags)) = _; rw [E3.out], f1⟩
theorem plcL_len (tree : Nat) (lev : List Nat) (i : Nat) : (plcL tree lev i).length = lev.length := by simp [plcL]
theorem plcL_take {tree : Nat} {lev : List Nat} {i k : Nat} (hk : k < lev.length) : (plcL tree lev i).take (k + 1) = (plcL tree lev i).take k ++ [plcK tree lev i k] := by
 rw [List.take_succ_eq_append_getElem (by rw [plcL_len]; exact hk)]
 congr 2
 simp [plcL]
theorem sumL_take {lev : List Nat} {k : Nat} (hk : k < lev.length) : sumL (lev.take (k + 1)) = sumL (lev.take k) + lev[k] := by
 rw [List.take_succ_eq_append_getElem hk, sumL_append, sumL_one]
theorem sumL_le {n k : Nat} (hn : 1 ≤ n ∧ n ≤ 128) : sumL ((levsN n).take k) ≤ 9 := by
 have hu := upN_b hn
 unfold levsN
 split
 ·match k with
  | 0 => simp [sumL]
  | k + 1 => simp [sumL]
 ·match k with
  | 0 => simp [sumL]
  | 1 => simp [sumL]; omega
  | k + 2 => simp [sumL]; omega
def PlcC (w : World) (L : LyM) (i : Nat) (e : Ending) (w' : World) : Prop := ∃ v, e = .returned v ∧ Row w' w.heap.size 3 1 v L.lev.length (ivs (plcL L.tree L.lev i)) ∧ Fr [] w w'
set_option maxHeartbeats 2000000 in
theorem mePlaces_any (h : LyW w A c L n) {i : Nat} (hi : i ≤ 4096) : Calls Tryz.prog 45 #[.agg (L.cells (.slice A L.lev.length c)).toArray, .int .i64 i] w (PlcC w L i) := by
 have hm := h.m
 have ht := h.tree
 have HH := Lib.hid h
 have HSL := Lib.hid (fun k => show sumL (L.lev.take k) ≤ 9 from by rw [h.lev]; exact sumL_le h.nb)
 obtain ⟨m, hmm⟩ : ∃ m, L.lev.length = m := ⟨_, rfl⟩
 have HM := Lib.hid hmm
 have hm1 : 1 ≤ m ∧ m ≤ 2 := by omega
 rw [hmm]
 clear h hm hmm
 go_enter Tryz.func45, Tryz.ntmps45
 go_wp2_with
  (first
   | (refine wpList_boxS (o := ⟨some 2, _, _, _, _, _⟩) rfl rfl (L.cells (.slice A m c)) rfl ?_; intro w1 hB f1 z1; have Z1 := Lib.hid z1; clear z1; obtain ⟨gB, hgB⟩ : ∃ g, w.heap.size = g := ⟨_, rfl⟩; rw [hgB] at hB; rw [hgB]; have HGB := Lib.hid hgB; clear hgB; have b4 := (lay_box hB).1; have b5 := (lay_box hB).2.1; have b6 := (lay_box hB).2.2.1; have b7 := (lay_box hB).2.2.2)
   | fail)
 have hBS := Lib.hid (And.intro hB f1)
 clear hB f1 b4 b5 b6 b7
 go_loopw [1, 5, 6, 13] (fun t1 t5 t6 t13 wr => ∃ k : Nat, k ≤ m ∧ t13 = .int .i64 k ∧ t1 = .int .i64 ((i / 16 ^ k : Nat) : Int) ∧ t6 = .int .i64 ((L.tree + sumL (L.lev.take k) : Nat) : Int) ∧ Row wr w1.heap.size 3 1 t5 k (ivs ((plcL L.tree L.lev i).take k)) ∧ Fr [] w1 wr) (fun _ _ _ t _ => m - (intOf t).toNat)
 case atStart => exact ⟨0, Nat.zero_le _, rfl, by simp, by simp [sumL], Row.nil _ _ _ _, Fr.refl _ _⟩
 case round =>
  obtain ⟨k, hk, rfl, rfl, rfl, R, F⟩ := hrel
  obtain ⟨A5, c5, rfl, -, -, -, -, -⟩ := R.shape
  by_cases hlt : k < m
  ·have hkl : k < L.lev.length := by rw [HM.out]; exact hlt
   obtain ⟨j, hj⟩ : ∃ j, i / 16 ^ k = j := ⟨_, rfl⟩
   have hj1 : j ≤ i := by rw [← hj]; exact Nat.div_le_self _ _
   have EJ : (j : Int) / 16 = ((i / 16 ^ (k + 1) : Nat) : Int) := by rw [Nat.pow_succ, ← Nat.div_div_eq_div_mul, hj]; omega
   obtain ⟨j2, hj2⟩ : ∃ j, i / 16 ^ (k + 1) = j := ⟨_, rfl⟩
   have hj3 : j2 ≤ i := by rw [← hj2]; exact Nat.div_le_self _ _
   obtain ⟨s, hs⟩ : ∃ s, sumL (L.lev.take k) = s := ⟨_, rfl⟩
   have hs9 : s ≤ 9 := by rw [← hs]; exact HSL.out k
   obtain ⟨q, hq⟩ : ∃ q, L.lev[k] = q := ⟨_, rfl⟩
   have hs2 : sumL (L.lev.take (k + 1)) = s + q := by rw [sumL_take hkl, hs, hq]
   have hs29 : s + q ≤ 9 := by rw [← hs2]; exact HSL.out (k + 1)
   have HT := Lib.hid (show (plcL L.tree L.lev i).take (k + 1) = (plcL L.tree L.lev i).take k ++ [L.tree + s + j2] by rw [plcL_take hkl, plcK, hs, hj2])
   have HP := Lib.hid (And.intro hj2 hs2)
   have FB := F.cell (by simp) (hBS.out.1.cell 5)
   replace FB : wr.cell? ⟨gB, 5, none⟩ = some (.slice A m c) := FB
   obtain ⟨gl, ol, eA, hcl⟩ := (HH.out.rd.keep_nil (hBS.out.2.trans_nil F)) (by intro h0; have := congrArg List.length h0; rw [ivs_len, List.length_nil] at this; omega)
   subst eA
   have hglt : gl < w.heap.size := by
    obtain ⟨g', o', e', hl'⟩ := HH.out.rd.lt (by intro h0; have := congrArg List.length h0; rw [ivs_len, List.length_nil] at this; omega)
    cases e'
    exact hl'
   have cl := hcl k (.int .i64 (q : Int)) (by simp [ivs, hkl, hq])
   rw [hj2] at EJ
   rw [hj, hs]
   have FBS : ∀ o : Obj, (wr.alloc o).cell? ⟨gB, 5, none⟩ = some (.slice (some ⟨gl, ol, none⟩) m c) := fun o => ((Fr.refl [] wr).alloc o).cell (by simp) FB
   clear hcl hj hs hq hs2 hj2 hkl
   go_upto_region 8 with (at_builtin; refine wpList_app rfl rfl slI w1.heap.size _ k (ivs ((plcL L.tree L.lev i).take k)) rfl (R.alloc _) _ 1 1 [_] rfl rfl (Rd.one _ _ _) (by intro u hu; rw [List.mem_singleton.1 hu]; rfl) (fun h => by cases h) (by omega) (by have := F.size; simp; omega) ?_; intro v7 w7 q1 q2 q3 q4)
   have f7 : Fr [] w1 w7 := (F.alloc _).trans q2 (fun i hi => .inr (R.lt i (mem_own.1 hi)).1)
   have n5 : gB ∉ (Value.slice A5 k c5).ownBlock.toList := fun hm => R.ne_blk (hBS.out.1.keep_nil F) (by decide) (mem_own.1 hm)
   have nl : gl ∉ (Value.slice A5 k c5).ownBlock.toList := fun hm => by have := (R.lt gl (mem_own.1 hm)).1; have := hBS.out.2.size; omega
   have FB7 := q2.cell n5 (FBS (.cells #[.int .i64 ((L.tree : Int) + s + j2)] 3))
   have cl7 := q2.cell nl (((Fr.refl [] wr).alloc (.cells #[.int .i64 ((L.tree : Int) + s + j2)] 3)).cell (by simp) cl)
   have q1' : Row w7 w1.heap.size 3 1 v7 (k + 1) (ivs ((plcL L.tree L.lev i).take (k + 1))) := by
    rw [HT.out, ivs_append]
    have e : ivs [L.tree + s + j2] = [.int .i64 ((L.tree : Int) + s + j2)] := by simp [ivs]
    rw [e]
    exact q1
   have H7 := Lib.hid (And.intro q1' f7)
   clear q1 q2 q3 q4 q1' f7 n5 nl R F FB cl FBS
   go_wp2_with fail
   exact ⟨⟨k + 1, by omega, by go_num, by rw [HP.out.1], by rw [HP.out.2, show ((L.tree + (s + q) : Nat) : Int) = L.tree + s + q by omega], H7.out.1, H7.out.2⟩, by simp [intOf]; omega⟩
  ·obtain rfl : k = m := by omega
   rw [List.take_of_length_le (by rw [plcL_len, HM.out]; exact Nat.le_refl _)] at R
   have HR := Lib.hid (And.intro R F)
   clear R F
   go_wp2_with fail
   go_ret
   exact ⟨_, rfl, by rw [HM.out]; exact HR.out.1.mono hBS.out.2.size, hBS.out.2.trans_nil HR.out.2⟩
def PthC (w : World) (M : StM) (L : LyM) (i : Nat) (e : Ending) (w' : World) : Prop := ∃ v vs, e = .returned (.tuple #[v, .int .i64 0]) ∧ BRow w' w.heap.size v vs (pathS M L.tree L.lev i) ∧ Fr [] w w'
theorem mePath_nil (L : LyM) (v : Value) (i : Int) (w : World) : Calls Tryz.prog 22 #[.pointer none, .agg (L.cells v).toArray, .int .i64 i] w fun e w' => e = .returned (.tuple #[.slice none 0 0, .int .i64 6]) ∧ Fr [] w w' := by
 go_enter Tryz.func22, Tryz.ntmps22
 go_wp2_with
  (first
   | (refine wpList_boxS (o := ⟨some 4, _, _, _, _, _⟩) rfl rfl (L.cells v) rfl ?_; intro w1 hB f1 z1)
   | (go_at_call 46; refine (sgMade_nil _).mono ?_; rintro e w' ⟨rfl, rfl⟩))
 go_ret2
 exact ⟨rfl, f1⟩
set_option maxHeartbeats 4000000 in
theorem mePath_any (h : SgW w S O M k) (hl : LyW w A c L n) {i : Nat} (hi : i < n) (hE : ∀ x ∈ plcL L.tree L.lev i, rdSE M (x : Int) = 0) : Calls Tryz.prog 22 #[.pointer (some ⟨S.g, 0, none⟩), .agg (L.cells (.slice A L.lev.length c)).toArray, .int .i64 i] w (PthC w M L i) := by
 have hm := hl.m.2
 have hn := hl.nb
 have CM := Lib.hid (fun (w1 : World) (f : Fr [] w w1) => sgMade_any (h.keep_nil f))
 have CR := Lib.hid (fun (w1 : World) (f : Fr [] w w1) x hx => sgRead_any (h.keep_nil f) x hx)
 have CL := Lib.hid (fun (w1 : World) (f : Fr [] w w1) => meLeaves_any (hl.keep_nil f))
 have CP := Lib.hid (fun (w1 : World) (f : Fr [] w w1) => mePlaces_any (hl.keep_nil f) (i := i) (by omega))
 have HE := Lib.hid hE
 have d1 : (i : Int) < n := by omega
 have HB := Lib.hid (fun k => show plcK L.tree L.lev i k ≤ 200000 from by
  have h1 := hl.tree
  have h2 : sumL (L.lev.take k) ≤ 9 := by rw [hl.lev]; exact sumL_le hl.nb
  have h3 : i / 16 ^ (k + 1) ≤ i := Nat.div_le_self _ _
  unfold plcK; omega)
 clear h hl hE
 go_enter Tryz.func22, Tryz.ntmps22
 go_wp2_with
  (first
   | (refine wpList_boxS (o := ⟨some 4, _, _, _, _, _⟩) rfl rfl (L.cells (.slice A L.lev.length c)) rfl ?_; intro w1 hB f1 z1; have Z1 := Lib.hid z1; clear z1; obtain ⟨gB, hgB⟩ : ∃ g, w.heap.size = g := ⟨_, rfl⟩; rw [hgB] at hB; rw [hgB]; have HGB := Lib.hid hgB; clear hgB; have b4 := (lay_box hB).1; have b5 := (lay_box hB).2.1; have b6 := (lay_box hB).2.2.1; have b7 := (lay_box hB).2.2.2)
   | fail)
 refine (CM.out _ f1).mono ?_
 rintro e w2 ⟨rfl, rfl⟩
 go_wp2_with
  (first
   | (refine wpList_ldS stLay rfl rfl gB 0 rfl (L.cells (.slice A L.lev.length c)) rfl hB.range0 ?_))
 refine (CL.out _ f1).mono ?_
 rintro e w3 ⟨rfl, f3⟩
 have hB3 := hB.keep_nil f3
 have F3 := f1.trans_nil f3
 clear hB b4 b5 b6 b7 f3
 go_wp2_with
  (first
   | (refine wpList_ldS stLay rfl rfl gB 0 rfl (L.cells (.slice A L.lev.length c)) rfl hB3.range0 ?_))
 refine (CP.out _ F3).mono ?_
 rintro e w4 ⟨v4, rfl, r4, f4⟩
 obtain ⟨A4, c4, rfl, -, -, -, -, -⟩ := r4.shape
 have F4 := F3.trans_nil f4
 obtain ⟨m, hmm⟩ : ∃ m, L.lev.length = m := ⟨_, rfl⟩
 have HM := Lib.hid hmm
 rw [hmm] at r4 hm
 have HR4 := Lib.hid r4
 have HF4 := Lib.hid F4
 have hm2 : 1 ≤ m ∧ m ≤ 2 := by omega
 clear F3 f4 f1 hB3 r4 F4 hm
 go_wp2_with fail
 go_loopw [8, 30] (fun t8 t30 wr => ∃ q : Nat, q ≤ m ∧ t30 = .int .i64 q ∧ (∃ vs, BRow wr w4.heap.size t8 vs ((pathS M L.tree L.lev i).take q)) ∧ Fr [] w4 wr) (fun _ t _ => m - (intOf t).toNat)
 case atStart => exact ⟨0, Nat.zero_le _, rfl, ⟨[], BRow.nil _ _⟩, Fr.refl _ _⟩
 case round =>
  obtain ⟨q, hq, rfl, ⟨vs, R⟩, F⟩ := hrel
  have hql : ((pathS M L.tree L.lev i).take q).length = q := by rw [List.length_take, pathS, List.length_map, plcL_len, HM.out]; omega
  have r8 := R.row
  rw [hql] at r8
  obtain ⟨A8, c8, rfl, -, -, -, -, -⟩ := r8.shape
  by_cases hlt : q < m
  ·have hqp : q < (plcL L.tree L.lev i).length := by rw [plcL_len, HM.out]; exact hlt
   obtain ⟨p, hp⟩ : ∃ p, (plcL L.tree L.lev i)[q] = p := ⟨_, rfl⟩
   have hpk : p = plcK L.tree L.lev i q := by rw [← hp]; simp [plcL]
   have hpb : p ≤ 200000 := by rw [hpk]; exact HB.out q
   have hpe : rdSE M (p : Int) = 0 := HE.out p (by rw [← hp]; exact List.getElem_mem hqp)
   have htk : (pathS M L.tree L.lev i).take (q + 1) = (pathS M L.tree L.lev i).take q ++ [rdS M (p : Int)] := by
    rw [List.take_succ_eq_append_getElem (by rw [pathS, List.length_map]; exact hqp)]
    congr 2
    simp [pathS, hp]
   obtain ⟨g4, o4, eA, hc4⟩ := (HR4.out.keep_nil F).rdD.1 (by intro h0; have := congrArg List.length h0; rw [ivs_len, plcL_len, HM.out, List.length_nil] at this; omega)
   subst eA
   have ci := hc4 q (.int .i64 (p : Int)) (by simp [ivs, hqp, hp])
   have cr := CR.out wr (HF4.out.trans_nil F) (p : Int) (wfZ_of (by omega))
   rw [hpe] at cr
   obtain ⟨l, hl⟩ : ∃ l, rdS M (p : Int) = l := ⟨_, rfl⟩
   rw [hl] at cr htk
   have HTK := Lib.hid (And.intro htk hql)
   have HR := Lib.hid (And.intro R F)
   clear hqp hp hpk hpe htk hc4 hl hql R
   go_wp2_with fail
   refine cr.mono ?_
   rintro e w5 ⟨v5, rfl, r5, f5⟩
   obtain ⟨A5, c5, rfl, -, -, -, -, -⟩ := r5.shape
   have HR5 := Lib.hid (And.intro r5 f5)
   have r8x := r8.keep_nil f5
   have hF5 := (F.trans_nil f5).size
   clear cr r5 f5 r8 ci
   go_wp2_with (at_builtin; refine wpList_app rfl rfl slBB w4.heap.size _ q vs rfl (r8x.alloc _) _ 1 1 [_] rfl rfl (Rd.one _ _ _) (by intro u hu; rw [List.mem_singleton.1 hu]; rfl) (fun h => by cases h) (by omega) (by simp; omega) ?_; intro v7 wx q1 q2 q3 q4)
   obtain ⟨R, F⟩ := HR.out
   obtain ⟨r5, f5⟩ := HR5.out
   have fa : Fr [] w5 (w5.alloc (.cells #[.slice A5 l.length c5] 27)) := (Fr.refl [] w5).alloc _
   replace q2 : Fr (Value.slice A8 q c8).ownBlock.toList (w5.alloc (.cells #[.slice A5 l.length c5] 27)) wx := q2
   have R7 := ((R.keep_nil f5).keep_nil fa).snoc (b := l) ((r5.keep_nil fa).mono F.size) q2 (by rw [HTK.out.2]; exact q1)
   rw [← HTK.out.1] at R7
   exact ⟨⟨q + 1, by omega, by go_num, ⟨_, R7⟩, ((F.trans_nil f5).trans_nil fa).trans q2 (fun g hg => .inr (r8x.lt g (mem_own.1 hg)).1)⟩, by simp [intOf]; omega⟩
  ·obtain rfl : q = m := by omega
   rw [List.take_of_length_le (by rw [pathS, List.length_map, plcL_len, HM.out]; exact Nat.le_refl _)] at R
   have HR := Lib.hid (And.intro R F)
   clear R F r8
   go_wp2_with fail
   go_ret2
   exact ⟨_, _, rfl, HR.out.1.mono HF4.out.size, HF4.out.trans_nil HR.out.2⟩
end
end
section
open Go.RowKit
def XSt (s : Nat) (done : List Nat) (cur : Nat) : Prop := (done = [] ∧ cur = oneN s) ∨ (done = [oneN s] ∧ cur = 1 ∧ 1 < oneN s)
theorem XSt.next {s : Nat} {done : List Nat} {cur : Nat} (hs : 1 ≤ s ∧ s ≤ 1024) (h : XSt s done cur) : done.length ≤ 1 ∧ cur ≤ 8 ∧ sumL done ≤ 8 ∧ ((1 < cur ∧ XSt s (done ++ [cur]) 1 ∧ (cur + 15) / 16 = 1) ∨ (cur = 1 ∧ done ++ [cur] = levN s)) := by
 have b2 := oneN_b hs
 rcases h with ⟨rfl, rfl⟩ | ⟨rfl, rfl, h⟩
 ·refine ⟨by simp, by omega, by simp [sumL], ?_⟩
  by_cases h1 : 1 < oneN s
  ·exact .inl ⟨h1, .inr ⟨rfl, rfl, h1⟩, by omega⟩
  ·have h2 : oneN s = 1 := by omega
   exact .inr ⟨h2, by rw [levN, if_pos h2, h2]; rfl⟩
 ·exact ⟨by simp, by omega, by rw [sumL_one]; omega, .inr ⟨rfl, by rw [levN, if_neg (by omega)]; rfl⟩⟩
set_option maxRecDepth 100000 in
set_option maxHeartbeats 4000000 in
theorem xhLayout_any (w : World) (h : HeadM) (hs : h.ok) : Calls Tryz.prog 18 #[.agg h.cells.toArray] w (LayH w h) := by
 cases hg : h.good
 ·have HG := Lib.hid hg
  have cc := fun w => xhCheck_any h hs w
  rw [hg] at cc
  have CC := Lib.hid cc
  clear cc hg
  go_enter Tryz.func18, Tryz.ntmps18
  go_wp2_with
   (first
    | (refine wpList_boxS rfl rfl h.cells rfl ?_; intro w1 h1 f1 z1; have Z1 := Lib.hid z1; clear z1; obtain ⟨g, hg⟩ : ∃ g, w.heap.size = g := ⟨_, rfl⟩; rw [hg] at h1; rw [hg]; have HGG := Lib.hid hg; clear hg)
    | (refine wpList_alS stLay (o := ⟨some 2, _, _, _, _, _⟩) rfl rfl ?_; intro w2 h2 f2 z2; have Z2 := Lib.hid z2; clear z2; obtain ⟨g2, hg2⟩ : ∃ g2, w1.heap.size = g2 := ⟨_, rfl⟩; rw [hg2] at h2; rw [hg2]; have HG2 := Lib.hid hg2; clear hg2; have h1 := h1.keep_nil f2)
    | (refine wpList_ldS stHead rfl rfl g 0 rfl h.cells (HeadM.len hs) h1.range0 ?_))
  refine (CC.out _).mono ?_
  rintro e w3 ⟨rfl, f3⟩
  rw [show errG false 1 = 1 from rfl]
  have i2 := h2.keep_nil f3
  have z0 := HGG.out
  have z2 := HG2.out
  have s1 := f1.size
  go_wp2_with
   (first
    | (refine wpList_bld rfl rfl (.agg zeroL.toArray) ?_ ?_; exact layZero _)
    | (refine wpList_stB stLay rfl rfl g2 rfl zeroL rfl rfl layC_ones zeroL rfl i2 ?_; intro wc hc fc zc))
  try simp only [Exit.inBlock, Exit.then]
  refine bodyPost_ret (results_cell2 stLay rfl rfl rfl hc) rfl ?_
  exact ⟨.slice none 0 0, by rw [HG.out]; rfl, by rw [HG.out]; exact Row.nil _ _ _ _, ((f1.trans_nil f2).trans_nil f3).trans fc (fun i hi => .inr (by simp at hi; omega))⟩
 ·have HG := Lib.hid hg
  have I := HeadM.in_of hg
  obtain ⟨ns, nl, nj, ne, nt, nm, na, NN⟩ := HeadM.nat_of I
  have HN := Lib.hid NN
  have B1 := NN.bs
  have B2 := NN.bl
  have B3 := NN.bj
  have cc := fun w => xhCheck_any h hs w
  rw [hg] at cc
  have CC := Lib.hid cc
  clear cc hg I NN
  obtain ⟨k1, hk1⟩ : ∃ k : Nat, k = 2 + nl := ⟨_, rfl⟩
  obtain ⟨k2, hk2⟩ : ∃ k : Nat, k = 3 + nl := ⟨_, rfl⟩
  obtain ⟨k3, hk3⟩ : ∃ k : Nat, k = 4 + nl := ⟨_, rfl⟩
  obtain ⟨k4, hk4⟩ : ∃ k : Nat, k = 4 + nl + nj := ⟨_, rfl⟩
  have E1 : (2 : Int) + (nl : Int) = (k1 : Int) := by omega
  have E2 : (3 : Int) + (nl : Int) = (k2 : Int) := by omega
  have E3 : (4 : Int) + (nl : Int) = (k3 : Int) := by omega
  have E4 : (k3 : Int) + (nj : Int) = (k4 : Int) := by omega
  have HK := Lib.hid (And.intro hk1 (And.intro hk2 (And.intro hk3 hk4)))
  have K3 : k3 ≤ 12 := by omega
  have K4 : k4 ≤ 300 := by omega
  clear hk1 hk2 hk3 hk4
  go_enter Tryz.func18, Tryz.ntmps18
  go_wp2_with
   (first
    | (refine wpList_boxS rfl rfl h.cells rfl ?_; intro w1 h1 f1 z1; have Z1 := Lib.hid z1; clear z1; obtain ⟨g, hg⟩ : ∃ g, w.heap.size = g := ⟨_, rfl⟩; rw [hg] at h1; rw [hg]; have HGG := Lib.hid hg; clear hg)
    | (refine wpList_alS stLay (o := ⟨some 2, _, _, _, _, _⟩) rfl rfl ?_; intro w2 h2 f2 z2; have Z2 := Lib.hid z2; clear z2; obtain ⟨g2, hg2⟩ : ∃ g2, w1.heap.size = g2 := ⟨_, rfl⟩; rw [hg2] at h2; rw [hg2]; have HG2 := Lib.hid hg2; clear hg2; have h1 := h1.keep_nil f2)
    | (refine wpList_ldS stHead rfl rfl g 0 rfl h.cells (HeadM.len hs) h1.range0 ?_))
  refine (CC.out _).mono ?_
  rintro e w3 ⟨rfl, f3⟩
  rw [show errG true 1 = 0 from rfl]
  have i2 := h2.keep_nil f3
  have i1 := h1.keep_nil f3
  have F3 := (f1.trans_nil f2).trans_nil f3
  have z0 := HGG.out
  have z2 := HG2.out
  have s1 := h1.lt
  have s2 := i2.lt
  have s3 := f1.size
  clear h1 h2 f1 f2 f3
  obtain ⟨-, -, c2, c3, -, -, -, -⟩ := head_cellsN HN.out i1
  go_upto_region 4 with
   (first
    | (refine wpList_bldK (o := ⟨some 26, _, _, _, _, _⟩) rfl rfl #[(0, .int .i64 2), (1, .int .i64 (k1 : Int)), (2, .int .i64 (k2 : Int)), (3, .int .i64 (k3 : Int)), (4, .int .i64 (k4 : Int))] (by kernel_rfl) (.agg (layC 2 k1 k2 k3 k4 (.slice none 0 0) 0 0 0).toArray) (layFive _ k1 k2 k3 k4) ?_)
    | (refine wpList_alS stLay (o := ⟨some 4, _, _, _, _, _⟩) rfl rfl ?_; intro w4 h4 f4 z4; have Z4 := Lib.hid z4; clear z4; obtain ⟨g5, hg5⟩ : ∃ g5, w3.heap.size = g5 := ⟨_, rfl⟩; rw [hg5] at h4; rw [hg5]; have HG5 := Lib.hid hg5; clear hg5)
    | (refine wpList_stB stLay rfl rfl g5 rfl (layC 2 k1 k2 k3 k4 (.slice none 0 0) 0 0 0) rfl rfl layC_ones zeroL rfl h4 ?_; intro w5 h5 f5 z5; have Z5 := Lib.hid z5; clear z5))
  have ne1 : g < g5 := by have := HG5.out; omega
  have ne3 : g2 < g5 := by have := HG5.out; omega
  have j1 := (i1.keep_nil f4).keep f5 (by simp; omega)
  replace i2 := (i2.keep_nil f4).keep f5 (by simp; omega)
  have F : Fr [] w w5 := (F3.trans_nil f4).trans f5 (fun i hi => .inr (by simp at hi; omega))
  clear F3 f4 f5 h4 i1 c2 c3 E1 E2 E3 E4
  obtain ⟨-, c1, -, -, -, -, -, -⟩ := head_cellsN HN.out j1
  go_wp2_with fail
  have cc := xhUp_any ns 8 w5 (by omega) (.inl rfl)
  rw [show ((ns + (8 - 1)) / 8 : Nat) = tagsN ns from rfl] at cc
  refine cc.mono ?_
  clear cc
  rintro e w' ⟨rfl, rfl⟩
  have T0 := tagsN_b B1
  have O0 := oneN_b B1
  obtain ⟨T, hT⟩ : ∃ T, tagsN ns = T := ⟨_, rfl⟩
  have hO : (T + 15) / 16 = oneN ns := by rw [← hT]; rfl
  rw [hT]
  rw [hT] at T0
  have HT := Lib.hid hT
  have HO := Lib.hid hO
  clear hT hO c1
  have e4 := h5.cell 4
  have e6 := h5.cell 6
  have y6 := h5.frozen 6
  simp [layC] at e4 e6
  go_upto_region 6 with fail
  have fs := (Fr.refl [g5] w5).setCell (p := ⟨g5, 6, none⟩) (.inl (by simp)) (.int .i64 (k4 : Int))
  have h6 := h5.set_ 6 (.int .i64 (k4 : Int))
  replace j1 := j1.keep fs (by simp; omega)
  skip
  replace i2 := i2.keep fs (by simp; omega)
  replace F := F.trans fs (fun i hi => .inr (by simp at hi; omega))
  generalize World.setCell w5 ⟨g5, 6, none⟩ (.int .i64 (k4 : Int)) = w6 at *
  clear h5 fs e4 e6 y6
  have h5 : Blk w6 g5 38 (layC 2 k1 k2 k3 k4 (.slice none 0 0) k4 0 0).toArray := h6
  clear h6
  go_wp2_with fail
  have cc := xhUp_any T 16 w6 (by omega) (.inr rfl)
  rw [show ((T + (16 - 1)) / 16 : Nat) = oneN ns from HO.out] at cc
  refine cc.mono ?_
  clear cc
  rintro e w' ⟨rfl, rfl⟩
  go_wp2_with fail
  go_loopw [6] (fun n wr => ∃ done cur A m c, n = .int .i64 ((cur : Nat) : Int) ∧ XSt ns done cur ∧ m = done.length ∧ Blk wr g5 38 (layC 2 k1 k2 k3 k4 (.slice A m c) (k4 + sumL done) 0 0).toArray ∧ Row wr w.heap.size 3 1 (.slice A m c) m (ivs done) ∧ Blk wr g 62 h.cells.toArray ∧ Blk wr g2 38 zeroL.toArray ∧ Fr [] w wr) (fun _ wr => 3 - lenAt wr g5)
  case atStart => exact ⟨[], oneN ns, none, 0, 0, rfl, .inl ⟨rfl, rfl⟩, rfl, h5, Row.nil _ _ _ _, j1, i2, F⟩
  case round =>
   clear h5 j1 i2 F
   obtain ⟨done, cur, A, m, c, rfl, hst, hm, h5, r5, j1, i2, F⟩ := hrel
   subst hm
   obtain ⟨hdl, hcur, hsb, hnext⟩ := hst.next B1
   obtain ⟨S, hS⟩ : ∃ S, k4 + sumL done = S := ⟨_, rfl⟩
   have hS' : k4 + sumL (done ++ [cur]) = S + cur := by rw [sumL_append, sumL_one]; omega
   have HS' := Lib.hid hS'
   have HNX := Lib.hid hnext
   rw [hS] at h5
   have Sb : S ≤ 310 := by omega
   have c5 := h5.cell 5
   have c6 := h5.cell 6
   have y5 := h5.frozen 5
   have y6 := h5.frozen 6
   simp [layC] at c5 c6
   have hlen : lenAt wr g5 = done.length := by simp [lenAt, c5]
   have HLEN := Lib.hid hlen
   obtain ⟨dl, hdl'⟩ : ∃ n, done.length = n := ⟨_, rfl⟩
   rw [hdl'] at h5 r5 c5 hdl
   have HDL := Lib.hid hdl'
   clear hnext hS hS' hst hsb hlen
   go_upto_region 10 with
    (first
     | (at_builtin; refine wpList_app rfl rfl slI w.heap.size _ dl (ivs done) rfl (r5.alloc _) _ 1 1 [_] rfl rfl (Rd.one _ _ _) (by intro u hu; rw [List.mem_singleton.1 hu]; rfl) (fun h => by cases h) (by omega) (by have := F.size; simp; omega) ?_; intro v7 w7 q1 q2 q3 q4; have h7 := (h5.alloc (.cells #[.int .i64 (cur : Int)] 3)).keep q2 (fun hm => r5.ne_blk h5 (by decide) (mem_own.1 hm)); have d5 := h7.cell 5; have d6 := h7.cell 6; have x5 := h7.frozen 5; have x6 := h7.frozen 6; simp [layC] at d5 d6; obtain ⟨A7, cap7, rfl, -, -, -, -, -⟩ := q1.shape))
   have F7 : Fr [] w w7 := (F.alloc _).trans q2 (fun i hi => .inr (r5.lt i (mem_own.1 hi)).1)
   have j7 := (j1.alloc (.cells #[.int .i64 (cur : Int)] 3)).keep q2 (fun hm => r5.ne_blk j1 (by decide) (mem_own.1 hm))
   have i7 := (i2.alloc (.cells #[.int .i64 (cur : Int)] 3)).keep q2 (fun hm => r5.ne_blk i2 (by decide) (mem_own.1 hm))
   have n7 := q1.ne_blk h7 (by decide)
   rw [show ivs done ++ [Value.int .i64 (cur : Int)] = ivs (done ++ [cur]) by rw [ivs_append]; rfl] at q1
   have h8 := (h7.set_ 5 (.slice A7 (dl + 1) cap7)).set_ 6 (.int .i64 ((S : Int) + (cur : Int)))
   have fs : Fr [g5] w7 ((w7.setCell ⟨g5, 5, none⟩ (.slice A7 (dl + 1) cap7)).setCell ⟨g5, 6, none⟩ (.int .i64 ((S : Int) + (cur : Int)))) := ((Fr.refl [g5] w7).setCell (p := ⟨g5, 5, none⟩) (.inl (by simp)) _).setCell (p := ⟨g5, 6, none⟩) (.inl (by simp)) _
   have hl8 : lenAt ((w7.setCell ⟨g5, 5, none⟩ (.slice A7 (dl + 1) cap7)).setCell ⟨g5, 6, none⟩ (.int .i64 ((S : Int) + (cur : Int)))) g5 = dl + 1 := by
    have := h8.cell 5
    simp [layC] at this
    simp [lenAt, this]
   replace j1 := j7.keep fs (by simp; omega)
   replace i2 := i7.keep fs (by simp; omega)
   replace F := F7.trans fs (fun i hi => .inr (by simp at hi; omega))
   replace r5 := q1.keep fs (fun i hi hm => n7 (by rw [hi]; simp at hm; rw [hm]))
   have h9 : Blk ((w7.setCell ⟨g5, 5, none⟩ (.slice A7 (dl + 1) cap7)).setCell ⟨g5, 6, none⟩ (.int .i64 ((S : Int) + (cur : Int)))) g5 38 (layC 2 k1 k2 k3 k4 (.slice A7 (dl + 1) cap7) (S + cur) 0 0).toArray := h8
   have HL8 := Lib.hid hl8
   clear hl8 h8 fs j7 i7 F7 q1 q2 q3 q4 h7 d5 d6 x5 x6 h5 c5 c6 y5 y6
   generalize (w7.setCell ⟨g5, 5, none⟩ (.slice A7 (dl + 1) cap7)).setCell ⟨g5, 6, none⟩ (.int .i64 ((S : Int) + (cur : Int))) = w8 at *
   rcases HNX.out with ⟨h1, hnx, hup⟩ | ⟨h1, hlev⟩
   ·have K : ((cur : Int) == 1) = false := by rw [beq_eq_false_iff_ne]; omega
    have HN1 := Lib.hid hnx
    have HUP := Lib.hid hup
    clear h1 hnx hup
    go_wp2_with fail
    have cc := xhUp_any cur 16 w8 (by omega) (.inr rfl)
    rw [show ((cur + (16 - 1)) / 16 : Nat) = 1 from HUP.out] at cc
    refine cc.mono ?_
    clear cc
    rintro e w' ⟨rfl, rfl⟩
    go_wp2_with fail
    refine ⟨⟨done ++ [cur], 1, A7, dl + 1, cap7, rfl, HN1.out, by rw [List.length_append, HDL.out]; rfl, by rw [HS'.out]; exact h9, r5, j1, i2, F⟩, by rw [HL8.out, HLEN.out, HDL.out]; omega⟩
   ·subst h1
    obtain ⟨S1, hS1⟩ : ∃ S1, S1 = S + 1 := ⟨_, rfl⟩
    rw [← hS1] at h9
    have S1b : S1 ≤ 311 := by omega
    obtain ⟨S2, hS2⟩ : ∃ S2, S2 = S1 + T := ⟨_, rfl⟩
    obtain ⟨S3, hS3⟩ : ∃ S3, S3 = S2 + ns := ⟨_, rfl⟩
    have E5 : (S1 : Int) + (T : Int) = (S2 : Int) := by omega
    have E6 : (S2 : Int) + (ns : Int) = (S3 : Int) := by omega
    have S2b : S2 ≤ 440 := by omega
    have HS2 := Lib.hid (And.intro hS2 hS3)
    have HS1 := Lib.hid (show k4 + sumL (done ++ [1]) = S1 by rw [HS'.out, hS1])
    have HLV := Lib.hid hlev
    obtain ⟨a, rfl⟩ : ∃ a, A7 = some a := by
     cases A7 with
     | none => exact absurd (r5.rd.2.2 rfl) (by omega)
     | some a => exact ⟨a, rfl⟩
    have h5 := h9
    clear h9 hS1 hS2 hS3 hlev
    have hne5 := r5.ne_blk h5 (by decide)
    have c6 := h5.cell 6
    have c7 := h5.cell 7
    have y7 := h5.frozen 7
    simp [layC] at c6 c7
    go_upto_region 12 with fail
    have fs := (Fr.refl [g5] w8).setCell (p := ⟨g5, 7, none⟩) (.inl (by simp)) (.int .i64 (S2 : Int))
    have h6 := h5.set_ 7 (.int .i64 (S2 : Int))
    replace j1 := j1.keep fs (by simp; omega)
    replace r5 := r5.keep fs (fun i hi hm => hne5 (by rw [hi]; simp at hm; rw [hm]))
    replace i2 := i2.keep fs (by simp; omega)
    replace F := F.trans fs (fun i hi => .inr (by simp at hi; omega))
    generalize World.setCell w8 ⟨g5, 7, none⟩ (.int .i64 (S2 : Int)) = w6 at *
    clear h5 fs c6 c7 y7
    have h5 : Blk w6 g5 38 (layC 2 k1 k2 k3 k4 (.slice (some a) (dl + 1) cap7) S1 S2 0).toArray := h6
    clear h6
    obtain ⟨-, c1, -, -, -, -, -, -⟩ := head_cellsN HN.out j1
    have c7 := h5.cell 7
    have c8 := h5.cell 8
    have y8 := h5.frozen 8
    simp [layC] at c7 c8
    go_upto_region 13 with fail
    have fs := (Fr.refl [g5] w6).setCell (p := ⟨g5, 8, none⟩) (.inl (by simp)) (.int .i64 (S3 : Int))
    have h6 := h5.set_ 8 (.int .i64 (S3 : Int))
    replace j1 := j1.keep fs (by simp; omega)
    replace r5 := r5.keep fs (fun i hi hm => hne5 (by rw [hi]; simp at hm; rw [hm]))
    replace i2 := i2.keep fs (by simp; omega)
    replace F := F.trans fs (fun i hi => .inr (by simp at hi; omega))
    generalize World.setCell w6 ⟨g5, 8, none⟩ (.int .i64 (S3 : Int)) = w6 at *
    clear h5 fs c1 c7 c8 y8
    have h5 : Blk w6 g5 38 (layC 2 k1 k2 k3 k4 (.slice (some a) (dl + 1) cap7) S1 S2 S3).toArray := h6
    clear h6
    go_wp2_with
     (first
      | (refine wpList_ldS stLay rfl rfl g5 0 rfl (layC 2 k1 k2 k3 k4 (.slice (some a) (dl + 1) cap7) S1 S2 S3) rfl h5.range0 ?_)
      | (refine wpList_stB stLay rfl rfl g2 rfl (layC 2 k1 k2 k3 k4 (.slice (some a) (dl + 1) cap7) S1 S2 S3) rfl rfl layC_ones zeroL rfl i2 ?_; intro wc hc fc zc))
    try simp only [Exit.inBlock, Exit.then]
    refine bodyPost_ret (results_cell2 stLay rfl rfl rfl hc) rfl ?_
    obtain ⟨hk1, hk2, hk3, hk4⟩ := HK.out
    have e : layH h.sec.toNat h.slo.toNat h.jou.toNat (.slice (some a) (dl + 1) cap7) = layC 2 k1 k2 k3 k4 (.slice (some a) (dl + 1) cap7) S1 S2 S3 := by
     rw [HN.out.sec, HN.out.slo, HN.out.jou]
     simp only [Int.toNat_natCast]
     unfold layH
     rw [← hk4, ← hk3, ← hk1, ← hk2, ← HLV.out, HS1.out, HT.out, ← HS2.out.1, ← HS2.out.2]
    have e2 : levN h.sec.toNat = done ++ [1] := by rw [HN.out.sec, Int.toNat_natCast, HLV.out]
    refine ⟨.slice (some a) (dl + 1) cap7, by rw [HG.out, if_pos rfl, e]; rfl, ?_, F.trans fc (fun i hi => .inr (by simp at hi; omega))⟩
    rw [HG.out, if_pos rfl, if_pos rfl, e2, List.length_append, HDL.out]
    exact r5.keep fc (fun i hi hm => (r5.ne_blk i2 (by decide)) (by rw [hi]; simp at hm; rw [hm]))
end
section
open Go.RowKit
set_option maxRecDepth 100000
def hdM (s : Int) : HeadM := ⟨1, s, 1, 40, 2, 1, 8, 1, List.replicate 16 0⟩
theorem hdM_ok {s : Int} (h : in64 s) : (hdM s).ok := ⟨by show (1 : Nat) < _; decide, h, (⟨by decide, by decide⟩ : in64 1), (⟨by decide, by decide⟩ : in64 40), (⟨by decide, by decide⟩ : in64 2), (⟨by decide, by decide⟩ : in64 1), (⟨by decide, by decide⟩ : in64 8), (⟨by decide, by decide⟩ : in64 1), rfl⟩
theorem hdM_good {s : Nat} (h : 1 ≤ s ∧ s ≤ 1024) : (hdM s).good = true := HeadM.good_of ⟨by show 1 ≤ 1; decide, by show (1 : Int) ≤ s ∧ (s : Int) ≤ 1024; omega, by show (1 : Int) ≤ 1 ∧ (1 : Int) ≤ 8; decide, by show (16 : Int) ≤ 40 ∧ (40 : Int) ≤ 256; decide, by show (1 : Int) ≤ 2 ∧ (2 : Int) ≤ 16; decide, by show (2 : Int) + 10 ≤ 40; decide, by show (1 : Int) ≤ 1 ∧ (1 : Int) ≤ 8; decide, by show (1 : Int) ≤ 1 ∧ (1 : Int) ≤ 4; decide, by show (8 : Int) * 1 ≤ 8 ∧ (8 : Int) ≤ 256; decide⟩
theorem head17B (w : World) (s : Int) : (Instr.build 62 #[(0, .int .u64 1), (1, .int .i64 s), (2, .int .i64 1), (3, .int .i64 40), (4, .int .i64 2), (5, .agg #[.int .i64 1, .int .i64 8, .int .i64 1])]).run Tryz.prog w = .ok (.agg (hdM s).cells.toArray) w := by kernel_rfl
theorem par17B (w : World) : (Instr.build 59 #[(0, .int .i64 1), (1, .int .i64 8), (2, .int .i64 1)]).run Tryz.prog w = .ok (.agg #[.int .i64 1, .int .i64 8, .int .i64 1]) w := by kernel_rfl
set_option maxHeartbeats 1000000 in
theorem head17_any (w : World) (s : Int) : Calls Tryz.prog 19 #[.int .i64 s] w fun e w' => e = .returned (.agg (hdM s).cells.toArray) ∧ Fr [] w w' := by
 obtain ⟨H, hH⟩ : ∃ H, (hdM s).cells = H := ⟨_, rfl⟩
 have HL := Lib.hid (show H.length = 24 by rw [← hH]; simp [HeadM.cells, hdM, bvs])
 have HO := Lib.hid (show ∀ u ∈ H, u.oneCell' = true by rw [← hH]; exact HeadM.ones _)
 have HB := Lib.hid (show ∀ w, _ from fun w => head17B w s)
 rw [hH] at HB ⊢
 clear hH
 go_enter Tryz.func19, Tryz.ntmps19
 go_wp2_with
  (first
   | (refine wpList_alS stHead (o := ⟨some 2, _, _, _, _, _⟩) rfl rfl ?_; intro w1 h1 f1 z1; have Z1 := Lib.hid z1; clear z1; obtain ⟨g1, hg1⟩ : ∃ g1, w.heap.size = g1 := ⟨_, rfl⟩; rw [hg1] at h1; rw [hg1]; have HG1 := Lib.hid hg1; clear hg1)
   | (refine wpList_bldK (o := ⟨some 4, _, _, _, _, _⟩) rfl rfl #[(0, .int .i64 1), (1, .int .i64 8), (2, .int .i64 1)] (by kernel_rfl) (.agg #[.int .i64 1, .int .i64 8, .int .i64 1]) (par17B _) ?_)
   | (refine wpList_bldK (o := ⟨some 5, _, _, _, _, _⟩) rfl rfl #[(0, .int .u64 1), (1, .int .i64 s), (2, .int .i64 1), (3, .int .i64 40), (4, .int .i64 2), (5, .agg #[.int .i64 1, .int .i64 8, .int .i64 1])] (by kernel_rfl) (.agg H.toArray) (HB.out _) ?_)
   | (refine wpList_stB stHead rfl rfl g1 rfl H rfl HL.out HO.out zeroH.cells (HeadM.len zeroH_ok) h1 ?_; intro wc hc fc zc; clear zc))
 try simp only [Exit.inBlock, Exit.then]
 refine bodyPost_ret (results_cell stHead rfl rfl HL.out hc) rfl ?_
 exact ⟨rfl, f1.trans fc (fun i hi => .inr (by have := HG1.out; simp at hi; omega))⟩
end
section
open Go.RowKit
set_option maxRecDepth 100000
theorem strNe {a b : List UInt8} (h : a ≠ b) : ((⟨a.toArray⟩ : ByteArray).toList == (⟨b.toArray⟩ : ByteArray).toList) = false := by
 rw [beq_eq_false_iff_ne, ByteArray.toList_eq, ByteArray.toList_eq]
 simpa using h
theorem joinB_one {i : Nat} {path : List (List UInt8)} (h : path.length = 1) : joinB i path = true := by rw [joinB, h]; rfl
theorem joinB_two {i : Nat} {path : List (List UInt8)} (h : path.length = 2) : joinB i path = (cutB (path.getD 1 []) (i / 16) == nodeH 0 (path.getD 0 [])) := by
 rw [joinB, h]
 simp [joinK, joinAt, List.range_succ]
theorem cut_rd {w : World} {g o : Nat} {b : List UInt8} (h : Rd w (some ⟨g, o, none⟩) (bvs b)) (i : Nat) : Rd w (some ⟨g, o + 32 * (i % 16), none⟩) (bvs (cutB b i)) := by
 have := (h.drop (32 * (i % 16))).take 32
 rw [← bvs_drop, ← bvs_take] at this
 simpa [addr_add, cutB] using this
theorem cut_len {b : List UInt8} (h : b.length = 512) (i : Nat) : (cutB b i).length = 32 := by
 unfold cutB
 have := Nat.mod_lt i (show 0 < 16 by decide)
 rw [List.length_take, List.length_drop, h]
 omega
section
variable {w w' : World} {A : Option Addr} {m c n i : Nat} {vs : List Value} {path : List (List UInt8)}
set_option maxHeartbeats 2000000 in
theorem trJoined_any (h : PathW w A m c vs n path) (hi : i ≤ 4096) (hK : KG w) (hc : c ≤ 9223372036854775807) :
  Calls Tryz.prog 82 #[.int .i64 i, .slice A m c] w fun e w' => e = .returned (.bool (joinB i path)) ∧ Fr [] w w' := by
 have hm := h.mb
 have hcm := h.c
 have hlen := h.len
 have HH := Lib.hid h
 have hm2 : m = 1 ∨ m = 2 := by omega
 clear h
 rcases hm2 with rfl | rfl
 ·have HJ := Lib.hid (joinB_one (i := i) hlen)
  rw [HJ.out]
  clear hlen
  by_cases hc1 : c = 1
  ·subst hc1
   go_enter Tryz.func82, Tryz.ntmps82
   go_wp2_with fail
   go_loop [11] (fun i => i = .int .i64 0) (fun i => 1 - (intOf i).toNat)
   case atStart => rfl
   case round =>
    subst hrel
    go_wp2_with fail
    go_ret
    exact ⟨rfl, Fr.refl _ _⟩
  ·go_enter Tryz.func82, Tryz.ntmps82
   go_wp2_with fail
   go_loop [11] (fun i => i = .int .i64 0) (fun i => 1 - (intOf i).toNat)
   case atStart => rfl
   case round =>
    subst hrel
    go_wp2_with fail
    go_ret
    exact ⟨rfl, Fr.refl _ _⟩
 ·have HJ := Lib.hid (joinB_two (i := i) hlen)
  obtain ⟨g, o, g1, o1, c1, eA, -⟩ := HH.out.at (k := 0) (by omega)
  cases eA
  have N1 : ¬ (c = 1) := by omega
  obtain ⟨j, hj⟩ : ∃ j, i / 16 = j := ⟨_, rfl⟩
  have E1 : (i : Int) / 16 = (j : Int) := by omega
  have hj2 : j ≤ 4096 := by omega
  rw [hj] at HJ
  obtain ⟨b0, hb0⟩ : ∃ b0, path.getD 0 [] = b0 := ⟨_, rfl⟩
  obtain ⟨b1, hb1⟩ : ∃ b1, path.getD 1 [] = b1 := ⟨_, rfl⟩
  obtain ⟨N, hN⟩ : ∃ N, nodeH 0 b0 = N := ⟨_, rfl⟩
  rw [hb0, hb1, hN] at HJ
  have HB := Lib.hid (And.intro hb0 (And.intro hb1 hN))
  have HNL := Lib.hid (show N.length = 32 by rw [← hN]; exact shaSum_length _)
  clear hlen hj hb0 hb1 hN
  go_enter Tryz.func82, Tryz.ntmps82
  go_wp2_with fail
  go_loopw [0, 11] (fun t i' wr => Fr [] w wr ∧ ((t = .int .i64 i ∧ i' = .int .i64 0) ∨ (i' = .int .i64 1 ∧ cutB b1 j = N))) (fun _ i' _ => 2 - (intOf i').toNat)
  case atStart => exact ⟨Fr.refl _ _, .inl ⟨rfl, rfl⟩⟩
  case round =>
   obtain ⟨F, ⟨rfl, rfl⟩ | ⟨rfl, hcN⟩⟩ := hrel
   ·obtain ⟨g', o', ga, oa, ca, e0, ck0, hca, ra, la, -⟩ := (HH.out.keep_nil F).at (k := 0) (by omega)
    cases e0
    obtain ⟨g', o', gb, ob, cb, e1, ck1, hcb, rb, lb, -⟩ := (HH.out.keep_nil F).at (k := 1) (by omega)
    cases e1
    rw [Nat.add_zero] at ck0
    rw [HB.out.1] at ra la
    rw [HB.out.2.1] at rb lb
    have cn := trNode_any 0 (by omega) (some ⟨ga, oa, none⟩) b0 512 ca wr la ra (by simp) hca (by omega) (hK.keep F)
    rw [show nodeH (UInt8.ofNat 0) b0 = N from HB.out.2.2, show ((0 : Nat) : Int) = 0 from rfl] at cn
    have rc := cut_rd rb j
    have lc := cut_len lb j
    have HCT := Lib.hid (And.intro rc lc)
    clear ra la rb lb rc lc
    go_wp2_with fail
    refine cn.mono ?_
    rintro e w2 ⟨rfl, f2⟩
    have F2 := F.trans_nil f2
    have HCC := Lib.hid (HCT.out.1.keep_nil f2)
    clear cn ck0
    replace ck1 := f2.cell (by simp) ck1
    clear f2 F
    go_upto_region 6 with
     (first
      | (refine wpList_alS stA32 (o := ⟨some 7, _, _, _, _, _⟩) rfl rfl ?_; intro w3 h3 f3 z3; have Z3 := Lib.hid z3; clear z3; obtain ⟨g3, hg3⟩ : ∃ g3, w2.heap.size = g3 := ⟨_, rfl⟩; rw [hg3] at h3; rw [hg3]; have HG3 := Lib.hid hg3; clear hg3)
      | (refine wpList_stB stA32 rfl rfl g3 rfl (bvs N) rfl (by rw [bvs_length, HNL.out]) (bvs_one _) (bvs (zB 32)) rfl h3 ?_; intro w4 h4 f4 z4; have Z4 := Lib.hid z4; clear z4))
    have f5 : Fr [] w2 w4 := f3.trans f4 (fun i hi => .inr (by have := HG3.out; simp at hi; omega))
    have F4 := F2.trans_nil f5
    have E3 := fun q => strB (w4.drewN q) _ (cutB b1 j) 32 (cb - 32 * (j % 16)) HCT.out.2 ((HCC.out.keep_nil f5).keep_nil ((Fr.refl [] _).drewN q)) (by simp)
    have E4 := fun q => strB (w4.drewN q) (some ⟨g3, 0, none⟩) N 32 32 HNL.out ((Rd.of_blk h4 0 _ (fun j u hu => by rw [Nat.zero_add]; simpa using hu)).keep_nil ((Fr.refl [] _).drewN q)) (by simp)
    have cch := Lib.hid (fun w => trChild_any gb ob cb j w hcb (by omega))
    clear f3 f4 f5 h3 h4 F2 HCC ck1
    by_cases hcN : cutB b1 j = N
    ·rw [hcN] at E3
     have HCN := Lib.hid hcN
     clear hcN
     go_quiet ((go_at_call 83; exact Calls.quiet_of_same ((cch.out _).mono fun e w' h => ⟨h.1, h.2.symm⟩)))
     go_wp2_with fail
     exact ⟨⟨F4.drewN _, .inr ⟨rfl, HCN.out⟩⟩, by simp [intOf]⟩
    ·have hd := strNe hcN
     obtain ⟨S1, hS1⟩ : ∃ S1 : ByteArray, (⟨(cutB b1 j).toArray⟩ : ByteArray) = S1 := ⟨_, rfl⟩
     obtain ⟨S2, hS2⟩ : ∃ S2 : ByteArray, (⟨N.toArray⟩ : ByteArray) = S2 := ⟨_, rfl⟩
     rw [hS1, hS2] at hd
     rw [hS1] at E3
     rw [hS2] at E4
     have HCN := Lib.hid (show joinB i path = false by rw [HJ.out]; exact beq_eq_false_iff_ne.2 hcN)
     clear hcN hS1 hS2
     go_quiet ((go_at_call 83; exact Calls.quiet_of_same ((cch.out _).mono fun e w' h => ⟨h.1, h.2.symm⟩)))
     go_wp2_with fail
     go_ret
     exact ⟨by rw [HCN.out]; rfl, F4.drewN _⟩
   ·have HCN := Lib.hid (show joinB i path = true by rw [HJ.out, hcN]; exact beq_self_eq_true _)
    clear hcN
    go_wp2_with fail
    go_ret
    exact ⟨by rw [HCN.out]; rfl, F⟩
end
end
end Go.Proofs.YtbanogfljpkbkaaGreatDoor
