/-
  Texts of this claim, one behind the other: ShaJ, ShaK, RecA, RecB, CodI, RecC.
-/
import Derived.Test.YtlelgeigighecaaDoorM6
/-
  SHA-256: Sum and its reference.
-/
set_option linter.unusedSimpArgs false
set_option linter.unusedVariables false
set_option linter.unnecessarySimpa false
namespace Go.Proofs.YtlelgeigighecaaDoor
open Go.RowKit

set_option maxRecDepth 100000 in
set_option maxHeartbeats 1000000 in
theorem sum_any (A : Option Addr) (l : List UInt8) (n c : Nat) (w : World) (hn : l.length = n) (hr : Rd w A (bvs l)) (hA : A = none → n = 0) (hN : n ≤ 140737488355200) (hK : KG w) :
    Calls Tryd.prog 42 #[.slice A n c] w fun e w' => e = .returned (.agg (bvs (shaSum l)).toArray) ∧ Fr [] w w' := by
  have p0 := hK.pos
  have HN := Lib.hid hn
  clear hn
  go_enter Tryd.func42, Tryd.ntmps42
  go_wp2_with
    (first
      | (refine wpList_alS stA32 (o := ⟨some 2, _, _, _, _, _⟩) rfl rfl ?_; intro w1 h1 f1 z1; have Z1 := Lib.hid z1; clear z1; obtain ⟨g1, hg1⟩ : ∃ g1, w.heap.size = g1 := ⟨_, rfl⟩; rw [hg1] at h1; rw [hg1]; have HG1 := Lib.hid hg1; clear hg1))
  have G1 : w.heap.size = g1 := HG1.out
  refine (newHash_any w1).mono ?_
  rintro e w2 ⟨g, rfl, hg, hh, f2⟩
  have s1 := h1.lt
  have F2 := f1.trans_nil f2
  have i1 := h1.keep_nil f2
  go_wp2_with fail
  have hgl := hh.blk.lt
  have cc := hWrite_any hh A n c l HN.out (hr.keep_nil F2) hA (fun g' o e hne => by
    obtain ⟨g2, o2, e2, h2⟩ := hr.lt (by intro h0; apply hne; simpa [bvs] using h0)
    rw [e] at e2
    cases e2
    have := F2.size
    have := f1.size
    omega) (by simp; omega) (hK.keep F2) (by omega) (by omega)
  refine cc.mono ?_
  clear cc
  rintro e w3 ⟨rfl, v3, h3, f3, -⟩
  rw [List.nil_append] at h3
  have F3 : Fr [] w w3 := F2.trans f3 (fun i hi => .inr (by
    rcases List.mem_cons.1 hi with rfl | hi
    · have := f1.size; omega
    · exact absurd hi (by simp [Value.ownBlock])))
  have i3 := i1.keep f3 (fun hi => by
    rcases List.mem_cons.1 hi with rfl | hi
    · omega
    · exact absurd hi (by simp [Value.ownBlock]))
  go_wp2_with fail
  refine (hSum_any h3 (by rw [HN.out]; omega) (hK.keep F3)).mono ?_
  rintro e w4 ⟨rfl, f4⟩
  have i4 := i3.keep_nil f4
  have hl := shaSum_length l
  have HL := Lib.hid hl
  clear hl
  obtain ⟨q, hq⟩ : ∃ q, shaSum l = q := ⟨_, rfl⟩
  rw [hq] at HL ⊢
  have HQ := Lib.hid (fun _ : Unit => hq)
  clear hq
  go_wp2_with
    (first
      | (refine wpList_stB stA32 rfl rfl g1 rfl (bvs q) rfl (by rw [bvs_length, HL.out]) (bvs_one _) (bvs (zB 32)) rfl i4 ?_; intro wc hc fc zc))
  try simp only [Exit.inBlock, Exit.then]
  refine bodyPost_ret (results_cell stA32 rfl rfl (by rw [bvs_length, HL.out]) hc) rfl ?_
  exact ⟨by rw [HQ.out ()], (F3.trans_nil f4).trans fc (fun i hi => .inr (by simp at hi; omega))⟩
end Go.Proofs.YtlelgeigighecaaDoor
/-
  SHA-256: the reference's Sum.
-/
set_option linter.unusedSimpArgs false
set_option linter.unusedVariables false
set_option linter.unnecessarySimpa false
namespace Go.Proofs.YtlelgeigighecaaDoor
open Go.RowKit

/-- The first k of q, zeros behind: n in all. -/
def plb (q : List UInt8) (k n : Nat) : List UInt8 := q.take k ++ List.replicate (n - k) 0
theorem plb_len (q : List UInt8) (k n : Nat) (hq : q.length = n) (hk : k ≤ n) : (plb q k n).length = n := by
  rw [plb, List.length_append, List.length_take, List.length_replicate]; omega
theorem plb_zero (q : List UInt8) (n : Nat) : plb q 0 n = List.replicate n 0 := by simp [plb]
theorem plb_all (q : List UInt8) (n : Nat) (hq : q.length = n) : plb q n n = q := by
  rw [plb, Nat.sub_self, List.take_of_length_le (by omega), List.replicate_zero, List.append_nil]
theorem plb_set (q : List UInt8) (k n : Nat) (hq : q.length = n) (hk : k < n) : (plb q k n).set k (q.getD k 0) = plb q (k + 1) n := by
  have hl : (q.take k).length = k := by rw [List.length_take]; omega
  have hg : q.getD k 0 = q[k] := by simp [hq, hk]
  rw [hg, plb, plb, show n - k = (n - (k + 1)) + 1 by omega, List.replicate_succ, List.set_append_right _ _ (by omega), hl, Nat.sub_self, List.set_cons_zero, List.take_succ_eq_append_getElem (by omega), List.append_assoc]
  rfl
theorem dig_at (s : S8) : ∀ i, i < 32 → (s.list.flatMap wordB).getD i 0 = UInt8.ofNat ((s.list.getD (i / 4) 0).toNat / 2 ^ (24 - 8 * (i % 4)))
  | 0, _ | 1, _ | 2, _ | 3, _ | 4, _ | 5, _ | 6, _ | 7, _ | 8, _ | 9, _ | 10, _ | 11, _ | 12, _ | 13, _ | 14, _ | 15, _ | 16, _ | 17, _ | 18, _ | 19, _ | 20, _ | 21, _ | 22, _ | 23, _ | 24, _ | 25, _ | 26, _ | 27, _ | 28, _ | 29, _ | 30, _ | 31, _ => by simp [S8.list, wordB]
  | n + 32, h => by omega

def sLen : Value → Nat
  | .slice _ n _ => n
  | _ => 0
set_option maxRecDepth 100000 in
set_option maxHeartbeats 4000000 in
theorem xSum_any (A : Option Addr) (l : List UInt8) (n c : Nat) (w : World) (hn : l.length = n) (hr : Rd w A (bvs l)) (hA : A = none → n = 0) (hN : n ≤ 140737488355200) :
    Calls Tryd.prog 44 #[.slice A n c] w fun e w' => e = .returned (.agg (bvs (shaSum l)).toArray) ∧ Fr [] w w' := by
  have HNN := Lib.hid hn
  have HR := Lib.hid (fun _ : Unit => hr)
  clear hn hr
  go_enter Tryd.func44, Tryd.ntmps44
  go_wp2_with
    (first
      | (refine wpList_alS stA32 (o := ⟨some 2, _, _, _, _, _⟩) rfl rfl ?_; intro w1 h1 f1 z1; have Z1 := Lib.hid z1; clear z1; obtain ⟨g1, hg1⟩ : ∃ g1, w.heap.size = g1 := ⟨_, rfl⟩; rw [hg1] at h1; rw [hg1]; have HG1 := Lib.hid hg1; clear hg1; have hr1 := (HR.out ()).keep_nil f1)
      | (at_builtin; refine wpList_app (o := ⟨some 14, _, _, _, _, _⟩) rfl rfl slB w1.heap.size (.slice (some ⟨w1.heap.size, 0, none⟩) 0 0) 0 [] rfl (Row.new w1 #[] 5 1 0 (0, 0) (free_zero _) (by unfold maxLen; omega) rfl (Nat.le_refl _)) A n c (bvs l) rfl (by rw [bvs_length, HNN.out]; omega) (hr1.alloc _) (bvs_one l) hA (by omega) (by simp) ?_; intro v2 w2 q1 q2 q3 q4)
      | (at_builtin; refine wpList_app (o := ⟨some 16, _, _, _, _, _⟩) rfl rfl slB w1.heap.size _ (0 + n) ([] ++ bvs l) rfl (q1.alloc _) _ 1 1 [_] rfl rfl (Rd.one _ _ _) (by intro u hu; rw [List.mem_singleton.1 hu]; rfl) (fun h => by cases h) (by omega) (by have := q2.size; simp at this; simp; omega) ?_; intro v3 w3 r1 r2 r3 r4))
  have G1 : w.heap.size = g1 := HG1.out
  have F2 : Fr [] w1 w2 := ((Fr.refl [] w1).alloc _).trans q2 (fun i hi => .inr (by rw [own_mem.1 hi]; exact Nat.le_refl _))
  have F3 : Fr [] w1 w3 := (F2.alloc _).trans r2 (fun i hi => .inr ((q1.lt i (mem_own.1 hi)).1))
  obtain ⟨J, hJ⟩ : ∃ J, (119 - n % 64) % 64 = J := ⟨_, rfl⟩
  have hJ2 : ∀ j, j ≤ J → (((n + 1 + j : Nat) : Int) % 64 = 56 ↔ j = J) := fun j hj => by omega
  have hJ3 : J < 64 := by omega
  have HJ := Lib.hid hJ
  have HJ2 := Lib.hid hJ2
  clear hJ hJ2 q1 q2 q3 q4 r2 r3 r4
  rw [show ([] ++ bvs l ++ [Value.int .u8 128]) = bvs (l ++ [128]) by rw [List.nil_append, bvs_append]; rfl, Nat.zero_add] at r1
  obtain ⟨B, hB⟩ : ∃ B, w1.heap.size = B := ⟨_, rfl⟩
  have hBl : B ≤ w1.heap.size := by omega
  rw [hB] at r1
  have HB := Lib.hid hB
  clear hB
  go_loopw [3] (fun v wr => ∃ j : Nat, j ≤ J ∧ Row wr B 5 1 v (n + 1 + j) (bvs (l ++ 128 :: List.replicate j 0)) ∧ Fr [] w1 wr) (fun v _ => J + n + 1 - sLen v)
  case atStart => exact ⟨0, Nat.zero_le _, r1, F3⟩
  case round =>
    clear r1 F3 F2
    obtain ⟨j, hj, r4, F4⟩ := hrel
    obtain ⟨A4, cap4, rfl, -, -, -, -, -⟩ := r4.shape
    by_cases hlt : j < J
    · have d : (((n : Int) + 1 + (j : Int)) % 64 != 56) = true := by
        rw [bne_iff_ne]; intro h; have := (HJ2.out j hj).1 (by omega); omega
      go_wp2_with
        (first
          | (at_builtin; refine wpList_app rfl rfl slB B _ (n + 1 + j) (bvs (l ++ 128 :: List.replicate j 0)) rfl (r4.alloc _) _ 1 1 [_] rfl rfl (Rd.one _ _ _) (by intro u hu; rw [List.mem_singleton.1 hu]; rfl) (fun h => by cases h) (by omega) (by have := F4.size; simp; omega) ?_; intro v5 w5 q1 q2 q3 q4))
      obtain ⟨A5, cap5, rfl, -, -, -, -, -⟩ := q1.shape
      refine ⟨⟨j + 1, by omega, ?_, (F4.alloc _).trans q2 (fun i hi => .inr (by have := (r4.lt i (mem_own.1 hi)).1; have := HB.out; omega))⟩, by simp [sLen]; omega⟩
      rw [show [Value.int .u8 0] = bvs [0] from rfl, ← bvs_append, List.append_assoc, List.cons_append, ← List.replicate_succ'] at q1
      exact q1
    · obtain rfl : j = J := by omega
      have d : (((n : Int) + 1 + (j : Int)) % 64 != 56) = false := by
        rw [bne_eq_false_iff_eq]; have := (HJ2.out j hj).2 rfl; omega
      have U1 : IntKind.u64.wrap (n : Int) = n := by rw [IntKind.wrap_u64]; omega
      have U2 : IntKind.u64.wrap ((n : Int) * 8) = (n : Int) * 8 := by rw [IntKind.wrap_u64]; omega
      go_wp2_with fail
      clear d
      obtain ⟨pad0, hpad⟩ : ∃ p, (128 :: List.replicate j 0 : List UInt8) = p := ⟨_, rfl⟩
      have hlp : pad0.length = 1 + j := by rw [← hpad]; simp; omega
      rw [hpad] at r4
      have HPD := Lib.hid (fun _ : Unit => hpad)
      have HLP := Lib.hid hlp
      clear hpad hlp hlt
      have r4' : Row wr B 5 1 (.slice A4 (n + 1 + j) cap4) (n + 1 + j) (bvs (l ++ (pad0 ++ beK (n * 8) 0))) := by rw [show beK (n * 8) 0 = [] from rfl, List.append_nil]; exact r4
      clear r4
      go_loopw [3, 5] (fun v i wr => ∃ k : Nat, k ≤ 8 ∧ i = .int .i64 k ∧ Row wr B 5 1 v (n + 1 + j + k) (bvs (l ++ (pad0 ++ beK (n * 8) k))) ∧ Fr [] w1 wr) (fun _ i _ => 8 - (intOf i).toNat)
      case atStart => exact ⟨0, Nat.zero_le _, rfl, r4', F4⟩
      case round =>
        clear r4' F4
        obtain ⟨k, hk, rfl, r6, fr⟩ := hrel
        obtain ⟨A6, cap6, rfl, -, -, -, -, -⟩ := r6.shape
        by_cases hlt : k < 8
        · go_wp2_with
            (first
              | (at_builtin; refine wpList_app rfl rfl slB B _ (n + 1 + j + k) (bvs (l ++ (pad0 ++ beK (n * 8) k))) rfl (r6.alloc _) _ 1 1 [_] rfl rfl (Rd.one _ _ _) (by intro u hu; rw [List.mem_singleton.1 hu]; rfl) (fun h => by cases h) (by omega) (by have := fr.size; simp; omega) ?_; intro v7 w7 q1 q2 q3 q4))
          refine ⟨⟨k + 1, by omega, by go_num, ?_, (fr.alloc _).trans q2 (fun i hi => .inr ?_)⟩, by simp [intOf]; omega⟩
          · rw [be_byte2, show ∀ x : UInt8, [bv x] = bvs [x] from fun _ => rfl, ← bvs_append, List.append_assoc, List.append_assoc, ← beK_succ] at q1
            exact q1
          · have := (r6.lt i (mem_own.1 hi)).1; have := HB.out; omega
        · obtain rfl : k = 8 := by omega
          have hpb : pad0 ++ beK (n * 8) 8 = padB l.length := by
            rw [← HPD.out (), beK_all, padB, HNN.out, HJ.out]
          rw [hpb] at r6
          obtain ⟨q, hq⟩ : ∃ q, l ++ padB l.length = q := ⟨_, rfl⟩
          obtain ⟨M, hM⟩ : ∃ M, n + 1 + j + 8 = M := ⟨_, rfl⟩
          have hql : q.length = M := by rw [← hq, ← hpb, List.length_append, List.length_append, HNN.out, HLP.out, beK_len]; omega
          have hM64 : M % 64 = 0 := by have := pad_whole l.length; rw [← hql, ← hq, List.length_append]; exact this
          rw [hq, hM] at r6
          try rw [hM]
          obtain ⟨ga, rfl⟩ : ∃ ga, A6 = some ⟨ga, 0, none⟩ := by
            rcases r6.2 with ⟨e, _⟩ | ⟨g', cap, cur, fz, e, _⟩
            · injection e with e1 e2 e3; omega
            · injection e with e1 e2 e3; exact ⟨g', e1⟩
          obtain ⟨N, hN64⟩ : ∃ N, M = 64 * N := ⟨M / 64, by omega⟩
          have HS := Lib.hid (fun _ : Unit => (show shaSum l = (shaRun first8 q N).list.flatMap wordB by rw [shaSum_eq, hq, hql, hN64, Nat.mul_div_cancel_left _ (by omega)]))
          have HQL := Lib.hid hql
          have HM := Lib.hid hM
          have hMle : M ≤ 140737488355328 := by omega
          clear hpb hq hM hql hM64 HLP HPD U1 U2 hlt
          have i1 := h1.keep_nil fr
          go_wp2_with fail
          refine (xFirst_any _).mono ?_
          rintro e w4 ⟨rfl, f4⟩
          have F4 := fr.trans_nil f4
          have i2 := i1.keep_nil f4
          have r7 := r6.keep_nil f4
          clear i1 r6 fr f4
          go_wp2_with
            (first
              | (refine wpList_alS stW8 (o := ⟨some 6, _, _, _, _, _⟩) rfl rfl ?_; intro w5 h5 f5 z5; have Z5 := Lib.hid z5; clear z5; obtain ⟨g6, hg6⟩ : ∃ g6, w4.heap.size = g6 := ⟨_, rfl⟩; rw [hg6] at h5; rw [hg6]; have HG6 := Lib.hid hg6; clear hg6)
              | (refine wpList_stB stW8 rfl rfl g6 rfl (wvs first8.list) rfl (by rw [wvs_length]; rfl) (wvs_one _) (wvs (zW 8)) rfl h5 ?_; intro w6 h6 f6 z6))
          have g1B : g1 < B := by have := HB.out; have := h1.lt; omega
          have g6B : B ≤ g6 := by have := HG6.out; have := HB.out; have := F4.size; omega
          have F6 : Fr [] w1 w6 := (F4.trans_nil f5).trans f6 (fun i hi => .inr (by simp at hi; have := HB.out; omega))
          have i6 := (i2.keep_nil f5).keep f6 (by simp; omega)
          have r8 := (r7.keep_nil f5).keep f6 (fun i hi hm => by
            have := (r7.lt i hi).2
            have := HG6.out
            simp at hm
            omega)
          have HF1 := Lib.hid f1
          clear i2 r7 f5 f6 h5 F4 f1 h1 hr1 z6
          obtain ⟨rd8, -, -⟩ := r8.rd
          have hg6 := h6.lt
          have gag : ga ≠ g6 := fun e => (r8.ne_blk h6 (by decide)) (by rw [e]; rfl)
          have gal : ga < w6.heap.size := (r8.lt ga rfl).2
          have HRD := Lib.hid (fun _ : Unit => rd8)
          have HI6 := Lib.hid (fun _ : Unit => i6)
          have HR8 := Lib.hid (fun _ : Unit => r8)
          have h6' : Blk w6 g6 103 (wvs (shaRun first8 q 0).list).toArray := h6
          clear h6 rd8 i6 r8
          go_loopw [7] (fun at_ wr => ∃ k : Nat, k ≤ N ∧ at_ = .int .i64 ((64 * k : Nat) : Int) ∧ Blk wr g6 103 (wvs (shaRun first8 q k).list).toArray ∧ Fr [g6] w6 wr) (fun at_ _ => M - (intOf at_).toNat)
          case atStart => exact ⟨0, Nat.zero_le _, rfl, h6', Fr.refl _ _⟩
          case round =>
            clear h6'
            obtain ⟨k, hk, rfl, h7, f7⟩ := hrel
            obtain ⟨z, hz⟩ : ∃ z, 64 * k = z := ⟨_, rfl⟩
            rw [hz]
            obtain ⟨st, hst⟩ : ∃ st, shaRun first8 q k = st := ⟨_, rfl⟩
            rw [hst] at h7
            by_cases hlt : k < N
            · have hzM : z + 64 ≤ M := by omega
              have K1 : (z : Int) < (M : Int) := by omega
              obtain ⟨pc, hpc⟩ : ∃ pc, (q.drop z).take 64 = pc := ⟨_, rfl⟩
              have hpl : pc.length = 64 := by rw [← hpc, List.length_take, List.length_drop, HQL.out]; omega
              have HST := Lib.hid (fun _ : Unit => (show shaRun first8 q (k + 1) = shaBlk st pc by rw [← hst, ← hpc, ← hz]; rfl))
              have HPC := Lib.hid (fun _ : Unit => (show ∀ t, t < 64 → q[z + t]? = some (pc.getD t 0) by
                intro t ht
                have h1 : pc[t]? = q[z + t]? := by rw [← hpc, List.getElem?_take, if_pos ht, List.getElem?_drop]
                rw [← h1]
                simp [hpl, ht]))
              have HPL := Lib.hid hpl
              have HZ := Lib.hid hz
              have HKN := Lib.hid hlt
              clear hst hpc hpl hz hlt hk
              go_wp2_with
                (first
                  | (refine wpList_alS stA64 (o := ⟨some 8, _, _, _, _, _⟩) rfl rfl ?_; intro w9 h9 f9 z9; have Z9 := Lib.hid z9; clear z9; obtain ⟨gp, hgp⟩ : ∃ gp, wr.heap.size = gp := ⟨_, rfl⟩; rw [hgp] at h9; rw [hgp]; have HGP := Lib.hid hgp; clear hgp))
              have gpw : w6.heap.size ≤ gp := by have := HGP.out; have := f7.size; omega
              have g6p : g6 < gp := by omega
              have h8 := h7.keep_nil f9
              have f8 := f7.trans_nil f9
              have h9' : Blk w9 gp 105 (bvs (plb pc 0 64)).toArray := by rw [plb_zero]; exact h9
              have hr9 : ∀ t, t < 64 → w9.cell? ⟨ga, z + t, none⟩ = some (.int .u8 ((pc.getD t 0).toNat : Int)) := fun t ht => by
                obtain ⟨g', o', e', hc⟩ := HRD.out () (by intro h0; have := congrArg List.length h0; rw [bvs_length, HQL.out, List.length_nil] at this; omega)
                cases e'
                have hx := hc (z + t) (bv (pc.getD t 0)) (by rw [bvs, List.getElem?_map, HPC.out () t ht]; rfl)
                rw [Nat.zero_add] at hx
                exact f8.cell (by simpa using gag) hx
              clear h9 h7 f7
              have gap : ga < gp := by omega
              have f8w : Fr [g6] w6 w9 := f8
              go_loopw [9] (fun i wi => ∃ t : Nat, t ≤ 64 ∧ i = .int .i64 t ∧ Blk wi gp 105 (bvs (plb pc t 64)).toArray ∧ Fr [gp] w9 wi) (fun i _ => 64 - (intOf i).toNat)
              case atStart => exact ⟨0, Nat.zero_le _, rfl, h9', Fr.refl _ _⟩
              case round =>
                clear h9'
                obtain ⟨t, ht, rfl, h10, f10⟩ := hrel
                by_cases hlt : t < 64
                · have c1 := f10.cell (p := ⟨ga, z + t, none⟩) (by simp; omega) (hr9 t hlt)
                  have pll := plb_len pc t 64 HPL.out ht
                  have c2 := blkB_at h10 (i := t) (by omega)
                  have z2 := h10.frozen t
                  have hse := plb_set pc t 64 HPL.out hlt
                  obtain ⟨x, hx⟩ : ∃ x, pc.getD t 0 = x := ⟨_, rfl⟩
                  rw [hx] at c1 hse
                  have HSE := Lib.hid hse
                  have K2 : (z : Int) + t < M := by omega
                  clear hse hx pll
                  go_wp2_with fail
                  have h11 := blkB_set h10 t x
                  rw [HSE.out] at h11
                  exact ⟨⟨t + 1, by omega, by go_num, h11, f10.setCell (.inl (by simp)) _⟩, by simp [intOf]; omega⟩
                · obtain rfl : t = 64 := by omega
                  rw [plb_all _ _ HPL.out] at h10
                  have h11 := h8.keep f10 (by simp; omega)
                  have f11 : Fr [g6] w6 _ := f8w.trans f10 (fun i hi => .inr (by simp at hi; omega))
                  go_wp2_with
                    (first
                      | (refine wpList_ldS stW8 rfl rfl g6 0 rfl (wvs st.list) (by rw [wvs_length]; rfl) h11.range0 ?_)
                      | (refine wpList_ldS stA64 rfl rfl gp 0 rfl (bvs pc) (by rw [bvs_length, HPL.out]) h10.range0 ?_))
                  refine (xBlock_any _ st pc HPL.out).mono ?_
                  rintro e w12 ⟨rfl, f12⟩
                  have h12 := h11.keep_nil f12
                  have f13 := f11.trans_nil f12
                  obtain ⟨su, hsu⟩ : ∃ su, shaBlk st pc = su := ⟨_, rfl⟩
                  rw [hsu]
                  have HSU := Lib.hid (fun _ : Unit => hsu)
                  clear hsu
                  go_wp2_with
                    (first
                      | (refine wpList_stB stW8 rfl rfl g6 rfl (wvs su.list) rfl (by rw [wvs_length]; rfl) (wvs_one _) (wvs st.list) (by rw [wvs_length]; rfl) h12 ?_; intro w14 h14 f14 z14))
                  exact ⟨⟨k + 1, by have := HKN.out; omega, by have := HZ.out; congr 1; omega, by rw [HST.out (), HSU.out ()]; exact h14, f13.trans_same f14⟩, by simp [intOf]; omega⟩
            · obtain rfl : k = N := by omega
              have K1 : ¬ ((z : Int) < (M : Int)) := by omega
              have HD := Lib.hid (fun _ : Unit => (show shaSum l = st.list.flatMap wordB by rw [HS.out (), hst]))
              clear hst hlt
              go_wp2_with
                (first
                  | (refine wpList_alS stA32 (o := ⟨some 10, _, _, _, _, _⟩) rfl rfl ?_; intro w9 h9 f9 z9; have Z9 := Lib.hid z9; clear z9; obtain ⟨gp, hgp⟩ : ∃ gp, wr.heap.size = gp := ⟨_, rfl⟩; rw [hgp] at h9; rw [hgp]; have HGP := Lib.hid hgp; clear hgp))
              have gpw : w6.heap.size ≤ gp := by have := HGP.out; have := f7.size; omega
              have h8 := h7.keep_nil f9
              have f8 := f7.trans_nil f9
              obtain ⟨D, hD⟩ : ∃ D, st.list.flatMap wordB = D := ⟨_, rfl⟩
              have hDl : D.length = 32 := by rw [← hD]; rfl
              have HDA := Lib.hid (fun _ : Unit => (show ∀ t, t < 32 → D.getD t 0 = UInt8.ofNat ((st.list.getD (t / 4) 0).toNat / 2 ^ (24 - 8 * (t % 4))) by rw [← hD]; exact dig_at st))
              have HDL := Lib.hid hDl
              have HDD := Lib.hid (fun _ : Unit => hD)
              have h9' : Blk w9 gp 70 (bvs (plb D 0 32)).toArray := by rw [plb_zero]; exact h9
              clear h9 h7 f7 hD hDl hz
              go_loopw [11] (fun i wi => ∃ t : Nat, t ≤ 32 ∧ i = .int .i64 t ∧ Blk wi gp 70 (bvs (plb D t 32)).toArray ∧ Fr [gp] w9 wi) (fun i _ => 32 - (intOf i).toNat)
              case atStart => exact ⟨0, Nat.zero_le _, rfl, h9', Fr.refl _ _⟩
              case round =>
                clear h9'
                obtain ⟨t, ht, rfl, h10, f10⟩ := hrel
                by_cases hlt : t < 32
                · have hx8 : (wvs st.list)[t / 4]? = some (.int .u32 (uw (st.list.getD (t / 4) 0))) := by
                    have : t / 4 < st.list.length := by show t / 4 < 8; omega
                    rw [wvs_at this]; simp [this]
                  have c1 := (h8.keep f10 (by simp; omega)).cell (t / 4)
                  rw [List.getElem?_toArray, hx8] at c1
                  have pll := plb_len D t 32 HDL.out ht
                  have c2 := blkB_at h10 (i := t) (by omega)
                  have z2 := h10.frozen t
                  have hse := plb_set D t 32 HDL.out hlt
                  rw [HDA.out () t hlt] at hse
                  obtain ⟨x, hx⟩ : ∃ x, st.list.getD (t / 4) 0 = x := ⟨_, rfl⟩
                  rw [hx] at c1 hse
                  have HSE := Lib.hid hse
                  clear hse hx pll hx8
                  go_wp2_with fail
                  have h11 := blkB_set h10 t (UInt8.ofNat (x.toNat / 2 ^ (24 - 8 * (t % 4))))
                  rw [HSE.out, ← uw_byte_at, IntKind.wrap_u8] at h11
                  exact ⟨⟨t + 1, by omega, by go_num, h11, f10.setCell (.inl (by simp)) _⟩, by simp [intOf]; omega⟩
                · obtain rfl : t = 32 := by omega
                  rw [plb_all _ _ HDL.out] at h10
                  have i9 := ((HI6.out ()).keep f8 (by simp; omega)).keep f10 (by simp; omega)
                  have F9 : Fr [] w1 _ := (F6.trans f8 (fun i hi => .inr (by simp at hi; have := HB.out; omega))).trans f10 (fun i hi => .inr (by simp at hi; have := F6.size; omega))
                  go_wp2_with
                    (first
                      | (refine wpList_ldS stA32 rfl rfl gp 0 rfl (bvs D) (by rw [bvs_length, HDL.out]) h10.range0 ?_)
                      | (refine wpList_stB stA32 rfl rfl g1 rfl (bvs D) rfl (by rw [bvs_length, HDL.out]) (bvs_one _) (bvs (zB 32)) rfl i9 ?_; intro wc hc fc zc))
                  try simp only [Exit.inBlock, Exit.then]
                  refine bodyPost_ret (results_cell stA32 rfl rfl (by rw [bvs_length, HDL.out]) hc) rfl ?_
                  refine ⟨by rw [HD.out (), HDD.out ()], (HF1.out.trans_nil F9).trans fc (fun i hi => .inr (by simp at hi; omega))⟩
end Go.Proofs.YtlelgeigighecaaDoor
/-
  Layer 13 (record): marks; contracts of block, Mark, ReadMark and their references.
-/
set_option linter.unusedSimpArgs false
set_option linter.unusedVariables false
set_option linter.unnecessarySimpa false
namespace Go.Proofs.YtlelgeigighecaaDoor
open Go.RowKit

def pad512 (q : List UInt8) : List UInt8 := q ++ List.replicate (512 - q.length) 0
theorem pad512_len {q : List UInt8} (h : q.length ≤ 512) : (pad512 q).length = 512 := by rw [pad512, List.length_append, List.length_replicate]; omega
def markM : List UInt8 := [77, 65, 82, 75]
def doneM : List UInt8 := [68, 79, 78, 69]
def planM : List UInt8 := [80, 76, 65, 78]
def markR (n : Nat) : List UInt8 := markM ++ leB 8 n
theorem markR_len (n : Nat) : (markR n).length = 12 := by simp [markR, markM, leB_length]
def markB (n : Nat) : List UInt8 := pad512 (markR n ++ shaSum (markR n))
theorem markB_len (n : Nat) : (markB n).length = 512 := pad512_len (by rw [List.length_append, markR_len, shaSum_length]; omega)

theorem Rd.ofBm {w : World} {g : Nat} {t : TypeId} {l : List UInt8} (hb : Blk w g t (bvs l).toArray) : Rd w (some ⟨g, 0, none⟩) (bvs l) := Rd.of_blk hb 0 _ (fun j u hu => by rw [Nat.zero_add]; simpa using hu)
set_option maxHeartbeats 1000000 in
theorem rcBlock_rcMark1 (w : World) (g:Nat) (q : List UInt8) (hq : q.length ≤ 512) (hc : ∀ w1 p B v, Fr [] w w1 → w.heap.size ≤ p → w.heap.size ≤ B → Wrt w1 p B v 512 false [] → Calls Tryd.prog 73 #[.pointer (some ⟨p, 0, none⟩), .pointer (some ⟨g, 0, none⟩)] w1 fun e w' => e = .returned (.tuple #[]) ∧ WPost w1 w' p B v 512 q) :
    Calls Tryd.prog 74 #[.func (.func 73) #[] #[.pointer (some ⟨g, 0, none⟩)]] w fun e w' => ∃ r, e = .returned r ∧ Row w' w.heap.size 5 1 r 512 (bvs (pad512 q)) ∧ Fr [] w w' := by
  go_enter Tryd.func74, Tryd.ntmps74
  go_wp2_with fail
  have cc := newWriter_any 512 w
  rw [show sizeN 512 = 512 from rfl] at cc
  refine cc.mono ?_
  clear cc
  rintro e w1 ⟨rfl, h1, f1, z1⟩
  go_wp2_with fail
  refine (hc w1 _ _ _ f1 (Nat.le_refl _) (Nat.le_refl _) h1).mono ?_
  rintro e w2 ⟨rfl, v2, h2, f2, g2⟩
  have F2 : Fr [] w w2 := f1.trans f2 (fun i hi => by
    rcases List.mem_cons.1 hi with rfl | hi
    · exact .inr (Nat.le_refl _)
    · exact (own_nil.1 hi).elim)
  go_wp2_with fail
  refine (wDone_ok h2).mono ?_
  rintro e w3 ⟨r, rfl, h3, f3⟩
  go_wp2_with fail
  go_ret
  exact ⟨r, rfl, h3.mono F2.size, F2.trans_nil f3⟩
set_option maxHeartbeats 1000000 in
theorem rcBlock_rcMark2 (w : World) (g d:Nat) (q : List UInt8) (hq : q.length ≤ 512) (hc : ∀ w1 p B v, Fr [] w w1 → w.heap.size ≤ p → w.heap.size ≤ B → Wrt w1 p B v 512 false [] → Calls Tryd.prog 75 #[.pointer (some ⟨p, 0, none⟩), .pointer (some ⟨g, 0, none⟩), .pointer (some ⟨d, 0, none⟩)] w1 fun e w' => e = .returned (.tuple #[]) ∧ WPost w1 w' p B v 512 q) :
    Calls Tryd.prog 74 #[.func (.func 75) #[] #[.pointer (some ⟨g, 0, none⟩), .pointer (some ⟨d, 0, none⟩)]] w fun e w' => ∃ r, e = .returned r ∧ Row w' w.heap.size 5 1 r 512 (bvs (pad512 q)) ∧ Fr [] w w' := by
  go_enter Tryd.func74, Tryd.ntmps74
  go_wp2_with fail
  have cc := newWriter_any 512 w
  rw [show sizeN 512 = 512 from rfl] at cc
  refine cc.mono ?_
  clear cc
  rintro e w1 ⟨rfl, h1, f1, z1⟩
  go_wp2_with fail
  refine (hc w1 _ _ _ f1 (Nat.le_refl _) (Nat.le_refl _) h1).mono ?_
  rintro e w2 ⟨rfl, v2, h2, f2, g2⟩
  have F2 : Fr [] w w2 := f1.trans f2 (fun i hi => by
    rcases List.mem_cons.1 hi with rfl | hi
    · exact .inr (Nat.le_refl _)
    · exact (own_nil.1 hi).elim)
  go_wp2_with fail
  refine (wDone_ok h2).mono ?_
  rintro e w3 ⟨r, rfl, h3, f3⟩
  go_wp2_with fail
  go_ret
  exact ⟨r, rfl, h3.mono F2.size, F2.trans_nil f3⟩
set_option maxHeartbeats 1000000 in
theorem rcBlock_rcSeal1 (w : World) (g d:Nat) (q : List UInt8) (hq : q.length ≤ 512) (hc : ∀ w1 p B v, Fr [] w w1 → w.heap.size ≤ p → w.heap.size ≤ B → Wrt w1 p B v 512 false [] → Calls Tryd.prog 91 #[.pointer (some ⟨p, 0, none⟩), .pointer (some ⟨g, 0, none⟩), .pointer (some ⟨d, 0, none⟩)] w1 fun e w' => e = .returned (.tuple #[]) ∧ WPost w1 w' p B v 512 q) :
    Calls Tryd.prog 74 #[.func (.func 91) #[] #[.pointer (some ⟨g, 0, none⟩), .pointer (some ⟨d, 0, none⟩)]] w fun e w' => ∃ r, e = .returned r ∧ Row w' w.heap.size 5 1 r 512 (bvs (pad512 q)) ∧ Fr [] w w' := by
  go_enter Tryd.func74, Tryd.ntmps74
  go_wp2_with fail
  have cc := newWriter_any 512 w
  rw [show sizeN 512 = 512 from rfl] at cc
  refine cc.mono ?_
  clear cc
  rintro e w1 ⟨rfl, h1, f1, z1⟩
  go_wp2_with fail
  refine (hc w1 _ _ _ f1 (Nat.le_refl _) (Nat.le_refl _) h1).mono ?_
  rintro e w2 ⟨rfl, v2, h2, f2, g2⟩
  have F2 : Fr [] w w2 := f1.trans f2 (fun i hi => by
    rcases List.mem_cons.1 hi with rfl | hi
    · exact .inr (Nat.le_refl _)
    · exact (own_nil.1 hi).elim)
  go_wp2_with fail
  refine (wDone_ok h2).mono ?_
  rintro e w3 ⟨r, rfl, h3, f3⟩
  go_wp2_with fail
  go_ret
  exact ⟨r, rfl, h3.mono F2.size, F2.trans_nil f3⟩
set_option maxHeartbeats 1000000 in
theorem rcBlock_rcplan1 (w : World) (g d t:Nat) (q : List UInt8) (hq : q.length ≤ 512) (hc : ∀ w1 p B v, Fr [] w w1 → w.heap.size ≤ p → w.heap.size ≤ B → Wrt w1 p B v 512 false [] → Calls Tryd.prog 88 #[.pointer (some ⟨p, 0, none⟩), .pointer (some ⟨g, 0, none⟩), .pointer (some ⟨d, 0, none⟩), .pointer (some ⟨t, 0, none⟩)] w1 fun e w' => e = .returned (.tuple #[]) ∧ WPost w1 w' p B v 512 q) :
    Calls Tryd.prog 74 #[.func (.func 88) #[] #[.pointer (some ⟨g, 0, none⟩), .pointer (some ⟨d, 0, none⟩), .pointer (some ⟨t, 0, none⟩)]] w fun e w' => ∃ r, e = .returned r ∧ Row w' w.heap.size 5 1 r 512 (bvs (pad512 q)) ∧ Fr [] w w' := by
  go_enter Tryd.func74, Tryd.ntmps74
  go_wp2_with fail
  have cc := newWriter_any 512 w
  rw [show sizeN 512 = 512 from rfl] at cc
  refine cc.mono ?_
  clear cc
  rintro e w1 ⟨rfl, h1, f1, z1⟩
  go_wp2_with fail
  refine (hc w1 _ _ _ f1 (Nat.le_refl _) (Nat.le_refl _) h1).mono ?_
  rintro e w2 ⟨rfl, v2, h2, f2, g2⟩
  have F2 : Fr [] w w2 := f1.trans f2 (fun i hi => by
    rcases List.mem_cons.1 hi with rfl | hi
    · exact .inr (Nat.le_refl _)
    · exact (own_nil.1 hi).elim)
  go_wp2_with fail
  refine (wDone_ok h2).mono ?_
  rintro e w3 ⟨r, rfl, h3, f3⟩
  go_wp2_with fail
  go_ret
  exact ⟨r, rfl, h3.mono F2.size, F2.trans_nil f3⟩

set_option maxRecDepth 100000 in
set_option maxHeartbeats 1000000 in
theorem rcMark1_ok {w : World} {p B g n : Nat} {v : Value} (h : Wrt w p B v 512 false []) (hn : n < 18446744073709551616) (hb : Blk w g 22 #[.int .u64 (n : Int)]) :
    Calls Tryd.prog 73 #[.pointer (some ⟨p, 0, none⟩), .pointer (some ⟨g, 0, none⟩)] w fun e w' => e = .returned (.tuple #[]) ∧ WPost w w' p B v 512 (markR n) := by
  have kc := fun (w : World) (C : Array Value) (n c : Nat) => Lib.run_convert_bytes_const (P := Tryd.prog) w 28 5 C n c Tryd.underlying28 Tryd.underlying5
  go_enter Tryd.func73, Tryd.ntmps73
  go_wp2_with fail
  have ra := Rd.mark w markM 5 (4, 5)
  have fa : Fr [] w (w.alloc (.cells (bvs markM).toArray 5 (4, 5))) := (Fr.refl _ _).alloc _
  refine (wBytes_ok (h.keep_nil fa) _ 4 4 markM rfl ra (by simp) (fun g o e _ => by cases e; have := h.lt; omega) (by simp)).mono ?_
  rintro e w1 ⟨rfl, x1⟩
  have b1 := x1.blk (h.keep_nil fa) (hb.keep_nil fa) (by decide) (by decide)
  obtain ⟨v1, h1, f1, g1⟩ := WPost.trans (fa.mono (by simp)) (fun g hg => .inl hg) x1
  clear ra fa x1 hb kc
  rw [List.nil_append] at h1
  have c0 := b1.cell 0
  simp at c0
  go_wp2_with fail
  refine (wUint_ok h1 8 n rfl hn (by omega) (by rw [show markM.length = 4 from rfl]; omega)).mono ?_
  rintro e w2 ⟨rfl, x2⟩
  have y2 := WPost.trans f1 g1 x2
  go_wp2_with fail
  go_returns
  exact ⟨rfl, y2⟩

set_option maxRecDepth 100000 in
set_option maxHeartbeats 1000000 in
theorem rcMark2_ok {w : World} {p B g f d n : Nat} {v : Value} {D : List UInt8} (h : Wrt w p B v 512 false []) (hn : n < 18446744073709551616) (hb : Blk w g 22 #[.int .u64 (n : Int)]) (T : TypeId) (hf : Blk w f T #[.func (.func 73) #[] #[.pointer (some ⟨g, 0, none⟩)]]) (hT1 : T ≠ 97) (hT2 : T ≠ 5) (hd : Blk w d 70 (bvs D).toArray) (hD : D.length = 32) :
    Calls Tryd.prog 75 #[.pointer (some ⟨p, 0, none⟩), .pointer (some ⟨f, 0, none⟩), .pointer (some ⟨d, 0, none⟩)] w fun e w' => e = .returned (.tuple #[]) ∧ WPost w w' p B v 512 (markR n ++ D) := by
  have cf := hf.cell 0
  simp at cf
  have HD := Lib.hid hD
  clear hD
  go_enter Tryd.func75, Tryd.ntmps75
  go_wp2_with fail
  refine (rcMark1_ok h hn hb).mono ?_
  rintro e w1 ⟨rfl, x1⟩
  have d1 := x1.blk h hd (by decide) (by decide)
  have hpd : p ≠ d := fun e => (hd.ne_ h.1 (by decide)) e.symm
  obtain ⟨v1, h1, f1, g1⟩ := x1
  go_wp2_with fail
  refine (wBytes_ok h1 _ 32 32 D HD.out (Rd.ofBm d1) (by simp) (fun g o e _ => by cases e; exact hpd.symm) (by rw [markR_len]; omega)).mono ?_
  rintro e w2 ⟨rfl, x2⟩
  have y2 := WPost.trans f1 g1 x2
  go_wp2_with fail
  go_returns
  exact ⟨rfl, y2⟩
end Go.Proofs.YtlelgeigighecaaDoor
/-
  Layer 13 (record): Mark, ReadMark and their references.
-/
set_option linter.unusedSimpArgs false
set_option linter.unusedVariables false
set_option linter.unnecessarySimpa false
namespace Go.Proofs.YtlelgeigighecaaDoor
open Go.RowKit

set_option maxHeartbeats 400000 in
theorem xrcNumber_any (n x : Nat) (w : World) (hn : n ≤ 8) (hx : x < 18446744073709551616) : Calls Tryd.prog 76 #[.int .i64 n, .int .u64 x] w fun e w' => ∃ v, e = .returned v ∧ Row w' w.heap.size 5 1 v n (bvs (leB n x)) ∧ Fr [] w w' := by
  go_enter Tryd.func76, Tryd.ntmps76
  go_wp2_with fail
  go_loopw [5, 6] (fun v i wr => ∃ k : Nat, k ≤ n ∧ i = .int .i64 k ∧ Row wr w.heap.size 5 1 v k (bvs (leB k x)) ∧ Fr [] w wr) (fun _ i _ => n - (intOf i).toNat)
  case atStart => exact ⟨0, Nat.zero_le _, rfl, Row.nil _ _ _ _, Fr.refl _ _⟩
  case round =>
    obtain ⟨k, hk, rfl, r4, F4⟩ := hrel
    obtain ⟨A4, cap4, rfl, -, -, -, -, -⟩ := r4.shape
    by_cases hlt : k < n
    · go_wp2_with
        (first
          | (at_builtin; refine wpList_app rfl rfl slB w.heap.size _ k (bvs (leB k x)) rfl (r4.alloc _) _ 1 1 [_] rfl rfl (Rd.one _ _ _) (by intro u hu; rw [List.mem_singleton.1 hu]; rfl) (fun h => by cases h) (by omega) (by have := F4.size; simp; omega) ?_; intro v5 w5 q1 q2 q3 q4))
      refine ⟨⟨k + 1, by omega, by go_num, ?_, (F4.alloc _).trans q2 (fun i hi => .inr (r4.lt i (mem_own.1 hi)).1)⟩, by simp [intOf]; omega⟩
      rw [leB_byte2, show ∀ x : UInt8, [bv x] = bvs [x] from fun _ => rfl, ← bvs_append, ← leB_succ] at q1
      exact q1
    · obtain rfl : k = n := by omega
      go_wp2_with fail
      go_ret
      exact ⟨_, rfl, r4, F4⟩
set_option maxHeartbeats 400000 in
theorem xrcValue_any (A : Option Addr) (l : List UInt8) (n c : Nat) (w : World) (hn : l.length = n) (hr : Rd w A (bvs l)) (h8 : n ≤ 8) : Calls Tryd.prog 78 #[.slice A n c] w fun e w' => e = .returned (.int .u64 (leN l)) ∧ w = w' := by
  have HL := Lib.hid hn
  clear hn
  go_enter Tryd.func78, Tryd.ntmps78
  go_wp2_with fail
  go_loop [3, 4] (fun x i => ∃ k : Nat, k ≤ n ∧ i = .int .i64 k ∧ x = .int .u64 (leN (l.take k))) (fun _ i => n - (intOf i).toNat)
  case atStart => exact ⟨0, Nat.zero_le _, rfl, rfl⟩
  case round =>
    obtain ⟨k, hk, rfl, rfl⟩ := hrel
    by_cases hlt : k < n
    · have hk' : k < l.length := by rw [HL.out]; exact hlt
      obtain ⟨g, o, rfl, hc⟩ := hr.byte hk'
      have hck := hc k hk'
      have E := Lib.hid (or_byte (leN (l.take k)) l[k].toNat k (leN_take_lt l k) l[k].toNat_lt (by omega))
      have T := Lib.hid (leN_take_succ l k hk')
      clear hc
      go_wp2
      go_round
      case rel => exact ⟨k + 1, by omega, by go_num, by rw [E.out, T.out]⟩
      case measure => simp [intOf]; omega
    · have hk2 : k = n := by omega
      have E : l.take k = l := by rw [hk2, ← HL.out, List.take_length]
      have HE := Lib.hid E
      clear E hk2
      go_wp2
      go_ret
      exact ⟨by rw [HE.out]; rfl, rfl⟩

theorem xrcFill_any {w : World} {B : Nat} {v : Value} {q : List UInt8} {n : Nat} (hn : q.length = n) (h : Row w B 5 1 v n (bvs q)) (hq : n ≤ 512) (hB : B ≤ w.heap.size) :
    Calls Tryd.prog 77 #[v] w fun e w' => ∃ r, e = .returned r ∧ Row w' B 5 1 r 512 (bvs (pad512 q)) ∧ Fr v.ownBlock.toList w w' := by
  obtain ⟨A, cap, rfl, -, -, -, -, -⟩ := h.shape
  have HN := Lib.hid hn
  clear hn
  go_enter Tryd.func77, Tryd.ntmps77
  go_wp2_with (at_builtin; refine wpList_appz rfl rfl slB rfl rfl Tryd.underlying3 B _ n (bvs q) rfl h .i64 (512 - n) _ rfl (by omega) (by omega) hB ?_; intro v2 w2 g1 g2 g3)
  go_ret
  refine ⟨_, rfl, ?_, g2⟩
  rw [show List.replicate (512 - n) (Value.int .u8 0) = bvs (List.replicate (512 - n) 0) by simp [bvs, bv], ← bvs_append, show n + (512 - n) = 512 by omega] at g1
  rw [pad512, HN.out]
  exact g1

theorem wpList_st1 {P : Program} {ops : Array Oper} {rest : List Oper} {o : Oper} {a : Act} {w : World} {Q : Exit → Act → World → Prop} {ty : TypeId} {x y : Operand} (hw : Region.wanted o (yielded ops a.tmps) = true) (ho : o.op = .store ty x y) (hsz : (P.info? ty).map (·.size) = some 1) (g i : Nat) (hx : a.eval x = .pointer (some ⟨g, i, none⟩)) (v : Value) (hy : a.eval y = v) (hv : v.cells = #[v]) (h1 : v.oneCell' = true)
    {old : Value} (hc : w.cell? ⟨g, i, none⟩ = some old) (hz : w.frozen? ⟨g, i, none⟩ = false) (h : wpList P ops Q rest (a.put o.dst undef) (w.setCell ⟨g, i, none⟩ v)) : wpList P ops Q (o :: rest) a w :=
  wpList_want hw fun _ hK => wp_st1 ho hsz g i hx v hy hv h1 hc hz (hK _ _ h)
/-- Mark. -/
def MarkC (w : World) (n : Nat) (e : Ending) (w' : World) : Prop :=
  ∃ v, e = .returned (.tuple #[v, .int .i64 (errG (n != 0) 1)]) ∧ Row w' w.heap.size 5 1 v (if n = 0 then 0 else 512) (bvs (if n = 0 then [] else markB n)) ∧ Fr [] w w'
set_option maxRecDepth 100000 in
set_option maxHeartbeats 4000000 in
theorem rcMark_any (w : World) (n : Nat) (hn : n < 18446744073709551616) (hK : KG w) : Calls Tryd.prog 32 #[.int .u64 n] w (MarkC w n) := by
  by_cases h0 : n = 0
  · subst h0
    go_enter Tryd.func32, Tryd.ntmps32
    go_wp2_with fail
    go_ret2
    exact ⟨_, rfl, Row.nil _ _ _ _, (Fr.refl _ _).alloc _⟩
  · have d : ((n : Int) == 0) = false := by rw [beq_eq_false_iff_ne]; omega
    have H0 := Lib.hid h0
    clear h0
    go_enter Tryd.func32, Tryd.ntmps32
    go_upto_region 3 with fail
    have b1 := Blk.new w 22 #[.int .u64 (n : Int)]
    have F1 : Fr [] w (w.alloc (.cells #[.int .u64 (n : Int)] 22)) := (Fr.refl _ _).alloc _
    have s1 : (w.alloc (.cells #[.int .u64 (n : Int)] 22)).heap.size = w.heap.size + 1 := by simp
    generalize w.alloc (.cells #[.int .u64 (n : Int)] 22) = w1 at *
    obtain ⟨g1, hg1⟩ : ∃ g, w.heap.size = g := ⟨_, rfl⟩
    rw [hg1] at b1 s1 ⊢
    have HS1 := Lib.hid (And.intro hg1 s1)
    clear hg1 s1
    go_upto_region 4 with
      (first
        | (refine wpList_st1 rfl rfl (by kernel_rfl) w1.heap.size 0 rfl (.func (.func 73) #[] #[.pointer (some ⟨g1, 0, none⟩)]) rfl rfl rfl (old := .nilFunc) ((Blk.new w1 94 #[.nilFunc]).cell 0) ((Blk.new w1 94 #[.nilFunc]).frozen 0) ?_))
    have b2 := (Blk.new w1 94 #[.nilFunc]).set_ 0 (.func (.func 73) #[] #[.pointer (some ⟨g1, 0, none⟩)])
    have f2 : Fr [] w1 ((w1.alloc (.cells #[.nilFunc] 94)).setCell ⟨w1.heap.size, 0, none⟩ (.func (.func 73) #[] #[.pointer (some ⟨g1, 0, none⟩)])) := ((Fr.refl _ _).alloc _).setCell (.inr (Nat.le_refl _)) _
    have s2 : ((w1.alloc (.cells #[.nilFunc] 94)).setCell ⟨w1.heap.size, 0, none⟩ (.func (.func 73) #[] #[.pointer (some ⟨g1, 0, none⟩)])).heap.size = w1.heap.size + 1 := by simp [World.setCell]
    generalize (w1.alloc (.cells #[.nilFunc] 94)).setCell ⟨w1.heap.size, 0, none⟩ (.func (.func 73) #[] #[.pointer (some ⟨g1, 0, none⟩)]) = w2 at *
    replace b2 : Blk w2 w1.heap.size 94 #[.func (.func 73) #[] #[.pointer (some ⟨g1, 0, none⟩)]] := b2
    obtain ⟨g2, hg2⟩ : ∃ g, w1.heap.size = g := ⟨_, rfl⟩
    rw [hg2] at b2 s2 ⊢
    have F2 := F1.trans_nil f2
    replace b1 := b1.keep_nil f2
    have HG := Lib.hid (And.intro hg2 s2)
    clear hg2 s2 F1 f2
    have c2 := b2.cell 0
    simp at c2
    go_wp2_with fail
    refine (rcBlock_rcMark1 w2 g1 (markR n) (by rw [markR_len]; omega) (fun wx p B v f _ _ h => rcMark1_ok h hn (b1.keep_nil f))).mono ?_
    rintro e w3 ⟨r, rfl, r3, f3⟩
    have F3 := F2.trans_nil f3
    replace b1 := b1.keep_nil f3
    replace b2 := b2.keep_nil f3
    obtain ⟨A3, cap3, rfl, hc3, -, rd3, -, -⟩ := r3.shape
    have n3 := r3.rd.2.2
    have rd12 : Rd w3 A3 (bvs (markR n)) := by
      have := rd3.take 12
      rw [← bvs_take, pad512, List.take_left' (markR_len n)] at this
      exact this
    have K12 : (12 : Int) ≤ cap3 := by omega
    go_wp2_with fail
    refine (sum_any A3 (markR n) 12 cap3 w3 (markR_len n) rd12 (fun h => absurd (n3 h) (by omega)) (by omega) (hK.keep F3)).mono ?_
    rintro e w4 ⟨rfl, f4⟩
    have F4 := F3.trans_nil f4
    replace b1 := b1.keep_nil f4
    replace b2 := b2.keep_nil f4
    obtain ⟨D, hD⟩ : ∃ D, shaSum (markR n) = D := ⟨_, rfl⟩
    have hdl : D.length = 32 := by rw [← hD, shaSum_length]
    rw [hD]
    have HDD := Lib.hid (fun _ : Unit => hD)
    have HDL := Lib.hid hdl
    clear hD hdl f3 f4 r3 rd3 rd12 F2 F3 c2
    go_wp2_with
      (first
        | (refine wpList_alS stA32 (o := ⟨some 5, _, _, _, _, _⟩) rfl rfl ?_; intro wa ha fa za; have ZA := Lib.hid za; clear za; obtain ⟨g5, hgg⟩ : ∃ g, w4.heap.size = g := ⟨_, rfl⟩; rw [hgg] at ha; rw [hgg]; have HG5 := Lib.hid hgg; clear hgg)
        | (refine wpList_stB stA32 rfl rfl g5 rfl (bvs D) rfl (by rw [bvs_length, HDL.out]) (bvs_one _) (bvs (zB 32)) rfl ha ?_; intro wb hb fb zb; have ZB := Lib.hid zb; clear zb))
    have f5 : Fr [] w4 wb := fa.trans fb (fun i hi => .inr (by have := HG5.out; simp at hi; omega))
    have F5 := F4.trans_nil f5
    replace b1 := b1.keep_nil f5
    replace b2 := b2.keep_nil f5
    refine (rcBlock_rcMark2 wb g2 g5 (markR n ++ D) (by rw [List.length_append, markR_len, HDL.out]; omega) (fun wx p B v f _ _ h => rcMark2_ok h hn (b1.keep_nil f) 94 (b2.keep_nil f) (by decide) (by decide) (hb.keep_nil f) HDL.out)).mono ?_
    rintro e w6 ⟨r, rfl, r6, f6⟩
    obtain ⟨A6, cap6, rfl, -, -, -, -, -⟩ := r6.shape
    go_wp2_with fail
    go_ret2
    have h0 := H0.out
    refine ⟨_, by rw [show (n != 0) = true from by simpa using h0]; rfl, ?_, F5.trans_nil f6⟩
    rw [if_neg h0, if_neg h0, markB, HDD.out ()]
    exact r6.mono F5.size

set_option maxRecDepth 100000 in
set_option maxHeartbeats 4000000 in
theorem xrcMark_any (w : World) (n : Nat) (hn : n < 18446744073709551616) : Calls Tryd.prog 33 #[.int .u64 n] w (MarkC w n) := by
  by_cases h0 : n = 0
  · subst h0
    go_enter Tryd.func33, Tryd.ntmps33
    go_wp2_with fail
    go_ret2
    exact ⟨_, rfl, Row.nil _ _ _ _, Fr.refl _ _⟩
  · have d : ((n : Int) == 0) = false := by rw [beq_eq_false_iff_ne]; omega
    have H0 := Lib.hid h0
    clear h0
    have kc := fun (w : World) (C : Array Value) (n c : Nat) => Lib.run_convert_bytes_const (P := Tryd.prog) w 28 5 C n c Tryd.underlying28 Tryd.underlying5
    have fa : Fr [] w (w.alloc (.cells (bvs markM).toArray 5 (4, 5))) := (Fr.refl _ _).alloc _
    have rm := Row.new w (bvs markM).toArray 5 1 4 (4, 5) (free_end _ _) (by unfold maxLen; omega) rfl (Nat.le_refl _)
    go_enter Tryd.func33, Tryd.ntmps33
    go_wp2_with fail
    refine (xrcNumber_any 8 n _ (by omega) hn).mono ?_
    rintro e w4 ⟨v4, rfl, r4, f4⟩
    obtain ⟨A4, cap4, rfl, -, -, -, -, -⟩ := r4.shape
    have R4 := rm.keep_nil f4
    have F4 := fa.trans_nil f4
    clear rm f4 fa kc
    go_wp2_with
      (first
        | (at_builtin; refine wpList_app rfl rfl slB w.heap.size _ 4 (bvs markM) rfl R4 _ 8 cap4 (bvs (leB 8 n)) rfl (by rw [bvs_length, leB_length]) r4.rd.1 (bvs_one _) r4.rd.2.2 (by omega) F4.size ?_; intro v5 w5 q1 q2 q3 q4))
    have F5 := F4.trans q2 (fun k hk => .inr (R4.lt k (mem_own.1 hk)).1)
    rw [← bvs_append, show 4 + 8 = 12 from rfl, show markM ++ leB 8 n = markR n from rfl] at q1
    obtain ⟨A5, cap5, rfl, -, -, rd5, -, -⟩ := q1.shape
    have R := q1
    have n5 := q1.rd.2.2
    clear R4 r4 F4 q1 q2 q3 q4
    refine (xSum_any A5 (markR n) 12 cap5 w5 (markR_len n) rd5 n5 (by omega)).mono ?_
    rintro e w6 ⟨rfl, f6⟩
    have F6 := F5.trans_nil f6
    replace R := R.keep_nil f6
    obtain ⟨D, hD⟩ : ∃ D, shaSum (markR n) = D := ⟨_, rfl⟩
    have hdl : D.length = 32 := by rw [← hD, shaSum_length]
    rw [hD]
    have HDD := Lib.hid (fun _ : Unit => hD)
    have HDL := Lib.hid hdl
    clear hD hdl f6 F5 rd5 n5
    go_wp2_with
      (first
        | (refine wpList_alS stA32 (o := ⟨some 5, _, _, _, _, _⟩) rfl rfl ?_; intro wa ha fa za; have ZA := Lib.hid za; clear za; obtain ⟨g5, hgg⟩ : ∃ g, w6.heap.size = g := ⟨_, rfl⟩; rw [hgg] at ha; rw [hgg]; have HG5 := Lib.hid hgg; clear hgg)
        | (refine wpList_stB stA32 rfl rfl g5 rfl (bvs D) rfl (by rw [bvs_length, HDL.out]) (bvs_one _) (bvs (zB 32)) rfl ha ?_; intro wb hb fb zb; have ZB := Lib.hid zb; clear zb; have f7 : Fr [] w6 wb := fa.trans fb (fun i hi => .inr (by have := HG5.out; simp at hi; omega)); have F7 := F6.trans_nil f7; have R7 := R.keep_nil f7)
        | (at_builtin; refine wpList_app rfl rfl slB w.heap.size _ 12 (bvs (markR n)) rfl R7 _ 32 32 (bvs D) rfl (by rw [bvs_length, HDL.out]) (Rd.ofBm hb) (bvs_one _) (fun h => by cases h) (by omega) F7.size ?_; intro v8 w8 q1 q2 q3 q4))
    have F8 := F7.trans q2 (fun k hk => .inr (R7.lt k (mem_own.1 hk)).1)
    rw [← bvs_append, show 12 + 32 = 44 from rfl] at q1
    have hl : (markR n ++ D).length = 44 := by rw [List.length_append, markR_len, HDL.out]
    obtain ⟨A8, cap8, rfl, -, -, -, -, -⟩ := q1.shape
    go_wp2_with fail
    refine (xrcFill_any hl q1 (by omega) F8.size).mono ?_
    rintro e w9 ⟨r, rfl, r9, f9⟩
    obtain ⟨A9, cap9, rfl, -, -, -, -, -⟩ := r9.shape
    go_wp2_with fail
    go_ret2
    have h0 := H0.out
    refine ⟨_, by rw [show (n != 0) = true from by simpa using h0]; rfl, ?_, F8.trans f9 (fun k hk => .inr (q1.lt k (mem_own.1 hk)).1)⟩
    rw [if_neg h0, if_neg h0, markB, HDD.out ()]
    exact r9
end Go.Proofs.YtlelgeigighecaaDoor
/-
  Contracts of both Readers at whatever number: one function of what is left tells what comes and what stays.
-/
set_option linter.unusedSimpArgs false
set_option linter.unusedVariables false
set_option linter.unnecessarySimpa false
namespace Go.Proofs.YtlelgeigighecaaDoor
open Go.RowKit

/-- May n bytes be read? -/
def inR (l : List UInt8) (bad : Bool) (n : Int) : Bool := !bad && decide (0 ≤ n) && decide (n ≤ l.length)
theorem inR_true {l : List UInt8} {bad : Bool} {n : Int} (h : inR l bad n = true) : bad = false ∧ ∃ m : Nat, n = m ∧ m ≤ l.length := by
  simp only [inR, Bool.and_eq_true, Bool.not_eq_true', decide_eq_true_eq] at h
  exact ⟨h.1.1, n.toNat, by omega, by omega⟩
theorem inR_false {l : List UInt8} {bad : Bool} {n : Int} (h : inR l bad n = false) : bad = true ∨ n < 0 ∨ (l.length : Int) < n := by
  simp only [inR, Bool.and_eq_false_iff, Bool.not_eq_false', decide_eq_false_iff_not] at h
  rcases h with (h | h) | h
  · exact .inl h
  · exact .inr (.inl (by omega))
  · exact .inr (.inr (by omega))

def stB (l : List UInt8) (bad : Bool) (n : Int) : List UInt8 := if inR l bad n then l.take n.toNat else []
def stL (l : List UInt8) (bad : Bool) (n : Int) : List UInt8 := if inR l bad n then l.drop n.toNat else l
def stUv (l : List UInt8) (bad : Bool) (n : Int) : Nat := if inR l bad n && wide n then leN (l.take n.toNat) else 0
def stUl (l : List UInt8) (bad : Bool) (n : Int) : List UInt8 := if inR l bad n && wide n then l.drop n.toNat else l
def stUb (l : List UInt8) (bad : Bool) (n : Int) : Bool := !(inR l bad n && wide n)
def stZl (l : List UInt8) (bad : Bool) (n : Int) : List UInt8 := if inR l bad n && allZ (l.take n.toNat) then l.drop n.toNat else l
def stZb (l : List UInt8) (bad : Bool) (n : Int) : Bool := !(inR l bad n && allZ (l.take n.toNat))
theorem stUv_lt (l : List UInt8) (bad : Bool) (n : Int) : stUv l bad n < 18446744073709551616 := by
  unfold stUv
  split
  · rename_i h
    simp only [Bool.and_eq_true] at h
    have h8 : n.toNat ≤ 8 := by
      have := h.2
      simp only [wide, Bool.or_eq_true, beq_iff_eq] at this
      omega
    exact Nat.lt_of_lt_of_le (leN_take_lt l _) (Nat.le_trans (Nat.pow_le_pow_right (by omega) h8) (by decide))
  · omega

section
variable {w : World} {p : Nat} {G : List Nat} {l : List UInt8} {bad : Bool}

theorem rUint_any (h : Rdr 108 w p G l bad) (n : Int) :
    Calls Tryd.prog 54 #[.pointer (some ⟨p, 0, none⟩), .int .i64 n] w fun e w' => e = .returned (.int .u64 (stUv l bad n)) ∧ Rdr 108 w' p G (stUl l bad n) (stUb l bad n) ∧ Fr [p] w w' := by
  cases h1 : (inR l bad n && wide n) with
  | true =>
    simp only [Bool.and_eq_true] at h1
    obtain ⟨rfl, m, rfl, hm⟩ := inR_true h1.1
    have e1 : stUv l false m = leN (l.take m) := by simp [stUv, h1.1, h1.2]
    have e2 : stUl l false m = l.drop m := by simp [stUl, h1.1, h1.2]
    have e3 : stUb l false m = false := by simp [stUb, h1.1, h1.2]
    rw [e1, e2, e3]
    exact rUint_ok h m hm h1.2
  | false =>
    have e1 : stUv l bad n = 0 := by simp [stUv, h1]
    have e2 : stUl l bad n = l := by simp [stUl, h1]
    have e3 : stUb l bad n = true := by simp [stUb, h1]
    rw [e1, e2, e3]
    refine rUint_bad h n ?_
    by_cases hw : wide n = true
    · have h2 : inR l bad n = false := by simpa [hw] using h1
      rcases inR_false h2 with h | h | h
      · exact .inl h
      · simp only [wide, Bool.or_eq_true, beq_iff_eq] at hw; omega
      · exact .inr (.inr h)
    · exact .inr (.inl (by simpa using hw))

theorem rBytes_any (h : Rdr 108 w p G l bad) (n : Int) :
    Calls Tryd.prog 52 #[.pointer (some ⟨p, 0, none⟩), .int .i64 n] w fun e w' => ∃ v, e = .returned v ∧ Row w' w.heap.size 5 1 v (stB l bad n).length (bvs (stB l bad n)) ∧ Rdr 108 w' p G (stL l bad n) (!inR l bad n) ∧ Fr [p] w w' := by
  cases h1 : inR l bad n with
  | true =>
    obtain ⟨rfl, m, rfl, hm⟩ := inR_true h1
    have e1 : stB l false m = l.take m := by simp [stB, h1]
    have e2 : stL l false m = l.drop m := by simp [stL, h1]
    rw [e1, e2, show (l.take m).length = m by rw [List.length_take]; omega]
    exact rBytes_ok h m hm
  | false =>
    have e1 : stB l bad n = [] := by simp [stB, h1]
    have e2 : stL l bad n = l := by simp [stL, h1]
    rw [e1, e2]
    exact (rBytes_bad h n (inR_false h1)).mono fun e w' ⟨h1, h2, h3⟩ => ⟨_, h1, Row.nil _ _ _ _, h2, h3⟩

end
end Go.Proofs.YtlelgeigighecaaDoor
/-
  Layer 13 (record): ReadMark and its reference.
-/
set_option linter.unusedSimpArgs false
set_option linter.unusedVariables false
set_option linter.unnecessarySimpa false
namespace Go.Proofs.YtlelgeigighecaaDoor
open Go.RowKit

def numR (l : List UInt8) : Nat := stUv (stL l false 4) (!inR l false 4) 8
theorem numR_lt (l : List UInt8) : numR l < 18446744073709551616 := stUv_lt _ _ _
theorem numR_512 {l : List UInt8} (h : l.length = 512) : numR l = leN ((l.drop 4).take 8) := by
  have h1 : inR l false 4 = true := by simp [inR, h]
  have h2 : stL l false 4 = l.drop 4 := by simp [stL, h1]
  have h3 : inR (l.drop 4) false 8 = true := by simp [inR, h]
  rw [numR, h1, h2, Bool.not_true, stUv, h3]
  simp [wide]
/-- ReadMark. -/
def rmV (l : List UInt8) : Option Nat := if numR l ≠ 0 ∧ l = markB (numR l) then some (numR l) else none
def RmC (w : World) (l : List UInt8) (e : Ending) (w' : World) : Prop :=
  e = .returned (.tuple #[.int .u64 (((rmV l).getD 0 : Nat) : Int), .int .i64 (errG (rmV l).isSome 110)]) ∧ Fr [] w w'

set_option maxRecDepth 100000 in
set_option maxHeartbeats 4000000 in
theorem rcReadMark_any (w : World) (A : Option Addr) (l : List UInt8) (n c : Nat) (hn : l.length = n) (hr : Rd w A (bvs l)) (hA : A = none → n = 0) (hl : n ≤ 140737488355328) (hK : KG w) :
    Calls Tryd.prog 34 #[.slice A n c] w (RmC w l) := by
  have HN := Lib.hid hn
  have hk := numR_lt l
  obtain ⟨k, hkk⟩ : ∃ k, numR l = k := ⟨_, rfl⟩
  have HKK := Lib.hid hkk
  rw [hkk] at hk
  clear hn hkk
  go_enter Tryd.func34, Tryd.ntmps34
  go_wp2_with fail
  refine (newReader_any A l n c w HN.out hr hA hl).mono ?_
  rintro e w1 ⟨p, G, rfl, x1, f1, z1, g1⟩
  go_wp2_with fail
  refine (rBytes_any x1 4).mono ?_
  rintro e w2 ⟨v2, rfl, r2, x2, f2⟩
  have F2 : Fr [] w w2 := f1.trans f2 (fun i hi => .inr (by simp at hi; omega))
  go_wp2_with fail
  have cc := rUint_any x2 8
  rw [show stUv (stL l false 4) (!inR l false 4) 8 = k from HKK.out] at cc
  refine cc.mono ?_
  clear cc
  rintro e w3 ⟨rfl, x3, f3⟩
  have F3 : Fr [] w w3 := F2.trans f3 (fun i hi => .inr (by simp at hi; omega))
  clear x1 x2 x3 f1 f2 f3 r2 F2
  go_wp2_with fail
  refine (rcMark_any w3 k hk (hK.keep F3)).mono ?_
  rintro e w4 ⟨v, rfl, r4, f4⟩
  have F4 := F3.trans_nil f4
  obtain ⟨A4, c4, rfl, -, -, rd4, -, -⟩ := r4.shape
  have n4 := r4.rd.2.2
  by_cases h0 : k = 0
  · have hv : rmV l = none := by rw [rmV, if_neg (by rw [HKK.out]; exact fun h => h.1 h0)]
    have HV := Lib.hid hv
    rw [show (k != 0) = false by rw [h0]; rfl, show errG false 1 = 1 from rfl]
    clear hv
    go_wp2_with fail
    go_ret2
    exact ⟨by rw [HV.out]; rfl, F4⟩
  · simp only [if_neg h0] at rd4
    simp only [if_neg h0] at n4
    rw [show (k != 0) = true by simpa using h0, show errG true 1 = 0 from rfl, if_neg h0]
    obtain ⟨q, hq⟩ : ∃ q, markB k = q := ⟨_, rfl⟩
    have hql : q.length = 512 := by rw [← hq, markB_len]
    rw [hq] at rd4
    have H0 := Lib.hid h0
    have HQ := Lib.hid (fun _ : Unit => hq)
    have HQL := Lib.hid hql
    clear h0 hq hql r4
    have cc := bytesEq_any A A4 l q n c 512 c4 w4 HN.out (hr.keep_nil F4) hA HQL.out rd4 n4
    cases heq : (l == q)
    · have hv : rmV l = none := by
        rw [rmV, if_neg]
        rw [HKK.out, HQ.out ()]
        intro h
        rw [h.2] at heq
        simp at heq
      have HV := Lib.hid hv
      rw [heq] at cc
      clear hv heq
      go_wp2_with fail
      refine cc.mono ?_
      rintro e w5 ⟨rfl, rfl⟩
      go_wp2_with fail
      go_ret2
      exact ⟨by rw [HV.out]; rfl, F4⟩
    · have hv : rmV l = some k := by
        rw [rmV, if_pos, HKK.out]
        rw [HKK.out, HQ.out ()]
        exact ⟨H0.out, eq_of_beq heq⟩
      have HV := Lib.hid hv
      rw [heq] at cc
      clear hv heq
      go_wp2_with fail
      refine cc.mono ?_
      rintro e w5 ⟨rfl, rfl⟩
      go_wp2_with fail
      go_ret2
      exact ⟨by rw [HV.out]; rfl, F4⟩

set_option maxRecDepth 100000 in
set_option maxHeartbeats 4000000 in
theorem xrcReadMark_any (w : World) (A : Option Addr) (l : List UInt8) (n c : Nat) (hn : l.length = n) (hr : Rd w A (bvs l)) (hA : A = none → n = 0) (hc : n ≤ c) :
    Calls Tryd.prog 37 #[.slice A n c] w (RmC w l) := by
  by_cases h512 : n = 512
  · subst h512
    have HN := Lib.hid hn
    have hk := numR_lt l
    have h5 := numR_512 hn
    obtain ⟨k, hkk⟩ : ∃ k, numR l = k := ⟨_, rfl⟩
    have HKK := Lib.hid hkk
    rw [hkk] at hk h5
    obtain ⟨ga, oa, rfl⟩ : ∃ ga oa, A = some ⟨ga, oa, none⟩ := by
      obtain ⟨g', o', e', -⟩ := hr (by intro h0; have := congrArg List.length h0; rw [bvs_length, hn, List.length_nil] at this; omega)
      exact ⟨g', o', e'⟩
    have rdn : Rd w (some ⟨ga, oa + 4, none⟩) (bvs ((l.drop 4).take 8)) := by
      have := (hr.drop 4).take 8
      rw [← bvs_drop, ← bvs_take] at this
      simpa [addr_add] using this
    have K12 : (12 : Int) ≤ c := by omega
    have N4 : ¬ (c = 4) := by omega
    have cv := xrcValue_any (some ⟨ga, oa + 4, none⟩) ((l.drop 4).take 8) 8 (c - 4) w (by rw [List.length_take, List.length_drop, hn]; rfl) rdn (by omega)
    rw [← h5] at cv
    have E0 := Lib.hid (fun (w' : World) (f : Fr [] w w') => strB w' (some ⟨ga, oa, none⟩) l 512 c hn (hr.keep_nil f) hA)
    clear hn hkk h5 rdn
    go_enter Tryd.func37, Tryd.ntmps37
    go_wp2_with fail
    refine cv.mono ?_
    rintro e w1 ⟨rfl, rfl⟩
    clear cv
    go_wp2_with fail
    refine (xrcMark_any w k hk).mono ?_
    rintro e w4 ⟨v, rfl, r4, f4⟩
    obtain ⟨A4, c4, rfl, -, -, -, -, -⟩ := r4.shape
    by_cases h0 : k = 0
    · have hv : rmV l = none := by rw [rmV, if_neg (by rw [HKK.out]; exact fun h => h.1 h0)]
      have HV := Lib.hid hv
      rw [show (k != 0) = false by rw [h0]; rfl, show errG false 1 = 1 from rfl]
      clear hv
      go_wp2_with fail
      go_ret2
      exact ⟨by rw [HV.out]; rfl, f4⟩
    · have E4 := r4.str
      have E5 := E0.out w4 f4
      simp only [if_neg h0] at E4
      rw [show (k != 0) = true by simpa using h0, show errG true 1 = 0 from rfl, if_neg h0]
      obtain ⟨q, hq⟩ : ∃ q, markB k = q := ⟨_, rfl⟩
      rw [hq] at E4
      have H0 := Lib.hid h0
      have HQ := Lib.hid (fun _ : Unit => hq)
      clear h0 hq r4
      by_cases heq : q = l
      · have hv : rmV l = some k := by
          rw [rmV, if_pos, HKK.out]
          rw [HKK.out, HQ.out ()]
          exact ⟨H0.out, heq.symm⟩
        have HV := Lib.hid hv
        rw [heq] at E4
        clear hv heq
        go_wp2_with fail
        go_ret2
        exact ⟨by rw [HV.out]; rfl, f4⟩
      · have hv : rmV l = none := by
          rw [rmV, if_neg]
          rw [HKK.out, HQ.out ()]
          intro h
          exact heq h.2.symm
        have HV := Lib.hid hv
        have hbe : (q == l) = false := by rw [beq_eq_false_iff_ne]; exact heq
        clear hv heq
        go_wp2_with fail
        go_ret2
        exact ⟨by rw [HV.out]; rfl, f4⟩
  · have hv : rmV l = none := by
      rw [rmV, if_neg]
      intro h
      have := congrArg List.length h.2
      rw [markB_len] at this
      omega
    have HV := Lib.hid hv
    have d : ((n : Int) == 512) = false := by rw [beq_eq_false_iff_ne]; omega
    clear hv hn
    go_enter Tryd.func37, Tryd.ntmps37
    go_wp2_with fail
    go_ret2
    exact ⟨by rw [HV.out]; rfl, Fr.refl _ _⟩
end Go.Proofs.YtlelgeigighecaaDoor
