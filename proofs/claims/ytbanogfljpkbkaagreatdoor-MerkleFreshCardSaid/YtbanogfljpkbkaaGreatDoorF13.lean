/-
  Texts of this claim, one behind the other: ShaI, ShaJ, ShaK.
-/
import Derived.Test.YtbanogfljpkbkaaGreatDoorF12
set_option linter.unusedSimpArgs false
set_option linter.unusedVariables false
set_option linter.unnecessarySimpa false
namespace Go.Proofs.YtbanogfljpkbkaaGreatDoor
section
open Go.RowKit
theorem KG.pos {w : World} (h : KG w) : 0 < w.heap.size := World.block_lt_of_cell? w ⟨0, 0 + 0, none⟩ (h 0 _ rfl)
theorem be_byte2 (n j : Nat) : Value.int .u8 ((n : Int) * 8 / 2 ^ j % 256) = bv (UInt8.ofNat (n * 8 / 2 ^ j)) := by
 rw [← u8_of, IntKind.wrap_u8]
 congr 2
theorem blk_out {w : World} {g : Nat} {t : TypeId} {s : S8} {k : Nat} {x : UInt32} (hb : Blk w g t (bvs (outA s k)).toArray) (hk : k < 8) (hx : s.list.getD k 0 = x) {v0 v1 v2 v3 : Value} (h0 : v0 = bv (UInt8.ofNat (x.toNat / 2 ^ 24))) (h1 : v1 = bv (UInt8.ofNat (x.toNat / 2 ^ 16))) (h2 : v2 = bv (UInt8.ofNat (x.toNat / 2 ^ 8))) (h3 : v3 = bv (UInt8.ofNat x.toNat)) :
  Blk ((((w.setCell ⟨g, 4 * k, none⟩ v0).setCell ⟨g, 4 * k + 1, none⟩ v1).setCell ⟨g, 4 * k + 2, none⟩ v2).setCell ⟨g, 4 * k + 3, none⟩ v3) g t (bvs (outA s (k + 1))).toArray := by
 rw [h0, h1, h2, h3, ← outA_set s k hk x hx]
 exact blkB_set (blkB_set (blkB_set (blkB_set hb _ _) _ _) _ _) _ _
theorem pad_row {w : World} {B g m : Nat} (hb : Blk w g 5 (List.replicate m (.int .u8 0)).toArray) (hm : 0 < m) (hmm : m ≤ maxLen) (hB : B ≤ g) :
  Row (w.setCell ⟨g, 0, none⟩ (.int .u8 128)) B 5 1 (.slice (some ⟨g, 0, none⟩) m m) m (bvs (128 :: List.replicate (m - 1) 0)) := by
 refine ⟨by simp [bvs]; omega, .inr ⟨g, m, _, (0, 0), rfl, hB, hb.set_ 0 _, free_zero _, Nat.le_refl _, hmm, by simp, ?_⟩⟩
 obtain ⟨k, rfl⟩ : ∃ k, m = k + 1 := ⟨m - 1, by omega⟩
 rw [List.setIfInBounds_toArray, List.replicate_succ, List.set_cons_zero]
 rw [Nat.add_sub_cancel, Nat.mul_one]
 rw [show bvs (128 :: List.replicate k 0) = .int .u8 128 :: List.replicate k (.int .u8 0) by simp [bvs, bv]]
 rw [List.take_of_length_le (by simp)]
set_option maxRecDepth 100000 in
set_option maxHeartbeats 4000000 in
theorem hSum_any {w : World} {g B : Nat} {v : Value} {l : List UInt8} (h : Hsh w g B v l) (hN : l.length ≤ 140737488355200) (hK : KG w) :
  Calls Tryz.prog 137 #[.pointer (some ⟨g, 0, none⟩)] w fun e w' => e = .returned (.agg (bvs (shaSum l)).toArray) ∧ Fr [] w w' := by
 have p0 := hK.pos
 go_enter Tryz.func137, Tryz.ntmps137
 go_wp2_with
  (first
   | (refine wpList_alS stA32 (o := ⟨some 2, _, _, _, _, _⟩) rfl rfl ?_; intro w1 h1 f1 z1; have Z1 := Lib.hid z1; clear z1; obtain ⟨g1, hg1⟩ : ∃ g1, w.heap.size = g1 := ⟨_, rfl⟩; rw [hg1] at h1; rw [hg1]; have HG1 := Lib.hid hg1; clear hg1)
   | (refine wpList_alS stA32 (o := ⟨some 3, _, _, _, _, _⟩) rfl rfl ?_; intro w2 h2 f2 z2; have Z2 := Lib.hid z2; clear z2; obtain ⟨g2, hg2⟩ : ∃ g2, w1.heap.size = g2 := ⟨_, rfl⟩; rw [hg2] at h2; rw [hg2]; have HG2 := Lib.hid hg2; clear hg2))
 have G1 : w.heap.size = g1 := HG1.out
 have G12 : g1 < g2 := by have := HG2.out; have := h1.lt; omega
 have F2 := f1.trans_nil f2
 refine (hFork_any (h.keep_nil F2)).mono ?_
 rintro e w3 ⟨gf, vf, rfl, hgf, hF, f3⟩
 have F3 := F2.trans_nil f3
 have hlt2 := h2.lt
 have G2f : g2 < gf := by omega
 have i1 := (h1.keep_nil f2).keep_nil f3
 have i2 := h2.keep_nil f3
 obtain ⟨-, c9⟩ := hash_cells (h.keep_nil F3).blk
 obtain ⟨n, hn⟩ : ∃ n, l.length = n := ⟨_, rfl⟩
 rw [hn] at c9 hN
 have HNN := Lib.hid hn
 clear h1 h2 f1 f2 f3 hn F2
 obtain ⟨m, hm⟩ : ∃ m, (119 - n % 64) % 64 + 1 = m := ⟨_, rfl⟩
 have mlt : m ≤ 64 := by omega
 have mpos : 0 < m := by omega
 have hm1 : (119 - (n : Int)) % 64 + 1 = (m : Int) := by omega
 have HM := Lib.hid hm
 clear hm
 have k9 := c9
 go_wp2_with
  (first
   | (at_make; go_loud (refine wpList_mk1 rfl rfl slB rfl .i64 .i64 _ _ m rfl rfl rfl rfl (by omega) ?_; intro w4 b4 r4 f4 z4; have Z4 := Lib.hid z4; clear z4 r4; obtain ⟨gm, hgm⟩ : ∃ gm, w3.heap.size = gm := ⟨_, rfl⟩; rw [hgm] at b4; rw [hgm]; have HGM := Lib.hid hgm; clear hgm; have cm := b4.cell 0; have zm := b4.frozen 0; rw [show (List.replicate m (Value.int .u8 0)).toArray[0]? = some (.int .u8 0) by rw [List.getElem?_toArray, List.getElem?_replicate, if_pos mpos]] at cm)))
 have fx : Fr [] w3 (w4.setCell ⟨gm, 0, none⟩ (.int .u8 128)) := f4.setCell (.inr (by have := HGM.out; dsimp only; omega)) _
 have r5 := pad_row (B := w3.heap.size) b4 mpos (by unfold maxLen; omega) (by have := HGM.out; omega)
 generalize w4.setCell ⟨gm, 0, none⟩ (.int .u8 128) = w5 at *
 have HGX := Lib.hid (show n = l.length from HNN.out.symm)
 clear b4 cm zm f4 c9 hm1
 have U1 : IntKind.u64.wrap (n : Int) = n := by rw [IntKind.wrap_u64]; omega
 have U2 : IntKind.u64.wrap ((n : Int) * 8) = (n : Int) * 8 := by rw [IntKind.wrap_u64]; omega
 obtain ⟨pad0, hpad⟩ : ∃ p, (128 :: List.replicate (m - 1) 0 : List UInt8) = p := ⟨_, rfl⟩
 rw [hpad] at r5
 have HPD := Lib.hid (fun _ : Unit => hpad)
 have hlp : pad0.length = m := by rw [← hpad]; simp; omega
 have HLP := Lib.hid hlp
 clear hpad hlp
 go_loopw [5, 25] (fun v i wr => ∃ k : Nat, k ≤ 8 ∧ i = .int .i64 k ∧ Row wr w3.heap.size 5 1 v (m + k) (bvs (pad0 ++ beK (n * 8) k)) ∧ Fr [] w3 wr) (fun _ i _ => 8 - (intOf i).toNat)
 case atStart => exact ⟨0, Nat.zero_le _, rfl, by rw [show beK (n * 8) 0 = [] from rfl, List.append_nil]; exact r5, fx⟩
 case round =>
  clear r5 fx
  obtain ⟨k, hk, rfl, r6, fr⟩ := hrel
  obtain ⟨A6, cap6, rfl, -, -, rd6, blk6, -⟩ := r6.shape
  have k6 := fr.cell (by simp) k9
  by_cases hlt : k < 8
  ·go_wp2_with
    (first
     | (at_builtin; go_loud (refine wpList_app rfl rfl slB w3.heap.size _ (m + k) (bvs (pad0 ++ beK (n * 8) k)) rfl (r6.alloc _) _ 1 1 [_] rfl rfl (Rd.one _ _ _) (by intro u hu; rw [List.mem_singleton.1 hu]; rfl) (fun h => by cases h) (by omega) (by have := fr.size; simp; omega) ?_; intro v7 w7 q1 q2 q3 q4)))
   refine ⟨⟨k + 1, by omega, by go_num, ?_, (fr.alloc _).trans q2 (fun i hi => .inr ?_)⟩, by simp [intOf]; omega⟩
   ·rw [be_byte2, show ∀ x : UInt8, [bv x] = bvs [x] from fun _ => rfl, ← bvs_append, List.append_assoc, ← beK_succ] at q1
    exact q1
   ·exact (r6.lt i (mem_own.1 hi)).1
  ·obtain rfl : k = 8 := by omega
   have hpb : pad0 ++ beK (n * 8) 8 = padB l.length := by
    rw [← HPD.out (), beK_all, padB, HNN.out]
    have e : m - 1 = (119 - n % 64) % 64 := by have := HM.out; omega
    rw [e]
   rw [hpb] at r6 rd6
   have hpl : (padB l.length).length = m + 8 := by rw [← hpb, List.length_append, HLP.out, beK_len]
   have hF6 := hF.keep_nil fr
   have hK6 := hK.keep (F3.trans_nil fr)
   have hgl := hF.blk.lt
   have cc := hWrite_any hF6 A6 (m + 8) cap6 (padB l.length) hpl rd6 r6.rd.2.2 (fun g' o e _ => by have := (blk6 _ e).1; dsimp only at this; omega) (by rw [HNN.out]; omega) hK6 (by omega) (by omega)
   have HPL := Lib.hid (fun _ : Unit => hpl)
   clear hpb hpl
   go_wp2_with fail
   refine cc.mono ?_
   clear cc
   rintro e w6 ⟨rfl, v6, h6, f6, -⟩
   have n1 : ∀ i, i ≤ g2 → i ∉ gf :: vf.ownBlock.toList := fun i hi hm => by
    rcases List.mem_cons.1 hm with rfl | hm
    ·omega
    ·have := (hF.row.lt i (mem_own.1 hm)).1; omega
   have j1 := (i1.keep_nil fr).keep f6 (n1 _ (by omega))
   have j2 := (i2.keep_nil fr).keep f6 (n1 _ (Nat.le_refl _))
   have F6 : Fr [] w w6 := (F3.trans_nil fr).trans f6 (fun i hi => .inr (by
    rcases List.mem_cons.1 hi with rfl | hm
    ·omega
    ·have := (hF.row.lt i (mem_own.1 hm)).1; omega))
   obtain ⟨st, hst⟩ : ∃ s, shaRun first8 (l ++ padB l.length) ((l ++ padB l.length).length / 64) = s := ⟨_, rfl⟩
   have hb6 := h6.blk
   rw [hst] at hb6
   have rng := hash_rng hb6
   have HST := Lib.hid (fun _ : Unit => (show shaSum l = st.list.flatMap wordB by rw [shaSum_eq, hst]))
   have RNG := Lib.hid (fun _ : Unit => rng)
   clear rng hb6 hst h6 r6 rd6 hF6 hF i1 i2 n1 f6
   rw [show zB 32 = outA st 0 from (outA_zero st).symm] at j2
   go_wp2_with
    (first
     | (refine wpList_ldS stW8 rfl rfl gf 0 rfl (wvs st.list) (by rw [wvs_length]; rfl) (RNG.out ()) ?_))
   go_loopw [50] (fun i wr => ∃ k : Nat, k ≤ 8 ∧ i = .int .i64 k ∧ Blk wr g2 39 (bvs (outA st k)).toArray ∧ Blk wr g1 39 (bvs (zB 32)).toArray ∧ Fr [] w wr) (fun i _ => 8 - (intOf i).toNat)
   case atStart => exact ⟨0, Nat.zero_le _, rfl, j2, j1, F6⟩
   case round =>
    clear j1 j2 F6 RNG
    obtain ⟨k, hk, rfl, j2, j1, F⟩ := hrel
    by_cases hlt : k < 8
    ·have ol := outA_len st k hk
     have c0 := blkB_at j2 (i := 4 * k) (by omega)
     have c1 := blkB_at j2 (i := 4 * k + 1) (by omega)
     have c2 := blkB_at j2 (i := 4 * k + 2) (by omega)
     have c3 := blkB_at j2 (i := 4 * k + 3) (by omega)
     have z0 := j2.frozen (4 * k)
     have z1 := j2.frozen (4 * k + 1)
     have z2 := j2.frozen (4 * k + 2)
     have z3 := j2.frozen (4 * k + 3)
     have ct : (wvs st.list).toArray[k]? = some (.int .u32 (uw (st.list.getD k 0))) := by
      have : k < st.list.length := hlt
      rw [List.getElem?_toArray, wvs_at this]; simp [this]
     obtain ⟨x, hx⟩ : ∃ x, st.list.getD k 0 = x := ⟨_, rfl⟩
     rw [hx] at ct
     have CT := Lib.hid ct
     have HX := Lib.hid hx
     clear hx ct ol
     go_wp2_with
      (first
       | (refine wpList_ix1 (o := ⟨some 53, _, _, _, _, _⟩) Tryz.underlying157 Tryz.underlying156 rfl (by kernel_rfl) rfl rfl (wvs st.list).toArray rfl .i64 k rfl hlt _ CT.out ?_))
     have j3 := blk_out j2 hlt HX.out (v0 := .int .u8 (uw x / 16777216 % 256)) (v1 := .int .u8 (uw x / 65536 % 256)) (v2 := .int .u8 (uw x / 256 % 256)) (v3 := .int .u8 (uw x % 256)) (by rw [← uw_byte_at, IntKind.wrap_u8]; rfl) (by rw [← uw_byte_at, IntKind.wrap_u8]; rfl) (by rw [← uw_byte_at, IntKind.wrap_u8]; rfl) (by rw [← uw_byte_0, IntKind.wrap_u8])
     have fs : Fr [g2] wr _ := ((((Fr.refl [g2] wr).setCell (p := ⟨g2, 4 * k, none⟩) (.inl (by simp)) (.int .u8 (uw x / 16777216 % 256))).setCell (p := ⟨g2, 4 * k + 1, none⟩) (.inl (by simp)) (.int .u8 (uw x / 65536 % 256))).setCell (p := ⟨g2, 4 * k + 2, none⟩) (.inl (by simp)) (.int .u8 (uw x / 256 % 256))).setCell (p := ⟨g2, 4 * k + 3, none⟩) (.inl (by simp)) (.int .u8 (uw x % 256))
     exact ⟨⟨k + 1, by omega, by go_num, j3, j1.keep fs (by simp; omega), F.trans fs (fun i hi => .inr (by simp at hi; omega))⟩, by simp [intOf]; omega⟩
    ·obtain rfl : k = 8 := by omega
     rw [outA_all] at j2
     go_wp2_with
      (first
       | (refine wpList_ldS stA32 rfl rfl g2 0 rfl (bvs (st.list.flatMap wordB)) (by rw [bvs_length]; rfl) j2.range0 ?_)
       | (refine wpList_stB stA32 rfl rfl g1 rfl (bvs (st.list.flatMap wordB)) rfl (by rw [bvs_length]; rfl) (bvs_one _) (bvs (zB 32)) rfl j1 ?_; intro wc hc fc zc))
     try simp only [Exit.inBlock, Exit.then]
     refine bodyPost_ret (results_cell stA32 rfl rfl (by rw [bvs_length]; rfl) hc) rfl ?_
     exact ⟨by rw [HST.out ()], F.trans fc (fun i hi => .inr (by simp at hi; omega))⟩
end
section
open Go.RowKit
set_option maxRecDepth 100000 in
set_option maxHeartbeats 1000000 in
theorem sum_any (A : Option Addr) (l : List UInt8) (n c : Nat) (w : World) (hn : l.length = n) (hr : Rd w A (bvs l)) (hA : A = none → n = 0) (hN : n ≤ 140737488355200) (hK : KG w) :
  Calls Tryz.prog 160 #[.slice A n c] w fun e w' => e = .returned (.agg (bvs (shaSum l)).toArray) ∧ Fr [] w w' := by
 have p0 := hK.pos
 have HN := Lib.hid hn
 clear hn
 go_enter Tryz.func160, Tryz.ntmps160
 go_wp2_with
  (first
   | (refine wpList_alS stA32 (o := ⟨some 2, _, _, _, _, _⟩) rfl rfl ?_; intro w1 h1 f1 z1; have Z1 := Lib.hid z1; clear z1; obtain ⟨g1, hg1⟩ : ∃ g1, w.heap.size = g1 := ⟨_, rfl⟩; rw [hg1] at h1; rw [hg1]; have HG1 := Lib.hid hg1; clear hg1))
 have G1 : w.heap.size = g1 := HG1.out
 refine (newHash_any w1).mono ?_
 rintro e w2 ⟨g, rfl, hg, hh, f2⟩
 have s1 := h1.lt
 have F2 := f1.trans_nil f2
 have i1 := h1.keep_nil f2
 go_wp2_with fail
 have hgl := hh.blk.lt
 have cc := hWrite_any hh A n c l HN.out (hr.keep_nil F2) hA (fun g' o e hne => by
  obtain ⟨g2, o2, e2, h2⟩ := hr.lt (by intro h0; apply hne; simpa [bvs] using h0)
  rw [e] at e2
  cases e2
  have := F2.size
  have := f1.size
  omega) (by simp; omega) (hK.keep F2) (by omega) (by omega)
 refine cc.mono ?_
 clear cc
 rintro e w3 ⟨rfl, v3, h3, f3, -⟩
 rw [List.nil_append] at h3
 have F3 : Fr [] w w3 := F2.trans f3 (fun i hi => .inr (by
  rcases List.mem_cons.1 hi with rfl | hi
  ·have := f1.size; omega
  ·exact absurd hi (by simp [Value.ownBlock])))
 have i3 := i1.keep f3 (fun hi => by
  rcases List.mem_cons.1 hi with rfl | hi
  ·omega
  ·exact absurd hi (by simp [Value.ownBlock]))
 go_wp2_with fail
 refine (hSum_any h3 (by rw [HN.out]; omega) (hK.keep F3)).mono ?_
 rintro e w4 ⟨rfl, f4⟩
 have i4 := i3.keep_nil f4
 have hl := shaSum_length l
 have HL := Lib.hid hl
 clear hl
 obtain ⟨q, hq⟩ : ∃ q, shaSum l = q := ⟨_, rfl⟩
 rw [hq] at HL ⊢
 have HQ := Lib.hid (fun _ : Unit => hq)
 clear hq
 go_wp2_with
  (first
   | (refine wpList_stB stA32 rfl rfl g1 rfl (bvs q) rfl (by rw [bvs_length, HL.out]) (bvs_one _) (bvs (zB 32)) rfl i4 ?_; intro wc hc fc zc))
 try simp only [Exit.inBlock, Exit.then]
 refine bodyPost_ret (results_cell stA32 rfl rfl (by rw [bvs_length, HL.out]) hc) rfl ?_
 exact ⟨by rw [HQ.out ()], (F3.trans_nil f4).trans fc (fun i hi => .inr (by simp at hi; omega))⟩
end
section
open Go.RowKit
def plb (q : List UInt8) (k n : Nat) : List UInt8 := q.take k ++ List.replicate (n - k) 0
theorem plb_len (q : List UInt8) (k n : Nat) (hq : q.length = n) (hk : k ≤ n) : (plb q k n).length = n := by
 rw [plb, List.length_append, List.length_take, List.length_replicate]; omega
theorem plb_zero (q : List UInt8) (n : Nat) : plb q 0 n = List.replicate n 0 := by simp [plb]
theorem plb_all (q : List UInt8) (n : Nat) (hq : q.length = n) : plb q n n = q := by
 rw [plb, Nat.sub_self, List.take_of_length_le (by omega), List.replicate_zero, List.append_nil]
theorem plb_set (q : List UInt8) (k n : Nat) (hq : q.length = n) (hk : k < n) : (plb q k n).set k (q.getD k 0) = plb q (k + 1) n := by
 have hl : (q.take k).length = k := by rw [List.length_take]; omega
 have hg : q.getD k 0 = q[k] := by simp [hq, hk]
 rw [hg, plb, plb, show n - k = (n - (k + 1)) + 1 by omega, List.replicate_succ, List.set_append_right _ _ (by omega), hl, Nat.sub_self, List.set_cons_zero, List.take_succ_eq_append_getElem (by omega), List.append_assoc]
 rfl
theorem dig_at (s : S8) : ∀ i, i < 32 → (s.list.flatMap wordB).getD i 0 = UInt8.ofNat ((s.list.getD (i / 4) 0).toNat / 2 ^ (24 - 8 * (i % 4)))
 | 0, _ | 1, _ | 2, _ | 3, _ | 4, _ | 5, _ | 6, _ | 7, _ | 8, _ | 9, _ | 10, _ | 11, _ | 12, _ | 13, _ | 14, _ | 15, _ | 16, _ | 17, _ | 18, _ | 19, _ | 20, _ | 21, _ | 22, _ | 23, _ | 24, _ | 25, _ | 26, _ | 27, _ | 28, _ | 29, _ | 30, _ | 31, _ => by simp [S8.list, wordB]
 | n + 32, h => by omega
def sLen : Value → Nat
 | .slice _ n _ => n
 | _ => 0
set_option maxRecDepth 100000 in
set_option maxHeartbeats 4000000 in
theorem xSum_any (A : Option Addr) (l : List UInt8) (n c : Nat) (w : World) (hn : l.length = n) (hr : Rd w A (bvs l)) (hA : A = none → n = 0) (hN : n ≤ 140737488355200) :
  Calls Tryz.prog 50 #[.slice A n c] w fun e w' => e = .returned (.agg (bvs (shaSum l)).toArray) ∧ Fr [] w w' := by
 have HNN := Lib.hid hn
 have HR := Lib.hid (fun _ : Unit => hr)
 clear hn hr
 go_enter Tryz.func50, Tryz.ntmps50
 go_wp2_with
  (first
   | (refine wpList_alS stA32 (o := ⟨some 2, _, _, _, _, _⟩) rfl rfl ?_; intro w1 h1 f1 z1; have Z1 := Lib.hid z1; clear z1; obtain ⟨g1, hg1⟩ : ∃ g1, w.heap.size = g1 := ⟨_, rfl⟩; rw [hg1] at h1; rw [hg1]; have HG1 := Lib.hid hg1; clear hg1; have hr1 := (HR.out ()).keep_nil f1)
   | (at_builtin; refine wpList_app (o := ⟨some 14, _, _, _, _, _⟩) rfl rfl slB w1.heap.size (.slice (some ⟨w1.heap.size, 0, none⟩) 0 0) 0 [] rfl (Row.new w1 #[] 5 1 0 (0, 0) (free_zero _) (by unfold maxLen; omega) rfl (Nat.le_refl _)) A n c (bvs l) rfl (by rw [bvs_length, HNN.out]; omega) (hr1.alloc _) (bvs_one l) hA (by omega) (by simp) ?_; intro v2 w2 q1 q2 q3 q4)
   | (at_builtin; refine wpList_app (o := ⟨some 16, _, _, _, _, _⟩) rfl rfl slB w1.heap.size _ (0 + n) ([] ++ bvs l) rfl (q1.alloc _) _ 1 1 [_] rfl rfl (Rd.one _ _ _) (by intro u hu; rw [List.mem_singleton.1 hu]; rfl) (fun h => by cases h) (by omega) (by have := q2.size; simp at this; simp; omega) ?_; intro v3 w3 r1 r2 r3 r4))
 have G1 : w.heap.size = g1 := HG1.out
 have F2 : Fr [] w1 w2 := ((Fr.refl [] w1).alloc _).trans q2 (fun i hi => .inr (by rw [own_mem.1 hi]; exact Nat.le_refl _))
 have F3 : Fr [] w1 w3 := (F2.alloc _).trans r2 (fun i hi => .inr ((q1.lt i (mem_own.1 hi)).1))
 obtain ⟨J, hJ⟩ : ∃ J, (119 - n % 64) % 64 = J := ⟨_, rfl⟩
 have hJ2 : ∀ j, j ≤ J → (((n + 1 + j : Nat) : Int) % 64 = 56 ↔ j = J) := fun j hj => by omega
 have hJ3 : J < 64 := by omega
 have HJ := Lib.hid hJ
 have HJ2 := Lib.hid hJ2
 clear hJ hJ2 q1 q2 q3 q4 r2 r3 r4
 rw [show ([] ++ bvs l ++ [Value.int .u8 128]) = bvs (l ++ [128]) by rw [List.nil_append, bvs_append]; rfl, Nat.zero_add] at r1
 obtain ⟨B, hB⟩ : ∃ B, w1.heap.size = B := ⟨_, rfl⟩
 have hBl : B ≤ w1.heap.size := by omega
 rw [hB] at r1
 have HB := Lib.hid hB
 clear hB
 go_loopw [3] (fun v wr => ∃ j : Nat, j ≤ J ∧ Row wr B 5 1 v (n + 1 + j) (bvs (l ++ 128 :: List.replicate j 0)) ∧ Fr [] w1 wr) (fun v _ => J + n + 1 - sLen v)
 case atStart => exact ⟨0, Nat.zero_le _, r1, F3⟩
 case round =>
  clear r1 F3 F2
  obtain ⟨j, hj, r4, F4⟩ := hrel
  obtain ⟨A4, cap4, rfl, -, -, -, -, -⟩ := r4.shape
  by_cases hlt : j < J
  ·have d : (((n : Int) + 1 + (j : Int)) % 64 != 56) = true := by
    rw [bne_iff_ne]; intro h; have := (HJ2.out j hj).1 (by omega); omega
   go_wp2_with
    (first
     | (at_builtin; refine wpList_app rfl rfl slB B _ (n + 1 + j) (bvs (l ++ 128 :: List.replicate j 0)) rfl (r4.alloc _) _ 1 1 [_] rfl rfl (Rd.one _ _ _) (by intro u hu; rw [List.mem_singleton.1 hu]; rfl) (fun h => by cases h) (by omega) (by have := F4.size; simp; omega) ?_; intro v5 w5 q1 q2 q3 q4))
   obtain ⟨A5, cap5, rfl, -, -, -, -, -⟩ := q1.shape
   refine ⟨⟨j + 1, by omega, ?_, (F4.alloc _).trans q2 (fun i hi => .inr (by have := (r4.lt i (mem_own.1 hi)).1; have := HB.out; omega))⟩, by simp [sLen]; omega⟩
   rw [show [Value.int .u8 0] = bvs [0] from rfl, ← bvs_append, List.append_assoc, List.cons_append, ← List.replicate_succ'] at q1
   exact q1
  ·obtain rfl : j = J := by omega
   have d : (((n : Int) + 1 + (j : Int)) % 64 != 56) = false := by
    rw [bne_eq_false_iff_eq]; have := (HJ2.out j hj).2 rfl; omega
   have U1 : IntKind.u64.wrap (n : Int) = n := by rw [IntKind.wrap_u64]; omega
   have U2 : IntKind.u64.wrap ((n : Int) * 8) = (n : Int) * 8 := by rw [IntKind.wrap_u64]; omega
   go_wp2_with fail
   clear d
   obtain ⟨pad0, hpad⟩ : ∃ p, (128 :: List.replicate j 0 : List UInt8) = p := ⟨_, rfl⟩
   have hlp : pad0.length = 1 + j := by rw [← hpad]; simp; omega
   rw [hpad] at r4
   have HPD := Lib.hid (fun _ : Unit => hpad)
   have HLP := Lib.hid hlp
   clear hpad hlp hlt
   have r4' : Row wr B 5 1 (.slice A4 (n + 1 + j) cap4) (n + 1 + j) (bvs (l ++ (pad0 ++ beK (n * 8) 0))) := by rw [show beK (n * 8) 0 = [] from rfl, List.append_nil]; exact r4
   clear r4
   go_loopw [3, 5] (fun v i wr => ∃ k : Nat, k ≤ 8 ∧ i = .int .i64 k ∧ Row wr B 5 1 v (n + 1 + j + k) (bvs (l ++ (pad0 ++ beK (n * 8) k))) ∧ Fr [] w1 wr) (fun _ i _ => 8 - (intOf i).toNat)
   case atStart => exact ⟨0, Nat.zero_le _, rfl, r4', F4⟩
   case round =>
    clear r4' F4
    obtain ⟨k, hk, rfl, r6, fr⟩ := hrel
    obtain ⟨A6, cap6, rfl, -, -, -, -, -⟩ := r6.shape
    by_cases hlt : k < 8
    ·go_wp2_with
      (first
       | (at_builtin; refine wpList_app rfl rfl slB B _ (n + 1 + j + k) (bvs (l ++ (pad0 ++ beK (n * 8) k))) rfl (r6.alloc _) _ 1 1 [_] rfl rfl (Rd.one _ _ _) (by intro u hu; rw [List.mem_singleton.1 hu]; rfl) (fun h => by cases h) (by omega) (by have := fr.size; simp; omega) ?_; intro v7 w7 q1 q2 q3 q4))
     refine ⟨⟨k + 1, by omega, by go_num, ?_, (fr.alloc _).trans q2 (fun i hi => .inr ?_)⟩, by simp [intOf]; omega⟩
     ·rw [be_byte2, show ∀ x : UInt8, [bv x] = bvs [x] from fun _ => rfl, ← bvs_append, List.append_assoc, List.append_assoc, ← beK_succ] at q1
      exact q1
     ·have := (r6.lt i (mem_own.1 hi)).1; have := HB.out; omega
    ·obtain rfl : k = 8 := by omega
     have hpb : pad0 ++ beK (n * 8) 8 = padB l.length := by
      rw [← HPD.out (), beK_all, padB, HNN.out, HJ.out]
     rw [hpb] at r6
     obtain ⟨q, hq⟩ : ∃ q, l ++ padB l.length = q := ⟨_, rfl⟩
     obtain ⟨M, hM⟩ : ∃ M, n + 1 + j + 8 = M := ⟨_, rfl⟩
     have hql : q.length = M := by rw [← hq, ← hpb, List.length_append, List.length_append, HNN.out, HLP.out, beK_len]; omega
     have hM64 : M % 64 = 0 := by have := pad_whole l.length; rw [← hql, ← hq, List.length_append]; exact this
     rw [hq, hM] at r6
     try rw [hM]
     obtain ⟨ga, rfl⟩ : ∃ ga, A6 = some ⟨ga, 0, none⟩ := by
      rcases r6.2 with ⟨e, _⟩ | ⟨g', cap, cur, fz, e, _⟩
      ·injection e with e1 e2 e3; omega
      ·injection e with e1 e2 e3; exact ⟨g', e1⟩
     obtain ⟨N, hN64⟩ : ∃ N, M = 64 * N := ⟨M / 64, by omega⟩
     have HS := Lib.hid (fun _ : Unit => (show shaSum l = (shaRun first8 q N).list.flatMap wordB by rw [shaSum_eq, hq, hql, hN64, Nat.mul_div_cancel_left _ (by omega)]))
     have HQL := Lib.hid hql
     have HM := Lib.hid hM
     have hMle : M ≤ 140737488355328 := by omega
     clear hpb hq hM hql hM64 HLP HPD U1 U2 hlt
     have i1 := h1.keep_nil fr
     go_wp2_with fail
     refine (xFirst_any _).mono ?_
     rintro e w4 ⟨rfl, f4⟩
     have F4 := fr.trans_nil f4
     have i2 := i1.keep_nil f4
     have r7 := r6.keep_nil f4
     clear i1 r6 fr f4
     go_wp2_with
      (first
       | (refine wpList_alS stW8 (o := ⟨some 6, _, _, _, _, _⟩) rfl rfl ?_; intro w5 h5 f5 z5; have Z5 := Lib.hid z5; clear z5; obtain ⟨g6, hg6⟩ : ∃ g6, w4.heap.size = g6 := ⟨_, rfl⟩; rw [hg6] at h5; rw [hg6]; have HG6 := Lib.hid hg6; clear hg6)
       | (refine wpList_stB stW8 rfl rfl g6 rfl (wvs first8.list) rfl (by rw [wvs_length]; rfl) (wvs_one _) (wvs (zW 8)) rfl h5 ?_; intro w6 h6 f6 z6))
     have g1B : g1 < B := by have := HB.out; have := h1.lt; omega
     have g6B : B ≤ g6 := by have := HG6.out; have := HB.out; have := F4.size; omega
     have F6 : Fr [] w1 w6 := (F4.trans_nil f5).trans f6 (fun i hi => .inr (by simp at hi; have := HB.out; omega))
     have i6 := (i2.keep_nil f5).keep f6 (by simp; omega)
     have r8 := (r7.keep_nil f5).keep f6 (fun i hi hm => by
      have := (r7.lt i hi).2
      have := HG6.out
      simp at hm
      omega)
     have HF1 := Lib.hid f1
     clear i2 r7 f5 f6 h5 F4 f1 h1 hr1 z6
     obtain ⟨rd8, -, -⟩ := r8.rd
     have hg6 := h6.lt
     have gag : ga ≠ g6 := fun e => (r8.ne_blk h6 (by decide)) (by rw [e]; rfl)
     have gal : ga < w6.heap.size := (r8.lt ga rfl).2
     have HRD := Lib.hid (fun _ : Unit => rd8)
     have HI6 := Lib.hid (fun _ : Unit => i6)
     have HR8 := Lib.hid (fun _ : Unit => r8)
     have h6' : Blk w6 g6 157 (wvs (shaRun first8 q 0).list).toArray := h6
     clear h6 rd8 i6 r8
     go_loopw [7] (fun at_ wr => ∃ k : Nat, k ≤ N ∧ at_ = .int .i64 ((64 * k : Nat) : Int) ∧ Blk wr g6 157 (wvs (shaRun first8 q k).list).toArray ∧ Fr [g6] w6 wr) (fun at_ _ => M - (intOf at_).toNat)
     case atStart => exact ⟨0, Nat.zero_le _, rfl, h6', Fr.refl _ _⟩
     case round =>
      clear h6'
      obtain ⟨k, hk, rfl, h7, f7⟩ := hrel
      obtain ⟨z, hz⟩ : ∃ z, 64 * k = z := ⟨_, rfl⟩
      rw [hz]
      obtain ⟨st, hst⟩ : ∃ st, shaRun first8 q k = st := ⟨_, rfl⟩
      rw [hst] at h7
      by_cases hlt : k < N
      ·have hzM : z + 64 ≤ M := by omega
       have K1 : (z : Int) < (M : Int) := by omega
       obtain ⟨pc, hpc⟩ : ∃ pc, (q.drop z).take 64 = pc := ⟨_, rfl⟩
       have hpl : pc.length = 64 := by rw [← hpc, List.length_take, List.length_drop, HQL.out]; omega
       have HST := Lib.hid (fun _ : Unit => (show shaRun first8 q (k + 1) = shaBlk st pc by rw [← hst, ← hpc, ← hz]; rfl))
       have HPC := Lib.hid (fun _ : Unit => (show ∀ t, t < 64 → q[z + t]? = some (pc.getD t 0) by
        intro t ht
        have h1 : pc[t]? = q[z + t]? := by rw [← hpc, List.getElem?_take, if_pos ht, List.getElem?_drop]
        rw [← h1]
        simp [hpl, ht]))
       have HPL := Lib.hid hpl
       have HZ := Lib.hid hz
       have HKN := Lib.hid hlt
       clear hst hpc hpl hz hlt hk
       go_wp2_with
        (first
         | (refine wpList_alS stA64 (o := ⟨some 8, _, _, _, _, _⟩) rfl rfl ?_; intro w9 h9 f9 z9; have Z9 := Lib.hid z9; clear z9; obtain ⟨gp, hgp⟩ : ∃ gp, wr.heap.size = gp := ⟨_, rfl⟩; rw [hgp] at h9; rw [hgp]; have HGP := Lib.hid hgp; clear hgp))
       have gpw : w6.heap.size ≤ gp := by have := HGP.out; have := f7.size; omega
       have g6p : g6 < gp := by omega
       have h8 := h7.keep_nil f9
       have f8 := f7.trans_nil f9
       have h9' : Blk w9 gp 159 (bvs (plb pc 0 64)).toArray := by rw [plb_zero]; exact h9
       have hr9 : ∀ t, t < 64 → w9.cell? ⟨ga, z + t, none⟩ = some (.int .u8 ((pc.getD t 0).toNat : Int)) := fun t ht => by
        obtain ⟨g', o', e', hc⟩ := HRD.out () (by intro h0; have := congrArg List.length h0; rw [bvs_length, HQL.out, List.length_nil] at this; omega)
        cases e'
        have hx := hc (z + t) (bv (pc.getD t 0)) (by rw [bvs, List.getElem?_map, HPC.out () t ht]; rfl)
        rw [Nat.zero_add] at hx
        exact f8.cell (by simpa using gag) hx
       clear h9 h7 f7
       have gap : ga < gp := by omega
       have f8w : Fr [g6] w6 w9 := f8
       go_loopw [9] (fun i wi => ∃ t : Nat, t ≤ 64 ∧ i = .int .i64 t ∧ Blk wi gp 159 (bvs (plb pc t 64)).toArray ∧ Fr [gp] w9 wi) (fun i _ => 64 - (intOf i).toNat)
       case atStart => exact ⟨0, Nat.zero_le _, rfl, h9', Fr.refl _ _⟩
       case round =>
        clear h9'
        obtain ⟨t, ht, rfl, h10, f10⟩ := hrel
        by_cases hlt : t < 64
        ·have c1 := f10.cell (p := ⟨ga, z + t, none⟩) (by simp; omega) (hr9 t hlt)
         have pll := plb_len pc t 64 HPL.out ht
         have c2 := blkB_at h10 (i := t) (by omega)
         have z2 := h10.frozen t
         have hse := plb_set pc t 64 HPL.out hlt
         obtain ⟨x, hx⟩ : ∃ x, pc.getD t 0 = x := ⟨_, rfl⟩
         rw [hx] at c1 hse
         have HSE := Lib.hid hse
         have K2 : (z : Int) + t < M := by omega
         clear hse hx pll
         go_wp2_with fail
         have h11 := blkB_set h10 t x
         rw [HSE.out] at h11
         exact ⟨⟨t + 1, by omega, by go_num, h11, f10.setCell (.inl (by simp)) _⟩, by simp [intOf]; omega⟩
        ·obtain rfl : t = 64 := by omega
         rw [plb_all _ _ HPL.out] at h10
         have h11 := h8.keep f10 (by simp; omega)
         have f11 : Fr [g6] w6 _ := f8w.trans f10 (fun i hi => .inr (by simp at hi; omega))
         go_wp2_with
          (first
           | (refine wpList_ldS stW8 rfl rfl g6 0 rfl (wvs st.list) (by rw [wvs_length]; rfl) h11.range0 ?_)
           | (refine wpList_ldS stA64 rfl rfl gp 0 rfl (bvs pc) (by rw [bvs_length, HPL.out]) h10.range0 ?_))
         refine (xBlock_any _ st pc HPL.out).mono ?_
         rintro e w12 ⟨rfl, f12⟩
         have h12 := h11.keep_nil f12
         have f13 := f11.trans_nil f12
         obtain ⟨su, hsu⟩ : ∃ su, shaBlk st pc = su := ⟨_, rfl⟩
         rw [hsu]
         have HSU := Lib.hid (fun _ : Unit => hsu)
         clear hsu
         go_wp2_with
          (first
           | (refine wpList_stB stW8 rfl rfl g6 rfl (wvs su.list) rfl (by rw [wvs_length]; rfl) (wvs_one _) (wvs st.list) (by rw [wvs_length]; rfl) h12 ?_; intro w14 h14 f14 z14))
         exact ⟨⟨k + 1, by have := HKN.out; omega, by have := HZ.out; congr 1; omega, by rw [HST.out (), HSU.out ()]; exact h14, f13.trans_same f14⟩, by simp [intOf]; omega⟩
      ·obtain rfl : k = N := by omega
       have K1 : ¬ ((z : Int) < (M : Int)) := by omega
       have HD := Lib.hid (fun _ : Unit => (show shaSum l = st.list.flatMap wordB by rw [HS.out (), hst]))
       clear hst hlt
       go_wp2_with
        (first
         | (refine wpList_alS stA32 (o := ⟨some 10, _, _, _, _, _⟩) rfl rfl ?_; intro w9 h9 f9 z9; have Z9 := Lib.hid z9; clear z9; obtain ⟨gp, hgp⟩ : ∃ gp, wr.heap.size = gp := ⟨_, rfl⟩; rw [hgp] at h9; rw [hgp]; have HGP := Lib.hid hgp; clear hgp))
       have gpw : w6.heap.size ≤ gp := by have := HGP.out; have := f7.size; omega
       have h8 := h7.keep_nil f9
       have f8 := f7.trans_nil f9
       obtain ⟨D, hD⟩ : ∃ D, st.list.flatMap wordB = D := ⟨_, rfl⟩
       have hDl : D.length = 32 := by rw [← hD]; rfl
       have HDA := Lib.hid (fun _ : Unit => (show ∀ t, t < 32 → D.getD t 0 = UInt8.ofNat ((st.list.getD (t / 4) 0).toNat / 2 ^ (24 - 8 * (t % 4))) by rw [← hD]; exact dig_at st))
       have HDL := Lib.hid hDl
       have HDD := Lib.hid (fun _ : Unit => hD)
       have h9' : Blk w9 gp 39 (bvs (plb D 0 32)).toArray := by rw [plb_zero]; exact h9
       clear h9 h7 f7 hD hDl hz
       go_loopw [11] (fun i wi => ∃ t : Nat, t ≤ 32 ∧ i = .int .i64 t ∧ Blk wi gp 39 (bvs (plb D t 32)).toArray ∧ Fr [gp] w9 wi) (fun i _ => 32 - (intOf i).toNat)
       case atStart => exact ⟨0, Nat.zero_le _, rfl, h9', Fr.refl _ _⟩
       case round =>
        clear h9'
        obtain ⟨t, ht, rfl, h10, f10⟩ := hrel
        by_cases hlt : t < 32
        ·have hx8 : (wvs st.list)[t / 4]? = some (.int .u32 (uw (st.list.getD (t / 4) 0))) := by
          have : t / 4 < st.list.length := by show t / 4 < 8; omega
          rw [wvs_at this]; simp [this]
         have c1 := (h8.keep f10 (by simp; omega)).cell (t / 4)
         rw [List.getElem?_toArray, hx8] at c1
         have pll := plb_len D t 32 HDL.out ht
         have c2 := blkB_at h10 (i := t) (by omega)
         have z2 := h10.frozen t
         have hse := plb_set D t 32 HDL.out hlt
         rw [HDA.out () t hlt] at hse
         obtain ⟨x, hx⟩ : ∃ x, st.list.getD (t / 4) 0 = x := ⟨_, rfl⟩
         rw [hx] at c1 hse
         have HSE := Lib.hid hse
         clear hse hx pll hx8
         go_wp2_with fail
         have h11 := blkB_set h10 t (UInt8.ofNat (x.toNat / 2 ^ (24 - 8 * (t % 4))))
         rw [HSE.out, ← uw_byte_at, IntKind.wrap_u8] at h11
         exact ⟨⟨t + 1, by omega, by go_num, h11, f10.setCell (.inl (by simp)) _⟩, by simp [intOf]; omega⟩
        ·obtain rfl : t = 32 := by omega
         rw [plb_all _ _ HDL.out] at h10
         have i9 := ((HI6.out ()).keep f8 (by simp; omega)).keep f10 (by simp; omega)
         have F9 : Fr [] w1 _ := (F6.trans f8 (fun i hi => .inr (by simp at hi; have := HB.out; omega))).trans f10 (fun i hi => .inr (by simp at hi; have := F6.size; omega))
         go_wp2_with
          (first
           | (refine wpList_ldS stA32 rfl rfl gp 0 rfl (bvs D) (by rw [bvs_length, HDL.out]) h10.range0 ?_)
           | (refine wpList_stB stA32 rfl rfl g1 rfl (bvs D) rfl (by rw [bvs_length, HDL.out]) (bvs_one _) (bvs (zB 32)) rfl i9 ?_; intro wc hc fc zc))
         try simp only [Exit.inBlock, Exit.then]
         refine bodyPost_ret (results_cell stA32 rfl rfl (by rw [bvs_length, HDL.out]) hc) rfl ?_
         refine ⟨by rw [HD.out (), HDD.out ()], (HF1.out.trans_nil F9).trans fc (fun i hi => .inr (by simp at hi; omega))⟩
end
end Go.Proofs.YtbanogfljpkbkaaGreatDoor
