/-
  Texts of this claim, one behind the other: ShaI, ShaJ, ShaK, RecA, RecB, CodI, RecC.
-/
import Derived.Test.YtamifdfkgbaobaaGreatDoorM9
/-
  SHA-256: Sum of a Hash.
-/
set_option linter.unusedSimpArgs false
set_option linter.unusedVariables false
set_option linter.unnecessarySimpa false
namespace Go.Proofs.YtamifdfkgbaobaaGreatDoor
open Go.RowKit

theorem KG.pos {w : World} (h : KG w) : 0 < w.heap.size := World.block_lt_of_cell? w ⟨0, 0 + 0, none⟩ (h 0 _ rfl)
theorem be_byte2 (n j : Nat) : Value.int .u8 ((n : Int) * 8 / 2 ^ j % 256) = bv (UInt8.ofNat (n * 8 / 2 ^ j)) := by
  rw [← u8_of, IntKind.wrap_u8]
  congr 2
theorem blk_out {w : World} {g : Nat} {t : TypeId} {s : S8} {k : Nat} {x : UInt32} (hb : Blk w g t (bvs (outA s k)).toArray) (hk : k < 8) (hx : s.list.getD k 0 = x) {v0 v1 v2 v3 : Value} (h0 : v0 = bv (UInt8.ofNat (x.toNat / 2 ^ 24))) (h1 : v1 = bv (UInt8.ofNat (x.toNat / 2 ^ 16))) (h2 : v2 = bv (UInt8.ofNat (x.toNat / 2 ^ 8))) (h3 : v3 = bv (UInt8.ofNat x.toNat)) :
    Blk ((((w.setCell ⟨g, 4 * k, none⟩ v0).setCell ⟨g, 4 * k + 1, none⟩ v1).setCell ⟨g, 4 * k + 2, none⟩ v2).setCell ⟨g, 4 * k + 3, none⟩ v3) g t (bvs (outA s (k + 1))).toArray := by
  rw [h0, h1, h2, h3, ← outA_set s k hk x hx]
  exact blkB_set (blkB_set (blkB_set (blkB_set hb _ _) _ _) _ _) _ _
theorem pad_row {w : World} {B g m : Nat} (hb : Blk w g 5 (List.replicate m (.int .u8 0)).toArray) (hm : 0 < m) (hmm : m ≤ maxLen) (hB : B ≤ g) :
    Row (w.setCell ⟨g, 0, none⟩ (.int .u8 128)) B 5 1 (.slice (some ⟨g, 0, none⟩) m m) m (bvs (128 :: List.replicate (m - 1) 0)) := by
  refine ⟨by simp [bvs]; omega, .inr ⟨g, m, _, (0, 0), rfl, hB, hb.set_ 0 _, free_zero _, Nat.le_refl _, hmm, by simp, ?_⟩⟩
  obtain ⟨k, rfl⟩ : ∃ k, m = k + 1 := ⟨m - 1, by omega⟩
  rw [List.setIfInBounds_toArray, List.replicate_succ, List.set_cons_zero]
  rw [Nat.add_sub_cancel, Nat.mul_one]
  rw [show bvs (128 :: List.replicate k 0) = .int .u8 128 :: List.replicate k (.int .u8 0) by simp [bvs, bv]]
  rw [List.take_of_length_le (by simp)]

set_option maxRecDepth 100000 in
set_option maxHeartbeats 4000000 in
theorem hSum_any {w : World} {g B : Nat} {v : Value} {l : List UInt8} (h : Hsh w g B v l) (hN : l.length ≤ 140737488355200) (hK : KG w) :
    Calls Tryz.prog 93 #[.pointer (some ⟨g, 0, none⟩)] w fun e w' => e = .returned (.agg (bvs (shaSum l)).toArray) ∧ Fr [] w w' := by
  have p0 := hK.pos
  go_enter Tryz.func93, Tryz.ntmps93
  go_wp2_with
    (first
      | (refine wpList_alS stA32 (o := ⟨some 2, _, _, _, _, _⟩) rfl rfl ?_; intro w1 h1 f1 z1; have Z1 := Lib.hid z1; clear z1; obtain ⟨g1, hg1⟩ : ∃ g1, w.heap.size = g1 := ⟨_, rfl⟩; rw [hg1] at h1; rw [hg1]; have HG1 := Lib.hid hg1; clear hg1)
      | (refine wpList_alS stA32 (o := ⟨some 3, _, _, _, _, _⟩) rfl rfl ?_; intro w2 h2 f2 z2; have Z2 := Lib.hid z2; clear z2; obtain ⟨g2, hg2⟩ : ∃ g2, w1.heap.size = g2 := ⟨_, rfl⟩; rw [hg2] at h2; rw [hg2]; have HG2 := Lib.hid hg2; clear hg2))
  have G1 : w.heap.size = g1 := HG1.out
  have G12 : g1 < g2 := by have := HG2.out; have := h1.lt; omega
  have F2 := f1.trans_nil f2
  refine (hFork_any (h.keep_nil F2)).mono ?_
  rintro e w3 ⟨gf, vf, rfl, hgf, hF, f3⟩
  have F3 := F2.trans_nil f3
  have hlt2 := h2.lt
  have G2f : g2 < gf := by omega
  have i1 := (h1.keep_nil f2).keep_nil f3
  have i2 := h2.keep_nil f3
  obtain ⟨-, c9⟩ := hash_cells (h.keep_nil F3).blk
  obtain ⟨n, hn⟩ : ∃ n, l.length = n := ⟨_, rfl⟩
  rw [hn] at c9 hN
  have HNN := Lib.hid hn
  clear h1 h2 f1 f2 f3 hn F2
  obtain ⟨m, hm⟩ : ∃ m, (119 - n % 64) % 64 + 1 = m := ⟨_, rfl⟩
  have mlt : m ≤ 64 := by omega
  have mpos : 0 < m := by omega
  have hm1 : (119 - (n : Int)) % 64 + 1 = (m : Int) := by omega
  have HM := Lib.hid hm
  clear hm
  have k9 := c9
  go_wp2_with
    (first
      | (at_make; go_loud (refine wpList_mk1 rfl rfl slB rfl .i64 .i64 _ _ m rfl rfl rfl rfl (by omega) ?_; intro w4 b4 r4 f4 z4; have Z4 := Lib.hid z4; clear z4 r4; obtain ⟨gm, hgm⟩ : ∃ gm, w3.heap.size = gm := ⟨_, rfl⟩; rw [hgm] at b4; rw [hgm]; have HGM := Lib.hid hgm; clear hgm; have cm := b4.cell 0; have zm := b4.frozen 0; rw [show (List.replicate m (Value.int .u8 0)).toArray[0]? = some (.int .u8 0) by rw [List.getElem?_toArray, List.getElem?_replicate, if_pos mpos]] at cm)))
  have fx : Fr [] w3 (w4.setCell ⟨gm, 0, none⟩ (.int .u8 128)) := f4.setCell (.inr (by have := HGM.out; dsimp only; omega)) _
  have r5 := pad_row (B := w3.heap.size) b4 mpos (by unfold maxLen; omega) (by have := HGM.out; omega)
  generalize w4.setCell ⟨gm, 0, none⟩ (.int .u8 128) = w5 at *
  have HGX := Lib.hid (show n = l.length from HNN.out.symm)
  clear b4 cm zm f4 c9 hm1
  have U1 : IntKind.u64.wrap (n : Int) = n := by rw [IntKind.wrap_u64]; omega
  have U2 : IntKind.u64.wrap ((n : Int) * 8) = (n : Int) * 8 := by rw [IntKind.wrap_u64]; omega
  obtain ⟨pad0, hpad⟩ : ∃ p, (128 :: List.replicate (m - 1) 0 : List UInt8) = p := ⟨_, rfl⟩
  rw [hpad] at r5
  have HPD := Lib.hid (fun _ : Unit => hpad)
  have hlp : pad0.length = m := by rw [← hpad]; simp; omega
  have HLP := Lib.hid hlp
  clear hpad hlp
  go_loopw [5, 25] (fun v i wr => ∃ k : Nat, k ≤ 8 ∧ i = .int .i64 k ∧ Row wr w3.heap.size 5 1 v (m + k) (bvs (pad0 ++ beK (n * 8) k)) ∧ Fr [] w3 wr) (fun _ i _ => 8 - (intOf i).toNat)
  case atStart => exact ⟨0, Nat.zero_le _, rfl, by rw [show beK (n * 8) 0 = [] from rfl, List.append_nil]; exact r5, fx⟩
  case round =>
    clear r5 fx
    obtain ⟨k, hk, rfl, r6, fr⟩ := hrel
    obtain ⟨A6, cap6, rfl, -, -, rd6, blk6, -⟩ := r6.shape
    have k6 := fr.cell (by simp) k9
    by_cases hlt : k < 8
    · go_wp2_with
        (first
          | (at_builtin; go_loud (refine wpList_app rfl rfl slB w3.heap.size _ (m + k) (bvs (pad0 ++ beK (n * 8) k)) rfl (r6.alloc _) _ 1 1 [_] rfl rfl (Rd.one _ _ _) (by intro u hu; rw [List.mem_singleton.1 hu]; rfl) (fun h => by cases h) (by omega) (by have := fr.size; simp; omega) ?_; intro v7 w7 q1 q2 q3 q4)))
      refine ⟨⟨k + 1, by omega, by go_num, ?_, (fr.alloc _).trans q2 (fun i hi => .inr ?_)⟩, by simp [intOf]; omega⟩
      · rw [be_byte2, show ∀ x : UInt8, [bv x] = bvs [x] from fun _ => rfl, ← bvs_append, List.append_assoc, ← beK_succ] at q1
        exact q1
      · exact (r6.lt i (mem_own.1 hi)).1
    · obtain rfl : k = 8 := by omega
      have hpb : pad0 ++ beK (n * 8) 8 = padB l.length := by
        rw [← HPD.out (), beK_all, padB, HNN.out]
        have e : m - 1 = (119 - n % 64) % 64 := by have := HM.out; omega
        rw [e]
      rw [hpb] at r6 rd6
      have hpl : (padB l.length).length = m + 8 := by rw [← hpb, List.length_append, HLP.out, beK_len]
      have hF6 := hF.keep_nil fr
      have hK6 := hK.keep (F3.trans_nil fr)
      have hgl := hF.blk.lt
      have cc := hWrite_any hF6 A6 (m + 8) cap6 (padB l.length) hpl rd6 r6.rd.2.2 (fun g' o e _ => by have := (blk6 _ e).1; dsimp only at this; omega) (by rw [HNN.out]; omega) hK6 (by omega) (by omega)
      have HPL := Lib.hid (fun _ : Unit => hpl)
      clear hpb hpl
      go_wp2_with fail
      refine cc.mono ?_
      clear cc
      rintro e w6 ⟨rfl, v6, h6, f6, -⟩
      have n1 : ∀ i, i ≤ g2 → i ∉ gf :: vf.ownBlock.toList := fun i hi hm => by
        rcases List.mem_cons.1 hm with rfl | hm
        · omega
        · have := (hF.row.lt i (mem_own.1 hm)).1; omega
      have j1 := (i1.keep_nil fr).keep f6 (n1 _ (by omega))
      have j2 := (i2.keep_nil fr).keep f6 (n1 _ (Nat.le_refl _))
      have F6 : Fr [] w w6 := (F3.trans_nil fr).trans f6 (fun i hi => .inr (by
        rcases List.mem_cons.1 hi with rfl | hm
        · omega
        · have := (hF.row.lt i (mem_own.1 hm)).1; omega))
      obtain ⟨st, hst⟩ : ∃ s, shaRun first8 (l ++ padB l.length) ((l ++ padB l.length).length / 64) = s := ⟨_, rfl⟩
      have hb6 := h6.blk
      rw [hst] at hb6
      have rng := hash_rng hb6
      have HST := Lib.hid (fun _ : Unit => (show shaSum l = st.list.flatMap wordB by rw [shaSum_eq, hst]))
      have RNG := Lib.hid (fun _ : Unit => rng)
      clear rng hb6 hst h6 r6 rd6 hF6 hF i1 i2 n1 f6
      rw [show zB 32 = outA st 0 from (outA_zero st).symm] at j2
      go_wp2_with
        (first
          | (refine wpList_ldS stW8 rfl rfl gf 0 rfl (wvs st.list) (by rw [wvs_length]; rfl) (RNG.out ()) ?_))
      go_loopw [50] (fun i wr => ∃ k : Nat, k ≤ 8 ∧ i = .int .i64 k ∧ Blk wr g2 104 (bvs (outA st k)).toArray ∧ Blk wr g1 104 (bvs (zB 32)).toArray ∧ Fr [] w wr) (fun i _ => 8 - (intOf i).toNat)
      case atStart => exact ⟨0, Nat.zero_le _, rfl, j2, j1, F6⟩
      case round =>
        clear j1 j2 F6 RNG
        obtain ⟨k, hk, rfl, j2, j1, F⟩ := hrel
        by_cases hlt : k < 8
        · have ol := outA_len st k hk
          have c0 := blkB_at j2 (i := 4 * k) (by omega)
          have c1 := blkB_at j2 (i := 4 * k + 1) (by omega)
          have c2 := blkB_at j2 (i := 4 * k + 2) (by omega)
          have c3 := blkB_at j2 (i := 4 * k + 3) (by omega)
          have z0 := j2.frozen (4 * k)
          have z1 := j2.frozen (4 * k + 1)
          have z2 := j2.frozen (4 * k + 2)
          have z3 := j2.frozen (4 * k + 3)
          have ct : (wvs st.list).toArray[k]? = some (.int .u32 (uw (st.list.getD k 0))) := by
            have : k < st.list.length := hlt
            rw [List.getElem?_toArray, wvs_at this]; simp [this]
          obtain ⟨x, hx⟩ : ∃ x, st.list.getD k 0 = x := ⟨_, rfl⟩
          rw [hx] at ct
          have CT := Lib.hid ct
          have HX := Lib.hid hx
          clear hx ct ol
          go_wp2_with
            (first
              | (refine wpList_ix1 (o := ⟨some 53, _, _, _, _, _⟩) Tryz.underlying139 Tryz.underlying138 rfl (by kernel_rfl) rfl rfl (wvs st.list).toArray rfl .i64 k rfl hlt _ CT.out ?_))
          have j3 := blk_out j2 hlt HX.out (v0 := .int .u8 (uw x / 16777216 % 256)) (v1 := .int .u8 (uw x / 65536 % 256)) (v2 := .int .u8 (uw x / 256 % 256)) (v3 := .int .u8 (uw x % 256)) (by rw [← uw_byte_at, IntKind.wrap_u8]; rfl) (by rw [← uw_byte_at, IntKind.wrap_u8]; rfl) (by rw [← uw_byte_at, IntKind.wrap_u8]; rfl) (by rw [← uw_byte_0, IntKind.wrap_u8])
          have fs : Fr [g2] wr _ := ((((Fr.refl [g2] wr).setCell (p := ⟨g2, 4 * k, none⟩) (.inl (by simp)) (.int .u8 (uw x / 16777216 % 256))).setCell (p := ⟨g2, 4 * k + 1, none⟩) (.inl (by simp)) (.int .u8 (uw x / 65536 % 256))).setCell (p := ⟨g2, 4 * k + 2, none⟩) (.inl (by simp)) (.int .u8 (uw x / 256 % 256))).setCell (p := ⟨g2, 4 * k + 3, none⟩) (.inl (by simp)) (.int .u8 (uw x % 256))
          exact ⟨⟨k + 1, by omega, by go_num, j3, j1.keep fs (by simp; omega), F.trans fs (fun i hi => .inr (by simp at hi; omega))⟩, by simp [intOf]; omega⟩
        · obtain rfl : k = 8 := by omega
          rw [outA_all] at j2
          go_wp2_with
            (first
              | (refine wpList_ldS stA32 rfl rfl g2 0 rfl (bvs (st.list.flatMap wordB)) (by rw [bvs_length]; rfl) j2.range0 ?_)
              | (refine wpList_stB stA32 rfl rfl g1 rfl (bvs (st.list.flatMap wordB)) rfl (by rw [bvs_length]; rfl) (bvs_one _) (bvs (zB 32)) rfl j1 ?_; intro wc hc fc zc))
          try simp only [Exit.inBlock, Exit.then]
          refine bodyPost_ret (results_cell stA32 rfl rfl (by rw [bvs_length]; rfl) hc) rfl ?_
          exact ⟨by rw [HST.out ()], F.trans fc (fun i hi => .inr (by simp at hi; omega))⟩
end Go.Proofs.YtamifdfkgbaobaaGreatDoor
/-
  SHA-256: Sum and its reference.
-/
set_option linter.unusedSimpArgs false
set_option linter.unusedVariables false
set_option linter.unnecessarySimpa false
namespace Go.Proofs.YtamifdfkgbaobaaGreatDoor
open Go.RowKit

set_option maxRecDepth 100000 in
set_option maxHeartbeats 1000000 in
theorem sum_any (A : Option Addr) (l : List UInt8) (n c : Nat) (w : World) (hn : l.length = n) (hr : Rd w A (bvs l)) (hA : A = none → n = 0) (hN : n ≤ 140737488355200) (hK : KG w) :
    Calls Tryz.prog 73 #[.slice A n c] w fun e w' => e = .returned (.agg (bvs (shaSum l)).toArray) ∧ Fr [] w w' := by
  have p0 := hK.pos
  have HN := Lib.hid hn
  clear hn
  go_enter Tryz.func73, Tryz.ntmps73
  go_wp2_with
    (first
      | (refine wpList_alS stA32 (o := ⟨some 2, _, _, _, _, _⟩) rfl rfl ?_; intro w1 h1 f1 z1; have Z1 := Lib.hid z1; clear z1; obtain ⟨g1, hg1⟩ : ∃ g1, w.heap.size = g1 := ⟨_, rfl⟩; rw [hg1] at h1; rw [hg1]; have HG1 := Lib.hid hg1; clear hg1))
  have G1 : w.heap.size = g1 := HG1.out
  refine (newHash_any w1).mono ?_
  rintro e w2 ⟨g, rfl, hg, hh, f2⟩
  have s1 := h1.lt
  have F2 := f1.trans_nil f2
  have i1 := h1.keep_nil f2
  go_wp2_with fail
  have hgl := hh.blk.lt
  have cc := hWrite_any hh A n c l HN.out (hr.keep_nil F2) hA (fun g' o e hne => by
    obtain ⟨g2, o2, e2, h2⟩ := hr.lt (by intro h0; apply hne; simpa [bvs] using h0)
    rw [e] at e2
    cases e2
    have := F2.size
    have := f1.size
    omega) (by simp; omega) (hK.keep F2) (by omega) (by omega)
  refine cc.mono ?_
  clear cc
  rintro e w3 ⟨rfl, v3, h3, f3, -⟩
  rw [List.nil_append] at h3
  have F3 : Fr [] w w3 := F2.trans f3 (fun i hi => .inr (by
    rcases List.mem_cons.1 hi with rfl | hi
    · have := f1.size; omega
    · exact absurd hi (by simp [Value.ownBlock])))
  have i3 := i1.keep f3 (fun hi => by
    rcases List.mem_cons.1 hi with rfl | hi
    · omega
    · exact absurd hi (by simp [Value.ownBlock]))
  go_wp2_with fail
  refine (hSum_any h3 (by rw [HN.out]; omega) (hK.keep F3)).mono ?_
  rintro e w4 ⟨rfl, f4⟩
  have i4 := i3.keep_nil f4
  have hl := shaSum_length l
  have HL := Lib.hid hl
  clear hl
  obtain ⟨q, hq⟩ : ∃ q, shaSum l = q := ⟨_, rfl⟩
  rw [hq] at HL ⊢
  have HQ := Lib.hid (fun _ : Unit => hq)
  clear hq
  go_wp2_with
    (first
      | (refine wpList_stB stA32 rfl rfl g1 rfl (bvs q) rfl (by rw [bvs_length, HL.out]) (bvs_one _) (bvs (zB 32)) rfl i4 ?_; intro wc hc fc zc))
  try simp only [Exit.inBlock, Exit.then]
  refine bodyPost_ret (results_cell stA32 rfl rfl (by rw [bvs_length, HL.out]) hc) rfl ?_
  exact ⟨by rw [HQ.out ()], (F3.trans_nil f4).trans fc (fun i hi => .inr (by simp at hi; omega))⟩
end Go.Proofs.YtamifdfkgbaobaaGreatDoor
/-
  SHA-256: the reference's Sum.
-/
set_option linter.unusedSimpArgs false
set_option linter.unusedVariables false
set_option linter.unnecessarySimpa false
namespace Go.Proofs.YtamifdfkgbaobaaGreatDoor
open Go.RowKit

/-- The first k of q, zeros behind: n in all. -/
def plb (q : List UInt8) (k n : Nat) : List UInt8 := q.take k ++ List.replicate (n - k) 0
theorem plb_len (q : List UInt8) (k n : Nat) (hq : q.length = n) (hk : k ≤ n) : (plb q k n).length = n := by
  rw [plb, List.length_append, List.length_take, List.length_replicate]; omega
theorem plb_zero (q : List UInt8) (n : Nat) : plb q 0 n = List.replicate n 0 := by simp [plb]
theorem plb_all (q : List UInt8) (n : Nat) (hq : q.length = n) : plb q n n = q := by
  rw [plb, Nat.sub_self, List.take_of_length_le (by omega), List.replicate_zero, List.append_nil]
theorem plb_set (q : List UInt8) (k n : Nat) (hq : q.length = n) (hk : k < n) : (plb q k n).set k (q.getD k 0) = plb q (k + 1) n := by
  have hl : (q.take k).length = k := by rw [List.length_take]; omega
  have hg : q.getD k 0 = q[k] := by simp [hq, hk]
  rw [hg, plb, plb, show n - k = (n - (k + 1)) + 1 by omega, List.replicate_succ, List.set_append_right _ _ (by omega), hl, Nat.sub_self, List.set_cons_zero, List.take_succ_eq_append_getElem (by omega), List.append_assoc]
  rfl
theorem dig_at (s : S8) : ∀ i, i < 32 → (s.list.flatMap wordB).getD i 0 = UInt8.ofNat ((s.list.getD (i / 4) 0).toNat / 2 ^ (24 - 8 * (i % 4)))
  | 0, _ | 1, _ | 2, _ | 3, _ | 4, _ | 5, _ | 6, _ | 7, _ | 8, _ | 9, _ | 10, _ | 11, _ | 12, _ | 13, _ | 14, _ | 15, _ | 16, _ | 17, _ | 18, _ | 19, _ | 20, _ | 21, _ | 22, _ | 23, _ | 24, _ | 25, _ | 26, _ | 27, _ | 28, _ | 29, _ | 30, _ | 31, _ => by simp [S8.list, wordB]
  | n + 32, h => by omega

def sLen : Value → Nat
  | .slice _ n _ => n
  | _ => 0
end Go.Proofs.YtamifdfkgbaobaaGreatDoor
/-
  Layer 13 (record): marks; contracts of block, Mark, ReadMark and their references.
-/
set_option linter.unusedSimpArgs false
set_option linter.unusedVariables false
set_option linter.unnecessarySimpa false
namespace Go.Proofs.YtamifdfkgbaobaaGreatDoor
open Go.RowKit

def pad512 (q : List UInt8) : List UInt8 := q ++ List.replicate (512 - q.length) 0
theorem pad512_len {q : List UInt8} (h : q.length ≤ 512) : (pad512 q).length = 512 := by rw [pad512, List.length_append, List.length_replicate]; omega
def markM : List UInt8 := [77, 65, 82, 75]
def doneM : List UInt8 := [68, 79, 78, 69]
def planM : List UInt8 := [80, 76, 65, 78]
def markR (n : Nat) : List UInt8 := markM ++ leB 8 n
theorem markR_len (n : Nat) : (markR n).length = 12 := by simp [markR, markM, leB_length]
def markB (n : Nat) : List UInt8 := pad512 (markR n ++ shaSum (markR n))
theorem markB_len (n : Nat) : (markB n).length = 512 := pad512_len (by rw [List.length_append, markR_len, shaSum_length]; omega)

theorem Rd.ofBm {w : World} {g : Nat} {t : TypeId} {l : List UInt8} (hb : Blk w g t (bvs l).toArray) : Rd w (some ⟨g, 0, none⟩) (bvs l) := Rd.of_blk hb 0 _ (fun j u hu => by rw [Nat.zero_add]; simpa using hu)
set_option maxHeartbeats 1000000 in
theorem rcBlock_rcMark1 (w : World) (g:Nat) (q : List UInt8) (hq : q.length ≤ 512) (hc : ∀ w1 p B v, Fr [] w w1 → w.heap.size ≤ p → w.heap.size ≤ B → Wrt w1 p B v 512 false [] → Calls Tryz.prog 70 #[.pointer (some ⟨p, 0, none⟩), .pointer (some ⟨g, 0, none⟩)] w1 fun e w' => e = .returned (.tuple #[]) ∧ WPost w1 w' p B v 512 q) :
    Calls Tryz.prog 74 #[.func (.func 70) #[] #[.pointer (some ⟨g, 0, none⟩)]] w fun e w' => ∃ r, e = .returned r ∧ Row w' w.heap.size 5 1 r 512 (bvs (pad512 q)) ∧ Fr [] w w' := by
  go_enter Tryz.func74, Tryz.ntmps74
  go_wp2_with fail
  have cc := newWriter_any 512 w
  rw [show sizeN 512 = 512 from rfl] at cc
  refine cc.mono ?_
  clear cc
  rintro e w1 ⟨rfl, h1, f1, z1⟩
  go_wp2_with fail
  refine (hc w1 _ _ _ f1 (Nat.le_refl _) (Nat.le_refl _) h1).mono ?_
  rintro e w2 ⟨rfl, v2, h2, f2, g2⟩
  have F2 : Fr [] w w2 := f1.trans f2 (fun i hi => by
    rcases List.mem_cons.1 hi with rfl | hi
    · exact .inr (Nat.le_refl _)
    · exact (own_nil.1 hi).elim)
  go_wp2_with fail
  refine (wDone_ok h2).mono ?_
  rintro e w3 ⟨r, rfl, h3, f3⟩
  go_wp2_with fail
  go_ret
  exact ⟨r, rfl, h3.mono F2.size, F2.trans_nil f3⟩
set_option maxHeartbeats 1000000 in
theorem rcBlock_rcMark2 (w : World) (g d:Nat) (q : List UInt8) (hq : q.length ≤ 512) (hc : ∀ w1 p B v, Fr [] w w1 → w.heap.size ≤ p → w.heap.size ≤ B → Wrt w1 p B v 512 false [] → Calls Tryz.prog 75 #[.pointer (some ⟨p, 0, none⟩), .pointer (some ⟨g, 0, none⟩), .pointer (some ⟨d, 0, none⟩)] w1 fun e w' => e = .returned (.tuple #[]) ∧ WPost w1 w' p B v 512 q) :
    Calls Tryz.prog 74 #[.func (.func 75) #[] #[.pointer (some ⟨g, 0, none⟩), .pointer (some ⟨d, 0, none⟩)]] w fun e w' => ∃ r, e = .returned r ∧ Row w' w.heap.size 5 1 r 512 (bvs (pad512 q)) ∧ Fr [] w w' := by
  go_enter Tryz.func74, Tryz.ntmps74
  go_wp2_with fail
  have cc := newWriter_any 512 w
  rw [show sizeN 512 = 512 from rfl] at cc
  refine cc.mono ?_
  clear cc
  rintro e w1 ⟨rfl, h1, f1, z1⟩
  go_wp2_with fail
  refine (hc w1 _ _ _ f1 (Nat.le_refl _) (Nat.le_refl _) h1).mono ?_
  rintro e w2 ⟨rfl, v2, h2, f2, g2⟩
  have F2 : Fr [] w w2 := f1.trans f2 (fun i hi => by
    rcases List.mem_cons.1 hi with rfl | hi
    · exact .inr (Nat.le_refl _)
    · exact (own_nil.1 hi).elim)
  go_wp2_with fail
  refine (wDone_ok h2).mono ?_
  rintro e w3 ⟨r, rfl, h3, f3⟩
  go_wp2_with fail
  go_ret
  exact ⟨r, rfl, h3.mono F2.size, F2.trans_nil f3⟩
set_option maxHeartbeats 1000000 in
theorem rcBlock_rcSeal1 (w : World) (g d:Nat) (q : List UInt8) (hq : q.length ≤ 512) (hc : ∀ w1 p B v, Fr [] w w1 → w.heap.size ≤ p → w.heap.size ≤ B → Wrt w1 p B v 512 false [] → Calls Tryz.prog 103 #[.pointer (some ⟨p, 0, none⟩), .pointer (some ⟨g, 0, none⟩), .pointer (some ⟨d, 0, none⟩)] w1 fun e w' => e = .returned (.tuple #[]) ∧ WPost w1 w' p B v 512 q) :
    Calls Tryz.prog 74 #[.func (.func 103) #[] #[.pointer (some ⟨g, 0, none⟩), .pointer (some ⟨d, 0, none⟩)]] w fun e w' => ∃ r, e = .returned r ∧ Row w' w.heap.size 5 1 r 512 (bvs (pad512 q)) ∧ Fr [] w w' := by
  go_enter Tryz.func74, Tryz.ntmps74
  go_wp2_with fail
  have cc := newWriter_any 512 w
  rw [show sizeN 512 = 512 from rfl] at cc
  refine cc.mono ?_
  clear cc
  rintro e w1 ⟨rfl, h1, f1, z1⟩
  go_wp2_with fail
  refine (hc w1 _ _ _ f1 (Nat.le_refl _) (Nat.le_refl _) h1).mono ?_
  rintro e w2 ⟨rfl, v2, h2, f2, g2⟩
  have F2 : Fr [] w w2 := f1.trans f2 (fun i hi => by
    rcases List.mem_cons.1 hi with rfl | hi
    · exact .inr (Nat.le_refl _)
    · exact (own_nil.1 hi).elim)
  go_wp2_with fail
  refine (wDone_ok h2).mono ?_
  rintro e w3 ⟨r, rfl, h3, f3⟩
  go_wp2_with fail
  go_ret
  exact ⟨r, rfl, h3.mono F2.size, F2.trans_nil f3⟩
set_option maxHeartbeats 1000000 in
theorem rcBlock_rcplan1 (w : World) (g d t:Nat) (q : List UInt8) (hq : q.length ≤ 512) (hc : ∀ w1 p B v, Fr [] w w1 → w.heap.size ≤ p → w.heap.size ≤ B → Wrt w1 p B v 512 false [] → Calls Tryz.prog 104 #[.pointer (some ⟨p, 0, none⟩), .pointer (some ⟨g, 0, none⟩), .pointer (some ⟨d, 0, none⟩), .pointer (some ⟨t, 0, none⟩)] w1 fun e w' => e = .returned (.tuple #[]) ∧ WPost w1 w' p B v 512 q) :
    Calls Tryz.prog 74 #[.func (.func 104) #[] #[.pointer (some ⟨g, 0, none⟩), .pointer (some ⟨d, 0, none⟩), .pointer (some ⟨t, 0, none⟩)]] w fun e w' => ∃ r, e = .returned r ∧ Row w' w.heap.size 5 1 r 512 (bvs (pad512 q)) ∧ Fr [] w w' := by
  go_enter Tryz.func74, Tryz.ntmps74
  go_wp2_with fail
  have cc := newWriter_any 512 w
  rw [show sizeN 512 = 512 from rfl] at cc
  refine cc.mono ?_
  clear cc
  rintro e w1 ⟨rfl, h1, f1, z1⟩
  go_wp2_with fail
  refine (hc w1 _ _ _ f1 (Nat.le_refl _) (Nat.le_refl _) h1).mono ?_
  rintro e w2 ⟨rfl, v2, h2, f2, g2⟩
  have F2 : Fr [] w w2 := f1.trans f2 (fun i hi => by
    rcases List.mem_cons.1 hi with rfl | hi
    · exact .inr (Nat.le_refl _)
    · exact (own_nil.1 hi).elim)
  go_wp2_with fail
  refine (wDone_ok h2).mono ?_
  rintro e w3 ⟨r, rfl, h3, f3⟩
  go_wp2_with fail
  go_ret
  exact ⟨r, rfl, h3.mono F2.size, F2.trans_nil f3⟩

set_option maxRecDepth 100000 in
set_option maxHeartbeats 1000000 in
theorem rcMark1_ok {w : World} {p B g n : Nat} {v : Value} (h : Wrt w p B v 512 false []) (hn : n < 18446744073709551616) (hb : Blk w g 58 #[.int .u64 (n : Int)]) :
    Calls Tryz.prog 70 #[.pointer (some ⟨p, 0, none⟩), .pointer (some ⟨g, 0, none⟩)] w fun e w' => e = .returned (.tuple #[]) ∧ WPost w w' p B v 512 (markR n) := by
  have kc := fun (w : World) (C : Array Value) (n c : Nat) => Lib.run_convert_bytes_const (P := Tryz.prog) w 41 5 C n c Tryz.underlying41 Tryz.underlying5
  go_enter Tryz.func70, Tryz.ntmps70
  go_wp2_with fail
  have ra := Rd.mark w markM 5 (4, 5)
  have fa : Fr [] w (w.alloc (.cells (bvs markM).toArray 5 (4, 5))) := (Fr.refl _ _).alloc _
  refine (wBytes_ok (h.keep_nil fa) _ 4 4 markM rfl ra (by simp) (fun g o e _ => by cases e; have := h.lt; omega) (by simp)).mono ?_
  rintro e w1 ⟨rfl, x1⟩
  have b1 := x1.blk (h.keep_nil fa) (hb.keep_nil fa) (by decide) (by decide)
  obtain ⟨v1, h1, f1, g1⟩ := WPost.trans (fa.mono (by simp)) (fun g hg => .inl hg) x1
  clear ra fa x1 hb kc
  rw [List.nil_append] at h1
  have c0 := b1.cell 0
  simp at c0
  go_wp2_with fail
  refine (wUint_ok h1 8 n rfl hn (by omega) (by rw [show markM.length = 4 from rfl]; omega)).mono ?_
  rintro e w2 ⟨rfl, x2⟩
  have y2 := WPost.trans f1 g1 x2
  go_wp2_with fail
  go_returns
  exact ⟨rfl, y2⟩

set_option maxRecDepth 100000 in
set_option maxHeartbeats 1000000 in
theorem rcMark2_ok {w : World} {p B g f d n : Nat} {v : Value} {D : List UInt8} (h : Wrt w p B v 512 false []) (hn : n < 18446744073709551616) (hb : Blk w g 58 #[.int .u64 (n : Int)]) (T : TypeId) (hf : Blk w f T #[.func (.func 70) #[] #[.pointer (some ⟨g, 0, none⟩)]]) (hT1 : T ≠ 119) (hT2 : T ≠ 5) (hd : Blk w d 104 (bvs D).toArray) (hD : D.length = 32) :
    Calls Tryz.prog 75 #[.pointer (some ⟨p, 0, none⟩), .pointer (some ⟨f, 0, none⟩), .pointer (some ⟨d, 0, none⟩)] w fun e w' => e = .returned (.tuple #[]) ∧ WPost w w' p B v 512 (markR n ++ D) := by
  have cf := hf.cell 0
  simp at cf
  have HD := Lib.hid hD
  clear hD
  go_enter Tryz.func75, Tryz.ntmps75
  go_wp2_with fail
  refine (rcMark1_ok h hn hb).mono ?_
  rintro e w1 ⟨rfl, x1⟩
  have d1 := x1.blk h hd (by decide) (by decide)
  have hpd : p ≠ d := fun e => (hd.ne_ h.1 (by decide)) e.symm
  obtain ⟨v1, h1, f1, g1⟩ := x1
  go_wp2_with fail
  refine (wBytes_ok h1 _ 32 32 D HD.out (Rd.ofBm d1) (by simp) (fun g o e _ => by cases e; exact hpd.symm) (by rw [markR_len]; omega)).mono ?_
  rintro e w2 ⟨rfl, x2⟩
  have y2 := WPost.trans f1 g1 x2
  go_wp2_with fail
  go_returns
  exact ⟨rfl, y2⟩
end Go.Proofs.YtamifdfkgbaobaaGreatDoor
/-
  Layer 13 (record): Mark, ReadMark and their references.
-/
set_option linter.unusedSimpArgs false
set_option linter.unusedVariables false
set_option linter.unnecessarySimpa false
namespace Go.Proofs.YtamifdfkgbaobaaGreatDoor
open Go.RowKit

theorem wpList_st1 {P : Program} {ops : Array Oper} {rest : List Oper} {o : Oper} {a : Act} {w : World} {Q : Exit → Act → World → Prop} {ty : TypeId} {x y : Operand} (hw : Region.wanted o (yielded ops a.tmps) = true) (ho : o.op = .store ty x y) (hsz : (P.info? ty).map (·.size) = some 1) (g i : Nat) (hx : a.eval x = .pointer (some ⟨g, i, none⟩)) (v : Value) (hy : a.eval y = v) (hv : v.cells = #[v]) (h1 : v.oneCell' = true)
    {old : Value} (hc : w.cell? ⟨g, i, none⟩ = some old) (hz : w.frozen? ⟨g, i, none⟩ = false) (h : wpList P ops Q rest (a.put o.dst undef) (w.setCell ⟨g, i, none⟩ v)) : wpList P ops Q (o :: rest) a w :=
  wpList_want hw fun _ hK => wp_st1 ho hsz g i hx v hy hv h1 hc hz (hK _ _ h)
/-- Mark. -/
def MarkC (w : World) (n : Nat) (e : Ending) (w' : World) : Prop :=
  ∃ v, e = .returned (.tuple #[v, .int .i64 (errG (n != 0) 1)]) ∧ Row w' w.heap.size 5 1 v (if n = 0 then 0 else 512) (bvs (if n = 0 then [] else markB n)) ∧ Fr [] w w'
set_option maxRecDepth 100000 in
set_option maxHeartbeats 4000000 in
theorem rcMark_any (w : World) (n : Nat) (hn : n < 18446744073709551616) (hK : KG w) : Calls Tryz.prog 50 #[.int .u64 n] w (MarkC w n) := by
  by_cases h0 : n = 0
  · subst h0
    go_enter Tryz.func50, Tryz.ntmps50
    go_wp2_with fail
    go_ret2
    exact ⟨_, rfl, Row.nil _ _ _ _, (Fr.refl _ _).alloc _⟩
  · have d : ((n : Int) == 0) = false := by rw [beq_eq_false_iff_ne]; omega
    have H0 := Lib.hid h0
    clear h0
    go_enter Tryz.func50, Tryz.ntmps50
    go_upto_region 3 with fail
    have b1 := Blk.new w 58 #[.int .u64 (n : Int)]
    have F1 : Fr [] w (w.alloc (.cells #[.int .u64 (n : Int)] 58)) := (Fr.refl _ _).alloc _
    have s1 : (w.alloc (.cells #[.int .u64 (n : Int)] 58)).heap.size = w.heap.size + 1 := by simp
    generalize w.alloc (.cells #[.int .u64 (n : Int)] 58) = w1 at *
    obtain ⟨g1, hg1⟩ : ∃ g, w.heap.size = g := ⟨_, rfl⟩
    rw [hg1] at b1 s1 ⊢
    have HS1 := Lib.hid (And.intro hg1 s1)
    clear hg1 s1
    go_upto_region 4 with
      (first
        | (refine wpList_st1 rfl rfl (by kernel_rfl) w1.heap.size 0 rfl (.func (.func 70) #[] #[.pointer (some ⟨g1, 0, none⟩)]) rfl rfl rfl (old := .nilFunc) ((Blk.new w1 103 #[.nilFunc]).cell 0) ((Blk.new w1 103 #[.nilFunc]).frozen 0) ?_))
    have b2 := (Blk.new w1 103 #[.nilFunc]).set_ 0 (.func (.func 70) #[] #[.pointer (some ⟨g1, 0, none⟩)])
    have f2 : Fr [] w1 ((w1.alloc (.cells #[.nilFunc] 103)).setCell ⟨w1.heap.size, 0, none⟩ (.func (.func 70) #[] #[.pointer (some ⟨g1, 0, none⟩)])) := ((Fr.refl _ _).alloc _).setCell (.inr (Nat.le_refl _)) _
    have s2 : ((w1.alloc (.cells #[.nilFunc] 103)).setCell ⟨w1.heap.size, 0, none⟩ (.func (.func 70) #[] #[.pointer (some ⟨g1, 0, none⟩)])).heap.size = w1.heap.size + 1 := by simp [World.setCell]
    generalize (w1.alloc (.cells #[.nilFunc] 103)).setCell ⟨w1.heap.size, 0, none⟩ (.func (.func 70) #[] #[.pointer (some ⟨g1, 0, none⟩)]) = w2 at *
    replace b2 : Blk w2 w1.heap.size 103 #[.func (.func 70) #[] #[.pointer (some ⟨g1, 0, none⟩)]] := b2
    obtain ⟨g2, hg2⟩ : ∃ g, w1.heap.size = g := ⟨_, rfl⟩
    rw [hg2] at b2 s2 ⊢
    have F2 := F1.trans_nil f2
    replace b1 := b1.keep_nil f2
    have HG := Lib.hid (And.intro hg2 s2)
    clear hg2 s2 F1 f2
    have c2 := b2.cell 0
    simp at c2
    go_wp2_with fail
    refine (rcBlock_rcMark1 w2 g1 (markR n) (by rw [markR_len]; omega) (fun wx p B v f _ _ h => rcMark1_ok h hn (b1.keep_nil f))).mono ?_
    rintro e w3 ⟨r, rfl, r3, f3⟩
    have F3 := F2.trans_nil f3
    replace b1 := b1.keep_nil f3
    replace b2 := b2.keep_nil f3
    obtain ⟨A3, cap3, rfl, hc3, -, rd3, -, -⟩ := r3.shape
    have n3 := r3.rd.2.2
    have rd12 : Rd w3 A3 (bvs (markR n)) := by
      have := rd3.take 12
      rw [← bvs_take, pad512, List.take_left' (markR_len n)] at this
      exact this
    have K12 : (12 : Int) ≤ cap3 := by omega
    go_wp2_with fail
    refine (sum_any A3 (markR n) 12 cap3 w3 (markR_len n) rd12 (fun h => absurd (n3 h) (by omega)) (by omega) (hK.keep F3)).mono ?_
    rintro e w4 ⟨rfl, f4⟩
    have F4 := F3.trans_nil f4
    replace b1 := b1.keep_nil f4
    replace b2 := b2.keep_nil f4
    obtain ⟨D, hD⟩ : ∃ D, shaSum (markR n) = D := ⟨_, rfl⟩
    have hdl : D.length = 32 := by rw [← hD, shaSum_length]
    rw [hD]
    have HDD := Lib.hid (fun _ : Unit => hD)
    have HDL := Lib.hid hdl
    clear hD hdl f3 f4 r3 rd3 rd12 F2 F3 c2
    go_wp2_with
      (first
        | (refine wpList_alS stA32 (o := ⟨some 5, _, _, _, _, _⟩) rfl rfl ?_; intro wa ha fa za; have ZA := Lib.hid za; clear za; obtain ⟨g5, hgg⟩ : ∃ g, w4.heap.size = g := ⟨_, rfl⟩; rw [hgg] at ha; rw [hgg]; have HG5 := Lib.hid hgg; clear hgg)
        | (refine wpList_stB stA32 rfl rfl g5 rfl (bvs D) rfl (by rw [bvs_length, HDL.out]) (bvs_one _) (bvs (zB 32)) rfl ha ?_; intro wb hb fb zb; have ZB := Lib.hid zb; clear zb))
    have f5 : Fr [] w4 wb := fa.trans fb (fun i hi => .inr (by have := HG5.out; simp at hi; omega))
    have F5 := F4.trans_nil f5
    replace b1 := b1.keep_nil f5
    replace b2 := b2.keep_nil f5
    refine (rcBlock_rcMark2 wb g2 g5 (markR n ++ D) (by rw [List.length_append, markR_len, HDL.out]; omega) (fun wx p B v f _ _ h => rcMark2_ok h hn (b1.keep_nil f) 103 (b2.keep_nil f) (by decide) (by decide) (hb.keep_nil f) HDL.out)).mono ?_
    rintro e w6 ⟨r, rfl, r6, f6⟩
    obtain ⟨A6, cap6, rfl, -, -, -, -, -⟩ := r6.shape
    go_wp2_with fail
    go_ret2
    have h0 := H0.out
    refine ⟨_, by rw [show (n != 0) = true from by simpa using h0]; rfl, ?_, F5.trans_nil f6⟩
    rw [if_neg h0, if_neg h0, markB, HDD.out ()]
    exact r6.mono F5.size

end Go.Proofs.YtamifdfkgbaobaaGreatDoor
/-
  Contracts of both Readers at whatever number: one function of what is left tells what comes and what stays.
-/
set_option linter.unusedSimpArgs false
set_option linter.unusedVariables false
set_option linter.unnecessarySimpa false
namespace Go.Proofs.YtamifdfkgbaobaaGreatDoor
open Go.RowKit

/-- May n bytes be read? -/
def inR (l : List UInt8) (bad : Bool) (n : Int) : Bool := !bad && decide (0 ≤ n) && decide (n ≤ l.length)
theorem inR_true {l : List UInt8} {bad : Bool} {n : Int} (h : inR l bad n = true) : bad = false ∧ ∃ m : Nat, n = m ∧ m ≤ l.length := by
  simp only [inR, Bool.and_eq_true, Bool.not_eq_true', decide_eq_true_eq] at h
  exact ⟨h.1.1, n.toNat, by omega, by omega⟩
theorem inR_false {l : List UInt8} {bad : Bool} {n : Int} (h : inR l bad n = false) : bad = true ∨ n < 0 ∨ (l.length : Int) < n := by
  simp only [inR, Bool.and_eq_false_iff, Bool.not_eq_false', decide_eq_false_iff_not] at h
  rcases h with (h | h) | h
  · exact .inl h
  · exact .inr (.inl (by omega))
  · exact .inr (.inr (by omega))

def stB (l : List UInt8) (bad : Bool) (n : Int) : List UInt8 := if inR l bad n then l.take n.toNat else []
def stL (l : List UInt8) (bad : Bool) (n : Int) : List UInt8 := if inR l bad n then l.drop n.toNat else l
def stUv (l : List UInt8) (bad : Bool) (n : Int) : Nat := if inR l bad n && wide n then leN (l.take n.toNat) else 0
def stUl (l : List UInt8) (bad : Bool) (n : Int) : List UInt8 := if inR l bad n && wide n then l.drop n.toNat else l
def stUb (l : List UInt8) (bad : Bool) (n : Int) : Bool := !(inR l bad n && wide n)
def stZl (l : List UInt8) (bad : Bool) (n : Int) : List UInt8 := if inR l bad n && allZ (l.take n.toNat) then l.drop n.toNat else l
def stZb (l : List UInt8) (bad : Bool) (n : Int) : Bool := !(inR l bad n && allZ (l.take n.toNat))
theorem stUv_lt (l : List UInt8) (bad : Bool) (n : Int) : stUv l bad n < 18446744073709551616 := by
  unfold stUv
  split
  · rename_i h
    simp only [Bool.and_eq_true] at h
    have h8 : n.toNat ≤ 8 := by
      have := h.2
      simp only [wide, Bool.or_eq_true, beq_iff_eq] at this
      omega
    exact Nat.lt_of_lt_of_le (leN_take_lt l _) (Nat.le_trans (Nat.pow_le_pow_right (by omega) h8) (by decide))
  · omega

section
variable {w : World} {p : Nat} {G : List Nat} {l : List UInt8} {bad : Bool}

theorem rUint_any (h : Rdr 146 w p G l bad) (n : Int) :
    Calls Tryz.prog 98 #[.pointer (some ⟨p, 0, none⟩), .int .i64 n] w fun e w' => e = .returned (.int .u64 (stUv l bad n)) ∧ Rdr 146 w' p G (stUl l bad n) (stUb l bad n) ∧ Fr [p] w w' := by
  cases h1 : (inR l bad n && wide n) with
  | true =>
    simp only [Bool.and_eq_true] at h1
    obtain ⟨rfl, m, rfl, hm⟩ := inR_true h1.1
    have e1 : stUv l false m = leN (l.take m) := by simp [stUv, h1.1, h1.2]
    have e2 : stUl l false m = l.drop m := by simp [stUl, h1.1, h1.2]
    have e3 : stUb l false m = false := by simp [stUb, h1.1, h1.2]
    rw [e1, e2, e3]
    exact rUint_ok h m hm h1.2
  | false =>
    have e1 : stUv l bad n = 0 := by simp [stUv, h1]
    have e2 : stUl l bad n = l := by simp [stUl, h1]
    have e3 : stUb l bad n = true := by simp [stUb, h1]
    rw [e1, e2, e3]
    refine rUint_bad h n ?_
    by_cases hw : wide n = true
    · have h2 : inR l bad n = false := by simpa [hw] using h1
      rcases inR_false h2 with h | h | h
      · exact .inl h
      · simp only [wide, Bool.or_eq_true, beq_iff_eq] at hw; omega
      · exact .inr (.inr h)
    · exact .inr (.inl (by simpa using hw))

theorem rBytes_any (h : Rdr 146 w p G l bad) (n : Int) :
    Calls Tryz.prog 97 #[.pointer (some ⟨p, 0, none⟩), .int .i64 n] w fun e w' => ∃ v, e = .returned v ∧ Row w' w.heap.size 5 1 v (stB l bad n).length (bvs (stB l bad n)) ∧ Rdr 146 w' p G (stL l bad n) (!inR l bad n) ∧ Fr [p] w w' := by
  cases h1 : inR l bad n with
  | true =>
    obtain ⟨rfl, m, rfl, hm⟩ := inR_true h1
    have e1 : stB l false m = l.take m := by simp [stB, h1]
    have e2 : stL l false m = l.drop m := by simp [stL, h1]
    rw [e1, e2, show (l.take m).length = m by rw [List.length_take]; omega]
    exact rBytes_ok h m hm
  | false =>
    have e1 : stB l bad n = [] := by simp [stB, h1]
    have e2 : stL l bad n = l := by simp [stL, h1]
    rw [e1, e2]
    exact (rBytes_bad h n (inR_false h1)).mono fun e w' ⟨h1, h2, h3⟩ => ⟨_, h1, Row.nil _ _ _ _, h2, h3⟩

end
end Go.Proofs.YtamifdfkgbaobaaGreatDoor
/-
  Layer 13 (record): ReadMark and its reference.
-/
set_option linter.unusedSimpArgs false
set_option linter.unusedVariables false
set_option linter.unnecessarySimpa false
namespace Go.Proofs.YtamifdfkgbaobaaGreatDoor
open Go.RowKit

def numR (l : List UInt8) : Nat := stUv (stL l false 4) (!inR l false 4) 8
theorem numR_lt (l : List UInt8) : numR l < 18446744073709551616 := stUv_lt _ _ _
theorem numR_512 {l : List UInt8} (h : l.length = 512) : numR l = leN ((l.drop 4).take 8) := by
  have h1 : inR l false 4 = true := by simp [inR, h]
  have h2 : stL l false 4 = l.drop 4 := by simp [stL, h1]
  have h3 : inR (l.drop 4) false 8 = true := by simp [inR, h]
  rw [numR, h1, h2, Bool.not_true, stUv, h3]
  simp [wide]
/-- ReadMark. -/
def rmV (l : List UInt8) : Option Nat := if numR l ≠ 0 ∧ l = markB (numR l) then some (numR l) else none
def RmC (w : World) (l : List UInt8) (e : Ending) (w' : World) : Prop :=
  e = .returned (.tuple #[.int .u64 (((rmV l).getD 0 : Nat) : Int), .int .i64 (errG (rmV l).isSome 110)]) ∧ Fr [] w w'

set_option maxRecDepth 100000 in
set_option maxHeartbeats 4000000 in
theorem rcReadMark_any (w : World) (A : Option Addr) (l : List UInt8) (n c : Nat) (hn : l.length = n) (hr : Rd w A (bvs l)) (hA : A = none → n = 0) (hl : n ≤ 140737488355328) (hK : KG w) :
    Calls Tryz.prog 76 #[.slice A n c] w (RmC w l) := by
  have HN := Lib.hid hn
  have hk := numR_lt l
  obtain ⟨k, hkk⟩ : ∃ k, numR l = k := ⟨_, rfl⟩
  have HKK := Lib.hid hkk
  rw [hkk] at hk
  clear hn hkk
  go_enter Tryz.func76, Tryz.ntmps76
  go_wp2_with fail
  refine (newReader_any A l n c w HN.out hr hA hl).mono ?_
  rintro e w1 ⟨p, G, rfl, x1, f1, z1, g1⟩
  go_wp2_with fail
  refine (rBytes_any x1 4).mono ?_
  rintro e w2 ⟨v2, rfl, r2, x2, f2⟩
  have F2 : Fr [] w w2 := f1.trans f2 (fun i hi => .inr (by simp at hi; omega))
  go_wp2_with fail
  have cc := rUint_any x2 8
  rw [show stUv (stL l false 4) (!inR l false 4) 8 = k from HKK.out] at cc
  refine cc.mono ?_
  clear cc
  rintro e w3 ⟨rfl, x3, f3⟩
  have F3 : Fr [] w w3 := F2.trans f3 (fun i hi => .inr (by simp at hi; omega))
  clear x1 x2 x3 f1 f2 f3 r2 F2
  go_wp2_with fail
  refine (rcMark_any w3 k hk (hK.keep F3)).mono ?_
  rintro e w4 ⟨v, rfl, r4, f4⟩
  have F4 := F3.trans_nil f4
  obtain ⟨A4, c4, rfl, -, -, rd4, -, -⟩ := r4.shape
  have n4 := r4.rd.2.2
  by_cases h0 : k = 0
  · have hv : rmV l = none := by rw [rmV, if_neg (by rw [HKK.out]; exact fun h => h.1 h0)]
    have HV := Lib.hid hv
    rw [show (k != 0) = false by rw [h0]; rfl, show errG false 1 = 1 from rfl]
    clear hv
    go_wp2_with fail
    go_ret2
    exact ⟨by rw [HV.out]; rfl, F4⟩
  · simp only [if_neg h0] at rd4
    simp only [if_neg h0] at n4
    rw [show (k != 0) = true by simpa using h0, show errG true 1 = 0 from rfl, if_neg h0]
    obtain ⟨q, hq⟩ : ∃ q, markB k = q := ⟨_, rfl⟩
    have hql : q.length = 512 := by rw [← hq, markB_len]
    rw [hq] at rd4
    have H0 := Lib.hid h0
    have HQ := Lib.hid (fun _ : Unit => hq)
    have HQL := Lib.hid hql
    clear h0 hq hql r4
    have cc := bytesEq_any A A4 l q n c 512 c4 w4 HN.out (hr.keep_nil F4) hA HQL.out rd4 n4
    cases heq : (l == q)
    · have hv : rmV l = none := by
        rw [rmV, if_neg]
        rw [HKK.out, HQ.out ()]
        intro h
        rw [h.2] at heq
        simp at heq
      have HV := Lib.hid hv
      rw [heq] at cc
      clear hv heq
      go_wp2_with fail
      refine cc.mono ?_
      rintro e w5 ⟨rfl, rfl⟩
      go_wp2_with fail
      go_ret2
      exact ⟨by rw [HV.out]; rfl, F4⟩
    · have hv : rmV l = some k := by
        rw [rmV, if_pos, HKK.out]
        rw [HKK.out, HQ.out ()]
        exact ⟨H0.out, eq_of_beq heq⟩
      have HV := Lib.hid hv
      rw [heq] at cc
      clear hv heq
      go_wp2_with fail
      refine cc.mono ?_
      rintro e w5 ⟨rfl, rfl⟩
      go_wp2_with fail
      go_ret2
      exact ⟨by rw [HV.out]; rfl, F4⟩

end Go.Proofs.YtamifdfkgbaobaaGreatDoor
