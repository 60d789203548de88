/-
  SHA-256: Sum of a Hash.
-/
import Derived.Test.YtlelgeigighecaaDoorShaH
set_option linter.unusedSimpArgs false
set_option linter.unusedVariables false
set_option linter.unnecessarySimpa false
namespace Go.Proofs.YtlelgeigighecaaDoor
open Go.RowKit

theorem KG.pos {w : World} (h : KG w) : 0 < w.heap.size := World.block_lt_of_cell? w ⟨0, 0 + 0, none⟩ (h 0 _ rfl)
theorem be_byte2 (n j : Nat) : Value.int .u8 ((n : Int) * 8 / 2 ^ j % 256) = bv (UInt8.ofNat (n * 8 / 2 ^ j)) := by
  rw [← u8_of, IntKind.wrap_u8]
  congr 2
theorem blk_out {w : World} {g : Nat} {t : TypeId} {s : S8} {k : Nat} {x : UInt32} (hb : Blk w g t (bvs (outA s k)).toArray) (hk : k < 8) (hx : s.list.getD k 0 = x) {v0 v1 v2 v3 : Value} (h0 : v0 = bv (UInt8.ofNat (x.toNat / 2 ^ 24))) (h1 : v1 = bv (UInt8.ofNat (x.toNat / 2 ^ 16))) (h2 : v2 = bv (UInt8.ofNat (x.toNat / 2 ^ 8))) (h3 : v3 = bv (UInt8.ofNat x.toNat)) :
    Blk ((((w.setCell ⟨g, 4 * k, none⟩ v0).setCell ⟨g, 4 * k + 1, none⟩ v1).setCell ⟨g, 4 * k + 2, none⟩ v2).setCell ⟨g, 4 * k + 3, none⟩ v3) g t (bvs (outA s (k + 1))).toArray := by
  rw [h0, h1, h2, h3, ← outA_set s k hk x hx]
  exact blkB_set (blkB_set (blkB_set (blkB_set hb _ _) _ _) _ _) _ _
theorem pad_row {w : World} {B g m : Nat} (hb : Blk w g 5 (List.replicate m (.int .u8 0)).toArray) (hm : 0 < m) (hmm : m ≤ maxLen) (hB : B ≤ g) :
    Row (w.setCell ⟨g, 0, none⟩ (.int .u8 128)) B 5 1 (.slice (some ⟨g, 0, none⟩) m m) m (bvs (128 :: List.replicate (m - 1) 0)) := by
  refine ⟨by simp [bvs]; omega, .inr ⟨g, m, _, (0, 0), rfl, hB, hb.set_ 0 _, free_zero _, Nat.le_refl _, hmm, by simp, ?_⟩⟩
  obtain ⟨k, rfl⟩ : ∃ k, m = k + 1 := ⟨m - 1, by omega⟩
  rw [List.setIfInBounds_toArray, List.replicate_succ, List.set_cons_zero]
  rw [Nat.add_sub_cancel, Nat.mul_one]
  rw [show bvs (128 :: List.replicate k 0) = .int .u8 128 :: List.replicate k (.int .u8 0) by simp [bvs, bv]]
  rw [List.take_of_length_le (by simp)]

set_option maxRecDepth 100000 in
set_option maxHeartbeats 4000000 in
theorem hSum_any {w : World} {g B : Nat} {v : Value} {l : List UInt8} (h : Hsh w g B v l) (hN : l.length ≤ 140737488355200) (hK : KG w) :
    Calls Tryd.prog 83 #[.pointer (some ⟨g, 0, none⟩)] w fun e w' => e = .returned (.agg (bvs (shaSum l)).toArray) ∧ Fr [] w w' := by
  have p0 := hK.pos
  go_enter Tryd.func83, Tryd.ntmps83
  go_wp2_with
    (first
      | (refine wpList_alS stA32 (o := ⟨some 2, _, _, _, _, _⟩) rfl rfl ?_; intro w1 h1 f1 z1; have Z1 := Lib.hid z1; clear z1; obtain ⟨g1, hg1⟩ : ∃ g1, w.heap.size = g1 := ⟨_, rfl⟩; rw [hg1] at h1; rw [hg1]; have HG1 := Lib.hid hg1; clear hg1)
      | (refine wpList_alS stA32 (o := ⟨some 3, _, _, _, _, _⟩) rfl rfl ?_; intro w2 h2 f2 z2; have Z2 := Lib.hid z2; clear z2; obtain ⟨g2, hg2⟩ : ∃ g2, w1.heap.size = g2 := ⟨_, rfl⟩; rw [hg2] at h2; rw [hg2]; have HG2 := Lib.hid hg2; clear hg2))
  have G1 : w.heap.size = g1 := HG1.out
  have G12 : g1 < g2 := by have := HG2.out; have := h1.lt; omega
  have F2 := f1.trans_nil f2
  refine (hFork_any (h.keep_nil F2)).mono ?_
  rintro e w3 ⟨gf, vf, rfl, hgf, hF, f3⟩
  have F3 := F2.trans_nil f3
  have hlt2 := h2.lt
  have G2f : g2 < gf := by omega
  have i1 := (h1.keep_nil f2).keep_nil f3
  have i2 := h2.keep_nil f3
  obtain ⟨-, c9⟩ := hash_cells (h.keep_nil F3).blk
  obtain ⟨n, hn⟩ : ∃ n, l.length = n := ⟨_, rfl⟩
  rw [hn] at c9 hN
  have HNN := Lib.hid hn
  clear h1 h2 f1 f2 f3 hn F2
  obtain ⟨m, hm⟩ : ∃ m, (119 - n % 64) % 64 + 1 = m := ⟨_, rfl⟩
  have mlt : m ≤ 64 := by omega
  have mpos : 0 < m := by omega
  have hm1 : (119 - (n : Int)) % 64 + 1 = (m : Int) := by omega
  have HM := Lib.hid hm
  clear hm
  have k9 := c9
  go_wp2_with
    (first
      | (at_make; go_loud (refine wpList_mk1 rfl rfl slB rfl .i64 .i64 _ _ m rfl rfl rfl rfl (by omega) ?_; intro w4 b4 r4 f4 z4; have Z4 := Lib.hid z4; clear z4 r4; obtain ⟨gm, hgm⟩ : ∃ gm, w3.heap.size = gm := ⟨_, rfl⟩; rw [hgm] at b4; rw [hgm]; have HGM := Lib.hid hgm; clear hgm; have cm := b4.cell 0; have zm := b4.frozen 0; rw [show (List.replicate m (Value.int .u8 0)).toArray[0]? = some (.int .u8 0) by rw [List.getElem?_toArray, List.getElem?_replicate, if_pos mpos]] at cm)))
  have fx : Fr [] w3 (w4.setCell ⟨gm, 0, none⟩ (.int .u8 128)) := f4.setCell (.inr (by have := HGM.out; dsimp only; omega)) _
  have r5 := pad_row (B := w3.heap.size) b4 mpos (by unfold maxLen; omega) (by have := HGM.out; omega)
  generalize w4.setCell ⟨gm, 0, none⟩ (.int .u8 128) = w5 at *
  have HGX := Lib.hid (show n = l.length from HNN.out.symm)
  clear b4 cm zm f4 c9 hm1
  have U1 : IntKind.u64.wrap (n : Int) = n := by rw [IntKind.wrap_u64]; omega
  have U2 : IntKind.u64.wrap ((n : Int) * 8) = (n : Int) * 8 := by rw [IntKind.wrap_u64]; omega
  obtain ⟨pad0, hpad⟩ : ∃ p, (128 :: List.replicate (m - 1) 0 : List UInt8) = p := ⟨_, rfl⟩
  rw [hpad] at r5
  have HPD := Lib.hid (fun _ : Unit => hpad)
  have hlp : pad0.length = m := by rw [← hpad]; simp; omega
  have HLP := Lib.hid hlp
  clear hpad hlp
  go_loopw [5, 25] (fun v i wr => ∃ k : Nat, k ≤ 8 ∧ i = .int .i64 k ∧ Row wr w3.heap.size 5 1 v (m + k) (bvs (pad0 ++ beK (n * 8) k)) ∧ Fr [] w3 wr) (fun _ i _ => 8 - (intOf i).toNat)
  case atStart => exact ⟨0, Nat.zero_le _, rfl, by rw [show beK (n * 8) 0 = [] from rfl, List.append_nil]; exact r5, fx⟩
  case round =>
    clear r5 fx
    obtain ⟨k, hk, rfl, r6, fr⟩ := hrel
    obtain ⟨A6, cap6, rfl, -, -, rd6, blk6, -⟩ := r6.shape
    have k6 := fr.cell (by simp) k9
    by_cases hlt : k < 8
    · go_wp2_with
        (first
          | (at_builtin; go_loud (refine wpList_app rfl rfl slB w3.heap.size _ (m + k) (bvs (pad0 ++ beK (n * 8) k)) rfl (r6.alloc _) _ 1 1 [_] rfl rfl (Rd.one _ _ _) (by intro u hu; rw [List.mem_singleton.1 hu]; rfl) (fun h => by cases h) (by omega) (by have := fr.size; simp; omega) ?_; intro v7 w7 q1 q2 q3 q4)))
      refine ⟨⟨k + 1, by omega, by go_num, ?_, (fr.alloc _).trans q2 (fun i hi => .inr ?_)⟩, by simp [intOf]; omega⟩
      · rw [be_byte2, show ∀ x : UInt8, [bv x] = bvs [x] from fun _ => rfl, ← bvs_append, List.append_assoc, ← beK_succ] at q1
        exact q1
      · exact (r6.lt i (mem_own.1 hi)).1
    · obtain rfl : k = 8 := by omega
      have hpb : pad0 ++ beK (n * 8) 8 = padB l.length := by
        rw [← HPD.out (), beK_all, padB, HNN.out]
        have e : m - 1 = (119 - n % 64) % 64 := by have := HM.out; omega
        rw [e]
      rw [hpb] at r6 rd6
      have hpl : (padB l.length).length = m + 8 := by rw [← hpb, List.length_append, HLP.out, beK_len]
      have hF6 := hF.keep_nil fr
      have hK6 := hK.keep (F3.trans_nil fr)
      have hgl := hF.blk.lt
      have cc := hWrite_any hF6 A6 (m + 8) cap6 (padB l.length) hpl rd6 r6.rd.2.2 (fun g' o e _ => by have := (blk6 _ e).1; dsimp only at this; omega) (by rw [HNN.out]; omega) hK6 (by omega) (by omega)
      have HPL := Lib.hid (fun _ : Unit => hpl)
      clear hpb hpl
      go_wp2_with fail
      refine cc.mono ?_
      clear cc
      rintro e w6 ⟨rfl, v6, h6, f6, -⟩
      have n1 : ∀ i, i ≤ g2 → i ∉ gf :: vf.ownBlock.toList := fun i hi hm => by
        rcases List.mem_cons.1 hm with rfl | hm
        · omega
        · have := (hF.row.lt i (mem_own.1 hm)).1; omega
      have j1 := (i1.keep_nil fr).keep f6 (n1 _ (by omega))
      have j2 := (i2.keep_nil fr).keep f6 (n1 _ (Nat.le_refl _))
      have F6 : Fr [] w w6 := (F3.trans_nil fr).trans f6 (fun i hi => .inr (by
        rcases List.mem_cons.1 hi with rfl | hm
        · omega
        · have := (hF.row.lt i (mem_own.1 hm)).1; omega))
      obtain ⟨st, hst⟩ : ∃ s, shaRun first8 (l ++ padB l.length) ((l ++ padB l.length).length / 64) = s := ⟨_, rfl⟩
      have hb6 := h6.blk
      rw [hst] at hb6
      have rng := hash_rng hb6
      have HST := Lib.hid (fun _ : Unit => (show shaSum l = st.list.flatMap wordB by rw [shaSum_eq, hst]))
      have RNG := Lib.hid (fun _ : Unit => rng)
      clear rng hb6 hst h6 r6 rd6 hF6 hF i1 i2 n1 f6
      rw [show zB 32 = outA st 0 from (outA_zero st).symm] at j2
      go_wp2_with
        (first
          | (refine wpList_ldS stW8 rfl rfl gf 0 rfl (wvs st.list) (by rw [wvs_length]; rfl) (RNG.out ()) ?_))
      go_loopw [50] (fun i wr => ∃ k : Nat, k ≤ 8 ∧ i = .int .i64 k ∧ Blk wr g2 70 (bvs (outA st k)).toArray ∧ Blk wr g1 70 (bvs (zB 32)).toArray ∧ Fr [] w wr) (fun i _ => 8 - (intOf i).toNat)
      case atStart => exact ⟨0, Nat.zero_le _, rfl, j2, j1, F6⟩
      case round =>
        clear j1 j2 F6 RNG
        obtain ⟨k, hk, rfl, j2, j1, F⟩ := hrel
        by_cases hlt : k < 8
        · have ol := outA_len st k hk
          have c0 := blkB_at j2 (i := 4 * k) (by omega)
          have c1 := blkB_at j2 (i := 4 * k + 1) (by omega)
          have c2 := blkB_at j2 (i := 4 * k + 2) (by omega)
          have c3 := blkB_at j2 (i := 4 * k + 3) (by omega)
          have z0 := j2.frozen (4 * k)
          have z1 := j2.frozen (4 * k + 1)
          have z2 := j2.frozen (4 * k + 2)
          have z3 := j2.frozen (4 * k + 3)
          have ct : (wvs st.list).toArray[k]? = some (.int .u32 (uw (st.list.getD k 0))) := by
            have : k < st.list.length := hlt
            rw [List.getElem?_toArray, wvs_at this]; simp [this]
          obtain ⟨x, hx⟩ : ∃ x, st.list.getD k 0 = x := ⟨_, rfl⟩
          rw [hx] at ct
          have CT := Lib.hid ct
          have HX := Lib.hid hx
          clear hx ct ol
          go_wp2_with
            (first
              | (refine wpList_ix1 (o := ⟨some 53, _, _, _, _, _⟩) Tryd.underlying103 Tryd.underlying102 rfl (by kernel_rfl) rfl rfl (wvs st.list).toArray rfl .i64 k rfl hlt _ CT.out ?_))
          have j3 := blk_out j2 hlt HX.out (v0 := .int .u8 (uw x / 16777216 % 256)) (v1 := .int .u8 (uw x / 65536 % 256)) (v2 := .int .u8 (uw x / 256 % 256)) (v3 := .int .u8 (uw x % 256)) (by rw [← uw_byte_at, IntKind.wrap_u8]; rfl) (by rw [← uw_byte_at, IntKind.wrap_u8]; rfl) (by rw [← uw_byte_at, IntKind.wrap_u8]; rfl) (by rw [← uw_byte_0, IntKind.wrap_u8])
          have fs : Fr [g2] wr _ := ((((Fr.refl [g2] wr).setCell (p := ⟨g2, 4 * k, none⟩) (.inl (by simp)) (.int .u8 (uw x / 16777216 % 256))).setCell (p := ⟨g2, 4 * k + 1, none⟩) (.inl (by simp)) (.int .u8 (uw x / 65536 % 256))).setCell (p := ⟨g2, 4 * k + 2, none⟩) (.inl (by simp)) (.int .u8 (uw x / 256 % 256))).setCell (p := ⟨g2, 4 * k + 3, none⟩) (.inl (by simp)) (.int .u8 (uw x % 256))
          exact ⟨⟨k + 1, by omega, by go_num, j3, j1.keep fs (by simp; omega), F.trans fs (fun i hi => .inr (by simp at hi; omega))⟩, by simp [intOf]; omega⟩
        · obtain rfl : k = 8 := by omega
          rw [outA_all] at j2
          go_wp2_with
            (first
              | (refine wpList_ldS stA32 rfl rfl g2 0 rfl (bvs (st.list.flatMap wordB)) (by rw [bvs_length]; rfl) j2.range0 ?_)
              | (refine wpList_stB stA32 rfl rfl g1 rfl (bvs (st.list.flatMap wordB)) rfl (by rw [bvs_length]; rfl) (bvs_one _) (bvs (zB 32)) rfl j1 ?_; intro wc hc fc zc))
          try simp only [Exit.inBlock, Exit.then]
          refine bodyPost_ret (results_cell stA32 rfl rfl (by rw [bvs_length]; rfl) hc) rfl ?_
          exact ⟨by rw [HST.out ()], F.trans fc (fun i hi => .inr (by simp at hi; omega))⟩
end Go.Proofs.YtlelgeigighecaaDoor
