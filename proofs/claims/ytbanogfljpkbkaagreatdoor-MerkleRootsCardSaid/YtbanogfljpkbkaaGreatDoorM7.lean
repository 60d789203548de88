/-
  Texts of this claim, one behind the other: ShaH, ShaI, ShaJ, ShaK, RecA, RecB.
-/
import Derived.Test.YtbanogfljpkbkaaGreatDoorM6
import Derived.Test.YtbanogfljpkbkaaGreatDoorM5
set_option linter.unusedSimpArgs false
set_option linter.unusedVariables false
set_option linter.unnecessarySimpa false
namespace Go.Proofs.YtbanogfljpkbkaaGreatDoor
section
open Go.RowKit
theorem wp_boxS {P : Program} {o : Oper} {a : Act} {w : World} {K : Act → World → Prop} {Q : Exit → Act → World → Prop} {t : TypeId} {x : Operand} (ho : o.op = .box t x) (cs : List Value) (hx : a.eval x = .agg cs.toArray)
  (h : ∀ w', Blk w' w.heap.size t cs.toArray → Fr [] w w' → w'.heap.size = w.heap.size + 1 → K (a.put o.dst (.pointer (some ⟨w.heap.size, 0, none⟩))) w') : o.wp P a w K Q := by
 refine wp_val (.pointer (some ⟨w.heap.size, 0, none⟩)) (w.alloc (.cells cs.toArray t)) ?_ (h _ (Blk.new _ _ _) ((Fr.refl _ _).alloc _) (by simp))
 unfold execOp
 simp [ho, hx, Instr.box, newVar, newRow, Value.cells]
set_option maxRecDepth 100000 in
set_option maxHeartbeats 1000000 in
theorem hFork_any {w : World} {g B : Nat} {v : Value} {l : List UInt8} (h : Hsh w g B v l) :
  Calls Tryz.prog 188 #[.pointer (some ⟨g, 0, none⟩)] w fun e w' => ∃ g2 v2, e = .returned (.pointer (some ⟨g2, 0, none⟩)) ∧ w.heap.size ≤ g2 ∧ Hsh w' g2 w.heap.size v2 l ∧ Fr [] w w' := by
 obtain ⟨h1, h2, h3⟩ := h
 have hrl := rest_len l
 obtain ⟨q, hq⟩ : ∃ q, l.drop (64 * (l.length / 64)) = q := ⟨_, rfl⟩
 obtain ⟨s, hs⟩ : ∃ s, shaRun first8 l (l.length / 64) = s := ⟨_, rfl⟩
 obtain ⟨r, hr⟩ : ∃ r, l.length % 64 = r := ⟨_, rfl⟩
 rw [hq, hr] at h2 hrl
 rw [hs] at h1
 have hr64 : r < 64 := by omega
 have HQ := Lib.hid (fun _ : Unit => And.intro hq (And.intro hs hr))
 have HRL := Lib.hid hrl
 clear hq hs hr hrl
 obtain ⟨A, cap, rfl, -, -, rd, -, -⟩ := h2.shape
 have hA := h2.rd.2.2
 go_enter Tryz.func188, Tryz.ntmps188
 go_wp2_with fail
 refine wp_region_held_drew (S := fun w' => Blk w' g 215 (hashC s (.slice A r cap) l.length).toArray) (by kernel_rfl) (h1.keep_nil (Fr.refl [] w).drew) (fun hHeld => ?_)
 have FQ : Fr [] w w.drew := (Fr.refl [] w).drew
 have rd := rd.keep_nil FQ
 generalize w.drew = w0 at *
 refine tw 0 5 hHeld ?_
 refine tw 1 6 hHeld ?_
 refine tw 2 7 hHeld ?_
 refine tw 3 8 hHeld ?_ (v := .agg (wvs s.list).toArray) (hy := (fun w hSw => hy_ld stW8 rfl g 0 rfl (wvs s.list) (by rw [wvs_length]; rfl) (hash_rng hSw)))
 refine tw 4 9 hHeld ?_
 refine tw 5 10 hHeld ?_
 refine tw 6 11 hHeld ?_
 refine tw 7 12 hHeld ?_ (v := .slice A r cap) (hy := (fun w hSw => by have c := (hash_cells hSw).1; go_simp))
 refine tw 9 14 hHeld ?_
 refine tw 10 15 hHeld ?_
 refine tw 11 16 hHeld ?_
 refine tw 12 17 hHeld ?_ (v := .int .i64 l.length) (hy := (fun w hSw => by have c := (hash_cells hSw).2; go_simp))
 refine tc 8 (fun K hK => ?_)
 go_simp
 refine (clone_any A q r cap _ HRL.out rd hA (by omega)).mono ?_
 rintro e w2 ⟨v2, rfl, r2, f2⟩
 refine hK.out _ _ (hHeld.keep_nil f2) (fun hHx => ?_)
 clear hHeld
 have hHeld := hHx
 clear hHx
 clear hK K
 try simp only [Act.put, p1, p2, p3]
 have F2 := FQ.trans_nil f2
 obtain ⟨A2, cap2, rfl, -, -, -, -, -⟩ := r2.shape
 refine tw 13 18 hHeld ?_ (v := .agg (hashC s (.slice A2 r cap2) l.length).toArray) (hy := (fun w hSw => hy_bld (ps' := #[(0, .agg (wvs s.list).toArray), (1, .slice A2 r cap2), (2, .int .i64 (l.length : Int))]) rfl (by kernel_rfl) _ (bldHash w s A2 r cap2 l.length)))
 refine tcd 14 (some 19) (fun K hK => ?_)
 refine wp_boxS rfl (hashC s (.slice A2 r cap2) l.length) rfl (fun w3 h3' f3 z3 => hK _ w3 (hHeld.keep_nil f3) fun hHx => ?_)
 clear hHeld
 have hHeld := hHx
 clear hHx
 clear hK K
 try simp only [Act.put, p1, p2, p3]
 refine tw 15 2 hHeld ?_
 refine wpAnyH_done (by kernel_rfl) ?_ _
 go_wp2_with fail
 go_ret
 obtain ⟨hq, hs, hr⟩ := HQ.out ()
 have s0 := FQ.size
 refine ⟨w2.heap.size, .slice A2 r cap2, rfl, F2.size, ⟨?_, ?_, ?_⟩, F2.trans_nil f3⟩
 ·rw [hs]; exact h3'
 ·rw [hq, hr]; exact (r2.keep_nil f3).mono s0
 ·exact (F2.trans_nil f3).size
def outA (s : S8) (k : Nat) : List UInt8 := (s.list.take k).flatMap wordB ++ List.replicate (32 - 4 * k) 0
theorem outA_len (s : S8) : ∀ k, k ≤ 8 → (outA s k).length = 32
 | 0, _ => rfl | 1, _ => rfl | 2, _ => rfl | 3, _ => rfl | 4, _ => rfl | 5, _ => rfl | 6, _ => rfl | 7, _ => rfl | 8, _ => rfl
 | n + 9, h => by omega
theorem outA_set (s : S8) : ∀ k, k < 8 → ∀ x, s.list.getD k 0 = x → ((((outA s k).set (4 * k) (UInt8.ofNat (x.toNat / 2 ^ 24))).set (4 * k + 1) (UInt8.ofNat (x.toNat / 2 ^ 16))).set (4 * k + 2) (UInt8.ofNat (x.toNat / 2 ^ 8))).set (4 * k + 3) (UInt8.ofNat x.toNat) = outA s (k + 1)
 | 0, _, _, rfl => rfl | 1, _, _, rfl => rfl | 2, _, _, rfl => rfl | 3, _, _, rfl => rfl | 4, _, _, rfl => rfl | 5, _, _, rfl => rfl | 6, _, _, rfl => rfl | 7, _, _, rfl => rfl
 | n + 8, h, _, _ => by omega
theorem outA_zero (s : S8) : outA s 0 = zB 32 := rfl
theorem outA_all (s : S8) : outA s 8 = s.list.flatMap wordB := rfl
theorem blkB_set {w : World} {g : Nat} {t : TypeId} {l : List UInt8} (hb : Blk w g t (bvs l).toArray) (i : Nat) (x : UInt8) : Blk (w.setCell ⟨g, i, none⟩ (bv x)) g t (bvs (l.set i x)).toArray := by
 have := hb.set_ i (bv x)
 rwa [List.setIfInBounds_toArray, show (bvs l).set i (bv x) = bvs (l.set i x) by simp [bvs, List.map_set]] at this
theorem u8_of (m : Nat) : Value.int .u8 (IntKind.u8.wrap (m : Int)) = bv (UInt8.ofNat m) := by
 unfold bv
 congr 1
theorem uw_byte_at (x : UInt32) (n : Nat) : Value.int .u8 (IntKind.u8.wrap (uw x / 2 ^ n)) = bv (UInt8.ofNat (x.toNat / 2 ^ n)) := by
 have e : (uw x / 2 ^ n) = ((x.toNat / 2 ^ n : Nat) : Int) := by unfold uw; push_cast; rfl
 rw [e, u8_of]
theorem uw_byte_0 (x : UInt32) : Value.int .u8 (IntKind.u8.wrap (uw x)) = bv (UInt8.ofNat x.toNat) := u8_of x.toNat
def beK (n k : Nat) : List UInt8 := (List.range k).map fun i => UInt8.ofNat (n / 2 ^ (56 - 8 * i))
theorem beK_succ (n k : Nat) : beK n (k + 1) = beK n k ++ [UInt8.ofNat (n / 2 ^ (56 - 8 * k))] := by simp [beK, List.range_succ]
theorem beK_all (n : Nat) : beK n 8 = be8 n := rfl
theorem beK_len (n k : Nat) : (beK n k).length = k := by simp [beK]
end
section
open Go.RowKit
theorem KG.pos {w : World} (h : KG w) : 0 < w.heap.size := World.block_lt_of_cell? w ⟨0, 0 + 0, none⟩ (h 0 _ rfl)
theorem be_byte2 (n j : Nat) : Value.int .u8 ((n : Int) * 8 / 2 ^ j % 256) = bv (UInt8.ofNat (n * 8 / 2 ^ j)) := by
 rw [← u8_of, IntKind.wrap_u8]
 congr 2
theorem blk_out {w : World} {g : Nat} {t : TypeId} {s : S8} {k : Nat} {x : UInt32} (hb : Blk w g t (bvs (outA s k)).toArray) (hk : k < 8) (hx : s.list.getD k 0 = x) {v0 v1 v2 v3 : Value} (h0 : v0 = bv (UInt8.ofNat (x.toNat / 2 ^ 24))) (h1 : v1 = bv (UInt8.ofNat (x.toNat / 2 ^ 16))) (h2 : v2 = bv (UInt8.ofNat (x.toNat / 2 ^ 8))) (h3 : v3 = bv (UInt8.ofNat x.toNat)) :
  Blk ((((w.setCell ⟨g, 4 * k, none⟩ v0).setCell ⟨g, 4 * k + 1, none⟩ v1).setCell ⟨g, 4 * k + 2, none⟩ v2).setCell ⟨g, 4 * k + 3, none⟩ v3) g t (bvs (outA s (k + 1))).toArray := by
 rw [h0, h1, h2, h3, ← outA_set s k hk x hx]
 exact blkB_set (blkB_set (blkB_set (blkB_set hb _ _) _ _) _ _) _ _
theorem pad_row {w : World} {B g m : Nat} (hb : Blk w g 5 (List.replicate m (.int .u8 0)).toArray) (hm : 0 < m) (hmm : m ≤ maxLen) (hB : B ≤ g) :
  Row (w.setCell ⟨g, 0, none⟩ (.int .u8 128)) B 5 1 (.slice (some ⟨g, 0, none⟩) m m) m (bvs (128 :: List.replicate (m - 1) 0)) := by
 refine ⟨by simp [bvs]; omega, .inr ⟨g, m, _, (0, 0), rfl, hB, hb.set_ 0 _, free_zero _, Nat.le_refl _, hmm, by simp, ?_⟩⟩
 obtain ⟨k, rfl⟩ : ∃ k, m = k + 1 := ⟨m - 1, by omega⟩
 rw [List.setIfInBounds_toArray, List.replicate_succ, List.set_cons_zero]
 rw [Nat.add_sub_cancel, Nat.mul_one]
 rw [show bvs (128 :: List.replicate k 0) = .int .u8 128 :: List.replicate k (.int .u8 0) by simp [bvs, bv]]
 rw [List.take_of_length_le (by simp)]
set_option maxRecDepth 100000 in
set_option maxHeartbeats 4000000 in
theorem hSum_any {w : World} {g B : Nat} {v : Value} {l : List UInt8} (h : Hsh w g B v l) (hN : l.length ≤ 140737488355200) (hK : KG w) :
  Calls Tryz.prog 137 #[.pointer (some ⟨g, 0, none⟩)] w fun e w' => e = .returned (.agg (bvs (shaSum l)).toArray) ∧ Fr [] w w' := by
 have p0 := hK.pos
 go_enter Tryz.func137, Tryz.ntmps137
 go_wp2_with
  (first
   | (refine wpList_alS stA32 (o := ⟨some 2, _, _, _, _, _⟩) rfl rfl ?_; intro w1 h1 f1 z1; have Z1 := Lib.hid z1; clear z1; obtain ⟨g1, hg1⟩ : ∃ g1, w.heap.size = g1 := ⟨_, rfl⟩; rw [hg1] at h1; rw [hg1]; have HG1 := Lib.hid hg1; clear hg1)
   | (refine wpList_alS stA32 (o := ⟨some 3, _, _, _, _, _⟩) rfl rfl ?_; intro w2 h2 f2 z2; have Z2 := Lib.hid z2; clear z2; obtain ⟨g2, hg2⟩ : ∃ g2, w1.heap.size = g2 := ⟨_, rfl⟩; rw [hg2] at h2; rw [hg2]; have HG2 := Lib.hid hg2; clear hg2))
 have G1 : w.heap.size = g1 := HG1.out
 have G12 : g1 < g2 := by have := HG2.out; have := h1.lt; omega
 have F2 := f1.trans_nil f2
 refine (hFork_any (h.keep_nil F2)).mono ?_
 rintro e w3 ⟨gf, vf, rfl, hgf, hF, f3⟩
 have F3 := F2.trans_nil f3
 have hlt2 := h2.lt
 have G2f : g2 < gf := by omega
 have i1 := (h1.keep_nil f2).keep_nil f3
 have i2 := h2.keep_nil f3
 obtain ⟨-, c9⟩ := hash_cells (h.keep_nil F3).blk
 obtain ⟨n, hn⟩ : ∃ n, l.length = n := ⟨_, rfl⟩
 rw [hn] at c9 hN
 have HNN := Lib.hid hn
 clear h1 h2 f1 f2 f3 hn F2
 obtain ⟨m, hm⟩ : ∃ m, (119 - n % 64) % 64 + 1 = m := ⟨_, rfl⟩
 have mlt : m ≤ 64 := by omega
 have mpos : 0 < m := by omega
 have hm1 : (119 - (n : Int)) % 64 + 1 = (m : Int) := by omega
 have HM := Lib.hid hm
 clear hm
 have k9 := c9
 go_wp2_with
  (first
   | (at_make; go_loud (refine wpList_mk1 rfl rfl slB rfl .i64 .i64 _ _ m rfl rfl rfl rfl (by omega) ?_; intro w4 b4 r4 f4 z4; have Z4 := Lib.hid z4; clear z4 r4; obtain ⟨gm, hgm⟩ : ∃ gm, w3.heap.size = gm := ⟨_, rfl⟩; rw [hgm] at b4; rw [hgm]; have HGM := Lib.hid hgm; clear hgm; have cm := b4.cell 0; have zm := b4.frozen 0; rw [show (List.replicate m (Value.int .u8 0)).toArray[0]? = some (.int .u8 0) by rw [List.getElem?_toArray, List.getElem?_replicate, if_pos mpos]] at cm)))
 have fx : Fr [] w3 (w4.setCell ⟨gm, 0, none⟩ (.int .u8 128)) := f4.setCell (.inr (by have := HGM.out; dsimp only; omega)) _
 have r5 := pad_row (B := w3.heap.size) b4 mpos (by unfold maxLen; omega) (by have := HGM.out; omega)
 generalize w4.setCell ⟨gm, 0, none⟩ (.int .u8 128) = w5 at *
 have HGX := Lib.hid (show n = l.length from HNN.out.symm)
 clear b4 cm zm f4 c9 hm1
 have U1 : IntKind.u64.wrap (n : Int) = n := by rw [IntKind.wrap_u64]; omega
 have U2 : IntKind.u64.wrap ((n : Int) * 8) = (n : Int) * 8 := by rw [IntKind.wrap_u64]; omega
 obtain ⟨pad0, hpad⟩ : ∃ p, (128 :: List.replicate (m - 1) 0 : List UInt8) = p := ⟨_, rfl⟩
 rw [hpad] at r5
 have HPD := Lib.hid (fun _ : Unit => hpad)
 have hlp : pad0.length = m := by rw [← hpad]; simp; omega
 have HLP := Lib.hid hlp
 clear hpad hlp
 go_loopw [5, 25] (fun v i wr => ∃ k : Nat, k ≤ 8 ∧ i = .int .i64 k ∧ Row wr w3.heap.size 5 1 v (m + k) (bvs (pad0 ++ beK (n * 8) k)) ∧ Fr [] w3 wr) (fun _ i _ => 8 - (intOf i).toNat)
 case atStart => exact ⟨0, Nat.zero_le _, rfl, by rw [show beK (n * 8) 0 = [] from rfl, List.append_nil]; exact r5, fx⟩
 case round =>
  clear r5 fx
  obtain ⟨k, hk, rfl, r6, fr⟩ := hrel
  obtain ⟨A6, cap6, rfl, -, -, rd6, blk6, -⟩ := r6.shape
  have k6 := fr.cell (by simp) k9
  by_cases hlt : k < 8
  ·go_wp2_with
    (first
     | (at_builtin; go_loud (refine wpList_app rfl rfl slB w3.heap.size _ (m + k) (bvs (pad0 ++ beK (n * 8) k)) rfl (r6.alloc _) _ 1 1 [_] rfl rfl (Rd.one _ _ _) (by intro u hu; rw [List.mem_singleton.1 hu]; rfl) (fun h => by cases h) (by omega) (by have := fr.size; simp; omega) ?_; intro v7 w7 q1 q2 q3 q4)))
   refine ⟨⟨k + 1, by omega, by go_num, ?_, (fr.alloc _).trans q2 (fun i hi => .inr ?_)⟩, by simp [intOf]; omega⟩
   ·rw [be_byte2, show ∀ x : UInt8, [bv x] = bvs [x] from fun _ => rfl, ← bvs_append, List.append_assoc, ← beK_succ] at q1
    exact q1
   ·exact (r6.lt i (mem_own.1 hi)).1
  ·obtain rfl : k = 8 := by omega
   have hpb : pad0 ++ beK (n * 8) 8 = padB l.length := by
    rw [← HPD.out (), beK_all, padB, HNN.out]
    have e : m - 1 = (119 - n % 64) % 64 := by have := HM.out; omega
    rw [e]
   rw [hpb] at r6 rd6
   have hpl : (padB l.length).length = m + 8 := by rw [← hpb, List.length_append, HLP.out, beK_len]
   have hF6 := hF.keep_nil fr
   have hK6 := hK.keep (F3.trans_nil fr)
   have hgl := hF.blk.lt
   have cc := hWrite_any hF6 A6 (m + 8) cap6 (padB l.length) hpl rd6 r6.rd.2.2 (fun g' o e _ => by have := (blk6 _ e).1; dsimp only at this; omega) (by rw [HNN.out]; omega) hK6 (by omega) (by omega)
   have HPL := Lib.hid (fun _ : Unit => hpl)
   clear hpb hpl
   go_wp2_with fail
   refine cc.mono ?_
   clear cc
   rintro e w6 ⟨rfl, v6, h6, f6, -⟩
   have n1 : ∀ i, i ≤ g2 → i ∉ gf :: vf.ownBlock.toList := fun i hi hm => by
    rcases List.mem_cons.1 hm with rfl | hm
    ·omega
    ·have := (hF.row.lt i (mem_own.1 hm)).1; omega
   have j1 := (i1.keep_nil fr).keep f6 (n1 _ (by omega))
   have j2 := (i2.keep_nil fr).keep f6 (n1 _ (Nat.le_refl _))
   have F6 : Fr [] w w6 := (F3.trans_nil fr).trans f6 (fun i hi => .inr (by
    rcases List.mem_cons.1 hi with rfl | hm
    ·omega
    ·have := (hF.row.lt i (mem_own.1 hm)).1; omega))
   obtain ⟨st, hst⟩ : ∃ s, shaRun first8 (l ++ padB l.length) ((l ++ padB l.length).length / 64) = s := ⟨_, rfl⟩
   have hb6 := h6.blk
   rw [hst] at hb6
   have rng := hash_rng hb6
   have HST := Lib.hid (fun _ : Unit => (show shaSum l = st.list.flatMap wordB by rw [shaSum_eq, hst]))
   have RNG := Lib.hid (fun _ : Unit => rng)
   clear rng hb6 hst h6 r6 rd6 hF6 hF i1 i2 n1 f6
   rw [show zB 32 = outA st 0 from (outA_zero st).symm] at j2
   go_wp2_with
    (first
     | (refine wpList_ldS stW8 rfl rfl gf 0 rfl (wvs st.list) (by rw [wvs_length]; rfl) (RNG.out ()) ?_))
   go_loopw [50] (fun i wr => ∃ k : Nat, k ≤ 8 ∧ i = .int .i64 k ∧ Blk wr g2 39 (bvs (outA st k)).toArray ∧ Blk wr g1 39 (bvs (zB 32)).toArray ∧ Fr [] w wr) (fun i _ => 8 - (intOf i).toNat)
   case atStart => exact ⟨0, Nat.zero_le _, rfl, j2, j1, F6⟩
   case round =>
    clear j1 j2 F6 RNG
    obtain ⟨k, hk, rfl, j2, j1, F⟩ := hrel
    by_cases hlt : k < 8
    ·have ol := outA_len st k hk
     have c0 := blkB_at j2 (i := 4 * k) (by omega)
     have c1 := blkB_at j2 (i := 4 * k + 1) (by omega)
     have c2 := blkB_at j2 (i := 4 * k + 2) (by omega)
     have c3 := blkB_at j2 (i := 4 * k + 3) (by omega)
     have z0 := j2.frozen (4 * k)
     have z1 := j2.frozen (4 * k + 1)
     have z2 := j2.frozen (4 * k + 2)
     have z3 := j2.frozen (4 * k + 3)
     have ct : (wvs st.list).toArray[k]? = some (.int .u32 (uw (st.list.getD k 0))) := by
      have : k < st.list.length := hlt
      rw [List.getElem?_toArray, wvs_at this]; simp [this]
     obtain ⟨x, hx⟩ : ∃ x, st.list.getD k 0 = x := ⟨_, rfl⟩
     rw [hx] at ct
     have CT := Lib.hid ct
     have HX := Lib.hid hx
     clear hx ct ol
     go_wp2_with
      (first
       | (refine wpList_ix1 (o := ⟨some 53, _, _, _, _, _⟩) Tryz.underlying157 Tryz.underlying156 rfl (by kernel_rfl) rfl rfl (wvs st.list).toArray rfl .i64 k rfl hlt _ CT.out ?_))
     have j3 := blk_out j2 hlt HX.out (v0 := .int .u8 (uw x / 16777216 % 256)) (v1 := .int .u8 (uw x / 65536 % 256)) (v2 := .int .u8 (uw x / 256 % 256)) (v3 := .int .u8 (uw x % 256)) (by rw [← uw_byte_at, IntKind.wrap_u8]; rfl) (by rw [← uw_byte_at, IntKind.wrap_u8]; rfl) (by rw [← uw_byte_at, IntKind.wrap_u8]; rfl) (by rw [← uw_byte_0, IntKind.wrap_u8])
     have fs : Fr [g2] wr _ := ((((Fr.refl [g2] wr).setCell (p := ⟨g2, 4 * k, none⟩) (.inl (by simp)) (.int .u8 (uw x / 16777216 % 256))).setCell (p := ⟨g2, 4 * k + 1, none⟩) (.inl (by simp)) (.int .u8 (uw x / 65536 % 256))).setCell (p := ⟨g2, 4 * k + 2, none⟩) (.inl (by simp)) (.int .u8 (uw x / 256 % 256))).setCell (p := ⟨g2, 4 * k + 3, none⟩) (.inl (by simp)) (.int .u8 (uw x % 256))
     exact ⟨⟨k + 1, by omega, by go_num, j3, j1.keep fs (by simp; omega), F.trans fs (fun i hi => .inr (by simp at hi; omega))⟩, by simp [intOf]; omega⟩
    ·obtain rfl : k = 8 := by omega
     rw [outA_all] at j2
     go_wp2_with
      (first
       | (refine wpList_ldS stA32 rfl rfl g2 0 rfl (bvs (st.list.flatMap wordB)) (by rw [bvs_length]; rfl) j2.range0 ?_)
       | (refine wpList_stB stA32 rfl rfl g1 rfl (bvs (st.list.flatMap wordB)) rfl (by rw [bvs_length]; rfl) (bvs_one _) (bvs (zB 32)) rfl j1 ?_; intro wc hc fc zc))
     try simp only [Exit.inBlock, Exit.then]
     refine bodyPost_ret (results_cell stA32 rfl rfl (by rw [bvs_length]; rfl) hc) rfl ?_
     exact ⟨by rw [HST.out ()], F.trans fc (fun i hi => .inr (by simp at hi; omega))⟩
end
section
open Go.RowKit
set_option maxRecDepth 100000 in
set_option maxHeartbeats 1000000 in
theorem sum_any (A : Option Addr) (l : List UInt8) (n c : Nat) (w : World) (hn : l.length = n) (hr : Rd w A (bvs l)) (hA : A = none → n = 0) (hN : n ≤ 140737488355200) (hK : KG w) :
  Calls Tryz.prog 160 #[.slice A n c] w fun e w' => e = .returned (.agg (bvs (shaSum l)).toArray) ∧ Fr [] w w' := by
 have p0 := hK.pos
 have HN := Lib.hid hn
 clear hn
 go_enter Tryz.func160, Tryz.ntmps160
 go_wp2_with
  (first
   | (refine wpList_alS stA32 (o := ⟨some 2, _, _, _, _, _⟩) rfl rfl ?_; intro w1 h1 f1 z1; have Z1 := Lib.hid z1; clear z1; obtain ⟨g1, hg1⟩ : ∃ g1, w.heap.size = g1 := ⟨_, rfl⟩; rw [hg1] at h1; rw [hg1]; have HG1 := Lib.hid hg1; clear hg1))
 have G1 : w.heap.size = g1 := HG1.out
 refine (newHash_any w1).mono ?_
 rintro e w2 ⟨g, rfl, hg, hh, f2⟩
 have s1 := h1.lt
 have F2 := f1.trans_nil f2
 have i1 := h1.keep_nil f2
 go_wp2_with fail
 have hgl := hh.blk.lt
 have cc := hWrite_any hh A n c l HN.out (hr.keep_nil F2) hA (fun g' o e hne => by
  obtain ⟨g2, o2, e2, h2⟩ := hr.lt (by intro h0; apply hne; simpa [bvs] using h0)
  rw [e] at e2
  cases e2
  have := F2.size
  have := f1.size
  omega) (by simp; omega) (hK.keep F2) (by omega) (by omega)
 refine cc.mono ?_
 clear cc
 rintro e w3 ⟨rfl, v3, h3, f3, -⟩
 rw [List.nil_append] at h3
 have F3 : Fr [] w w3 := F2.trans f3 (fun i hi => .inr (by
  rcases List.mem_cons.1 hi with rfl | hi
  ·have := f1.size; omega
  ·exact absurd hi (by simp [Value.ownBlock])))
 have i3 := i1.keep f3 (fun hi => by
  rcases List.mem_cons.1 hi with rfl | hi
  ·omega
  ·exact absurd hi (by simp [Value.ownBlock]))
 go_wp2_with fail
 refine (hSum_any h3 (by rw [HN.out]; omega) (hK.keep F3)).mono ?_
 rintro e w4 ⟨rfl, f4⟩
 have i4 := i3.keep_nil f4
 have hl := shaSum_length l
 have HL := Lib.hid hl
 clear hl
 obtain ⟨q, hq⟩ : ∃ q, shaSum l = q := ⟨_, rfl⟩
 rw [hq] at HL ⊢
 have HQ := Lib.hid (fun _ : Unit => hq)
 clear hq
 go_wp2_with
  (first
   | (refine wpList_stB stA32 rfl rfl g1 rfl (bvs q) rfl (by rw [bvs_length, HL.out]) (bvs_one _) (bvs (zB 32)) rfl i4 ?_; intro wc hc fc zc))
 try simp only [Exit.inBlock, Exit.then]
 refine bodyPost_ret (results_cell stA32 rfl rfl (by rw [bvs_length, HL.out]) hc) rfl ?_
 exact ⟨by rw [HQ.out ()], (F3.trans_nil f4).trans fc (fun i hi => .inr (by simp at hi; omega))⟩
end
section
open Go.RowKit
def plb (q : List UInt8) (k n : Nat) : List UInt8 := q.take k ++ List.replicate (n - k) 0
theorem plb_len (q : List UInt8) (k n : Nat) (hq : q.length = n) (hk : k ≤ n) : (plb q k n).length = n := by
 rw [plb, List.length_append, List.length_take, List.length_replicate]; omega
theorem plb_zero (q : List UInt8) (n : Nat) : plb q 0 n = List.replicate n 0 := by simp [plb]
theorem plb_all (q : List UInt8) (n : Nat) (hq : q.length = n) : plb q n n = q := by
 rw [plb, Nat.sub_self, List.take_of_length_le (by omega), List.replicate_zero, List.append_nil]
theorem plb_set (q : List UInt8) (k n : Nat) (hq : q.length = n) (hk : k < n) : (plb q k n).set k (q.getD k 0) = plb q (k + 1) n := by
 have hl : (q.take k).length = k := by rw [List.length_take]; omega
 have hg : q.getD k 0 = q[k] := by simp [hq, hk]
 rw [hg, plb, plb, show n - k = (n - (k + 1)) + 1 by omega, List.replicate_succ, List.set_append_right _ _ (by omega), hl, Nat.sub_self, List.set_cons_zero, List.take_succ_eq_append_getElem (by omega), List.append_assoc]
 rfl
theorem dig_at (s : S8) : ∀ i, i < 32 → (s.list.flatMap wordB).getD i 0 = UInt8.ofNat ((s.list.getD (i / 4) 0).toNat / 2 ^ (24 - 8 * (i % 4)))
 | 0, _ | 1, _ | 2, _ | 3, _ | 4, _ | 5, _ | 6, _ | 7, _ | 8, _ | 9, _ | 10, _ | 11, _ | 12, _ | 13, _ | 14, _ | 15, _ | 16, _ | 17, _ | 18, _ | 19, _ | 20, _ | 21, _ | 22, _ | 23, _ | 24, _ | 25, _ | 26, _ | 27, _ | 28, _ | 29, _ | 30, _ | 31, _ => by simp [S8.list, wordB]
 | n + 32, h => by omega
def sLen : Value → Nat
 | .slice _ n _ => n
 | _ => 0
set_option maxRecDepth 100000 in
set_option maxHeartbeats 4000000 in
theorem xSum_any (A : Option Addr) (l : List UInt8) (n c : Nat) (w : World) (hn : l.length = n) (hr : Rd w A (bvs l)) (hA : A = none → n = 0) (hN : n ≤ 140737488355200) :
  Calls Tryz.prog 50 #[.slice A n c] w fun e w' => e = .returned (.agg (bvs (shaSum l)).toArray) ∧ Fr [] w w' := by
 have HNN := Lib.hid hn
 have HR := Lib.hid (fun _ : Unit => hr)
 clear hn hr
 go_enter Tryz.func50, Tryz.ntmps50
 go_wp2_with
  (first
   | (refine wpList_alS stA32 (o := ⟨some 2, _, _, _, _, _⟩) rfl rfl ?_; intro w1 h1 f1 z1; have Z1 := Lib.hid z1; clear z1; obtain ⟨g1, hg1⟩ : ∃ g1, w.heap.size = g1 := ⟨_, rfl⟩; rw [hg1] at h1; rw [hg1]; have HG1 := Lib.hid hg1; clear hg1; have hr1 := (HR.out ()).keep_nil f1)
   | (at_builtin; refine wpList_app (o := ⟨some 14, _, _, _, _, _⟩) rfl rfl slB w1.heap.size (.slice (some ⟨w1.heap.size, 0, none⟩) 0 0) 0 [] rfl (Row.new w1 #[] 5 1 0 (0, 0) (free_zero _) (by unfold maxLen; omega) rfl (Nat.le_refl _)) A n c (bvs l) rfl (by rw [bvs_length, HNN.out]; omega) (hr1.alloc _) (bvs_one l) hA (by omega) (by simp) ?_; intro v2 w2 q1 q2 q3 q4)
   | (at_builtin; refine wpList_app (o := ⟨some 16, _, _, _, _, _⟩) rfl rfl slB w1.heap.size _ (0 + n) ([] ++ bvs l) rfl (q1.alloc _) _ 1 1 [_] rfl rfl (Rd.one _ _ _) (by intro u hu; rw [List.mem_singleton.1 hu]; rfl) (fun h => by cases h) (by omega) (by have := q2.size; simp at this; simp; omega) ?_; intro v3 w3 r1 r2 r3 r4))
 have G1 : w.heap.size = g1 := HG1.out
 have F2 : Fr [] w1 w2 := ((Fr.refl [] w1).alloc _).trans q2 (fun i hi => .inr (by rw [own_mem.1 hi]; exact Nat.le_refl _))
 have F3 : Fr [] w1 w3 := (F2.alloc _).trans r2 (fun i hi => .inr ((q1.lt i (mem_own.1 hi)).1))
 obtain ⟨J, hJ⟩ : ∃ J, (119 - n % 64) % 64 = J := ⟨_, rfl⟩
 have hJ2 : ∀ j, j ≤ J → (((n + 1 + j : Nat) : Int) % 64 = 56 ↔ j = J) := fun j hj => by omega
 have hJ3 : J < 64 := by omega
 have HJ := Lib.hid hJ
 have HJ2 := Lib.hid hJ2
 clear hJ hJ2 q1 q2 q3 q4 r2 r3 r4
 rw [show ([] ++ bvs l ++ [Value.int .u8 128]) = bvs (l ++ [128]) by rw [List.nil_append, bvs_append]; rfl, Nat.zero_add] at r1
 obtain ⟨B, hB⟩ : ∃ B, w1.heap.size = B := ⟨_, rfl⟩
 have hBl : B ≤ w1.heap.size := by omega
 rw [hB] at r1
 have HB := Lib.hid hB
 clear hB
 go_loopw [3] (fun v wr => ∃ j : Nat, j ≤ J ∧ Row wr B 5 1 v (n + 1 + j) (bvs (l ++ 128 :: List.replicate j 0)) ∧ Fr [] w1 wr) (fun v _ => J + n + 1 - sLen v)
 case atStart => exact ⟨0, Nat.zero_le _, r1, F3⟩
 case round =>
  clear r1 F3 F2
  obtain ⟨j, hj, r4, F4⟩ := hrel
  obtain ⟨A4, cap4, rfl, -, -, -, -, -⟩ := r4.shape
  by_cases hlt : j < J
  ·have d : (((n : Int) + 1 + (j : Int)) % 64 != 56) = true := by
    rw [bne_iff_ne]; intro h; have := (HJ2.out j hj).1 (by omega); omega
   go_wp2_with
    (first
     | (at_builtin; refine wpList_app rfl rfl slB B _ (n + 1 + j) (bvs (l ++ 128 :: List.replicate j 0)) rfl (r4.alloc _) _ 1 1 [_] rfl rfl (Rd.one _ _ _) (by intro u hu; rw [List.mem_singleton.1 hu]; rfl) (fun h => by cases h) (by omega) (by have := F4.size; simp; omega) ?_; intro v5 w5 q1 q2 q3 q4))
   obtain ⟨A5, cap5, rfl, -, -, -, -, -⟩ := q1.shape
   refine ⟨⟨j + 1, by omega, ?_, (F4.alloc _).trans q2 (fun i hi => .inr (by have := (r4.lt i (mem_own.1 hi)).1; have := HB.out; omega))⟩, by simp [sLen]; omega⟩
   rw [show [Value.int .u8 0] = bvs [0] from rfl, ← bvs_append, List.append_assoc, List.cons_append, ← List.replicate_succ'] at q1
   exact q1
  ·obtain rfl : j = J := by omega
   have d : (((n : Int) + 1 + (j : Int)) % 64 != 56) = false := by
    rw [bne_eq_false_iff_eq]; have := (HJ2.out j hj).2 rfl; omega
   have U1 : IntKind.u64.wrap (n : Int) = n := by rw [IntKind.wrap_u64]; omega
   have U2 : IntKind.u64.wrap ((n : Int) * 8) = (n : Int) * 8 := by rw [IntKind.wrap_u64]; omega
   go_wp2_with fail
   clear d
   obtain ⟨pad0, hpad⟩ : ∃ p, (128 :: List.replicate j 0 : List UInt8) = p := ⟨_, rfl⟩
   have hlp : pad0.length = 1 + j := by rw [← hpad]; simp; omega
   rw [hpad] at r4
   have HPD := Lib.hid (fun _ : Unit => hpad)
   have HLP := Lib.hid hlp
   clear hpad hlp hlt
   have r4' : Row wr B 5 1 (.slice A4 (n + 1 + j) cap4) (n + 1 + j) (bvs (l ++ (pad0 ++ beK (n * 8) 0))) := by rw [show beK (n * 8) 0 = [] from rfl, List.append_nil]; exact r4
   clear r4
   go_loopw [3, 5] (fun v i wr => ∃ k : Nat, k ≤ 8 ∧ i = .int .i64 k ∧ Row wr B 5 1 v (n + 1 + j + k) (bvs (l ++ (pad0 ++ beK (n * 8) k))) ∧ Fr [] w1 wr) (fun _ i _ => 8 - (intOf i).toNat)
   case atStart => exact ⟨0, Nat.zero_le _, rfl, r4', F4⟩
   case round =>
    clear r4' F4
    obtain ⟨k, hk, rfl, r6, fr⟩ := hrel
    obtain ⟨A6, cap6, rfl, -, -, -, -, -⟩ := r6.shape
    by_cases hlt : k < 8
    ·go_wp2_with
      (first
       | (at_builtin; refine wpList_app rfl rfl slB B _ (n + 1 + j + k) (bvs (l ++ (pad0 ++ beK (n * 8) k))) rfl (r6.alloc _) _ 1 1 [_] rfl rfl (Rd.one _ _ _) (by intro u hu; rw [List.mem_singleton.1 hu]; rfl) (fun h => by cases h) (by omega) (by have := fr.size; simp; omega) ?_; intro v7 w7 q1 q2 q3 q4))
     refine ⟨⟨k + 1, by omega, by go_num, ?_, (fr.alloc _).trans q2 (fun i hi => .inr ?_)⟩, by simp [intOf]; omega⟩
     ·rw [be_byte2, show ∀ x : UInt8, [bv x] = bvs [x] from fun _ => rfl, ← bvs_append, List.append_assoc, List.append_assoc, ← beK_succ] at q1
      exact q1
     ·have := (r6.lt i (mem_own.1 hi)).1; have := HB.out; omega
    ·obtain rfl : k = 8 := by omega
     have hpb : pad0 ++ beK (n * 8) 8 = padB l.length := by
      rw [← HPD.out (), beK_all, padB, HNN.out, HJ.out]
     rw [hpb] at r6
     obtain ⟨q, hq⟩ : ∃ q, l ++ padB l.length = q := ⟨_, rfl⟩
     obtain ⟨M, hM⟩ : ∃ M, n + 1 + j + 8 = M := ⟨_, rfl⟩
     have hql : q.length = M := by rw [← hq, ← hpb, List.length_append, List.length_append, HNN.out, HLP.out, beK_len]; omega
     have hM64 : M % 64 = 0 := by have := pad_whole l.length; rw [← hql, ← hq, List.length_append]; exact this
     rw [hq, hM] at r6
     try rw [hM]
     obtain ⟨ga, rfl⟩ : ∃ ga, A6 = some ⟨ga, 0, none⟩ := by
      rcases r6.2 with ⟨e, _⟩ | ⟨g', cap, cur, fz, e, _⟩
      ·injection e with e1 e2 e3; omega
      ·injection e with e1 e2 e3; exact ⟨g', e1⟩
     obtain ⟨N, hN64⟩ : ∃ N, M = 64 * N := ⟨M / 64, by omega⟩
     have HS := Lib.hid (fun _ : Unit => (show shaSum l = (shaRun first8 q N).list.flatMap wordB by rw [shaSum_eq, hq, hql, hN64, Nat.mul_div_cancel_left _ (by omega)]))
     have HQL := Lib.hid hql
     have HM := Lib.hid hM
     have hMle : M ≤ 140737488355328 := by omega
     clear hpb hq hM hql hM64 HLP HPD U1 U2 hlt
     have i1 := h1.keep_nil fr
     go_wp2_with fail
     refine (xFirst_any _).mono ?_
     rintro e w4 ⟨rfl, f4⟩
     have F4 := fr.trans_nil f4
     have i2 := i1.keep_nil f4
     have r7 := r6.keep_nil f4
     clear i1 r6 fr f4
     go_wp2_with
      (first
       | (refine wpList_alS stW8 (o := ⟨some 6, _, _, _, _, _⟩) rfl rfl ?_; intro w5 h5 f5 z5; have Z5 := Lib.hid z5; clear z5; obtain ⟨g6, hg6⟩ : ∃ g6, w4.heap.size = g6 := ⟨_, rfl⟩; rw [hg6] at h5; rw [hg6]; have HG6 := Lib.hid hg6; clear hg6)
       | (refine wpList_stB stW8 rfl rfl g6 rfl (wvs first8.list) rfl (by rw [wvs_length]; rfl) (wvs_one _) (wvs (zW 8)) rfl h5 ?_; intro w6 h6 f6 z6))
     have g1B : g1 < B := by have := HB.out; have := h1.lt; omega
     have g6B : B ≤ g6 := by have := HG6.out; have := HB.out; have := F4.size; omega
     have F6 : Fr [] w1 w6 := (F4.trans_nil f5).trans f6 (fun i hi => .inr (by simp at hi; have := HB.out; omega))
     have i6 := (i2.keep_nil f5).keep f6 (by simp; omega)
     have r8 := (r7.keep_nil f5).keep f6 (fun i hi hm => by
      have := (r7.lt i hi).2
      have := HG6.out
      simp at hm
      omega)
     have HF1 := Lib.hid f1
     clear i2 r7 f5 f6 h5 F4 f1 h1 hr1 z6
     obtain ⟨rd8, -, -⟩ := r8.rd
     have hg6 := h6.lt
     have gag : ga ≠ g6 := fun e => (r8.ne_blk h6 (by decide)) (by rw [e]; rfl)
     have gal : ga < w6.heap.size := (r8.lt ga rfl).2
     have HRD := Lib.hid (fun _ : Unit => rd8)
     have HI6 := Lib.hid (fun _ : Unit => i6)
     have HR8 := Lib.hid (fun _ : Unit => r8)
     have h6' : Blk w6 g6 157 (wvs (shaRun first8 q 0).list).toArray := h6
     clear h6 rd8 i6 r8
     go_loopw [7] (fun at_ wr => ∃ k : Nat, k ≤ N ∧ at_ = .int .i64 ((64 * k : Nat) : Int) ∧ Blk wr g6 157 (wvs (shaRun first8 q k).list).toArray ∧ Fr [g6] w6 wr) (fun at_ _ => M - (intOf at_).toNat)
     case atStart => exact ⟨0, Nat.zero_le _, rfl, h6', Fr.refl _ _⟩
     case round =>
      clear h6'
      obtain ⟨k, hk, rfl, h7, f7⟩ := hrel
      obtain ⟨z, hz⟩ : ∃ z, 64 * k = z := ⟨_, rfl⟩
      rw [hz]
      obtain ⟨st, hst⟩ : ∃ st, shaRun first8 q k = st := ⟨_, rfl⟩
      rw [hst] at h7
      by_cases hlt : k < N
      ·have hzM : z + 64 ≤ M := by omega
       have K1 : (z : Int) < (M : Int) := by omega
       obtain ⟨pc, hpc⟩ : ∃ pc, (q.drop z).take 64 = pc := ⟨_, rfl⟩
       have hpl : pc.length = 64 := by rw [← hpc, List.length_take, List.length_drop, HQL.out]; omega
       have HST := Lib.hid (fun _ : Unit => (show shaRun first8 q (k + 1) = shaBlk st pc by rw [← hst, ← hpc, ← hz]; rfl))
       have HPC := Lib.hid (fun _ : Unit => (show ∀ t, t < 64 → q[z + t]? = some (pc.getD t 0) by
        intro t ht
        have h1 : pc[t]? = q[z + t]? := by rw [← hpc, List.getElem?_take, if_pos ht, List.getElem?_drop]
        rw [← h1]
        simp [hpl, ht]))
       have HPL := Lib.hid hpl
       have HZ := Lib.hid hz
       have HKN := Lib.hid hlt
       clear hst hpc hpl hz hlt hk
       go_wp2_with
        (first
         | (refine wpList_alS stA64 (o := ⟨some 8, _, _, _, _, _⟩) rfl rfl ?_; intro w9 h9 f9 z9; have Z9 := Lib.hid z9; clear z9; obtain ⟨gp, hgp⟩ : ∃ gp, wr.heap.size = gp := ⟨_, rfl⟩; rw [hgp] at h9; rw [hgp]; have HGP := Lib.hid hgp; clear hgp))
       have gpw : w6.heap.size ≤ gp := by have := HGP.out; have := f7.size; omega
       have g6p : g6 < gp := by omega
       have h8 := h7.keep_nil f9
       have f8 := f7.trans_nil f9
       have h9' : Blk w9 gp 159 (bvs (plb pc 0 64)).toArray := by rw [plb_zero]; exact h9
       have hr9 : ∀ t, t < 64 → w9.cell? ⟨ga, z + t, none⟩ = some (.int .u8 ((pc.getD t 0).toNat : Int)) := fun t ht => by
        obtain ⟨g', o', e', hc⟩ := HRD.out () (by intro h0; have := congrArg List.length h0; rw [bvs_length, HQL.out, List.length_nil] at this; omega)
        cases e'
        have hx := hc (z + t) (bv (pc.getD t 0)) (by rw [bvs, List.getElem?_map, HPC.out () t ht]; rfl)
        rw [Nat.zero_add] at hx
        exact f8.cell (by simpa using gag) hx
       clear h9 h7 f7
       have gap : ga < gp := by omega
       have f8w : Fr [g6] w6 w9 := f8
       go_loopw [9] (fun i wi => ∃ t : Nat, t ≤ 64 ∧ i = .int .i64 t ∧ Blk wi gp 159 (bvs (plb pc t 64)).toArray ∧ Fr [gp] w9 wi) (fun i _ => 64 - (intOf i).toNat)
       case atStart => exact ⟨0, Nat.zero_le _, rfl, h9', Fr.refl _ _⟩
       case round =>
        clear h9'
        obtain ⟨t, ht, rfl, h10, f10⟩ := hrel
        by_cases hlt : t < 64
        ·have c1 := f10.cell (p := ⟨ga, z + t, none⟩) (by simp; omega) (hr9 t hlt)
         have pll := plb_len pc t 64 HPL.out ht
         have c2 := blkB_at h10 (i := t) (by omega)
         have z2 := h10.frozen t
         have hse := plb_set pc t 64 HPL.out hlt
         obtain ⟨x, hx⟩ : ∃ x, pc.getD t 0 = x := ⟨_, rfl⟩
         rw [hx] at c1 hse
         have HSE := Lib.hid hse
         have K2 : (z : Int) + t < M := by omega
         clear hse hx pll
         go_wp2_with fail
         have h11 := blkB_set h10 t x
         rw [HSE.out] at h11
         exact ⟨⟨t + 1, by omega, by go_num, h11, f10.setCell (.inl (by simp)) _⟩, by simp [intOf]; omega⟩
        ·obtain rfl : t = 64 := by omega
         rw [plb_all _ _ HPL.out] at h10
         have h11 := h8.keep f10 (by simp; omega)
         have f11 : Fr [g6] w6 _ := f8w.trans f10 (fun i hi => .inr (by simp at hi; omega))
         go_wp2_with
          (first
           | (refine wpList_ldS stW8 rfl rfl g6 0 rfl (wvs st.list) (by rw [wvs_length]; rfl) h11.range0 ?_)
           | (refine wpList_ldS stA64 rfl rfl gp 0 rfl (bvs pc) (by rw [bvs_length, HPL.out]) h10.range0 ?_))
         refine (xBlock_any _ st pc HPL.out).mono ?_
         rintro e w12 ⟨rfl, f12⟩
         have h12 := h11.keep_nil f12
         have f13 := f11.trans_nil f12
         obtain ⟨su, hsu⟩ : ∃ su, shaBlk st pc = su := ⟨_, rfl⟩
         rw [hsu]
         have HSU := Lib.hid (fun _ : Unit => hsu)
         clear hsu
         go_wp2_with
          (first
           | (refine wpList_stB stW8 rfl rfl g6 rfl (wvs su.list) rfl (by rw [wvs_length]; rfl) (wvs_one _) (wvs st.list) (by rw [wvs_length]; rfl) h12 ?_; intro w14 h14 f14 z14))
         exact ⟨⟨k + 1, by have := HKN.out; omega, by have := HZ.out; congr 1; omega, by rw [HST.out (), HSU.out ()]; exact h14, f13.trans_same f14⟩, by simp [intOf]; omega⟩
      ·obtain rfl : k = N := by omega
       have K1 : ¬ ((z : Int) < (M : Int)) := by omega
       have HD := Lib.hid (fun _ : Unit => (show shaSum l = st.list.flatMap wordB by rw [HS.out (), hst]))
       clear hst hlt
       go_wp2_with
        (first
         | (refine wpList_alS stA32 (o := ⟨some 10, _, _, _, _, _⟩) rfl rfl ?_; intro w9 h9 f9 z9; have Z9 := Lib.hid z9; clear z9; obtain ⟨gp, hgp⟩ : ∃ gp, wr.heap.size = gp := ⟨_, rfl⟩; rw [hgp] at h9; rw [hgp]; have HGP := Lib.hid hgp; clear hgp))
       have gpw : w6.heap.size ≤ gp := by have := HGP.out; have := f7.size; omega
       have h8 := h7.keep_nil f9
       have f8 := f7.trans_nil f9
       obtain ⟨D, hD⟩ : ∃ D, st.list.flatMap wordB = D := ⟨_, rfl⟩
       have hDl : D.length = 32 := by rw [← hD]; rfl
       have HDA := Lib.hid (fun _ : Unit => (show ∀ t, t < 32 → D.getD t 0 = UInt8.ofNat ((st.list.getD (t / 4) 0).toNat / 2 ^ (24 - 8 * (t % 4))) by rw [← hD]; exact dig_at st))
       have HDL := Lib.hid hDl
       have HDD := Lib.hid (fun _ : Unit => hD)
       have h9' : Blk w9 gp 39 (bvs (plb D 0 32)).toArray := by rw [plb_zero]; exact h9
       clear h9 h7 f7 hD hDl hz
       go_loopw [11] (fun i wi => ∃ t : Nat, t ≤ 32 ∧ i = .int .i64 t ∧ Blk wi gp 39 (bvs (plb D t 32)).toArray ∧ Fr [gp] w9 wi) (fun i _ => 32 - (intOf i).toNat)
       case atStart => exact ⟨0, Nat.zero_le _, rfl, h9', Fr.refl _ _⟩
       case round =>
        clear h9'
        obtain ⟨t, ht, rfl, h10, f10⟩ := hrel
        by_cases hlt : t < 32
        ·have hx8 : (wvs st.list)[t / 4]? = some (.int .u32 (uw (st.list.getD (t / 4) 0))) := by
          have : t / 4 < st.list.length := by show t / 4 < 8; omega
          rw [wvs_at this]; simp [this]
         have c1 := (h8.keep f10 (by simp; omega)).cell (t / 4)
         rw [List.getElem?_toArray, hx8] at c1
         have pll := plb_len D t 32 HDL.out ht
         have c2 := blkB_at h10 (i := t) (by omega)
         have z2 := h10.frozen t
         have hse := plb_set D t 32 HDL.out hlt
         rw [HDA.out () t hlt] at hse
         obtain ⟨x, hx⟩ : ∃ x, st.list.getD (t / 4) 0 = x := ⟨_, rfl⟩
         rw [hx] at c1 hse
         have HSE := Lib.hid hse
         clear hse hx pll hx8
         go_wp2_with fail
         have h11 := blkB_set h10 t (UInt8.ofNat (x.toNat / 2 ^ (24 - 8 * (t % 4))))
         rw [HSE.out, ← uw_byte_at, IntKind.wrap_u8] at h11
         exact ⟨⟨t + 1, by omega, by go_num, h11, f10.setCell (.inl (by simp)) _⟩, by simp [intOf]; omega⟩
        ·obtain rfl : t = 32 := by omega
         rw [plb_all _ _ HDL.out] at h10
         have i9 := ((HI6.out ()).keep f8 (by simp; omega)).keep f10 (by simp; omega)
         have F9 : Fr [] w1 _ := (F6.trans f8 (fun i hi => .inr (by simp at hi; have := HB.out; omega))).trans f10 (fun i hi => .inr (by simp at hi; have := F6.size; omega))
         go_wp2_with
          (first
           | (refine wpList_ldS stA32 rfl rfl gp 0 rfl (bvs D) (by rw [bvs_length, HDL.out]) h10.range0 ?_)
           | (refine wpList_stB stA32 rfl rfl g1 rfl (bvs D) rfl (by rw [bvs_length, HDL.out]) (bvs_one _) (bvs (zB 32)) rfl i9 ?_; intro wc hc fc zc))
         try simp only [Exit.inBlock, Exit.then]
         refine bodyPost_ret (results_cell stA32 rfl rfl (by rw [bvs_length, HDL.out]) hc) rfl ?_
         refine ⟨by rw [HD.out (), HDD.out ()], (HF1.out.trans_nil F9).trans fc (fun i hi => .inr (by simp at hi; omega))⟩
end
section
open Go.RowKit
def pad512 (q : List UInt8) : List UInt8 := q ++ List.replicate (512 - q.length) 0
theorem pad512_len {q : List UInt8} (h : q.length ≤ 512) : (pad512 q).length = 512 := by rw [pad512, List.length_append, List.length_replicate]; omega
def markM : List UInt8 := [77, 65, 82, 75]
def doneM : List UInt8 := [68, 79, 78, 69]
def planM : List UInt8 := [80, 76, 65, 78]
def markR (n : Nat) : List UInt8 := markM ++ leB 8 n
theorem markR_len (n : Nat) : (markR n).length = 12 := by simp [markR, markM, leB_length]
def markB (n : Nat) : List UInt8 := pad512 (markR n ++ shaSum (markR n))
theorem markB_len (n : Nat) : (markB n).length = 512 := pad512_len (by rw [List.length_append, markR_len, shaSum_length]; omega)
theorem Rd.ofBm {w : World} {g : Nat} {t : TypeId} {l : List UInt8} (hb : Blk w g t (bvs l).toArray) : Rd w (some ⟨g, 0, none⟩) (bvs l) := Rd.of_blk hb 0 _ (fun j u hu => by rw [Nat.zero_add]; simpa using hu)
set_option maxHeartbeats 1000000 in
theorem rcBlock_rcMark1 (w : World) (g:Nat) (q : List UInt8) (hq : q.length ≤ 512) (hc : ∀ w1 p B v, Fr [] w w1 → w.heap.size ≤ p → w.heap.size ≤ B → Wrt w1 p B v 512 false [] → Calls Tryz.prog 157 #[.pointer (some ⟨p, 0, none⟩), .pointer (some ⟨g, 0, none⟩)] w1 fun e w' => e = .returned (.tuple #[]) ∧ WPost w1 w' p B v 512 q) :
  Calls Tryz.prog 161 #[.func (.func 157) #[] #[.pointer (some ⟨g, 0, none⟩)]] w fun e w' => ∃ r, e = .returned r ∧ Row w' w.heap.size 5 1 r 512 (bvs (pad512 q)) ∧ Fr [] w w' := by
 go_enter Tryz.func161, Tryz.ntmps161
 go_wp2_with fail
 have cc := newWriter_any 512 w
 rw [show sizeN 512 = 512 from rfl] at cc
 refine cc.mono ?_
 clear cc
 rintro e w1 ⟨rfl, h1, f1, z1⟩
 go_wp2_with fail
 refine (hc w1 _ _ _ f1 (Nat.le_refl _) (Nat.le_refl _) h1).mono ?_
 rintro e w2 ⟨rfl, v2, h2, f2, g2⟩
 have F2 : Fr [] w w2 := f1.trans f2 (fun i hi => by
  rcases List.mem_cons.1 hi with rfl | hi
  ·exact .inr (Nat.le_refl _)
  ·exact (own_nil.1 hi).elim)
 go_wp2_with fail
 refine (wDone_ok h2).mono ?_
 rintro e w3 ⟨r, rfl, h3, f3⟩
 go_wp2_with fail
 go_ret
 exact ⟨r, rfl, h3.mono F2.size, F2.trans_nil f3⟩
set_option maxHeartbeats 1000000 in
theorem rcBlock_rcMark2 (w : World) (g d:Nat) (q : List UInt8) (hq : q.length ≤ 512) (hc : ∀ w1 p B v, Fr [] w w1 → w.heap.size ≤ p → w.heap.size ≤ B → Wrt w1 p B v 512 false [] → Calls Tryz.prog 162 #[.pointer (some ⟨p, 0, none⟩), .pointer (some ⟨g, 0, none⟩), .pointer (some ⟨d, 0, none⟩)] w1 fun e w' => e = .returned (.tuple #[]) ∧ WPost w1 w' p B v 512 q) :
  Calls Tryz.prog 161 #[.func (.func 162) #[] #[.pointer (some ⟨g, 0, none⟩), .pointer (some ⟨d, 0, none⟩)]] w fun e w' => ∃ r, e = .returned r ∧ Row w' w.heap.size 5 1 r 512 (bvs (pad512 q)) ∧ Fr [] w w' := by
 go_enter Tryz.func161, Tryz.ntmps161
 go_wp2_with fail
 have cc := newWriter_any 512 w
 rw [show sizeN 512 = 512 from rfl] at cc
 refine cc.mono ?_
 clear cc
 rintro e w1 ⟨rfl, h1, f1, z1⟩
 go_wp2_with fail
 refine (hc w1 _ _ _ f1 (Nat.le_refl _) (Nat.le_refl _) h1).mono ?_
 rintro e w2 ⟨rfl, v2, h2, f2, g2⟩
 have F2 : Fr [] w w2 := f1.trans f2 (fun i hi => by
  rcases List.mem_cons.1 hi with rfl | hi
  ·exact .inr (Nat.le_refl _)
  ·exact (own_nil.1 hi).elim)
 go_wp2_with fail
 refine (wDone_ok h2).mono ?_
 rintro e w3 ⟨r, rfl, h3, f3⟩
 go_wp2_with fail
 go_ret
 exact ⟨r, rfl, h3.mono F2.size, F2.trans_nil f3⟩
set_option maxHeartbeats 1000000 in
theorem rcBlock_rcSeal1 (w : World) (g d:Nat) (q : List UInt8) (hq : q.length ≤ 512) (hc : ∀ w1 p B v, Fr [] w w1 → w.heap.size ≤ p → w.heap.size ≤ B → Wrt w1 p B v 512 false [] → Calls Tryz.prog 205 #[.pointer (some ⟨p, 0, none⟩), .pointer (some ⟨g, 0, none⟩), .pointer (some ⟨d, 0, none⟩)] w1 fun e w' => e = .returned (.tuple #[]) ∧ WPost w1 w' p B v 512 q) :
  Calls Tryz.prog 161 #[.func (.func 205) #[] #[.pointer (some ⟨g, 0, none⟩), .pointer (some ⟨d, 0, none⟩)]] w fun e w' => ∃ r, e = .returned r ∧ Row w' w.heap.size 5 1 r 512 (bvs (pad512 q)) ∧ Fr [] w w' := by
 go_enter Tryz.func161, Tryz.ntmps161
 go_wp2_with fail
 have cc := newWriter_any 512 w
 rw [show sizeN 512 = 512 from rfl] at cc
 refine cc.mono ?_
 clear cc
 rintro e w1 ⟨rfl, h1, f1, z1⟩
 go_wp2_with fail
 refine (hc w1 _ _ _ f1 (Nat.le_refl _) (Nat.le_refl _) h1).mono ?_
 rintro e w2 ⟨rfl, v2, h2, f2, g2⟩
 have F2 : Fr [] w w2 := f1.trans f2 (fun i hi => by
  rcases List.mem_cons.1 hi with rfl | hi
  ·exact .inr (Nat.le_refl _)
  ·exact (own_nil.1 hi).elim)
 go_wp2_with fail
 refine (wDone_ok h2).mono ?_
 rintro e w3 ⟨r, rfl, h3, f3⟩
 go_wp2_with fail
 go_ret
 exact ⟨r, rfl, h3.mono F2.size, F2.trans_nil f3⟩
set_option maxHeartbeats 1000000 in
theorem rcBlock_rcplan1 (w : World) (g d t:Nat) (q : List UInt8) (hq : q.length ≤ 512) (hc : ∀ w1 p B v, Fr [] w w1 → w.heap.size ≤ p → w.heap.size ≤ B → Wrt w1 p B v 512 false [] → Calls Tryz.prog 221 #[.pointer (some ⟨p, 0, none⟩), .pointer (some ⟨g, 0, none⟩), .pointer (some ⟨d, 0, none⟩), .pointer (some ⟨t, 0, none⟩)] w1 fun e w' => e = .returned (.tuple #[]) ∧ WPost w1 w' p B v 512 q) :
  Calls Tryz.prog 161 #[.func (.func 221) #[] #[.pointer (some ⟨g, 0, none⟩), .pointer (some ⟨d, 0, none⟩), .pointer (some ⟨t, 0, none⟩)]] w fun e w' => ∃ r, e = .returned r ∧ Row w' w.heap.size 5 1 r 512 (bvs (pad512 q)) ∧ Fr [] w w' := by
 go_enter Tryz.func161, Tryz.ntmps161
 go_wp2_with fail
 have cc := newWriter_any 512 w
 rw [show sizeN 512 = 512 from rfl] at cc
 refine cc.mono ?_
 clear cc
 rintro e w1 ⟨rfl, h1, f1, z1⟩
 go_wp2_with fail
 refine (hc w1 _ _ _ f1 (Nat.le_refl _) (Nat.le_refl _) h1).mono ?_
 rintro e w2 ⟨rfl, v2, h2, f2, g2⟩
 have F2 : Fr [] w w2 := f1.trans f2 (fun i hi => by
  rcases List.mem_cons.1 hi with rfl | hi
  ·exact .inr (Nat.le_refl _)
  ·exact (own_nil.1 hi).elim)
 go_wp2_with fail
 refine (wDone_ok h2).mono ?_
 rintro e w3 ⟨r, rfl, h3, f3⟩
 go_wp2_with fail
 go_ret
 exact ⟨r, rfl, h3.mono F2.size, F2.trans_nil f3⟩
set_option maxRecDepth 100000 in
set_option maxHeartbeats 1000000 in
theorem rcMark1_ok {w : World} {p B g n : Nat} {v : Value} (h : Wrt w p B v 512 false []) (hn : n < 18446744073709551616) (hb : Blk w g 57 #[.int .u64 (n : Int)]) :
  Calls Tryz.prog 157 #[.pointer (some ⟨p, 0, none⟩), .pointer (some ⟨g, 0, none⟩)] w fun e w' => e = .returned (.tuple #[]) ∧ WPost w w' p B v 512 (markR n) := by
 have kc := fun (w : World) (C : Array Value) (n c : Nat) => Lib.run_convert_bytes_const (P := Tryz.prog) w 27 5 C n c Tryz.underlying27 Tryz.underlying5
 go_enter Tryz.func157, Tryz.ntmps157
 go_wp2_with fail
 have ra := Rd.mark w markM 5 (4, 5)
 have fa : Fr [] w (w.alloc (.cells (bvs markM).toArray 5 (4, 5))) := (Fr.refl _ _).alloc _
 refine (wBytes_ok (h.keep_nil fa) _ 4 4 markM rfl ra (by simp) (fun g o e _ => by cases e; have := h.lt; omega) (by simp)).mono ?_
 rintro e w1 ⟨rfl, x1⟩
 have b1 := x1.blk (h.keep_nil fa) (hb.keep_nil fa) (by decide) (by decide)
 obtain ⟨v1, h1, f1, g1⟩ := WPost.trans (fa.mono (by simp)) (fun g hg => .inl hg) x1
 clear ra fa x1 hb kc
 rw [List.nil_append] at h1
 have c0 := b1.cell 0
 simp at c0
 go_wp2_with fail
 refine (wUint_ok h1 8 n rfl hn (by omega) (by rw [show markM.length = 4 from rfl]; omega)).mono ?_
 rintro e w2 ⟨rfl, x2⟩
 have y2 := WPost.trans f1 g1 x2
 go_wp2_with fail
 go_returns
 exact ⟨rfl, y2⟩
set_option maxRecDepth 100000 in
set_option maxHeartbeats 1000000 in
theorem rcMark2_ok {w : World} {p B g f d n : Nat} {v : Value} {D : List UInt8} (h : Wrt w p B v 512 false []) (hn : n < 18446744073709551616) (hb : Blk w g 57 #[.int .u64 (n : Int)]) (T : TypeId) (hf : Blk w f T #[.func (.func 157) #[] #[.pointer (some ⟨g, 0, none⟩)]]) (hT1 : T ≠ 223) (hT2 : T ≠ 5) (hd : Blk w d 39 (bvs D).toArray) (hD : D.length = 32) :
  Calls Tryz.prog 162 #[.pointer (some ⟨p, 0, none⟩), .pointer (some ⟨f, 0, none⟩), .pointer (some ⟨d, 0, none⟩)] w fun e w' => e = .returned (.tuple #[]) ∧ WPost w w' p B v 512 (markR n ++ D) := by
 have cf := hf.cell 0
 simp at cf
 have HD := Lib.hid hD
 clear hD
 go_enter Tryz.func162, Tryz.ntmps162
 go_wp2_with fail
 refine (rcMark1_ok h hn hb).mono ?_
 rintro e w1 ⟨rfl, x1⟩
 have d1 := x1.blk h hd (by decide) (by decide)
 have hpd : p ≠ d := fun e => (hd.ne_ h.1 (by decide)) e.symm
 obtain ⟨v1, h1, f1, g1⟩ := x1
 go_wp2_with fail
 refine (wBytes_ok h1 _ 32 32 D HD.out (Rd.ofBm d1) (by simp) (fun g o e _ => by cases e; exact hpd.symm) (by rw [markR_len]; omega)).mono ?_
 rintro e w2 ⟨rfl, x2⟩
 have y2 := WPost.trans f1 g1 x2
 go_wp2_with fail
 go_returns
 exact ⟨rfl, y2⟩
end
section
open Go.RowKit
set_option maxHeartbeats 400000 in
theorem xrcNumber_any (n x : Nat) (w : World) (hn : n ≤ 8) (hx : x < 18446744073709551616) : Calls Tryz.prog 166 #[.int .i64 n, .int .u64 x] w fun e w' => ∃ v, e = .returned v ∧ Row w' w.heap.size 5 1 v n (bvs (leB n x)) ∧ Fr [] w w' := by
 go_enter Tryz.func166, Tryz.ntmps166
 go_wp2_with fail
 go_loopw [5, 6] (fun v i wr => ∃ k : Nat, k ≤ n ∧ i = .int .i64 k ∧ Row wr w.heap.size 5 1 v k (bvs (leB k x)) ∧ Fr [] w wr) (fun _ i _ => n - (intOf i).toNat)
 case atStart => exact ⟨0, Nat.zero_le _, rfl, Row.nil _ _ _ _, Fr.refl _ _⟩
 case round =>
  obtain ⟨k, hk, rfl, r4, F4⟩ := hrel
  obtain ⟨A4, cap4, rfl, -, -, -, -, -⟩ := r4.shape
  by_cases hlt : k < n
  ·go_wp2_with
    (first
     | (at_builtin; refine wpList_app rfl rfl slB w.heap.size _ k (bvs (leB k x)) rfl (r4.alloc _) _ 1 1 [_] rfl rfl (Rd.one _ _ _) (by intro u hu; rw [List.mem_singleton.1 hu]; rfl) (fun h => by cases h) (by omega) (by have := F4.size; simp; omega) ?_; intro v5 w5 q1 q2 q3 q4))
   refine ⟨⟨k + 1, by omega, by go_num, ?_, (F4.alloc _).trans q2 (fun i hi => .inr (r4.lt i (mem_own.1 hi)).1)⟩, by simp [intOf]; omega⟩
   rw [leB_byte2, show ∀ x : UInt8, [bv x] = bvs [x] from fun _ => rfl, ← bvs_append, ← leB_succ] at q1
   exact q1
  ·obtain rfl : k = n := by omega
   go_wp2_with fail
   go_ret
   exact ⟨_, rfl, r4, F4⟩
set_option maxHeartbeats 400000 in
theorem xrcValue_any (A : Option Addr) (l : List UInt8) (n c : Nat) (w : World) (hn : l.length = n) (hr : Rd w A (bvs l)) (h8 : n ≤ 8) : Calls Tryz.prog 178 #[.slice A n c] w fun e w' => e = .returned (.int .u64 (leN l)) ∧ w = w' := by
 have HL := Lib.hid hn
 clear hn
 go_enter Tryz.func178, Tryz.ntmps178
 go_wp2_with fail
 go_loop [3, 4] (fun x i => ∃ k : Nat, k ≤ n ∧ i = .int .i64 k ∧ x = .int .u64 (leN (l.take k))) (fun _ i => n - (intOf i).toNat)
 case atStart => exact ⟨0, Nat.zero_le _, rfl, rfl⟩
 case round =>
  obtain ⟨k, hk, rfl, rfl⟩ := hrel
  by_cases hlt : k < n
  ·have hk' : k < l.length := by rw [HL.out]; exact hlt
   obtain ⟨g, o, rfl, hc⟩ := hr.byte hk'
   have hck := hc k hk'
   have E := Lib.hid (or_byte (leN (l.take k)) l[k].toNat k (leN_take_lt l k) l[k].toNat_lt (by omega))
   have T := Lib.hid (leN_take_succ l k hk')
   clear hc
   go_wp2
   go_round
   case rel => exact ⟨k + 1, by omega, by go_num, by rw [E.out, T.out]⟩
   case measure => simp [intOf]; omega
  ·have hk2 : k = n := by omega
   have E : l.take k = l := by rw [hk2, ← HL.out, List.take_length]
   have HE := Lib.hid E
   clear E hk2
   go_wp2
   go_ret
   exact ⟨by rw [HE.out]; rfl, rfl⟩
theorem xrcFill_any {w : World} {B : Nat} {v : Value} {q : List UInt8} {n : Nat} (hn : q.length = n) (h : Row w B 5 1 v n (bvs q)) (hq : n ≤ 512) (hB : B ≤ w.heap.size) :
  Calls Tryz.prog 167 #[v] w fun e w' => ∃ r, e = .returned r ∧ Row w' B 5 1 r 512 (bvs (pad512 q)) ∧ Fr v.ownBlock.toList w w' := by
 obtain ⟨A, cap, rfl, -, -, -, -, -⟩ := h.shape
 have HN := Lib.hid hn
 clear hn
 go_enter Tryz.func167, Tryz.ntmps167
 go_wp2_with (at_builtin; refine wpList_appz rfl rfl slB rfl rfl Tryz.underlying3 B _ n (bvs q) rfl h .i64 (512 - n) _ rfl (by omega) (by omega) hB ?_; intro v2 w2 g1 g2 g3)
 go_ret
 refine ⟨_, rfl, ?_, g2⟩
 rw [show List.replicate (512 - n) (Value.int .u8 0) = bvs (List.replicate (512 - n) 0) by simp [bvs, bv], ← bvs_append, show n + (512 - n) = 512 by omega] at g1
 rw [pad512, HN.out]
 exact g1
theorem wpList_st1 {P : Program} {ops : Array Oper} {rest : List Oper} {o : Oper} {a : Act} {w : World} {Q : Exit → Act → World → Prop} {ty : TypeId} {x y : Operand} (hw : Region.wanted o (yielded ops a.tmps) = true) (ho : o.op = .store ty x y) (hsz : (P.info? ty).map (·.size) = some 1) (g i : Nat) (hx : a.eval x = .pointer (some ⟨g, i, none⟩)) (v : Value) (hy : a.eval y = v) (hv : v.cells = #[v]) (h1 : v.oneCell' = true)
  {old : Value} (hc : w.cell? ⟨g, i, none⟩ = some old) (hz : w.frozen? ⟨g, i, none⟩ = false) (h : wpList P ops Q rest (a.put o.dst undef) (w.setCell ⟨g, i, none⟩ v)) : wpList P ops Q (o :: rest) a w :=
 wpList_want hw fun _ hK => wp_st1 ho hsz g i hx v hy hv h1 hc hz (hK _ _ h)
def MarkC (w : World) (n : Nat) (e : Ending) (w' : World) : Prop :=
 ∃ v, e = .returned (.tuple #[v, .int .i64 (errG (n != 0) 1)]) ∧ Row w' w.heap.size 5 1 v (if n = 0 then 0 else 512) (bvs (if n = 0 then [] else markB n)) ∧ Fr [] w w'
set_option maxRecDepth 100000 in
set_option maxHeartbeats 4000000 in
theorem rcMark_any (w : World) (n : Nat) (hn : n < 18446744073709551616) (hK : KG w) : Calls Tryz.prog 108 #[.int .u64 n] w (MarkC w n) := by
 by_cases h0 : n = 0
 ·subst h0
  go_enter Tryz.func108, Tryz.ntmps108
  go_wp2_with fail
  go_ret2
  exact ⟨_, rfl, Row.nil _ _ _ _, (Fr.refl _ _).alloc _⟩
 ·have d : ((n : Int) == 0) = false := by rw [beq_eq_false_iff_ne]; omega
  have H0 := Lib.hid h0
  clear h0
  go_enter Tryz.func108, Tryz.ntmps108
  go_upto_region 3 with fail
  have b1 := Blk.new w 57 #[.int .u64 (n : Int)]
  have F1 : Fr [] w (w.alloc (.cells #[.int .u64 (n : Int)] 57)) := (Fr.refl _ _).alloc _
  have s1 : (w.alloc (.cells #[.int .u64 (n : Int)] 57)).heap.size = w.heap.size + 1 := by simp
  generalize w.alloc (.cells #[.int .u64 (n : Int)] 57) = w1 at *
  obtain ⟨g1, hg1⟩ : ∃ g, w.heap.size = g := ⟨_, rfl⟩
  rw [hg1] at b1 s1 ⊢
  have HS1 := Lib.hid (And.intro hg1 s1)
  clear hg1 s1
  go_upto_region 4 with
   (first
    | (refine wpList_st1 rfl rfl (by kernel_rfl) w1.heap.size 0 rfl (.func (.func 157) #[] #[.pointer (some ⟨g1, 0, none⟩)]) rfl rfl rfl (old := .nilFunc) ((Blk.new w1 202 #[.nilFunc]).cell 0) ((Blk.new w1 202 #[.nilFunc]).frozen 0) ?_))
  have b2 := (Blk.new w1 202 #[.nilFunc]).set_ 0 (.func (.func 157) #[] #[.pointer (some ⟨g1, 0, none⟩)])
  have f2 : Fr [] w1 ((w1.alloc (.cells #[.nilFunc] 202)).setCell ⟨w1.heap.size, 0, none⟩ (.func (.func 157) #[] #[.pointer (some ⟨g1, 0, none⟩)])) := ((Fr.refl _ _).alloc _).setCell (.inr (Nat.le_refl _)) _
  have s2 : ((w1.alloc (.cells #[.nilFunc] 202)).setCell ⟨w1.heap.size, 0, none⟩ (.func (.func 157) #[] #[.pointer (some ⟨g1, 0, none⟩)])).heap.size = w1.heap.size + 1 := by simp [World.setCell]
  generalize (w1.alloc (.cells #[.nilFunc] 202)).setCell ⟨w1.heap.size, 0, none⟩ (.func (.func 157) #[] #[.pointer (some ⟨g1, 0, none⟩)]) = w2 at *
  replace b2 : Blk w2 w1.heap.size 202 #[.func (.func 157) #[] #[.pointer (some ⟨g1, 0, none⟩)]] := b2
  obtain ⟨g2, hg2⟩ : ∃ g, w1.heap.size = g := ⟨_, rfl⟩
  rw [hg2] at b2 s2 ⊢
  have F2 := F1.trans_nil f2
  replace b1 := b1.keep_nil f2
  have HG := Lib.hid (And.intro hg2 s2)
  clear hg2 s2 F1 f2
  have c2 := b2.cell 0
  simp at c2
  go_wp2_with fail
  refine (rcBlock_rcMark1 w2 g1 (markR n) (by rw [markR_len]; omega) (fun wx p B v f _ _ h => rcMark1_ok h hn (b1.keep_nil f))).mono ?_
  rintro e w3 ⟨r, rfl, r3, f3⟩
  have F3 := F2.trans_nil f3
  replace b1 := b1.keep_nil f3
  replace b2 := b2.keep_nil f3
  obtain ⟨A3, cap3, rfl, hc3, -, rd3, -, -⟩ := r3.shape
  have n3 := r3.rd.2.2
  have rd12 : Rd w3 A3 (bvs (markR n)) := by
   have := rd3.take 12
   rw [← bvs_take, pad512, List.take_left' (markR_len n)] at this
   exact this
  have K12 : (12 : Int) ≤ cap3 := by omega
  go_wp2_with fail
  refine (sum_any A3 (markR n) 12 cap3 w3 (markR_len n) rd12 (fun h => absurd (n3 h) (by omega)) (by omega) (hK.keep F3)).mono ?_
  rintro e w4 ⟨rfl, f4⟩
  have F4 := F3.trans_nil f4
  replace b1 := b1.keep_nil f4
  replace b2 := b2.keep_nil f4
  obtain ⟨D, hD⟩ : ∃ D, shaSum (markR n) = D := ⟨_, rfl⟩
  have hdl : D.length = 32 := by rw [← hD, shaSum_length]
  rw [hD]
  have HDD := Lib.hid (fun _ : Unit => hD)
  have HDL := Lib.hid hdl
  clear hD hdl f3 f4 r3 rd3 rd12 F2 F3 c2
  go_wp2_with
   (first
    | (refine wpList_alS stA32 (o := ⟨some 5, _, _, _, _, _⟩) rfl rfl ?_; intro wa ha fa za; have ZA := Lib.hid za; clear za; obtain ⟨g5, hgg⟩ : ∃ g, w4.heap.size = g := ⟨_, rfl⟩; rw [hgg] at ha; rw [hgg]; have HG5 := Lib.hid hgg; clear hgg)
    | (refine wpList_stB stA32 rfl rfl g5 rfl (bvs D) rfl (by rw [bvs_length, HDL.out]) (bvs_one _) (bvs (zB 32)) rfl ha ?_; intro wb hb fb zb; have ZB := Lib.hid zb; clear zb))
  have f5 : Fr [] w4 wb := fa.trans fb (fun i hi => .inr (by have := HG5.out; simp at hi; omega))
  have F5 := F4.trans_nil f5
  replace b1 := b1.keep_nil f5
  replace b2 := b2.keep_nil f5
  refine (rcBlock_rcMark2 wb g2 g5 (markR n ++ D) (by rw [List.length_append, markR_len, HDL.out]; omega) (fun wx p B v f _ _ h => rcMark2_ok h hn (b1.keep_nil f) 202 (b2.keep_nil f) (by decide) (by decide) (hb.keep_nil f) HDL.out)).mono ?_
  rintro e w6 ⟨r, rfl, r6, f6⟩
  obtain ⟨A6, cap6, rfl, -, -, -, -, -⟩ := r6.shape
  go_wp2_with fail
  go_ret2
  have h0 := H0.out
  refine ⟨_, by rw [show (n != 0) = true from by simpa using h0]; rfl, ?_, F5.trans_nil f6⟩
  rw [if_neg h0, if_neg h0, markB, HDD.out ()]
  exact r6.mono F5.size
set_option maxRecDepth 100000 in
set_option maxHeartbeats 4000000 in
theorem xrcMark_any (w : World) (n : Nat) (hn : n < 18446744073709551616) : Calls Tryz.prog 113 #[.int .u64 n] w (MarkC w n) := by
 by_cases h0 : n = 0
 ·subst h0
  go_enter Tryz.func113, Tryz.ntmps113
  go_wp2_with fail
  go_ret2
  exact ⟨_, rfl, Row.nil _ _ _ _, Fr.refl _ _⟩
 ·have d : ((n : Int) == 0) = false := by rw [beq_eq_false_iff_ne]; omega
  have H0 := Lib.hid h0
  clear h0
  have kc := fun (w : World) (C : Array Value) (n c : Nat) => Lib.run_convert_bytes_const (P := Tryz.prog) w 27 5 C n c Tryz.underlying27 Tryz.underlying5
  have fa : Fr [] w (w.alloc (.cells (bvs markM).toArray 5 (4, 5))) := (Fr.refl _ _).alloc _
  have rm := Row.new w (bvs markM).toArray 5 1 4 (4, 5) (free_end _ _) (by unfold maxLen; omega) rfl (Nat.le_refl _)
  go_enter Tryz.func113, Tryz.ntmps113
  go_wp2_with fail
  refine (xrcNumber_any 8 n _ (by omega) hn).mono ?_
  rintro e w4 ⟨v4, rfl, r4, f4⟩
  obtain ⟨A4, cap4, rfl, -, -, -, -, -⟩ := r4.shape
  have R4 := rm.keep_nil f4
  have F4 := fa.trans_nil f4
  clear rm f4 fa kc
  go_wp2_with
   (first
    | (at_builtin; refine wpList_app rfl rfl slB w.heap.size _ 4 (bvs markM) rfl R4 _ 8 cap4 (bvs (leB 8 n)) rfl (by rw [bvs_length, leB_length]) r4.rd.1 (bvs_one _) r4.rd.2.2 (by omega) F4.size ?_; intro v5 w5 q1 q2 q3 q4))
  have F5 := F4.trans q2 (fun k hk => .inr (R4.lt k (mem_own.1 hk)).1)
  rw [← bvs_append, show 4 + 8 = 12 from rfl, show markM ++ leB 8 n = markR n from rfl] at q1
  obtain ⟨A5, cap5, rfl, -, -, rd5, -, -⟩ := q1.shape
  have R := q1
  have n5 := q1.rd.2.2
  clear R4 r4 F4 q1 q2 q3 q4
  refine (xSum_any A5 (markR n) 12 cap5 w5 (markR_len n) rd5 n5 (by omega)).mono ?_
  rintro e w6 ⟨rfl, f6⟩
  have F6 := F5.trans_nil f6
  replace R := R.keep_nil f6
  obtain ⟨D, hD⟩ : ∃ D, shaSum (markR n) = D := ⟨_, rfl⟩
  have hdl : D.length = 32 := by rw [← hD, shaSum_length]
  rw [hD]
  have HDD := Lib.hid (fun _ : Unit => hD)
  have HDL := Lib.hid hdl
  clear hD hdl f6 F5 rd5 n5
  go_wp2_with
   (first
    | (refine wpList_alS stA32 (o := ⟨some 5, _, _, _, _, _⟩) rfl rfl ?_; intro wa ha fa za; have ZA := Lib.hid za; clear za; obtain ⟨g5, hgg⟩ : ∃ g, w6.heap.size = g := ⟨_, rfl⟩; rw [hgg] at ha; rw [hgg]; have HG5 := Lib.hid hgg; clear hgg)
    | (refine wpList_stB stA32 rfl rfl g5 rfl (bvs D) rfl (by rw [bvs_length, HDL.out]) (bvs_one _) (bvs (zB 32)) rfl ha ?_; intro wb hb fb zb; have ZB := Lib.hid zb; clear zb; have f7 : Fr [] w6 wb := fa.trans fb (fun i hi => .inr (by have := HG5.out; simp at hi; omega)); have F7 := F6.trans_nil f7; have R7 := R.keep_nil f7)
    | (at_builtin; refine wpList_app rfl rfl slB w.heap.size _ 12 (bvs (markR n)) rfl R7 _ 32 32 (bvs D) rfl (by rw [bvs_length, HDL.out]) (Rd.ofBm hb) (bvs_one _) (fun h => by cases h) (by omega) F7.size ?_; intro v8 w8 q1 q2 q3 q4))
  have F8 := F7.trans q2 (fun k hk => .inr (R7.lt k (mem_own.1 hk)).1)
  rw [← bvs_append, show 12 + 32 = 44 from rfl] at q1
  have hl : (markR n ++ D).length = 44 := by rw [List.length_append, markR_len, HDL.out]
  obtain ⟨A8, cap8, rfl, -, -, -, -, -⟩ := q1.shape
  go_wp2_with fail
  refine (xrcFill_any hl q1 (by omega) F8.size).mono ?_
  rintro e w9 ⟨r, rfl, r9, f9⟩
  obtain ⟨A9, cap9, rfl, -, -, -, -, -⟩ := r9.shape
  go_wp2_with fail
  go_ret2
  have h0 := H0.out
  refine ⟨_, by rw [show (n != 0) = true from by simpa using h0]; rfl, ?_, F8.trans f9 (fun k hk => .inr (q1.lt k (mem_own.1 hk)).1)⟩
  rw [if_neg h0, if_neg h0, markB, HDD.out ()]
  exact r9
end
end Go.Proofs.YtbanogfljpkbkaaGreatDoor
