/-
  Texts of this claim, one behind the other: ShaE, ShaF.
-/
import Derived.Test.YtbanogfljpkbkaaGreatDoorF10
import Derived.Test.YtbanogfljpkbkaaGreatDoorF9
set_option linter.unusedSimpArgs false
set_option linter.unusedVariables false
set_option linter.unnecessarySimpa false
namespace Go.Proofs.YtbanogfljpkbkaaGreatDoor
section
open Go.RowKit
theorem turn_fr (x : UInt32) (n : Int) (h0 : 0 < n) (h : n < 32) (w : World) :
  Calls Tryz.prog 150 #[.int .i64 n, .int .u32 (uw x)] w fun e w' => e = .returned (.int .u32 (uw (rotr x n.toNat))) ∧ Fr [] w w' :=
 (turn_int x n h0 h w).mono fun e w' ⟨h1, q, h2⟩ => ⟨h1, by rw [h2]; exact (Fr.refl [] w).drewN q⟩
set_option maxRecDepth 100000 in
theorem const_any (w : World) : Calls Tryz.prog 149 #[] w fun e w' => e = .returned (.agg (wvs kC).toArray) ∧ Fr [] w w' := by
 go_enter Tryz.func149, Tryz.ntmps149
 go_wp2_with
  (first
   | (refine wpList_alS stW64 rfl rfl ?_; intro wb hb fb zb; have ZB := Lib.hid zb; clear zb)
   | (refine wpList_bld rfl rfl (.agg (wvs kC).toArray) ?_ ?_; (kernel_rfl))
   | (refine wpList_stB stW64 rfl rfl w.heap.size rfl (wvs kC) rfl (by rw [wvs_length]; rfl) (wvs_one _) (wvs (zW 64)) rfl hb ?_; intro wc hc fc zc))
 try simp only [Exit.inBlock, Exit.then]
 refine bodyPost_ret (results_cell stW64 rfl rfl (by rw [wvs_length]; rfl) hc) rfl ?_
 exact ⟨rfl, fb.trans fc (fun i hi => .inr (by simp at hi; omega))⟩
theorem uw_notM (x : UInt32) : bits .xor .u32 IntKind.u32.max (uw x) = uw (~~~x) := by
 have e : IntKind.u32.max = uw 4294967295 := by decide
 have h := uw_not x
 rw [show (4294967295 : Int) = uw 4294967295 from rfl, uw_xor] at h
 rw [e, uw_xor, UInt32.xor_comm]
 exact h
theorem uw_mod4 (a b c d : UInt32) : (uw a + uw b + uw c + uw d) % 4294967296 = uw (a + b + c + d) := by
 simp only [uw, UInt32.toNat_add]; omega
def mixT (s t : S8) (k : Nat) : List UInt32 := (s.add t).list.take k ++ t.list.drop k
theorem mixT_at (s t : S8) (k : Nat) (h : k < 8) : (mixT s t k)[k]? = some (t.list.getD k 0) := by
 have l1 : ((s.add t).list.take k).length = k := by rw [List.length_take, S8.list_len]; omega
 have hk : k < t.list.length := h
 rw [mixT, List.getElem?_append_right (by omega), l1, Nat.sub_self, List.getElem?_drop, Nat.add_zero, List.getElem?_eq_getElem hk]
 simp [hk]
theorem mixT_set (s t : S8) (k : Nat) (h : k < 8) : (mixT s t k).set k (t.list.getD k 0 + s.list.getD k 0) = mixT s t (k + 1) := by
 rw [UInt32.add_comm]
 match k, h with
 | 0, _ | 1, _ | 2, _ | 3, _ | 4, _ | 5, _ | 6, _ | 7, _ => rfl
set_option maxRecDepth 100000 in
set_option maxHeartbeats 8000000 in
theorem xBlock_W (w : World) (s : S8) (p : List UInt8) (hp : p.length = 64) (kc W : List UInt32) (hkl : kc.length = 64) (hWl : W.length = 64) (hW : Unit → sched p 64 = W)
  (hk : ∀ w, Calls Tryz.prog 149 #[] w fun e w' => e = .returned (.agg (wvs kc).toArray) ∧ Fr [] w w') :
  Calls Tryz.prog 98 #[.agg (wvs s.list).toArray, .agg (bvs p).toArray] w fun e w' => e = .returned (.agg (wvs (s.add (s.run kc W 64)).list).toArray) ∧ Fr [] w w' := by
 have HP := Lib.hid hp
 have HKL := Lib.hid hkl
 have HWL := Lib.hid hWl
 have HWW := Lib.hid hW
 have HKC := Lib.hid hk
 clear hp hkl hWl hW hk
 go_enter Tryz.func98, Tryz.ntmps98
 go_wp2_with
  (first
   | (refine wpList_boxS (o := ⟨some 2, _, _, _, _, _⟩) rfl rfl (wvs s.list) rfl ?_; intro w2 h2 f2 z2; have Z2 := Lib.hid z2; clear z2; obtain ⟨g2, hg2⟩ : ∃ g2, w.heap.size = g2 := ⟨_, rfl⟩; rw [hg2] at h2; rw [hg2]; have HG2 := Lib.hid hg2; clear hg2)
   | (refine wpList_boxS (o := ⟨some 3, _, _, _, _, _⟩) rfl rfl (bvs p) rfl ?_; intro w3 h3 f3 z3; have Z3 := Lib.hid z3; clear z3; obtain ⟨gP, hgP⟩ : ∃ gP, w2.heap.size = gP := ⟨_, rfl⟩; rw [hgP] at h3; rw [hgP]; have HGP := Lib.hid hgP; clear hgP)
   | (refine wpList_alS stW8 (o := ⟨some 4, _, _, _, _, _⟩) rfl rfl ?_; intro w4 h4 f4 z4; have Z4 := Lib.hid z4; clear z4; obtain ⟨g4, hg4⟩ : ∃ g4, w3.heap.size = g4 := ⟨_, rfl⟩; rw [hg4] at h4; rw [hg4]; have HG4 := Lib.hid hg4; clear hg4))
 have G2 : w.heap.size = g2 := HG2.out
 have G23 : g2 < gP := by have := HGP.out; have := h2.lt; omega
 have G34 : gP < g4 := by have := HG4.out; have := h3.lt; omega
 have F4 := (f2.trans_nil f3).trans_nil f4
 have i2 := (h2.keep_nil f3).keep_nil f4
 have iP := h3.keep_nil f4
 clear h2 h3 f2 f3 f4
 refine (HKC.out w4).mono ?_
 rintro e w5 ⟨rfl, f5⟩
 have i2 := i2.keep_nil f5
 have iP := iP.keep_nil f5
 have i4 := h4.keep_nil f5
 have F5 := F4.trans_nil f5
 have l4 := i4.lt
 clear h4 f5 F4
 go_wp2_with
  (first
   | (refine wpList_alS stW64 (o := ⟨some 5, _, _, _, _, _⟩) rfl rfl ?_; intro w6 h6 f6 z6; have Z6 := Lib.hid z6; clear z6; obtain ⟨g5, hg5⟩ : ∃ g5, w5.heap.size = g5 := ⟨_, rfl⟩; rw [hg5] at h6; rw [hg5]; have HG5 := Lib.hid hg5; clear hg5)
   | (refine wpList_stB stW64 rfl rfl g5 rfl (wvs kc) rfl (by rw [wvs_length, HKL.out]) (wvs_one _) (wvs (zW 64)) rfl h6 ?_; intro w7 h7 f7 z7; have Z7 := Lib.hid z7; clear z7)
   | (refine wpList_alS stW64 (o := ⟨some 6, _, _, _, _, _⟩) rfl rfl ?_; intro w8 h8 f8 z8; have Z8 := Lib.hid z8; clear z8; obtain ⟨gW, hgW⟩ : ∃ gW, w7.heap.size = gW := ⟨_, rfl⟩; rw [hgW] at h8; rw [hgW]; have HGW := Lib.hid hgW; clear hgW))
 have G45 : g4 < g5 := by have := HG5.out; omega
 have G5W : g5 < gW := by have := HGW.out; have := h7.lt; omega
 have FF : Fr [] w5 w7 := f6.trans f7 (fun i hi => .inr (by have := HG5.out; simp at hi; omega))
 have i2 := (i2.keep_nil FF).keep_nil f8
 have iP := (iP.keep_nil FF).keep_nil f8
 have i4 := (i4.keep_nil FF).keep_nil f8
 have i5 := h7.keep_nil f8
 have F8 := (F5.trans_nil FF).trans_nil f8
 have iW : Blk w8 gW 188 (wvs (plw (sched p 0) 64)).toArray := h8
 clear h6 h7 h8 f6 f7 f8 FF F5 l4
 go_loopw [7] (fun i wr => ∃ k : Nat, k ≤ 16 ∧ i = .int .i64 k ∧ Blk wr gW 188 (wvs (plw (sched p k) 64)).toArray ∧ Fr [gW] w8 wr) (fun i _ => 16 - (intOf i).toNat)
 case atStart => exact ⟨0, Nat.zero_le _, rfl, iW, Fr.refl _ _⟩
 case round =>
  clear iW
  obtain ⟨k, hk, rfl, iW, f9⟩ := hrel
  have iP := iP.keep f9 (by simp; omega)
  have HL := Lib.hid (sched_length p k)
  have HS := Lib.hid (show sched p (k + 1) = sched p k ++ [if k < 16 then wordAt p k else nextW (sched p k) k] from rfl)
  by_cases hlt : k < 16
  ·have h16 := hlt
   have K64 : (k : Int) < 64 := by omega
   have e0 := blkB_at iP (i := 4 * k) (by rw [HP.out]; omega)
   have e1 := blkB_at iP (i := 4 * k + 1) (by rw [HP.out]; omega)
   have e2 := blkB_at iP (i := 4 * k + 2) (by rw [HP.out]; omega)
   have e3 := blkB_at iP (i := 4 * k + 3) (by rw [HP.out]; omega)
   have hwk : wordAt p k = shl (p.getD (4 * k) 0).toUInt32 24 ||| shl (p.getD (4 * k + 1) 0).toUInt32 16 ||| shl (p.getD (4 * k + 2) 0).toUInt32 8 ||| (p.getD (4 * k + 3) 0).toUInt32 := rfl
   generalize p.getD (4 * k) 0 = b0 at *
   generalize p.getD (4 * k + 1) 0 = b1 at *
   generalize p.getD (4 * k + 2) 0 = b2 at *
   generalize p.getD (4 * k + 3) 0 = b3 at *
   have HWK := Lib.hid hwk
   obtain ⟨v3, c3⟩ := blkW_some iW (i := k) (by rw [plw_len (by rw [HL.out]; omega)]; omega)
   have z3 := iW.frozen k
   clear hwk
   go_wp2_with fail
   try simp only [Act.put, p1, p2, p3]
   have X0 : IntKind.i64.wrap (4 * (k : Int)) = 4 * (k : Int) := IntWalk.i64_in _ (by omega)
   have X1 : IntKind.i64.wrap (4 * (k : Int) + 1) = 4 * (k : Int) + 1 := IntWalk.i64_in _ (by omega)
   have X2 : IntKind.i64.wrap (4 * (k : Int) + 2) = 4 * (k : Int) + 2 := IntWalk.i64_in _ (by omega)
   have X3 : IntKind.i64.wrap (4 * (k : Int) + 3) = 4 * (k : Int) + 3 := IntWalk.i64_in _ (by omega)
   have T0 : (4 * (k : Int)).toNat = 4 * k := by omega
   have T1 : (4 * (k : Int) + 1).toNat = 4 * k + 1 := by omega
   have T2 : (4 * (k : Int) + 2).toNat = 4 * k + 2 := by omega
   have T3 : (4 * (k : Int) + 3).toNat = 4 * k + 3 := by omega
   have A0 : 0 ≤ 4 * (k : Int) := by omega
   have A1 : 0 ≤ 4 * (k : Int) + 1 := by omega
   have A2 : 0 ≤ 4 * (k : Int) + 2 := by omega
   have A3 : 0 ≤ 4 * (k : Int) + 3 := by omega
   have B0 : 4 * (k : Int) < 64 := by omega
   have B1 : 4 * (k : Int) + 1 < 64 := by omega
   have B2 : 4 * (k : Int) + 2 < 64 := by omega
   have B3 : 4 * (k : Int) + 3 < 64 := by omega
   have C0 := uw_byte b0
   have C1 := uw_byte b1
   have C2 := uw_byte b2
   have C3 := uw_byte b3
   have D0 : IntKind.u32.wrap (uw b0.toUInt32 * 16777216) = uw (shl b0.toUInt32 24) := uw_shl _ 24
   have D1 : IntKind.u32.wrap (uw b1.toUInt32 * 65536) = uw (shl b1.toUInt32 16) := uw_shl _ 16
   have D2 : IntKind.u32.wrap (uw b2.toUInt32 * 256) = uw (shl b2.toUInt32 8) := uw_shl _ 8
   have E1 := uw_or (shl b0.toUInt32 24) (shl b1.toUInt32 16)
   have E2 := uw_or (shl b0.toUInt32 24 ||| shl b1.toUInt32 16) (shl b2.toUInt32 8)
   have E3 := uw_or (shl b0.toUInt32 24 ||| shl b1.toUInt32 16 ||| shl b2.toUInt32 8) b3.toUInt32
   refine wp_region_held_drew (S := fun w' => w'.cell? ⟨gP, 4 * k, none⟩ = some (.int .u8 b0.toNat) ∧ w'.cell? ⟨gP, 4 * k + 1, none⟩ = some (.int .u8 b1.toNat) ∧ w'.cell? ⟨gP, 4 * k + 2, none⟩ = some (.int .u8 b2.toNat) ∧ w'.cell? ⟨gP, 4 * k + 3, none⟩ = some (.int .u8 b3.toNat)) (by kernel_rfl) ⟨e0, e1, e2, e3⟩ (fun hHeld => ?_)
   refine tw 0 23 hHeld ?_
   refine tw 1 24 hHeld ?_
   refine tw 2 25 hHeld ?_
   refine tw 3 26 hHeld ?_
   refine tw 4 27 hHeld ?_
   refine tw 5 28 hHeld ?_
   refine tw 6 29 hHeld ?_
   refine tw 7 30 hHeld ?_
   refine tw 8 31 hHeld ?_
   refine tw 9 32 hHeld ?_
   refine tw 10 33 hHeld ?_
   refine tw 11 34 hHeld ?_
   refine tw 12 35 hHeld ?_
   refine tw 13 36 hHeld ?_
   refine tw 14 37 hHeld ?_
   refine tw 15 38 hHeld ?_
   refine tw 16 39 hHeld ?_
   refine tw 17 40 hHeld ?_
   refine tw 18 41 hHeld ?_
   refine tw 19 42 hHeld ?_
   refine tw 20 43 hHeld ?_
   refine tw 21 44 hHeld ?_
   refine tw 22 45 hHeld ?_
   refine tw 23 46 hHeld ?_
   refine tw 24 47 hHeld ?_
   refine tw 25 48 hHeld ?_
   refine tw 26 49 hHeld ?_
   refine tw 27 50 hHeld ?_
   refine tw 28 51 hHeld ?_
   refine tw 29 52 hHeld ?_
   refine tw 30 53 hHeld ?_
   refine tcd 31 none (fun K hK => ?_)
   refine wp_st1 rfl (by kernel_rfl) gW k rfl (.int .u32 (uw (shl b0.toUInt32 24 ||| shl b1.toUInt32 16 ||| shl b2.toUInt32 8 ||| b3.toUInt32))) rfl rfl rfl (show World.cell? _ ⟨gW, k, none⟩ = some v3 from c3) (show World.frozen? _ ⟨gW, k, none⟩ = false from z3) ?_
   have f4 : Fr [gW] wr _ := ((Fr.refl [gW] wr).drew).setCell (p := ⟨gW, k, none⟩) (.inl (by simp)) (.int .u32 (uw (shl b0.toUInt32 24 ||| shl b1.toUInt32 16 ||| shl b2.toUInt32 8 ||| b3.toUInt32)))
   have iX : Blk _ gW 188 _ := blkW_set (iW.keep_nil ((Fr.refl [] wr).drew)) k (shl b0.toUInt32 24 ||| shl b1.toUInt32 16 ||| shl b2.toUInt32 8 ||| b3.toUInt32)
   refine hK _ _ ⟨f4.cell (p := ⟨gP, 4 * k, none⟩) (by simp; omega) hHeld.1, f4.cell (p := ⟨gP, 4 * k + 1, none⟩) (by simp; omega) hHeld.2.1, f4.cell (p := ⟨gP, 4 * k + 2, none⟩) (by simp; omega) hHeld.2.2.1, f4.cell (p := ⟨gP, 4 * k + 3, none⟩) (by simp; omega) hHeld.2.2.2⟩ (fun hHn => ?_)
   clear hHn hHeld
   generalize World.setCell _ ⟨gW, k, none⟩ (.int .u32 (uw (shl b0.toUInt32 24 ||| shl b1.toUInt32 16 ||| shl b2.toUInt32 8 ||| b3.toUInt32))) = w4 at *
   clear hK K
   try simp only [Act.put, p1, p2, p3]
   refine wpAnyH_done (by kernel_rfl) ?_ _
   clear K64 X0 X1 X2 X3 T0 T1 T2 T3 A0 A1 A2 A3 B0 B1 B2 B3 C0 C1 C2 C3 D0 D1 D2 E1 E2 E3 e0 e1 e2 e3 c3 z3
   go_wp2_with fail
   have hs := plw_set (l := sched p k) (n := 64) (by rw [HL.out]; omega) (wordAt p k)
   rw [HL.out, HWK.out] at hs
   refine ⟨⟨k + 1, by omega, by go_num, ?_, f9.trans_same f4⟩, by simp [intOf]; omega⟩
   rw [HS.out, if_pos h16, HWK.out, ← hs]
   exact iX
  ·obtain rfl : k = 16 := by omega
   have F16 := F8.trans f9 (fun i hi => .inr (by simp at hi; omega))
   have i2 := i2.keep f9 (by simp; omega)
   have i4 := i4.keep f9 (by simp; omega)
   have i5 := i5.keep f9 (by simp; omega)
   clear HL HS f9
   rw [show ((16 : Nat) : Int) = 16 from rfl]
   go_wp2_with fail
   go_loopw [8] (fun i wr => ∃ k : Nat, 16 ≤ k ∧ k ≤ 64 ∧ i = .int .i64 k ∧ Blk wr gW 188 (wvs (plw (sched p k) 64)).toArray ∧ Blk wr g2 157 (wvs s.list).toArray ∧ Blk wr g4 157 (wvs (zW 8)).toArray ∧ Blk wr g5 188 (wvs kc).toArray ∧ Fr [] w wr) (fun i _ => 64 - (intOf i).toNat)
   case atStart => exact ⟨16, by omega, by omega, rfl, iW, i2, i4, i5, F16⟩
   case round =>
    clear iW i2 i4 i5 F16 iP
    obtain ⟨k, hl16, hk, rfl, iW, i2, i4, i5, F⟩ := hrel
    have HL := Lib.hid (sched_length p k)
    have HS := Lib.hid (show sched p (k + 1) = sched p k ++ [if k < 16 then wordAt p k else nextW (sched p k) k] from rfl)
    by_cases hlt : k < 64
    ·obtain ⟨x15, hx15⟩ : ∃ x, (sched p k).getD (k - 15) 0 = x := ⟨_, rfl⟩
     obtain ⟨x2, hx2⟩ : ∃ x, (sched p k).getD (k - 2) 0 = x := ⟨_, rfl⟩
     obtain ⟨x16, hx16⟩ : ∃ x, (sched p k).getD (k - 16) 0 = x := ⟨_, rfl⟩
     obtain ⟨x7, hx7⟩ : ∃ x, (sched p k).getD (k - 7) 0 = x := ⟨_, rfl⟩
     have c15 := blkW_at iW (plw_at (n := 64) (i := k - 15) (by rw [HL.out]; omega))
     have c2 := blkW_at iW (plw_at (n := 64) (i := k - 2) (by rw [HL.out]; omega))
     have c16 := blkW_at iW (plw_at (n := 64) (i := k - 16) (by rw [HL.out]; omega))
     have c7 := blkW_at iW (plw_at (n := 64) (i := k - 7) (by rw [HL.out]; omega))
     rw [hx15] at c15
     rw [hx2] at c2
     rw [hx16] at c16
     rw [hx7] at c7
     have HN := Lib.hid (show nextW (sched p k) k = x16 + (rotr x15 7 ^^^ rotr x15 18 ^^^ shr x15 3) + x7 + (rotr x2 17 ^^^ rotr x2 19 ^^^ shr x2 10) by rw [nextW, hx15, hx2, hx16, hx7, smallS0, smallS1]; ac_rfl)
     clear hx15 hx2 hx16 hx7
     obtain ⟨v3, c3⟩ := blkW_some iW (i := k) (by rw [plw_len (by rw [HL.out]; exact hk)]; exact hlt)
     have z3 := iW.frozen k
     go_wp2_with fail
     have X0 : IntKind.i64.wrap ((k : Int) - 15) = (k : Int) - 15 := IntWalk.i64_in _ (by omega)
     have X1 : IntKind.i64.wrap ((k : Int) - 2) = (k : Int) - 2 := IntWalk.i64_in _ (by omega)
     have X2 : IntKind.i64.wrap ((k : Int) - 16) = (k : Int) - 16 := IntWalk.i64_in _ (by omega)
     have X3 : IntKind.i64.wrap ((k : Int) - 7) = (k : Int) - 7 := IntWalk.i64_in _ (by omega)
     have T0 : ((k : Int) - 15).toNat = k - 15 := by omega
     have T1 : ((k : Int) - 2).toNat = k - 2 := by omega
     have T2 : ((k : Int) - 16).toNat = k - 16 := by omega
     have T3 : ((k : Int) - 7).toNat = k - 7 := by omega
     have A0 : 0 ≤ (k : Int) - 15 := by omega
     have A1 : 0 ≤ (k : Int) - 2 := by omega
     have A2 : 0 ≤ (k : Int) - 16 := by omega
     have A3 : 0 ≤ (k : Int) - 7 := by omega
     have A0' : (15 : Int) ≤ k := by omega
     have A1' : (2 : Int) ≤ k := by omega
     have A2' : (16 : Int) ≤ k := by omega
     have A3' : (7 : Int) ≤ k := by omega
     have B0 : (k : Int) - 15 < 64 := by omega
     have B1 : (k : Int) - 2 < 64 := by omega
     have B2 : (k : Int) - 16 < 64 := by omega
     have B3 : (k : Int) - 7 < 64 := by omega
     go_quiet (fail)
     go_wp2_with fail
     try simp only [Act.put, p1, p2, p3]
     have D0 : uw x15 / 8 = uw (shr x15 3) := uw_shr _ 3
     have D1 : uw x2 / 1024 = uw (shr x2 10) := uw_shr _ 10
     have E1 := uw_add
     have E2 := uw_xor
     refine wp_region_held_drew (S := fun w' => w'.cell? ⟨gW, k - 16, none⟩ = some (.int .u32 (uw x16)) ∧ w'.cell? ⟨gW, k - 7, none⟩ = some (.int .u32 (uw x7))) (by kernel_rfl) ⟨c16, c7⟩ (fun hHeld => ?_)
     have FQ : Fr [] wr (wr.drewN nq).drew := ((Fr.refl [] wr).drewN nq).drew
     generalize (wr.drewN nq).drew = w0 at *
     refine tw 0 66 hHeld ?_
     refine tw 1 67 hHeld ?_
     refine tw 2 68 hHeld ?_
     refine tw 3 69 hHeld ?_
     refine tw 4 70 hHeld ?_
     refine tw 5 71 hHeld ?_
     refine tw 7 73 hHeld ?_
     refine tw 10 76 hHeld ?_
     refine tw 11 77 hHeld ?_
     refine tw 14 80 hHeld ?_
     refine tw 15 81 hHeld ?_
     refine tw 16 82 hHeld ?_
     refine tw 17 83 hHeld ?_
     refine tw 19 85 hHeld ?_
     refine tw 21 87 hHeld ?_
     refine tw 24 90 hHeld ?_
     refine tw 25 91 hHeld ?_
     refine tc 6 (fun K hK => ?_)
     go_simp
     refine (turn_fr _ _ (by omega) (by omega) _).mono ?_
     rintro e w' ⟨rfl, fq⟩
     have FQ := FQ.trans_nil fq
     refine hK.out _ _ ⟨fq.cell (by simp) hHeld.1, fq.cell (by simp) hHeld.2⟩ (fun hHx => ?_)
     clear hHeld fq
     have hHeld := hHx
     clear hHx
     clear hK K
     try simp only [Act.put, p1, p2, p3]
     refine tc 8 (fun K hK => ?_)
     go_simp
     refine (turn_fr _ _ (by omega) (by omega) _).mono ?_
     rintro e w' ⟨rfl, fq⟩
     have FQ := FQ.trans_nil fq
     refine hK.out _ _ ⟨fq.cell (by simp) hHeld.1, fq.cell (by simp) hHeld.2⟩ (fun hHx => ?_)
     clear hHeld fq
     have hHeld := hHx
     clear hHx
     clear hK K
     try simp only [Act.put, p1, p2, p3]
     refine tw 9 75 hHeld ?_
     refine tw 12 78 hHeld ?_
     refine tw 13 79 hHeld ?_
     refine tw 18 84 hHeld ?_
     refine tc 20 (fun K hK => ?_)
     go_simp
     refine (turn_fr _ _ (by omega) (by omega) _).mono ?_
     rintro e w' ⟨rfl, fq⟩
     have FQ := FQ.trans_nil fq
     refine hK.out _ _ ⟨fq.cell (by simp) hHeld.1, fq.cell (by simp) hHeld.2⟩ (fun hHx => ?_)
     clear hHeld fq
     have hHeld := hHx
     clear hHx
     clear hK K
     try simp only [Act.put, p1, p2, p3]
     refine tc 22 (fun K hK => ?_)
     go_simp
     refine (turn_fr _ _ (by omega) (by omega) _).mono ?_
     rintro e w' ⟨rfl, fq⟩
     have FQ := FQ.trans_nil fq
     refine hK.out _ _ ⟨fq.cell (by simp) hHeld.1, fq.cell (by simp) hHeld.2⟩ (fun hHx => ?_)
     clear hHeld fq
     have hHeld := hHx
     clear hHx
     clear hK K
     try simp only [Act.put, p1, p2, p3]
     refine tw 23 89 hHeld ?_
     refine tw 26 92 hHeld ?_
     refine tw 27 93 hHeld ?_
     refine tw 28 94 hHeld ?_
     refine tcd 29 none (fun K hK => ?_)
     obtain ⟨v9, e9⟩ := blkW_some (iW.keep_nil FQ) (i := k) (by rw [plw_len (by rw [HL.out]; exact hk)]; exact hlt)
     refine wp_st1 rfl (by kernel_rfl) gW k rfl (.int .u32 (uw (x16 + (rotr x15 7 ^^^ rotr x15 18 ^^^ shr x15 3) + x7 + (rotr x2 17 ^^^ rotr x2 19 ^^^ shr x2 10)))) rfl rfl rfl e9 ((iW.keep_nil FQ).frozen k) ?_
     have f4 : Fr [gW] wr _ := FQ.nil.setCell (p := ⟨gW, k, none⟩) (.inl (by simp)) (.int .u32 (uw (x16 + (rotr x15 7 ^^^ rotr x15 18 ^^^ shr x15 3) + x7 + (rotr x2 17 ^^^ rotr x2 19 ^^^ shr x2 10))))
     have iX : Blk _ gW 188 _ := blkW_set (iW.keep_nil FQ) k (x16 + (rotr x15 7 ^^^ rotr x15 18 ^^^ shr x15 3) + x7 + (rotr x2 17 ^^^ rotr x2 19 ^^^ shr x2 10))
     refine hK _ _ ⟨(World.cell?_setCell_other _ _ _ _ (by first | (simp; done) | (simp; omega))).trans hHeld.1, (World.cell?_setCell_other _ _ _ _ (by first | (simp; done) | (simp; omega))).trans hHeld.2⟩ (fun hHn => ?_)
     clear hHn hHeld
     generalize World.setCell _ ⟨gW, k, none⟩ (.int .u32 (uw (x16 + (rotr x15 7 ^^^ rotr x15 18 ^^^ shr x15 3) + x7 + (rotr x2 17 ^^^ rotr x2 19 ^^^ shr x2 10)))) = w4 at *
     clear hK K
     try simp only [Act.put, p1, p2, p3]
     refine wpAnyH_done (by kernel_rfl) ?_ _
     clear X0 X1 X2 X3 T0 T1 T2 T3 A0 A1 A2 A3 A0' A1' A2' A3' B0 B1 B2 B3 D0 D1 E1 E2 c15 c2 c16 c7 c3 z3 e9
     go_wp2_with fail
     have hs := plw_set (l := sched p k) (n := 64) (by rw [HL.out]; exact hlt) (nextW (sched p k) k)
     rw [HL.out, HN.out] at hs
     refine ⟨⟨k + 1, by omega, by omega, by go_num, ?_, i2.keep f4 (by simp; omega), i4.keep f4 (by simp; omega), i5.keep f4 (by simp; omega), F.trans f4 (fun i hi => .inr (by simp at hi; omega))⟩, by simp [intOf]; omega⟩
     rw [HS.out, if_neg (by omega), HN.out, ← hs]
     exact iX
    ·obtain rfl : k = 64 := by omega
     rw [plw_all HL.out, HWW.out ()] at iW
     clear HL HS hl16
     rw [show ((64 : Nat) : Int) = 64 from rfl]
     go_wp2_with
      (first
       | (refine wpList_ldS stW8 rfl rfl g2 0 rfl (wvs s.list) (by rw [wvs_length]; rfl) i2.range0 ?_)
       | (refine wpList_alS stW8 (o := ⟨some 11, _, _, _, _, _⟩) rfl rfl ?_; intro wa ha fa za; have ZA := Lib.hid za; clear za; obtain ⟨gS, hgS⟩ : ∃ gS, wr.heap.size = gS := ⟨_, rfl⟩; rw [hgS] at ha; rw [hgS]; have HGS := Lib.hid hgS; clear hgS)
       | (refine wpList_stB stW8 rfl rfl gS rfl (wvs s.list) rfl (by rw [wvs_length]; rfl) (wvs_one _) (wvs (zW 8)) rfl ha ?_; intro wb hb fb zb; have ZB := Lib.hid zb; clear zb))
     have GWS : gW < gS := by have := HGS.out; have := iW.lt; omega
     have G4W : g4 < gW := by omega
     have FF : Fr [] wr wb := fa.trans fb (fun i hi => .inr (by have := HGS.out; simp at hi; omega))
     have i2 := i2.keep_nil FF
     have i4 := i4.keep_nil FF
     have i5 := i5.keep_nil FF
     have iW := iW.keep_nil FF
     have FB := F.trans_nil FF
     have iS : Blk wb gS 157 (wvs (s.run kc W 0).list).toArray := hb
     clear ha hb fa fb FF F
     go_wp2_with fail
     go_loopw [12] (fun i wr => ∃ k : Nat, k ≤ 64 ∧ i = .int .i64 k ∧ Blk wr gS 157 (wvs (s.run kc W k).list).toArray ∧ Fr [gS] wb wr) (fun i _ => 64 - (intOf i).toNat)
     case atStart => exact ⟨0, Nat.zero_le _, rfl, iS, Fr.refl _ _⟩
     case round =>
      clear iS
      obtain ⟨k, hk, rfl, iS, f9⟩ := hrel
      by_cases hlt : k < 64
      ·have HR := Lib.hid (show s.run kc W (k + 1) = (s.run kc W k).step (kc.getD k 0) (W.getD k 0) from rfl)
       obtain ⟨t, ht⟩ : ∃ t, s.run kc W k = t := ⟨_, rfl⟩
       rw [ht] at HR iS
       clear ht
       have i5 := i5.keep f9 (by simp; omega)
       have iW := iW.keep f9 (by simp; omega)
       have ck := blkW_at i5 (i := k) (x := kc.getD k 0) (by rw [List.getElem?_eq_getElem (by rw [HKL.out]; exact hlt)]; simp [HKL.out, hlt])
       have cw := blkW_at iW (i := k) (x := W.getD k 0) (by rw [List.getElem?_eq_getElem (by rw [HWL.out]; exact hlt)]; simp [HWL.out, hlt])
       generalize kc.getD k 0 = kk at *
       generalize W.getD k 0 = ww at *
       obtain ⟨c0, c1, c2, c3, c4, c5, c6, c7⟩ := w8_cells iS
       have K64 : (k : Int) < 64 := by omega
       go_wp2_with fail
       go_quiet (fail)
       go_wp2_with fail
       have E1 := uw_add
       have E2 := uw_xor
       have E3 := uw_and
       have E4 := uw_notM
       have d1 : (wr.drewN nq).cell? ⟨gS, 1, none⟩ = some (.int .u32 (uw t.b)) := c1
       have d2 : (wr.drewN nq).cell? ⟨gS, 2, none⟩ = some (.int .u32 (uw t.c)) := c2
       have d3 : (wr.drewN nq).cell? ⟨gS, 3, none⟩ = some (.int .u32 (uw t.d)) := c3
       have d5 : (wr.drewN nq).cell? ⟨gS, 5, none⟩ = some (.int .u32 (uw t.f)) := c5
       have d6 : (wr.drewN nq).cell? ⟨gS, 6, none⟩ = some (.int .u32 (uw t.g)) := c6
       have d7 : (wr.drewN nq).cell? ⟨gS, 7, none⟩ = some (.int .u32 (uw t.h)) := c7
       have dk : (wr.drewN nq).cell? ⟨g5, k, none⟩ = some (.int .u32 (uw kk)) := ck
       have dw : (wr.drewN nq).cell? ⟨gW, k, none⟩ = some (.int .u32 (uw ww)) := cw
       have FQ : Fr [] wr (wr.drewN nq) := (Fr.refl [] wr).drewN nq
       clear c0 c1 c2 c3 c4 c5 c6 c7 ck cw
       generalize wr.drewN nq = wq at *
       clear nq
       go_quiet ((go_at_call 150; exact Calls.quiet_of (turn_int _ _ (by omega) (by omega) _)))
       go_wp2_with fail
       have e1 : (wq.drewN nq).cell? ⟨gS, 1, none⟩ = some (.int .u32 (uw t.b)) := d1
       have e2 : (wq.drewN nq).cell? ⟨gS, 2, none⟩ = some (.int .u32 (uw t.c)) := d2
       have e3 : (wq.drewN nq).cell? ⟨gS, 3, none⟩ = some (.int .u32 (uw t.d)) := d3
       have e5 : (wq.drewN nq).cell? ⟨gS, 5, none⟩ = some (.int .u32 (uw t.f)) := d5
       have e6 : (wq.drewN nq).cell? ⟨gS, 6, none⟩ = some (.int .u32 (uw t.g)) := d6
       have e7 : (wq.drewN nq).cell? ⟨gS, 7, none⟩ = some (.int .u32 (uw t.h)) := d7
       have ek : (wq.drewN nq).cell? ⟨g5, k, none⟩ = some (.int .u32 (uw kk)) := dk
       have ew : (wq.drewN nq).cell? ⟨gW, k, none⟩ = some (.int .u32 (uw ww)) := dw
       have FR : Fr [] wr (wq.drewN nq) := FQ.drewN nq
       clear d1 d2 d3 d5 d6 d7 dk dw FQ
       generalize wq.drewN nq = wz at *
       clear nq
       go_quiet ((go_at_call 150; exact Calls.quiet_of (turn_int _ _ (by omega) (by omega) _)))
       have d1 : (wz.drewN nq).cell? ⟨gS, 1, none⟩ = some (.int .u32 (uw t.b)) := e1
       have d2 : (wz.drewN nq).cell? ⟨gS, 2, none⟩ = some (.int .u32 (uw t.c)) := e2
       have d3 : (wz.drewN nq).cell? ⟨gS, 3, none⟩ = some (.int .u32 (uw t.d)) := e3
       have d5 : (wz.drewN nq).cell? ⟨gS, 5, none⟩ = some (.int .u32 (uw t.f)) := e5
       have d6 : (wz.drewN nq).cell? ⟨gS, 6, none⟩ = some (.int .u32 (uw t.g)) := e6
       have FS : Fr [] wr (wz.drewN nq) := FR.drewN nq
       clear e1 e2 e3 e5 e6 e7 ek ew FR
       generalize wz.drewN nq = wy at *
       clear nq
       have iS2 := iS.keep_nil FS
       obtain ⟨x1, hx1⟩ : ∃ x, x = t.h + (rotr t.e 6 ^^^ rotr t.e 11 ^^^ rotr t.e 25) + (t.e &&& t.f ^^^ ~~~t.e &&& t.g) + kk + ww := ⟨_, rfl⟩
       obtain ⟨x2, hx2⟩ : ∃ x, x = (rotr t.a 2 ^^^ rotr t.a 13 ^^^ rotr t.a 22) + (t.a &&& t.b ^^^ t.a &&& t.c ^^^ t.b &&& t.c) := ⟨_, rfl⟩
       rw [uw_mod4, ← hx1, ← hx2]
       have X1 := Lib.hid hx1
       have X2 := Lib.hid hx2
       clear hx1 hx2
       go_wp2_with
        (first
         | (refine wpList_bldK (o := ⟨some 175, _, _, _, _, _⟩) rfl rfl #[(0, .int .u32 (uw (x1 + x2))), (1, .int .u32 (uw t.a)), (2, .int .u32 (uw t.b)), (3, .int .u32 (uw t.c)), (4, .int .u32 (uw (t.d + x1))), (5, .int .u32 (uw t.e)), (6, .int .u32 (uw t.f)), (7, .int .u32 (uw t.g))] (by kernel_rfl) (.agg (wvs (⟨x1 + x2, t.a, t.b, t.c, t.d + x1, t.e, t.f, t.g⟩ : S8).list).toArray) (bld8 _ (⟨x1 + x2, t.a, t.b, t.c, t.d + x1, t.e, t.f, t.g⟩ : S8)) ?_)
         | (refine wpList_stB stW8 rfl rfl gS rfl (wvs (⟨x1 + x2, t.a, t.b, t.c, t.d + x1, t.e, t.f, t.g⟩ : S8).list) rfl (by rw [wvs_length]; rfl) (wvs_one _) (wvs t.list) (by rw [wvs_length]; rfl) iS2 ?_; intro wv hv fv zv))
       have hu : (⟨x1 + x2, t.a, t.b, t.c, t.d + x1, t.e, t.f, t.g⟩ : S8) = t.step kk ww := by rw [S8.step, S8.one, S8.two, ch_eq, maj_eq, X1.out, X2.out]; rfl
       refine ⟨⟨k + 1, by omega, by go_num, ?_, (f9.trans_nil FS).trans_same fv⟩, by simp [intOf]; omega⟩
       rw [HR.out, ← hu]
       exact hv
      ·obtain rfl : k = 64 := by omega
       have FB := FB.trans f9 (fun i hi => .inr (by simp at hi; omega))
       have i2 := i2.keep f9 (by simp; omega)
       have i4 := i4.keep f9 (by simp; omega)
       obtain ⟨t, ht⟩ : ∃ t, s.run kc W 64 = t := ⟨_, rfl⟩
       rw [ht] at iS
       have HT := Lib.hid (fun _ : Unit => ht)
       have iS : Blk _ gS 157 (wvs (mixT s t 0)).toArray := iS
       clear ht f9 i5 iW iP
       rw [show ((64 : Nat) : Int) = 64 from rfl]
       go_wp2_with fail
       go_loopw [17] (fun i wr => ∃ k : Nat, k ≤ 8 ∧ i = .int .i64 k ∧ Blk wr gS 157 (wvs (mixT s t k)).toArray ∧ Blk wr g2 157 (wvs s.list).toArray ∧ Blk wr g4 157 (wvs (zW 8)).toArray ∧ Fr [] w wr) (fun i _ => 8 - (intOf i).toNat)
       case atStart => exact ⟨0, Nat.zero_le _, rfl, iS, i2, i4, FB⟩
       case round =>
        clear iS i2 i4 FB
        obtain ⟨k, hk, rfl, iS, i2, i4, F⟩ := hrel
        by_cases hlt : k < 8
        ·have c1 := blkW_at iS (mixT_at s t k hlt)
         have c2 := blkW_at i2 (i := k) (x := s.list.getD k 0) (by have : k < s.list.length := hlt; rw [List.getElem?_eq_getElem this]; simp [this])
         have z1 := iS.frozen k
         have hm := mixT_set s t k hlt
         have hs := blkW_set iS k (t.list.getD k 0 + s.list.getD k 0)
         rw [hm] at hs
         clear hm
         generalize s.list.getD k 0 = x at *
         generalize t.list.getD k 0 = y at *
         have E1 := uw_add
         have K8 : (k : Int) < 8 := by omega
         go_wp2_with fail
         go_region
         go_wp2_with fail
         have fs : Fr [gS] wr (wr.setCell ⟨gS, k, none⟩ (.int .u32 (uw (y + x)))).drew := ((Fr.refl [gS] wr).setCell (p := ⟨gS, k, none⟩) (.inl (by simp)) _).drew
         exact ⟨⟨k + 1, by omega, by go_num, hs.keep_nil ((Fr.refl [] _).drew), i2.keep fs (by simp; omega), i4.keep fs (by simp; omega), F.trans fs (fun i hi => .inr (by simp at hi; omega))⟩, by simp [intOf]; omega⟩
        ·obtain rfl : k = 8 := by omega
         have iS' : Blk _ gS 157 (wvs (s.add t).list).toArray := iS
         clear iS
         go_wp2_with
          (first
           | (refine wpList_ldS stW8 rfl rfl gS 0 rfl (wvs (s.add t).list) (by rw [wvs_length]; rfl) iS'.range0 ?_)
           | (refine wpList_stB stW8 rfl rfl g4 rfl (wvs (s.add t).list) rfl (by rw [wvs_length]; rfl) (wvs_one _) (wvs (zW 8)) rfl i4 ?_; intro w5 h5 f5 z5))
         try simp only [Exit.inBlock, Exit.then]
         refine bodyPost_ret (results_cell stW8 rfl rfl (by rw [wvs_length]; rfl) h5) rfl ?_
         exact ⟨by rw [HT.out ()], F.trans f5 (fun i hi => .inr (by simp at hi; omega))⟩
theorem xBlock_any (w : World) (s : S8) (p : List UInt8) (hp : p.length = 64) :
  Calls Tryz.prog 98 #[.agg (wvs s.list).toArray, .agg (bvs p).toArray] w fun e w' => e = .returned (.agg (wvs (shaBlk s p).list).toArray) ∧ Fr [] w w' :=
 xBlock_W w s p hp kC (sched p 64) rfl (sched_length p 64) (fun _ => rfl) const_any
end
section
open Go.RowKit
set_option maxRecDepth 100000 in
theorem first_any (w : World) : Calls Tryz.prog 186 #[] w fun e w' => e = .returned (.agg (wvs first8.list).toArray) ∧ Fr [] w w' := by
 go_enter Tryz.func186, Tryz.ntmps186
 go_wp2_with
  (first
   | (refine wpList_alS stW8 rfl rfl ?_; intro wb hb fb zb; have ZB := Lib.hid zb; clear zb)
   | (refine wpList_bld rfl rfl (.agg (wvs first8.list).toArray) ?_ ?_; (kernel_rfl))
   | (refine wpList_stB stW8 rfl rfl w.heap.size rfl (wvs first8.list) rfl (by rw [wvs_length]; rfl) (wvs_one _) (wvs (zW 8)) rfl hb ?_; intro wc hc fc zc))
 try simp only [Exit.inBlock, Exit.then]
 refine bodyPost_ret (results_cell stW8 rfl rfl (by rw [wvs_length]; rfl) hc) rfl ?_
 exact ⟨rfl, fb.trans fc (fun i hi => .inr (by simp at hi; omega))⟩
set_option maxRecDepth 100000 in
theorem xFirst_any (w : World) : Calls Tryz.prog 97 #[] w fun e w' => e = .returned (.agg (wvs first8.list).toArray) ∧ Fr [] w w' := by
 go_enter Tryz.func97, Tryz.ntmps97
 go_wp2_with
  (first
   | (refine wpList_alS stW8 rfl rfl ?_; intro wb hb fb zb; have ZB := Lib.hid zb; clear zb)
   | (refine wpList_bld rfl rfl (.agg (wvs first8.list).toArray) ?_ ?_; (kernel_rfl))
   | (refine wpList_stB stW8 rfl rfl w.heap.size rfl (wvs first8.list) rfl (by rw [wvs_length]; rfl) (wvs_one _) (wvs (zW 8)) rfl hb ?_; intro wc hc fc zc))
 try simp only [Exit.inBlock, Exit.then]
 refine bodyPost_ret (results_cell stW8 rfl rfl (by rw [wvs_length]; rfl) hc) rfl ?_
 exact ⟨rfl, fb.trans fc (fun i hi => .inr (by simp at hi; omega))⟩
def hashC (s : S8) (v : Value) (n : Nat) : List Value := wvs s.list ++ [v, .int .i64 n]
theorem hashC_len (s : S8) (v : Value) (n : Nat) : (hashC s v n).length = 10 := rfl
set_option maxRecDepth 100000 in
theorem bldHash0 (w : World) (s : S8) : (Instr.build 215 #[(0, .agg (wvs s.list).toArray)]).run Tryz.prog w = .ok (.agg (hashC s (.slice none 0 0) 0).toArray) w := by kernel_rfl
set_option maxRecDepth 100000 in
theorem bldHash (w : World) (s : S8) (A : Option Addr) (m c n : Nat) : (Instr.build 215 #[(0, .agg (wvs s.list).toArray), (1, .slice A m c), (2, .int .i64 n)]).run Tryz.prog w = .ok (.agg (hashC s (.slice A m c) n).toArray) w := by kernel_rfl
structure Hsh (w : World) (g B : Nat) (v : Value) (l : List UInt8) : Prop where
 blk : Blk w g 215 (hashC (shaRun first8 l (l.length / 64)) v l.length).toArray
 row : Row w B 5 1 v (l.length % 64) (bvs (l.drop (64 * (l.length / 64))))
 base : B ≤ w.heap.size
theorem Hsh.keep {w w' : World} {g B : Nat} {v : Value} {l : List UInt8} (h : Hsh w g B v l) {F : List Nat} (hf : Fr F w w') (hg : g ∉ F) (hv : ∀ b, v.ownBlock = some b → b ∉ F) : Hsh w' g B v l :=
 ⟨h.blk.keep hf hg, h.row.keep hf hv, Nat.le_trans h.base hf.size⟩
theorem Hsh.keep_nil {w w' : World} {g B : Nat} {v : Value} {l : List UInt8} (h : Hsh w g B v l) (hf : Fr [] w w') : Hsh w' g B v l := h.keep hf (by simp) (by simp)
set_option maxHeartbeats 1000000 in
theorem newHash_any (w : World) : Calls Tryz.prog 135 #[] w fun e w' => ∃ g, e = .returned (.pointer (some ⟨g, 0, none⟩)) ∧ w.heap.size ≤ g ∧ Hsh w' g w'.heap.size (.slice none 0 0) [] ∧ Fr [] w w' := by
 go_enter Tryz.func135, Tryz.ntmps135
 go_wp2_with fail
 refine (first_any w).mono ?_
 rintro e w1 ⟨rfl, f1⟩
 go_wp2_with
  (first
   | (refine wpList_bldK rfl rfl #[(0, .agg (wvs first8.list).toArray)] (by kernel_rfl) (.agg (hashC first8 (.slice none 0 0) 0).toArray) (bldHash0 _ first8) ?_)
   | (refine wpList_boxS rfl rfl (hashC first8 (.slice none 0 0) 0) rfl ?_; intro w2 h2 f2 z2; have Z2 := Lib.hid z2; clear z2))
 go_ret
 exact ⟨_, rfl, f1.size, ⟨h2, Row.nil _ _ _ _, Nat.le_refl _⟩, f1.trans_nil f2⟩
end
end Go.Proofs.YtbanogfljpkbkaaGreatDoor
