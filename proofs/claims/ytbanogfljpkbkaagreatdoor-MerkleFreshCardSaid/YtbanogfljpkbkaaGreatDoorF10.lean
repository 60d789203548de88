/-
  Texts of this claim, one behind the other: ShaC, ShaD.
-/
import Derived.Test.YtbanogfljpkbkaaGreatDoorF9
import Derived.Deep.RegionHeld3
import Derived.Deep.DeepCutAuto
set_option linter.unusedSimpArgs false
set_option linter.unusedVariables false
set_option linter.unnecessarySimpa false
namespace Go.Proofs.YtbanogfljpkbkaaGreatDoor
section
open Go.RowKit
def zB (n : Nat) : List UInt8 := List.replicate n 0
def zW (n : Nat) : List UInt32 := List.replicate n 0
set_option maxRecDepth 100000 in
theorem stA64 : StT Tryz.prog 159 64 (bvs (zB 64)) := ⟨⟨_, Tryz.underlying159, rfl⟩, by kernel_rfl, by decide, by kernel_rfl, bvs_one _⟩
set_option maxRecDepth 100000 in
theorem stA32 : StT Tryz.prog 39 32 (bvs (zB 32)) := ⟨⟨_, Tryz.underlying39, rfl⟩, by kernel_rfl, by decide, by kernel_rfl, bvs_one _⟩
set_option maxRecDepth 100000 in
theorem stW64 : StT Tryz.prog 188 64 (wvs (zW 64)) := ⟨⟨_, Tryz.underlying188, rfl⟩, by kernel_rfl, by decide, by kernel_rfl, wvs_one _⟩
set_option maxRecDepth 100000 in
theorem stW8 : StT Tryz.prog 157 8 (wvs (zW 8)) := ⟨⟨_, Tryz.underlying157, rfl⟩, by kernel_rfl, by decide, by kernel_rfl, wvs_one _⟩
def plw (l : List UInt32) (n : Nat) : List UInt32 := l ++ List.replicate (n - l.length) 0
theorem plw_len {l : List UInt32} {n : Nat} (h : l.length ≤ n) : (plw l n).length = n := by
 rw [plw, List.length_append, List.length_replicate]; omega
theorem plw_all {l : List UInt32} {n : Nat} (h : l.length = n) : plw l n = l := by simp [plw, h]
theorem plw_set {l : List UInt32} {n : Nat} (h : l.length < n) (x : UInt32) : (plw l n).set l.length x = plw (l ++ [x]) n := by
 rw [plw, plw, List.set_append_right _ _ (Nat.le_refl _), Nat.sub_self, show n - l.length = (n - (l.length + 1)) + 1 by omega, List.replicate_succ, List.set_cons_zero, List.length_append, List.length_cons, List.length_nil, List.append_assoc]
 rfl
theorem plw_at {l : List UInt32} {n i : Nat} (h : i < l.length) : (plw l n)[i]? = some (l.getD i 0) := by
 rw [plw, List.getElem?_append_left h]; simp [h]
section
variable {w : World} {g : Nat} {t : TypeId}
theorem blkW_at {l : List UInt32} (hb : Blk w g t (wvs l).toArray) {i : Nat} {x : UInt32} (h : l[i]? = some x) : w.cell? ⟨g, i, none⟩ = some (.int .u32 (uw x)) := by
 rw [hb.cell, List.getElem?_toArray]
 simp [wvs, h, wv]
theorem blkW_some {l : List UInt32} (hb : Blk w g t (wvs l).toArray) {i : Nat} (h : i < l.length) : ∃ v, w.cell? ⟨g, i, none⟩ = some v := ⟨_, blkW_at hb (List.getElem?_eq_getElem h)⟩
theorem blkW_set {l : List UInt32} (hb : Blk w g t (wvs l).toArray) (i : Nat) (x : UInt32) : Blk (w.setCell ⟨g, i, none⟩ (.int .u32 (uw x))) g t (wvs (l.set i x)).toArray := by
 have := hb.set_ i (.int .u32 (uw x))
 rwa [List.setIfInBounds_toArray, wvs_set] at this
theorem blkB_at {l : List UInt8} (hb : Blk w g t (bvs l).toArray) {i : Nat} (h : i < l.length) : w.cell? ⟨g, i, none⟩ = some (.int .u8 ((l.getD i 0).toNat : Int)) := by
 rw [hb.cell, List.getElem?_toArray]
 simp [bvs, h, bv]
end
set_option maxRecDepth 100000 in
set_option maxHeartbeats 4000000 in
theorem words_any (w : World) (p : List UInt8) (hp : p.length = 64) :
  Calls Tryz.prog 208 #[.agg (bvs p).toArray] w fun e w' => e = .returned (.agg (wvs (sched p 64)).toArray) ∧ Fr [] w w' := by
 have HP := Lib.hid hp
 clear hp
 go_enter Tryz.func208, Tryz.ntmps208
 go_wp2_with
  (first
   | (refine wpList_boxS rfl rfl (bvs p) rfl ?_; intro w1 h1 f1 z1; have Z1 := Lib.hid z1; clear z1; obtain ⟨g1, hg1⟩ : ∃ g1, w.heap.size = g1 := ⟨_, rfl⟩; rw [hg1] at h1; rw [hg1]; have HG1 := Lib.hid hg1; clear hg1)
   | (refine wpList_alS stW64 (o := ⟨some 2, _, _, _, _, _⟩) rfl rfl ?_; intro w2 h2 f2 z2; have Z2 := Lib.hid z2; clear z2; obtain ⟨g2, hg2⟩ : ∃ g2, w1.heap.size = g2 := ⟨_, rfl⟩; rw [hg2] at h2; rw [hg2]; have HG2 := Lib.hid hg2; clear hg2)
   | (refine wpList_alS stW64 (o := ⟨some 3, _, _, _, _, _⟩) rfl rfl ?_; intro w3 h3 f3 z3; have Z3 := Lib.hid z3; clear z3; obtain ⟨g3, hg3⟩ : ∃ g3, w2.heap.size = g3 := ⟨_, rfl⟩; rw [hg3] at h3; rw [hg3]; have HG3 := Lib.hid hg3; clear hg3))
 have G1 : w.heap.size = g1 := HG1.out
 have G12 : g1 < g2 := by have := HG2.out; have := h1.lt; omega
 have G23 : g2 < g3 := by have := HG3.out; have := h2.lt; omega
 have F3 := (f1.trans_nil f2).trans_nil f3
 have i1 := (h1.keep_nil f2).keep_nil f3
 have i2 := h2.keep_nil f3
 have i3 : Blk w3 g3 188 (wvs (plw (sched p 0) 64)).toArray := h3
 clear h1 h2 h3 f1 f2 f3
 go_loopw [7] (fun i wr => ∃ k : Nat, k ≤ 64 ∧ i = .int .i64 k ∧ Blk wr g1 159 (bvs p).toArray ∧ Blk wr g2 188 (wvs (zW 64)).toArray ∧ Blk wr g3 188 (wvs (plw (sched p k) 64)).toArray ∧ Fr [] w wr) (fun i _ => 64 - (intOf i).toNat)
 case atStart => exact ⟨0, Nat.zero_le _, rfl, i1, i2, i3, F3⟩
 case round =>
  clear i1 i2 i3 F3
  obtain ⟨k, hk, rfl, i1, i2, i3, F⟩ := hrel
  have HL := Lib.hid (sched_length p k)
  have HS := Lib.hid (show sched p (k + 1) = sched p k ++ [if k < 16 then wordAt p k else nextW (sched p k) k] from rfl)
  by_cases hlt : k < 64
  ·by_cases h16 : k < 16
   ·have e0 := blkB_at i1 (i := 4 * k) (by rw [HP.out]; omega)
    have e1 := blkB_at i1 (i := 4 * k + 1) (by rw [HP.out]; omega)
    have e2 := blkB_at i1 (i := 4 * k + 2) (by rw [HP.out]; omega)
    have e3 := blkB_at i1 (i := 4 * k + 3) (by rw [HP.out]; omega)
    have hwk : wordAt p k = shl (p.getD (4 * k) 0).toUInt32 24 ||| shl (p.getD (4 * k + 1) 0).toUInt32 16 ||| shl (p.getD (4 * k + 2) 0).toUInt32 8 ||| (p.getD (4 * k + 3) 0).toUInt32 := rfl
    generalize p.getD (4 * k) 0 = b0 at *
    generalize p.getD (4 * k + 1) 0 = b1 at *
    generalize p.getD (4 * k + 2) 0 = b2 at *
    generalize p.getD (4 * k + 3) 0 = b3 at *
    have HWK := Lib.hid hwk
    obtain ⟨v3, c3⟩ := blkW_some i3 (i := k) (by rw [plw_len (by rw [HL.out]; exact hk)]; exact hlt)
    have z3 := i3.frozen k
    clear hwk
    go_wp2_with fail
    try simp only [Act.put, p1, p2, p3]
    have X0 : IntKind.i64.wrap (4 * (k : Int)) = 4 * (k : Int) := IntWalk.i64_in _ (by omega)
    have X1 : IntKind.i64.wrap (4 * (k : Int) + 1) = 4 * (k : Int) + 1 := IntWalk.i64_in _ (by omega)
    have X2 : IntKind.i64.wrap (4 * (k : Int) + 2) = 4 * (k : Int) + 2 := IntWalk.i64_in _ (by omega)
    have X3 : IntKind.i64.wrap (4 * (k : Int) + 3) = 4 * (k : Int) + 3 := IntWalk.i64_in _ (by omega)
    have T0 : (4 * (k : Int)).toNat = 4 * k := by omega
    have T1 : (4 * (k : Int) + 1).toNat = 4 * k + 1 := by omega
    have T2 : (4 * (k : Int) + 2).toNat = 4 * k + 2 := by omega
    have T3 : (4 * (k : Int) + 3).toNat = 4 * k + 3 := by omega
    have A0 : 0 ≤ 4 * (k : Int) := by omega
    have A1 : 0 ≤ 4 * (k : Int) + 1 := by omega
    have A2 : 0 ≤ 4 * (k : Int) + 2 := by omega
    have A3 : 0 ≤ 4 * (k : Int) + 3 := by omega
    have B0 : 4 * (k : Int) < 64 := by omega
    have B1 : 4 * (k : Int) + 1 < 64 := by omega
    have B2 : 4 * (k : Int) + 2 < 64 := by omega
    have B3 : 4 * (k : Int) + 3 < 64 := by omega
    have C0 := uw_byte b0
    have C1 := uw_byte b1
    have C2 := uw_byte b2
    have C3 := uw_byte b3
    have D0 : IntKind.u32.wrap (uw b0.toUInt32 * 16777216) = uw (shl b0.toUInt32 24) := uw_shl _ 24
    have D1 : IntKind.u32.wrap (uw b1.toUInt32 * 65536) = uw (shl b1.toUInt32 16) := uw_shl _ 16
    have D2 : IntKind.u32.wrap (uw b2.toUInt32 * 256) = uw (shl b2.toUInt32 8) := uw_shl _ 8
    have E1 := uw_or (shl b0.toUInt32 24) (shl b1.toUInt32 16)
    have E2 := uw_or (shl b0.toUInt32 24 ||| shl b1.toUInt32 16) (shl b2.toUInt32 8)
    have E3 := uw_or (shl b0.toUInt32 24 ||| shl b1.toUInt32 16 ||| shl b2.toUInt32 8) b3.toUInt32
    refine wp_region_held_drew (S := fun w' => w'.cell? ⟨g1, 4 * k, none⟩ = some (.int .u8 b0.toNat) ∧ w'.cell? ⟨g1, 4 * k + 1, none⟩ = some (.int .u8 b1.toNat) ∧ w'.cell? ⟨g1, 4 * k + 2, none⟩ = some (.int .u8 b2.toNat) ∧ w'.cell? ⟨g1, 4 * k + 3, none⟩ = some (.int .u8 b3.toNat)) (by kernel_rfl) ⟨e0, e1, e2, e3⟩ (fun hHeld => ?_)
    refine tw 0 12 hHeld ?_
    refine tw 1 13 hHeld ?_
    refine tw 2 14 hHeld ?_
    refine tw 3 15 hHeld ?_
    refine tw 4 16 hHeld ?_
    refine tw 5 17 hHeld ?_
    refine tw 6 18 hHeld ?_
    refine tw 7 19 hHeld ?_
    refine tw 8 20 hHeld ?_
    refine tw 9 21 hHeld ?_
    refine tw 10 22 hHeld ?_
    refine tw 11 23 hHeld ?_
    refine tw 12 24 hHeld ?_
    refine tw 13 25 hHeld ?_
    refine tw 14 26 hHeld ?_
    refine tw 15 27 hHeld ?_
    refine tw 16 28 hHeld ?_
    refine tw 17 29 hHeld ?_
    refine tw 18 30 hHeld ?_
    refine tw 19 31 hHeld ?_
    refine tw 20 32 hHeld ?_
    refine tw 21 33 hHeld ?_
    refine tw 22 34 hHeld ?_
    refine tw 23 35 hHeld ?_
    refine tw 24 36 hHeld ?_
    refine tw 25 37 hHeld ?_
    refine tw 26 38 hHeld ?_
    refine tw 27 39 hHeld ?_
    refine tw 28 40 hHeld ?_
    refine tw 29 41 hHeld ?_
    refine tw 30 42 hHeld ?_
    refine tcd 31 none (fun K hK => ?_)
    refine wp_st1 rfl (by kernel_rfl) g3 k rfl (.int .u32 (uw (shl b0.toUInt32 24 ||| shl b1.toUInt32 16 ||| shl b2.toUInt32 8 ||| b3.toUInt32))) rfl rfl rfl (show World.cell? _ ⟨g3, k, none⟩ = some v3 from c3) (show World.frozen? _ ⟨g3, k, none⟩ = false from z3) ?_
    have f4 : Fr [g3] wr _ := ((Fr.refl [g3] wr).drew).setCell (p := ⟨g3, k, none⟩) (.inl (by simp)) (.int .u32 (uw (shl b0.toUInt32 24 ||| shl b1.toUInt32 16 ||| shl b2.toUInt32 8 ||| b3.toUInt32)))
    have i4 : Blk _ g3 188 _ := blkW_set (i3.keep_nil ((Fr.refl [] wr).drew)) k (shl b0.toUInt32 24 ||| shl b1.toUInt32 16 ||| shl b2.toUInt32 8 ||| b3.toUInt32)
    refine hK _ _ ⟨f4.cell (p := ⟨g1, 4 * k, none⟩) (by simp; omega) hHeld.1, f4.cell (p := ⟨g1, 4 * k + 1, none⟩) (by simp; omega) hHeld.2.1, f4.cell (p := ⟨g1, 4 * k + 2, none⟩) (by simp; omega) hHeld.2.2.1, f4.cell (p := ⟨g1, 4 * k + 3, none⟩) (by simp; omega) hHeld.2.2.2⟩ (fun hHn => ?_)
    clear hHn hHeld
    generalize World.setCell _ ⟨g3, k, none⟩ (.int .u32 (uw (shl b0.toUInt32 24 ||| shl b1.toUInt32 16 ||| shl b2.toUInt32 8 ||| b3.toUInt32))) = w4 at *
    clear hK K
    try simp only [Act.put, p1, p2, p3]
    refine wpAnyH_done (by kernel_rfl) ?_ _
    clear X0 X1 X2 X3 T0 T1 T2 T3 A0 A1 A2 A3 B0 B1 B2 B3 C0 C1 C2 C3 D0 D1 D2 E1 E2 E3 e0 e1 e2 e3 c3 z3
    go_wp2_with fail
    refine ⟨⟨k + 1, by omega, by go_num, i1.keep f4 (by simp; omega), i2.keep f4 (by simp; omega), ?_, F.trans f4 (fun i hi => .inr (by simp at hi; omega))⟩, by simp [intOf]; omega⟩
    have hs := plw_set (l := sched p k) (n := 64) (by rw [HL.out]; exact hlt) (wordAt p k)
    rw [HL.out] at hs
    rw [HS.out, if_pos h16, ← hs, HWK.out]
    exact i4
   ·have hl16 : 16 ≤ k := by omega
    obtain ⟨x15, hx15⟩ : ∃ x, (sched p k).getD (k - 15) 0 = x := ⟨_, rfl⟩
    obtain ⟨x2, hx2⟩ : ∃ x, (sched p k).getD (k - 2) 0 = x := ⟨_, rfl⟩
    obtain ⟨x16, hx16⟩ : ∃ x, (sched p k).getD (k - 16) 0 = x := ⟨_, rfl⟩
    obtain ⟨x7, hx7⟩ : ∃ x, (sched p k).getD (k - 7) 0 = x := ⟨_, rfl⟩
    have c15 := blkW_at i3 (plw_at (n := 64) (i := k - 15) (by rw [HL.out]; omega))
    have c2 := blkW_at i3 (plw_at (n := 64) (i := k - 2) (by rw [HL.out]; omega))
    have c16 := blkW_at i3 (plw_at (n := 64) (i := k - 16) (by rw [HL.out]; omega))
    have c7 := blkW_at i3 (plw_at (n := 64) (i := k - 7) (by rw [HL.out]; omega))
    rw [hx15] at c15
    rw [hx2] at c2
    rw [hx16] at c16
    rw [hx7] at c7
    have HN := Lib.hid (show nextW (sched p k) k = x16 + x7 + (rotr x15 7 ^^^ rotr x15 18 ^^^ shr x15 3) + (rotr x2 17 ^^^ rotr x2 19 ^^^ shr x2 10) by rw [nextW, hx15, hx2, hx16, hx7]; rfl)
    clear hx15 hx2 hx16 hx7
    obtain ⟨v3, c3⟩ := blkW_some i3 (i := k) (by rw [plw_len (by rw [HL.out]; exact hk)]; exact hlt)
    have z3 := i3.frozen k
    go_wp2_with fail
    have X0 : IntKind.i64.wrap ((k : Int) - 15) = (k : Int) - 15 := IntWalk.i64_in _ (by omega)
    have X1 : IntKind.i64.wrap ((k : Int) - 2) = (k : Int) - 2 := IntWalk.i64_in _ (by omega)
    have X2 : IntKind.i64.wrap ((k : Int) - 16) = (k : Int) - 16 := IntWalk.i64_in _ (by omega)
    have X3 : IntKind.i64.wrap ((k : Int) - 7) = (k : Int) - 7 := IntWalk.i64_in _ (by omega)
    have T0 : ((k : Int) - 15).toNat = k - 15 := by omega
    have T1 : ((k : Int) - 2).toNat = k - 2 := by omega
    have T2 : ((k : Int) - 16).toNat = k - 16 := by omega
    have T3 : ((k : Int) - 7).toNat = k - 7 := by omega
    have A0 : 0 ≤ (k : Int) - 15 := by omega
    have A1 : 0 ≤ (k : Int) - 2 := by omega
    have A2 : 0 ≤ (k : Int) - 16 := by omega
    have A3 : 0 ≤ (k : Int) - 7 := by omega
    have A0' : (15 : Int) ≤ k := by omega
    have A1' : (2 : Int) ≤ k := by omega
    have A2' : (16 : Int) ≤ k := by omega
    have A3' : (7 : Int) ≤ k := by omega
    have B0 : (k : Int) - 15 < 64 := by omega
    have B1 : (k : Int) - 2 < 64 := by omega
    have B2 : (k : Int) - 16 < 64 := by omega
    have B3 : (k : Int) - 7 < 64 := by omega
    go_quiet (fail)
    go_wp2_with fail
    try simp only [Act.put, p1, p2, p3]
    have D0 : uw x15 / 8 = uw (shr x15 3) := uw_shr _ 3
    have D1 : uw x2 / 1024 = uw (shr x2 10) := uw_shr _ 10
    have E1 := uw_add
    have E2 := uw_xor
    refine wp_region_held_drew (S := fun w' => w'.cell? ⟨g3, k - 16, none⟩ = some (.int .u32 (uw x16)) ∧ w'.cell? ⟨g3, k - 7, none⟩ = some (.int .u32 (uw x7))) (by kernel_rfl) ⟨c16, c7⟩ (fun hHeld => ?_)
    refine tw 0 51 hHeld ?_
    refine tw 1 52 hHeld ?_
    refine tw 2 53 hHeld ?_
    refine tw 3 54 hHeld ?_
    refine tw 4 55 hHeld ?_
    refine tw 5 56 hHeld ?_
    refine tw 6 57 hHeld ?_
    refine tw 7 58 hHeld ?_
    refine tw 8 59 hHeld ?_
    refine tw 9 60 hHeld ?_
    refine tw 10 61 hHeld ?_
    refine tw 12 63 hHeld ?_
    refine tw 15 66 hHeld ?_
    refine tw 16 67 hHeld ?_
    refine tw 19 70 hHeld ?_
    refine tw 21 72 hHeld ?_
    refine tw 24 75 hHeld ?_
    refine tw 25 76 hHeld ?_
    refine tc 11 (fun K hK => ?_)
    go_simp
    refine (right_any x15 7 (by omega) (by omega) _).mono ?_
    rintro e w' ⟨rfl, rfl⟩
    refine hK.out _ _ hHeld (fun hHn => ?_)
    clear hHn
    clear hK K
    try simp only [Act.put, p1, p2, p3]
    refine tc 13 (fun K hK => ?_)
    go_simp
    refine (right_any x15 18 (by omega) (by omega) _).mono ?_
    rintro e w' ⟨rfl, rfl⟩
    refine hK.out _ _ hHeld (fun hHn => ?_)
    clear hHn
    clear hK K
    try simp only [Act.put, p1, p2, p3]
    refine tw 14 65 hHeld ?_
    refine tw 17 68 hHeld ?_
    refine tw 18 69 hHeld ?_
    refine tc 20 (fun K hK => ?_)
    go_simp
    refine (right_any x2 17 (by omega) (by omega) _).mono ?_
    rintro e w' ⟨rfl, rfl⟩
    refine hK.out _ _ hHeld (fun hHn => ?_)
    clear hHn
    clear hK K
    try simp only [Act.put, p1, p2, p3]
    refine tc 22 (fun K hK => ?_)
    go_simp
    refine (right_any x2 19 (by omega) (by omega) _).mono ?_
    rintro e w' ⟨rfl, rfl⟩
    refine hK.out _ _ hHeld (fun hHn => ?_)
    clear hHn
    clear hK K
    try simp only [Act.put, p1, p2, p3]
    refine tw 23 74 hHeld ?_
    refine tw 26 77 hHeld ?_
    refine tw 27 78 hHeld ?_
    refine tw 28 79 hHeld ?_
    refine tcd 29 none (fun K hK => ?_)
    refine wp_st1 rfl (by kernel_rfl) g3 k rfl (.int .u32 (uw (x16 + x7 + (rotr x15 7 ^^^ rotr x15 18 ^^^ shr x15 3) + (rotr x2 17 ^^^ rotr x2 19 ^^^ shr x2 10)))) rfl rfl rfl (show World.cell? _ ⟨g3, k, none⟩ = some v3 from c3) (show World.frozen? _ ⟨g3, k, none⟩ = false from z3) ?_
    have f4 : Fr [g3] wr _ := (((Fr.refl [g3] wr).drewN (nq + 1))).setCell (p := ⟨g3, k, none⟩) (.inl (by simp)) (.int .u32 (uw (x16 + x7 + (rotr x15 7 ^^^ rotr x15 18 ^^^ shr x15 3) + (rotr x2 17 ^^^ rotr x2 19 ^^^ shr x2 10))))
    have i4 : Blk _ g3 188 _ := blkW_set (i3.keep_nil (((Fr.refl [] wr).drewN (nq + 1)))) k (x16 + x7 + (rotr x15 7 ^^^ rotr x15 18 ^^^ shr x15 3) + (rotr x2 17 ^^^ rotr x2 19 ^^^ shr x2 10))
    refine hK _ _ ⟨(World.cell?_setCell_other _ _ _ _ (by first | (simp; done) | (simp; omega))).trans hHeld.1, (World.cell?_setCell_other _ _ _ _ (by first | (simp; done) | (simp; omega))).trans hHeld.2⟩ (fun hHn => ?_)
    clear hHn hHeld
    generalize World.setCell _ ⟨g3, k, none⟩ (.int .u32 (uw (x16 + x7 + (rotr x15 7 ^^^ rotr x15 18 ^^^ shr x15 3) + (rotr x2 17 ^^^ rotr x2 19 ^^^ shr x2 10)))) = w4 at *
    clear hK K
    try simp only [Act.put, p1, p2, p3]
    refine wpAnyH_done (by kernel_rfl) ?_ _
    clear X0 X1 X2 X3 T0 T1 T2 T3 A0 A1 A2 A3 A0' A1' A2' A3' B0 B1 B2 B3 D0 D1 E1 E2 c15 c2 c16 c7 c3 z3
    go_wp2_with fail
    refine ⟨⟨k + 1, by omega, by go_num, i1.keep f4 (by simp; omega), i2.keep f4 (by simp; omega), ?_, F.trans f4 (fun i hi => .inr (by simp at hi; omega))⟩, by simp [intOf]; omega⟩
    have hs := plw_set (l := sched p k) (n := 64) (by rw [HL.out]; exact hlt) (nextW (sched p k) k)
    rw [HL.out] at hs
    rw [HS.out, if_neg h16, ← hs, HN.out]
    exact i4
  ·obtain rfl : k = 64 := by omega
   rw [plw_all HL.out] at i3
   go_wp2_with
    (first
     | (refine wpList_ldS stW64 rfl rfl g3 0 rfl (wvs (sched p 64)) (by rw [wvs_length, HL.out]) i3.range0 ?_)
     | (refine wpList_stB stW64 rfl rfl g2 rfl (wvs (sched p 64)) rfl (by rw [wvs_length, HL.out]) (wvs_one _) (wvs (zW 64)) rfl i2 ?_; intro w5 h5 f5 z5))
   try simp only [Exit.inBlock, Exit.then]
   refine bodyPost_ret (results_cell stW64 rfl rfl (by rw [wvs_length, HL.out]) h5) rfl ?_
   exact ⟨rfl, F.trans f5 (fun i hi => .inr (by simp at hi; omega))⟩
end
section
open Go.RowKit
def KG (w : World) : Prop := w.rangeAt 0 0 (wvs kC)
theorem KG.keep {w w' : World} (h : KG w) (hf : Fr [] w w') : KG w' := rangeAt_keep h hf (by simp)
theorem w8_cells {w : World} {g : Nat} {s : S8} (hb : Blk w g 157 (wvs s.list).toArray) : w.cell? ⟨g, 0, none⟩ = some (.int .u32 (uw s.a)) ∧ w.cell? ⟨g, 1, none⟩ = some (.int .u32 (uw s.b)) ∧ w.cell? ⟨g, 2, none⟩ = some (.int .u32 (uw s.c)) ∧ w.cell? ⟨g, 3, none⟩ = some (.int .u32 (uw s.d)) ∧ w.cell? ⟨g, 4, none⟩ = some (.int .u32 (uw s.e)) ∧ w.cell? ⟨g, 5, none⟩ = some (.int .u32 (uw s.f)) ∧ w.cell? ⟨g, 6, none⟩ = some (.int .u32 (uw s.g)) ∧ w.cell? ⟨g, 7, none⟩ = some (.int .u32 (uw s.h)) :=
 ⟨blkW_at hb rfl, blkW_at hb rfl, blkW_at hb rfl, blkW_at hb rfl, blkW_at hb rfl, blkW_at hb rfl, blkW_at hb rfl, blkW_at hb rfl⟩
set_option maxRecDepth 100000 in
theorem bld8 (w : World) (t : S8) : (Instr.build 157 #[(0, .int .u32 (uw t.a)), (1, .int .u32 (uw t.b)), (2, .int .u32 (uw t.c)), (3, .int .u32 (uw t.d)), (4, .int .u32 (uw t.e)), (5, .int .u32 (uw t.f)), (6, .int .u32 (uw t.g)), (7, .int .u32 (uw t.h))]).run Tryz.prog w = .ok (.agg (wvs t.list).toArray) w := by kernel_rfl
theorem S8.list_len (s : S8) : s.list.length = 8 := rfl
def mixL (s t : S8) (k : Nat) : List UInt32 := (s.add t).list.take k ++ s.list.drop k
theorem mixL_at (s t : S8) (k : Nat) (h : k < 8) : (mixL s t k)[k]? = some (s.list.getD k 0) := by
 have l1 : ((s.add t).list.take k).length = k := by rw [List.length_take, S8.list_len]; omega
 have hk : k < s.list.length := h
 rw [mixL, List.getElem?_append_right (by omega), l1, Nat.sub_self, List.getElem?_drop, Nat.add_zero, List.getElem?_eq_getElem hk]
 simp [hk]
theorem mixL_set (s t : S8) (k : Nat) (h : k < 8) : (mixL s t k).set k (s.list.getD k 0 + t.list.getD k 0) = mixL s t (k + 1) := by
 match k, h with
 | 0, _ | 1, _ | 2, _ | 3, _ | 4, _ | 5, _ | 6, _ | 7, _ => rfl
set_option maxRecDepth 100000 in
set_option maxHeartbeats 4000000 in
theorem block_W (w : World) (s : S8) (p : List UInt8) (hp : p.length = 64) (kc W : List UInt32) (hkl : kc.length = 64) (hWl : W.length = 64) (hK0 : w.rangeAt 0 0 (wvs kc))
  (hw : ∀ w, Calls Tryz.prog 208 #[.agg (bvs p).toArray] w fun e w' => e = .returned (.agg (wvs W).toArray) ∧ Fr [] w w') :
  Calls Tryz.prog 187 #[.agg (wvs s.list).toArray, .agg (bvs p).toArray] w fun e w' => e = .returned (.agg (wvs (s.add (s.run kc W 64)).list).toArray) ∧ Fr [] w w' := by
 have HP := Lib.hid hp
 have HKL := Lib.hid hkl
 have HWL := Lib.hid hWl
 have HWC := Lib.hid hw
 clear hp hkl hWl hw
 go_enter Tryz.func187, Tryz.ntmps187
 go_wp2_with
  (first
   | (refine wpList_boxS (o := ⟨some 2, _, _, _, _, _⟩) rfl rfl (wvs s.list) rfl ?_; intro w2 h2 f2 z2; have Z2 := Lib.hid z2; clear z2; obtain ⟨g2, hg2⟩ : ∃ g2, w.heap.size = g2 := ⟨_, rfl⟩; rw [hg2] at h2; rw [hg2]; have HG2 := Lib.hid hg2; clear hg2)
   | (refine wpList_boxS (o := ⟨some 3, _, _, _, _, _⟩) rfl rfl (bvs p) rfl ?_; intro w3 h3 f3 z3; have Z3 := Lib.hid z3; clear z3; obtain ⟨g3, hg3⟩ : ∃ g3, w2.heap.size = g3 := ⟨_, rfl⟩; rw [hg3] at h3; rw [hg3]; have HG3 := Lib.hid hg3; clear hg3)
   | (refine wpList_alS stW8 (o := ⟨some 4, _, _, _, _, _⟩) rfl rfl ?_; intro w4 h4 f4 z4; have Z4 := Lib.hid z4; clear z4; obtain ⟨g4, hg4⟩ : ∃ g4, w3.heap.size = g4 := ⟨_, rfl⟩; rw [hg4] at h4; rw [hg4]; have HG4 := Lib.hid hg4; clear hg4; have i3 := h3.keep_nil f4)
   | (refine wpList_ldS stA64 rfl rfl g3 0 rfl (bvs p) (by rw [bvs_length, HP.out]) i3.range0 ?_))
 have G2 : w.heap.size = g2 := HG2.out
 have G23 : g2 < g3 := by have := HG3.out; have := h2.lt; omega
 have G34 : g3 < g4 := by have := HG4.out; have := h3.lt; omega
 have F4 := (f2.trans_nil f3).trans_nil f4
 have i2 := (h2.keep_nil f3).keep_nil f4
 clear h2 h3 f2 f3 f4
 refine (HWC.out w4).mono ?_
 rintro e w5 ⟨rfl, f5⟩
 have i2 := i2.keep_nil f5
 have i4 := h4.keep_nil f5
 have F5 := F4.trans_nil f5
 have l4 := i4.lt
 clear h4 f5 F4 i3
 go_wp2_with
  (first
   | (refine wpList_alS stW64 rfl rfl ?_; intro w6 h6 f6 z6; have Z6 := Lib.hid z6; clear z6; obtain ⟨g5, hg5⟩ : ∃ g5, w5.heap.size = g5 := ⟨_, rfl⟩; rw [hg5] at h6; rw [hg5]; have HG5 := Lib.hid hg5; clear hg5)
   | (refine wpList_stB stW64 rfl rfl g5 rfl (wvs W) rfl (by rw [wvs_length, HWL.out]) (wvs_one _) (wvs (zW 64)) rfl h6 ?_; intro w7 h7 f7 z7; have Z7 := Lib.hid z7; clear z7))
 have G45 : g4 < g5 := by have := HG5.out; omega
 have FF : Fr [] w5 w7 := f6.trans f7 (fun i hi => .inr (by have := HG5.out; simp at hi; omega))
 have i2 := i2.keep_nil FF
 have i4 := i4.keep_nil FF
 have F7 := F5.trans_nil FF
 clear h6 f6 f7 FF F5 l4
 obtain ⟨c0, c1, c2, c3, c4, c5, c6, c7⟩ := w8_cells i2
 go_quiet (fail)
 have hkg := rangeAt_keep hK0 (F7.trans_nil ((Fr.refl [] w7).drewN nq)) (by simp)
 go_wp2_with
  (first
   | (refine wpList_ldS stW64 rfl rfl 0 0 rfl (wvs kc) (by rw [wvs_length, HKL.out]) hkg ?_))
 have F8 := F7.trans_nil ((Fr.refl [] w7).drewN nq)
 have i2 := i2.keep_nil ((Fr.refl [] w7).drewN nq)
 have i4 := i4.keep_nil ((Fr.refl [] w7).drewN nq)
 have i5 := h7.keep_nil ((Fr.refl [] w7).drewN nq)
 clear c0 c1 c2 c3 c4 c5 c6 c7 F7 h7
 generalize World.drewN w7 nq = w8 at *
 have E1 := uw_add
 have E2 := uw_xor
 have E3 := uw_and
 have E4 := uw_or
 go_loopw [6, 7, 8, 9, 10, 11, 12, 13, 39] (fun sa sb sc sd se sf sg sh i wr => ∃ k : Nat, k ≤ 64 ∧ i = .int .i64 k ∧ sa = .int .u32 (uw (s.run kc W k).a) ∧ sb = .int .u32 (uw (s.run kc W k).b) ∧ sc = .int .u32 (uw (s.run kc W k).c) ∧ sd = .int .u32 (uw (s.run kc W k).d) ∧ se = .int .u32 (uw (s.run kc W k).e) ∧ sf = .int .u32 (uw (s.run kc W k).f) ∧ sg = .int .u32 (uw (s.run kc W k).g) ∧ sh = .int .u32 (uw (s.run kc W k).h) ∧ Fr [] w8 wr) (fun _ _ _ _ _ _ _ _ i _ => 64 - (intOf i).toNat)
 case atStart => exact ⟨0, Nat.zero_le _, rfl, rfl, rfl, rfl, rfl, rfl, rfl, rfl, rfl, Fr.refl _ _⟩
 case round =>
  obtain ⟨k, hk, rfl, rfl, rfl, rfl, rfl, rfl, rfl, rfl, rfl, f9⟩ := hrel
  have HR := Lib.hid (show s.run kc W (k + 1) = (s.run kc W k).step (kc.getD k 0) (W.getD k 0) from rfl)
  by_cases hlt : k < 64
  ·obtain ⟨t, ht⟩ : ∃ t, s.run kc W k = t := ⟨_, rfl⟩
   rw [ht]
   rw [ht] at HR
   clear ht
   have c5 := blkW_at (i5.keep_nil f9) (i := k) (x := W.getD k 0) (by rw [List.getElem?_eq_getElem (by rw [HWL.out]; exact hlt)]; simp [HWL.out, hlt])
   have ck : (wvs kc).toArray[k]? = some (.int .u32 (uw (kc.getD k 0))) := by
    have : k < kc.length := by rw [HKL.out]; exact hlt
    rw [List.getElem?_toArray, wvs_at this]; simp [this]
   generalize W.getD k 0 = ww at *
   generalize kc.getD k 0 = kk at *
   have CK := Lib.hid ck
   clear ck
   go_wp2_with
    (first
     | (refine wpList_ix1 (o := ⟨some 42, _, _, _, _, _⟩) Tryz.underlying188 Tryz.underlying156 rfl (by kernel_rfl) rfl rfl (wvs kc).toArray rfl .i64 k rfl hlt _ CK.out ?_))
   try simp only [Act.put, p1, p2, p3]
   refine wp_region_held_drew (S := fun w' => w'.cell? ⟨g5, k, none⟩ = some (.int .u32 (uw ww))) (by kernel_rfl) c5 (fun hHeld => ?_)
   refine tw 0 43 hHeld ?_
   refine tw 1 44 hHeld ?_
   refine tw 3 46 hHeld ?_
   refine tw 6 49 hHeld ?_
   refine tw 10 53 hHeld ?_
   refine tw 11 54 hHeld ?_
   refine tw 12 55 hHeld ?_
   refine tw 13 56 hHeld ?_
   refine tw 14 57 hHeld ?_
   refine tw 15 58 hHeld ?_
   refine tw 16 59 hHeld ?_
   refine tw 18 61 hHeld ?_
   refine tw 20 63 hHeld ?_
   refine tw 21 64 hHeld ?_
   refine tw 22 65 hHeld ?_
   refine tc 2 (fun K hK => ?_)
   go_simp
   refine (right_int _ _ (by omega) (by omega) _).mono ?_
   rintro e w' ⟨rfl, rfl⟩
   refine hK.out _ _ hHeld (fun hHn => ?_)
   clear hHn
   clear hK K
   try simp only [Act.put, p1, p2, p3]
   refine tc 4 (fun K hK => ?_)
   go_simp
   refine (right_int _ _ (by omega) (by omega) _).mono ?_
   rintro e w' ⟨rfl, rfl⟩
   refine hK.out _ _ hHeld (fun hHn => ?_)
   clear hHn
   clear hK K
   try simp only [Act.put, p1, p2, p3]
   refine tw 5 48 hHeld ?_
   refine tc 7 (fun K hK => ?_)
   go_simp
   refine (right_int _ _ (by omega) (by omega) _).mono ?_
   rintro e w' ⟨rfl, rfl⟩
   refine hK.out _ _ hHeld (fun hHn => ?_)
   clear hHn
   clear hK K
   try simp only [Act.put, p1, p2, p3]
   refine tw 8 51 hHeld ?_
   refine tw 9 52 hHeld ?_
   refine tw 17 60 hHeld ?_
   refine tw 19 62 hHeld ?_
   refine tw 23 66 hHeld ?_
   refine tw 24 16 hHeld ?_
   refine wpAnyH_done (by kernel_rfl) ?_ _
   go_wp2_with (go_at_call 209; refine (right_int _ _ (by omega) (by omega) _).mono ?_; rintro e w' ⟨rfl, rfl⟩)
   refine ⟨⟨k + 1, by omega, by go_num, by rw [HR.out]; rfl, by rw [HR.out]; rfl, by rw [HR.out]; rfl, by rw [HR.out]; rfl, by rw [HR.out]; rfl, by rw [HR.out]; rfl, by rw [HR.out]; rfl, by rw [HR.out]; rfl, f9.drew⟩, by simp [intOf]; omega⟩
  ·obtain rfl : k = 64 := by omega
   have F9 := F8.trans_nil f9
   have i2 := i2.keep_nil f9
   have i4 := i4.keep_nil f9
   clear i5 hkg HR
   obtain ⟨t, ht⟩ : ∃ t, s.run kc W 64 = t := ⟨_, rfl⟩
   rw [ht]
   have HT := Lib.hid (fun _ : Unit => ht)
   clear ht
   have i2' : Blk _ g2 157 (wvs (mixL s t 0)).toArray := i2
   clear i2 f9 E2 E3 E4
   go_wp2_with
    (first
     | (refine wpList_bldK (o := ⟨some 106, _, _, _, _, _⟩) rfl rfl #[(0, .int .u32 (uw t.a)), (1, .int .u32 (uw t.b)), (2, .int .u32 (uw t.c)), (3, .int .u32 (uw t.d)), (4, .int .u32 (uw t.e)), (5, .int .u32 (uw t.f)), (6, .int .u32 (uw t.g)), (7, .int .u32 (uw t.h))] (by kernel_rfl) (.agg (wvs t.list).toArray) (bld8 _ t) ?_))
   go_loopw [107] (fun i wr => ∃ k : Nat, k ≤ 8 ∧ i = .int .i64 k ∧ Blk wr g2 157 (wvs (mixL s t k)).toArray ∧ Blk wr g4 157 (wvs (zW 8)).toArray ∧ Fr [] w wr) (fun i _ => 8 - (intOf i).toNat)
   case atStart => exact ⟨0, Nat.zero_le _, rfl, i2', i4, F9⟩
   case round =>
    clear i2' i4 F9
    obtain ⟨k, hk, rfl, j2, j4, F⟩ := hrel
    by_cases hlt : k < 8
    ·have c2 := blkW_at j2 (mixL_at s t k hlt)
     have z2 := j2.frozen k
     have hm := mixL_set s t k hlt
     have ct : (wvs t.list).toArray[k]? = some (.int .u32 (uw (t.list.getD k 0))) := by
      have : k < t.list.length := hlt
      rw [List.getElem?_toArray, wvs_at this]; simp [this]
     have CT := Lib.hid ct
     clear ct
     obtain ⟨x, hx⟩ : ∃ x, s.list.getD k 0 = x := ⟨_, rfl⟩
     obtain ⟨y, hy⟩ : ∃ y, t.list.getD k 0 = y := ⟨_, rfl⟩
     rw [hx] at c2 hm
     rw [hy] at hm CT
     have HM := Lib.hid hm
     clear hx hy hm
     go_wp2_with
      (first
       | (refine wpList_ix1 (o := ⟨some 110, _, _, _, _, _⟩) Tryz.underlying157 Tryz.underlying156 rfl (by kernel_rfl) rfl rfl (wvs t.list).toArray rfl .i64 k rfl hlt _ CT.out ?_))
     have j2' := blkW_set j2 k (x + y)
     rw [HM.out] at j2'
     have fs : Fr [g2] _ _ := (Fr.refl [g2] _).setCell (w := wr) (p := ⟨g2, k, none⟩) (.inl (by simp)) (.int .u32 (uw (x + y)))
     exact ⟨⟨k + 1, by omega, by go_num, j2', j4.keep fs (by simp; omega), F.trans fs (fun i hi => .inr (by simp at hi; omega))⟩, by simp [intOf]; omega⟩
    ·obtain rfl : k = 8 := by omega
     have j2' : Blk _ g2 157 (wvs (s.add t).list).toArray := j2
     clear j2
     go_wp2_with
      (first
       | (refine wpList_ldS stW8 rfl rfl g2 0 rfl (wvs (s.add t).list) (by rw [wvs_length]; rfl) j2'.range0 ?_)
       | (refine wpList_stB stW8 rfl rfl g4 rfl (wvs (s.add t).list) rfl (by rw [wvs_length]; rfl) (wvs_one _) (wvs (zW 8)) rfl j4 ?_; intro w5 h5 f5 z5))
     try simp only [Exit.inBlock, Exit.then]
     refine bodyPost_ret (results_cell stW8 rfl rfl (by rw [wvs_length]; rfl) h5) rfl ?_
     exact ⟨by rw [HT.out ()], F.trans f5 (fun i hi => .inr (by simp at hi; omega))⟩
theorem block_any (w : World) (s : S8) (p : List UInt8) (hp : p.length = 64) (hK : KG w) :
  Calls Tryz.prog 187 #[.agg (wvs s.list).toArray, .agg (bvs p).toArray] w fun e w' => e = .returned (.agg (wvs (shaBlk s p).list).toArray) ∧ Fr [] w w' :=
 block_W w s p hp kC (sched p 64) rfl (sched_length p 64) hK (fun w => words_any w p hp)
end
end Go.Proofs.YtbanogfljpkbkaaGreatDoor
