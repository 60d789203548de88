/-
  Layer 10 (disk): the law's own block, made of some bytes again and again.
-/
import Derived.Test.YtdhhnioklbnicaaDkL
set_option linter.unusedSimpArgs false
set_option linter.unusedVariables false
set_option linter.unnecessarySimpa false
namespace Go.Proofs.Ytdhhnioklbnicaa
open Go.RowKit
set_option maxRecDepth 100000

/-- The first k bytes of it. -/
def blkK (b : List UInt8) (k : Nat) : List UInt8 := (List.range 512).map fun i => if i < k then b.getD (i % b.length) 0 else 0
def blkOf (b : List UInt8) : List UInt8 := blkK b 512
theorem blkK_len (b : List UInt8) (k : Nat) : (blkK b k).length = 512 := by simp [blkK]
theorem blkOf_len (b : List UInt8) : (blkOf b).length = 512 := blkK_len b 512
theorem blkK_zero (b : List UInt8) : blkK b 0 = zB512 := by
  apply List.ext_getElem
  · rw [blkK_len, zB512_len]
  · intro i h1 h2
    simp [blkK, zB512, List.getElem_replicate, -List.reduceReplicate]
theorem blkOf_nil : blkOf [] = zB512 := by
  apply List.ext_getElem
  · rw [blkOf_len, zB512_len]
  · intro i h1 h2
    simp [blkOf, blkK, zB512, List.getElem_replicate, -List.reduceReplicate]
theorem blkK_succ (b : List UInt8) (k : Nat) (hk : k < 512) : blkK b (k + 1) = (blkK b k).set k (b.getD (k % b.length) 0) := by
  apply List.ext_getElem
  · rw [List.length_set, blkK_len, blkK_len]
  · intro i h1 h2
    rw [List.getElem_set]
    simp only [blkK, List.getElem_map, List.getElem_range]
    by_cases e : k = i
    · subst e; simp
    · rw [if_neg e]
      by_cases h : i < k
      · rw [if_pos (by omega), if_pos h]
      · rw [if_neg (by omega), if_neg h]
def BlkC (w : World) (b : List UInt8) (e : Ending) (w' : World) : Prop := ∃ v, e = .returned v ∧ Row w' w.heap.size 5 1 v 512 (bvs (blkOf b)) ∧ Fr [] w w'
theorem blkK_nil (k : Nat) : blkK [] k = blkOf [] := by
  rw [blkOf_nil, ← blkK_zero []]
  simp only [blkK]
  apply List.map_congr_left
  intro i _
  split <;> simp
set_option maxHeartbeats 2000000 in
theorem dkBlock_any (w : World) (A : Option Addr) (n c : Nat) (b : List UInt8) (hb : b.length = n) (rd : Rd w A (bvs b)) (hn : n ≤ 4611686018427387904) : Calls Try.prog 12 #[.slice A n c] w (BlkC w b) := by
  have HB := Lib.hid hb
  go_enter Try.func12, Try.ntmps12
  go_wp2_with (first | (refine wpList_mk1 rfl rfl slB rfl .i64 .i64 _ _ 512 rfl rfl rfl rfl (by omega) ?_; intro w1 k1 r1 f1 z1))
  rw [← zB512_vs, ← blkK_zero b] at r1
  obtain ⟨gb, hgb⟩ : ∃ gb, w.heap.size = gb := ⟨_, rfl⟩
  rw [hgb] at r1 ⊢
  have HG := Lib.hid hgb
  have F1 := Lib.hid f1
  have RD := Lib.hid rd
  clear k1 z1 hgb f1 hb rd
  go_loopw [4] (fun i wr => ∃ k : Nat, k ≤ 512 ∧ i = .int .i64 k ∧ Row wr gb 5 1 (.slice (some ⟨gb, 0, none⟩) 512 512) 512 (bvs (blkK b k)) ∧ Fr [] w wr) (fun i _ => 512 - (intOf i).toNat)
  case atStart => exact ⟨0, by omega, rfl, r1, F1.out⟩
  case round =>
    clear r1
    obtain ⟨k, hk, rfl, R, F⟩ := hrel
    by_cases hp : 0 < n
    · have d2 : (0 : Int) < n := by omega
      by_cases hlt : k < 512
      · have d0 : (k : Int) < 512 := by omega
        have hkn : k % n < n := Nat.mod_lt _ hp
        have hkb : k % n < b.length := by rw [HB.out]; exact hkn
        obtain ⟨y, hy⟩ : ∃ y, b[k % n] = y := ⟨_, rfl⟩
        obtain ⟨g, o, rfl, hc⟩ := RD.out (by intro h; have := congrArg List.length h; simp [bvs] at this; rw [this] at hkb; cases hkb)
        have cy := F.cell (by simp) (hc (k % n) (.int .u8 y.toNat) (by rw [bvs, List.getElem?_map, List.getElem?_eq_getElem hkb, hy]; rfl))
        have ck := (R.setD k hlt (.int .u8 y.toNat)).1
        rw [bvs, List.getElem?_map, List.getElem?_eq_getElem (by rw [blkK_len]; exact hlt)] at ck
        have fk := (R.setD k hlt (.int .u8 y.toNat)).2.1
        have HS := Lib.hid (R.setD k hlt (.int .u8 y.toNat)).2.2
        have HY := Lib.hid (show bvs (blkK b (k + 1)) = (bvs (blkK b k)).set k (.int .u8 y.toNat) by
          rw [blkK_succ b k hlt, HB.out, bvs, bvs, List.map_set, List.getD_eq_getElem?_getD, List.getElem?_eq_getElem hkb, hy]; rfl)
        obtain ⟨q, hq⟩ : ∃ q, k % n = q := ⟨_, rfl⟩
        have DV : (k : Int).tmod n = q := by rw [← hq]; exact (Int.ofNat_tmod _ _).symm
        have dn : (n : Int) ≠ 0 := by omega
        rw [hq] at cy hkn
        simp only [Option.map_some] at ck
        clear hc hy hkb hq R
        go_wp2_with fail
        have R2 := HS.out
        rw [← HY.out] at R2
        exact ⟨⟨k + 1, by omega, by go_num, R2, F.setCell (.inr (by have := HG.out; simp; omega)) _⟩, by simp [intOf]; omega⟩
      · have hk2 : k = 512 := by omega
        subst hk2
        have d0 : ¬ (((512 : Nat) : Int) < 512) := by omega
        go_wp2_with fail
        go_ret
        exact ⟨_, rfl, by rw [HG.out]; exact R, F⟩
    · have hn0 : n = 0 := by omega
      subst hn0
      have hbn : b = [] := List.length_eq_zero_iff.1 HB.out
      have HE := Lib.hid (show blkK b k = blkOf b by rw [hbn, blkK_nil])
      rw [HE.out] at R
      clear hbn
      by_cases hlt : k < 512
      · have d0 : (k : Int) < 512 := by omega
        go_wp2_with fail
        go_ret
        exact ⟨_, rfl, by rw [HG.out]; exact R, F⟩
      · have d0 : ¬ ((k : Int) < 512) := by omega
        go_wp2_with fail
        go_ret
        exact ⟨_, rfl, by rw [HG.out]; exact R, F⟩
end Go.Proofs.Ytdhhnioklbnicaa
