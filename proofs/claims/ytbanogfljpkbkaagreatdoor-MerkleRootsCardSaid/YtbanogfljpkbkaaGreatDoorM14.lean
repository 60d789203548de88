/-
  Texts of this claim, one behind the other: TreA, HeadC, HeadE, HeadG, HeadF, HeadJ, MerP, JnI, CacC, CacO, RngB.
-/
import Derived.Test.YtbanogfljpkbkaaGreatDoorM13
import Derived.Test.YtbanogfljpkbkaaGreatDoorM5
import Derived.Test.YtbanogfljpkbkaaGreatDoorM7
import Derived.Test.YtbanogfljpkbkaaGreatDoorM12
import Derived.Test.YtbanogfljpkbkaaGreatDoorM11
set_option linter.unusedSimpArgs false
set_option linter.unusedVariables false
set_option linter.unnecessarySimpa false
namespace Go.Proofs.YtbanogfljpkbkaaGreatDoor
section
set_option maxRecDepth 100000
def upN (n : Nat) : Nat := (n + 15) / 16
def levsN (n : Nat) : List Nat := if upN n = 1 then [1] else [upN n, 1]
def cutB (b : List UInt8) (i : Nat) : List UInt8 := (b.drop (32 * (i % 16))).take 32
def setB (b : List UInt8) (i : Nat) (d : List UInt8) : List UInt8 := b.take (32 * (i % 16)) ++ d ++ b.drop (32 * (i % 16) + d.length)
def lev1 (hs : List (List UInt8)) : List (List UInt8) := (List.range (upN hs.length)).map fun i => nodeB ((hs.drop (16 * i)).take 16)
def bldN (hs : List (List UInt8)) : List (List (List UInt8)) := if upN hs.length = 1 then [lev1 hs] else [lev1 hs, lev1 ((lev1 hs).map (nodeH 0))]
def topB (hs : List (List UInt8)) : List UInt8 := if upN hs.length = 1 then (lev1 hs).getD 0 [] else (lev1 ((lev1 hs).map (nodeH 0))).getD 0 []
def bldR (hs : List (List UInt8)) : List UInt8 := rootH hs.length (if upN hs.length = 1 then 0 else 1) (topB hs)
def pathT (hs : List (List UInt8)) (i : Nat) : List (List UInt8) := if upN hs.length = 1 then [topB hs] else [(lev1 hs).getD (i / 16) [], topB hs]
theorem upN_b {n : Nat} (h : 1 ≤ n ∧ n ≤ 128) : 1 ≤ upN n ∧ upN n ≤ 8 := by unfold upN; omega
theorem levsN_len (n : Nat) : (levsN n).length = if upN n = 1 then 1 else 2 := by unfold levsN; split <;> rfl
theorem lev1_len (hs : List (List UInt8)) : (lev1 hs).length = upN hs.length := by simp [lev1]
theorem upup {n : Nat} (h : 1 ≤ n ∧ n ≤ 128) : upN (upN n) = 1 := by unfold upN; omega
theorem flat_len : ∀ (l : List (List UInt8)), (∀ x ∈ l, x.length = 32) → l.flatten.length = 32 * l.length
 | [], _ => rfl
 | x :: r, h => by
  have h1 := h x List.mem_cons_self
  have h2 := flat_len r (fun y hy => h y (List.mem_cons_of_mem _ hy))
  simp only [List.flatten_cons, List.length_append, List.length_cons, h1, h2]
  omega
theorem flat_drop : ∀ (l : List (List UInt8)) (j : Nat), (∀ x ∈ l, x.length = 32) → j ≤ l.length → l.flatten.drop (32 * j) = (l.drop j).flatten
 | l, 0, _, _ => rfl
 | [], j + 1, _, h => by simp at h
 | x :: r, j + 1, h, hj => by
  have h1 := h x List.mem_cons_self
  have h2 := flat_drop r j (fun y hy => h y (List.mem_cons_of_mem _ hy)) (by simpa using hj)
  rw [List.flatten_cons, List.drop_succ_cons, ← h2, List.drop_append, h1, List.drop_eq_nil_of_le (by omega), List.nil_append]
  congr 1
  try omega
theorem flat_take (l : List (List UInt8)) (j : Nat) (h : ∀ x ∈ l, x.length = 32) (hj : j ≤ l.length) : l.flatten.take (32 * j) = (l.take j).flatten := by
 have h1 : l.flatten = (l.take j).flatten ++ (l.drop j).flatten := by rw [← List.flatten_append, List.take_append_drop]
 have h2 : (l.take j).flatten.length = 32 * j := by
  rw [flat_len _ (fun x hx => h x (List.mem_of_mem_take hx)), List.length_take]; omega
 rw [h1, List.take_left' h2]
theorem nodeB_len {l : List (List UInt8)} (h : ∀ x ∈ l, x.length = 32) (hl : l.length ≤ 16) : (nodeB l).length = 512 := by
 unfold nodeB
 rw [List.length_append, flat_len l h, List.length_replicate]
 omega
theorem cutB_node {l : List (List UInt8)} {i : Nat} (h : ∀ x ∈ l, x.length = 32) (hi : i % 16 < l.length) : cutB (nodeB l) i = l[i % 16] := by
 unfold cutB nodeB
 rw [List.drop_append_of_le_length (by rw [flat_len l h]; omega), flat_drop l _ h (by omega), List.drop_eq_getElem_cons hi, List.flatten_cons, List.append_assoc, List.take_left' (h _ (List.getElem_mem hi))]
theorem setB_node {l : List (List UInt8)} {i : Nat} {d : List UInt8} (h : ∀ x ∈ l, x.length = 32) (hi : i % 16 < l.length) (hd : d.length = 32) : setB (nodeB l) i d = nodeB (l.set (i % 16) d) := by
 unfold setB nodeB
 have hs : (l.set (i % 16) d) = l.take (i % 16) ++ d :: l.drop (i % 16 + 1) := by
  rw [List.set_eq_take_append_cons_drop, if_pos hi]
 rw [hs, List.length_append, List.length_take, List.length_cons, List.length_drop, hd, List.take_append_of_le_length (by rw [flat_len l h]; omega), flat_take l _ h (by omega), List.flatten_append, List.flatten_cons,
  show 32 * (i % 16) + 32 = 32 * (i % 16 + 1) by omega, List.drop_append_of_le_length (by rw [flat_len l h]; omega), flat_drop l _ h (by omega)]
 simp only [List.append_assoc]
 congr 4
 congr 1
 omega
theorem setB_len {b d : List UInt8} {i : Nat} (hb : b.length = 512) (hd : d.length = 32) : (setB b i d).length = 512 := by
 unfold setB
 have := Nat.mod_lt i (show 0 < 16 by decide)
 simp only [List.length_append, List.length_take, List.length_drop, hb, hd]
 omega
section
variable {hs : List (List UInt8)} {i : Nat} {d : List UInt8}
theorem chunk_mem (h : ∀ x ∈ hs, x.length = 32) (k : Nat) : ∀ x ∈ (hs.drop (16 * k)).take 16, x.length = 32 := fun x hx => h x (List.mem_of_mem_drop (List.mem_of_mem_take hx))
theorem chunk_len (k : Nat) : ((hs.drop (16 * k)).take 16).length ≤ 16 := by rw [List.length_take]; omega
theorem chunk_lt (hi : i < hs.length) : i % 16 < ((hs.drop (16 * (i / 16))).take 16).length := by
 rw [List.length_take, List.length_drop]; omega
theorem lev1_at (k : Nat) (hk : k < upN hs.length) : (lev1 hs).getD k [] = nodeB ((hs.drop (16 * k)).take 16) := by
 rw [List.getD_eq_getElem?_getD, lev1, List.getElem?_map, List.getElem?_range hk]; rfl
theorem up_lt (hi : i < hs.length) : i / 16 < upN hs.length := by unfold upN; omega
theorem lev1_512 (h : ∀ x ∈ hs, x.length = 32) : ∀ b ∈ lev1 hs, b.length = 512 := by
 intro b hb
 obtain ⟨k, -, rfl⟩ := List.mem_map.1 hb
 exact nodeB_len (chunk_mem h k) (chunk_len k)
theorem cut_lev1 (h : ∀ x ∈ hs, x.length = 32) (hi : i < hs.length) : cutB ((lev1 hs).getD (i / 16) []) i = hs[i] := by
 rw [lev1_at _ (up_lt hi), cutB_node (chunk_mem h _) (chunk_lt hi)]
 simp only [List.getElem_take, List.getElem_drop]
 congr 1
 omega
theorem set_lev1 (h : ∀ x ∈ hs, x.length = 32) (hi : i < hs.length) (hd : d.length = 32) : lev1 (hs.set i d) = (lev1 hs).set (i / 16) (setB ((lev1 hs).getD (i / 16) []) i d) := by
 apply List.ext_getElem?
 intro k
 rw [List.getElem?_set, lev1_len]
 by_cases hk : k < upN hs.length
 ·have e : (lev1 (hs.set i d))[k]? = some (nodeB (((hs.set i d).drop (16 * k)).take 16)) := by
   rw [lev1, List.getElem?_map, List.length_set, List.getElem?_range hk]; rfl
  have e0 : (lev1 hs)[k]? = some (nodeB ((hs.drop (16 * k)).take 16)) := by
   rw [lev1, List.getElem?_map, List.getElem?_range hk]; rfl
  by_cases hik : i / 16 = k
  ·subst hik
   rw [if_pos rfl, if_pos hk, e, lev1_at _ hk, setB_node (chunk_mem h _) (chunk_lt hi) hd]
   congr 2
   rw [List.drop_set, if_neg (by omega), List.take_set]
   congr 1
   omega
  ·rw [if_neg hik, e, e0]
   congr 2
   rw [List.drop_set]
   split
   ·rfl
   ·rw [List.take_set, List.set_eq_of_length_le]
    rw [List.length_take]; omega
 ·rw [if_neg (by have := up_lt hi; omega), List.getElem?_eq_none (by rw [lev1_len, List.length_set]; omega), List.getElem?_eq_none (by rw [lev1_len]; omega)]
end
def chD (path : List (List UInt8)) (i : Nat) (leaf : List UInt8) : Nat → List UInt8
 | 0 => leaf
 | k + 1 => nodeH (UInt8.ofNat k) (setB (path.getD k []) (i / 16 ^ k) (chD path i leaf k))
def chB (path : List (List UInt8)) (i : Nat) (leaf : List UInt8) (k : Nat) : List UInt8 := setB (path.getD k []) (i / 16 ^ k) (chD path i leaf k)
def chL (path : List (List UInt8)) (i : Nat) (leaf : List UInt8) : List (List UInt8) := (List.range path.length).map (chB path i leaf)
def rootP (n : Nat) (path : List (List UInt8)) : List UInt8 := rootH n (UInt8.ofNat (path.length - 1)) (path.getD (path.length - 1) [])
def joinAt (i : Nat) (path : List (List UInt8)) (k : Nat) : Bool := cutB (path.getD (k + 1) []) (i / 16 ^ (k + 1)) == nodeH (UInt8.ofNat k) (path.getD k [])
def joinK (i : Nat) (path : List (List UInt8)) (k : Nat) : Bool := (List.range k).all (joinAt i path)
def joinB (i : Nat) (path : List (List UInt8)) : Bool := joinK i path (path.length - 1)
def okP (n i : Nat) (leaf : List UInt8) (path : List (List UInt8)) (root : List UInt8) : Bool := (rootP n path == root) && (cutB (path.getD 0 []) i == leaf) && joinB i path
theorem chD_len (h : ∀ l, (shaSum l).length = 32) {path : List (List UInt8)} {i : Nat} {leaf : List UInt8} (hl : leaf.length = 32) : ∀ k, (chD path i leaf k).length = 32
 | 0 => hl
 | k + 1 => h _
theorem chL_len (path : List (List UInt8)) (i : Nat) (leaf : List UInt8) : (chL path i leaf).length = path.length := by simp [chL]
theorem chL_512 {path : List (List UInt8)} {i : Nat} {leaf : List UInt8} (hl : leaf.length = 32) (hp : ∀ b ∈ path, b.length = 512) : ∀ b ∈ chL path i leaf, b.length = 512 := by
 intro b hb
 obtain ⟨k, hk, rfl⟩ := List.mem_map.1 hb
 have hk := List.mem_range.1 hk
 refine setB_len ?_ (chD_len shaSum_length hl k)
 rw [List.getD_eq_getElem?_getD, List.getElem?_eq_getElem hk]
 exact hp _ (List.getElem_mem hk)
section
variable {hs : List (List UInt8)} {i : Nat} {d : List UInt8}
theorem lev1_getD_512 (h : ∀ x ∈ hs, x.length = 32) {k : Nat} (hk : k < upN hs.length) : ((lev1 hs).getD k []).length = 512 := by
 rw [List.getD_eq_getElem?_getD, List.getElem?_eq_getElem (by rw [lev1_len]; exact hk)]
 exact lev1_512 h _ (List.getElem_mem _)
theorem rootP_pathT (hs : List (List UInt8)) (i : Nat) : rootP hs.length (pathT hs i) = bldR hs := by
 unfold rootP pathT bldR
 split <;> rfl
theorem map_node (hs : List (List UInt8)) : ∀ x ∈ (lev1 hs).map (nodeH 0), x.length = 32 := fun x hx => by obtain ⟨y, -, rfl⟩ := List.mem_map.1 hx; exact shaSum_length _
theorem cut_top (hn : 1 ≤ hs.length ∧ hs.length ≤ 128) (hi : i < hs.length) (h2 : upN hs.length ≠ 1) : cutB (topB hs) (i / 16) = nodeH 0 ((lev1 hs).getD (i / 16) []) := by
 have hk := up_lt hi
 have hb := upN_b hn
 have := cut_lev1 (hs := (lev1 hs).map (nodeH 0)) (i := i / 16) (map_node hs) (by rw [List.length_map, lev1_len]; exact hk)
 rw [show i / 16 / 16 = 0 by omega] at this
 rw [topB, if_neg h2, this, List.getElem_map, List.getD_eq_getElem?_getD, List.getElem?_eq_getElem (by rw [lev1_len]; exact hk)]
 rfl
theorem okP_pathT (hn : 1 ≤ hs.length ∧ hs.length ≤ 128) (h : ∀ x ∈ hs, x.length = 32) (hi : i < hs.length) : okP hs.length i hs[i] (pathT hs i) (bldR hs) = true := by
 unfold okP
 rw [rootP_pathT]
 by_cases h1 : upN hs.length = 1
 ·have hc := cut_lev1 h hi
  have h0 : i / 16 = 0 := by have := up_lt hi; omega
  rw [h0] at hc
  have : pathT hs i = [(lev1 hs).getD 0 []] := by rw [pathT, if_pos h1, topB, if_pos h1]
  rw [this]
  rw [List.getD_eq_getElem?_getD] at hc
  simp [joinB, joinK, hc]
 ·have hc := cut_lev1 h hi
  have ht := cut_top hn hi h1
  have : pathT hs i = [(lev1 hs).getD (i / 16) [], topB hs] := by rw [pathT, if_neg h1]
  rw [this]
  simp only [beq_self_eq_true, List.getD_cons_zero, hc, Bool.true_and, joinB, joinK, List.length_cons, List.length_nil, Nat.zero_add, Nat.add_one_sub_one, List.all_eq_true, List.mem_range]
  intro k hk
  obtain rfl : k = 0 := by omega
  simp only [joinAt, Nat.zero_add, List.getD_cons_succ, List.getD_cons_zero, Nat.pow_one]
  rw [ht]
  exact beq_self_eq_true _
theorem chL_pathT (hn : 1 ≤ hs.length ∧ hs.length ≤ 128) (h : ∀ x ∈ hs, x.length = 32) (hi : i < hs.length) (hd : d.length = 32) : chL (pathT hs i) i d = pathT (hs.set i d) i := by
 have hk := up_lt hi
 have hb := upN_b hn
 have hset := set_lev1 h hi hd
 by_cases h1 : upN hs.length = 1
 ·have h0 : i / 16 = 0 := by omega
  have e1 : pathT hs i = [(lev1 hs).getD 0 []] := by rw [pathT, if_pos h1, topB, if_pos h1]
  have e2 : pathT (hs.set i d) i = [(lev1 (hs.set i d)).getD 0 []] := by rw [pathT, List.length_set, if_pos h1, topB, List.length_set, if_pos h1]
  rw [e1, e2, hset, h0, List.getD_eq_getElem?_getD (l := (lev1 hs).set _ _), List.getElem?_set, if_pos rfl, if_pos (by rw [lev1_len]; omega)]
  simp [chL, chB, chD, List.range_succ]
 ·have e1 : pathT hs i = [(lev1 hs).getD (i / 16) [], topB hs] := by rw [pathT, if_neg h1]
  have e2 : pathT (hs.set i d) i = [(lev1 (hs.set i d)).getD (i / 16) [], topB (hs.set i d)] := by rw [pathT, List.length_set, if_neg h1]
  have ea : (lev1 (hs.set i d)).getD (i / 16) [] = setB ((lev1 hs).getD (i / 16) []) i d := by
   rw [hset, List.getD_eq_getElem?_getD, List.getElem?_set, if_pos rfl, if_pos (by rw [lev1_len]; omega)]; rfl
  have hset2 := set_lev1 (hs := (lev1 hs).map (nodeH 0)) (i := i / 16) (d := nodeH 0 (setB ((lev1 hs).getD (i / 16) []) i d)) (map_node hs) (by rw [List.length_map, lev1_len]; exact hk) (shaSum_length _)
  have et : topB (hs.set i d) = setB (topB hs) (i / 16) (nodeH 0 (setB ((lev1 hs).getD (i / 16) []) i d)) := by
   rw [topB, topB, List.length_set, if_neg h1, if_neg h1, hset, List.map_set, hset2, show i / 16 / 16 = 0 by omega, List.getD_eq_getElem?_getD (l := (lev1 _).set _ _), List.getElem?_set, if_pos rfl, if_pos (by rw [lev1_len, List.length_map, lev1_len, upup hn]; omega)]
   rfl
  rw [e1, e2, ea, et]
  simp [chL, chB, chD, List.range_succ]
theorem rootP_chL (hn : 1 ≤ hs.length ∧ hs.length ≤ 128) (h : ∀ x ∈ hs, x.length = 32) (hi : i < hs.length) (hd : d.length = 32) : rootP hs.length (chL (pathT hs i) i d) = bldR (hs.set i d) := by
 rw [chL_pathT hn h hi hd]
 have := rootP_pathT (hs.set i d) i
 rwa [List.length_set] at this
end
end
section
open Go.RowKit
section
variable {w : World} {g : Nat} {h : HeadM}
theorem par_rng (hb : Blk w g 62 h.cells.toArray) : w.rangeAt g 5 [.int .i64 h.tim, .int .i64 h.mem, .int .i64 h.lan] := hb.range 5 _ (fun j u hu => by
 match j, hu with
 | 0, hu => exact hu
 | 1, hu => exact hu
 | 2, hu => exact hu)
theorem head_cells (hb : Blk w g 62 h.cells.toArray) : w.cell? ⟨g, 0, none⟩ = some (.int .u64 (h.gen : Int)) ∧ w.cell? ⟨g, 1, none⟩ = some (.int .i64 h.sec) ∧ w.cell? ⟨g, 2, none⟩ = some (.int .i64 h.slo) ∧ w.cell? ⟨g, 3, none⟩ = some (.int .i64 h.jou) ∧ w.cell? ⟨g, 4, none⟩ = some (.int .i64 h.seg) ∧ w.cell? ⟨g, 5, none⟩ = some (.int .i64 h.tim) ∧ w.cell? ⟨g, 6, none⟩ = some (.int .i64 h.mem) ∧ w.cell? ⟨g, 7, none⟩ = some (.int .i64 h.lan) :=
 ⟨hb.cell 0, hb.cell 1, hb.cell 2, hb.cell 3, hb.cell 4, hb.cell 5, hb.cell 6, hb.cell 7⟩
end
set_option maxRecDepth 100000 in
set_option maxHeartbeats 4000000 in
theorem xhCheck_any (h : HeadM) (hs : h.ok) (w : World) : Calls Tryz.prog 54 #[.agg h.cells.toArray] w fun e w' => e = .returned (.int .i64 (errG h.good 1)) ∧ Fr [] w w' := by
 cases d0 : ((h.gen : Int) == 0)
 rotate_left
 ·have k : (h.gen : Int) < 1 := by have := eq_of_beq d0; omega
  have H := Lib.hid (show h.good = false by simp [HeadM.good, *])
  go_enter Tryz.func54, Tryz.ntmps54
  go_wp2_with
   (first
    | (refine wpList_boxS rfl rfl h.cells rfl ?_; intro w1 h1 f1 z1; obtain ⟨c0, c1, c2, c3, c4, c5, c6, c7⟩ := head_cells h1; clear z1)
    | (refine wpList_ldS stPar rfl rfl w.heap.size 5 rfl _ rfl (par_rng h1) ?_))
  go_ret
  exact ⟨by rw [H.out]; rfl, f1⟩
 have k0 : ¬ ((h.gen : Int) < 1) := by have := ne_of_beq_false d0; omega
 cases d1 : wth h.sec 1 1024
 ·
  rcases wth_no d1 with k | k
  ·
   have H := Lib.hid (show h.good = false by simp [HeadM.good, *])
   go_enter Tryz.func54, Tryz.ntmps54
   go_wp2_with
    (first
     | (refine wpList_boxS rfl rfl h.cells rfl ?_; intro w1 h1 f1 z1; obtain ⟨c0, c1, c2, c3, c4, c5, c6, c7⟩ := head_cells h1; clear z1)
     | (refine wpList_ldS stPar rfl rfl w.heap.size 5 rfl _ rfl (par_rng h1) ?_))
   go_ret
   exact ⟨by rw [H.out]; rfl, f1⟩
  ·have k' : ¬ (h.sec < 1) := by omega
   have H := Lib.hid (show h.good = false by simp [HeadM.good, *])
   go_enter Tryz.func54, Tryz.ntmps54
   go_wp2_with
    (first
     | (refine wpList_boxS rfl rfl h.cells rfl ?_; intro w1 h1 f1 z1; obtain ⟨c0, c1, c2, c3, c4, c5, c6, c7⟩ := head_cells h1; clear z1)
     | (refine wpList_ldS stPar rfl rfl w.heap.size 5 rfl _ rfl (par_rng h1) ?_))
   go_ret
   exact ⟨by rw [H.out]; rfl, f1⟩
 have k1 := wth_yes d1
 cases d2 : wth h.slo 1 8
 ·
  rcases wth_no d2 with k | k
  ·
   have H := Lib.hid (show h.good = false by simp [HeadM.good, *])
   go_enter Tryz.func54, Tryz.ntmps54
   go_wp2_with
    (first
     | (refine wpList_boxS rfl rfl h.cells rfl ?_; intro w1 h1 f1 z1; obtain ⟨c0, c1, c2, c3, c4, c5, c6, c7⟩ := head_cells h1; clear z1)
     | (refine wpList_ldS stPar rfl rfl w.heap.size 5 rfl _ rfl (par_rng h1) ?_))
   go_ret
   exact ⟨by rw [H.out]; rfl, f1⟩
  ·have k' : ¬ (h.slo < 1) := by omega
   have H := Lib.hid (show h.good = false by simp [HeadM.good, *])
   go_enter Tryz.func54, Tryz.ntmps54
   go_wp2_with
    (first
     | (refine wpList_boxS rfl rfl h.cells rfl ?_; intro w1 h1 f1 z1; obtain ⟨c0, c1, c2, c3, c4, c5, c6, c7⟩ := head_cells h1; clear z1)
     | (refine wpList_ldS stPar rfl rfl w.heap.size 5 rfl _ rfl (par_rng h1) ?_))
   go_ret
   exact ⟨by rw [H.out]; rfl, f1⟩
 have k2 := wth_yes d2
 cases d3 : wth h.jou 16 256
 ·
  rcases wth_no d3 with k | k
  ·
   have H := Lib.hid (show h.good = false by simp [HeadM.good, *])
   go_enter Tryz.func54, Tryz.ntmps54
   go_wp2_with
    (first
     | (refine wpList_boxS rfl rfl h.cells rfl ?_; intro w1 h1 f1 z1; obtain ⟨c0, c1, c2, c3, c4, c5, c6, c7⟩ := head_cells h1; clear z1)
     | (refine wpList_ldS stPar rfl rfl w.heap.size 5 rfl _ rfl (par_rng h1) ?_))
   go_ret
   exact ⟨by rw [H.out]; rfl, f1⟩
  ·have k' : ¬ (h.jou < 16) := by omega
   have H := Lib.hid (show h.good = false by simp [HeadM.good, *])
   go_enter Tryz.func54, Tryz.ntmps54
   go_wp2_with
    (first
     | (refine wpList_boxS rfl rfl h.cells rfl ?_; intro w1 h1 f1 z1; obtain ⟨c0, c1, c2, c3, c4, c5, c6, c7⟩ := head_cells h1; clear z1)
     | (refine wpList_ldS stPar rfl rfl w.heap.size 5 rfl _ rfl (par_rng h1) ?_))
   go_ret
   exact ⟨by rw [H.out]; rfl, f1⟩
 have k3 := wth_yes d3
 cases d4 : wth h.seg 1 16
 ·
  rcases wth_no d4 with k | k
  ·
   have H := Lib.hid (show h.good = false by simp [HeadM.good, *])
   go_enter Tryz.func54, Tryz.ntmps54
   go_wp2_with
    (first
     | (refine wpList_boxS rfl rfl h.cells rfl ?_; intro w1 h1 f1 z1; obtain ⟨c0, c1, c2, c3, c4, c5, c6, c7⟩ := head_cells h1; clear z1)
     | (refine wpList_ldS stPar rfl rfl w.heap.size 5 rfl _ rfl (par_rng h1) ?_))
   go_ret
   exact ⟨by rw [H.out]; rfl, f1⟩
  ·have k' : ¬ (h.seg < 1) := by omega
   have H := Lib.hid (show h.good = false by simp [HeadM.good, *])
   go_enter Tryz.func54, Tryz.ntmps54
   go_wp2_with
    (first
     | (refine wpList_boxS rfl rfl h.cells rfl ?_; intro w1 h1 f1 z1; obtain ⟨c0, c1, c2, c3, c4, c5, c6, c7⟩ := head_cells h1; clear z1)
     | (refine wpList_ldS stPar rfl rfl w.heap.size 5 rfl _ rfl (par_rng h1) ?_))
   go_ret
   exact ⟨by rw [H.out]; rfl, f1⟩
 have k4 := wth_yes d4
 have hw : IntKind.i64.wrap (h.seg + 10) = h.seg + 10 := by rw [IntWalk.i64_in _ (by omega)]
 by_cases d5 : h.jou < h.seg + 10
 ·
  have H := Lib.hid (show h.good = false by simp [HeadM.good, *])
  go_enter Tryz.func54, Tryz.ntmps54
  go_wp2_with
   (first
    | (refine wpList_boxS rfl rfl h.cells rfl ?_; intro w1 h1 f1 z1; obtain ⟨c0, c1, c2, c3, c4, c5, c6, c7⟩ := head_cells h1; clear z1)
    | (refine wpList_ldS stPar rfl rfl w.heap.size 5 rfl _ rfl (par_rng h1) ?_))
  go_ret
  exact ⟨by rw [H.out]; rfl, f1⟩
 have cc := fun w => xaCheck_any h.tim h.mem h.lan w hs.lan
 cases d6 : parG h.tim h.mem h.lan
 ·have H := Lib.hid (show h.good = false by simp [HeadM.good, *])
  rw [d6] at cc
  have CC := Lib.hid cc
  clear cc d6
  go_enter Tryz.func54, Tryz.ntmps54
  go_wp2_with
   (first
    | (refine wpList_boxS rfl rfl h.cells rfl ?_; intro w1 h1 f1 z1; obtain ⟨c0, c1, c2, c3, c4, c5, c6, c7⟩ := head_cells h1; clear z1)
    | (refine wpList_ldS stPar rfl rfl w.heap.size 5 rfl _ rfl (par_rng h1) ?_))
  refine (CC.out _).mono ?_
  rintro e w2 ⟨rfl, f2⟩
  rw [show errG false 80 = 80 from rfl]
  go_wp2_with fail
  go_ret
  exact ⟨by rw [H.out]; rfl, f1.trans_nil f2⟩
 ·have H := Lib.hid (show h.good = true by simp [HeadM.good, *])
  rw [d6] at cc
  have CC := Lib.hid cc
  clear cc d6
  go_enter Tryz.func54, Tryz.ntmps54
  go_wp2_with
   (first
    | (refine wpList_boxS rfl rfl h.cells rfl ?_; intro w1 h1 f1 z1; obtain ⟨c0, c1, c2, c3, c4, c5, c6, c7⟩ := head_cells h1; clear z1)
    | (refine wpList_ldS stPar rfl rfl w.heap.size 5 rfl _ rfl (par_rng h1) ?_))
  refine (CC.out _).mono ?_
  rintro e w2 ⟨rfl, f2⟩
  rw [show errG true 80 = 0 from rfl]
  go_wp2_with fail
  go_ret
  exact ⟨by rw [H.out]; rfl, f1.trans_nil f2⟩
end
section
open Go.RowKit
structure HeadM.Nat (h : HeadM) (s l j e t m a : Nat) : Prop where
 sec : h.sec = s
 slo : h.slo = l
 jou : h.jou = j
 seg : h.seg = e
 tim : h.tim = t
 mem : h.mem = m
 lan : h.lan = a
 bs : 1 ≤ s ∧ s ≤ 1024
 bl : 1 ≤ l ∧ l ≤ 8
 bj : 16 ≤ j ∧ j ≤ 256
 be : 1 ≤ e ∧ e ≤ 16
 bt : 1 ≤ t ∧ t ≤ 8
 bm : 8 ≤ m ∧ m ≤ 256
 ba : 1 ≤ a ∧ a ≤ 4
theorem HeadM.nat_of {h : HeadM} (k : h.In) : ∃ s l j e t m a, h.Nat s l j e t m a := by
 obtain ⟨a, b, c, d, e, f, g, i, j⟩ := k
 refine ⟨h.sec.toNat, h.slo.toNat, h.jou.toNat, h.seg.toNat, h.tim.toNat, h.mem.toNat, h.lan.toNat, ?_⟩
 constructor <;> omega
theorem head_cellsN {w : World} {g : Nat} {h : HeadM} {s l j e t m a : Nat} (N : h.Nat s l j e t m a) (hb : Blk w g 62 h.cells.toArray) : w.cell? ⟨g, 0, none⟩ = some (.int .u64 (h.gen : Int)) ∧ w.cell? ⟨g, 1, none⟩ = some (.int .i64 (s : Int)) ∧ w.cell? ⟨g, 2, none⟩ = some (.int .i64 (l : Int)) ∧ w.cell? ⟨g, 3, none⟩ = some (.int .i64 (j : Int)) ∧ w.cell? ⟨g, 4, none⟩ = some (.int .i64 (e : Int)) ∧ w.cell? ⟨g, 5, none⟩ = some (.int .i64 (t : Int)) ∧ w.cell? ⟨g, 6, none⟩ = some (.int .i64 (m : Int)) ∧ w.cell? ⟨g, 7, none⟩ = some (.int .i64 (a : Int)) := by
 have := head_cells hb
 rwa [N.sec, N.slo, N.jou, N.seg, N.tim, N.mem, N.lan] at this
end
section
open Go.RowKit
def hdrB (l : List UInt8) : Prop := (allZ ((l.take 480).drop 44) = true ∧ l.take 8 = magicH) ∧ shaSum (l.take 480) = l.drop 480
instance (l : List UInt8) : Decidable (hdrB l) := by unfold hdrB; infer_instance
end
section
open Go.RowKit
section
variable {P : Program} {ops : Array Oper} {Q : Exit → Act → World → Prop} {S : World → Prop}
theorem take_2c {md : Region.Mode} (i j : Nat) {oi oj : Oper} {fuel : Nat} {listed : Array Bool} {a : Act} {w : World} (hi : ops[i]? = some oi) (hj : ops[j]? = some oj) (hr : Region.ready md ops listed = [i, j])
  (hwi : Region.wanted oi (yielded ops a.tmps) = true) (hwj : Region.wanted oj (yielded ops a.tmps) = true)
  (h1 : ∀ K' : Act → World → Prop, Shut (∀ a w, S w → (S w → wpAnyH P md ops Q S fuel (listed.setIfInBounds i true) a w) → K' a w) → Oper.wp P oi a w K' Q)
  (h2 : ∀ K' : Act → World → Prop, Shut (∀ a w, S w → (S w → wpAnyH P md ops Q S fuel (listed.setIfInBounds j true) a w) → K' a w) → Oper.wp P oj a w K' Q) : wpAnyH P md ops Q S (fuel + 1) listed a w :=
 wpAnyH_ready hr (by simp) (AllReadyH.cons hi (fun K' hK => by rw [if_pos hwi]; exact h1 K' hK) (AllReadyH.cons hj (fun K' hK => by rw [if_pos hwj]; exact h2 K' hK) AllReadyH.nil))
end
end
section
open Go.RowKit
def ivs (l : List Nat) : List Value := l.map fun (n : Nat) => Value.int .i64 (n : Int)
theorem ivs_len (l : List Nat) : (ivs l).length = l.length := by simp [ivs]
theorem ivs_append (a b : List Nat) : ivs (a ++ b) = ivs a ++ ivs b := by simp [ivs]
def layC (a b c d e : Nat) (v : Value) (f g h : Nat) : List Value := [.int .i64 (a : Int), .int .i64 (b : Int), .int .i64 (c : Int), .int .i64 (d : Int), .int .i64 (e : Int), v, .int .i64 (f : Int), .int .i64 (g : Int), .int .i64 (h : Int)]
theorem layC_ones {a b c d e : Nat} {A : Option Addr} {n m : Nat} {f g h : Nat} : ∀ u ∈ layC a b c d e (.slice A n m) f g h, u.oneCell' = true := by
 intro u hu
 simp only [layC, List.mem_cons, List.not_mem_nil, or_false] at hu
 rcases hu with rfl | rfl | rfl | rfl | rfl | rfl | rfl | rfl | rfl <;> rfl
def zeroL : List Value := layC 0 0 0 0 0 (.slice none 0 0) 0 0 0
set_option maxRecDepth 100000 in
theorem stLay : StT Tryz.prog 38 9 zeroL := ⟨⟨_, Tryz.underlying38, rfl⟩, by kernel_rfl, by decide, by kernel_rfl, layC_ones⟩
set_option maxRecDepth 100000 in
theorem layZero (w : World) : (Instr.build 38 #[]).run Tryz.prog w = .ok (.agg zeroL.toArray) w := by kernel_rfl
set_option maxRecDepth 100000 in
theorem layFive (w : World) (b c d e : Nat) : (Instr.build 38 #[(0, .int .i64 2), (1, .int .i64 (b : Int)), (2, .int .i64 (c : Int)), (3, .int .i64 (d : Int)), (4, .int .i64 (e : Int))]).run Tryz.prog w = .ok (.agg (layC 2 b c d e (.slice none 0 0) 0 0 0).toArray) w := by kernel_rfl
theorem slI : SlT Tryz.prog 36 3 1 8 (.int .i64 0) := ⟨Tryz.underlying36, by kernel_rfl, rfl, by decide, by decide⟩
def tagsN (s : Nat) : Nat := (s + 7) / 8
def oneN (s : Nat) : Nat := (tagsN s + 15) / 16
def levN (s : Nat) : List Nat := if oneN s = 1 then [1] else [oneN s, 1]
theorem tagsN_b {s : Nat} (h : 1 ≤ s ∧ s ≤ 1024) : 1 ≤ tagsN s ∧ tagsN s ≤ 128 := by unfold tagsN; omega
theorem oneN_b {s : Nat} (h : 1 ≤ s ∧ s ≤ 1024) : 1 ≤ oneN s ∧ oneN s ≤ 8 := by have := tagsN_b h; unfold oneN; omega
def sumL (l : List Nat) : Nat := l.foldr (· + ·) 0
def layH (s l j : Nat) (v : Value) : List Value :=
 layC 2 (2 + l) (3 + l) (4 + l) (4 + l + j) v (4 + l + j + sumL (levN s)) (4 + l + j + sumL (levN s) + tagsN s) (4 + l + j + sumL (levN s) + tagsN s + s)
def LayH (w : World) (h : HeadM) (e : Ending) (w' : World) : Prop :=
 ∃ v, e = .returned (.tuple #[.agg (if h.good then layH h.sec.toNat h.slo.toNat h.jou.toNat v else zeroL).toArray, .int .i64 (errG h.good 1)]) ∧ Row w' w.heap.size 3 1 v (if h.good then (levN h.sec.toNat).length else 0) (ivs (if h.good then levN h.sec.toNat else [])) ∧ Fr [] w w'
theorem xhUp_any (n k : Nat) (w : World) (hn : n ≤ 1024) (hk : k = 8 ∨ k = 16) : Calls Tryz.prog 55 #[.int .i64 n, .int .i64 k] w fun e w' => e = .returned (.int .i64 (((n + (k - 1)) / k : Nat) : Int)) ∧ w = w' := by
 rcases hk with rfl | rfl
 ·go_enter Tryz.func55, Tryz.ntmps55
  go_wp2
  go_ret
  refine ⟨?_, rfl⟩
  show Ending.returned (.int .i64 _) = _
  congr 2
  omega
 ·go_enter Tryz.func55, Tryz.ntmps55
  go_wp2
  go_ret
  refine ⟨?_, rfl⟩
  show Ending.returned (.int .i64 _) = _
  congr 2
  omega
theorem sumL_append (a b : List Nat) : sumL (a ++ b) = sumL a + sumL b := by
 induction a with
 | nil => simp [sumL]
 | cons x r ih => simp only [List.cons_append, sumL, List.foldr_cons] at *; omega
theorem sumL_one (n : Nat) : sumL [n] = n := rfl
def lenAt (w : World) (g : Nat) : Nat := match w.cell? ⟨g, 5, none⟩ with
 | some (.slice _ m _) => m
 | _ => 0
end
section
open Go.RowKit
set_option maxRecDepth 100000
structure StM where
 C : CaM
 st : List (Int × List UInt8)
def rdS (M : StM) (x : Int) : List UInt8 := match lkL M.st x with
 | some l => l
 | none => rdM M.C x
def rdSE (M : StM) (x : Int) : Int := match lkL M.st x with
 | some _ => 0
 | none => rdE M.C x
def wrSt (M : StM) (x : Int) (b : List UInt8) : StM := { M with st := insL M.st x b }
def comSE (M : StM) : Int := if M.st = [] then 0 else comE M.C M.st
def comSM (M : StM) : StM := if M.st = [] then M else if comE M.C M.st = 0 then ⟨comM M.C M.st, []⟩ else ⟨comM M.C M.st, M.st⟩
structure StG (N : Nat) (M : StM) : Prop where
 c : CaG N M.C
 up : UpL M.st
 l5 : ∀ p ∈ M.st, p.2.length = 512
section
variable {N : Nat} {M : StM} {C : CaM} {rs : List (Int × List UInt8)}
theorem rdS_wr (h : UpL M.st) (x : Int) (b : List UInt8) (y : Int) : rdS (wrSt M x b) y = if y = x then b else rdS M y := by
 show (match lkL (insL M.st x b) y with | some l => l | none => rdM M.C y) = _
 rw [lkL_ins _ _ h]
 by_cases e : y = x
 ·rw [if_pos e, if_pos e]
 ·rw [if_neg e, if_neg e]; rfl
theorem StG.wr (h : StG N M) (x : Int) {b : List UInt8} (hb : b.length = 512) : StG N (wrSt M x b) := by
 obtain ⟨h1, h2, -⟩ := insL_up (x := x) (b := b) M.st h.up
 refine ⟨h.c, h1, fun p hp => ?_⟩
 rcases h2 p hp with h2 | h2
 ·exact h.l5 p h2
 ·rw [h2]; exact hb
theorem rdU_up (f : Int → List UInt8) : ∀ (rs : List (Int × List UInt8)) (f : Int → List UInt8) (x : Int), UpL rs → rdU f rs x = match lkL rs x with | some l => l | none => f x
 | [], f, x, _ => rfl
 | r :: t, f, x, h => by
  obtain ⟨h1, h2⟩ := List.pairwise_cons.1 h
  have ih := rdU_up f t (fun x => if x = r.1 then r.2 else f x) x h2
  show rdU (fun x => if x = r.1 then r.2 else f x) t x = _
  rw [ih, lkL_cons]
  by_cases e : r.1 = x
  ·subst e
   rw [if_pos rfl]
   cases hl : lkL t r.1 with
   | none => rw [if_pos rfl]
   | some l => have := h1 _ (lkL_mem hl); dsimp only at this; omega
  ·rw [if_neg e, if_neg (Ne.symm e)]
theorem CaG.com_ok (G : CaG N C) (hm : C.J.num + 1200 < 9223372036854775808) (up : UpL rs) (h1 : 1 ≤ rs.length) (h2 : (rs.length : Int) ≤ min (C.J.count - 3) 64) (h5 : ∀ r ∈ rs, r.2.length = 512)
  (hk : ∀ r ∈ rs, 0 ≤ r.1 ∧ r.1 < N ∧ (r.1 < C.J.first ∨ C.J.first + C.J.count ≤ r.1)) : comE C rs = 0 := by
 obtain ⟨g1, g2, g3, -, -, -⟩ := G.room (by omega) rs.length
 have hroom : (rs.length : Int) ≤ (roomM C rs.length).J.room := by
  unfold roomM
  split
  ·rename_i h
   rcases h with h | h
   ·exact h
   ·exfalso; have : C.J.most = min (C.J.count - 3) 64 := rfl; omega
  ·obtain ⟨-, c2, c3, -, -, c6, -, -, -⟩ := G.chkC (by omega)
   obtain ⟨G1, -⟩ := G.chkC (by omega)
   rw [JrM.room, if_neg (by rw [G1.bad, c3]; simp), c2, c6]
   omega
 obtain ⟨M1, hM1⟩ : ∃ M1, roomM C rs.length = M1 := ⟨_, rfl⟩
 have hce : comE C rs = (appM M1.D M1.J rs).1 := by rw [comE, hM1]
 rw [hM1] at g1 g2 g3 hroom
 have hc := g1.c
 have hf := g1.f
 have hu := g1.u
 have hN := g1.n4
 have hrc : rcOk M1.J.num rs := by
  refine ⟨g1.m0, by omega, h5, ?_⟩
  unfold rightF
  simp only [Bool.and_eq_true, decide_eq_true_eq, List.all_eq_true]
  refine ⟨fun x hx => ?_, ?_, by rw [rcP_len]; omega, by rw [rcP_len]; omega⟩
  ·obtain ⟨r, hr, rfl⟩ := List.mem_map.1 hx
   have := hk r hr
   unfold inP
   simp only [Bool.and_eq_true, Bool.not_eq_true', decide_eq_false_iff_not, decide_eq_true_eq]
   omega
  ·exact (upL_keys up).imp (fun h => by omega)
 have hr2 : M1.J.room = if M1.J.bad = true ∨ M1.J.begun = false then 0 else max (min (M1.J.count - 3 - M1.J.used) 64) 0 := rfl
 have hfit : M1.J.first + 1 + M1.J.used + rs.length + 2 ≤ N := by
  split at hr2 <;> omega
 have hjm : jMay N M1.J rs = true := by
  unfold jMay
  rw [List.all_eq_true]
  intro r hr
  have := hk r hr
  unfold jMay1
  simp only [Bool.and_eq_true, Bool.not_eq_true', Bool.and_eq_false_iff, decide_eq_true_eq, decide_eq_false_iff_not]
  omega
 obtain ⟨E, e1, -⟩ := app_gen (D := M1.D) (J := M1.J) (N := N) (rs := rs) g1.on g1.bad hrc (by have := g1.m64; omega) hjm (by have : M1.J.most = min (M1.J.count - 3) 64 := rfl; omega) hroom (by omega) hfit
 rw [hce, e1]
theorem comM_dirty (G : CaG N C) (hm : C.J.num + 1200 < 9223372036854775808) (up : UpL rs) {x : Int} (hx : x < C.J.first ∨ C.J.first + C.J.count ≤ x) : rdM (comM C rs) x = if comE C rs = 0 then (match lkL rs x with | some l => l | none => rdM C x) else rdM C x := by
 obtain ⟨-, -, -, -, -, -, -, h8, h9⟩ := G.com (rs := rs) hm
 by_cases h : comE C rs = 0
 ·rw [if_pos h, (h8 h).2.2.2 x hx, rdU_up (rdM C) rs (rdM C) x up]
 ·rw [if_neg h, h9 h x hx]
theorem StG.com (h : StG N M) (hm : M.C.J.num + 1200 < 9223372036854775808) : StG N (comSM M) ∧ (comSM M).C.J.first = M.C.J.first ∧ (comSM M).C.J.count = M.C.J.count ∧ (comSM M).C.J.num ≤ M.C.J.num + 257 ∧ (∀ x, ((comSM M).C.D.uns x).length ≤ (M.C.D.uns x).length + 67) ∧
  (∀ x, x < M.C.J.first ∨ M.C.J.first + M.C.J.count ≤ x → rdS (comSM M) x = rdS M x) ∧ (comSE M = 0 → (comSM M).st = []) := by
 by_cases hn : M.st = []
 ·have e : comSM M = M := if_pos hn
  rw [e]
  exact ⟨h, rfl, rfl, by omega, fun x => by omega, fun x _ => rfl, fun _ => hn⟩
 ·obtain ⟨-, -, h3, h4, h5, h6, h7, -, -⟩ := h.c.com (rs := M.st) hm
  by_cases he : comE M.C M.st = 0
  ·have e : comSM M = ⟨comM M.C M.st, []⟩ := by rw [comSM, if_neg hn, if_pos he]
   rw [e]
   refine ⟨⟨h3, List.Pairwise.nil, fun p hp => by cases hp⟩, h4, h5, h6, h7, fun x hx => ?_, fun _ => rfl⟩
   show rdM (comM M.C M.st) x = _
   rw [comM_dirty h.c hm h.up hx, if_pos he]
   rfl
  ·have e : comSM M = ⟨comM M.C M.st, M.st⟩ := by rw [comSM, if_neg hn, if_neg he]
   rw [e]
   refine ⟨⟨h3, h.up, h.l5⟩, h4, h5, h6, h7, fun x hx => ?_, fun hz => ?_⟩
   ·show (match lkL M.st x with | some l => l | none => rdM (comM M.C M.st) x) = _
    rw [comM_dirty h.c hm h.up hx, if_neg he]
    rfl
   ·rw [comSE, if_neg hn] at hz
    exact absurd hz he
theorem StG.com_ok (h : StG N M) (hm : M.C.J.num + 1200 < 9223372036854775808) (h2 : (M.st.length : Int) ≤ min (M.C.J.count - 3) 64)
  (hk : ∀ r ∈ M.st, 0 ≤ r.1 ∧ r.1 < N ∧ (r.1 < M.C.J.first ∨ M.C.J.first + M.C.J.count ≤ r.1)) : comSE M = 0 := by
 by_cases hn : M.st = []
 ·exact if_pos hn
 ·rw [comSE, if_neg hn]
  have : 1 ≤ M.st.length := by
   cases hs : M.st with
   | nil => exact absurd hs hn
   | cons a r => simp
  exact h.c.com_ok hm h.up this h2 h.l5 hk
end
def plcK (tree : Nat) (lev : List Nat) (i k : Nat) : Nat := tree + sumL (lev.take k) + i / 16 ^ (k + 1)
def plcL (tree : Nat) (lev : List Nat) (i : Nat) : List Nat := (List.range lev.length).map (plcK tree lev i)
structure TrI (M : StM) (tree : Nat) (T : List (List UInt8)) : Prop where
 node : ∀ k, k < upN T.length → rdS M ((tree + k : Nat) : Int) = (lev1 (T.map leafH)).getD k []
 top : upN T.length ≠ 1 → rdS M ((tree + upN T.length : Nat) : Int) = topB (T.map leafH)
 tag : ∀ i (h : i < T.length), rdS M ((tree + sumL (levsN T.length) + i : Nat) : Int) = T[i]
def pathS (M : StM) (tree : Nat) (lev : List Nat) (i : Nat) : List (List UInt8) := (plcL tree lev i).map fun x : Nat => rdS M (x : Int)
def chgS (M : StM) (tree tags : Nat) (lev : List Nat) (i : Nat) (b : List UInt8) : StM :=
 ((plcL tree lev i).zip (chL (pathS M tree lev i) i (leafH b))).foldl (fun M p => wrSt M (p.1 : Int) p.2) (wrSt M ((tags + i : Nat) : Int) b)
theorem leafs_32 (T : List (List UInt8)) : ∀ x ∈ T.map leafH, x.length = 32 := fun x hx => by obtain ⟨y, -, rfl⟩ := List.mem_map.1 hx; exact shaSum_length _
theorem plcL_one {tree n i : Nat} (hi : i < n) (h1 : upN n = 1) : plcL tree (levsN n) i = [tree] := by
 have : i / 16 = 0 := by unfold upN at h1; omega
 rw [plcL, levsN, if_pos h1]
 simp [plcK, sumL, List.range_succ, this]
theorem plcL_two {tree n i : Nat} (hn : 1 ≤ n ∧ n ≤ 128) (hi : i < n) (h1 : upN n ≠ 1) : plcL tree (levsN n) i = [tree + i / 16, tree + upN n] := by
 have : i / 16 ^ 2 = 0 := by omega
 rw [plcL, levsN, if_neg h1]
 simp [plcK, sumL, List.range_succ, this]
theorem sumL_levs {n : Nat} : sumL (levsN n) = if upN n = 1 then 1 else upN n + 1 := by
 unfold levsN; split <;> simp [sumL]
section
variable {M : StM} {tree i : Nat} {T : List (List UInt8)}
theorem TrI.path (h : TrI M tree T) (hn : 1 ≤ T.length ∧ T.length ≤ 128) (hi : i < T.length) : pathS M tree (levsN T.length) i = pathT (T.map leafH) i := by
 have hu := upN_b hn
 unfold pathS
 by_cases h1 : upN T.length = 1
 ·rw [plcL_one hi h1, pathT, List.length_map, if_pos h1, topB, List.length_map, if_pos h1]
  have := h.node 0 (by omega)
  rw [Nat.add_zero] at this
  simp [this]
 ·rw [plcL_two hn hi h1, pathT, List.length_map, if_neg h1]
  have := h.node (i / 16) (up_lt (hs := T) hi)
  simp only [List.map_cons, List.map_nil, this, h.top h1]
theorem TrI.ok (h : TrI M tree T) (hn : 1 ≤ T.length ∧ T.length ≤ 128) (hi : i < T.length) : okP T.length i (leafH T[i]) (pathS M tree (levsN T.length) i) (bldR (T.map leafH)) = true := by
 rw [h.path hn hi]
 have := okP_pathT (hs := T.map leafH) (i := i) (by rw [List.length_map]; exact hn) (leafs_32 T) (by rw [List.length_map]; exact hi)
 simp only [List.length_map, List.getElem_map] at this
 exact this
theorem UpL.wr {x : Int} {b : List UInt8} (h : UpL M.st) : UpL (wrSt M x b).st := (insL_up (x := x) (b := b) M.st h).1
theorem TrI.ch (h : TrI M tree T) (up : UpL M.st) (hn : 1 ≤ T.length ∧ T.length ≤ 128) (hi : i < T.length) (b : List UInt8) :
  TrI (chgS M tree (tree + sumL (levsN T.length)) (levsN T.length) i b) tree (T.set i b) ∧ rootP T.length (chL (pathS M tree (levsN T.length) i) i (leafH b)) = bldR ((T.set i b).map leafH) := by
 have hu := upN_b hn
 have hn' : 1 ≤ (T.map leafH).length ∧ (T.map leafH).length ≤ 128 := by rw [List.length_map]; exact hn
 have hi' : i < (T.map leafH).length := by rw [List.length_map]; exact hi
 have hlb : (leafH b).length = 32 := shaSum_length _
 have e0 := h.path hn hi
 have ec := chL_pathT hn' (leafs_32 T) hi' hlb
 have er := rootP_chL hn' (leafs_32 T) hi' hlb
 have es : (T.map leafH).set i (leafH b) = (T.set i b).map leafH := by rw [List.map_set]
 have hset := set_lev1 (leafs_32 T) hi' hlb
 rw [es] at ec er hset
 rw [List.length_map] at er
 refine ⟨?_, by rw [e0, er]⟩
 have hk := up_lt (hs := T) hi
 have hs := sumL_levs (n := T.length)
 unfold chgS
 rw [e0, ec]
 by_cases h1 : upN T.length = 1
 ·rw [if_pos h1] at hs
  have h0 : i / 16 = 0 := by omega
  rw [plcL_one hi h1, pathT, List.length_map, List.length_set, if_pos h1]
  have hR : ∀ y, rdS (wrSt (wrSt M ((tree + sumL (levsN T.length) + i : Nat) : Int) b) (tree : Int) (topB ((T.set i b).map leafH))) y = if y = (tree : Int) then topB ((T.set i b).map leafH) else if y = ((tree + sumL (levsN T.length) + i : Nat) : Int) then b else rdS M y := fun y => by
   rw [rdS_wr up.wr, rdS_wr up]
  refine ⟨fun k hk => ?_, fun h2 => absurd (by rwa [List.length_set] at h2) (by simpa using h1), fun j hj => ?_⟩
  ·rw [List.length_set] at hk
   obtain rfl : k = 0 := by omega
   show rdS (wrSt (wrSt M _ b) (tree : Int) _) _ = _
   rw [hR, if_pos (by omega), topB, List.length_map, List.length_set, if_pos h1]
  ·rw [List.length_set] at hj ⊢
   show rdS (wrSt (wrSt M _ b) (tree : Int) _) _ = _
   rw [hR, if_neg (by omega), List.getElem_set]
   by_cases e : i = j
   ·subst e; rw [if_pos rfl, if_pos rfl]
   ·rw [if_neg (by omega), if_neg e, h.tag j hj]
 ·rw [if_neg h1] at hs
  rw [plcL_two hn hi h1, pathT, List.length_map, List.length_set, if_neg h1]
  have hR : ∀ y, rdS (wrSt (wrSt (wrSt M ((tree + sumL (levsN T.length) + i : Nat) : Int) b) ((tree + i / 16 : Nat) : Int) ((lev1 ((T.set i b).map leafH)).getD (i / 16) [])) ((tree + upN T.length : Nat) : Int) (topB ((T.set i b).map leafH))) y =
    if y = ((tree + upN T.length : Nat) : Int) then topB ((T.set i b).map leafH) else if y = ((tree + i / 16 : Nat) : Int) then (lev1 ((T.set i b).map leafH)).getD (i / 16) [] else if y = ((tree + sumL (levsN T.length) + i : Nat) : Int) then b else rdS M y := fun y => by
   rw [rdS_wr up.wr.wr, rdS_wr up.wr, rdS_wr up]
  refine ⟨fun k hk2 => ?_, fun h2 => ?_, fun j hj => ?_⟩
  ·rw [List.length_set] at hk2
   show rdS (wrSt (wrSt (wrSt M _ b) _ _) _ _) _ = _
   rw [hR, if_neg (by omega)]
   by_cases e : k = i / 16
   ·subst e; rw [if_pos rfl]
   ·rw [if_neg (by omega), if_neg (by omega), h.node k hk2, hset, List.getD_eq_getElem?_getD (l := (lev1 _).set _ _), List.getElem?_set, if_neg (Ne.symm e), List.getD_eq_getElem?_getD]
  ·rw [List.length_set] at h2 ⊢
   show rdS (wrSt (wrSt (wrSt M _ b) _ _) _ _) _ = _
   rw [hR, if_pos rfl]
  ·rw [List.length_set] at hj ⊢
   show rdS (wrSt (wrSt (wrSt M _ b) _ _) _ _) _ = _
   rw [hR, if_neg (by omega), if_neg (by omega), List.getElem_set]
   by_cases e : i = j
   ·subst e; rw [if_pos rfl, if_pos rfl]
   ·rw [if_neg (by omega), if_neg e, h.tag j hj]
end
end
section
open Go.RowKit
set_option maxRecDepth 100000
section
variable {w w1 w2 : World} {p g : Nat} {D D' : DkM} {J J' : JrM}
theorem OpenC.yes {x y : Int} {m : Nat} {e : Ending} (h : OpenC w p D x y e w1) (hr : jRight D x y = true) (ho : D.off = false) (hm : rmV (D.readR x) = some m) :
  ∃ g v ps, e = .returned (.tuple #[.pointer (some ⟨g, 0, none⟩), v, .int .i64 0]) ∧ w.heap.size ≤ g ∧ RRow w1 w.heap.size v ps (scanA D x y m).1 ∧ Jr w1 g p (openJ x y (scanA D x y m).2.2 (scanA D x y m).2.1) ∧ Fr [] w w1 := by
 obtain ⟨f, h | h | h | ⟨m', g, v, ps, -, -, k1, k2, k3, k4, k5⟩⟩ := h
 ·rw [hr] at h; cases h.1
 ·rw [ho] at h; cases h.2.1
 ·rw [hm] at h; cases h.2.2.1
 ·rw [hm] at k1
  cases k1
  exact ⟨g, v, ps, k2, k3, k4, k5, f⟩
end
end
section
open Go.RowKit
set_option maxRecDepth 100000
theorem putD_snoc (d : Int → Option (List UInt8)) (l : List (Int × List UInt8)) (r : Int × List UInt8) : putD d (l ++ [r]) = updD (putD d l) r := by
 rw [putD, List.foldl_append]
 rfl
section
variable {w w' : World} {P : CaP} {O : List Nat} {M : CaM}
theorem CaW.set (h : CaW w P O M) {f : Int → Option Value} (hf : DirV w f M.dirty) {x : Int} {v : Value} {l : List UInt8} (hx : 0 ≤ x ∧ x < 4096) (hb : BlkB w v l) {n : Nat} (hs : SrtW w' P.s P.b n (fput f x v)) (fr : Fr [P.b] w w') :
  CaW w' P O { M with dirty := updD M.dirty (x, l) } := by
 obtain ⟨u, h1, -⟩ := h.srt
 obtain ⟨e1, e2, e3, e4, e5, e6⟩ := h.ne
 have h8 := h1.noTyB 5
 have hd : DirV w' (fput f x v) (updD M.dirty (x, l)) := fun y => by
  by_cases e : y = x
  ·subst e
   exact .inr ⟨v, l, if_pos rfl, if_pos rfl, hb.keepT fr h8, hx⟩
  ·have a1 : fput f x v y = f y := if_neg e
   have a2 : updD M.dirty (x, l) y = M.dirty y := if_neg e
   rw [a1, a2]
   rcases hf y with h | ⟨v', l', b1, b2, b3, b4⟩
   ·exact .inl h
   ·exact .inr ⟨v', l', b1, b2, b3.keepT fr h8, b4⟩
 refine ⟨h.blk.keep fr (fun hm => e3 (List.mem_singleton.1 hm)), h.dsk.keep fr (fun i hi hm => h.nO.2.2.2 (by rw [← List.mem_singleton.1 hm]; exact hi)) h8, h.jr.keep fr (fun hm => e5 (List.mem_singleton.1 hm)), ⟨_, ⟨hs.blk, hs.map.tight (K := 4096) (fun y _ hy => ?_)⟩, hd⟩, h.nO⟩
 rcases hd y with h | ⟨_, _, -, -, -, b4⟩
 ·exact absurd h.1 hy
 ·exact b4
set_option maxHeartbeats 2000000 in
theorem caPut_any (h : CaW w P O M) {A : Option Addr} {n c : Nat} {rs : List (Int × List UInt8)} (hl : rs.length = n) (hn : n ≤ 4096) (hr : ∀ w', Fr [P.b] w w' → RdX w' A rs) (h5 : ∀ r ∈ rs, r.2.length = 512) (hk : ∀ r ∈ rs, 0 ≤ r.1 ∧ r.1 < 4096) :
  Calls Tryz.prog 71 #[.pointer (some ⟨P.c, 0, none⟩), .slice A n c] w fun e w' => e = .returned (.tuple #[]) ∧ CaW w' P O { M with dirty := putD M.dirty rs } ∧ Fr [P.b] w w' := by
 have HR := Lib.hid (And.intro hr (And.intro h5 hk))
 have HH := Lib.hid h
 clear h hr h5 hk
 go_enter Tryz.func71, Tryz.ntmps71
 go_wp2_with fail
 go_loopw [8] (fun i wr => ∃ k : Nat, k ≤ n ∧ i = .int .i64 k ∧ CaW wr P O { M with dirty := putD M.dirty (rs.take k) } ∧ Fr [P.b] w wr) (fun i _ => n - (intOf i).toNat)
 case atStart => exact ⟨0, by omega, rfl, by rw [List.take_zero]; exact HH.out, Fr.refl _ _⟩
 case round =>
  obtain ⟨k, hkn, rfl, hw, fr⟩ := hrel
  by_cases hlt : k < n
  ·have d0 : (k : Int) < n := by omega
   have hkr : k < rs.length := by omega
   obtain ⟨gr, o, v, rfl, c0, c1, sb⟩ := (HR.out.1 wr fr) k hkr
   obtain ⟨⟨x, l⟩, hx⟩ : ∃ r, rs[k] = r := ⟨_, rfl⟩
   have hmem := List.getElem_mem hkr
   rw [hx] at c0 sb hmem
   have hl5 : l.length = 512 := HR.out.2.1 _ hmem
   have hx4 : 0 ≤ x ∧ x < 4096 := HR.out.2.2 _ hmem
   obtain ⟨Av, cv, rfl, rd, hnil, hcap⟩ := sb
   dsimp only at c0 c1 rd hnil
   rw [hl5] at c1 hnil
   have HX := Lib.hid hx
   have fA : Fr [] wr (wr.alloc (.cells #[.int .i64 x, .slice Av 512 cv] 104)) := (Fr.refl _ _).alloc _
   have ka := Blk.new wr 104 #[.int .i64 x, .slice Av 512 cv]
   have hwA := hw.keep_nil fA
   have rdA := rd.keep_nil fA
   have HF := Lib.hid fr
   clear hw fr hmem rd hx
   go_upto_region 3 with fail
   obtain ⟨wA, hA⟩ : ∃ y, wr.alloc (.cells #[.int .i64 x, .slice Av 512 cv] 104) = y := ⟨_, rfl⟩
   obtain ⟨gA, hgA⟩ : ∃ y, wr.heap.size = y := ⟨_, rfl⟩
   have hbA : P.b < gA ∧ P.c < gA := by rw [← hgA]; have := HF.out.size; obtain ⟨a, -, -, b, -⟩ := HH.out.lts; omega
   rw [hA] at fA ka hwA rdA ⊢
   rw [hgA] at ka ⊢
   obtain ⟨wD, hwD⟩ : ∃ wD, wA.drew = wD := ⟨_, rfl⟩
   have fD : Fr [] wA wD := by rw [← hwD]; exact (Fr.refl [] _).drew
   have hwd := hwA.keep_nil fD
   have hS : ∀ w', Fr [P.b] wD w' → (w'.cell? ⟨P.c, 2, none⟩ = some (.pointer (some ⟨P.s, 0, none⟩)) ∧ w'.cell? ⟨gA, 0, none⟩ = some (.int .i64 x) ∧ w'.cell? ⟨gA, 1, none⟩ = some (.slice Av 512 cv)) := fun w' f =>
    ⟨f.cell (fun hm => by have := List.mem_singleton.1 hm; exact hwd.ne.2.2.1 this) hwd.c2, f.cell (fun hm => by have := List.mem_singleton.1 hm; simp at this; omega) ((ka.keep_nil fD).cell 0), f.cell (fun hm => by have := List.mem_singleton.1 hm; simp at this; omega) ((ka.keep_nil fD).cell 1)⟩
   have cc := clone_any Av l 512 cv wD hl5 (rdA.keep_nil fD) hnil (by omega)
   have MK := Lib.hid hS
   have HW := Lib.hid (And.intro hwd (And.intro fA fD))
   have hD := hS _ (Fr.refl _ _)
   have hL5 := Lib.hid hl5
   clear hwA rdA ka hS hwd fA fD hA hgA c0 c1
   as_aux_lemma =>
    refine wp_region_held_drew (S := fun w' => w'.cell? ⟨P.c, 2, none⟩ = some (.pointer (some ⟨P.s, 0, none⟩)) ∧ w'.cell? ⟨gA, 0, none⟩ = some (.int .i64 x) ∧ w'.cell? ⟨gA, 1, none⟩ = some (.slice Av 512 cv)) (by kernel_rfl) (by rw [hwD]; exact hD) (fun hHeld => ?_)
    rw [hwD] at hHeld ⊢
    clear hD hwD hl5
    refine tw 0 12 hHeld ?_
    refine tw 1 13 hHeld ?_
    refine tw 2 14 hHeld ?_
    refine tw 3 15 hHeld ?_
    refine tw 4 16 hHeld ?_
    refine tw 5 17 hHeld ?_
    refine tw 6 18 hHeld ?_
    refine tw 7 19 hHeld ?_
    refine tc 8 (fun K hK => ?_)
    go_simp
    refine cc.mono ?_
    rintro e w5 ⟨v5, rfl, r5, f5⟩
    have hHx := MK.out w5 f5.nil
    refine hK.out _ _ hHx (fun hHy => ?_)
    clear hK cc hHeld hHy
    try simp only [Act.put, p1, p2, p3]
    have hw5 := HW.out.1.keep_nil f5
    obtain ⟨f, hsr, hdv⟩ := hw5.srt
    have hb5 : BlkB w5 v5 l := ⟨hL5.out, r5.mono (Nat.zero_le _)⟩
    obtain ⟨A5, c5, rfl, -, -, -, -, -⟩ := r5.shape
    have cse := srtSet_any hsr (by unfold maxLen; omega) x (wfZ_of (by omega)) (.slice A5 512 c5) rfl
    have H5 := Lib.hid (And.intro hw5 (And.intro f5 (And.intro hdv hb5)))
    clear hw5 f5 hdv hb5 hsr r5
    refine tc 9 (fun K hK => ?_)
    go_simp
    refine cse.mono ?_
    rintro e w6 ⟨rfl, hs6, f6⟩
    have hHeld := MK.out w6 (H5.out.2.1.nil.trans f6 (fun i hi => .inl hi))
    refine hK.out _ _ hHeld (fun hHy => ?_)
    clear hK cse hHx hHy
    try simp only [Act.put, p1, p2, p3]
    refine wpAnyH_done (by kernel_rfl) ?_ _
    clear hHeld
    have hw6 := H5.out.1.set H5.out.2.2.1 hx4 H5.out.2.2.2 hs6 f6
    have hp : putD M.dirty (rs.take (k + 1)) = updD (putD M.dirty (rs.take k)) (x, l) := by
     rw [List.take_add_one, List.getElem?_eq_getElem hkr, HX.out]
     exact putD_snoc _ _ _
    have hw6' : CaW w6 P O { M with dirty := putD M.dirty (rs.take (k + 1)) } := by rw [hp]; exact hw6
    have fr6 : Fr [P.b] w w6 := (((HF.out.trans_nil HW.out.2.1).trans_nil HW.out.2.2).trans_nil H5.out.2.1).trans f6 (fun i hi => .inl hi)
    have HE := Lib.hid (And.intro hw6' fr6)
    clear hw6 hw6' fr6 hp hs6 f6
    go_wp2_with fail
    exact ⟨⟨k + 1, by omega, by go_num, HE.out⟩, by simp [intOf]; omega⟩
  ·obtain rfl : k = n := by omega
   have d0 : ¬ ((k : Int) < k) := by omega
   have HP := Lib.hid (And.intro hw fr)
   clear hw fr
   go_wp2_with fail
   go_returns
   refine ⟨rfl, ?_⟩
   have := HP.out
   rwa [List.take_of_length_le (by omega)] at this
end
end
section
open Go.RowKit
set_option maxRecDepth 100000
section
variable {w w' : World} {P : CaP} {O : List Nat} {M : CaM}
set_option maxHeartbeats 2000000 in
theorem caOpen_yes {p : Nat} {D : DkM} (h : Dsk w p O D) (x y : Int) {m : Nat} (hx : wfZ x) (hK : KG w) (hr : jRight D x y = true) (ho : D.off = false) (hm : rmV (D.readR x) = some m) (hn : (scanA D x y m).1.length ≤ 4096) (h5 : ∀ r ∈ (scanA D x y m).1, r.2.length = 512) (hk : ∀ r ∈ (scanA D x y m).1, 0 ≤ r.1 ∧ r.1 < 4096) :
  Calls Tryz.prog 35 #[.pointer (some ⟨p, 0, none⟩), .int .i64 x, .int .i64 y] w fun e w' => ∃ P : CaP, P.p = p ∧ e = .returned (.tuple #[.pointer (some ⟨P.c, 0, none⟩), .int .i64 0]) ∧ CaW w' P O ⟨D, openJ x y (scanA D x y m).2.2 (scanA D x y m).2.1, putD (fun _ => none) (scanA D x y m).1⟩ ∧ Fr [] w w' ∧
   w.heap.size ≤ P.c ∧ w.heap.size ≤ P.g ∧ w.heap.size ≤ P.s ∧ w.heap.size ≤ P.b := by
 have co := jnOpen_any h x y hx hK
 have HH := Lib.hid (And.intro h (And.intro h5 (And.intro hk hn)))
 have HR := Lib.hid (And.intro hr (And.intro ho hm))
 have hlt : ∀ i ∈ O, i < w.heap.size := by obtain ⟨X, hX⟩ := h; exact hX.lt
 have HLT := Lib.hid hlt
 obtain ⟨⟨rs, u, num⟩, hsc⟩ : ∃ r, scanA D x y m = r := ⟨_, rfl⟩
 have H5 := Lib.hid (show (∀ r ∈ rs, r.2.length = 512) ∧ (∀ r ∈ rs, 0 ≤ r.1 ∧ r.1 < 4096) ∧ rs.length ≤ 4096 by have := HH.out.2; rw [hsc] at this; exact this)
 have HSC := Lib.hid hsc
 rw [hsc]
 dsimp only
 clear h h5 hk hr ho hm hlt hK hsc hn
 go_enter Tryz.func35, Tryz.ntmps35
 go_wp2_with fail
 refine co.mono ?_
 intro e w2 hoc
 obtain ⟨g, v, ps, rfl, hg, hrr, hj, f2⟩ := hoc.yes HR.out.1 HR.out.2.1 HR.out.2.2
 rw [HSC.out] at hrr hj
 dsimp only at hrr hj
 have cn := srtNew_any w2
 have HA := Lib.hid (And.intro hrr (And.intro hj (And.intro f2 hg)))
 obtain ⟨A, cp, rfl, -⟩ := hrr.row.shape
 have hw2 := f2.size
 have HW2 := Lib.hid hw2
 clear co hoc hrr hj f2 hg hw2
 go_wp2_with fail
 refine cn.mono ?_
 rintro e w3 ⟨rfl, hs3, f3, z3⟩
 have kc := Blk.new w3 133 #[.pointer (some ⟨p, 0, none⟩), .pointer (some ⟨g, 0, none⟩), .pointer (some ⟨w2.heap.size + 1, 0, none⟩), .bool false]
 have f4 : Fr [] w3 (w3.alloc (.cells #[.pointer (some ⟨p, 0, none⟩), .pointer (some ⟨g, 0, none⟩), .pointer (some ⟨w2.heap.size + 1, 0, none⟩), .bool false] 133)) := (Fr.refl _ _).alloc _
 obtain ⟨w4, hw4⟩ : ∃ y, w3.alloc (.cells #[.pointer (some ⟨p, 0, none⟩), .pointer (some ⟨g, 0, none⟩), .pointer (some ⟨w2.heap.size + 1, 0, none⟩), .bool false] 133) = y := ⟨_, rfl⟩
 rw [hw4] at kc f4
 have fw := HA.out.2.2.1.trans_nil (f3.trans_nil f4)
 have hgl := HA.out.2.1.lt
 have hO2 : ∀ i ∈ O, i < w2.heap.size := fun i hi => Nat.lt_of_lt_of_le (HLT.out i hi) HW2.out
 have hcw : CaW w4 ⟨p, g, w2.heap.size + 1, w2.heap.size, w3.heap.size⟩ O ⟨D, openJ x y num u, fun _ => none⟩ := by
  refine ⟨kc, HH.out.1.keep_nil fw, (HA.out.2.1.keep_nil f3).keep_nil f4, ⟨_, ⟨(hs3.keep_nil f4).blk, (hs3.keep_nil f4).map.mono (Nat.zero_le _)⟩, fun x => .inl ⟨rfl, rfl⟩⟩, fun hm => ?_, fun hm => ?_, fun hm => ?_, fun hm => ?_⟩
  ·have := hO2 _ hm; dsimp only at this; omega
  ·have := HLT.out _ hm; have := HA.out.2.2.2; dsimp only at *; omega
  ·have := hO2 _ hm; dsimp only at this; omega
  ·have := hO2 _ hm; dsimp only at this; omega
 have hrd : ∀ w', Fr [w2.heap.size] w4 w' → RdX w' A rs := fun w' f => by
  have h4 := (HA.out.1.keep_nil f3).keep_nil f4
  refine (h4.keepF f (fun g' hg' hm => ?_) (fun q hq g' hg' hm => ?_)).rdx
  ·have := (HA.out.1.row.lt g' hg').2
   have := List.mem_singleton.1 hm
   omega
  ·have := (HA.out.1.lt q hq g' hg').2
   have := List.mem_singleton.1 hm
   omega
 have cp4 := caPut_any hcw (c := cp) rfl H5.out.2.2 hrd H5.out.1 H5.out.2.1
 rw [z3] at cp4
 have HFW := Lib.hid (And.intro fw z3)
 have HG := HA.out.2.2.2
 clear hcw hrd kc f4 fw hs3 f3 cn hO2
 go_wp2_with fail
 refine cp4.mono ?_
 rintro e w5 ⟨rfl, h5, f5⟩
 have HE := Lib.hid (And.intro h5 f5)
 clear cp4 h5 f5
 go_wp2_with fail
 go_ret2
 have hw2 := HW2.out
 have z3 := HFW.out.2
 exact ⟨⟨p, g, w2.heap.size + 1, w2.heap.size, w2.heap.size + 2⟩, rfl, rfl, HE.out.1, HFW.out.1.trans HE.out.2 (fun i hi => .inr (by rw [List.mem_singleton.1 hi]; exact hw2)), by dsimp only; omega, HG, by dsimp only; omega, hw2⟩
end
end
section
open Go.RowKit Go.Shelf
section
variable {P : Program} {ops : Array Oper} {Q : Exit → Act → World → Prop} {md : Region.Mode} {l n : Nat}
def plainOps (ops : Array Oper) : Bool := ops.all fun o => match o.op with | .defer _ => false | _ => true
theorem rowsIn_of {row : String} {args : Array Value} {w : World} {R : Value → World → Prop} (h : Go.Rows P row args w R) : RowsIn (Fence.wide.inRound l) n P row args w R := fun c cs _ => by
 obtain ⟨v, w', r, s⟩ := h c cs
 exact ⟨v, w', r, stepsIn_wide.2 s⟩
theorem plainOps_at (h : plainOps ops = true) {i : Nat} {o : Oper} (hi : ops[i]? = some o) : ∀ c, o.op ≠ .defer c := fun c e => by
 have := Array.all_eq_true'.1 h o (Array.mem_of_getElem? hi)
 rw [e] at this
 cases this
end
end
end Go.Proofs.YtbanogfljpkbkaaGreatDoor
