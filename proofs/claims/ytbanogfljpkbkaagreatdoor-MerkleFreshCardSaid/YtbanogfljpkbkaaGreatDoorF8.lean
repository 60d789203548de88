/-
  Texts of this claim, one behind the other: TreA, FreC, CacD, CodB.
-/
import Derived.Test.YtbanogfljpkbkaaGreatDoorF7
import Derived.Test.YtbanogfljpkbkaaGreatDoorF4
import Derived.Test.YtbanogfljpkbkaaGreatDoorF3
import Derived.Test.YtbanogfljpkbkaaGreatDoorF6
import Derived.Handy
import Derived.Sort.CutIn
import Derived.Sort.QuietIn
import Derived.BigQuiet
import Derived.Deep.QuietTactic
set_option linter.unusedSimpArgs false
set_option linter.unusedVariables false
set_option linter.unnecessarySimpa false
namespace Go.Proofs.YtbanogfljpkbkaaGreatDoor
section
set_option maxRecDepth 100000
def upN (n : Nat) : Nat := (n + 15) / 16
def levsN (n : Nat) : List Nat := if upN n = 1 then [1] else [upN n, 1]
def cutB (b : List UInt8) (i : Nat) : List UInt8 := (b.drop (32 * (i % 16))).take 32
def setB (b : List UInt8) (i : Nat) (d : List UInt8) : List UInt8 := b.take (32 * (i % 16)) ++ d ++ b.drop (32 * (i % 16) + d.length)
def lev1 (hs : List (List UInt8)) : List (List UInt8) := (List.range (upN hs.length)).map fun i => nodeB ((hs.drop (16 * i)).take 16)
def bldN (hs : List (List UInt8)) : List (List (List UInt8)) := if upN hs.length = 1 then [lev1 hs] else [lev1 hs, lev1 ((lev1 hs).map (nodeH 0))]
def topB (hs : List (List UInt8)) : List UInt8 := if upN hs.length = 1 then (lev1 hs).getD 0 [] else (lev1 ((lev1 hs).map (nodeH 0))).getD 0 []
def bldR (hs : List (List UInt8)) : List UInt8 := rootH hs.length (if upN hs.length = 1 then 0 else 1) (topB hs)
def pathT (hs : List (List UInt8)) (i : Nat) : List (List UInt8) := if upN hs.length = 1 then [topB hs] else [(lev1 hs).getD (i / 16) [], topB hs]
theorem upN_b {n : Nat} (h : 1 ≤ n ∧ n ≤ 128) : 1 ≤ upN n ∧ upN n ≤ 8 := by unfold upN; omega
theorem levsN_len (n : Nat) : (levsN n).length = if upN n = 1 then 1 else 2 := by unfold levsN; split <;> rfl
theorem lev1_len (hs : List (List UInt8)) : (lev1 hs).length = upN hs.length := by simp [lev1]
theorem upup {n : Nat} (h : 1 ≤ n ∧ n ≤ 128) : upN (upN n) = 1 := by unfold upN; omega
theorem flat_len : ∀ (l : List (List UInt8)), (∀ x ∈ l, x.length = 32) → l.flatten.length = 32 * l.length
 | [], _ => rfl
 | x :: r, h => by
  have h1 := h x List.mem_cons_self
  have h2 := flat_len r (fun y hy => h y (List.mem_cons_of_mem _ hy))
  simp only [List.flatten_cons, List.length_append, List.length_cons, h1, h2]
  omega
theorem flat_drop : ∀ (l : List (List UInt8)) (j : Nat), (∀ x ∈ l, x.length = 32) → j ≤ l.length → l.flatten.drop (32 * j) = (l.drop j).flatten
 | l, 0, _, _ => rfl
 | [], j + 1, _, h => by simp at h
 | x :: r, j + 1, h, hj => by
  have h1 := h x List.mem_cons_self
  have h2 := flat_drop r j (fun y hy => h y (List.mem_cons_of_mem _ hy)) (by simpa using hj)
  rw [List.flatten_cons, List.drop_succ_cons, ← h2, List.drop_append, h1, List.drop_eq_nil_of_le (by omega), List.nil_append]
  congr 1
  try omega
theorem flat_take (l : List (List UInt8)) (j : Nat) (h : ∀ x ∈ l, x.length = 32) (hj : j ≤ l.length) : l.flatten.take (32 * j) = (l.take j).flatten := by
 have h1 : l.flatten = (l.take j).flatten ++ (l.drop j).flatten := by rw [← List.flatten_append, List.take_append_drop]
 have h2 : (l.take j).flatten.length = 32 * j := by
  rw [flat_len _ (fun x hx => h x (List.mem_of_mem_take hx)), List.length_take]; omega
 rw [h1, List.take_left' h2]
theorem nodeB_len {l : List (List UInt8)} (h : ∀ x ∈ l, x.length = 32) (hl : l.length ≤ 16) : (nodeB l).length = 512 := by
 unfold nodeB
 rw [List.length_append, flat_len l h, List.length_replicate]
 omega
theorem cutB_node {l : List (List UInt8)} {i : Nat} (h : ∀ x ∈ l, x.length = 32) (hi : i % 16 < l.length) : cutB (nodeB l) i = l[i % 16] := by
 unfold cutB nodeB
 rw [List.drop_append_of_le_length (by rw [flat_len l h]; omega), flat_drop l _ h (by omega), List.drop_eq_getElem_cons hi, List.flatten_cons, List.append_assoc, List.take_left' (h _ (List.getElem_mem hi))]
theorem setB_node {l : List (List UInt8)} {i : Nat} {d : List UInt8} (h : ∀ x ∈ l, x.length = 32) (hi : i % 16 < l.length) (hd : d.length = 32) : setB (nodeB l) i d = nodeB (l.set (i % 16) d) := by
 unfold setB nodeB
 have hs : (l.set (i % 16) d) = l.take (i % 16) ++ d :: l.drop (i % 16 + 1) := by
  rw [List.set_eq_take_append_cons_drop, if_pos hi]
 rw [hs, List.length_append, List.length_take, List.length_cons, List.length_drop, hd, List.take_append_of_le_length (by rw [flat_len l h]; omega), flat_take l _ h (by omega), List.flatten_append, List.flatten_cons,
  show 32 * (i % 16) + 32 = 32 * (i % 16 + 1) by omega, List.drop_append_of_le_length (by rw [flat_len l h]; omega), flat_drop l _ h (by omega)]
 simp only [List.append_assoc]
 congr 4
 congr 1
 omega
theorem setB_len {b d : List UInt8} {i : Nat} (hb : b.length = 512) (hd : d.length = 32) : (setB b i d).length = 512 := by
 unfold setB
 have := Nat.mod_lt i (show 0 < 16 by decide)
 simp only [List.length_append, List.length_take, List.length_drop, hb, hd]
 omega
section
variable {hs : List (List UInt8)} {i : Nat} {d : List UInt8}
theorem chunk_mem (h : ∀ x ∈ hs, x.length = 32) (k : Nat) : ∀ x ∈ (hs.drop (16 * k)).take 16, x.length = 32 := fun x hx => h x (List.mem_of_mem_drop (List.mem_of_mem_take hx))
theorem chunk_len (k : Nat) : ((hs.drop (16 * k)).take 16).length ≤ 16 := by rw [List.length_take]; omega
theorem chunk_lt (hi : i < hs.length) : i % 16 < ((hs.drop (16 * (i / 16))).take 16).length := by
 rw [List.length_take, List.length_drop]; omega
theorem lev1_at (k : Nat) (hk : k < upN hs.length) : (lev1 hs).getD k [] = nodeB ((hs.drop (16 * k)).take 16) := by
 rw [List.getD_eq_getElem?_getD, lev1, List.getElem?_map, List.getElem?_range hk]; rfl
theorem up_lt (hi : i < hs.length) : i / 16 < upN hs.length := by unfold upN; omega
theorem lev1_512 (h : ∀ x ∈ hs, x.length = 32) : ∀ b ∈ lev1 hs, b.length = 512 := by
 intro b hb
 obtain ⟨k, -, rfl⟩ := List.mem_map.1 hb
 exact nodeB_len (chunk_mem h k) (chunk_len k)
theorem cut_lev1 (h : ∀ x ∈ hs, x.length = 32) (hi : i < hs.length) : cutB ((lev1 hs).getD (i / 16) []) i = hs[i] := by
 rw [lev1_at _ (up_lt hi), cutB_node (chunk_mem h _) (chunk_lt hi)]
 simp only [List.getElem_take, List.getElem_drop]
 congr 1
 omega
theorem set_lev1 (h : ∀ x ∈ hs, x.length = 32) (hi : i < hs.length) (hd : d.length = 32) : lev1 (hs.set i d) = (lev1 hs).set (i / 16) (setB ((lev1 hs).getD (i / 16) []) i d) := by
 apply List.ext_getElem?
 intro k
 rw [List.getElem?_set, lev1_len]
 by_cases hk : k < upN hs.length
 ·have e : (lev1 (hs.set i d))[k]? = some (nodeB (((hs.set i d).drop (16 * k)).take 16)) := by
   rw [lev1, List.getElem?_map, List.length_set, List.getElem?_range hk]; rfl
  have e0 : (lev1 hs)[k]? = some (nodeB ((hs.drop (16 * k)).take 16)) := by
   rw [lev1, List.getElem?_map, List.getElem?_range hk]; rfl
  by_cases hik : i / 16 = k
  ·subst hik
   rw [if_pos rfl, if_pos hk, e, lev1_at _ hk, setB_node (chunk_mem h _) (chunk_lt hi) hd]
   congr 2
   rw [List.drop_set, if_neg (by omega), List.take_set]
   congr 1
   omega
  ·rw [if_neg hik, e, e0]
   congr 2
   rw [List.drop_set]
   split
   ·rfl
   ·rw [List.take_set, List.set_eq_of_length_le]
    rw [List.length_take]; omega
 ·rw [if_neg (by have := up_lt hi; omega), List.getElem?_eq_none (by rw [lev1_len, List.length_set]; omega), List.getElem?_eq_none (by rw [lev1_len]; omega)]
end
def chD (path : List (List UInt8)) (i : Nat) (leaf : List UInt8) : Nat → List UInt8
 | 0 => leaf
 | k + 1 => nodeH (UInt8.ofNat k) (setB (path.getD k []) (i / 16 ^ k) (chD path i leaf k))
def chB (path : List (List UInt8)) (i : Nat) (leaf : List UInt8) (k : Nat) : List UInt8 := setB (path.getD k []) (i / 16 ^ k) (chD path i leaf k)
def chL (path : List (List UInt8)) (i : Nat) (leaf : List UInt8) : List (List UInt8) := (List.range path.length).map (chB path i leaf)
def rootP (n : Nat) (path : List (List UInt8)) : List UInt8 := rootH n (UInt8.ofNat (path.length - 1)) (path.getD (path.length - 1) [])
def joinAt (i : Nat) (path : List (List UInt8)) (k : Nat) : Bool := cutB (path.getD (k + 1) []) (i / 16 ^ (k + 1)) == nodeH (UInt8.ofNat k) (path.getD k [])
def joinK (i : Nat) (path : List (List UInt8)) (k : Nat) : Bool := (List.range k).all (joinAt i path)
def joinB (i : Nat) (path : List (List UInt8)) : Bool := joinK i path (path.length - 1)
def okP (n i : Nat) (leaf : List UInt8) (path : List (List UInt8)) (root : List UInt8) : Bool := (rootP n path == root) && (cutB (path.getD 0 []) i == leaf) && joinB i path
theorem chD_len (h : ∀ l, (shaSum l).length = 32) {path : List (List UInt8)} {i : Nat} {leaf : List UInt8} (hl : leaf.length = 32) : ∀ k, (chD path i leaf k).length = 32
 | 0 => hl
 | k + 1 => h _
theorem chL_len (path : List (List UInt8)) (i : Nat) (leaf : List UInt8) : (chL path i leaf).length = path.length := by simp [chL]
theorem chL_512 {path : List (List UInt8)} {i : Nat} {leaf : List UInt8} (hl : leaf.length = 32) (hp : ∀ b ∈ path, b.length = 512) : ∀ b ∈ chL path i leaf, b.length = 512 := by
 intro b hb
 obtain ⟨k, hk, rfl⟩ := List.mem_map.1 hb
 have hk := List.mem_range.1 hk
 refine setB_len ?_ (chD_len shaSum_length hl k)
 rw [List.getD_eq_getElem?_getD, List.getElem?_eq_getElem hk]
 exact hp _ (List.getElem_mem hk)
section
variable {hs : List (List UInt8)} {i : Nat} {d : List UInt8}
theorem lev1_getD_512 (h : ∀ x ∈ hs, x.length = 32) {k : Nat} (hk : k < upN hs.length) : ((lev1 hs).getD k []).length = 512 := by
 rw [List.getD_eq_getElem?_getD, List.getElem?_eq_getElem (by rw [lev1_len]; exact hk)]
 exact lev1_512 h _ (List.getElem_mem _)
theorem rootP_pathT (hs : List (List UInt8)) (i : Nat) : rootP hs.length (pathT hs i) = bldR hs := by
 unfold rootP pathT bldR
 split <;> rfl
theorem map_node (hs : List (List UInt8)) : ∀ x ∈ (lev1 hs).map (nodeH 0), x.length = 32 := fun x hx => by obtain ⟨y, -, rfl⟩ := List.mem_map.1 hx; exact shaSum_length _
theorem cut_top (hn : 1 ≤ hs.length ∧ hs.length ≤ 128) (hi : i < hs.length) (h2 : upN hs.length ≠ 1) : cutB (topB hs) (i / 16) = nodeH 0 ((lev1 hs).getD (i / 16) []) := by
 have hk := up_lt hi
 have hb := upN_b hn
 have := cut_lev1 (hs := (lev1 hs).map (nodeH 0)) (i := i / 16) (map_node hs) (by rw [List.length_map, lev1_len]; exact hk)
 rw [show i / 16 / 16 = 0 by omega] at this
 rw [topB, if_neg h2, this, List.getElem_map, List.getD_eq_getElem?_getD, List.getElem?_eq_getElem (by rw [lev1_len]; exact hk)]
 rfl
theorem okP_pathT (hn : 1 ≤ hs.length ∧ hs.length ≤ 128) (h : ∀ x ∈ hs, x.length = 32) (hi : i < hs.length) : okP hs.length i hs[i] (pathT hs i) (bldR hs) = true := by
 unfold okP
 rw [rootP_pathT]
 by_cases h1 : upN hs.length = 1
 ·have hc := cut_lev1 h hi
  have h0 : i / 16 = 0 := by have := up_lt hi; omega
  rw [h0] at hc
  have : pathT hs i = [(lev1 hs).getD 0 []] := by rw [pathT, if_pos h1, topB, if_pos h1]
  rw [this]
  rw [List.getD_eq_getElem?_getD] at hc
  simp [joinB, joinK, hc]
 ·have hc := cut_lev1 h hi
  have ht := cut_top hn hi h1
  have : pathT hs i = [(lev1 hs).getD (i / 16) [], topB hs] := by rw [pathT, if_neg h1]
  rw [this]
  simp only [beq_self_eq_true, List.getD_cons_zero, hc, Bool.true_and, joinB, joinK, List.length_cons, List.length_nil, Nat.zero_add, Nat.add_one_sub_one, List.all_eq_true, List.mem_range]
  intro k hk
  obtain rfl : k = 0 := by omega
  simp only [joinAt, Nat.zero_add, List.getD_cons_succ, List.getD_cons_zero, Nat.pow_one]
  rw [ht]
  exact beq_self_eq_true _
theorem chL_pathT (hn : 1 ≤ hs.length ∧ hs.length ≤ 128) (h : ∀ x ∈ hs, x.length = 32) (hi : i < hs.length) (hd : d.length = 32) : chL (pathT hs i) i d = pathT (hs.set i d) i := by
 have hk := up_lt hi
 have hb := upN_b hn
 have hset := set_lev1 h hi hd
 by_cases h1 : upN hs.length = 1
 ·have h0 : i / 16 = 0 := by omega
  have e1 : pathT hs i = [(lev1 hs).getD 0 []] := by rw [pathT, if_pos h1, topB, if_pos h1]
  have e2 : pathT (hs.set i d) i = [(lev1 (hs.set i d)).getD 0 []] := by rw [pathT, List.length_set, if_pos h1, topB, List.length_set, if_pos h1]
  rw [e1, e2, hset, h0, List.getD_eq_getElem?_getD (l := (lev1 hs).set _ _), List.getElem?_set, if_pos rfl, if_pos (by rw [lev1_len]; omega)]
  simp [chL, chB, chD, List.range_succ]
 ·have e1 : pathT hs i = [(lev1 hs).getD (i / 16) [], topB hs] := by rw [pathT, if_neg h1]
  have e2 : pathT (hs.set i d) i = [(lev1 (hs.set i d)).getD (i / 16) [], topB (hs.set i d)] := by rw [pathT, List.length_set, if_neg h1]
  have ea : (lev1 (hs.set i d)).getD (i / 16) [] = setB ((lev1 hs).getD (i / 16) []) i d := by
   rw [hset, List.getD_eq_getElem?_getD, List.getElem?_set, if_pos rfl, if_pos (by rw [lev1_len]; omega)]; rfl
  have hset2 := set_lev1 (hs := (lev1 hs).map (nodeH 0)) (i := i / 16) (d := nodeH 0 (setB ((lev1 hs).getD (i / 16) []) i d)) (map_node hs) (by rw [List.length_map, lev1_len]; exact hk) (shaSum_length _)
  have et : topB (hs.set i d) = setB (topB hs) (i / 16) (nodeH 0 (setB ((lev1 hs).getD (i / 16) []) i d)) := by
   rw [topB, topB, List.length_set, if_neg h1, if_neg h1, hset, List.map_set, hset2, show i / 16 / 16 = 0 by omega, List.getD_eq_getElem?_getD (l := (lev1 _).set _ _), List.getElem?_set, if_pos rfl, if_pos (by rw [lev1_len, List.length_map, lev1_len, upup hn]; omega)]
   rfl
  rw [e1, e2, ea, et]
  simp [chL, chB, chD, List.range_succ]
theorem rootP_chL (hn : 1 ≤ hs.length ∧ hs.length ≤ 128) (h : ∀ x ∈ hs, x.length = 32) (hi : i < hs.length) (hd : d.length = 32) : rootP hs.length (chL (pathT hs i) i d) = bldR (hs.set i d) := by
 rw [chL_pathT hn h hi hd]
 have := rootP_pathT (hs.set i d) i
 rwa [List.length_set] at this
end
end
section
open Go.RowKit Go.Shelf
attribute [local go_sem] Oper.semAt_some
set_option maxRecDepth 100000
theorem slChunk_any (w : World) (A : Option Addr) (n c : Nat) : Calls Tryz.prog 156 #[.slice A n c, .int .i64 16] w fun e w' => e = .returned (.func (.func 194) #[] #[.pointer (some ⟨w.heap.size, 0, none⟩), .pointer (some ⟨w.heap.size + 1, 0, none⟩)]) ∧
  Blk w' w.heap.size 48 #[.slice A n c] ∧ Blk w' (w.heap.size + 1) 3 #[.int .i64 16] ∧ Fr [] w w' ∧ w'.heap.size = w.heap.size + 2 := by
 go_enter Tryz.func156, Tryz.ntmps156
 go_wp2_with fail
 go_ret
 have k1 := Blk.new w 48 #[.slice A n c]
 have k2 := Blk.new (w.alloc (.cells #[.slice A n c] 48)) 3 #[.int .i64 16]
 exact ⟨rfl, k1.alloc _, by simpa using k2, ((Fr.refl [] w).alloc _).alloc _, by simp⟩
def encC (g o n k : Nat) : Array Value := #[.slice (some ⟨g, o + 512 * k, none⟩) (min 16 (n - 16 * k)) (min 16 (n - 16 * k))]
set_option maxHeartbeats 4000000 in
theorem slChunk1_in (m : Nat) (hm : 1 ≤ m) (l b1 b2 g o n c : Nat) (hn : 1 ≤ n ∧ n ≤ 128) (hc : n ≤ c) (Kp : World → World → Prop) (J Jx : List Nat → World → Prop) (W : World) (hJ : AbidesFrom W.heap.size J)
  (hY : ∀ pre x W1, J pre W1 → pre.length < 8 → YieldAt Fence.wide (m - 1) Tryz.prog l (encC g o n x) W1 fun e W' => (e = .returned (.bool true) ∧ J (pre ++ [x]) W' ∧ Kp W1 W') ∨ (e = .returned (.bool false) ∧ Jx (pre ++ [x]) W'))
  (h1 : Blk W b1 48 #[.slice (some ⟨g, o, none⟩) n c]) (h2 : Blk W b2 3 #[.int .i64 16]) (hks : KeepS Kp W b1 b2 b1) (hKd : ∀ A, Kp A A.drew) (h0 : J [] W) :
  CallsIn Fence.wide m Tryz.prog 194 #[.func (.yield l) #[] #[], .pointer (some ⟨b1, 0, none⟩), .pointer (some ⟨b2, 0, none⟩)] W fun e W' => (∃ v, e = .returned v) ∧ ((∃ xs, xs = List.range (upN n) ∧ J xs W') ∨ (∃ pre, pre <+: List.range (upN n) ∧ Jx pre W')) := by
 refine callsIn_of_wp Tryz.func194 rfl trivial ?_ rfl
 simp only [Tryz.ntmps194, List.size_toArray, List.length_cons, List.length_nil, Nat.reduceAdd, Nat.reduceSub, Array.replicate_succ, Array.replicate_zero, List.push_toArray, List.append_toArray, List.nil_append, List.cons_append]
 have HK := Lib.hid (And.intro h1 (And.intro h2 (And.intro hks h0)))
 obtain ⟨U, hU⟩ : ∃ U, upN n = U := ⟨_, rfl⟩
 have HUn := Lib.hid (show U = (n + 15) / 16 by rw [← hU]; rfl)
 rw [hU]
 clear h1 h2 hks h0 hU
 gi_wp2
 gi_loopw [4] (fun i wr => ∃ k : Nat, k ≤ U ∧ i = .int .i64 ((16 * k : Nat) : Int) ∧ J (List.range k) wr ∧ Kp W wr) (fun i _ => 16 * U - (intOf i).toNat)
 case atStart => exact ⟨0, Nat.zero_le _, rfl, HK.out.2.2.2, HK.out.2.2.1.refl _⟩
 case round =>
  obtain ⟨k, hkU, rfl, hJk, hKk⟩ := hrel
  have hsm := (HK.out.2.2.1.same W wr (Fr.refl _ _) hKk).1
  have c1 : wr.cell? ⟨b1, 0, none⟩ = some (.slice (some ⟨g, o, none⟩) n c) := (cell_heap hsm.1 0).trans (HK.out.1.cell 0)
  have c2 : wr.cell? ⟨b2, 0, none⟩ = some (.int .i64 16) := (cell_heap hsm.2.1 0).trans (HK.out.2.1.cell 0)
  obtain ⟨i, hi⟩ : ∃ i, 16 * k = i := ⟨_, rfl⟩
  rw [hi]
  have hUn := HUn.out
  by_cases hlt : k < U
  ·have d0 : (i : Int) < n := by omega
   obtain ⟨q, hq⟩ : ∃ q, min 16 (n - i) = q := ⟨_, rfl⟩
   gi_upto_region 3 with (fail)
   refine wpIn_wide.2 ?_
   refine wp_region_held_drew (S := fun w' => w'.cell? ⟨b1, 0, none⟩ = some (.slice (some ⟨g, o, none⟩) n c) ∧ w'.cell? ⟨b2, 0, none⟩ = some (.int .i64 16)) (by kernel_rfl) ⟨c1, c2⟩ (fun hHeld => ?_)
   refine tw 0 13 hHeld ?_
   refine tw 1 14 hHeld ?_
   refine tw 2 15 hHeld ?_
   refine tw 3 16 hHeld ?_ (v := .slice (some ⟨g, o + i * 32, none⟩) (n - i) (c - i)) (hy := fun w _ => (hy_sliceL (s := 32) Tryz.underlying48 (by kernel_rfl) rfl rfl i rfl (by omega)).trans (by rw [if_neg (by omega), Option.map_some, addr_add]))
   have e6 : min (16 : Int) ((n - i : Nat) : Int) = (q : Int) := by omega
   refine tw 4 17 hHeld ?_
   refine tw 5 18 hHeld ?_
   refine tw 6 5 hHeld ?_
   refine wpAnyH_done (by kernel_rfl) ?_ _
   have e7 : IntKind.i64.wrap ((i : Int) + q) = ((i + q : Nat) : Int) := by rw [IntWalk.i64_in _ (by omega)]; omega
   obtain ⟨j, hj⟩ : ∃ j, i + q = j := ⟨_, rfl⟩
   rw [hj] at e7
   have K1 : (i : Int) ≤ j := by omega
   have K2 : (j : Int) ≤ c := by omega
   have N1 : ¬ (c = i) := by omega
   have hJ9 : J (List.range k) wr.drew := hJ _ _ _ none hJk (fr_grown (Fr.refl [] wr).drew) (fun r e => by cases e)
   obtain ⟨fn, tmps, assign, body, hy, hR⟩ := hY _ k wr.drew hJ9 (by rw [List.length_range]; omega)
   have he : encC g o n k = #[.slice (some ⟨g, o + i * 32, none⟩) (j - i) (j - i)] := by unfold encC; rw [hi, hq, show 512 * k = i * 32 by omega, show q = j - i by omega]
   rw [he] at hy
   have c3 : wr.drew.cell? ⟨b1, 0, none⟩ = some (.slice (some ⟨g, o, none⟩) n c) := c1
   have c4 : wr.drew.cell? ⟨b2, 0, none⟩ = some (.int .i64 16) := c2
   have HKk := Lib.hid (HK.out.2.2.1.trans hKk (hKd _))
   have HN := Lib.hid (show i + 16 = 16 * (k + 1) by omega)
   clear hHeld c1 c2 hUn e6 he hsm hKk hJk hJ9
   gi_wp2
   refine hR.mono ?_
   rintro e W3 (⟨rfl, hJ3, hk3⟩ | ⟨rfl, hJx3⟩)
   ·have hK3 := HK.out.2.2.1.trans HKk.out hk3
    have c5 : W3.cell? ⟨b2, 0, none⟩ = some (.int .i64 16) := (cell_heap (HK.out.2.2.1.same W W3 (Fr.refl _ _) hK3).1.2.1 0).trans (HK.out.2.1.cell 0)
    have HP := Lib.hid (And.intro hJ3 hK3)
    clear hR hy c3 c4 hJ3 hk3 hK3
    gi_wp2
    exact ⟨⟨k + 1, by omega, by rw [show (i : Int) + 16 = ((16 * (k + 1) : Nat) : Int) by have := HN.out; omega], by rw [List.range_succ]; exact HP.out.1, HP.out.2⟩, by simp [intOf]; omega⟩
   ·have HP := Lib.hid hJx3
    clear hR hy c3 c4 hJx3
    gi_wp2
    refine bodyPost_ret (results_none rfl _ _ _) rfl ?_
    exact ⟨⟨_, rfl⟩, .inr ⟨_, by rw [← List.range_succ, show List.range (k + 1) = (List.range U).take (k + 1) by rw [List.take_range]; congr 1; omega]; exact List.take_prefix _ _, HP.out⟩⟩
  ·have d0 : ¬ ((i : Int) < n) := by omega
   obtain rfl : k = U := by omega
   clear hUn
   gi_wp2
   go_end0
   exact ⟨⟨_, rfl⟩, .inl hJk⟩
theorem slChunk1_stopsK (m : Nat) (hm : 1 ≤ m) (b1 b2 g o n c : Nat) (hn : 1 ≤ n ∧ n ≤ 128) (hc : n ≤ c) (Kp : World → World → Prop) (w : World)
  (h1 : Blk w b1 48 #[.slice (some ⟨g, o, none⟩) n c]) (h2 : Blk w b2 3 #[.int .i64 16]) (hks : ∀ W, Below w.heap.size w W → KeepS Kp W b1 b2 b1) (hKd : ∀ A, Kp A A.drew) :
  SeqStopsK Fence.wide m Tryz.prog 194 #[.pointer (some ⟨b1, 0, none⟩), .pointer (some ⟨b2, 0, none⟩)] (encC g o n) Kp (fun xs => xs = List.range (upN n)) (fun pre => pre <+: List.range (upN n)) 8 w := fun l J Jx W hW hJ _ hY h0 =>
 slChunk1_in m hm l b1 b2 g o n c hn hc Kp J Jx W hJ hY (by show W.heap[b1]? = _; rw [hW.block b1 h1.lt]; exact h1) (by show W.heap[b2]? = _; rw [hW.block b2 h2.lt]; exact h2) (hks W hW) hKd h0
end
section
open Go.RowKit Go.Shelf
attribute [local go_sem] Oper.semAt_some encP
set_option maxRecDepth 100000
theorem fr_putObjC {w : World} {D : Nat} (o : Obj) : Fr [D] w (w.putObj D o) := ⟨rfl, rfl, rfl, by simp [World.putObj], fun k _ hF => World.putObj_heap_other (by simpa using hF)⟩
theorem Row.isCells {w : World} {B : Nat} {e : TypeId} {s n : Nat} {v : Value} {xs : List Value} (h : Row w B e s v n xs) {i : Nat} (hi : v.ownBlock = some i) {o : Obj} (ho : w.heap[i]? = some o) : o.isCells = true := by
 rcases h.2 with ⟨h0, -⟩ | ⟨g', cap, cur, fz, h0, hb0, hg0, -⟩
 ·rw [h0] at hi; simp [Value.ownBlock] at hi
 ·have e1 : g' = i := by rw [h0] at hi; simpa [Value.ownBlock] using hi
  subst e1
  rw [hg0] at ho
  cases ho
  rfl
theorem box_fr {W wa wx : World} {gb m : Nat} {t e : TypeId} {v v' : Value} {xs : List Value} {B s : Nat} (b1 : Blk W gb t #[v]) (r1 : Row W B e s v m xs) (fa : Fr [] W wa) (q2 : Fr v.ownBlock.toList wa wx) (q3 : ∀ k, v'.ownBlock = some k → v.ownBlock = some k ∨ k = wa.heap.size) (hB : B ≤ W.heap.size) (bx : Blk wx gb t #[v]) (B' : Nat) :
  KeepsOthers W (wx.setCell ⟨gb, 0, none⟩ v') ∧ KeepO gb B' W (wx.setCell ⟨gb, 0, none⟩ v') ∧ Fr (gb :: v.ownBlock.toList) W (wx.setCell ⟨gb, 0, none⟩ v') ∧ Blk (wx.setCell ⟨gb, 0, none⟩ v') gb t #[v'] := by
 have k' : Blk (wx.setCell ⟨gb, 0, none⟩ v') gb t #[v'] := by simpa using bx.set_ 0 v'
 have frW : Fr (gb :: v.ownBlock.toList) W (wx.setCell ⟨gb, 0, none⟩ v') := ((fa.nil.trans q2 (fun i hi => .inl (List.mem_cons_of_mem _ hi))).setCell (.inl (by simp)) _)
 have ow : ownC W gb = v.ownBlock := ownC_blk b1
 have ow' : ownC (wx.setCell ⟨gb, 0, none⟩ v') gb = v'.ownBlock := ownC_blk k'
 refine ⟨keepsO_of_fr frW (fun k hk o ho => ?_), KeepO.of_fr frW (fun i hi => ?_) (fun k hk => ?_), frW, k'⟩
 ·rcases List.mem_cons.1 hk with rfl | hk
  ·unfold Blk at b1
   rw [b1] at ho
   cases ho
   rfl
  ·exact r1.isCells (mem_own.1 hk) ho
 ·rcases List.mem_cons.1 hi with rfl | hi
  ·exact .inl rfl
  ·exact .inr (.inl (by rw [ow]; exact mem_own.1 hi))
 ·rw [ow'] at hk
  rw [ow]
  rcases q3 k hk with h | h
  ·exact .inl h
  ·exact .inr (by rw [h]; exact fa.size)
end
section
open Go.RowKit
def Rdr (T : TypeId) (w : World) (p : Nat) (G : List Nat) (l : List UInt8) (bad : Bool) : Prop :=
 ∃ A c, Blk w p T #[.slice A l.length c, .bool bad] ∧ l.length ≤ c ∧ c ≤ maxLen ∧ l.length ≤ 140737488355328 ∧ Rd w A (bvs l) ∧ ∀ a, A = some a → a.block ∈ G
theorem Rdr.keep {T : TypeId} {w w' : World} {p : Nat} {G F : List Nat} {l : List UInt8} {bad : Bool} (h : Rdr T w p G l bad) (hf : Fr F w w') (hp : p ∉ F) (hG : ∀ g ∈ G, g ∉ F) : Rdr T w' p G l bad := by
 obtain ⟨A, c, h1, h2, h3, h4, h5, h6⟩ := h
 exact ⟨A, c, h1.keep hf hp, h2, h3, h4, h5.keep hf (fun g o e => hG g (h6 _ e)), h6⟩
theorem Rdr.mono {T : TypeId} {w : World} {p : Nat} {G G' : List Nat} {l : List UInt8} {bad : Bool} (h : Rdr T w p G l bad) (hG : ∀ g ∈ G, g ∈ G') : Rdr T w p G' l bad := by
 obtain ⟨A, c, h1, h2, h3, h4, h5, h6⟩ := h
 exact ⟨A, c, h1, h2, h3, h4, h5, fun a e => hG _ (h6 a e)⟩
theorem Rdr.lt {T : TypeId} {w : World} {p : Nat} {G : List Nat} {l : List UInt8} {bad : Bool} (h : Rdr T w p G l bad) : p < w.heap.size := by
 obtain ⟨A, c, h1, _⟩ := h
 exact h1.lt
theorem Rdr.len {T : TypeId} {w : World} {p : Nat} {G : List Nat} {l : List UInt8} {bad : Bool} (h : Rdr T w p G l bad) : l.length ≤ 140737488355328 := by
 obtain ⟨A, c, _, _, _, h4, _⟩ := h
 exact h4
theorem rd_ne {w : World} {A : Option Addr} {l : List UInt8} {p : Nat} {T : TypeId} {cs : Array Value} (hr : Rd w A (bvs l)) (hb : Blk w p T cs) (hc : ∀ (i : Nat) (x : UInt8), cs[i]? ≠ some (bv x)) (hl : l ≠ []) {g o : Nat} (e : A = some ⟨g, o, none⟩) : g ≠ p := by
 rintro rfl
 cases l with
 | nil => exact hl rfl
 | cons x r =>
  obtain ⟨g', o', e', h⟩ := hr (by simp [bvs])
  rw [e] at e'; cases e'
  have := h 0 (bv x) (by simp [bvs])
  rw [hb.cell] at this
  exact hc _ _ this
theorem Rd.set_ {w : World} {A : Option Addr} {l : List UInt8} {p : Nat} {T : TypeId} {cs : Array Value} (hr : Rd w A (bvs l)) (hb : Blk w p T cs) (hc : ∀ (i : Nat) (x : UInt8), cs[i]? ≠ some (bv x)) (i : Nat) (v : Value) : Rd (w.setCell ⟨p, i, none⟩ v) A (bvs l) := by
 by_cases hl : l = []
 ·subst hl; exact Rd.nil _ _
 ·exact hr.keep ((Fr.refl [p] w).setCell (.inl (by simp)) v) (fun g o e => by simpa using rd_ne hr hb hc hl e)
theorem rdr_cells {A : Option Addr} {n c : Nat} {bad : Bool} : ∀ (i : Nat) (x : UInt8), (#[.slice A n c, .bool bad] : Array Value)[i]? ≠ some (bv x) := by
 intro i x
 match i with
 | 0 => simp [bv]
 | 1 => simp [bv]
 | i + 2 => simp
theorem newReader_any (A : Option Addr) (l : List UInt8) (n c : Nat) (w : World) (hn : l.length = n) (hr : Rd w A (bvs l)) (hA : A = none → n = 0) (hl : n ≤ 140737488355328) :
  Calls Tryz.prog 199 #[.slice A n c] w fun e w' => ∃ p G, e = .returned (.pointer (some ⟨p, 0, none⟩)) ∧ Rdr 248 w' p G l false ∧ Fr [] w w' ∧ w.heap.size ≤ p ∧ (∀ g ∈ G, w.heap.size ≤ g ∧ g < w'.heap.size ∧ g ≠ p) := by
 subst hn
 go_enter Tryz.func199, Tryz.ntmps199
 go_wp2_with (go_at_call 58; refine (clone_any _ _ _ _ _ rfl hr hA hl).mono ?_; rintro e w1 ⟨v, rfl, h1, h2⟩; obtain ⟨B, cap, rfl, hn, hm, hrd, hlt, -⟩ := h1.shape)
 go_ret
 refine ⟨w1.heap.size, Rd.blks B, rfl, ⟨B, cap, Blk.new _ _ _, hn, hm, hl, hrd.alloc _, fun a e => by subst e; simp [Rd.blks]⟩, h2.alloc _, h2.size, fun g hg => ?_⟩
 unfold Rd.blks at hg
 cases B with
 | none => simp at hg
 | some a =>
  simp at hg
  subst hg
  have := hlt a rfl
  have := h2.size
  exact ⟨by omega, by simp; omega, by omega⟩
theorem rLeft_any {w : World} {p : Nat} {G : List Nat} {l : List UInt8} {bad : Bool} (h : Rdr 248 w p G l bad) :
  Calls Tryz.prog 225 #[.pointer (some ⟨p, 0, none⟩)] w fun e w' => e = .returned (.int .i64 l.length) ∧ w = w' := by
 obtain ⟨A, c, h1, h2, h3, h4, h5, h6⟩ := h
 have c0 := h1.cell 0
 simp at c0
 go_enter Tryz.func225, Tryz.ntmps225
 go_wp2
 go_ret
 exact ⟨rfl, rfl⟩
def doneE (l : List UInt8) (bad : Bool) : Int := if bad || !allZ l then 90 else 0
theorem rDone_any {w : World} {p : Nat} {G : List Nat} {l : List UInt8} {bad : Bool} (h : Rdr 248 w p G l bad) :
  Calls Tryz.prog 204 #[.pointer (some ⟨p, 0, none⟩)] w fun e w' => e = .returned (.int .i64 (doneE l bad)) ∧ w = w' := by
 obtain ⟨A, c, h1, h2, h3, h4, h5, h6⟩ := h
 have c0 := h1.cell 0
 have c1 := h1.cell 1
 simp at c0 c1
 cases bad with
 | true =>
  go_enter Tryz.func204, Tryz.ntmps204
  go_wp2
  go_ret
  exact ⟨rfl, rfl⟩
 | false =>
  cases hz : allZ l with
  | true =>
   have H := Lib.hid hz
   go_enter Tryz.func204, Tryz.ntmps204
   go_wp2_with (go_at_call 226; refine (zeros_any _ _ _ _ h5 h4).mono ?_; rintro e w' ⟨rfl, rfl⟩)
   go_ret
   exact ⟨by simp [doneE, H.out], rfl⟩
  | false =>
   have H := Lib.hid hz
   go_enter Tryz.func204, Tryz.ntmps204
   go_wp2_with (go_at_call 226; refine (zeros_any _ _ _ _ h5 h4).mono ?_; rintro e w' ⟨rfl, rfl⟩)
   go_ret
   exact ⟨by simp [doneE, H.out], rfl⟩
theorem rBytes_bad {w : World} {p : Nat} {G : List Nat} {l : List UInt8} {bad : Bool} (h : Rdr 248 w p G l bad) (n : Int) (hn : bad = true ∨ n < 0 ∨ (l.length : Int) < n) :
  Calls Tryz.prog 200 #[.pointer (some ⟨p, 0, none⟩), .int .i64 n] w fun e w' => e = .returned (.slice none 0 0) ∧ Rdr 248 w' p G l true ∧ Fr [p] w w' := by
 obtain ⟨A, c, h1, h2, h3, h4, h5, h6⟩ := h
 have c0 := h1.cell 0
 have c1 := h1.cell 1
 have f1 := h1.frozen 1
 simp at c0 c1
 have fin : Rdr 248 (w.setCell ⟨p, 1, none⟩ (.bool true)) p G l true ∧ Fr [p] w (w.setCell ⟨p, 1, none⟩ (.bool true)) :=
  ⟨⟨A, c, by simpa using h1.set_ 1 (.bool true), h2, h3, h4, h5.set_ h1 rdr_cells _ _, h6⟩, (Fr.refl _ _).setCell (.inl (by simp)) _⟩
 cases bad with
 | true =>
  go_enter Tryz.func200, Tryz.ntmps200
  go_wp2
  go_ret
  exact ⟨rfl, fin⟩
 | false =>
  by_cases hn0 : n < 0
  ·go_enter Tryz.func200, Tryz.ntmps200
   go_wp2
   go_ret
   exact ⟨rfl, fin⟩
  ·have hn1 : (l.length : Int) < n := by simpa [hn0] using hn
   go_enter Tryz.func200, Tryz.ntmps200
   go_wp2
   go_ret
   exact ⟨rfl, fin⟩
theorem rdr_cut {T : TypeId} {w : World} {p : Nat} {G : List Nat} {l : List UInt8} {A : Option Addr} {c n : Nat} (h1 : Blk w p T #[.slice A l.length c, .bool false]) (h2 : l.length ≤ c) (h3 : c ≤ maxLen) (h4 : l.length ≤ 140737488355328) (h5 : Rd w A (bvs l)) (h6 : ∀ a, A = some a → a.block ∈ G) (hn : n ≤ l.length)
  (A' : Option Addr) (m c' : Nat) (hA : A' = A ∧ c = n ∨ A' = A.map (·.add n)) (hm : m = l.length - n) (hc : c' = c - n) :
  Rdr T (w.setCell ⟨p, 0, none⟩ (.slice A' m c')) p G (l.drop n) false := by
 subst hm hc
 have hl : (l.drop n).length = l.length - n := by simp
 refine ⟨A', c - n, ?_, by omega, by omega, by omega, ?_, ?_⟩
 ·rw [hl]; simpa using h1.set_ 0 (.slice A' (l.length - n) (c - n))
 ·have h7 : Rd w A' (bvs (l.drop n)) := by
   rcases hA with ⟨rfl, rfl⟩ | rfl
   ·rw [List.drop_eq_nil_of_le (by omega)]; exact Rd.nil _ _
   ·rw [bvs_drop]; exact h5.drop n
  exact h7.set_ h1 rdr_cells _ _
 ·intro a e
  rcases hA with ⟨rfl, _⟩ | rfl
  ·exact h6 a e
  ·cases A with
   | none => cases e
   | some a0 =>
    simp only [Option.map_some, Option.some.injEq] at e
    rw [← e, add_block]
    exact h6 a0 rfl
set_option maxHeartbeats 400000 in
theorem rBytes_ok {w : World} {p : Nat} {G : List Nat} {l : List UInt8} (h : Rdr 248 w p G l false) (n : Nat) (hn : n ≤ l.length) :
  Calls Tryz.prog 200 #[.pointer (some ⟨p, 0, none⟩), .int .i64 n] w fun e w' => ∃ v, e = .returned v ∧ Row w' w.heap.size 5 1 v n (bvs (l.take n)) ∧ Rdr 248 w' p G (l.drop n) false ∧ Fr [p] w w' := by
 obtain ⟨A, c, h1, h2, h3, h4, h5, h6⟩ := h
 have c0 := h1.cell 0
 have c1 := h1.cell 1
 have f1 := h1.frozen 1
 have f0 := h1.frozen 0
 simp at c0 c1
 unfold maxLen at h3
 have d0 : decide ((n : Int) < 0) = false := by simp
 have d1 : decide (l.length < n) = false := by simpa using hn
 obtain ⟨W, hW⟩ : ∃ W : World, W = w.setCell ⟨p, 1, none⟩ (.bool false) := ⟨_, rfl⟩
 have hlen : (l.take n).length = n := by rw [List.length_take]; omega
 have hrd : Rd W A (bvs (l.take n)) := by rw [hW, bvs_take]; exact (h5.set_ h1 rdr_cells 1 _).take n
 have hAn : A = none → n = 0 := fun e => by
  rcases Nat.eq_zero_or_pos n with h | h
  ·exact h
  ·obtain ⟨g, o, e', _⟩ := h5.byte (k := 0) (by omega)
   rw [e] at e'; cases e'
 have hF0 : Fr [p] w W := by rw [hW]; exact (Fr.refl _ _).setCell (.inl (by simp)) _
 have hB0 : Blk W p 248 #[.slice A l.length c, .bool false] := by rw [hW]; simpa using h1.set_ 1 (.bool false)
 have hR0 : Rd W A (bvs l) := by rw [hW]; exact h5.set_ h1 rdr_cells 1 _
 have HW := Lib.hid hW
 have HL := Lib.hid hlen
 clear hW hlen
 go_enter Tryz.func200, Tryz.ntmps200
 go_wp2_with (go_at_call 58; rw [← HW.out]; refine (clone_any _ _ _ _ _ HL.out hrd hAn (by omega)).mono ?_; rintro e w1 ⟨v, rfl, g1, g2⟩; have b1 := hB0.keep g2 (by simp); have e0 := b1.cell 0; have e1 := b1.cell 1; have e2 := b1.frozen 0; simp at e0 e1)
 all_goals
  go_ret
  refine ⟨v, rfl, ?_, ?_, ?_⟩
  ·exact (g1.mono (by have := hF0.size; omega)).keep (F := [p]) ((Fr.refl _ _).setCell (.inl (by simp)) _) (fun g hg => by have := g1.ne_blk b1 (by decide); rw [hg] at this; simpa using this)
  ·exact rdr_cut b1 h2 (by unfold maxLen; exact h3) h4 (hR0.keep_nil g2) h6 hn _ _ _ (by first | exact .inl ⟨rfl, by omega⟩ | exact .inr rfl) rfl (by omega)
  ·exact (hF0.trans_nil g2).setCell (.inl (by simp)) _
end
end Go.Proofs.YtbanogfljpkbkaaGreatDoor
