/-
  Layer 13 (record): plain laws: what was written is parsed, whatever stands behind; fewer blocks are none; another number's are none; another last block is none.
-/
import Derived.Test.YtlelgeigighecaaDoorRecP
set_option linter.unusedSimpArgs false
set_option linter.unusedVariables false
set_option linter.unnecessarySimpa false
namespace Go.Proofs.YtlelgeigighecaaDoor
open Go.RowKit

theorem cut_at {a b c : List UInt8} {i n : Nat} (h : a.length = i) (h2 : b.length = n) : ((a ++ (b ++ c)).drop i).take n = b := by
  rw [List.drop_left' h, List.take_left' h2]
theorem getD_app (a b : List (List UInt8)) (i : Nat) (h : i < a.length) : (a ++ b).getD i [] = a.getD i [] := by
  rw [List.getD_eq_getElem?_getD, List.getElem?_append_left h, ← List.getD_eq_getElem?_getD]
theorem getD_mid (a b : List (List UInt8)) (d : List UInt8) (i : Nat) (h : a.length = i) : (a ++ d :: b).getD i [] = d := by
  rw [List.getD_eq_getElem?_getD, List.getElem?_append_right (by omega), h, Nat.sub_self]; rfl
theorem intsN_cons (l : List UInt8) (n : Nat) : intsN l (n + 1) = ((leN (l.take 4) : Nat) : Int) :: intsN (l.drop 4) n := by
  rw [intsN, List.range_succ_eq_map, List.map_cons, List.map_map, intsN]
  congr 1
  apply List.map_congr_left
  intro i _
  simp only [Function.comp, List.drop_drop]
  rw [show 4 * i.succ = 4 + 4 * i by omega]
theorem intsN_enc : ∀ (L : List Int) (r : List UInt8), (∀ x ∈ L, 0 ≤ x ∧ x < 4096) → intsN (encI L ++ r) L.length = L
  | [], r, _ => rfl
  | x :: L, r, h => by
    have hx := h x (by simp)
    rw [List.length_cons, intsN_cons, show encI (x :: L) ++ r = leB 4 x.toNat ++ (encI L ++ r) by rw [encI, List.flatMap_cons, List.append_assoc]; rfl]
    rw [List.take_left' (leB_length _ _), List.drop_left' (leB_length _ _), intsN_enc L r (fun y hy => h y (by simp [hy])), leN_leB13 4 _ (by omega)]
    congr 1
    omega
theorem planB_eq (n : Nat) (L : List Int) (t : Nat) : planB n L t = planM ++ (leB 8 n ++ (leB 2 L.length ++ (leB 8 t ++ (encI L ++ List.replicate (512 - (planR n L t).length) 0)))) := by
  rw [planB, pad512]
  conv => lhs; lhs; rw [planR]
  simp only [List.append_assoc]
theorem plV_planB {n t : Nat} {L : List Int} (h0 : n ≠ 0) (hn : n < 18446744073709551616) (hr : rightF L = true) (h64 : L.length ≤ 64) (ht : t < 2 ^ L.length) : plV (planB n L t) = some (n, L, t) := by
  have hl := planB_len n L t h64
  have hL := right_in hr
  have htt : t < 18446744073709551616 := Nat.lt_of_lt_of_le ht (Nat.le_trans (Nat.pow_le_pow_right (by omega) h64) (by decide : 2 ^ 64 ≤ 18446744073709551616))
  have eN : plN (planB n L t) = n := by
    rw [plN, planB_eq, cut_at (i := 4) (a := planM) rfl (leB_length _ _), leN_leB13 8 n (by omega)]
  have eC : plC (planB n L t) = L.length := by
    rw [plC, planB_eq, ← List.append_assoc, cut_at (by rw [List.length_append, leB_length]; rfl) (leB_length _ _), leN_leB13 2 _ (by omega)]
  have eT : plT (planB n L t) = t := by
    rw [plT, planB_eq, ← List.append_assoc, ← List.append_assoc, cut_at (by simp only [List.length_append, leB_length]; rfl) (leB_length _ _), leN_leB13 8 _ (by omega)]
  have d22 : (planB n L t).drop 22 = encI L ++ List.replicate (512 - (planR n L t).length) 0 := by
    rw [planB_eq, ← List.append_assoc, ← List.append_assoc, ← List.append_assoc, List.drop_left' (by simp only [List.length_append, leB_length]; rfl)]
  have eL : plL (planB n L t) = L := by rw [plL, eC, d22, intsN_enc L _ hL]
  rw [plV_some hl, eN, eL, eT]
  unfold plOk
  rw [eC, eT, eN, eL]
  refine ⟨h64, .inr (Nat.div_eq_of_lt ht), ?_, ?_, h0, hr⟩
  · rw [← List.drop_drop, d22, List.drop_left' (encI_len L), allZ_iff13, List.length_replicate]
  · rw [planB_eq, List.take_left' (show planM.length = 4 from rfl)]

theorem tnT_bit (bs : List (List UInt8)) : ∀ k i, i < k → decide (tnT bs k / 2 ^ i % 2 = 1) = likeB (bs.getD i [])
  | 0, i, h => absurd h (by omega)
  | k + 1, i, h => by
    have hlt := tnT_lt bs k
    have ih := tnT_bit bs k i
    simp only [← Nat.testBit_eq_decide_div_mod_eq] at ih ⊢
    rw [tnT]
    by_cases e : i = k
    · subst e
      cases hl : likeB (bs.getD i [])
      · rw [if_neg (by decide)]; exact Nat.testBit_lt_two_pow hlt
      · rw [if_pos rfl, Nat.add_comm, Nat.testBit_two_pow_add_eq, Nat.testBit_lt_two_pow hlt]; rfl
    · have hik : i < k := by omega
      split
      · rw [Nat.add_comm, Nat.testBit_two_pow_add_gt hik]; exact ih hik
      · exact ih hik
theorem turn_turn (b : List UInt8) : turnB (turnB b) = b := by
  cases b with
  | nil => rfl
  | cons x r => simp only [turnB, UInt8.xor_assoc, UInt8.xor_self, UInt8.xor_zero]
theorem trB_tnB {t i : Nat} {b : List UInt8} (h : decide (t / 2 ^ i % 2 = 1) = likeB b) : trB t i (tnB b) = b := by
  unfold trB tnB
  cases hl : likeB b
  · rw [hl] at h
    rw [if_neg (by simpa using h), if_neg (by decide)]
  · rw [hl] at h
    rw [if_pos (by simpa using h), if_pos rfl, turn_turn]

theorem blk_at {n : Nat} {rs : List (Int × List UInt8)} (x : List (List UInt8)) (i : Nat) (h : i < rs.length) : (blkL n rs ++ x).getD (1 + i) [] = tnB (rs.getD i (0, [])).2 := by
  have h1 : i < (rcD rs).length := by rw [rcD_len]; exact h
  rw [blkL, List.cons_append, Nat.add_comm, List.getD_cons_succ, getD_app _ _ _ h1]
  simp [rcD, h]
theorem blk_head {n : Nat} {rs : List (Int × List UInt8)} (h : rcOk n rs) (hn : n < 18446744073709551616) (x : List (List UInt8)) : plV ((blkL n rs ++ x).headD []) = some (n, rcP rs, rcT rs rs.length) := by
  rw [blkL, List.cons_append, List.headD_cons]
  exact plV_planB h.1 hn h.2.2.2 (by rw [rcP_len]; exact h.2.1) (by rw [rcP_len]; exact tnT_lt _ _)
theorem blk_512 {n : Nat} {rs : List (Int × List UInt8)} (h : rcOk n rs) : ∀ b ∈ blkL n rs, b.length = 512 := by
  intro b hb
  rw [blkL] at hb
  rcases List.mem_cons.1 hb with rfl | hb
  · exact planB_len _ _ _ (by rw [rcP_len]; exact h.2.1)
  · simp only [rcD, List.mem_map] at hb
    obtain ⟨r, hr, rfl⟩ := hb
    rw [tnB_len]
    exact h.2.2.1 r hr
/-- What was written is parsed, whatever stands behind. -/
theorem trV_blk {n : Nat} {rs : List (Int × List UInt8)} (h : rcOk n rs) (hn : n < 18446744073709551616) (x : List (List UInt8)) : trV n (blkL n rs ++ [doneB n (blkL n rs).flatten] ++ x) = some rs := by
  have hh : plV ((blkL n rs ++ [doneB n (blkL n rs).flatten] ++ x).headD []) = some (n, rcP rs, rcT rs rs.length) := by
    rw [List.append_assoc]; exact blk_head h hn _
  have htk : (blkL n rs ++ [doneB n (blkL n rs).flatten] ++ x).take ((rcP rs).length + 1) = blkL n rs := by
    rw [List.append_assoc, List.take_left' (by rw [blkL_len, rcP_len])]
  have hbit : ∀ i (hi : i < rs.length), decide (rcT rs rs.length / 2 ^ i % 2 = 1) = likeB (rs.getD i (0, [])).2 := fun i hi => by
    rw [rcT, tnT_bit _ _ _ hi]
    simp [hi]
  rw [trV_some hh]
  · congr 1
    rw [rcP_len]
    apply List.ext_getElem
    · simp
    · intro i h1 h2
      have e : rs.getD i (0, []) = rs[i] := by simp [h2]
      rw [List.getElem_map, List.getElem_range, trE, List.append_assoc, blk_at _ i h2, trB_tnB (hbit i h2), e]
      have : (rcP rs).getD i 0 = rs[i].1 := by simp [rcP, h2]
      rw [this]
  · refine ⟨rfl, by rw [rcP_len]; simp [blkL_len], ?_, ?_, fun i hi => ?_⟩
    · rw [htk]; exact blk_512 h
    · rw [htk, List.append_assoc, List.singleton_append, getD_mid _ _ _ _ (by rw [blkL_len, rcP_len])]
    · rw [rcP_len] at hi
      unfold trQ
      rw [List.append_assoc, blk_at _ i hi, trB_tnB (hbit i hi), hbit i hi]
/-- Another number's are none. -/
theorem trV_other {n m : Nat} {rs : List (Int × List UInt8)} (h : rcOk n rs) (hn : n < 18446744073709551616) (hm : n ≠ m) (x : List (List UInt8)) : trV m (blkL n rs ++ x) = none :=
  trV_no (blk_head h hn x) fun k => hm k.1
/-- Fewer are none. -/
theorem trV_cut {n k : Nat} {rs : List (Int × List UInt8)} (h : rcOk n rs) (hn : n < 18446744073709551616) (hk : k < rs.length + 2) (x : List (List UInt8)) : trV n ((blkL n rs ++ x).take k) = none := by
  cases k with
  | zero => rw [List.take_zero]; exact trV_none (plV_none fun h => by have := h.1; cases this)
  | succ k =>
    have hh : plV (((blkL n rs ++ x).take (k + 1)).headD []) = some (n, rcP rs, rcT rs rs.length) := by
      have := blk_head h hn x
      rw [blkL, List.cons_append] at this ⊢
      exact this
    exact trV_no hh fun j => by
      have := j.2.1
      rw [rcP_len, List.length_take] at this
      omega
/-- Another last block is none. -/
theorem trV_last {n : Nat} {rs : List (Int × List UInt8)} (h : rcOk n rs) (hn : n < 18446744073709551616) {d : List UInt8} (hd : d ≠ doneB n (blkL n rs).flatten) : trV n (blkL n rs ++ [d]) = none :=
  trV_no (blk_head h hn _) fun j => by
    have := j.2.2.2.1
    rw [rcP_len, getD_mid _ _ _ _ (blkL_len _ _), List.take_left' (blkL_len _ _)] at this
    exact hd this

theorem mark_num (n : Nat) (h : n < 18446744073709551616) : numR (markB n) = n := by
  rw [numR_512 (markB_len n), markB, pad512, markR, List.append_assoc, List.append_assoc, cut_at (i := 4) (a := markM) rfl (leB_length _ _), leN_leB13 8 n (by omega)]
theorem rmV_mark {n : Nat} (h0 : n ≠ 0) (h : n < 18446744073709551616) : rmV (markB n) = some n := by
  rw [rmV, mark_num n h, if_pos ⟨h0, rfl⟩]
end Go.Proofs.YtlelgeigighecaaDoor
