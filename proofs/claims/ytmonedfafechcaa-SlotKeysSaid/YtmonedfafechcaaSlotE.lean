/-
  Contracts of layer 12: the reference's DecodeSlot.
-/
import Derived.Test.YtmonedfafechcaaSlotD
set_option linter.unusedSimpArgs false
set_option linter.unusedVariables false
set_option linter.unnecessarySimpa false
namespace Go.Proofs.Ytmonedfafechcaa
open Go.RowKit

/-- The first k of q, zeros behind: n in all. -/
def pl (q : List UInt8) (k n : Nat) : List UInt8 := q.take k ++ List.replicate (n - k) 0
theorem pl_len (q : List UInt8) (k n : Nat) (hq : q.length = n) (hk : k ≤ n) : (pl q k n).length = n := by
  rw [pl, List.length_append, List.length_take, List.length_replicate]; omega
theorem pl_zero (q : List UInt8) (n : Nat) : pl q 0 n = List.replicate n 0 := by simp [pl]
theorem pl_all (q : List UInt8) (n : Nat) (hq : q.length = n) : pl q n n = q := by
  rw [pl, Nat.sub_self, List.take_of_length_le (by omega), List.replicate_zero, List.append_nil]
theorem pl_set (q : List UInt8) (k n : Nat) (hq : q.length = n) (hk : k < n) : (pl q k n).set k q[k] = pl q (k + 1) n := by
  have hl : (q.take k).length = k := by rw [List.length_take]; omega
  rw [pl, pl, show n - k = (n - (k + 1)) + 1 by omega, List.replicate_succ, List.set_append_right _ _ (by omega), hl, Nat.sub_self, List.set_cons_zero, List.take_succ_eq_append_getElem (by omega), List.append_assoc]
  rfl

theorem allZ_iff (l : List UInt8) : allZ l = true ↔ l = List.replicate l.length 0 := by
  rw [allZ, List.all_eq_true, List.eq_replicate_iff]
  simp
theorem bvs_set (l : List UInt8) (k : Nat) (x : UInt8) : (bvs l).set k (bv x) = bvs (l.set k x) := by simp [bvs, List.map_set]

theorem cell_sa {s : SlotM} (h : s.ok) (k : Nat) (hk : k < 16) (x : UInt8) : s.cells.toArray.setIfInBounds (1 + k) (bv x) = ({ s with sa := s.sa.set k x } : SlotM).cells.toArray := by
  rw [List.setIfInBounds_toArray, show 1 + k = k + 1 by omega, SlotM.cells, List.set_cons_succ, List.set_append_left _ _ (by rw [bvs_length, h.sa]; omega), bvs_set]
  rfl
theorem cell_wr {s : SlotM} (h : s.ok) (k : Nat) (hk : k < 32) (x : UInt8) : s.cells.toArray.setIfInBounds (17 + k) (bv x) = ({ s with wr := s.wr.set k x } : SlotM).cells.toArray := by
  rw [List.setIfInBounds_toArray, show 17 + k = (16 + k) + 1 by omega, SlotM.cells, List.set_cons_succ, List.set_append_right _ _ (by rw [bvs_length, h.sa]; omega), bvs_length, h.sa, Nat.add_sub_cancel_left, List.set_append_left _ _ (by rw [bvs_length, h.wr]; omega), bvs_set]
  rfl
theorem cell_tg {s : SlotM} (h : s.ok) (k : Nat) (hk : k < 32) (x : UInt8) : s.cells.toArray.setIfInBounds (49 + k) (bv x) = ({ s with tg := s.tg.set k x } : SlotM).cells.toArray := by
  rw [List.setIfInBounds_toArray, show 49 + k = (48 + k) + 1 by omega, SlotM.cells, List.set_cons_succ, List.set_append_right _ _ (by rw [bvs_length, h.sa]; omega), bvs_length, h.sa, show 48 + k - 16 = 32 + k by omega, List.set_append_right _ _ (by rw [bvs_length, h.wr]; omega), bvs_length, h.wr, Nat.add_sub_cancel_left, bvs_set]
  rfl

theorem slot_at {w : World} {g : Nat} {s : SlotM} (h : s.ok) (hb : Blk w g 60 s.cells.toArray) (i : Nat) (hi : i < 81) : ∃ v, w.cell? ⟨g, i, none⟩ = some v := by
  rw [hb.cell, List.getElem?_toArray, List.getElem?_eq_getElem (by rw [SlotM.len h]; exact hi)]
  exact ⟨_, rfl⟩
theorem slot_sa {w : World} {g : Nat} {q a b : List UInt8} {k : Nat} (hq : q.length = 16) (ha : a.length = 32) (hb' : b.length = 32) (hk : k < 16) (hb : Blk w g 60 (⟨true, pl q k 16, a, b⟩ : SlotM).cells.toArray) (x : UInt8) (hx : q[k] = x) :
    Blk (w.setCell ⟨g, 1 + k, none⟩ (bv x)) g 60 (⟨true, pl q (k + 1) 16, a, b⟩ : SlotM).cells.toArray := by
  have := hb.set_ (1 + k) (bv x)
  rw [cell_sa ⟨pl_len q k 16 hq (by omega), ha, hb'⟩ k hk x] at this
  rw [← pl_set q k 16 hq hk, hx]
  exact this
theorem slot_wt {w : World} {g : Nat} {q p r : List UInt8} {k : Nat} (hr : r.length = 16) (hq : q.length = 32) (hp : p.length = 32) (hk : k < 32) (hb : Blk w g 60 (⟨true, r, pl q k 32, pl p k 32⟩ : SlotM).cells.toArray) (x y : UInt8) (hx : q[k] = x) (hy : p[k] = y) :
    Blk ((w.setCell ⟨g, 17 + k, none⟩ (bv x)).setCell ⟨g, 49 + k, none⟩ (bv y)) g 60 (⟨true, r, pl q (k + 1) 32, pl p (k + 1) 32⟩ : SlotM).cells.toArray := by
  have h1 := hb.set_ (17 + k) (bv x)
  rw [cell_wr ⟨hr, pl_len q k 32 hq (by omega), pl_len p k 32 hp (by omega)⟩ k hk x] at h1
  have h2 := h1.set_ (49 + k) (bv y)
  rw [cell_tg ⟨hr, by rw [List.length_set]; exact pl_len q k 32 hq (by omega), pl_len p k 32 hp (by omega)⟩ k hk y] at h2
  rw [← pl_set q k 32 hq hk, ← pl_set p k 32 hp hk, hx, hy]
  exact h2

/-- The slot that the bytes would be. -/
def sOf (l : List UInt8) : SlotM := ⟨true, (l.drop 4).take 16, (l.drop 20).take 32, (l.drop 52).take 32⟩
theorem sOf_ok {l : List UInt8} (h : l.length = 512) : (sOf l).ok := ⟨by rw [sOf, List.length_take, List.length_drop, h]; rfl, by rw [sOf, List.length_take, List.length_drop, h]; rfl, by rw [sOf, List.length_take, List.length_drop, h]; rfl⟩
theorem sOf_body {l : List UInt8} (h : l.length = 512) : (sOf l).body = markS ++ (l.drop 4).take 80 := by
  rw [SlotM.body, sOf]
  simp only [List.append_assoc]
  congr 1
  rw [show (80 : Nat) = 16 + (32 + 32) from rfl, List.take_add, List.take_add, List.drop_drop, List.drop_drop]
theorem sOf_bytes {l : List UInt8} (h : l.length = 512) : (sOf l).bytes = l ↔ (l.take 4 = markS ∧ allZ (l.drop 84) = true) := by
  have e : (sOf l).bytes = markS ++ ((l.drop 4).take 80 ++ List.replicate 428 0) := by
    rw [SlotM.bytes, if_pos (show (sOf l).act = true from rfl), sOf_body h, List.append_assoc]
  have e2 : l = l.take 4 ++ ((l.drop 4).take 80 ++ l.drop 84) := by
    conv => lhs; rw [← List.take_append_drop 4 l]
    congr 1
    conv => lhs; rw [← List.take_append_drop 80 (l.drop 4)]
    rw [List.drop_drop]
  have l4 : (l.take 4).length = markS.length := by rw [List.length_take, h]; rfl
  have l84 : (l.drop 84).length = 428 := by rw [List.length_drop, h]
  rw [e]
  constructor
  · intro hh
    have h1 : markS ++ ((l.drop 4).take 80 ++ List.replicate 428 0) = l.take 4 ++ ((l.drop 4).take 80 ++ l.drop 84) := hh.trans e2
    obtain ⟨a1, a2⟩ := List.append_inj h1 l4.symm
    refine ⟨a1.symm, ?_⟩
    rw [allZ_iff, l84]
    exact ((List.append_inj a2 rfl).2).symm
  · rintro ⟨h1, h2⟩
    rw [allZ_iff, l84] at h2
    conv => rhs; rw [e2]
    rw [h1, h2]

theorem decS_act {l : List UInt8} (h : l.length = 512) (h0 : l[0] ≠ 0) : decS l = if (sOf l).bytes = l then some (sOf l) else none := by
  have hz : allZ l = false := by
    rw [Bool.eq_false_iff]
    intro hz
    have := List.all_eq_true.1 hz l[0] (List.getElem_mem _)
    exact h0 (by simpa using this)
  simp only [decS, h, hz, if_true, Bool.false_eq_true, if_false, sOf_bytes h]
  rfl
theorem decS_not {l : List UInt8} (h : l.length = 512) (h0 : l[0] = 0) : decS l = if zeroS.bytes = l then some zeroS else none := by
  have e : zeroS.bytes = List.replicate 512 0 := by rw [SlotM.bytes, if_neg (by decide)]
  have hb : zeroS.bytes = l ↔ allZ l = true := by rw [e, allZ_iff, h]; exact eq_comm
  have hm : ¬ (l.take 4 = markS) := by
    intro hm
    have : (l.take 4)[0]? = some 83 := by rw [hm]; rfl
    rw [List.getElem?_take, if_pos (by omega), List.getElem?_eq_getElem (by omega), h0] at this
    exact absurd this (by decide)
  simp only [decS, h, if_true, hb, hm, false_and, if_false]
end Go.Proofs.Ytmonedfafechcaa
