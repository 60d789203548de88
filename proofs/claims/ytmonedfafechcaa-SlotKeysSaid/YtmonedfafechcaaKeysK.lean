/-
  Plain laws for the reference's DecodeKeys: which bytes are keys.
-/
import Derived.Test.YtmonedfafechcaaKeysJ
import Derived.Laws.BitsAllLaws
set_option linter.unusedSimpArgs false
set_option linter.unusedVariables false
set_option linter.unnecessarySimpa false
namespace Go.Proofs.Ytmonedfafechcaa
open Go.RowKit

theorem i64_or_nat (a b : Nat) (ha : a < 9223372036854775808) (hb : b < 9223372036854775808) : bits .or .i64 (a : Int) (b : Int) = ((a ||| b : Nat) : Int) := by
  have hx : a ||| b < 2 ^ 63 := Nat.or_lt_two_pow (by omega) (by omega)
  show IntKind.i64.wrap ((BitVec.ofInt 64 (a : Int) ||| BitVec.ofInt 64 (b : Int)).toNat : Int) = _
  rw [BitVec.toNat_or, ofInt_u64 a (by omega), ofInt_u64 b (by omega), IntKind.wrap_i64]
  omega
theorem or_byteI (x c k : Nat) (hx : x < 256 ^ k) (hc : c < 256) (hk : k < 4) :
    bits .or .i64 (x : Int) ((256 ^ k * c : Nat) : Int) = ((x + 256 ^ k * c : Nat) : Int) := by
  have e4 : x ||| 256 ^ k * c = x + 256 ^ k * c := by
    rw [Nat.or_comm, pow256, ← Nat.two_pow_add_eq_or_of_lt (by rw [← pow256]; exact hx), Nat.add_comm]
  have h1 : 256 ^ k ≤ 256 ^ 3 := Nat.pow_le_pow_right (by omega) (by omega)
  have h3 : (256 : Nat) ^ 3 = 16777216 := by decide
  have h2 : 256 ^ k * c ≤ 256 ^ 3 * 255 := Nat.mul_le_mul h1 (by omega)
  rw [i64_or_nat x _ (by omega) (by omega), e4]

theorem or4 (b0 b1 b2 b3 : Nat) (h0 : b0 < 256) (h1 : b1 < 256) (h2 : b2 < 256) (h3 : b3 < 256) :
    bits .or .i64 (bits .or .i64 (bits .or .i64 (b0 : Int) (IntKind.i64.wrap ((b1 : Int) * 256))) (IntKind.i64.wrap ((b2 : Int) * 65536))) (IntKind.i64.wrap ((b3 : Int) * 16777216)) = ((b0 + 256 * b1 + 65536 * b2 + 16777216 * b3 : Nat) : Int) := by
  have w1 : IntKind.i64.wrap ((b1 : Int) * 256) = ((256 ^ 1 * b1 : Nat) : Int) := by rw [IntWalk.i64_in _ (by omega)]; omega
  have w2 : IntKind.i64.wrap ((b2 : Int) * 65536) = ((256 ^ 2 * b2 : Nat) : Int) := by rw [IntWalk.i64_in _ (by omega)]; omega
  have w3 : IntKind.i64.wrap ((b3 : Int) * 16777216) = ((256 ^ 3 * b3 : Nat) : Int) := by rw [IntWalk.i64_in _ (by omega)]; omega
  rw [w1, w2, w3, or_byteI b0 b1 1 (by omega) h1 (by omega), or_byteI _ b2 2 (by omega) h2 (by omega), or_byteI _ b3 3 (by omega) h3 (by omega)]
theorem leB_leN (l : List UInt8) : leB l.length (leN l) = l := by
  have key : ∀ k, k ≤ l.length → leB k (leN l) = l.take k := by
    intro k
    induction k with
    | zero => intro _; simp [leB]
    | succ k ih =>
      intro hk
      have hlt : k < l.length := by omega
      rw [leB_succ, ih (by omega), List.take_succ_eq_append_getElem hlt]
      congr 2
      have e : leN l = leN (l.take k) + 256 ^ k * (l[k].toNat + 256 * leN (l.drop (k + 1))) := by
        conv => lhs; rw [← List.take_append_drop k l, leN_append, List.length_take, Nat.min_eq_left (by omega), List.drop_eq_getElem_cons hlt]
        rfl
      have hp : 0 < 256 ^ k := Nat.pow_pos (by omega)
      have hq := leN_take_lt l k
      rw [e, Nat.add_mul_div_left _ _ hp, Nat.div_eq_of_lt hq, Nat.zero_add, Nat.add_mul_mod_self_left, Nat.mod_eq_of_lt l[k].toNat_lt]
      simp
  rw [key l.length (Nat.le_refl _), List.take_length]

theorem leN_at4 {l : List UInt8} {q : Nat} (h : q + 4 ≤ l.length) : leN ((l.drop q).take 4) = (l[q]'(by omega)).toNat + 256 * (l[q + 1]'(by omega)).toNat + 65536 * (l[q + 2]'(by omega)).toNat + 16777216 * (l[q + 3]'(by omega)).toNat := by
  rw [List.drop_eq_getElem_cons (by omega), List.drop_eq_getElem_cons (show q + 1 < l.length by omega), List.drop_eq_getElem_cons (show q + 1 + 1 < l.length by omega), List.drop_eq_getElem_cons (show q + 1 + 1 + 1 < l.length by omega)]
  simp only [List.take_succ_cons, List.take_zero, leN]
  show _ + 256 * (_ + 256 * ((l[q + 2]'(by omega)).toNat + 256 * ((l[q + 3]'(by omega)).toNat + 256 * 0))) = _
  omega
theorem encE_epOf {l : List UInt8} (h : 68 ≤ l.length) : encE (epOf l) = l.take 68 := by
  have e : (epOf l).ep.toNat = leN (l.take 4) := by simp [epOf]
  have e4 : (l.take 4).length = 4 := by rw [List.length_take]; omega
  rw [encE, e, show (epOf l).wr = (l.drop 4).take 64 from rfl]
  have e5 := leB_leN (l.take 4)
  rw [e4] at e5
  rw [e5]
  rw [show (68 : Nat) = 4 + 64 from rfl, List.take_add]
theorem encEs_epsOf {l : List UInt8} : ∀ {n : Nat}, 68 * n ≤ l.length → encEs (epsOf l n) = l.take (68 * n)
  | 0, _ => by simp [epsOf, encEs]
  | n + 1, h => by
    have h2 : encEs (epsOf l (n + 1)) = encEs (epsOf l n) ++ encE (epOf (l.drop (68 * n))) := by
      rw [epsOf_succ]; simp [encEs]
    rw [h2, encEs_epsOf (by omega), encE_epOf (by rw [List.length_drop]; omega), show 68 * (n + 1) = 68 * n + 68 from rfl, List.take_add]

theorem nK_at {l : List UInt8} (h : l.length = 512) : nK l = (l[4]'(by omega)).toNat := by
  rw [nK, List.drop_eq_getElem_cons (by omega), List.take_succ_cons, List.take_zero]
  simp [leN]
theorem keyBytes_K {l : List UInt8} (h : l.length = 512) (hn : nK l ≤ 2) :
    keyBytes (esK l) (tgK l) = markK ++ (((l.drop 4).take (33 + 68 * nK l)) ++ List.replicate (475 - 68 * nK l) 0) := by
  have e1 : (esK l).length = nK l := epsOf_length _ _
  have e3 : UInt8.ofNat (nK l) = l[4]'(by omega) := by rw [nK_at h]; simp
  have e2 : (l.drop 4).take (33 + 68 * nK l) = [l[4]'(by omega)] ++ ((l.drop 5).take (68 * nK l) ++ tgK l) := by
    rw [tgK, show 33 + 68 * nK l = (68 * nK l + 32) + 1 by omega, List.drop_eq_getElem_cons (by omega), List.take_succ_cons, List.take_add, List.drop_drop]
    rfl
  rw [keyBytes, sealB, e1, e2, esK, encEs_epsOf (by rw [List.length_drop]; omega), e3]
  simp only [List.append_assoc]
theorem keys_bytes {l : List UInt8} (h : l.length = 512) (hn : nK l ≤ 2) : keyBytes (esK l) (tgK l) = l ↔ (l.take 4 = markK ∧ allZ (l.drop (5 + 68 * nK l + 32)) = true) := by
  have e2 : l = l.take 4 ++ ((l.drop 4).take (33 + 68 * nK l) ++ l.drop (5 + 68 * nK l + 32)) := by
    conv => lhs; rw [← List.take_append_drop 4 l]
    congr 1
    conv => lhs; rw [← List.take_append_drop (33 + 68 * nK l) (l.drop 4)]
    rw [List.drop_drop]
    congr 2
    omega
  have l4 : markK.length = (l.take 4).length := by rw [List.length_take, h]; rfl
  have lz : (l.drop (5 + 68 * nK l + 32)).length = 475 - 68 * nK l := by rw [List.length_drop, h]; omega
  rw [keyBytes_K h hn]
  constructor
  · intro hh
    obtain ⟨a1, a2⟩ := List.append_inj (hh.trans e2) l4
    refine ⟨a1.symm, ?_⟩
    rw [allZ_iff, lz]
    exact ((List.append_inj a2 rfl).2).symm
  · rintro ⟨h1, h2⟩
    rw [allZ_iff, lz] at h2
    conv => rhs; rw [e2]
    rw [h1, h2]
theorem okK_eq {l : List UInt8} (h : l.length = 512) (hn : nK l ≤ 2) : okK l = (rightB (esK l) && decide (keyBytes (esK l) (tgK l) = l)) := by
  rw [Bool.eq_iff_iff]
  simp only [okK, Bool.and_eq_true, decide_eq_true_iff, keys_bytes h hn, h, hn, true_and]
  exact ⟨fun ⟨a, b, c⟩ => ⟨c, b, a⟩, fun ⟨a, b, c⟩ => ⟨c, b, a⟩⟩
theorem okK_no {l : List UInt8} (h : l.length ≠ 512 ∨ nK l = 0 ∨ 2 < nK l) : okK l = false := by
  rw [Bool.eq_false_iff]
  intro hh
  simp only [okK, Bool.and_eq_true, decide_eq_true_iff] at hh
  obtain ⟨a, b, -, -, e⟩ := hh
  rcases h with h | h | h
  · exact h a
  · rw [esK, h] at e
    simp [epsOf, rightB] at e
  · omega
theorem okK_parts {l : List UInt8} (h : okK l = true) : l.length = 512 ∧ nK l ≤ 2 ∧ rightB (esK l) = true ∧ keyBytes (esK l) (tgK l) = l := by
  have hh := h
  simp only [okK, Bool.and_eq_true, decide_eq_true_iff] at hh
  obtain ⟨a, b, c, d, e⟩ := hh
  exact ⟨a, b, e, (keys_bytes a b).2 ⟨d, c⟩⟩
/-- An epoch, its bytes written one by one. -/
theorem cell_ep {e : EpM} (k : Nat) (x : UInt8) : e.cells.toArray.setIfInBounds (1 + k) (bv x) = ({ e with wr := e.wr.set k x } : EpM).cells.toArray := by
  rw [List.setIfInBounds_toArray, show 1 + k = k + 1 by omega, EpM.cells, List.set_cons_succ, bvs_set]
  rfl
theorem ep_at {w : World} {g : Nat} {e : EpM} (h : e.ok) (hb : Blk w g 102 e.cells.toArray) (i : Nat) (hi : i < 65) : ∃ v, w.cell? ⟨g, i, none⟩ = some v := by
  rw [hb.cell, List.getElem?_toArray, List.getElem?_eq_getElem (by rw [EpM.len h]; exact hi)]
  exact ⟨_, rfl⟩
theorem ep_wr {w : World} {g : Nat} {y : Int} {q : List UInt8} {k : Nat} (hq : q.length = 64) (hk : k < 64) (hb : Blk w g 102 (⟨y, pl q k 64⟩ : EpM).cells.toArray) (x : UInt8) (hx : q[k] = x) :
    Blk (w.setCell ⟨g, 1 + k, none⟩ (bv x)) g 102 (⟨y, pl q (k + 1) 64⟩ : EpM).cells.toArray := by
  have := hb.set_ (1 + k) (bv x)
  rw [cell_ep k x] at this
  rw [← pl_set q k 64 hq hk, hx]
  exact this
/-- A tag, its bytes written one by one. -/
theorem key_at {w : World} {g : Nat} {A : Option Addr} {n c : Nat} {tg : List UInt8} (h : tg.length = 32) (hb : Blk w g 68 (keyC A n c tg).toArray) (i : Nat) (hi : i < 33) : ∃ v, w.cell? ⟨g, i, none⟩ = some v := by
  rw [hb.cell, List.getElem?_toArray, List.getElem?_eq_getElem (by rw [keyC_len _ _ _ h]; exact hi)]
  exact ⟨_, rfl⟩
theorem key_tw {w : World} {g : Nat} {A : Option Addr} {n c : Nat} {q : List UInt8} {k : Nat} (hq : q.length = 32) (hk : k < 32) (hb : Blk w g 68 (keyC A n c (pl q k 32)).toArray) (x : UInt8) (hx : q[k] = x) :
    Blk (w.setCell ⟨g, 1 + k, none⟩ (bv x)) g 68 (keyC A n c (pl q (k + 1) 32)).toArray := by
  have := hb.set_ (1 + k) (bv x)
  have e : (keyC A n c (pl q k 32)).toArray.setIfInBounds (1 + k) (bv x) = (keyC A n c (pl q (k + 1) 32)).toArray := by
    rw [List.setIfInBounds_toArray, show 1 + k = k + 1 by omega, keyC, List.set_cons_succ, bvs_set, ← hx, pl_set q k 32 hq hk]
    rfl
  rw [e] at this
  exact this
end Go.Proofs.Ytmonedfafechcaa
