/-
  CodecBack, the plain words: what is kept of the calls, what it is as bytes.
-/
import Derived.Test.YtmonedfafechcaaCodI
import Derived.Test.YtmonedfafechcaaRow09
import Derived.Deep.RegionHeld3
import Derived.Laws.Bits64b
set_option linter.unusedSimpArgs false
set_option linter.unusedVariables false
set_option linter.unnecessarySimpa false
namespace Go.Proofs.Ytmonedfafechcaa
open Go.RowKit

/-- A call that is kept. -/
def KGood (o : OpM) : Prop := (o.kind = 1 ∧ ∃ n : Nat, o.n = n ∧ wide n = true ∧ o.x < 256 ^ n) ∨ (o.kind = 2 ∧ o.m < 1000)
def kEnc (o : OpM) : List UInt8 := if o.kind = 1 then leB o.n.toNat o.x else o.l
def encA (D : List OpM) : List UInt8 := D.flatMap kEnc
def opsC (D : List OpM) : List Value := D.flatMap OpM.cells

theorem encA_append (a b : List OpM) : encA (a ++ b) = encA a ++ encA b := by simp [encA]
theorem encA_one (o : OpM) : encA [o] = kEnc o := by simp [encA]
theorem opsC_append (a b : List OpM) : opsC (a ++ b) = opsC a ++ opsC b := by simp [opsC]
theorem opsC_one (o : OpM) : opsC [o] = o.cells := by simp [opsC]
theorem cells_length (o : OpM) : o.cells.length = 4 := rfl
theorem opsC_length (D : List OpM) : (opsC D).length = D.length * 4 := by
  induction D with
  | nil => rfl
  | cons o r ih => rw [show opsC (o :: r) = o.cells ++ opsC r from rfl, List.length_append, ih, cells_length, List.length_cons]; omega
theorem opsC_at : ∀ (D : List OpM) (k j : Nat) (hk : k < D.length), j < 4 → (opsC D)[k * 4 + j]? = D[k].cells[j]?
  | [], k, j, hk, _ => by simp at hk
  | o :: r, 0, j, _, hj => by
    rw [show opsC (o :: r) = o.cells ++ opsC r from rfl, List.getElem?_append_left (by rw [cells_length]; omega)]
    simp
  | o :: r, k + 1, j, hk, hj => by
    rw [show opsC (o :: r) = o.cells ++ opsC r from rfl, List.getElem?_append_right (by rw [cells_length]; omega), cells_length]
    rw [show (k + 1) * 4 + j - 4 = k * 4 + j by omega, opsC_at r k j (by simpa using hk) hj]
    rfl
theorem take_succ_op {D : List OpM} {k : Nat} (hk : k < D.length) : encA (D.take (k + 1)) = encA (D.take k) ++ kEnc D[k] := by
  rw [List.take_succ_eq_append_getElem hk, encA_append, encA_one]
theorem encA_split {D : List OpM} {k : Nat} (hk : k < D.length) : encA (D.drop k) = kEnc D[k] ++ encA (D.drop (k + 1)) := by
  rw [List.drop_eq_getElem_cons hk]; rfl
theorem encA_take_le (D : List OpM) (k : Nat) : (encA (D.take k)).length + (encA (D.drop k)).length = (encA D).length := by
  rw [← List.length_append, ← encA_append, List.take_append_drop]

theorem leN_leB (n x : Nat) (h : x < 256 ^ n) : leN (leB n x) = x := by
  have aux : ∀ k, leN (leB k x) = x % 256 ^ k := by
    intro k
    induction k with
    | zero => simp [leB, leN, Nat.mod_one]
    | succ k ih =>
      rw [leB_succ, leN_append, ih, leB_length]
      have : x / 256 ^ k % 256 < 256 := Nat.mod_lt _ (by omega)
      rw [show leN [UInt8.ofNat (x / 256 ^ k % 256)] = x / 256 ^ k % 256 by simp [leN, UInt8.toNat_ofNat', Nat.mod_eq_of_lt this]]
      rw [Nat.pow_succ, Nat.mod_mul]
  rw [aux, Nat.mod_eq_of_lt h]

/-- The low bytes of a number. -/
theorem mask_and (x n : Nat) (hx : x < 18446744073709551616) (hn : n = 1 ∨ n = 2 ∨ n = 4) : bits .and .u64 (x : Int) ((256 ^ n - 1 : Nat) : Int) = ((x % 256 ^ n : Nat) : Int) := by
  rcases hn with rfl | rfl | rfl
  · rw [bits_and_u64_nat x _ hx (by decide), show (256 ^ 1 - 1 : Nat) = 2 ^ 8 - 1 by decide, Nat.and_two_pow_sub_one_eq_mod]
  · rw [bits_and_u64_nat x _ hx (by decide), show (256 ^ 2 - 1 : Nat) = 2 ^ 16 - 1 by decide, Nat.and_two_pow_sub_one_eq_mod]
  · rw [bits_and_u64_nat x _ hx (by decide), show (256 ^ 4 - 1 : Nat) = 2 ^ 32 - 1 by decide, Nat.and_two_pow_sub_one_eq_mod]

/-- Two rows of different element types never meet. -/
theorem Row.ne_row {w : World} {b1 b2 : Nat} {e1 e2 : TypeId} {s1 s2 : Nat} {v1 v2 : Value} {n1 n2 : Nat} {x1 x2 : List Value} (h1 : Row w b1 e1 s1 v1 n1 x1) (h2 : Row w b2 e2 s2 v2 n2 x2) (hne : e1 ≠ e2) : ∀ g, v1.ownBlock = some g → v2.ownBlock ≠ some g := by
  intro g hg hg2
  rcases h1.2 with ⟨rfl, _⟩ | ⟨g1, c1, u1, z1, rfl, _, k1, _⟩
  · cases hg
  · rcases h2.2 with ⟨rfl, _⟩ | ⟨g2, c2, u2, z2, rfl, _, k2, _⟩
    · cases hg2
    · have a1 : g1 = g := by simpa [Value.ownBlock] using hg
      have a2 : g2 = g := by simpa [Value.ownBlock] using hg2
      subst a1 a2
      rw [k1] at k2
      injection k2 with k2
      injection k2 with _ k2
      exact hne k2

theorem slOp : SlT Try.prog 34 36 4 48 (.agg #[.int .i64 0, .int .i64 0, .int .u64 0, .slice none 0 0]) := ⟨Try.underlying34, by kernel_rfl, rfl, by decide, by decide⟩
theorem cells_one (o : OpM) : ∀ u ∈ o.cells, u.oneCell' = true := by
  intro u hu
  simp [OpM.cells] at hu
  rcases hu with rfl | rfl | rfl | rfl <;> rfl
end Go.Proofs.Ytmonedfafechcaa
