/-
  SHA-256, plain laws: bytes that come in parts. No program of the seat is named here.
-/
import Derived.Test.YtlelgeigighecaaDoorShaA
set_option linter.unusedSimpArgs false
set_option linter.unusedVariables false
set_option linter.unnecessarySimpa false
namespace Go.Proofs.YtlelgeigighecaaDoor

/-- What stands behind the first n pieces does not matter to them. -/
theorem shaRun_left (s : S8) (a c : List UInt8) : ∀ n, 64 * n ≤ a.length → shaRun s (a ++ c) n = shaRun s a n
  | 0, _ => rfl
  | n + 1, h => by
    have e : ((a ++ c).drop (64 * n)).take 64 = (a.drop (64 * n)).take 64 := by
      rw [List.drop_append_of_le_length (by omega), List.take_append_of_le_length (by rw [List.length_drop]; omega)]
    show shaBlk (shaRun s (a ++ c) n) _ = shaBlk (shaRun s a n) _
    rw [shaRun_left s a c n (by omega), e]
theorem shaRun_add (s : S8) (m : List UInt8) (n : Nat) : ∀ k, shaRun s m (n + k) = shaRun (shaRun s m n) (m.drop (64 * n)) k
  | 0 => rfl
  | k + 1 => by
    show shaBlk (shaRun s m (n + k)) ((m.drop (64 * (n + k))).take 64) = shaBlk (shaRun (shaRun s m n) (m.drop (64 * n)) k) (((m.drop (64 * n)).drop (64 * k)).take 64)
    rw [shaRun_add s m n k, List.drop_drop, Nat.mul_add]
/-- More bytes come. -/
theorem sha_more (l b : List UInt8) (k : Nat) : shaRun first8 (l ++ b) (l.length / 64 + k) = shaRun (shaRun first8 l (l.length / 64)) (l.drop (64 * (l.length / 64)) ++ b) k := by
  rw [shaRun_add, shaRun_left first8 l b _ (by omega), List.drop_append_of_le_length (by omega)]
theorem more_len (l b : List UInt8) : (l ++ b).length / 64 = l.length / 64 + (l.length % 64 + b.length) / 64 := by
  rw [List.length_append]; omega
theorem more_rest (l b : List UInt8) : (l ++ b).drop (64 * ((l ++ b).length / 64)) = (l.drop (64 * (l.length / 64)) ++ b).drop (64 * ((l.length % 64 + b.length) / 64)) := by
  rw [more_len, Nat.mul_add, ← List.drop_drop, List.drop_append_of_le_length (by omega)]
theorem rest_len (l : List UInt8) : (l.drop (64 * (l.length / 64))).length = l.length % 64 := by
  rw [List.length_drop]; omega
theorem padB_length (n : Nat) : (padB n).length = 1 + (119 - n % 64) % 64 + 8 := by
  simp [padB, be8]; omega
theorem pad_whole (n : Nat) : (n + (padB n).length) % 64 = 0 := by rw [padB_length]; omega
theorem shaSum_eq (l : List UInt8) : shaSum l = (shaRun first8 (l ++ padB l.length) ((l ++ padB l.length).length / 64)).list.flatMap wordB := by
  rw [shaSum, List.length_append]
end Go.Proofs.YtlelgeigighecaaDoor
