/-
  What s[:k] and s[k:] yield, for a drawn region.
-/
import Derived.Test.YtdhhnioklbnicaaRegT
import Derived.Laws.Slices
set_option linter.unusedSimpArgs false
set_option linter.unusedVariables false
set_option linter.unnecessarySimpa false
namespace Go.Proofs.Ytdhhnioklbnicaa
open Go.RowKit
section
variable {P : Program} {o : Oper} {a : Act} {w : World} {t e : TypeId} {s : Nat} {x y : Operand} {A : Option Addr} {len cap : Nat}
theorem map_add0 (A : Option Addr) : A.map (·.add 0) = A := by
  cases A with
  | none => rfl
  | some a => obtain ⟨g, o, p⟩ := a; rfl
theorem hy_sliceH (ht : P.underlying t = some (.slice (P.elem t))) (hs : (P.info? (P.elem t)).map (·.size) = some s) (ho : o.op = .slice t x none (some y) none) (hx : a.eval x = .slice A len cap) (k : Nat) (hy : a.eval y = .int .i64 (k : Int)) (hk : k ≤ cap) :
    (execOp a.eval o).run P w = .ok (.value (.slice A k cap)) w := by
  obtain ⟨i, hi, hsi⟩ := Option.map_eq_some_iff.1 hs
  have h0 : (0 : Int) ≤ (k : Int) := by omega
  have h1 : (k : Int) ≤ (cap : Int) := by omega
  have e1 : (Instr.sliceAt t (.slice A len cap) none (some (.int .i64 (k : Int))) none).run P w = .ok (.slice A k cap) w := by
    rw [run_sliceAt_slice (t := t) (h := ht), run_slice_h (t := t) (ht := ht) (h := (k : Int)) (h0 := h0) (h2 := h1)]
    simp [sizeOf, typeInfo, hi, hsi, sliced, Result.andThen, map_add0]
  simp [execOp, ho, hx, hy, e1, Result.andThen]
theorem hy_sliceL (ht : P.underlying t = some (.slice (P.elem t))) (hs : (P.info? (P.elem t)).map (·.size) = some s) (ho : o.op = .slice t x (some y) none none) (hx : a.eval x = .slice A len cap) (k : Nat) (hy : a.eval y = .int .i64 (k : Int)) (hk : k ≤ len) :
    (execOp a.eval o).run P w = .ok (.value (.slice (if cap = k then A else A.map (·.add (k * s))) (len - k) (cap - k))) w := by
  obtain ⟨i, hi, hsi⟩ := Option.map_eq_some_iff.1 hs
  have h0 : (0 : Int) ≤ (k : Int) := by omega
  have h1 : (k : Int) ≤ (len : Int) := by omega
  have e1 : (Instr.sliceAt t (.slice A len cap) (some (.int .i64 (k : Int))) none none).run P w = .ok (.slice (if cap = k then A else A.map (·.add (k * s))) (len - k) (cap - k)) w := by
    rw [run_sliceAt_slice (t := t) (h := ht), run_slice_l (t := t) (ht := ht) (l := (k : Int)) (h0 := h0) (h1 := h1)]
    simp [sizeOf, typeInfo, hi, hsi, sliced, Result.andThen]
  simp [execOp, ho, hx, hy, e1, Result.andThen]
end
end Go.Proofs.Ytdhhnioklbnicaa
