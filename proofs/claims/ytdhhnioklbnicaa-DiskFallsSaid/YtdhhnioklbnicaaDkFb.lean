/-
  DiskFalls: what a crash leaves.
-/
import Derived.Test.YtdhhnioklbnicaaDkFa
set_option linter.unusedSimpArgs false
set_option linter.unusedVariables false
set_option linter.unnecessarySimpa false
namespace Go.Proofs.Ytdhhnioklbnicaa
open Go.RowKit
set_option maxRecDepth 100000

theorem kfD_le {D : DkM} {ks : List (Int × Int)} (h : crOk D ks = true) {x z : Int} (hz : kfD ks ks.length x = some z) : z ≤ (D.uns x).length := by
  unfold kfD at hz
  rw [List.take_length] at hz
  obtain ⟨p, hp, rfl⟩ := Option.map_eq_some_iff.1 hz
  have h1 := List.mem_of_find?_eq_some hp
  have h2 := List.find?_some hp
  obtain ⟨i, hi, e⟩ := List.getElem_of_mem h1
  have h3 := crOk_iff.1 h i hi
  unfold okOne at h3
  have e2 : ks.getD i (0, 0) = p := by rw [List.getD_eq_getElem?_getD, List.getElem?_eq_getElem hi, e]; rfl
  rw [e2] at h3
  simp only [Bool.and_eq_true, decide_eq_true_eq] at h3
  have e3 : p.1 = x := by simpa using h2
  rw [← e3]
  exact h3.2.2.2
/-- Behind the crash of DiskFalls. -/
structure FinD (D D' : DkM) (fl : Bool) : Prop where
  len : D'.sure.length = 8
  calls : D'.calls = -1
  uns : ∀ x, D'.uns x = []
  mem : ∀ i : Nat, i < 8 → D'.sureR i ∈ zB512 :: D.uns i
  last : fl = true → ∀ i : Nat, i < 8 → (zB512 :: D.uns i).getLast? = some (D'.sureR i)
theorem DkM.sureR_at {D : DkM} {i : Nat} (h : i < D.sure.length) : D.sureR i = (D.sure.getD i none).getD zB512 := by
  rw [DkM.sureR, DkM.is_iff.2 ⟨by omega, by omega⟩, if_pos rfl, Int.toNat_natCast]
theorem crDone_at (D : DkM) (ks : List (Int × Int)) {i : Nat} (h : i < D.sure.length) : (D.crDone ks).sure.getD i none = D.cr ks (fun _ => false) i := by
  simp [DkM.crDone, DkM.crL, List.getD_eq_getElem?_getD, h]
theorem crDone_len (D : DkM) (ks : List (Int × Int)) : (D.crDone ks).sure.length = D.sure.length := DkM.crL_len D ks _
theorem FinD.of_ok {k : Nat} {D : DkM} (h : Fresh 8 k D) {ks : List (Int × Int)} (hk : crOk D ks = true) : FinD D (D.crDone ks) false := by
  refine ⟨by rw [crDone_len, h.len], rfl, fun x => rfl, fun i hi => ?_, fun h => by cases h⟩
  have hi' : i < D.sure.length := by rw [h.len]; exact hi
  have hsu : D.sure.getD i none = none := by
    rw [h.sure]
    simp only [List.getD_eq_getElem?_getD, List.getElem?_replicate]
    split <;> rfl
  rw [DkM.sureR_at (by rw [crDone_len]; exact hi'), crDone_at D ks hi', DkM.cr]
  simp only [Bool.false_eq_true, if_false]
  cases hz : kfD ks ks.length (i : Int) with
  | none =>
    dsimp only
    rw [hsu]; exact List.mem_cons_self
  | some z =>
    dsimp only
    have hle := kfD_le hk hz
    split
    · rename_i h0
      have hlt : z.toNat - 1 < (D.uns i).length := by omega
      rw [List.getD_eq_getElem?_getD, List.getElem?_eq_getElem hlt]
      exact List.mem_cons_of_mem _ (List.getElem_mem hlt)
    · rw [hsu]; exact List.mem_cons_self
theorem last_cons (L : List (List UInt8)) (z : List UInt8) : (z :: L).getLast? = some (match L.getLast? with | some b => b | none => z) := by
  cases L with
  | nil => rfl
  | cons x r =>
    rw [List.getLast?_cons_cons]
    cases h : (x :: r).getLast? with
    | none => rw [List.getLast?_eq_none_iff] at h; cases h
    | some b => rfl
theorem FinD.of_flush {k : Nat} {D : DkM} (h : Fresh 8 k D) {ks : List (Int × Int)} (hk : crOk D.flOf ks = true) (fl : Bool) : FinD D (D.flOf.crDone ks) fl := by
  have key : ∀ i : Nat, i < 8 → (zB512 :: D.uns i).getLast? = some ((D.flOf.crDone ks).sureR i) := fun i hi => by
    have hi' : i < D.sure.length := by rw [h.len]; exact hi
    have hx : D.is i = true := DkM.is_iff.2 ⟨by omega, by omega⟩
    have hl : i < D.flOf.sure.length := by rw [DkM.flOf_len]; exact hi'
    have e : D.flOf.cr ks (fun _ => false) i = D.flOf.sure.getD i none := by
      rw [DkM.cr]
      simp only [Bool.false_eq_true, if_false]
      cases hz : kfD ks ks.length (i : Int) with
      | none => rfl
      | some z =>
        have hle := kfD_le hk hz
        have : (D.flOf.uns i).length = 0 := rfl
        dsimp only
        rw [if_neg (by omega)]
    rw [DkM.sureR_at (by rw [crDone_len]; exact hl), crDone_at _ ks hl, e, ← DkM.sureR_at hl, D.flOf_sureR i hx h.off, last_cons, DkM.readR, hx, h.off]
    simp only [Bool.false_eq_true, if_false, Bool.true_eq_false]
    have hs : D.sureR i = zB512 := by
      rw [DkM.sureR_at hi', h.sure]
      simp only [List.getD_eq_getElem?_getD, List.getElem?_replicate]
      split <;> rfl
    rw [hs]
    cases (D.uns i).getLast? <;> rfl
  exact ⟨by rw [crDone_len, DkM.flOf_len, h.len], rfl, fun x => rfl, fun i hi => List.mem_of_getLast? (key i hi), fun _ => key⟩
theorem crOk_nil (D : DkM) : crOk D [] = true := rfl
/-- What the disk is behind the two tries. -/
theorem fin_of {k : Nat} {D : DkM} (h : Fresh 8 k D) (fl : Bool) (D1 : DkM) (h1 : D1 = if fl then D.flOf else D) (ks : List (Int × Int)) : (D1.crashE ks = 0 → FinD D (D1.crash ks) fl) ∧ (D1.crashE ks ≠ 0 → D1.crash ks = D1 ∧ D1.crashE [] = 0 ∧ FinD D (D1.crash []) fl) := by
  have key : ∀ l, crOk D1 l = true → D1.crashE l = 0 ∧ FinD D (D1.crash l) fl := fun l hl => by
    rw [DkM.crashE, DkM.crash, hl]
    refine ⟨rfl, ?_⟩
    rw [if_pos rfl]
    subst h1
    cases fl
    · exact FinD.of_ok h hl
    · exact FinD.of_flush h hl true
  refine ⟨fun he => ?_, fun he => ?_⟩
  · cases hc : crOk D1 ks
    · rw [DkM.crashE, hc] at he; cases he
    · exact (key ks hc).2
  · cases hc : crOk D1 ks
    · refine ⟨by rw [DkM.crash, hc]; rfl, key [] (crOk_nil D1)⟩
    · exact absurd (key ks hc).1 he
theorem FinD.is {D D' : DkM} {fl : Bool} (h : FinD D D' fl) {i : Nat} (hi : i < 8) : D'.is i = true := DkM.is_iff.2 ⟨by omega, by rw [h.len]; omega⟩
theorem FinD.readE {D D' : DkM} {fl : Bool} (h : FinD D D' fl) {i : Nat} (hi : i < 8) : D'.readE i = 0 := by rw [DkM.readE, h.is hi, DkM.off, h.calls]; rfl
theorem FinD.readR {D D' : DkM} {fl : Bool} (h : FinD D D' fl) {i : Nat} (hi : i < 8) : D'.readR i = D'.sureR i := by
  rw [DkM.readR, h.is hi, DkM.off, h.calls, h.uns]; rfl

def tK (k : Nat) : List (List (List UInt8)) := (List.range 8).map fun i => if i < k then [zB512] else []
def tOf (D : DkM) : List (List (List UInt8)) := (List.range 8).map fun i : Nat => zB512 :: D.uns (i : Int)
theorem tK_succ {k : Nat} (h : k < 8) : tK (k + 1) = (tK k).set k [zB512] := by
  apply List.ext_getElem
  · simp [tK]
  · intro i h1 h2
    rw [List.getElem_set]
    simp only [tK, List.getElem_map, List.getElem_range]
    by_cases e : k = i
    · subst e; simp
    · rw [if_neg e]
      by_cases h : i < k
      · rw [if_pos (by omega), if_pos h]
      · rw [if_neg (by omega), if_neg h]
theorem tK_8 : tK 8 = tOf (newD 8) := rfl
theorem tK_get {k i : Nat} (h : i < 8) : (tK k)[i]? = some (if i < k then [zB512] else []) := by simp [tK, h]
theorem tOf_get (D : DkM) {i : Nat} (h : i < 8) : (tOf D)[i]? = some (zB512 :: D.uns i) := by simp [tOf, h]
theorem tOf_write {k : Nat} {D : DkM} (hD : Fresh 8 k D) {x : Int} {b : List UInt8} (he : D.writeE x b.length = 0) : ∃ i : Nat, x = i ∧ i < 8 ∧ tOf (D.write x b) = (tOf D).set i (zB512 :: (D.uns i ++ [b])) := by
  have hm : D.mayE x b.length = 0 := by
    rw [DkM.writeE] at he
    split at he
    · exact he
    · rename_i h; simpa using h
  obtain ⟨hx, -⟩ := DkM.may0 hm
  obtain ⟨h0, h1⟩ := DkM.is_iff.1 hx
  rw [hD.len] at h1
  obtain ⟨i, rfl⟩ : ∃ i : Nat, x = i := ⟨x.toNat, by omega⟩
  refine ⟨i, rfl, by omega, ?_⟩
  rw [DkM.write, hm, hD.off]
  simp only [ne_eq, not_true_eq_false, if_false, Bool.false_eq_true]
  apply List.ext_getElem
  · simp [tOf]
  · intro j h2 h3
    rw [List.getElem_set]
    simp only [tOf, List.getElem_map, List.getElem_range]
    show zB512 :: (if (j : Int) = i then D.uns i ++ [b] else D.uns j) = _
    by_cases e : i = j
    · subst e; simp
    · rw [if_neg (by omega), if_neg e]
theorem tOf_same {D : DkM} {x : Int} {b : List UInt8} (he : D.writeE x b.length ≠ 0) : D.write x b = D := by
  rw [DkM.writeE] at he
  rw [DkM.write]
  split at he
  · rename_i h; rw [if_pos h]
  · rename_i h
    rw [if_neg h]
    split at he
    · rename_i h2; rw [if_pos h2]
    · exact absurd rfl he
end Go.Proofs.Ytdhhnioklbnicaa
