/-
  What the listed variable (SHA-256's constants) gives the walks; the door's own heap meets the condition.
-/
import Derived.Test.YtlelgeigighecaaDoorRows
import Derived.Test.YtlelgeigighecaaDoorShaD
import Derived.ProofKit
import Derived.LaidMore
import Derived.OpenShut
import Derived.Stop.Joined
set_option linter.unusedSimpArgs false
set_option linter.unusedVariables false
set_option linter.unnecessarySimpa false
namespace Go.Proofs.YtlelgeigighecaaDoor
open Go.ChangeShapes Go.WideShapes Go.ChangeAt Go.RowKit

abbrev laidK {H : Type} : List (String × DataW H) := [("casket/sha.constants", Rows.laid_casket_sha_constants)]
theorem gConst : Tryd.prog.globalNamed "casket/sha.constants" = some 0 := by kernel_rfl
theorem tConst : (Tryd.prog.globals[0]?).map (·.type) = some 119 := by kernel_rfl
theorem laid_eq {H : Type} : (Rows.laid_casket_sha_constants : DataW H) = .agg (kC.map fun k => .lit (.int .u32 (uw k))) := by kernel_rfl

theorem door_met (os : Os) (args : Array Value) : laidMetH Tryd.prog laidK ((World.doorLaid Tryd.prog 400 os).forCall (fun _ _ => 0) ⟨#[], args, []⟩).memory :=
  laidMetH_of_parts3 (fuel := 8) (laidMet_of_run' 8 (by kernel_rfl) (by kernel_rfl)) (by kernel_rfl) (by kernel_rfl)

set_option maxRecDepth 100000 in
theorem kg_of_laid {W : World} (h : laidMetH Tryd.prog laidK W) : KG W := by
  rw [MakeChecks.laidMetH_plain _ _ _ (by kernel_rfl)] at h
  obtain ⟨ps, ⟨g0, t0, cs0, f0, p0, q0, hg0, ht0, hv0, hd0, _, _⟩, _, _⟩ := h
  obtain rfl := Option.some.inj (gConst.symm.trans hg0)
  obtain rfl := Option.some.inj (tConst.symm.trans ht0)
  obtain ⟨xs, m1, rfl, hx1, hlen, hn3, hel⟩ := DataW.trod_array Tryd.underlying119 hd0
  have c32 : Tryd.prog.cellsOf 102 = 1 := by kernel_rfl
  have c64 : Tryd.prog.cellsOf 119 = 64 := by kernel_rfl
  rw [c64] at hlen
  have hxs : xs.map (·.1) = kC.map fun k => .lit (.int .u32 (uw k)) := by
    have e := (Prod.mk.inj hx1).1
    rw [laid_eq] at e
    exact (DataW.agg.inj e).symm
  intro j u hu
  have hj : j < kC.length := by
    have := (List.getElem?_eq_some_iff.1 hu).1
    rwa [wvs_length] at this
  have hj64 : j < 64 := hj
  rw [wvs_at hj] at hu
  cases hu
  have h1 := hel j hj64
  rw [c32, Nat.mul_one] at h1
  have hl : j < cs0.toList.length := by rw [hlen]; exact hj64
  have h2 : (cs0.toList.drop j).take 1 = [cs0.toList[j]] := by rw [List.take_one, List.head?_drop, List.getElem?_eq_getElem hl]; rfl
  have hxl : j < xs.length := by rw [hn3]; exact hj64
  rw [h2, List.getElem?_eq_getElem hxl] at h1
  obtain ⟨z, e1, e2, _⟩ := DataW.trod_int Tryd.underlying102 h1
  have e3 : (xs.map (·.1))[j]? = some (.lit (.int .u32 (uw kC[j]))) := by rw [hxs, List.getElem?_map, List.getElem?_eq_getElem hj]; rfl
  rw [List.getElem?_map, List.getElem?_eq_getElem hxl, Option.map_some] at e3
  have e4 : z = uw kC[j] := by
    rw [e2] at e3
    simpa using e3
  have e5 : cs0.toList[j] = .int .u32 z := by simpa using e1
  have := World.var?_cell hg0 hv0 j
  rw [Nat.zero_add, this, ← Array.getElem?_toList, List.getElem?_eq_getElem hl, e5, e4]
  rfl
end Go.Proofs.YtlelgeigighecaaDoor
