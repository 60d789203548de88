/-
  Texts of this claim, one behind the other: RowA, RowL.
-/
import Derived.Test.YtbanogfljpkbkaaGreatDoorM1
import Derived.ProofKit
import Derived.OpenShut
import Derived.ShutString
import Derived.ChangeOld
import Derived.ChangeSlices
import Derived.SizedLaws
import Derived.Below
import Derived.Carry
import Derived.Test.YtbanogfljpkbkaaGreatDoorRows
import Derived.Test.YtbanogfljpkbkaaGreatDoorM5
import Derived.LaidMore
import Derived.Stop.Joined
set_option linter.unusedSimpArgs false
set_option linter.unusedVariables false
set_option linter.unnecessarySimpa false
namespace Go.Proofs.YtbanogfljpkbkaaGreatDoor
section
open Go.ChangeShapes Go.WideShapes Go.ChangeAt Go.RowKit
structure ArgB (W : World) (A : Option Addr) (n cap : Nat) (l : List UInt8) : Prop where
 len : l.length = n
 rd : Rd W A (bvs l)
 nil : A = none → n = 0
 le : n ≤ cap
 cap : cap ≤ maxLen
 reach : n ≤ 140737488351232
 blk : ∀ g o, A = some ⟨g, o, none⟩ → l ≠ [] → g < W.heap.size
theorem byte_of_int {z : Int} (h : (Lit.int .u8 z).wf = true) : Value.int .u8 z = bv (UInt8.ofNat z.toNat) := by
 simp [Lit.wf, IntKind.min, IntKind.max, IntKind.signed, IntKind.bits] at h
 unfold bv
 have : z.toNat < 256 := by omega
 rw [UInt8.toNat_ofNat', Nat.mod_eq_of_lt this]
 congr 1
 omega
theorem open_bytes {H : Type} {enc : TypeId × Value → H} {P : Program} {W : World} {t e : TypeId} {fuel : Nat} {cs : List Value} {x : DataW H × List MemPlace} {held : Bool}
  (ht : P.underlying t = some (.slice e)) (he : P.underlying e = some (.int .u8)) (hc : P.cellsOf e = 1) (hB : P.bytesOf e = 1)
  (h : DataW.trod enc P W 0 (fun _ => true) held fuel t cs = some x) (hw : (DataW.weights P t x.1).all (· ≤ reachBytes) = true) :
  ∃ A n cap l, cs = [.slice A n cap] ∧ ArgB W A n cap l := by
 rcases open_ints ht he hc h with ⟨rfl, rfl⟩ | ⟨a, len, cap, zs, rfl, _, hl, hm, hz, hx, hcell, hwz⟩
 ·exact ⟨none, 0, 0, [], rfl, rfl, Rd.nil _ _, fun _ => rfl, Nat.le_refl _, by unfold maxLen; omega, by omega, fun g o e => by cases e⟩
 ·simp only [if_true] at hz
  refine ⟨some a, len, cap, (zs.take len).map fun z => UInt8.ofNat z.toNat, rfl, by simp; omega, ?_, fun h => (by cases h), hl, hm, ?_, ?_⟩
  ·intro hne
   have hpos : 0 < zs.length := by
    cases zs with
    | nil => simp [bvs] at hne
    | cons z r => simp
   obtain ⟨g, o, sp⟩ := a
   have hsp : sp = none := by simpa [Addr.add] using World.cell?_spot (hcell 0 hpos)
   subst hsp
   refine ⟨g, o, rfl, fun j u hu => ?_⟩
   have hj : j < (zs.take len).length := by
    have := (List.getElem?_eq_some_iff.1 hu).1
    simpa [bvs] using this
   have hj' : j < zs.length := by rw [List.length_take] at hj; omega
   have h1 := hcell j hj'
   rw [addr_add] at h1
   rw [h1]
   have h2 : zs.getD j 0 = zs[j] := by simp [List.getD, hj']
   rw [h2, byte_of_int (hwz _ (List.getElem_mem hj'))]
   simp only [bvs, List.map_map, List.getElem?_map, List.getElem?_eq_getElem hj, Option.map_some, Function.comp, List.getElem_take] at hu
   exact hu
  ·subst hx
   have h1 : (lits (H := H) .u8 (zs.take len)).length + (lits (H := H) .u8 (zs.drop len)).length = zs.length := by
    simp [lits]
    omega
   have h2 := List.all_eq_true.1 hw (((lits (H := H) .u8 (zs.take len)).length + (lits (H := H) .u8 (zs.drop len)).length) * P.bytesOf e) (by simp [DataW.weights, ht])
   rw [h1, hB] at h2
   have : zs.length * 1 ≤ reachBytes := by simpa using h2
   unfold reachBytes at this
   omega
  ·intro g o e1 hne
   cases e1
   have hpos : 0 < zs.length := by
    cases zs with
    | nil => simp at hne
    | cons z r => simp
   have h1 := hcell 0 hpos
   exact World.block_lt_of_cell? W _ (by rw [addr_add] at h1; exact h1)
theorem weights_at {H : Type} {P : Program} {ts : List TypeId} {ds : List (DataW H)} (h : (DataW.weightsEach P ts ds).all (· ≤ reachBytes) = true) {j : Nat} {t : TypeId} {d : DataW H} (ht : ts[j]? = some t) (hd : ds[j]? = some d) :
  (DataW.weights P t d).all (· ≤ reachBytes) = true := by
 rw [List.all_eq_true] at h ⊢
 exact fun n hn => h n (DataW.weights_mem_each ht hd n hn)
theorem arg_bytes {H : Type} {enc : TypeId × Value → H} {P : Program} {W : World} {t e : TypeId} {v : Value} {d : DataW H} {ps : List MemPlace} {held : Bool} {r : Reach} {b0 : Nat}
  (ht : P.underlying t = some (.slice e)) (he : P.underlying e = some (.int .u8)) (hc : P.cellsOf e = 1) (hB : P.bytesOf e = 1)
  (hv : Value.okWide P W r b0 t v) (h : DataW.Trod enc P W 0 (fun _ => true) held t v d ps) (hw : (DataW.weights P t d).all (· ≤ reachBytes) = true) :
  ∃ A n cap l, v = .slice A n cap ∧ ArgB W A n cap l := by
 obtain ⟨a, len, cap, rfl⟩ := okWide_slice ht hv
 obtain ⟨fuel, hf⟩ := h
 obtain ⟨A, n, c, l, h1, h2⟩ := open_bytes ht he hc hB hf hw
 simp [Value.cells] at h1
 obtain ⟨rfl, rfl, rfl⟩ := h1
 exact ⟨a, len, cap, l, rfl, h2⟩
theorem wf_i64 {z : Int} (h : (Lit.int .i64 z).wf = true) : -9223372036854775808 ≤ z ∧ z ≤ 9223372036854775807 := by
 simp [Lit.wf, IntKind.min, IntKind.max, IntKind.signed, IntKind.bits] at h
 exact h
theorem wf_u8 {z : Int} (h : (Lit.int .u8 z).wf = true) : ∃ x : UInt8, z = (x.toNat : Int) := by
 simp [Lit.wf, IntKind.min, IntKind.max, IntKind.signed, IntKind.bits] at h
 refine ⟨UInt8.ofNat z.toNat, ?_⟩
 rw [UInt8.toNat_ofNat', Nat.mod_eq_of_lt (show z.toNat < 2 ^ 8 by omega)]
 omega
end
section
open Go.ChangeShapes Go.WideShapes Go.ChangeAt Go.RowKit
abbrev laidK {H : Type} : List (String × DataW H) := [("casket/sha.constants", Rows.laid_casket_sha_constants)]
theorem gConst : Tryz.prog.globalNamed "casket/sha.constants" = some 0 := by kernel_rfl
theorem tConst : (Tryz.prog.globals[0]?).map (·.type) = some 188 := by kernel_rfl
theorem laid_eq {H : Type} : (Rows.laid_casket_sha_constants : DataW H) = .agg (kC.map fun k => .lit (.int .u32 (uw k))) := by kernel_rfl
theorem door_met (os : Os) (args : Array Value) : laidMetH Tryz.prog laidK ((World.doorLaid Tryz.prog 400 os).forCall (fun _ _ => 0) ⟨#[], args, []⟩).memory :=
 laidMetH_of_parts3 (fuel := 8) (laidMet_of_run' 8 (by kernel_rfl) (by kernel_rfl)) (by kernel_rfl) (by kernel_rfl)
set_option maxRecDepth 100000 in
theorem kg_of_laid {W : World} (h : laidMetH Tryz.prog laidK W) : KG W := by
 rw [MakeChecks.laidMetH_plain _ _ _ (by kernel_rfl)] at h
 obtain ⟨ps, ⟨g0, t0, cs0, f0, p0, q0, hg0, ht0, hv0, hd0, _, _⟩, _, _⟩ := h
 obtain rfl := Option.some.inj (gConst.symm.trans hg0)
 obtain rfl := Option.some.inj (tConst.symm.trans ht0)
 obtain ⟨xs, m1, rfl, hx1, hlen, hn3, hel⟩ := DataW.trod_array Tryz.underlying188 hd0
 have c32 : Tryz.prog.cellsOf 156 = 1 := by kernel_rfl
 have c64 : Tryz.prog.cellsOf 188 = 64 := by kernel_rfl
 rw [c64] at hlen
 have hxs : xs.map (·.1) = kC.map fun k => .lit (.int .u32 (uw k)) := by
  have e := (Prod.mk.inj hx1).1
  rw [laid_eq] at e
  exact (DataW.agg.inj e).symm
 intro j u hu
 have hj : j < kC.length := by
  have := (List.getElem?_eq_some_iff.1 hu).1
  rwa [wvs_length] at this
 have hj64 : j < 64 := hj
 rw [wvs_at hj] at hu
 cases hu
 have h1 := hel j hj64
 rw [c32, Nat.mul_one] at h1
 have hl : j < cs0.toList.length := by rw [hlen]; exact hj64
 have h2 : (cs0.toList.drop j).take 1 = [cs0.toList[j]] := by rw [List.take_one, List.head?_drop, List.getElem?_eq_getElem hl]; rfl
 have hxl : j < xs.length := by rw [hn3]; exact hj64
 rw [h2, List.getElem?_eq_getElem hxl] at h1
 obtain ⟨z, e1, e2, _⟩ := DataW.trod_int Tryz.underlying156 h1
 have e3 : (xs.map (·.1))[j]? = some (.lit (.int .u32 (uw kC[j]))) := by rw [hxs, List.getElem?_map, List.getElem?_eq_getElem hj]; rfl
 rw [List.getElem?_map, List.getElem?_eq_getElem hxl, Option.map_some] at e3
 have e4 : z = uw kC[j] := by
  rw [e2] at e3
  simpa using e3
 have e5 : cs0.toList[j] = .int .u32 z := by simpa using e1
 have := World.var?_cell hg0 hv0 j
 rw [Nat.zero_add, this, ← Array.getElem?_toList, List.getElem?_eq_getElem hl, e5, e4]
 rfl
end
end Go.Proofs.YtbanogfljpkbkaaGreatDoor
