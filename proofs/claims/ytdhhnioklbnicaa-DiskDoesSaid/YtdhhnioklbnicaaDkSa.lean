/-
  DiskSure: plain laws; two disks at once.
-/
import Derived.Test.YtdhhnioklbnicaaDkN
import Derived.Test.YtdhhnioklbnicaaDkJ
import Derived.Test.YtdhhnioklbnicaaRow10
set_option linter.unusedSimpArgs false
set_option linter.unusedVariables false
set_option linter.unnecessarySimpa false
namespace Go.Proofs.Ytdhhnioklbnicaa
open Go.RowKit
set_option maxRecDepth 100000

/-- A disk that has known nothing but writes. -/
structure Fresh (n k : Nat) (D : DkM) : Prop where
  sure : D.sure = List.replicate n none
  calls : D.calls = -1
  uns : ∀ x, (D.uns x).length ≤ k
theorem Fresh.new (n : Nat) : Fresh n 0 (newD n) := ⟨rfl, rfl, fun x => Nat.le_refl _⟩
theorem Fresh.off {n k : Nat} {D : DkM} (h : Fresh n k D) : D.off = false := by rw [DkM.off, h.calls]; rfl
theorem Fresh.len {n k : Nat} {D : DkM} (h : Fresh n k D) : D.sure.length = n := by rw [h.sure, List.length_replicate]
theorem Fresh.mono {n k m : Nat} {D : DkM} (h : Fresh n k D) (hm : k ≤ m) : Fresh n m D := ⟨h.sure, h.calls, fun x => Nat.le_trans (h.uns x) hm⟩
theorem Fresh.write {n k : Nat} {D : DkM} (h : Fresh n k D) (x : Int) (b : List UInt8) : Fresh n (k + 1) (D.write x b) := by
  rw [DkM.write]
  split
  · exact h.mono (by omega)
  · rw [h.off, if_neg (by decide)]
    refine ⟨h.sure, ?_, fun y => ?_⟩
    · show (if 0 < D.calls then D.calls - 1 else D.calls) = -1
      rw [h.calls]; rfl
    · show (if y = x then D.uns x ++ [b] else D.uns y).length ≤ k + 1
      have := h.uns x
      have := h.uns y
      split
      · rw [List.length_append, List.length_singleton]; omega
      · omega
/-- Behind a flush. -/
def DkM.flOf (D : DkM) : DkM := ⟨(List.range D.sure.length).map (D.fl (fun _ => false)), fun _ => [], -1⟩
theorem DkM.flush_eq {D : DkM} (h : D.calls = -1) : D.flush = D.flOf := by
  rw [DkM.flush, DkM.off, h, if_neg (by decide)]
  show (⟨_, _, if 0 < D.calls then D.calls - 1 else D.calls⟩ : DkM) = _
  rw [h]; rfl
theorem DkM.flOf_len (D : DkM) : D.flOf.sure.length = D.sure.length := by simp [DkM.flOf]
theorem DkM.flOf_is (D : DkM) (x : Int) : D.flOf.is x = D.is x := by rw [DkM.is, DkM.is, DkM.flOf_len]
theorem DkM.unsL_nil {D : DkM} (h : ∀ x, D.uns x = []) : D.unsL = [] := by
  rw [DkM.unsL]
  simp [h]
theorem DkM.flOf_sureR (D : DkM) (x : Int) (h : D.is x = true) (ho : D.off = false) : D.flOf.sureR x = D.readR x := by
  rw [DkM.sureR, DkM.flOf_is, h, DkM.readR, h, ho]
  obtain ⟨h0, h1⟩ := DkM.is_iff.1 h
  obtain ⟨i, rfl⟩ : ∃ i : Nat, x = i := ⟨x.toNat, by omega⟩
  have hi : i < D.sure.length := by omega
  have e : (D.flOf.sure.getD i none) = D.fl (fun _ => false) i := by
    simp [DkM.flOf, List.getD_eq_getElem?_getD, hi]
  rw [if_pos rfl, Int.toNat_natCast, e, DkM.fl]
  simp only [Bool.false_eq_true, if_false, Bool.true_eq_false]
  cases hu : (D.uns i).getLast? with
  | some b => rfl
  | none =>
    rw [DkM.sureR, h]
    rfl
theorem DkM.flOf_readR (D : DkM) (x : Int) (h : D.is x = true) (ho : D.off = false) : D.flOf.readR x = D.readR x := by
  rw [← DkM.flOf_sureR D x h ho, DkM.readR, DkM.flOf_is, h]
  rfl
theorem DkM.flOf_readE (D : DkM) (x : Int) (h : D.is x = true) : D.flOf.readE x = 0 := by
  rw [DkM.readE, DkM.flOf_is, h]
  rfl
theorem DkM.readE_ok {D : DkM} {x : Int} (h : D.is x = true) (ho : D.off = false) : D.readE x = 0 := by rw [DkM.readE, h, ho]; rfl
/-- A crash that keeps nothing. -/
theorem Fresh.crash {n k : Nat} {D : DkM} (h : Fresh n k D) : D.crashE [] = 0 ∧ Fresh n 0 (D.crash []) ∧ ∀ x, (D.crash []).uns x = [] := by
  have hc : crOk D [] = true := rfl
  rw [DkM.crashE, DkM.crash, hc]
  refine ⟨rfl, ⟨?_, rfl, fun x => Nat.le_refl _⟩, fun x => rfl⟩
  show (List.range D.sure.length).map (D.cr [] fun _ => false) = _
  rw [h.len]
  apply List.ext_getElem
  · simp
  · intro i h1 h2
    rw [List.getElem_map, List.getElem_range, List.getElem_replicate]
    show D.sure.getD i none = none
    rw [h.sure]
    simp only [List.getD_eq_getElem?_getD, List.getElem?_replicate]
    split <;> rfl
theorem Fresh.readR {n k : Nat} {D : DkM} (h : Fresh n k D) (hu : ∀ x, D.uns x = []) {x : Int} (hx : D.is x = true) : D.readR x = zB512 := by
  rw [DkM.readR, hx, h.off, hu x]
  show D.sureR x = _
  rw [DkM.sureR, hx, h.sure]
  obtain ⟨h0, h1⟩ := DkM.is_iff.1 hx
  rw [h.len] at h1
  simp only [List.getD_eq_getElem?_getD, List.getElem?_replicate, if_true]
  split <;> rfl
theorem DkM.sureR_no {D : DkM} {x : Int} (h : D.is x = false) : D.sureR x = [] := by rw [DkM.sureR, h]; rfl

/-- Two disks, both made behind w. -/
def TW (w w' : World) (p : Nat) (D : DkM) (q : Nat) (E : DkM) : Prop := ∃ O1 O2, Dsk w' p O1 D ∧ Dsk w' q O2 E ∧ (∀ i ∈ O1, w.heap.size ≤ i) ∧ (∀ i ∈ O2, w.heap.size ≤ i) ∧ (∀ i ∈ O1, i ∉ O2) ∧ Fr [] w w'
section
variable {w w1 w2 : World} {p q : Nat} {D D' E E' : DkM}
theorem Dsk.no8s {w : World} {p : Nat} {O : List Nat} {D : DkM} (h : Dsk w p O D) : NoTy w O 5 := by obtain ⟨X, h⟩ := h; exact h.no8
theorem Dsk.lts {w : World} {p : Nat} {O : List Nat} {D : DkM} (h : Dsk w p O D) : ∀ i ∈ O, i < w.heap.size := by obtain ⟨X, h⟩ := h; exact h.lt
theorem TW.fr (h : TW w w1 p D q E) : Fr [] w w1 := by obtain ⟨_, _, _, _, _, _, _, f⟩ := h; exact f
theorem TW.keep (h : TW w w1 p D q E) (f : Fr [] w1 w2) : TW w w2 p D q E := by
  obtain ⟨O1, O2, h1, h2, h3, h4, h5, h6⟩ := h
  exact ⟨O1, O2, h1.keep_nil f, h2.keep_nil f, h3, h4, h5, h6.trans_nil f⟩
theorem TW.fst (h : TW w w1 p D q E) : LV w w1 p D := by
  obtain ⟨O1, O2, h1, h2, h3, h4, h5, h6⟩ := h
  exact ⟨O1, h1, h3, h6⟩
theorem TW.snd (h : TW w w1 p D q E) : LV w w1 q E := by
  obtain ⟨O1, O2, h1, h2, h3, h4, h5, h6⟩ := h
  exact ⟨O2, h2, h4, h6⟩
theorem TW.swap (h : TW w w1 p D q E) : TW w w1 q E p D := by
  obtain ⟨O1, O2, h1, h2, h3, h4, h5, h6⟩ := h
  exact ⟨O2, O1, h2, h1, h4, h3, fun i hi hm => h5 i hm hi, h6⟩
theorem TW.aft {O1 O2 : List Nat} (h1 : Dsk w1 p O1 D) (h2 : Dsk w1 q O2 E) (h3 : ∀ i ∈ O1, w.heap.size ≤ i) (h4 : ∀ i ∈ O2, w.heap.size ≤ i) (h5 : ∀ i ∈ O1, i ∉ O2) (h6 : Fr [] w w1) (ha : AftD w1 p O1 D' w2) : TW w w2 p D' q E := by
  obtain ⟨O', k1, k2, k3⟩ := ha
  refine ⟨O', O2, k1, h2.keep k3 (fun i hi hm => h5 i hm hi) h1.no8s, fun i hi => ?_, h4, fun i hi hm => ?_, h6.trans k3 (fun i hi => .inr (h3 i hi))⟩
  · rcases k2 i hi with h | h
    · exact h3 i h
    · exact Nat.le_trans h6.size h
  · rcases k2 i hi with h | h
    · exact h5 i h hm
    · have := h2.lts i hm; omega
theorem TW.flush (h : TW w w1 p D q E) : Calls Try.prog 13 #[.pointer (some ⟨p, 0, none⟩)] w1 fun e w' => e = .returned (.int .i64 D.flushE) ∧ TW w w' p D.flush q E := by
  obtain ⟨O1, O2, h1, h2, h3, h4, h5, h6⟩ := h
  exact (dkFlush_any h1).mono fun e w' ⟨he, ha⟩ => ⟨he, TW.aft h1 h2 h3 h4 h5 h6 ha⟩
theorem TW.write (h : TW w w1 p D q E) (x : Int) (A : Option Addr) (n c : Nat) (b : List UInt8) (hb : b.length = n) (rd : Rd w1 A (bvs b)) (hA : A = none → n = 0) (hl : (D.uns x).length ≤ 4398046511104) :
    Calls Try.prog 11 #[.pointer (some ⟨p, 0, none⟩), .int .i64 x, .slice A n c] w1 fun e w' => e = .returned (.int .i64 (D.writeE x n)) ∧ TW w w' p (D.write x b) q E := by
  obtain ⟨O1, O2, h1, h2, h3, h4, h5, h6⟩ := h
  exact (dkWrite_any h1 x A n c b hb rd hA hl).mono fun e w' ⟨he, ha⟩ => ⟨he, TW.aft h1 h2 h3 h4 h5 h6 ha⟩
theorem TW.crash (h : TW w w1 p D q E) (A : Option Addr) (n c : Nat) (ks : List (Int × Int)) (hk : KRd w1 A n ks) (hn : n ≤ 140737488355328) :
    Calls Try.prog 15 #[.pointer (some ⟨p, 0, none⟩), .slice A n c] w1 fun e w' => e = .returned (.int .i64 (D.crashE ks)) ∧ TW w w' p (D.crash ks) q E := by
  obtain ⟨O1, O2, h1, h2, h3, h4, h5, h6⟩ := h
  exact (dkCrash_any h1 A n c ks hk hn).mono fun e w' ⟨he, ha⟩ => ⟨he, TW.aft h1 h2 h3 h4 h5 h6 ha⟩
theorem LV.fork2 (h : LV w w1 p D) (hl : ∀ x, (D.uns x).length ≤ 4398046511104) : Calls Try.prog 17 #[.pointer (some ⟨p, 0, none⟩)] w1 fun e w' => ∃ q, e = .returned (.pointer (some ⟨q, 0, none⟩)) ∧ TW w w' p D q D := by
  obtain ⟨O, h1, h2, h3⟩ := h
  refine (dkFork_any h1 hl).mono fun e w' ⟨q, O2, he, k1, k2, k3⟩ => ⟨q, he, O, O2, h1.keep_nil k3, k1, h2, fun i hi => Nat.le_trans h3.size (k2 i hi), fun i hi hm => ?_, h3.trans_nil k3⟩
  have := k2 i hm
  have := h1.lts i hi
  omega
end
theorem KRd.nil (w : World) : KRd w none 0 [] := ⟨rfl, fun i hi => absurd hi (by simp), fun p hp => absurd hp (by simp)⟩
end Go.Proofs.Ytdhhnioklbnicaa
