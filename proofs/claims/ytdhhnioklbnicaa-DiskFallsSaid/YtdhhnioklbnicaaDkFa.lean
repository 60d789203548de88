/-
  DiskFalls: what each block was told; plain laws.
-/
import Derived.Test.YtdhhnioklbnicaaDkSa
set_option linter.unusedSimpArgs false
set_option linter.unusedVariables false
set_option linter.unnecessarySimpa false
namespace Go.Proofs.Ytdhhnioklbnicaa
open Go.RowKit
set_option maxRecDepth 100000

def strV (b : List UInt8) : Value := .string ⟨b.toArray⟩
theorem strV_inj {a b : List UInt8} : (strV a = strV b) ↔ a = b := by simp [strV]
theorem slStr : SlT Try.prog 29 9 1 16 (.string ByteArray.empty) := ⟨Try.underlying29, by kernel_rfl, rfl, by decide, by decide⟩
/-- The array of lists of strings. -/
structure Told (W : World) (gt : Nat) (ty : TypeId) (T : List (List (List UInt8))) (vs : List Value) : Prop where
  len : T.length = 8
  vlen : vs.length = 8
  blk : Blk W gt ty vs.toArray
  row : ∀ i (h : i < vs.length) (h' : i < T.length), Row W 0 9 1 vs[i] T[i].length (T[i].map strV)
  ne : ∀ i j (h : i < vs.length) (h' : j < vs.length) g, i ≠ j → vs[i].ownBlock = some g → vs[j].ownBlock ≠ some g
section
variable {w W W' : World} {p gt : Nat} {ty : TypeId} {D D' : DkM} {T : List (List (List UInt8))} {vs : List Value}
theorem Told.keep (h : Told W gt ty T vs) {F : List Nat} (f : Fr F W W') (hg : gt ∉ F) (hv : ∀ i (h : i < vs.length) g, vs[i].ownBlock = some g → g ∉ F) : Told W' gt ty T vs :=
  ⟨h.len, h.vlen, h.blk.keep f hg, fun i a b => (h.row i a b).keep f (hv i a), h.ne⟩
theorem Told.keep_nil (h : Told W gt ty T vs) (f : Fr [] W W') : Told W' gt ty T vs := h.keep f (by simp) (fun _ _ _ _ => by simp)
/-- The disk and what it was told, all made behind w. -/
structure FWX (w W : World) (p : Nat) (D : DkM) (gt : Nat) (ty : TypeId) (T : List (List (List UInt8))) (O : List Nat) (vs : List Value) : Prop where
  dsk : Dsk W p O D
  new : ∀ i ∈ O, w.heap.size ≤ i
  told : Told W gt ty T vs
  gO : gt ∉ O
  gnew : w.heap.size ≤ gt
  own : ∀ i (h : i < vs.length) g, vs[i].ownBlock = some g → g ∉ O ∧ w.heap.size ≤ g ∧ g ≠ gt
  fr : Fr [] w W
def FW (w W : World) (p : Nat) (D : DkM) (gt : Nat) (ty : TypeId) (T : List (List (List UInt8))) : Prop := ∃ O vs, FWX w W p D gt ty T O vs
theorem FW.keep (h : FW w W p D gt ty T) (f : Fr [] W W') : FW w W' p D gt ty T := by
  obtain ⟨O, vs, h⟩ := h
  exact ⟨O, vs, h.dsk.keep_nil f, h.new, h.told.keep_nil f, h.gO, h.gnew, h.own, h.fr.trans_nil f⟩
theorem FW.lv (h : FW w W p D gt ty T) : LV w W p D := by
  obtain ⟨O, vs, h⟩ := h
  exact ⟨O, h.dsk, h.new, h.fr⟩
theorem FW.frm (h : FW w W p D gt ty T) : Fr [] w W := h.lv.fr
theorem FWX.lts {O : List Nat} (h : FWX w W p D gt ty T O vs) : gt < W.heap.size ∧ ∀ i (h : i < vs.length) g, vs[i].ownBlock = some g → g < W.heap.size :=
  ⟨h.told.blk.lt, fun i hi g hg => ((h.told.row i hi (by rw [h.told.len, ← h.told.vlen]; exact hi)).lt g hg).2⟩
theorem FWX.aft {O : List Nat} (h : FWX w W p D gt ty T O vs) (ha : AftD W p O D' W') : FW w W' p D' gt ty T := by
  obtain ⟨O', k1, k2, k3⟩ := ha
  have hl := h.lts
  refine ⟨O', vs, k1, fun i hi => ?_, h.told.keep k3 h.gO (fun i hi g hg => (h.own i hi g hg).1), fun hm => ?_, h.gnew, fun i hi g hg => ⟨fun hm => ?_, (h.own i hi g hg).2⟩, h.fr.trans k3 (fun i hi => .inr (h.new i hi))⟩
  · rcases k2 i hi with h1 | h1
    · exact h.new i h1
    · exact Nat.le_trans h.fr.size h1
  · rcases k2 _ hm with h1 | h1
    · exact h.gO h1
    · omega
  · rcases k2 _ hm with h1 | h1
    · exact (h.own i hi g hg).1 h1
    · have := hl.2 i hi g hg; omega
theorem FW.write (h : FW w W p D gt ty T) (x : Int) (A : Option Addr) (n c : Nat) (b : List UInt8) (hb : b.length = n) (rd : Rd W A (bvs b)) (hA : A = none → n = 0) (hl : (D.uns x).length ≤ 4398046511104) :
    Calls Try.prog 11 #[.pointer (some ⟨p, 0, none⟩), .int .i64 x, .slice A n c] W fun e w' => e = .returned (.int .i64 (D.writeE x n)) ∧ FW w w' p (D.write x b) gt ty T := by
  obtain ⟨O, vs, h⟩ := h
  exact (dkWrite_any h.dsk x A n c b hb rd hA hl).mono fun e w' ⟨he, ha⟩ => ⟨he, h.aft ha⟩
theorem FW.flush (h : FW w W p D gt ty T) : Calls Try.prog 13 #[.pointer (some ⟨p, 0, none⟩)] W fun e w' => e = .returned (.int .i64 D.flushE) ∧ FW w w' p D.flush gt ty T := by
  obtain ⟨O, vs, h⟩ := h
  exact (dkFlush_any h.dsk).mono fun e w' ⟨he, ha⟩ => ⟨he, h.aft ha⟩
theorem FW.crash (h : FW w W p D gt ty T) (A : Option Addr) (n c : Nat) (ks : List (Int × Int)) (hk : KRd W A n ks) (hn : n ≤ 140737488355328) :
    Calls Try.prog 15 #[.pointer (some ⟨p, 0, none⟩), .slice A n c] W fun e w' => e = .returned (.int .i64 (D.crashE ks)) ∧ FW w w' p (D.crash ks) gt ty T := by
  obtain ⟨O, vs, h⟩ := h
  exact (dkCrash_any h.dsk A n c ks hk hn).mono fun e w' ⟨he, ha⟩ => ⟨he, h.aft ha⟩
/-- One list is another: its row was made out of the old one, or lies anew. -/
theorem FWX.put {O : List Nat} (h : FWX w W p D gt ty T O vs) {i : Nat} (hi : i < 8) {v' : Value} {L : List (List UInt8)} {W1 : World} (f1 : Fr ((vs[i]'(by rw [h.told.vlen]; exact hi)).ownBlock.toList) W W1)
    (r : Row W1 0 9 1 v' L.length (L.map strV)) (hloc : ∀ g, v'.ownBlock = some g → (vs[i]'(by rw [h.told.vlen]; exact hi)).ownBlock = some g ∨ W.heap.size ≤ g) (h8 : 9 ≠ 5) (hty : ty ≠ 5) :
    FW w (W1.setCell ⟨gt, i, none⟩ v') p D gt ty (T.set i L) ∧ W1.cell? ⟨gt, i, none⟩ = some (vs[i]'(by rw [h.told.vlen]; exact hi)) ∧ W1.frozen? ⟨gt, i, none⟩ = false := by
  have hv := h.told.vlen
  have ht := h.told.len
  have hiv : i < vs.length := by omega
  have hl := h.lts
  have hgF : gt ∉ (vs[i]'hiv).ownBlock.toList := fun hm => (h.own i hiv gt (mem_own.1 hm)).2.2 rfl
  have n8 : NoTy W (vs[i]'hiv).ownBlock.toList 5 := (h.told.row i hiv (by omega)).noTy h8
  have kb := h.told.blk.keep f1 hgF
  have f2 : Fr [gt] W1 (W1.setCell ⟨gt, i, none⟩ v') := (Fr.refl [gt] W1).setCell (.inl (by simp)) _
  have hgv : ∀ g, v'.ownBlock = some g → g ≠ gt := fun g hg => by
    rcases hloc g hg with h1 | h1
    · exact (h.own i hiv g h1).2.2
    · omega
  have hc : W1.cell? ⟨gt, i, none⟩ = some (vs[i]'hiv) := by
    have := kb.cell i
    rw [this]
    simp [hiv]
  refine ⟨⟨O, vs.set i v', ?_⟩, hc, ?_⟩
  · refine ⟨(h.dsk.keep f1 (fun j hj hm => (h.own i hiv j (mem_own.1 hm)).1 hj) n8).keep f2 (fun j hj hm => ?_) ?_, h.new, ⟨by rw [List.length_set]; exact ht, by rw [List.length_set]; exact hv, ?_, fun j a b => ?_, fun j k a b g hne => ?_⟩, h.gO, h.gnew, fun j a g => ?_, (h.fr.trans f1 (fun j hj => .inr (h.own i hiv j (mem_own.1 hj)).2.1)).setCell (.inr (by have := h.gnew; simpa using this)) _⟩
    · rw [List.mem_singleton.1 hm] at hj
      exact h.gO hj
    · intro j hj cs fz hc
      rw [List.mem_singleton.1 hj, show W1.heap[gt]? = _ from kb] at hc
      injection hc with hc
      injection hc with _ hc
      exact hty hc
    · have := kb.set_ i v'
      simpa using this
    · rw [List.length_set] at a b
      by_cases e : j = i
      · subst e
        simp only [List.getElem_set_self]
        exact r.keep f2 (fun g hg hm => hgv g hg (List.mem_singleton.1 hm))
      · rw [List.getElem_set_ne (by omega)]
        have e2 : (T.set i L)[j]'(by rw [List.length_set]; exact b) = T[j]'b := List.getElem_set_ne (by omega) _
        rw [e2]
        exact ((h.told.row j a b).keep f1 (fun g hg hm => h.told.ne j i a hiv g e hg (mem_own.1 hm))).keep f2 (fun g hg hm => (h.own j a g hg).2.2 (List.mem_singleton.1 hm))
    · rw [List.length_set] at a b
      simp only [List.getElem_set]
      split <;> split
      · omega
      · intro hg hg2
        rcases hloc g hg with h1 | h1
        · exact h.told.ne i k hiv b g (by omega) h1 hg2
        · have := hl.2 k b g hg2; omega
      · intro hg hg2
        rcases hloc g hg2 with h1 | h1
        · exact h.told.ne j i a hiv g (by omega) hg h1
        · have := hl.2 j a g hg; omega
      · exact h.told.ne j k a b g hne
    · rw [List.length_set] at a
      rw [List.getElem_set]
      split
      · intro hg
        refine ⟨fun hm => ?_, ?_, hgv g hg⟩
        · rcases hloc g hg with h1 | h1
          · exact (h.own i hiv g h1).1 hm
          · have := h.dsk.lts g hm; omega
        · rcases hloc g hg with h1 | h1
          · exact (h.own i hiv g h1).2.1
          · exact Nat.le_trans h.fr.size h1
      · exact h.own j a g
  · exact kb.frozen i
end
end Go.Proofs.Ytdhhnioklbnicaa
