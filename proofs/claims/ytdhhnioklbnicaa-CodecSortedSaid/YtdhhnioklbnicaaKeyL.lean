/-
  The keys of a map by whole numbers, in order: plain words, and the laid contracts of slices.Sort.
-/
import Derived.Test.YtdhhnioklbnicaaMapZ
import Derived.Test.YtdhhnioklbnicaaDkLay
set_option linter.unusedSimpArgs false
set_option linter.unusedVariables false
set_option linter.unnecessarySimpa false
namespace Go.Proofs.Ytdhhnioklbnicaa
open Go.RowKit Go.Maps Go.Sort Go.Shelf
set_option maxRecDepth 100000

theorem sortsA (m : Nat) : AnyZI.SortsIn Try.prog Try.sortedA_ren Fence.wide m :=
  ⟨fun blk off cap ss W hH hblk hsz => callsIn_wide.2 (AnyM.slices_Sort_int Try.sortA blk off cap ss W hH hblk hsz),
   fun p cap W => callsIn_wide.2 (AnyM.slices_Sort_int_none Try.sortA p cap W)⟩
/-- zs are the keys, in order. -/
def KeyL (f : Int → Option Value) (zs : List Int) : Prop := zs.Pairwise (fun x y => x < y) ∧ ∀ x, x ∈ zs ↔ (wfZ x ∧ (f x).isSome = true)
theorem KeyL.of_perm {D : DataW Value} {w : World} {b n : Nat} {f : Int → Option Value} (hown : w.ownsMap Try.prog 3 rawV b n D) (hf : AsF D f) {ss : List Int} (hS : ss.Perm (intKeys D)) :
    KeyL f (ss.mergeSort (fun x y => decide (x ≤ y))) ∧ ss.length ≤ n := by
  have hp := List.mergeSort_perm ss (fun x y : Int => decide (x ≤ y))
  obtain ⟨es, hD, hpw, _⟩ := hown.entries keyZ
  obtain ⟨es', hD', hko⟩ := hown.keysOf
  obtain rfl : es = es' := by rw [hD] at hD'; simpa using hD'
  subst hD
  have hk : ∀ p ∈ es, ∃ x, p.1 = .int .i64 x ∧ wfZ x := fun p hp => by
    obtain ⟨v, hv⟩ := hko p hp
    obtain ⟨x, _, h1, h2⟩ := Maps.keyOf_i64 Try.underlying3 hv
    exact ⟨x, h1, h2⟩
  have hnd : (intKeys (.map es)).Nodup := by
    show (es.map fun p => Go.intOf p.1).Nodup
    refine List.pairwise_map.2 (hpw.imp_of_mem fun {p q} hp' hq' hne e => hne ?_)
    obtain ⟨a, ha, _⟩ := hk p hp'
    obtain ⟨b, hb, _⟩ := hk q hq'
    rw [ha, hb] at e ⊢
    exact congrArg _ e
  have hm : ∀ x, x ∈ intKeys (.map es) ↔ (wfZ x ∧ (f x).isSome = true) := fun x => by
    show x ∈ es.map (fun p => Go.intOf p.1) ↔ _
    rw [List.mem_map]
    constructor
    · rintro ⟨p, hp', rfl⟩
      obtain ⟨a, ha, hw⟩ := hk p hp'
      rw [ha]
      refine ⟨hw, ?_⟩
      show (f a).isSome = true
      rw [← (hf a hw).1, has_eq, List.any_eq_true]
      exact ⟨p, hp', by rw [ha]; simp [Lit.sameKey]⟩
    · rintro ⟨hw, hx⟩
      rw [← (hf x hw).1, has_eq, List.any_eq_true] at hx
      obtain ⟨p, hp', hs⟩ := hx
      obtain ⟨a, ha, _⟩ := hk p hp'
      rw [ha] at hs
      exact ⟨p, hp', by rw [ha]; simpa [Lit.sameKey, Go.intOf] using hs⟩
  refine ⟨⟨?_, fun x => ?_⟩, ?_⟩
  · have h1 : (ss.mergeSort (fun x y : Int => decide (x ≤ y))).Pairwise (fun a b => decide (a ≤ b) = true) :=
      List.pairwise_mergeSort (fun a b c h1 h2 => by simp only [decide_eq_true_eq] at *; omega) (fun a b => by simp only [Bool.or_eq_true, decide_eq_true_eq]; omega) ss
    have h2 : (ss.mergeSort (fun x y : Int => decide (x ≤ y))).Nodup := (hp.trans hS).nodup_iff.2 hnd
    exact (h1.and h2).imp fun {a b} h => by
      have := h.1
      simp only [decide_eq_true_eq] at this
      have := h.2
      omega
  · rw [(hp.trans hS).mem_iff, hm]
  · rw [hS.length_eq]
    have := hown.size_le
    show (es.map _).length ≤ n
    rw [List.length_map]
    exact this
theorem KeyL.uniq {f : Int → Option Value} {a b : List Int} (ha : KeyL f a) (hb : KeyL f b) : a = b := by
  have hm : ∀ x, x ∈ a ↔ x ∈ b := fun x => (ha.2 x).trans (hb.2 x).symm
  have na : a.Nodup := ha.1.imp fun {x y} h => by omega
  have nb : b.Nodup := hb.1.imp fun {x y} h => by omega
  have hp : a.Perm b := (List.perm_ext_iff_of_nodup na nb).2 hm
  exact hp.eq_of_pairwise (le := fun x y => x < y) (fun x y _ _ h1 h2 => by omega) ha.1 hb.1
end Go.Proofs.Ytdhhnioklbnicaa
