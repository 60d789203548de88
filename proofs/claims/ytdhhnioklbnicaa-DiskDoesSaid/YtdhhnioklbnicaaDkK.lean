/-
  Layer 10 (disk): the keys of a map by whole numbers, in order.
-/
import Derived.Test.YtdhhnioklbnicaaDkJ
import Derived.Test.YtdhhnioklbnicaaDkLay
set_option linter.unusedSimpArgs false
set_option linter.unusedVariables false
set_option linter.unnecessarySimpa false
namespace Go.Proofs.Ytdhhnioklbnicaa
open Go.RowKit Go.Maps Go.Sort Go.Shelf
set_option maxRecDepth 100000

theorem sortsA (m : Nat) : AnyZI.SortsIn Try.prog Try.sortedA_ren Fence.wide m :=
  ⟨fun blk off cap ss W hH hblk hsz => callsIn_wide.2 (AnyM.slices_Sort_int Try.sortA blk off cap ss W hH hblk hsz),
   fun p cap W => callsIn_wide.2 (AnyM.slices_Sort_int_none Try.sortA p cap W)⟩
/-- zs are the keys, in order. -/
def KeyL (f : Int → Option Value) (zs : List Int) : Prop := zs.Pairwise (fun x y => x < y) ∧ ∀ x, x ∈ zs ↔ (wfZ x ∧ (f x).isSome = true)
theorem keys_any (b : Nat) (w : World) : Calls Try.prog 45 #[.map (some b)] w fun e w' => e = .returned (.func (.func 66) #[] #[.pointer (some ⟨w.heap.size, 0, none⟩)]) ∧ w' = w.alloc (.cells #[.map (some b)] 73) :=
  (callsIn_wide (n := 5)).1 (AnyZI.keys_in Try.keysA Fence.wide 5 trivial rfl (some b) w)
theorem KeyL.of_perm {D : DataW Value} {w : World} {b n : Nat} {f : Int → Option Value} (hown : w.ownsMap Try.prog 3 rawV b n D) (hf : AsF D f) {ss : List Int} (hS : ss.Perm (intKeys D)) :
    KeyL f (ss.mergeSort (fun x y => decide (x ≤ y))) ∧ ss.length ≤ n := by
  have hp := List.mergeSort_perm ss (fun x y : Int => decide (x ≤ y))
  obtain ⟨es, hD, hpw, _⟩ := hown.entries keyZ
  obtain ⟨es', hD', hko⟩ := hown.keysOf
  obtain rfl : es = es' := by rw [hD] at hD'; simpa using hD'
  subst hD
  have hk : ∀ p ∈ es, ∃ x, p.1 = .int .i64 x ∧ wfZ x := fun p hp => by
    obtain ⟨v, hv⟩ := hko p hp
    obtain ⟨x, _, h1, h2⟩ := Maps.keyOf_i64 Try.underlying3 hv
    exact ⟨x, h1, h2⟩
  have hnd : (intKeys (.map es)).Nodup := by
    show (es.map fun p => Go.intOf p.1).Nodup
    refine List.pairwise_map.2 (hpw.imp_of_mem fun {p q} hp' hq' hne e => hne ?_)
    obtain ⟨a, ha, _⟩ := hk p hp'
    obtain ⟨b, hb, _⟩ := hk q hq'
    rw [ha, hb] at e ⊢
    exact congrArg _ e
  have hm : ∀ x, x ∈ intKeys (.map es) ↔ (wfZ x ∧ (f x).isSome = true) := fun x => by
    show x ∈ es.map (fun p => Go.intOf p.1) ↔ _
    rw [List.mem_map]
    constructor
    · rintro ⟨p, hp', rfl⟩
      obtain ⟨a, ha, hw⟩ := hk p hp'
      rw [ha]
      refine ⟨hw, ?_⟩
      show (f a).isSome = true
      rw [← (hf a hw).1, has_eq, List.any_eq_true]
      exact ⟨p, hp', by rw [ha]; simp [Lit.sameKey]⟩
    · rintro ⟨hw, hx⟩
      rw [← (hf x hw).1, has_eq, List.any_eq_true] at hx
      obtain ⟨p, hp', hs⟩ := hx
      obtain ⟨a, ha, _⟩ := hk p hp'
      rw [ha] at hs
      exact ⟨p, hp', by rw [ha]; simpa [Lit.sameKey, Go.intOf] using hs⟩
  refine ⟨⟨?_, fun x => ?_⟩, ?_⟩
  · have h1 : (ss.mergeSort (fun x y : Int => decide (x ≤ y))).Pairwise (fun a b => decide (a ≤ b) = true) :=
      List.pairwise_mergeSort (fun a b c h1 h2 => by simp only [decide_eq_true_eq] at *; omega) (fun a b => by simp only [Bool.or_eq_true, decide_eq_true_eq]; omega) ss
    have h2 : (ss.mergeSort (fun x y : Int => decide (x ≤ y))).Nodup := (hp.trans hS).nodup_iff.2 hnd
    exact (h1.and h2).imp fun {a b} h => by
      have := h.1
      simp only [decide_eq_true_eq] at this
      have := h.2
      omega
  · rw [(hp.trans hS).mem_iff, hm]
  · rw [hS.length_eq]
    have := hown.size_le
    show (es.map _).length ≤ n
    rw [List.length_map]
    exact this
theorem sorted_any {w : World} {b n : Nat} {f : Int → Option Value} (h : MapZ w b n f) (hn : n ≤ 4096) :
    Calls Try.prog 44 #[.func (.func 66) #[] #[.pointer (some ⟨w.heap.size, 0, none⟩)]] (w.alloc (.cells #[.map (some b)] 73)) fun e w' => ∃ (v : Value) (zs : List Int), e = .returned v ∧ KeyL f zs ∧ zs.length ≤ n ∧
      Row w' 0 3 1 v zs.length (zs.map (Value.int .i64)) ∧ Fr [] (w.alloc (.cells #[.map (some b)] 73)) w' := by
  obtain ⟨D, hown, hf⟩ := h
  have hs := hown.size_le
  have hmx : Maps.size D ≤ maxLen := by simp only [maxLen]; omega
  have hby : Maps.size D * 8 ≤ 140737488355328 := by omega
  have hbl := hown.lt
  have hseq : SeqGives Fence.wide 2 Try.prog 66 #[.pointer (some ⟨w.heap.size, 0, none⟩)] encZ (fun ss => ss.Perm (intKeys D)) (Maps.size D) (w.alloc (.cells #[.map (some b)] 73)) :=
    AnyZI.keys_gives (ρ := Try.keysA_ren) { Try.keysA with } Fence.wide _ trivial rfl (by omega) w.heap.size b n D _ (by simp) (by simp) (by
      obtain ⟨es, clock, hb, Ft, hs, hD⟩ := hown
      exact ⟨es, clock, (Below.heap_alloc _ _ b hbl).trans hb, Ft, hs, hD⟩)
  have cS := AnyZI.sorted_in Try.sortedA Fence.wide 5 trivial trivial trivial trivial rfl (by omega) (sortsA _) (enters_of Try.func65 (by kernel_rfl) rfl) 66 #[.pointer (some ⟨w.heap.size, 0, none⟩)] trivial (enters_of Try.func66 (by kernel_rfl) rfl) _ _ hmx hby _ hseq
  change CallsIn _ _ Try.prog 44 _ _ _ at cS
  refine (callsIn_wide.1 cS).mono ?_
  rintro e w' ⟨v, ss, rfl, hS, hrow, -, hb⟩
  obtain ⟨k1, k2⟩ := KeyL.of_perm hown hf hS
  have hl : (ss.mergeSort (fun x y : Int => decide (x ≤ y))).length = ss.length := (List.mergeSort_perm _ _).length_eq
  refine ⟨v, _, rfl, k1, by omega, ?_, Fr.of_below hb⟩
  rw [hl]
  exact Row.of_own (ownsRow_base_a hrow (Nat.zero_le _))
end Go.Proofs.Ytdhhnioklbnicaa
