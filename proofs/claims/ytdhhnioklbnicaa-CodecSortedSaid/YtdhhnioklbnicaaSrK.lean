/-
  The keys of Sorted's map, in order.
-/
import Derived.Test.YtdhhnioklbnicaaKeyL
import Derived.Test.YtdhhnioklbnicaaSrLay
set_option linter.unusedSimpArgs false
set_option linter.unusedVariables false
set_option linter.unnecessarySimpa false
namespace Go.Proofs.Ytdhhnioklbnicaa
open Go.RowKit Go.Maps Go.Sort Go.Shelf
set_option maxRecDepth 100000

theorem keysS_any (b : Nat) (w : World) : Calls Try.prog 63 #[.map (some b)] w fun e w' => e = .returned (.func (.func 74) #[] #[.pointer (some ⟨w.heap.size, 0, none⟩)]) ∧ w' = w.alloc (.cells #[.map (some b)] 92) :=
  (callsIn_wide (n := 5)).1 (AnyZI.keys_in Try.keysB Fence.wide 5 trivial rfl (some b) w)
theorem sortedS_any {w : World} {b n : Nat} {f : Int → Option Value} (h : MapZ w b n f) (hn : n ≤ 17592186044416) :
    Calls Try.prog 44 #[.func (.func 74) #[] #[.pointer (some ⟨w.heap.size, 0, none⟩)]] (w.alloc (.cells #[.map (some b)] 92)) fun e w' => ∃ (v : Value) (zs : List Int), e = .returned v ∧ KeyL f zs ∧ zs.length ≤ n ∧
      Row w' w.heap.size 3 1 v zs.length (zs.map (Value.int .i64)) ∧ Fr [] (w.alloc (.cells #[.map (some b)] 92)) w' := by
  obtain ⟨D, hown, hf⟩ := h
  have hs := hown.size_le
  have hmx : Maps.size D ≤ maxLen := by simp only [maxLen]; omega
  have hby : Maps.size D * 8 ≤ 140737488355328 := by omega
  have hbl := hown.lt
  have hseq : SeqGives Fence.wide 2 Try.prog 74 #[.pointer (some ⟨w.heap.size, 0, none⟩)] encZ (fun ss => ss.Perm (intKeys D)) (Maps.size D) (w.alloc (.cells #[.map (some b)] 92)) :=
    AnyZI.keys_gives (ρ := Try.keysB_ren) { Try.keysB with } Fence.wide _ trivial rfl (by omega) w.heap.size b n D _ (by simp) (by simp) (by
      obtain ⟨es, clock, hb, Ft, hs, hD⟩ := hown
      exact ⟨es, clock, (Below.heap_alloc _ _ b hbl).trans hb, Ft, hs, hD⟩)
  have cS := AnyZI.sorted_in Try.sortedA Fence.wide 5 trivial trivial trivial trivial rfl (by omega) (sortsA _) (enters_of Try.func65 (by kernel_rfl) rfl) 74 #[.pointer (some ⟨w.heap.size, 0, none⟩)] trivial (enters_of Try.func74 (by kernel_rfl) rfl) _ _ hmx hby _ hseq
  change CallsIn _ _ Try.prog 44 _ _ _ at cS
  refine (callsIn_wide.1 cS).mono ?_
  rintro e w' ⟨v, ss, rfl, hS, hrow, -, hb⟩
  obtain ⟨k1, k2⟩ := KeyL.of_perm hown hf hS
  have hl : (ss.mergeSort (fun x y : Int => decide (x ≤ y))).length = ss.length := (List.mergeSort_perm _ _).length_eq
  refine ⟨v, _, rfl, k1, by omega, ?_, Fr.of_below hb⟩
  rw [hl]
  exact Row.of_own (ownsRow_base_a hrow (by simp))
end Go.Proofs.Ytdhhnioklbnicaa
