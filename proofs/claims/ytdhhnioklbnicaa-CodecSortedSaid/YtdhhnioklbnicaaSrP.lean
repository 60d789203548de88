/-
  Sorted and its reference: the plain law.
-/
import Derived.Test.YtdhhnioklbnicaaSrB
import Derived.Test.YtdhhnioklbnicaaSrO
set_option linter.unusedSimpArgs false
set_option linter.unusedVariables false
set_option linter.unnecessarySimpa false
namespace Go.Proofs.Ytdhhnioklbnicaa
open Go.RowKit

/-- The map f, and the pairs L: the same. -/
structure RelS (f : Int → Option Value) (L : List PairB) : Prop where
  srt : L.Pairwise fun a b => a.1 < b.1
  wf : ∀ p ∈ L, wfZ p.1
  eq : ∀ x, f x = (getL L x).map Value.string
theorem getL_some {L : List PairB} {x : Int} {t : ByteArray} (h : getL L x = some t) : (x, t) ∈ L := by
  obtain ⟨p, hp, rfl⟩ := Option.map_eq_some_iff.1 h
  have h1 := List.mem_of_find?_eq_some hp
  have h2 : p.1 = x := by simpa using List.find?_some hp
  rw [← h2]; exact h1
theorem getL_mem {L : List PairB} (hs : L.Pairwise fun a b => a.1 < b.1) {p : PairB} (h : p ∈ L) : getL L p.1 = some p.2 := by
  induction L with
  | nil => cases h
  | cons r l ih =>
    obtain ⟨h1, h2⟩ := List.pairwise_cons.1 hs
    rcases List.mem_cons.1 h with rfl | h
    · simp [getL]
    · have : ¬ r.1 = p.1 := by have := h1 p h; omega
      rw [getL, List.find?_cons_of_neg (by simpa using this)]
      exact ih h2 h
theorem getL_none {L : List PairB} {x : Int} : getL L x = none ↔ ∀ p ∈ L, p.1 ≠ x := by
  rw [getL, Option.map_eq_none_iff, List.find?_eq_none]
  simp
theorem mem_tw {α : Type} {p : α → Bool} {l : List α} {x : α} (h : x ∈ l.takeWhile p) : p x = true := by
  induction l with
  | nil => cases h
  | cons a r ih =>
    rw [List.takeWhile_cons] at h
    split at h
    · rcases List.mem_cons.1 h with rfl | h
      · assumption
      · exact ih h
    · cases h
theorem RelS.nil : RelS (fun _ => none) [] := ⟨List.Pairwise.nil, fun p h => (by cases h), fun x => rfl⟩
theorem RelS.keys {f : Int → Option Value} {L : List PairB} (h : RelS f L) : KeyL f (L.map (·.1)) := by
  refine ⟨List.pairwise_map.2 h.srt, fun x => ?_⟩
  rw [List.mem_map, h.eq]
  constructor
  · rintro ⟨p, hp, rfl⟩
    exact ⟨h.wf p hp, by rw [getL_mem h.srt hp]; rfl⟩
  · rintro ⟨_, hx⟩
    cases hg : getL L x with
    | none => rw [hg] at hx; cases hx
    | some t => exact ⟨_, getL_some hg, rfl⟩
theorem delL_sub (L : List PairB) (n : Int) : (delL L n).Sublist L := List.eraseP_sublist
theorem mem_delL {L : List PairB} (hs : L.Pairwise fun a b => a.1 < b.1) {n : Int} {p : PairB} : p ∈ delL L n ↔ p ∈ L ∧ p.1 ≠ n := by
  induction L with
  | nil => simp [delL]
  | cons r l ih =>
    obtain ⟨h1, h2⟩ := List.pairwise_cons.1 hs
    by_cases e : r.1 = n
    · have : delL (r :: l) n = l := by simp [delL, e]
      rw [this]
      constructor
      · intro hp
        exact ⟨List.mem_cons_of_mem _ hp, by have := h1 p hp; omega⟩
      · rintro ⟨hp, hne⟩
        rcases List.mem_cons.1 hp with rfl | hp
        · exact absurd e hne
        · exact hp
    · have : delL (r :: l) n = r :: delL l n := by
        have hb : (r.1 == n) = false := by simpa using e
        simp [delL, hb]
      rw [this, List.mem_cons, List.mem_cons, ih h2]
      constructor
      · rintro (rfl | ⟨h3, h4⟩)
        · exact ⟨.inl rfl, e⟩
        · exact ⟨.inr h3, h4⟩
      · rintro ⟨rfl | h3, h4⟩
        · exact .inl rfl
        · exact .inr ⟨h3, h4⟩
theorem RelS.del {f : Int → Option Value} {L : List PairB} (h : RelS f L) (n : Int) : RelS (fdel f n) (delL L n) := by
  have hs := h.srt.sublist (delL_sub L n)
  refine ⟨hs, fun p hp => h.wf p ((mem_delL h.srt).1 hp).1, fun x => ?_⟩
  unfold fdel
  split
  · rename_i e
    subst e
    rw [getL_none.2 (fun p hp => ((mem_delL h.srt).1 hp).2)]; rfl
  · rename_i e
    rw [h.eq]
    congr 1
    cases hg : getL L x with
    | none =>
      rw [eq_comm, getL_none]
      exact fun p hp => getL_none.1 hg p ((mem_delL h.srt).1 hp).1
    | some t => exact (getL_mem hs ((mem_delL h.srt).2 ⟨getL_some hg, e⟩)).symm
theorem RelS.set {f : Int → Option Value} {L : List PairB} (h : RelS f L) {n : Int} (hn : wfZ n) (t : ByteArray) : RelS (fput f n (.string t)) (setL L n t) := by
  have hd := h.del n
  obtain ⟨M, hM⟩ : ∃ M, delL L n = M := ⟨_, rfl⟩
  have hmem : ∀ p, p ∈ M → p.1 ≠ n := fun p hp => ((mem_delL h.srt).1 (hM ▸ hp)).2
  rw [hM] at hd
  have hset : setL L n t = M.takeWhile (fun p => decide (p.1 < n)) ++ [(n, t)] ++ M.dropWhile (fun p => decide (p.1 < n)) := by rw [setL, hM]
  have hta : M.takeWhile (fun p => decide (p.1 < n)) ++ M.dropWhile (fun p => decide (p.1 < n)) = M := List.takeWhile_append_dropWhile
  have htw : ∀ p ∈ M.takeWhile (fun p => decide (p.1 < n)), p.1 < n := fun p hp => by simpa using mem_tw hp
  have hdw : ∀ p ∈ M.dropWhile (fun p => decide (p.1 < n)), n < p.1 := fun p hp => by
    have hsd : (M.dropWhile (fun p => decide (p.1 < n))).Pairwise fun a b => a.1 < b.1 := hd.srt.sublist (List.dropWhile_sublist _)
    have hpM : p ∈ M := (List.dropWhile_sublist _).mem hp
    have hne := hmem p hpM
    cases hdl : M.dropWhile (fun p => decide (p.1 < n)) with
    | nil => rw [hdl] at hp; cases hp
    | cons a l =>
      have ha : ¬ a.1 < n := by
        have := List.head_dropWhile_not (fun p : PairB => decide (p.1 < n)) (l := M) (by rw [hdl]; simp)
        simp only [hdl, List.head_cons] at this
        simpa using this
      rw [hdl] at hp hsd
      obtain ⟨h1, -⟩ := List.pairwise_cons.1 hsd
      rcases List.mem_cons.1 hp with rfl | hp
      · omega
      · have := h1 p hp; omega
  have hss : (setL L n t).Pairwise fun a b => a.1 < b.1 := by
    rw [hset, List.pairwise_append, List.pairwise_append]
    refine ⟨⟨hd.srt.sublist (List.takeWhile_sublist _), List.pairwise_singleton _ _, fun a ha b hb => ?_⟩, hd.srt.sublist (List.dropWhile_sublist _), fun a ha b hb => ?_⟩
    · rw [List.mem_singleton.1 hb]; exact htw a ha
    · have hb' := hdw b hb
      rcases List.mem_append.1 ha with ha | ha
      · have := htw a ha; omega
      · rw [List.mem_singleton.1 ha]; exact hb'
  have hms : ∀ p, p ∈ setL L n t ↔ p = (n, t) ∨ p ∈ M := fun p => by
    rw [hset, List.mem_append, List.mem_append, List.mem_singleton, ← hta, List.mem_append, hta]
    constructor
    · rintro ((h | h) | h)
      · exact .inr (.inl h)
      · exact .inl h
      · exact .inr (.inr h)
    · rintro (h | h | h)
      · exact .inl (.inr h)
      · exact .inl (.inl h)
      · exact .inr h
  refine ⟨hss, fun p hp => ?_, fun x => ?_⟩
  · rcases (hms p).1 hp with rfl | h2
    · exact hn
    · exact hd.wf p h2
  · unfold fput
    split
    · rename_i e
      subst e
      have := getL_mem hss ((hms (x, t)).2 (.inl rfl))
      rw [show getL (setL L x t) x = some t from this]; rfl
    · rename_i e
      have h1 := hd.eq x
      unfold fdel at h1
      rw [if_neg e] at h1
      rw [h1]
      congr 1
      cases hg : getL M x with
      | none =>
        rw [eq_comm, getL_none]
        intro p hp
        rcases (hms p).1 hp with rfl | h2
        · exact fun h => e h.symm
        · exact getL_none.1 hg p h2
      | some u => exact (getL_mem hss ((hms (x, u)).2 (.inr (getL_some hg)))).symm
theorem pairsF_rel {f : Int → Option Value} {L : List PairB} (h : RelS f L) {k : Nat} (hk : k < L.length) : ∃ x : PairF f, (pairsF h.keys)[k]? = some x ∧ x.1 = (L[k].1, .string L[k].2) := by
  obtain ⟨x, e1, e2⟩ := pairsF_at h.keys (k := k) (by simpa using hk)
  refine ⟨x, e1, ?_⟩
  have e3 : x.1.1 = L[k].1 := by rw [e2]; simp
  have e4 := x.2.2
  rw [e3, h.eq, getL_mem h.srt (List.getElem_mem hk)] at e4
  have e5 : x.1.2 = .string L[k].2 := (Option.some.inj e4).symm
  rw [← e3, ← e5]
end Go.Proofs.Ytdhhnioklbnicaa
