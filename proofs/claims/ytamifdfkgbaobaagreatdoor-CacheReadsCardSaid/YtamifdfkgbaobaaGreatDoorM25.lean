/-
  Texts of this claim, one behind the other: CacRp.
-/
import Derived.Test.YtamifdfkgbaobaaGreatDoorM24
/-
  CacheReads: the strings beside the cache.
-/
set_option linter.unusedSimpArgs false
set_option linter.unusedVariables false
set_option linter.unnecessarySimpa false
namespace Go.Proofs.YtamifdfkgbaobaaGreatDoor
open Go.RowKit
set_option maxRecDepth 100000

theorem slStr15 : SlT Tryz.prog 47 9 1 16 (.string ByteArray.empty) := ⟨Tryz.underlying47, by kernel_rfl, rfl, by decide, by decide⟩
/-- The strings of 24 blocks. -/
def strA (f : Int → List UInt8) : Array Value := ((List.range 24).map fun n : Nat => Value.string ⟨(f (16 + (n : Int))).toArray⟩).toArray
theorem strA_at (f : Int → List UInt8) {n : Nat} (h : n < 24) : (strA f)[n]? = some (.string ⟨(f (16 + (n : Int))).toArray⟩) := by
  rw [strA, List.getElem?_toArray, List.getElem?_map, List.getElem?_range h]
  rfl
theorem strA_congr {f g : Int → List UInt8} (h : ∀ x : Int, 16 ≤ x → x < 40 → f x = g x) : strA f = strA g := by
  unfold strA
  congr 1
  apply List.map_congr_left
  intro n hn
  have := List.mem_range.1 hn
  rw [h _ (by omega) (by omega)]
theorem strA_set (f : Int → List UInt8) (n : Nat) (l : List UInt8) : (strA f).setIfInBounds n (.string ⟨l.toArray⟩) = strA (fun x => if x = 16 + (n : Int) then l else f x) := by
  apply Array.ext_getElem?
  intro i
  rw [Array.getElem?_setIfInBounds]
  by_cases hi : i < 24
  · rw [strA_at _ hi, strA_at _ hi]
    by_cases e : n = i
    · subst e
      rw [if_pos rfl, if_pos (by simpa [strA] using hi), if_pos rfl]
    · rw [if_neg e, if_neg (by omega)]
  · have h1 : ∀ f, (strA f)[i]? = none := fun f => Array.getElem?_eq_none (by simp [strA]; omega)
    rw [h1, h1]
    by_cases e : n = i
    · rw [if_pos e, if_neg (by simp [strA]; omega)]
    · rw [if_neg e]
theorem strA_nil : (List.replicate 24 (Value.string ByteArray.empty)).toArray = strA (fun _ => []) := by
  unfold strA
  congr 1
theorem slb_str {w : World} {v : Value} {l : List UInt8} (h : SlB w v l) : (convert 41 9 v).run Tryz.prog w = .ok (.string ⟨l.toArray⟩) w := by
  obtain ⟨A, c, rfl, h1, h2, -⟩ := h
  exact conv_str Tryz.underlying41 Tryz.underlying5 Tryz.underlying9 w A l _ c rfl h1 h2
/-- A cache that was made behind W, and a block of strings beside it. -/
def LCb (W w : World) (P : CaP) (M : CaM) (gh : Nat) (vs : Array Value) : Prop := ∃ O, CaW w P O M ∧ (∀ i ∈ P.own O, W.heap.size ≤ i) ∧ W.heap.size ≤ P.s ∧ Fr [] W w ∧ gh ∉ P.own O ∧ gh ≠ P.s ∧ W.heap.size ≤ gh ∧ Blk w gh 9 vs
section
variable {W w w' : World} {P : CaP} {M M' : CaM} {gh : Nat} {vs : Array Value}
theorem LCb.lc (h : LCb W w P M gh vs) : LCa W w P M := by obtain ⟨O, h1, h2, h3, h4, -⟩ := h; exact ⟨O, h1, h2, h3, h4⟩
theorem LCb.fr (h : LCb W w P M gh vs) : Fr [] W w := h.lc.fr
theorem LCb.blk (h : LCb W w P M gh vs) : Blk w gh 9 vs := by obtain ⟨O, -, -, -, -, -, -, -, h⟩ := h; exact h
theorem LCb.keep (h : LCb W w P M gh vs) (f : Fr [] w w') : LCb W w' P M gh vs := by
  obtain ⟨O, h1, h2, h3, h4, h5, h6, h7, h8⟩ := h
  exact ⟨O, h1.keep_nil f, h2, h3, h4.trans_nil f, h5, h6, h7, h8.keep_nil f⟩
theorem LCb.made (h : LCa W w P M) (vs : Array Value) : LCb W (w.alloc (.cells vs 9)) P M w.heap.size vs := by
  obtain ⟨O, h1, h2, h3, h4⟩ := h
  have f : Fr [] w (w.alloc (.cells vs 9)) := (Fr.refl _ _).alloc _
  have hl := h1.own_lt
  have := h1.lts.2.2.1
  exact ⟨O, h1.keep_nil f, h2, h3, h4.trans_nil f, fun hm => by have := hl _ hm; omega, by omega, h4.size, Blk.new w 9 vs⟩
theorem LCb.set (h : LCb W w P M gh vs) (i : Nat) (u : Value) : LCb W (w.setCell ⟨gh, i, none⟩ u) P M gh (vs.setIfInBounds i u) := by
  obtain ⟨O, h1, h2, h3, h4, h5, h6, h7, h8⟩ := h
  have f : Fr [gh] w (w.setCell ⟨gh, i, none⟩ u) := (Fr.refl _ _).setCell (.inl (by simp)) u
  have hn : NoTy w [gh] 5 := fun j hj cs fz e => by
    obtain rfl := List.mem_singleton.1 hj
    have := h8.symm.trans e
    simp at this
  have ho := h5
  unfold CaP.own at ho
  simp only [List.mem_cons, not_or] at ho
  refine ⟨O, h1.keep f (by simpa using Ne.symm ho.1) (by simpa using Ne.symm ho.2.1) (by simpa using Ne.symm h6) (by simpa using Ne.symm ho.2.2.1) (fun j hj => by rw [List.mem_singleton]; rintro rfl; exact ho.2.2.2 hj) hn, h2, h3, h4.trans f (fun j hj => by rw [List.mem_singleton.1 hj]; exact .inr h7), h5, h6, h7, h8.set_ i u⟩
theorem LCb.op {f : Nat} {args : Array Value} {r : Ending} (hW : 0 < W.heap.size) (h : LCb W w P M gh vs) (hc : ∀ O, CaW w P O M → 0 ∉ P.own O → (∀ w', Fr (P.own O) w w' → Fr [] W w') → Calls Tryz.prog f args w fun e w' => e = r ∧ AftC w P O M' w') :
    Calls Tryz.prog f args w fun e w' => e = r ∧ LCb W w' P M' gh vs := by
  obtain ⟨O, h1, h2, h3, h4, h5, h6, h7, h8⟩ := h
  refine (hc O h1 (fun hm => by have := h2 0 hm; omega) (fun w' k => h4.trans k (fun i hi => .inr (h2 i hi)))).mono ?_
  rintro e w' ⟨he, ha⟩
  refine ⟨he, ?_⟩
  obtain ⟨⟨_, _, q2, _⟩, _⟩ := LCa.aft h1 h2 h3 h4 ha
  obtain ⟨O', k1, k2, k3⟩ := ha
  refine ⟨O', k1, fun i hi => ?_, h3, h4.trans k3 (fun i hi => .inr (h2 i hi)), own_new h5 k2 h8.lt, h6, h7, h8.keep k3 h5⟩
  have hs := h4.size
  have h2' := h2
  unfold CaP.own at hi h2'
  simp only [List.mem_cons] at hi h2'
  rcases hi with h | h | h | h
  · exact h2' i (.inl h)
  · exact h2' i (.inr (.inl h))
  · exact h2' i (.inr (.inr (.inl h)))
  · rcases k2 i h with h | h
    · exact h2' i (.inr (.inr (.inr h)))
    · exact Nat.le_trans h4.size h
variable {c : Int} {k : Nat}
theorem LCb.com {A : Option Addr} {n cp : Nat} {rs : List (Int × List UInt8)} (h : LCb W w P M gh vs) (hK : KG W) (hH : CaH c M k) (hk : k ≤ 200) (hr : RdR W A n cp rs) :
    Calls Tryz.prog 10 #[.pointer (some ⟨P.c, 0, none⟩), .slice A n cp] w fun e w' => e = .returned (.int .i64 (comE M rs)) ∧ LCb W w' P (comM M rs) gh vs := by
  have hn := hH.num
  have hf := h.fr
  exact LCb.op (kg_pos hK) h fun O h0 hz hw => caCommit_any h0 hH.g (by omega) (hK.keep hf) hz (fun x => by have := hH.uns x; omega) hr.len (fun w' f => hr.keep_nil (hw w' f))
theorem LCb.flush (h : LCb W w P M gh vs) (hK : KG W) (hH : CaH c M k) :
    Calls Tryz.prog 16 #[.pointer (some ⟨P.c, 0, none⟩)] w fun e w' => e = .returned (.int .i64 0) ∧ LCb W w' P { M with D := M.D.flush } gh vs :=
  LCb.op (kg_pos hK) h fun O h0 hz hw => caFlush_any h0 hH.g.on
theorem LCb.check (h : LCb W w P M gh vs) (hK : KG W) (hH : CaH c M k) (hk : k ≤ 200) :
    Calls Tryz.prog 17 #[.pointer (some ⟨P.c, 0, none⟩)] w fun e w' => e = .returned (.int .i64 0) ∧ LCb W w' P (chkC M) gh vs := by
  have hn := hH.num
  have hf := h.fr
  exact LCb.op (kg_pos hK) h fun O h0 hz hw => caCheck_any h0 hH.g (by omega) (hK.keep hf) hz (fun x => by have := hH.uns x; omega)
theorem LCb.clean (h : LCb W w P M gh vs) (hK : KG W) (hH : CaH c M k) (hk : k ≤ 200) :
    Calls Tryz.prog 11 #[.pointer (some ⟨P.c, 0, none⟩)] w fun e w' => e = .returned (.int .i64 0) ∧ LCb W w' P (cleanM M) gh vs := by
  have hn := hH.num
  have hf := h.fr
  exact LCb.op (kg_pos hK) h fun O h0 hz hw => caClean_any h0 hH.g (by omega) (hK.keep hf) hz (fun x => by have := hH.uns x; omega)
theorem CaH.flush (h : CaH c M k) : CaH c { M with D := M.D.flush } (k + 1) ∧ ∀ x, rdM { M with D := M.D.flush } x = rdM M x := by
  obtain ⟨-, f2, f3⟩ := h.g.on.flush
  have hn := h.num
  refine ⟨⟨?_, h.f, h.c, by show M.J.num ≤ _; omega, fun x => ?_⟩, fun x => ?_⟩
  · rw [f2]
    exact ⟨f3, h.g.n4, h.g.c, h.g.f, h.g.u, h.g.bad, h.g.m0, h.g.m64, h.g.d, h.g.e⟩
  · show (M.D.flush.uns x).length ≤ _
    rw [f2]
    exact Nat.zero_le _
  · rw [rdM, rdM]
    show (match M.dirty x with | some l => l | none => M.D.flush.readR x) = _
    rw [f2]
    cases M.dirty x with
    | some l => rfl
    | none => exact h.g.on.flush_read x
theorem CaH.check (h : CaH 16 M k) (hk : k ≤ 200) : CaH 16 (chkC M) (k + 1) ∧ (chkC M).J.used = 0 ∧ keysZ (chkC M).dirty = [] ∧ ∀ x : Int, 16 ≤ x → rdM (chkC M) x = rdM M x := by
  have hn := h.num
  obtain ⟨g, h1, -, h3, h4, h5, h6, h7, h8⟩ := h.g.chkC (by omega)
  exact ⟨⟨g, by rw [h4, h.f], by rw [h5, h.c], by omega, fun x => by have := h8 x; have := h.uns x; omega⟩, h1, keysZ_nil h3, fun x hx => h6 x (by rw [h.f]; omega)⟩
theorem CaH.clean16 (h : CaH 16 M k) (hk : k ≤ 200) : CaH 16 (cleanM M) (k + 1) ∧ ∀ x : Int, 16 ≤ x → rdM (cleanM M) x = rdM M x := by
  have hn := h.num
  obtain ⟨-, -, g, h1, h2, h3, h4, h5, h6, h7, h8, h9⟩ := h.g.clean (by omega)
  exact ⟨⟨g, by rw [h3, h.f], by rw [h4, h.c], by omega, fun x => by rw [h9]; exact Nat.zero_le _⟩, fun x hx => h6 x (by rw [h.f, h.c]; omega)⟩
theorem CaH.com_yes {rs : List (Int × List UInt8)} (h : CaH 16 M k) (hk : k ≤ 200) (he : comE M rs = 0) : (∀ r ∈ rs, 0 ≤ r.1 ∧ r.1 < 40) ∧ ∀ x : Int, 16 ≤ x → rdM (comM M rs) x = rdU (rdM M) rs x := by
  have hn := h.num
  obtain ⟨-, -, -, -, -, -, -, h7, -⟩ := h.g.com (rs := rs) (by omega)
  obtain ⟨-, -, h8, h9⟩ := h7 he
  exact ⟨h8, fun x hx => h9 x (by rw [h.f, h.c]; omega)⟩
theorem CaH.com_no {rs : List (Int × List UInt8)} (h : CaH 16 M k) (hk : k ≤ 200) (he : comE M rs ≠ 0) : ∀ x : Int, 16 ≤ x → rdM (comM M rs) x = rdM M x := by
  have hn := h.num
  obtain ⟨-, -, -, -, -, -, -, -, h7⟩ := h.g.com (rs := rs) (by omega)
  exact fun x hx => h7 he x (by rw [h.f, h.c]; omega)
theorem CaH.rdE (h : CaH c M k) {x : Int} (h0 : 0 ≤ x) (h1 : x < 40) : rdE M x = 0 := by
  rw [Go.Proofs.YtamifdfkgbaobaaGreatDoor.rdE]
  cases M.dirty x with
  | some l => rfl
  | none =>
    show M.D.readE x = 0
    rw [DkM.readE, DkM.is_iff.2 ⟨h0, by rw [h.g.on.len]; exact h1⟩, h.g.on.off]; rfl
end
end Go.Proofs.YtamifdfkgbaobaaGreatDoor
