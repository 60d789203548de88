/-
  Layer 10 (disk): Unsure.
-/
import Derived.Test.YtdhhnioklbnicaaDkK
set_option linter.unusedSimpArgs false
set_option linter.unusedVariables false
set_option linter.unnecessarySimpa false
namespace Go.Proofs.Ytdhhnioklbnicaa
open Go.RowKit Go.Maps
set_option maxRecDepth 100000

theorem slK : SlT Try.prog 23 77 2 16 (.agg #[.int .i64 0, .int .i64 0]) := ⟨Try.underlying23, by kernel_rfl, rfl, by decide, by decide⟩
def kcells (ks : List (Int × Int)) : List Value := ks.flatMap fun p => [.int .i64 p.1, .int .i64 p.2]
theorem kcells_len (ks : List (Int × Int)) : (kcells ks).length = ks.length * 2 := by
  induction ks with
  | nil => rfl
  | cons p r ih =>
    have : kcells (p :: r) = [.int .i64 p.1, .int .i64 p.2] ++ kcells r := rfl
    rw [this, List.length_append, ih, List.length_cons]
    simp only [List.length_cons, List.length_nil]
    omega
theorem kcells_app (a b : List (Int × Int)) : kcells (a ++ b) = kcells a ++ kcells b := List.flatMap_append
/-- The blocks with unsure writes. -/
def DkM.unsL (D : DkM) : List (Int × Int) := ((List.range D.sure.length).filter (fun i : Nat => !(D.uns (i : Int)).isEmpty)).map (fun i : Nat => ((i : Int), ((D.uns (i : Int)).length : Int)))
theorem KeyL.eq {f : Int → Option Value} {zs : List Int} (h : KeyL f zs) (D : DkM) (iff : ∀ x, f x = none ↔ D.uns x = []) (rng : ∀ x, D.uns x ≠ [] → 0 ≤ x ∧ x < D.sure.length) (hn : D.sure.length ≤ 4096) :
    zs.map (fun x => (x, ((D.uns x).length : Int))) = D.unsL := by
  have e : zs = ((List.range D.sure.length).filter (fun i : Nat => !(D.uns (i : Int)).isEmpty)).map (fun i : Nat => (i : Int)) := by
    have h2 : (((List.range D.sure.length).filter (fun i : Nat => !(D.uns (i : Int)).isEmpty)).map (fun i : Nat => (i : Int))).Pairwise (fun x y => x < y) := by
      rw [List.pairwise_map]
      exact (List.pairwise_lt_range.filter _).imp fun h => by omega
    refine List.Perm.eq_of_pairwise (le := fun a b : Int => a < b) (fun a b _ _ h1 h2 => absurd h1 (by omega)) h.1 h2 ((List.perm_ext_iff_of_nodup (h.1.imp fun h => by omega) (h2.imp fun h => by omega)).2 fun x => ?_)
    rw [h.2 x, List.mem_map]
    have hx : (f x).isSome = true ↔ D.uns x ≠ [] := by
      rw [ne_eq, ← iff x]
      cases f x <;> simp
    rw [hx]
    constructor
    · rintro ⟨_, hu⟩
      obtain ⟨h3, h4⟩ := rng x hu
      refine ⟨x.toNat, ?_, by omega⟩
      rw [List.mem_filter, List.mem_range, show ((x.toNat : Nat) : Int) = x by omega]
      exact ⟨by omega, by simpa using hu⟩
    · rintro ⟨i, hi, rfl⟩
      rw [List.mem_filter, List.mem_range] at hi
      exact ⟨wfZ_of (by omega), by simpa using hi.2⟩
  rw [e, List.map_map]
  rfl
def UnsC (w : World) (l : List (Int × Int)) (e : Ending) (w' : World) : Prop := ∃ v, e = .returned v ∧ Row w' w.heap.size 77 2 v l.length (kcells l) ∧ Fr [] w w'
section
variable {w w' : World} {p : Nat} {O : List Nat} {D : DkM} {X : DkX}
theorem dkUnsure_nil (w : World) : Calls Try.prog 14 #[.pointer none] w fun e w' => e = .returned (.slice none 0 0) ∧ w = w' := by
  go_enter Try.func14, Try.ntmps14
  go_wp2_with fail
  refine (dkMade_nil w).mono ?_
  rintro e w1 ⟨rfl, rfl⟩
  go_wp2_with fail
  go_ret
  exact ⟨rfl, rfl⟩
set_option maxHeartbeats 4000000 in
theorem dkUnsure_any (h : Dsk w p O D) : Calls Try.prog 14 #[.pointer (some ⟨p, 0, none⟩)] w (UnsC w D.unsL) := by
  have hm := dkMade_any h
  obtain ⟨X, h⟩ := h
  have c1 := h.c1
  have mz := h.map
  have cS := sorted_any mz (Nat.le_refl _)
  have HH := Lib.hid h
  clear h
  go_enter Try.func14, Try.ntmps14
  go_wp2_with fail
  refine hm.mono ?_
  rintro e w1 ⟨rfl, rfl⟩
  go_wp2_with fail
  refine (keys_any X.m w).mono ?_
  rintro e w1 ⟨rfl, rfl⟩
  go_wp2_with fail
  refine cS.mono ?_
  rintro e w2 ⟨v, zs, rfl, hk, hl, r, f⟩
  have f2 : Fr [] w w2 := ((Fr.refl [] w).alloc _).trans_nil f
  have hz := hk.eq D HH.out.iff HH.out.rng HH.out.n1.2
  obtain ⟨A, c, rfl, -, -, hrd, -, -⟩ := r.shape
  obtain ⟨n, hn⟩ : ∃ n, zs.length = n := ⟨_, rfl⟩
  rw [hn] at hl
  have HN := Lib.hid hn
  have HK := Lib.hid hk
  have HZ := Lib.hid hz
  have HR := Lib.hid hrd
  have F2 := Lib.hid f2
  clear cS r f hk hz hrd hn hm mz c1
  rw [HN.out]
  go_wp2_with fail
  go_loopw [3, 16] (fun v i wr => ∃ k : Nat, k ≤ n ∧ i = .int .i64 k ∧ Row wr w2.heap.size 77 2 v k (kcells ((zs.take k).map fun x => (x, ((D.uns x).length : Int)))) ∧ Fr [] w2 wr) (fun _ i _ => n - (intOf i).toNat)
  case atStart => exact ⟨0, Nat.zero_le _, rfl, Row.nil _ _ _ _, Fr.refl _ _⟩
  case round =>
    obtain ⟨k, hkn, rfl, R, F⟩ := hrel
    by_cases hlt : k < n
    · have hkl : k < zs.length := by rw [HN.out]; exact hlt
      obtain ⟨x, hx⟩ : ∃ x, zs[k] = x := ⟨_, rfl⟩
      obtain ⟨g, o, rfl, hcell⟩ := HR.out (by intro h; have := congrArg List.length h; simp at this; rw [this] at hkl; cases hkl)
      have c0 := F.cell (by simp) (hcell k (.int .i64 x) (by rw [List.getElem?_map, List.getElem?_eq_getElem hkl, hx]; rfl))
      obtain ⟨wx, hxs⟩ := (HK.out.2 x).1 (hx ▸ List.getElem_mem hkl)
      obtain ⟨u, hu⟩ := Option.isSome_iff_exists.1 hxs
      obtain ⟨⟨us, ru, -⟩, -⟩ := HH.out.un x u hu
      obtain ⟨A5, c5, rfl, -, -, -, -, -⟩ := ru.shape
      have HU := Lib.hid (show (X.f x).getD (.slice none 0 0) = .slice A5 (D.uns x).length c5 by rw [hu]; rfl)
      have hw := HH.out.keep_nil (F2.out.trans_nil F)
      have c1 := hw.c1
      have mz := hw.map
      have HS := Lib.hid (show kcells ((zs.take (k + 1)).map fun x => (x, ((D.uns x).length : Int))) = kcells ((zs.take k).map fun x => (x, ((D.uns x).length : Int))) ++ [.int .i64 x, .int .i64 (D.uns x).length] by
        rw [List.take_succ_eq_append_getElem hkl, hx, List.map_append, kcells_app]; rfl)
      obtain ⟨N, hN⟩ : ∃ N : Nat, (D.uns x).length = N := ⟨_, rfl⟩
      obtain ⟨cs, hcs⟩ : ∃ cs, kcells ((zs.take k).map fun x => (x, ((D.uns x).length : Int))) = cs := ⟨_, rfl⟩
      rw [hcs] at R
      have HC := Lib.hid hcs
      have HNN := Lib.hid hN
      have d0 : (k : Int) < n := by omega
      obtain ⟨A3, c3, rfl, -, -, -, -, -⟩ := R.shape
      clear hkn hkl hx hcell hxs hu ru hw hcs hN
      have Ra := R.alloc (.cells #[.int .i64 x, .int .i64 N] 77)
      go_wp2_with (first | (refine wpList_lookZ rfl rfl Try.underlying73 (zeroBBD _) rfl mz x rfl wx ?_; rw [HU.out, HNN.out]) | (at_builtin; refine wpList_app rfl rfl slK w2.heap.size _ k cs rfl Ra _ 1 1 [.int .i64 x, .int .i64 N] rfl rfl (Rd.of_blk (Blk.new wr 77 #[.int .i64 x, .int .i64 N]) 0 _ (fun j u hu => by rw [Nat.zero_add]; simpa using hu)) (by intro u hu; simp at hu; rcases hu with rfl | rfl <;> rfl) (by intro h; cases h) (by omega) (by have := F.size; simp; omega) ?_; intro v' w5 q1 q2 q3 q4))
      rw [← HC.out, ← HNN.out, ← HS.out] at q1
      exact ⟨⟨k + 1, by omega, by go_num, q1, (F.alloc _).trans q2 (fun i hi => .inr (Ra.lt i (mem_own.1 hi)).1)⟩, by simp [intOf]; omega⟩
    · have hk' : k = n := by omega
      subst hk'
      have HE := Lib.hid (show zs.take k = zs by rw [← HN.out, List.take_length])
      rw [HE.out, HZ.out] at R
      have HL := Lib.hid (show k = D.unsL.length by rw [← HZ.out, List.length_map, HN.out])
      have d0 : ¬ ((k : Int) < k) := by omega
      go_wp2_with fail
      go_ret
      exact ⟨_, rfl, by rw [← HL.out]; exact R.mono F2.out.size, F2.out.trans_nil F⟩
end
end Go.Proofs.Ytdhhnioklbnicaa
