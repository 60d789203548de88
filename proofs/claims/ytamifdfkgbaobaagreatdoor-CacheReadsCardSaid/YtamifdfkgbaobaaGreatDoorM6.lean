/-
  Texts of this claim, one behind the other: DkH, DkI, DkN, ShaA, CodB.
-/
import Derived.Test.YtamifdfkgbaobaaGreatDoorM5
import Derived.Laws.BitsAllLaws
import Derived.IntWalk
/-
  Layer 10 (disk): Tamper.
-/
set_option linter.unusedSimpArgs false
set_option linter.unusedVariables false
set_option linter.unnecessarySimpa false
namespace Go.Proofs.YtamifdfkgbaobaaGreatDoor
open Go.RowKit
set_option maxRecDepth 100000

def DkM.delU (D : DkM) (x : Int) : DkM := { D with uns := fun y => if y = x then [] else D.uns y }
section
variable {w w' : World} {p : Nat} {O : List Nat} {D : DkM} {X : DkX}
/-- One block has no unsure writes any more. -/
theorem DskX.del (h : DskX w p O D X) {x : Int} (f : Fr [X.m] w w') (m : MapZ w' X.m 4096 (fdel X.f x)) : DskX w' p O (D.delU x) { X with f := fdel X.f x } := by
  have n8 := h.mT 5
  have hf : ∀ y u, fdel X.f x y = some u → y ≠ x ∧ X.f y = some u := fun y u hy => by
    unfold fdel at hy
    by_cases e : y = x
    · rw [if_pos e] at hy; cases hy
    · rw [if_neg e] at hy; exact ⟨e, hy⟩
  refine ⟨h.pO, h.gO, h.mO, h.blk.keep f (by simpa using fun e => h.mp e.symm), h.n1, h.row.keep f (fun g hg hm => ?_), fun i a b => (h.su i a b).keepT f n8, m, fun y => ?_, fun y v hy => ?_, fun y hy => ?_, fun y z u v hne hy hz => ?_, fun j hj cs fz hc => ?_, fun j hj => Nat.lt_of_lt_of_le (h.lt j hj) f.size, h.calls⟩
  · have : g = X.g := by simpa [Value.ownBlock] using hg.symm
    exact h.mg (by rw [← this]; exact (List.mem_singleton.1 hm).symm)
  · show fdel X.f x y = none ↔ (if y = x then [] else D.uns y) = []
    unfold fdel
    by_cases e : y = x
    · rw [if_pos e, if_pos e]; simp
    · rw [if_neg e, if_neg e]; exact h.iff y
  · obtain ⟨e, hy2⟩ := hf y v hy
    show UR w' v (if y = x then [] else D.uns y) ∧ _
    rw [if_neg e]
    obtain ⟨h1, g, h2, h3, h4⟩ := h.un y v hy2
    exact ⟨h1.keep f n8 (fun g' hg' hm => by rw [List.mem_singleton.1 hm] at hg'; exact (h.um hy2).1 hg'), g, h2, h3, h4⟩
  · replace hy : (if y = x then [] else D.uns y) ≠ [] := hy
    by_cases e : y = x
    · rw [if_pos e] at hy; exact absurd rfl hy
    · rw [if_neg e] at hy; exact h.rng y hy
  · exact h.apart y z u v hne (hf y u hy).2 (hf z v hz).2
  · by_cases e2 : j = X.m
    · obtain ⟨D4, ⟨es, clock, hb, _⟩, _⟩ := m
      rw [e2, hb] at hc
      cases hc
    · rw [f.same j (h.lt j hj) (by simpa using e2)] at hc
      exact h.no8 j hj cs fz hc
def DkM.tamper (D : DkM) (x : Int) (b : List UInt8) : DkM := if D.mayE x b.length ≠ 0 then D else { D with sure := D.sure.set x.toNat (some b), uns := fun y => if y = x then [] else D.uns y }
end
end Go.Proofs.YtamifdfkgbaobaaGreatDoor
/-
  Layer 10 (disk): Crash.
-/
set_option linter.unusedSimpArgs false
set_option linter.unusedVariables false
set_option linter.unnecessarySimpa false
namespace Go.Proofs.YtamifdfkgbaobaaGreatDoor
open Go.RowKit
set_option maxRecDepth 100000

/-- What k rounds have kept. -/
def kfD (ks : List (Int × Int)) (k : Nat) (x : Int) : Option Int := ((ks.take k).find? (fun p => p.1 == x)).map (·.2)
def kfV (ks : List (Int × Int)) (k : Nat) (x : Int) : Option Value := (kfD ks k x).map (Value.int .i64 ·)
theorem kfD_zero (ks : List (Int × Int)) (x : Int) : kfD ks 0 x = none := rfl
theorem kfD_succ (ks : List (Int × Int)) (k : Nat) (h : k < ks.length) (hn : kfD ks k ks[k].1 = none) (x : Int) : kfD ks (k + 1) x = if x = ks[k].1 then some ks[k].2 else kfD ks k x := by
  unfold kfD at hn ⊢
  rw [List.take_succ_eq_append_getElem h, List.find?_append]
  by_cases e : x = ks[k].1
  · rw [if_pos e]
    have h1 : (ks.take k).find? (fun p => p.1 == x) = none := by rw [e]; simpa using hn
    rw [h1]
    simp [e]
  · rw [if_neg e]
    have h2 : ([ks[k]] : List (Int × Int)).find? (fun p => p.1 == x) = none := by
      rw [List.find?_cons_of_neg]
      · rfl
      · simpa using fun e2 => e e2.symm
    rw [h2]
    simp
def okOne (D : DkM) (ks : List (Int × Int)) (i : Nat) : Bool := (kfD ks i (ks.getD i (0, 0)).1).isNone && (D.is (ks.getD i (0, 0)).1 && (decide (0 ≤ (ks.getD i (0, 0)).2) && decide ((ks.getD i (0, 0)).2 ≤ (D.uns (ks.getD i (0, 0)).1).length)))
def crOk (D : DkM) (ks : List (Int × Int)) : Bool := (List.range ks.length).all (okOne D ks)
theorem crOk_iff {D : DkM} {ks : List (Int × Int)} : crOk D ks = true ↔ ∀ i, i < ks.length → okOne D ks i = true := by simp [crOk]
theorem crOk_no {D : DkM} {ks : List (Int × Int)} {i : Nat} (h : i < ks.length) (hi : okOne D ks i = false) : crOk D ks = false := by
  cases hc : crOk D ks
  · rfl
  · rw [crOk_iff.1 hc i h] at hi; cases hi
theorem okOne_no1 {D : DkM} {ks : List (Int × Int)} {i : Nat} {x y : Int} (e : ks.getD i (0, 0) = (x, y)) (h : kfD ks i x ≠ none) : okOne D ks i = false := by
  unfold okOne
  rw [e]
  cases hk : kfD ks i x with
  | none => exact absurd hk h
  | some z => rfl
theorem okOne_no2 {D : DkM} {ks : List (Int × Int)} {i : Nat} {x y : Int} (e : ks.getD i (0, 0) = (x, y)) (h : D.is x = false) : okOne D ks i = false := by
  unfold okOne
  rw [e]
  simp [h]
theorem okOne_no3 {D : DkM} {ks : List (Int × Int)} {i : Nat} {x y : Int} (e : ks.getD i (0, 0) = (x, y)) (h : y < 0 ∨ ((D.uns x).length : Int) < y) : okOne D ks i = false := by
  unfold okOne
  rw [e]
  rcases h with h | h
  · have : decide (0 ≤ y) = false := by simp; omega
    simp [this]
  · have : decide (y ≤ ((D.uns x).length : Int)) = false := by simp; omega
    simp [this]
theorem okOne_yes {D : DkM} {ks : List (Int × Int)} {i : Nat} {x y : Int} (e : ks.getD i (0, 0) = (x, y)) (h1 : kfD ks i x = none) (h2 : D.is x = true) (h3 : 0 ≤ y) (h4 : y ≤ (D.uns x).length) : okOne D ks i = true := by
  unfold okOne
  rw [e]
  simp [h1, h2, h3, h4]
def DkM.cr (D : DkM) (ks : List (Int × Int)) (left : Int → Bool) (i : Nat) : Option (List UInt8) :=
  if left i then D.sure.getD i none else match kfD ks ks.length i with
    | some z => if 0 < z then some ((D.uns i).getD (z.toNat - 1) []) else D.sure.getD i none
    | none => D.sure.getD i none
def DkM.crL (D : DkM) (ks : List (Int × Int)) (left : Int → Bool) : DkM := { D with sure := (List.range D.sure.length).map (D.cr ks left) }
theorem DkM.crL_len (D : DkM) (ks : List (Int × Int)) (left : Int → Bool) : (D.crL ks left).sure.length = D.sure.length := by simp [DkM.crL]
def DkM.crDone (D : DkM) (ks : List (Int × Int)) : DkM := { D.crL ks (fun _ => false) with uns := fun _ => [], calls := -1 }
def DkM.crash (D : DkM) (ks : List (Int × Int)) : DkM := if crOk D ks then D.crDone ks else D
def DkM.crashE (D : DkM) (ks : List (Int × Int)) : Int := if crOk D ks then 0 else 1
theorem DkM.crL_start (D : DkM) (ks : List (Int × Int)) (left : Int → Bool) (h : ∀ i : Nat, left i = false → kfD ks ks.length i = none) : D.crL ks left = D := by
  have e : (List.range D.sure.length).map (D.cr ks left) = D.sure := by
    apply List.ext_getElem (by simp)
    intro i h1 h2
    rw [List.getElem_map, List.getElem_range]
    have hg : D.sure.getD i none = D.sure[i] := by simp [h2]
    unfold DkM.cr
    cases hl : left i
    · rw [if_neg (by simp), h i hl]
      exact hg
    · rw [if_pos rfl, hg]
  unfold DkM.crL
  rw [e]
theorem DkM.crL_end (D : DkM) (ks : List (Int × Int)) (left : Int → Bool) (h : ∀ i : Nat, i < D.sure.length → left i = false) : D.crL ks left = D.crL ks (fun _ => false) := by
  unfold DkM.crL
  congr 1
  apply List.map_congr_left
  intro i hi
  unfold DkM.cr
  rw [h i (by simpa using hi)]
theorem DkM.crL_step (D : DkM) (ks : List (Int × Int)) (left : Int → Bool) {i : Nat} (hi : i < D.sure.length) {z : Int} (hz : kfD ks ks.length i = some z) (hp : 0 < z) :
    D.crL ks (fun y => left y && !(y == (i : Int))) = { D.crL ks left with sure := (D.crL ks left).sure.set i (some ((D.uns i).getD (z.toNat - 1) [])) } := by
  unfold DkM.crL
  congr 1
  apply List.ext_getElem (by simp)
  intro j h1 h2
  rw [List.getElem_map, List.getElem_range]
  by_cases e : i = j
  · subst e
    rw [List.getElem_set_self]
    unfold DkM.cr
    simp [hz, hp]
  · rw [List.getElem_set_ne e, List.getElem_map, List.getElem_range]
    unfold DkM.cr
    have : ((j : Int) == (i : Int)) = false := by rw [beq_eq_false_iff_ne]; omega
    simp only [this, Bool.not_false, Bool.and_true]
theorem DkM.crL_stay (D : DkM) (ks : List (Int × Int)) (left : Int → Bool) {i : Nat} {z : Int} (hz : kfD ks ks.length i = some z) (hp : ¬ 0 < z) :
    D.crL ks (fun y => left y && !(y == (i : Int))) = D.crL ks left := by
  unfold DkM.crL
  congr 1
  apply List.map_congr_left
  intro j _
  unfold DkM.cr
  by_cases e : i = j
  · subst e
    simp [hz, hp]
  · have : ((j : Int) == (i : Int)) = false := by rw [beq_eq_false_iff_ne]; omega
    simp only [this, Bool.not_false, Bool.and_true]

theorem kfD_ok {D : DkM} {ks : List (Int × Int)} (h : crOk D ks = true) {x z : Int} (hz : kfD ks ks.length x = some z) : D.is x = true ∧ 0 ≤ z ∧ z ≤ (D.uns x).length := by
  unfold kfD at hz
  rw [List.take_length] at hz
  cases hf : ks.find? (fun p => p.1 == x) with
  | none => rw [hf] at hz; cases hz
  | some q =>
    rw [hf] at hz
    have hq1 : q.1 = x := by have := List.find?_some hf; simpa using this
    have hq2 : q.2 = z := by simpa using hz
    obtain ⟨i, hi, hqi⟩ := List.getElem_of_mem (List.mem_of_find?_eq_some hf)
    have ho := crOk_iff.1 h i hi
    have hg : ks.getD i (0, 0) = q := by simp [hi, hqi]
    unfold okOne at ho
    rw [hg, hq1, hq2] at ho
    simp only [Bool.and_eq_true, decide_eq_true_eq] at ho
    exact ⟨ho.2.1, ho.2.2.1, ho.2.2.2⟩
theorem kfD_mem {ks : List (Int × Int)} {k : Nat} {x z : Int} (hz : kfD ks k x = some z) : (x, z) ∈ ks := by
  unfold kfD at hz
  cases hf : (ks.take k).find? (fun p => p.1 == x) with
  | none => rw [hf] at hz; cases hz
  | some q =>
    rw [hf] at hz
    have h8 : q.2 = z := by simpa using hz
    have h9 := List.mem_of_mem_take (List.mem_of_find?_eq_some hf)
    have h10 : q.1 = x := by have := List.find?_some hf; simpa using this
    have : q = (x, z) := Prod.ext h10 h8
    rw [← this]; exact h9
/-- What is to last, as it came in. -/
structure KRd (w : World) (A : Option Addr) (n : Nat) (ks : List (Int × Int)) : Prop where
  len : ks.length = n
  cell : ∀ i (h : i < ks.length), ∃ g o, A = some ⟨g, o, none⟩ ∧ w.cell? ⟨g, o + i * 2, none⟩ = some (.int .i64 ks[i].1) ∧ w.cell? ⟨g, o + i * 2 + 1, none⟩ = some (.int .i64 ks[i].2)
  in64 : ∀ p ∈ ks, wfZ p.1 ∧ wfZ p.2
theorem KRd.keep_nil {w w' : World} {A : Option Addr} {n : Nat} {ks : List (Int × Int)} (h : KRd w A n ks) (f : Fr [] w w') : KRd w' A n ks := ⟨h.len, fun i hi => by
  obtain ⟨g, o, e, h1, h2⟩ := h.cell i hi
  exact ⟨g, o, e, f.cell (by simp) h1, f.cell (by simp) h2⟩, h.in64⟩
section
variable {w w' : World} {p : Nat} {O : List Nat} {D : DkM} {X : DkX}
theorem zeroIntD (w : World) : (zeroValue 3).run Tryz.prog w = .ok (.int .i64 0) w := by kernel_rfl
/-- The list of writes at a key. -/
theorem DskX.unv (h : DskX w p O D X) (x : Int) : ∃ A c, (X.f x).getD (.slice none 0 0) = .slice A (D.uns x).length c := by
  cases hf : X.f x with
  | none => rw [(h.iff x).1 hf]; exact ⟨none, 0, rfl⟩
  | some v =>
    obtain ⟨⟨us, r, _⟩, _⟩ := h.un x v hf
    obtain ⟨A, c, e, _⟩ := r.shape
    exact ⟨A, c, e⟩
theorem UR.at {v : Value} {L : List (List UInt8)} (h : UR w v L) {j : Nat} (hj : j < L.length) : ∃ g c u, v = .slice (some ⟨g, 0, none⟩) L.length c ∧ w.cell? ⟨g, j, none⟩ = some u ∧ BlkB w u L[j] := by
  obtain ⟨us, r, hb⟩ := h
  have hul : us.length = L.length := by have := r.1; omega
  obtain ⟨g, c, rfl⟩ := r.hdD (by omega)
  obtain ⟨g', o', e', hc⟩ := r.rdD.1 (by intro h0; rw [h0] at hul; simp at hul; omega)
  cases e'
  have cn := hc j _ (List.getElem?_eq_getElem (by omega))
  rw [Nat.zero_add] at cn
  exact ⟨g, c, _, rfl, cn, hb j (by omega) hj⟩
theorem dkCrash_nil (w : World) (v : Value) : Calls Tryz.prog 20 #[.pointer none, v] w fun e w' => e = .returned (.int .i64 6) ∧ w = w' := by
  go_enter Tryz.func20, Tryz.ntmps20
  go_wp2_with fail
  refine (dkMade_nil w).mono ?_
  rintro e w4 ⟨rfl, rfl⟩
  go_wp2_with fail
  go_ret
  exact ⟨rfl, rfl⟩
set_option maxHeartbeats 4000000 in
theorem dkCrash_any (h : Dsk w p O D) (A : Option Addr) (n c : Nat) (ks : List (Int × Int)) (hk : KRd w A n ks) (hn : n ≤ 140737488355328) :
    Calls Tryz.prog 20 #[.pointer (some ⟨p, 0, none⟩), .slice A n c] w fun e w' => e = .returned (.int .i64 (D.crashE ks)) ∧ AftD w p O (D.crash ks) w' := by
  have h0 := Lib.hid h
  have cm := dkMade_any h
  have hmm := @run_makeMap Tryz.prog
  go_enter Tryz.func20, Tryz.ntmps20
  go_wp2_with fail
  refine cm.mono ?_
  rintro e w1 ⟨rfl, rfl⟩
  clear cm
  go_wp2_with fail
  have m0 := MapZ.made w
  have f0 : Fr [] w (w.alloc (.map #[] 0)) := (Fr.refl _ _).alloc _
  obtain ⟨m2, hm2⟩ : ∃ m2, w.heap.size = m2 := ⟨_, rfl⟩
  rw [hm2] at m0 ⊢
  have HM2 := Lib.hid hm2
  have HKL := Lib.hid hk.len
  clear hm2
  go_loopw [18] (fun i wr => ∃ k : Nat, k ≤ n ∧ i = .int .i64 k ∧ MapZ wr m2 k (kfV ks k) ∧ (∀ j, j < k → okOne D ks j = true) ∧ Fr [] w wr) (fun i _ => n - (intOf i).toNat)
  case atStart => exact ⟨0, Nat.zero_le _, rfl, m0, fun j hj => absurd hj (by omega), f0⟩
  case round =>
    clear m0 f0
    obtain ⟨k, hkn, rfl, mk, hall, F⟩ := hrel
    by_cases hlt : k < n
    · have hkl : k < ks.length := by rw [HKL.out]; exact hlt
      obtain ⟨g, o, rfl, c0, c1⟩ := hk.cell k hkl
      obtain ⟨wx, wy⟩ := hk.in64 _ (List.getElem_mem hkl)
      have hsucc := kfD_succ ks k hkl
      have hgd : ks.getD k (0, 0) = ks[k] := by simp [hkl]
      replace c0 := F.cell (by simp) c0
      replace c1 := F.cell (by simp) c1
      generalize ks[k] = pr at *
      obtain ⟨x, y⟩ := pr
      dsimp only at c0 c1 wx wy hsucc
      have HK := Lib.hid (And.intro hkl hgd)
      have HS := Lib.hid hsucc
      have HALL := Lib.hid hall
      obtain ⟨W, hW⟩ : ∃ W, wr.alloc (.cells #[.int .i64 x, .int .i64 y] 78) = W := ⟨_, rfl⟩
      obtain ⟨b9, hb9⟩ : ∃ b9, wr.heap.size = b9 := ⟨_, rfl⟩
      have k9 : Blk W b9 78 #[.int .i64 x, .int .i64 y] := by rw [← hW, ← hb9]; exact Blk.new _ _ _
      have f9 : Fr [] wr W := by rw [← hW]; exact (Fr.refl _ _).alloc _
      have HW := Lib.hid hW
      have HB9 := Lib.hid hb9
      replace mk := mk.keep_nil f9
      replace F := F.trans_nil f9
      clear hW hb9 hkl hgd hsucc hall f9
      go_upto_region 7 with fail
      rw [HW.out, HB9.out]
      have e0 := k9.cell 0
      have e1 := k9.cell 1
      simp at e0 e1
      clear c0 c1
      obtain ⟨X, hX⟩ := h0.out
      have hXW := hX.keep_nil F
      have cp1 := hXW.c1
      have hl0 := fun q => (hXW.map.keep_nil ((Fr.refl [] W).drewN q)).look Tryz.underlying51 (zeroBBD _) wx
      obtain ⟨Av, cv, hv⟩ := hXW.unv x
      rw [hv] at hl0
      obtain ⟨ln, hln⟩ : ∃ ln, (D.uns x).length = ln := ⟨_, rfl⟩
      rw [hln] at hl0
      have HLN := Lib.hid hln
      have HL0 := Lib.hid hl0
      clear hv hln hX hXW hl0
      cases hkf : kfD ks k x with
      | some z =>
        have HKF := Lib.hid (show kfV ks k x = some (.int .i64 z) by rw [kfV, hkf]; rfl)
        have HN := Lib.hid (show kfD ks k x ≠ none by rw [hkf]; simp)
        clear hkf
        go_upto_region 8 with (refine wpList_lookOkZ rfl rfl Tryz.underlying76 (zeroIntD _) rfl mk x rfl wx ?_; rw [HKF.out]; simp only [Option.getD_some, Option.isSome_some])
        go_quiet (fail)
        have Fq := F.trans_nil ((Fr.refl [] W).drewN nq)
        generalize World.drewN W nq = Wq at *
        have HV := Lib.hid (show D.crashE ks = 1 ∧ D = D.crash ks by have := crOk_no (D := D) HK.out.1 (okOne_no1 HK.out.2 HN.out); exact ⟨by rw [DkM.crashE, this]; rfl, by rw [DkM.crash, this]; rfl⟩)
        have FIN := Lib.hid (((AftD.same (h0.keep_nil Fq)).pre Fq).eq HV.out.2)
        go_wp2_with fail
        go_ret
        exact ⟨by rw [HV.out.1]; rfl, FIN.out⟩
      | none =>
        have HKF := Lib.hid (show kfV ks k x = none by rw [kfV, hkf]; rfl)
        have HN := Lib.hid hkf
        clear hkf
        cases his : D.is x
        · have HIS := Lib.hid his
          have ci : ∀ q, Calls Tryz.prog 36 #[.pointer (some ⟨p, 0, none⟩), .int .i64 x] (W.drewN q) fun e w' => e = .returned (.bool false) ∧ W.drewN q = w' := fun q => by have := dkIs_any ((h0.out.keep_nil F).keep_nil ((Fr.refl [] _).drewN q)) x; rwa [his] at this
          have CI := Lib.hid ci
          clear his ci
          go_upto_region 8 with (refine wpList_lookOkZ rfl rfl Tryz.underlying76 (zeroIntD _) rfl mk x rfl wx ?_; rw [HKF.out]; simp only [Option.getD_none, Option.isSome_none])
          go_quiet ((go_at_call 36; exact Calls.quiet_of_same ((CI.out _).mono fun e w' h => ⟨h.1, h.2.symm⟩)))
          have Fq := F.trans_nil ((Fr.refl [] W).drewN nq)
          generalize World.drewN W nq = Wq at *
          have HV := Lib.hid (show D.crashE ks = 1 ∧ D = D.crash ks by have := crOk_no (D := D) HK.out.1 (okOne_no2 HK.out.2 HIS.out); exact ⟨by rw [DkM.crashE, this]; rfl, by rw [DkM.crash, this]; rfl⟩)
          have FIN := Lib.hid (((AftD.same (h0.keep_nil Fq)).pre Fq).eq HV.out.2)
          go_wp2_with fail
          go_ret
          exact ⟨by rw [HV.out.1]; rfl, FIN.out⟩
        · have HIS := Lib.hid his
          have ci : ∀ q, Calls Tryz.prog 36 #[.pointer (some ⟨p, 0, none⟩), .int .i64 x] (W.drewN q) fun e w' => e = .returned (.bool true) ∧ W.drewN q = w' := fun q => by have := dkIs_any ((h0.out.keep_nil F).keep_nil ((Fr.refl [] _).drewN q)) x; rwa [his] at this
          have CI := Lib.hid ci
          clear his ci
          by_cases hy : y < 0
          · go_upto_region 8 with (refine wpList_lookOkZ rfl rfl Tryz.underlying76 (zeroIntD _) rfl mk x rfl wx ?_; rw [HKF.out]; simp only [Option.getD_none, Option.isSome_none])
            go_quiet ((go_at_call 36; exact Calls.quiet_of_same ((CI.out _).mono fun e w' h => ⟨h.1, h.2.symm⟩)))
            have Fq := F.trans_nil ((Fr.refl [] W).drewN nq)
            generalize World.drewN W nq = Wq at *
            have HV := Lib.hid (show D.crashE ks = 1 ∧ D = D.crash ks by have := crOk_no (D := D) HK.out.1 (okOne_no3 HK.out.2 (.inl hy)); exact ⟨by rw [DkM.crashE, this]; rfl, by rw [DkM.crash, this]; rfl⟩)
            have FIN := Lib.hid (((AftD.same (h0.keep_nil Fq)).pre Fq).eq HV.out.2)
            go_wp2_with fail
            go_ret
            exact ⟨by rw [HV.out.1]; rfl, FIN.out⟩
          · by_cases hy2 : (ln : Int) < y
            · have HY := Lib.hid (show ((D.uns x).length : Int) < y by rw [HLN.out]; exact hy2)
              have hl0 := HL0.out
              go_upto_region 8 with (refine wpList_lookOkZ rfl rfl Tryz.underlying76 (zeroIntD _) rfl mk x rfl wx ?_; rw [HKF.out]; simp only [Option.getD_none, Option.isSome_none])
              go_quiet ((go_at_call 36; exact Calls.quiet_of_same ((CI.out _).mono fun e w' h => ⟨h.1, h.2.symm⟩)))
              clear hl0
              have Fq := F.trans_nil ((Fr.refl [] W).drewN nq)
              generalize World.drewN W nq = Wq at *
              have HV := Lib.hid (show D.crashE ks = 1 ∧ D = D.crash ks by have := crOk_no (D := D) HK.out.1 (okOne_no3 HK.out.2 (.inr HY.out)); exact ⟨by rw [DkM.crashE, this]; rfl, by rw [DkM.crash, this]; rfl⟩)
              have FIN := Lib.hid (((AftD.same (h0.keep_nil Fq)).pre Fq).eq HV.out.2)
              go_wp2_with fail
              go_ret
              exact ⟨by rw [HV.out.1]; rfl, FIN.out⟩
            · have HY := Lib.hid (show 0 ≤ y ∧ y ≤ ((D.uns x).length : Int) by rw [HLN.out]; omega)
              have hl0 := HL0.out
              go_upto_region 8 with (refine wpList_lookOkZ rfl rfl Tryz.underlying76 (zeroIntD _) rfl mk x rfl wx ?_; rw [HKF.out]; simp only [Option.getD_none, Option.isSome_none])
              go_quiet ((go_at_call 36; exact Calls.quiet_of_same ((CI.out _).mono fun e w' h => ⟨h.1, h.2.symm⟩)))
              clear hl0
              have fq := (Fr.refl [] W).drewN nq
              have Fq := F.trans_nil fq
              replace mk := mk.keep_nil fq
              replace k9 := k9.keep_nil fq
              generalize World.drewN W nq = Wq at *
              have e0 := k9.cell 0
              have e1 := k9.cell 1
              simp at e0 e1
              go_wp2_with (refine wpList_putZ rfl rfl Tryz.underlying76 rfl mk (by unfold maxLen; omega) x rfl wx _ rfl ?_; intro w5 m5 f5 s5)
              refine ⟨⟨k + 1, by omega, by go_num, m5.eq (fun z _ => ?_), fun j hj => ?_, Fq.trans f5 (fun i hi => .inr (by rw [List.mem_singleton.1 hi, HM2.out]; exact Nat.le_refl _))⟩, by simp [intOf]; omega⟩
              · unfold kfV fput
                rw [HS.out HN.out z]
                by_cases e : z = x
                · rw [if_pos e, if_pos e]; rfl
                · rw [if_neg e, if_neg e]
              · by_cases e : j = k
                · subst e; exact okOne_yes HK.out.2 HN.out HIS.out HY.out.1 HY.out.2
                · exact HALL.out j (by omega)
    · obtain rfl : k = n := by omega
      have hc : crOk D ks = true := crOk_iff.2 fun i hi => hall i (by rw [← HKL.out]; exact hi)
      have HC := Lib.hid hc
      have HV := Lib.hid (show D.crashE ks = 0 ∧ D.crDone ks = D.crash ks from ⟨by rw [DkM.crashE, hc]; rfl, by rw [DkM.crash, hc]; rfl⟩)
      obtain ⟨X, hX⟩ := h0.out
      have HX := Lib.hid hX
      obtain ⟨r2, hr2⟩ : ∃ r2, wr.heap.size = r2 := ⟨_, rfl⟩
      have HR2 := Lib.hid (And.intro hr2 (show (∀ i ∈ O, i ≠ r2) ∧ (∀ i ∈ O, i ≠ m2) ∧ w.heap.size ≤ r2 from ⟨fun i hi => by have := hX.lt i hi; have := F.size; omega, fun i hi => by have := hX.lt i hi; have := HM2.out; omega, by have := F.size; omega⟩))
      clear hc hall hr2 hX
      go_wp2_with (first | (at_range; refine wpList_rangeZ rfl rfl Tryz.underlying76 rfl mk ?_; intro w0 cnt0 hrg f0 s0; rw [HR2.out.1]; rw [HR2.out.1] at hrg; go_frame))
      have F0 : Fr O w w0 := (F.trans_nil f0).mono (by simp)
      have hX0 := HX.out.keep_nil (F.trans_nil f0)
      clear f0 s0 mk F
      go_loopw [10] (fun _ wq => ∃ left cnt vs, RangeZ wq m2 r2 k (kfV ks k) left cnt ∧ DskX wq p O (D.crL ks left) { X with vs := vs } ∧ Fr O w wq) (fun _ wq => wq.rangeLeft m2 r2)
      case atStart =>
        refine ⟨_, _, X.vs, hrg, ?_, F0⟩
        rw [DkM.crL_start]
        · exact hX0
        · intro i hi
          rw [HKL.out]
          have : kfV ks k i = none := by simpa using hi
          unfold kfV at this
          simpa using this
      case round =>
        clear hrg hX0 F0
        obtain ⟨left, cnt, vs, hrg, h, F⟩ := hrel
        have c1r := h.c1
        go_wp2_with (at_next; refine wpList_nextZ rfl rfl rfl hrg ?_ ?_)
        · intro hl0
          have mz := h.map
          have hlen := h.n1.2
          rw [DkM.crL_len] at hlen
          go_upto_region 18 with (refine wpList_clearZ rfl rfl Tryz.underlying51 rfl mz ?_; intro w2 m2' f2 s2)
          have h2 := h.clr f2 m2'
          rw [DkM.crL_end D ks left (fun i hi => hl0 i (wfZ_of (by omega)))] at h2
          have F2 := F.trans f2 (fun i hi => .inl (by rw [List.mem_singleton.1 hi]; exact h.mO))
          have cc := h2.c2
          have zc := h2.blk.frozen 2
          have fs : Fr [p] w2 (w2.setCell ⟨p, 2, none⟩ (.int .i64 (-1))) := (Fr.refl [p] w2).setCell (.inl (by simp)) _
          have h3 := h2.setp fs (-1) (by omega) (h2.blk.set_ 2 _)
          have FIN : AftD w p O (D.crash ks) (w2.setCell ⟨p, 2, none⟩ (.int .i64 (-1))) := by
            rw [← HV.out.2]
            exact ⟨O, ⟨_, h3⟩, fun i hi => .inl hi, F2.trans fs (fun i hi => .inl (by rw [List.mem_singleton.1 hi]; exact h2.pO))⟩
          have HF := Lib.hid FIN
          clear h2 h3 FIN h F F2
          go_wp2_with fail
          go_ret
          exact ⟨by rw [HV.out.1]; rfl, HF.out⟩
        · intro x v w1 cnt1 hwx hlx hfx hrg1 hlt f1 s1 hen
          obtain ⟨z, hz, rfl⟩ : ∃ z, kfD ks k x = some z ∧ v = .int .i64 z := by
            unfold kfV at hfx
            cases hq : kfD ks k x with
            | none => rw [hq] at hfx; cases hfx
            | some z => rw [hq] at hfx; exact ⟨z, rfl, by simpa using hfx.symm⟩
          obtain ⟨hx, hz0, hzl⟩ := kfD_ok (D := D) HC.out (by rw [HKL.out]; exact hz)
          have rO : r2 ∉ O := fun hm => HR2.out.2.1 r2 hm rfl
          have h1 := h.keep f1 (fun i hi hm => rO (by rw [← List.mem_singleton.1 hm]; exact hi)) (hrg.noTy _)
          have F1 := F.trans f1 (fun i hi => .inr (by rw [List.mem_singleton.1 hi]; exact HR2.out.2.2.2))
          have HLE := Lib.hid hrg.left_eq
          have HL := Lib.hid hlt
          by_cases hzp : 0 < z
          · obtain ⟨h5, h6⟩ := DkM.is_iff.1 hx
            obtain ⟨i, rfl⟩ : ∃ i : Nat, x = i := ⟨x.toNat, by omega⟩
            have hi : i < D.sure.length := by omega
            obtain ⟨j, rfl⟩ : ∃ j : Nat, z = (j : Int) + 1 := ⟨(z - 1).toNat, by omega⟩
            have hjl : j < (D.uns i).length := by omega
            have hne : D.uns i ≠ [] := by intro e; rw [e] at hjl; simp at hjl
            obtain ⟨u, hu⟩ : ∃ u, X.f i = some u := by
              cases hq : X.f i with
              | none => exact absurd ((h1.iff i).1 hq) hne
              | some u => exact ⟨u, rfl⟩
            obtain ⟨ur, _⟩ := h1.un i u hu
            obtain ⟨g, c', ub, rfl, cu, bu⟩ := ur.at (j := j) hjl
            obtain ⟨hb5, rb⟩ := id bu
            obtain ⟨g2, c2, rfl⟩ := rb.hdD (by omega)
            have bj : ((D.crL ks left).uns i)[j]'hjl = (D.uns i).getD (((j : Int) + 1).toNat - 1) [] := by
              have e : ((j : Int) + 1).toNat - 1 = j := by omega
              rw [e]
              show (D.uns i)[j] = _
              simp [hjl]
            rw [bj] at bu
            have hl := (h1.map.keep_nil ((Fr.refl [] w1).drew)).look Tryz.underlying51 (zeroBBD _) hwx
            rw [show (DkX.f { X with vs := vs }) i = X.f i from rfl, hu] at hl
            simp only [Option.getD_some] at hl
            obtain ⟨ln, hln⟩ : ∃ ln, ((D.crL ks left).uns i).length = ln := ⟨_, rfl⟩
            rw [hln] at hl
            have hjn : j < ln := by rw [← hln]; exact hjl
            have c0s := h1.c0
            have c1s := h1.c1
            rw [DkM.crL_len] at c0s
            have srow := h1.row
            rw [DkM.crL_len] at srow
            obtain ⟨N, hN⟩ : ∃ N, D.sure.length = N := ⟨_, rfl⟩
            rw [hN] at c0s hi srow
            have x0 := (srow.setD i hi .nilFunc).1
            have y0 := (srow.setD i hi .nilFunc).2.1
            dsimp only at x0 y0 c0s c1s
            have hvk : i < vs.length := by have := srow.1; dsimp only at this; omega
            rw [List.getElem?_eq_getElem hvk] at x0
            obtain ⟨old, hold⟩ : ∃ old, vs[i] = old := ⟨_, rfl⟩
            rw [hold] at x0
            have j48 : (j : Int) + 1 ≤ 9223372036854775807 := (wfZ_b (hk.in64 _ (kfD_mem hz)).2).2
            have UN : IntKind.i64.wrap ((j : Int) + 1 - 1) = j := by rw [show (j : Int) + 1 - 1 = j by omega]; exact IntWalk.i64_in _ (by omega)
            have UN2 : IntKind.i64.wrap (j : Int) = j := IntWalk.i64_in _ (by omega)
            have K1 : (j : Int) < ln := by omega
            have KI : (i : Int) < N := by omega
            have HH := Lib.hid h1
            have HK := Lib.hid (And.intro hN (And.intro hi hz))
            have HB := Lib.hid bu
            have HF1 := Lib.hid F1
            clear hold hN h1 bu rb hb5 srow hne h hrg hlt hx hz ur hln h5 h6 hzl hz0 hu bj hjl F1 F hvk
            go_upto_region 16 with fail
            go_still_tail 16, (by kernel_rfl)
            have fz := (Fr.refl [] w1).drew
            obtain ⟨w8, hw8⟩ : ∃ w8, w1.drew = w8 := ⟨_, rfl⟩
            change wpList _ _ _ _ _ (World.drew w1)
            rw [hw8] at fz ⊢
            replace x0 := fz.cell (by simp) x0
            have h8 := HH.out.keep_nil fz
            have srow := h8.row
            rw [DkM.crL_len, HK.out.1] at srow
            replace y0 := (srow.setD i hi .nilFunc).2.1
            dsimp only at y0
            have hset := h8.setS (i := i) (by rw [DkM.crL_len, HK.out.1]; exact hi) (v := .slice (some ⟨g2, 0, none⟩) 512 c2) (s := some ((D.uns i).getD (((j : Int) + 1).toNat - 1) [])) (HB.out.keep_nil fz)
            rw [← DkM.crL_step D ks left (by rw [HK.out.1]; exact hi) (by rw [HKL.out]; exact HK.out.2.2) (by omega)] at hset
            have fs : Fr [X.g] w8 (w8.setCell ⟨X.g, i, none⟩ (.slice (some ⟨g2, 0, none⟩) 512 c2)) := (Fr.refl [X.g] w8).setCell (.inl (by simp)) _
            have hg2 : r2 ≠ X.g := fun e => HR2.out.2.1 X.g h8.gO e.symm
            have hm2 : m2 ≠ X.g := fun e => HR2.out.2.2.1 X.g h8.gO e.symm
            have hrg8 := (hrg1.keep fz (by simp) (by simp)).keep fs (by simpa using hm2) (by simpa using hg2)
            have F8 := (HF1.out.trans_nil fz).trans fs (fun i hi => .inl (by rw [List.mem_singleton.1 hi]; exact h8.gO))
            have HS := Lib.hid (And.intro hset (And.intro hrg8 F8))
            clear h8 srow hset hrg8 F8 hw8 fz hrg1 hl
            go_wp2_with fail
            obtain ⟨hset, hrg8, F8⟩ := HS.out
            refine ⟨⟨_, cnt1, _, hrg8, hset, F8⟩, ?_⟩
            rw [hrg8.left_eq, HLE.out]
            exact HL.out
          · have HS := Lib.hid (And.intro hrg1 (And.intro h1 F1))
            have hst : D.crL ks (fun y => left y && !(y == x)) = D.crL ks left := by
              obtain ⟨h5, h6⟩ := DkM.is_iff.1 hx
              obtain ⟨i, rfl⟩ : ∃ i : Nat, x = i := ⟨x.toNat, by omega⟩
              exact DkM.crL_stay D ks left (by rw [HKL.out]; exact hz) hzp
            have HST := Lib.hid hst
            clear hrg1 h1 F1 hst hrg h F hlt f1
            go_wp2_with fail
            obtain ⟨hrg8, h8, F8⟩ := HS.out
            refine ⟨⟨_, cnt1, vs, hrg8, by rw [HST.out]; exact h8, F8⟩, ?_⟩
            rw [hrg8.left_eq, HLE.out]
            exact HL.out
end
end Go.Proofs.YtamifdfkgbaobaaGreatDoor
/-
  Layer 10 (disk): what must come of every program.
-/
set_option linter.unusedSimpArgs false
set_option linter.unusedVariables false
set_option linter.unnecessarySimpa false
namespace Go.Proofs.YtamifdfkgbaobaaGreatDoor
open Go.RowKit
set_option maxRecDepth 100000

/-- A disk that was made behind w, as it lies in w'. -/
def LV (w w' : World) (p : Nat) (D : DkM) : Prop := ∃ O, Dsk w' p O D ∧ (∀ i ∈ O, w.heap.size ≤ i) ∧ Fr [] w w'
section
variable {w w1 w2 : World} {p : Nat} {O : List Nat} {D D' : DkM}
theorem LV.fr (h : LV w w1 p D) : Fr [] w w1 := by obtain ⟨O, _, _, f⟩ := h; exact f
theorem LV.keep (h : LV w w1 p D) (f : Fr [] w1 w2) : LV w w2 p D := by
  obtain ⟨O, h1, h2, h3⟩ := h
  exact ⟨O, h1.keep_nil f, h2, h3.trans_nil f⟩
theorem LV.aft (hO : ∀ i ∈ O, w.heap.size ≤ i) (f : Fr [] w w1) (h : AftD w1 p O D w2) : LV w w2 p D := by
  obtain ⟨O', k1, k2, k3⟩ := h
  refine ⟨O', k1, fun i hi => ?_, f.trans k3 (fun i hi => .inr (hO i hi))⟩
  rcases k2 i hi with h3 | h3
  · exact hO i h3
  · exact Nat.le_trans f.size h3
theorem LV.of_new {x : Int} {e : Ending} (hx : 1 ≤ x ∧ x ≤ 4096) (h : NewC w x e w1) : ∃ p, e = .returned (.tuple #[.pointer (some ⟨p, 0, none⟩), .int .i64 0]) ∧ LV w w1 p (newD x.toNat) := by
  rw [NewC, if_pos hx] at h
  obtain ⟨p, O, rfl, h1, h2, h3⟩ := h
  exact ⟨p, rfl, O, h1, h2, h3⟩
theorem LV.write (h : LV w w1 p D) (x : Int) (A : Option Addr) (n c : Nat) (b : List UInt8) (hb : b.length = n) (rd : Rd w1 A (bvs b)) (hA : A = none → n = 0) (hl : (D.uns x).length ≤ 4398046511104) :
    Calls Tryz.prog 45 #[.pointer (some ⟨p, 0, none⟩), .int .i64 x, .slice A n c] w1 fun e w' => e = .returned (.int .i64 (D.writeE x n)) ∧ LV w w' p (D.write x b) := by
  obtain ⟨O, h1, h2, h3⟩ := h
  exact (dkWrite_any h1 x A n c b hb rd hA hl).mono fun e w' ⟨he, ha⟩ => ⟨he, LV.aft h2 h3 ha⟩
theorem LV.flush (h : LV w w1 p D) : Calls Tryz.prog 42 #[.pointer (some ⟨p, 0, none⟩)] w1 fun e w' => e = .returned (.int .i64 D.flushE) ∧ LV w w' p D.flush := by
  obtain ⟨O, h1, h2, h3⟩ := h
  exact (dkFlush_any h1).mono fun e w' ⟨he, ha⟩ => ⟨he, LV.aft h2 h3 ha⟩
theorem LV.crash (h : LV w w1 p D) (A : Option Addr) (n c : Nat) (ks : List (Int × Int)) (hk : KRd w1 A n ks) (hn : n ≤ 140737488355328) :
    Calls Tryz.prog 20 #[.pointer (some ⟨p, 0, none⟩), .slice A n c] w1 fun e w' => e = .returned (.int .i64 (D.crashE ks)) ∧ LV w w' p (D.crash ks) := by
  obtain ⟨O, h1, h2, h3⟩ := h
  exact (dkCrash_any h1 A n c ks hk hn).mono fun e w' ⟨he, ha⟩ => ⟨he, LV.aft h2 h3 ha⟩
theorem LV.read (h : LV w w1 p D) (x : Int) : Calls Tryz.prog 40 #[.pointer (some ⟨p, 0, none⟩), .int .i64 x] w1 fun e w' => ReadC w1 (D.readR x) (D.readE x) e w' ∧ LV w w' p D := by
  obtain ⟨O, h1, h2, h3⟩ := id h
  exact (dkRead_any h1 x).mono fun e w' hu => ⟨hu, by obtain ⟨v, _, _, f⟩ := hu; exact h.keep f⟩
theorem LV.sure (h : LV w w1 p D) (x : Int) : Calls Tryz.prog 14 #[.pointer (some ⟨p, 0, none⟩), .int .i64 x] w1 fun e w' => SureC w1 (D.sureR x) e w' ∧ LV w w' p D := by
  obtain ⟨O, h1, h2, h3⟩ := id h
  exact (dkSure_any h1 x).mono fun e w' hu => ⟨hu, by obtain ⟨v, _, _, f⟩ := hu; exact h.keep f⟩
theorem LV.len (h : LV w w1 p D) : Calls Tryz.prog 49 #[.pointer (some ⟨p, 0, none⟩)] w1 fun e w' => e = .returned (.int .i64 D.sure.length) ∧ w1 = w' := by
  obtain ⟨O, h1, h2, h3⟩ := h
  exact dkLen_any h1
end

theorem lv1 (b : List UInt8) (hb : b.length = 512) : (newD 4).write 3 b = (newD 4).wr 3 b := by
  rw [DkM.write, hb, if_neg (by decide), if_neg (by decide)]
  rfl
def lvD (b c : List UInt8) : DkM := ((newD 4).wr 3 b).wr 3 c
theorem lv2 (b c : List UInt8) (hb : b.length = 512) (hc : c.length = 512) : ((newD 4).wr 3 b).write 3 c = lvD b c := by
  rw [DkM.write, hc, show ((newD 4).wr 3 b).mayE 3 512 = 0 from rfl, show ((newD 4).wr 3 b).off = false from rfl]
  rfl
theorem lvD_uns (b c : List UInt8) (x : Int) : (lvD b c).uns x = if x = 3 then [b, c] else [] := by
  simp only [lvD, DkM.wr, DkM.wrL, newD]
  by_cases h : x = 3
  · simp [h]
  · simp [h]
theorem lv3 (b c : List UInt8) : (lvD b c).crashE [(3, 1)] = 0 ∧ (lvD b c).crash [(3, 1)] = ⟨[none, none, none, some b], fun _ => [], -1⟩ := by
  have h : crOk (lvD b c) [(3, 1)] = true := rfl
  rw [DkM.crashE, DkM.crash, h]
  exact ⟨rfl, rfl⟩
def lvE (b : List UInt8) : DkM := ⟨[none, none, none, some b], fun _ => [], -1⟩
theorem lv4 (b : List UInt8) : (lvE b).readE 3 = 0 ∧ (lvE b).readR 3 = b ∧ (lvE b).readE 4 = 100 ∧ (lvE b).readR 4 = [] ∧ (lvE b).sure.length = 4 := ⟨rfl, rfl, rfl, rfl, rfl⟩
def bX : List UInt8 := blkOf [120]
def bY : List UInt8 := blkOf [121]
theorem bX_len : bX.length = 512 := blkOf_len _
theorem bY_len : bY.length = 512 := blkOf_len _
theorem lvW1 (n : Nat) (hn : n = 512) : (newD 4).writeE 3 n = 0 := by subst hn; rfl
end Go.Proofs.YtamifdfkgbaobaaGreatDoor
/-
  Words of 32 bits: how the model's numbers go over into UInt32. SHA-256 as plain functions over lists. No program of the seat is named here.
-/
set_option linter.unusedSimpArgs false
set_option linter.unusedVariables false
set_option linter.unnecessarySimpa false
namespace Go.Proofs.YtamifdfkgbaobaaGreatDoor
open Go.RowKit

/-- A word as the model has it. -/
def uw (x : UInt32) : Int := (x.toNat : Int)
def wv (x : UInt32) : Value := .int .u32 (uw x)
def wvs (l : List UInt32) : List Value := l.map wv
theorem wvs_length (l : List UInt32) : (wvs l).length = l.length := by simp [wvs]
theorem wvs_append (a b : List UInt32) : wvs (a ++ b) = wvs a ++ wvs b := by simp [wvs]
theorem wvs_one (l : List UInt32) : ∀ u ∈ wvs l, u.oneCell' = true := by
  intro u hu
  obtain ⟨x, _, rfl⟩ := List.mem_map.1 hu
  rfl
theorem wvs_at {l : List UInt32} {k : Nat} (h : k < l.length) : (wvs l)[k]? = some (.int .u32 (uw l[k])) := by simp [wvs, h, wv]
theorem wvs_set (l : List UInt32) (k : Nat) (x : UInt32) : (wvs l).set k (.int .u32 (uw x)) = wvs (l.set k x) := by simp [wvs, List.map_set, wv]

theorem uw_nat {x : UInt32} : uw x = ((x.toNat : Nat) : Int) := rfl
theorem uw_add (a b : UInt32) : IntKind.u32.wrap (uw a + uw b) = uw (a + b) := by
  simp only [uw, UInt32.toNat_add, IntKind.wrap_u32]; omega
theorem uw_xor (a b : UInt32) : bits .xor .u32 (uw a) (uw b) = uw (a ^^^ b) := by
  simp only [uw]; rw [u32_xor_nat _ _ a.toNat_lt b.toNat_lt, UInt32.toNat_xor]
theorem uw_or (a b : UInt32) : bits .or .u32 (uw a) (uw b) = uw (a ||| b) := by
  simp only [uw]; rw [u32_or_nat _ _ a.toNat_lt b.toNat_lt, UInt32.toNat_or]
theorem uw_and (a b : UInt32) : bits .and .u32 (uw a) (uw b) = uw (a &&& b) := by
  simp only [uw]; rw [u32_and_nat _ _ a.toNat_lt b.toNat_lt, UInt32.toNat_and]
theorem uw_byte (b : UInt8) : IntKind.u32.wrap (b.toNat : Int) = uw b.toUInt32 := by
  have := b.toNat_lt
  simp only [uw, UInt8.toNat_toUInt32, IntKind.wrap_u32]; omega

/-- To the left, to the right by a number of places. -/
def shl (x : UInt32) (n : Nat) : UInt32 := UInt32.ofNat (x.toNat * 2 ^ n)
def shr (x : UInt32) (n : Nat) : UInt32 := UInt32.ofNat (x.toNat / 2 ^ n)
theorem uw_shl (x : UInt32) (n : Nat) : IntKind.u32.wrap (uw x * 2 ^ n) = uw (shl x n) := by
  have e : (uw x * 2 ^ n) = ((x.toNat * 2 ^ n : Nat) : Int) := by unfold uw; push_cast; rfl
  rw [e, IntKind.wrap_u32]
  simp only [uw, shl, UInt32.toNat_ofNat']
  omega
theorem uw_shr (x : UInt32) (n : Nat) : uw x / 2 ^ n = uw (shr x n) := by
  have e : (uw x / 2 ^ n) = ((x.toNat / 2 ^ n : Nat) : Int) := by unfold uw; push_cast; rfl
  have h : x.toNat / 2 ^ n < 4294967296 := Nat.lt_of_le_of_lt (Nat.div_le_self _ _) x.toNat_lt
  rw [e]
  simp only [uw, shr, UInt32.toNat_ofNat']
  generalize x.toNat / 2 ^ n = m at *
  omega
/-- Turned to the right. -/
def rotr (x : UInt32) (n : Nat) : UInt32 := shl x (32 - n) ||| shr x n
theorem rotr' (x : UInt32) (n : Nat) : shr x n ||| shl x (32 - n) = rotr x n := UInt32.or_comm _ _

def smallS0 (x : UInt32) : UInt32 := rotr x 7 ^^^ rotr x 18 ^^^ shr x 3
def smallS1 (x : UInt32) : UInt32 := rotr x 17 ^^^ rotr x 19 ^^^ shr x 10
def bigS0 (x : UInt32) : UInt32 := rotr x 2 ^^^ rotr x 13 ^^^ rotr x 22
def bigS1 (x : UInt32) : UInt32 := rotr x 6 ^^^ rotr x 11 ^^^ rotr x 25
theorem ch_eq (e f g : UInt32) : g ^^^ e &&& (f ^^^ g) = (e &&& f) ^^^ (~~~e &&& g) := by
  apply UInt32.toBitVec_inj.1
  apply BitVec.eq_of_getLsbD_eq
  intro i hi
  simp only [UInt32.toBitVec_xor, UInt32.toBitVec_and, UInt32.toBitVec_not, BitVec.getLsbD_xor, BitVec.getLsbD_and, BitVec.getLsbD_not, hi, decide_true, Bool.true_and]
  cases e.toBitVec.getLsbD i <;> cases f.toBitVec.getLsbD i <;> cases g.toBitVec.getLsbD i <;> rfl
theorem maj_eq (a b c : UInt32) : a &&& b ||| c &&& (a ||| b) = (a &&& b) ^^^ (a &&& c) ^^^ (b &&& c) := by
  apply UInt32.toBitVec_inj.1
  apply BitVec.eq_of_getLsbD_eq
  intro i hi
  simp only [UInt32.toBitVec_xor, UInt32.toBitVec_and, UInt32.toBitVec_or, BitVec.getLsbD_xor, BitVec.getLsbD_and, BitVec.getLsbD_or]
  cases a.toBitVec.getLsbD i <;> cases b.toBitVec.getLsbD i <;> cases c.toBitVec.getLsbD i <;> rfl
theorem uw_not (x : UInt32) : bits .xor .u32 (uw x) 4294967295 = uw (~~~x) := by
  have e : (4294967295 : Int) = uw 4294967295 := rfl
  rw [e, uw_xor]
  congr 1
  apply UInt32.toBitVec_inj.1
  apply BitVec.eq_of_getLsbD_eq
  intro i hi
  have h1 : (4294967295 : UInt32).toBitVec = BitVec.allOnes 32 := by decide
  rw [UInt32.toBitVec_xor, UInt32.toBitVec_not, BitVec.getLsbD_xor, BitVec.getLsbD_not, h1, BitVec.getLsbD_allOnes]
  simp [hi]

/-- A piece's word number k. -/
def wordAt (p : List UInt8) (k : Nat) : UInt32 := shl (p.getD (4 * k) 0).toUInt32 24 ||| shl (p.getD (4 * k + 1) 0).toUInt32 16 ||| shl (p.getD (4 * k + 2) 0).toUInt32 8 ||| (p.getD (4 * k + 3) 0).toUInt32
/-- The word that follows from those ahead. -/
def nextW (l : List UInt32) (k : Nat) : UInt32 := l.getD (k - 16) 0 + l.getD (k - 7) 0 + smallS0 (l.getD (k - 15) 0) + smallS1 (l.getD (k - 2) 0)
def sched (p : List UInt8) : Nat → List UInt32
  | 0 => []
  | k + 1 => sched p k ++ [if k < 16 then wordAt p k else nextW (sched p k) k]
theorem sched_length (p : List UInt8) : ∀ k, (sched p k).length = k
  | 0 => rfl
  | k + 1 => by rw [sched, List.length_append, sched_length p k]; rfl

/-- The eight words of a round. -/
structure S8 where
  a : UInt32
  b : UInt32
  c : UInt32
  d : UInt32
  e : UInt32
  f : UInt32
  g : UInt32
  h : UInt32
def S8.list (s : S8) : List UInt32 := [s.a, s.b, s.c, s.d, s.e, s.f, s.g, s.h]
def S8.one (s : S8) (k w : UInt32) : UInt32 := s.h + bigS1 s.e + (s.g ^^^ s.e &&& (s.f ^^^ s.g)) + k + w
def S8.two (s : S8) : UInt32 := bigS0 s.a + (s.a &&& s.b ||| s.c &&& (s.a ||| s.b))
def S8.step (s : S8) (k w : UInt32) : S8 := ⟨s.one k w + s.two, s.a, s.b, s.c, s.d + s.one k w, s.e, s.f, s.g⟩
def S8.run (s : S8) (ks ws : List UInt32) : Nat → S8
  | 0 => s
  | k + 1 => (s.run ks ws k).step (ks.getD k 0) (ws.getD k 0)
def S8.add (s t : S8) : S8 := ⟨s.a + t.a, s.b + t.b, s.c + t.c, s.d + t.d, s.e + t.e, s.f + t.f, s.g + t.g, s.h + t.h⟩

def kC : List UInt32 := [1116352408, 1899447441, 3049323471, 3921009573, 961987163, 1508970993, 2453635748, 2870763221, 3624381080, 310598401, 607225278, 1426881987, 1925078388, 2162078206, 2614888103, 3248222580, 3835390401, 4022224774, 264347078, 604807628, 770255983, 1249150122, 1555081692, 1996064986, 2554220882, 2821834349, 2952996808, 3210313671, 3336571891, 3584528711, 113926993, 338241895, 666307205, 773529912, 1294757372, 1396182291, 1695183700, 1986661051, 2177026350, 2456956037, 2730485921, 2820302411, 3259730800, 3345764771, 3516065817, 3600352804, 4094571909, 275423344, 430227734, 506948616, 659060556, 883997877, 958139571, 1322822218, 1537002063, 1747873779, 1955562222, 2024104815, 2227730452, 2361852424, 2428436474, 2756734187, 3204031479, 3329325298]
theorem kC_length : kC.length = 64 := rfl
def first8 : S8 := ⟨1779033703, 3144134277, 1013904242, 2773480762, 1359893119, 2600822924, 528734635, 1541459225⟩
/-- The state behind a piece. -/
def shaBlk (s : S8) (p : List UInt8) : S8 := s.add (s.run kC (sched p 64) 64)
/-- The state behind n pieces. -/
def shaRun (s : S8) (m : List UInt8) : Nat → S8
  | 0 => s
  | n + 1 => shaBlk (shaRun s m n) ((m.drop (64 * n)).take 64)
/-- A number in eight bytes, the greatest first. -/
def be8 (n : Nat) : List UInt8 := (List.range 8).map fun i => UInt8.ofNat (n / 2 ^ (56 - 8 * i))
/-- What stands behind n bytes. -/
def padB (n : Nat) : List UInt8 := 128 :: List.replicate ((119 - n % 64) % 64) 0 ++ be8 (n * 8)
def wordB (x : UInt32) : List UInt8 := [UInt8.ofNat (x.toNat / 2 ^ 24), UInt8.ofNat (x.toNat / 2 ^ 16), UInt8.ofNat (x.toNat / 2 ^ 8), UInt8.ofNat x.toNat]
def shaSum (l : List UInt8) : List UInt8 := (shaRun first8 (l ++ padB l.length) ((l.length + (padB l.length).length) / 64)).list.flatMap wordB
theorem shaSum_length (l : List UInt8) : (shaSum l).length = 32 := by simp [shaSum, S8.list, wordB]
end Go.Proofs.YtamifdfkgbaobaaGreatDoor
/-
  Contracts of codec's Reader: NewReader, Left, Done, Bytes, Zeros.
-/
set_option linter.unusedSimpArgs false
set_option linter.unusedVariables false
set_option linter.unnecessarySimpa false
namespace Go.Proofs.YtamifdfkgbaobaaGreatDoor
open Go.RowKit

/-- A Reader (a struct of type T: bytes left, 'refused') at block p; what is left lies in a block of G. -/
def Rdr (T : TypeId) (w : World) (p : Nat) (G : List Nat) (l : List UInt8) (bad : Bool) : Prop :=
  ∃ A c, Blk w p T #[.slice A l.length c, .bool bad] ∧ l.length ≤ c ∧ c ≤ maxLen ∧ l.length ≤ 140737488355328 ∧ Rd w A (bvs l) ∧ ∀ a, A = some a → a.block ∈ G

theorem Rdr.keep {T : TypeId} {w w' : World} {p : Nat} {G F : List Nat} {l : List UInt8} {bad : Bool} (h : Rdr T w p G l bad) (hf : Fr F w w') (hp : p ∉ F) (hG : ∀ g ∈ G, g ∉ F) : Rdr T w' p G l bad := by
  obtain ⟨A, c, h1, h2, h3, h4, h5, h6⟩ := h
  exact ⟨A, c, h1.keep hf hp, h2, h3, h4, h5.keep hf (fun g o e => hG g (h6 _ e)), h6⟩
theorem Rdr.mono {T : TypeId} {w : World} {p : Nat} {G G' : List Nat} {l : List UInt8} {bad : Bool} (h : Rdr T w p G l bad) (hG : ∀ g ∈ G, g ∈ G') : Rdr T w p G' l bad := by
  obtain ⟨A, c, h1, h2, h3, h4, h5, h6⟩ := h
  exact ⟨A, c, h1, h2, h3, h4, h5, fun a e => hG _ (h6 a e)⟩
theorem Rdr.lt {T : TypeId} {w : World} {p : Nat} {G : List Nat} {l : List UInt8} {bad : Bool} (h : Rdr T w p G l bad) : p < w.heap.size := by
  obtain ⟨A, c, h1, _⟩ := h
  exact h1.lt
theorem Rdr.len {T : TypeId} {w : World} {p : Nat} {G : List Nat} {l : List UInt8} {bad : Bool} (h : Rdr T w p G l bad) : l.length ≤ 140737488355328 := by
  obtain ⟨A, c, _, _, _, h4, _⟩ := h
  exact h4

/-- The bytes do not lie in the Reader's own block. -/
theorem rd_ne {w : World} {A : Option Addr} {l : List UInt8} {p : Nat} {T : TypeId} {cs : Array Value} (hr : Rd w A (bvs l)) (hb : Blk w p T cs) (hc : ∀ (i : Nat) (x : UInt8), cs[i]? ≠ some (bv x)) (hl : l ≠ []) {g o : Nat} (e : A = some ⟨g, o, none⟩) : g ≠ p := by
  rintro rfl
  cases l with
  | nil => exact hl rfl
  | cons x r =>
    obtain ⟨g', o', e', h⟩ := hr (by simp [bvs])
    rw [e] at e'; cases e'
    have := h 0 (bv x) (by simp [bvs])
    rw [hb.cell] at this
    exact hc _ _ this
theorem Rd.set_ {w : World} {A : Option Addr} {l : List UInt8} {p : Nat} {T : TypeId} {cs : Array Value} (hr : Rd w A (bvs l)) (hb : Blk w p T cs) (hc : ∀ (i : Nat) (x : UInt8), cs[i]? ≠ some (bv x)) (i : Nat) (v : Value) : Rd (w.setCell ⟨p, i, none⟩ v) A (bvs l) := by
  by_cases hl : l = []
  · subst hl; exact Rd.nil _ _
  · exact hr.keep ((Fr.refl [p] w).setCell (.inl (by simp)) v) (fun g o e => by simpa using rd_ne hr hb hc hl e)
theorem rdr_cells {A : Option Addr} {n c : Nat} {bad : Bool} : ∀ (i : Nat) (x : UInt8), (#[.slice A n c, .bool bad] : Array Value)[i]? ≠ some (bv x) := by
  intro i x
  match i with
  | 0 => simp [bv]
  | 1 => simp [bv]
  | i + 2 => simp

/-- A new Reader, from a row of its own. -/
theorem newReader_any (A : Option Addr) (l : List UInt8) (n c : Nat) (w : World) (hn : l.length = n) (hr : Rd w A (bvs l)) (hA : A = none → n = 0) (hl : n ≤ 140737488355328) :
    Calls Tryz.prog 96 #[.slice A n c] w fun e w' => ∃ p G, e = .returned (.pointer (some ⟨p, 0, none⟩)) ∧ Rdr 146 w' p G l false ∧ Fr [] w w' ∧ w.heap.size ≤ p ∧ (∀ g ∈ G, w.heap.size ≤ g ∧ g < w'.heap.size ∧ g ≠ p) := by
  subst hn
  go_enter Tryz.func96, Tryz.ntmps96
  go_wp2_with (go_at_call 37; refine (clone_any _ _ _ _ _ rfl hr hA hl).mono ?_; rintro e w1 ⟨v, rfl, h1, h2⟩; obtain ⟨B, cap, rfl, hn, hm, hrd, hlt, -⟩ := h1.shape)
  go_ret
  refine ⟨w1.heap.size, Rd.blks B, rfl, ⟨B, cap, Blk.new _ _ _, hn, hm, hl, hrd.alloc _, fun a e => by subst e; simp [Rd.blks]⟩, h2.alloc _, h2.size, fun g hg => ?_⟩
  unfold Rd.blks at hg
  cases B with
  | none => simp at hg
  | some a =>
    simp at hg
    subst hg
    have := hlt a rfl
    have := h2.size
    exact ⟨by omega, by simp; omega, by omega⟩

theorem rLeft_any {w : World} {p : Nat} {G : List Nat} {l : List UInt8} {bad : Bool} (h : Rdr 146 w p G l bad) :
    Calls Tryz.prog 114 #[.pointer (some ⟨p, 0, none⟩)] w fun e w' => e = .returned (.int .i64 l.length) ∧ w = w' := by
  obtain ⟨A, c, h1, h2, h3, h4, h5, h6⟩ := h
  have c0 := h1.cell 0
  simp at c0
  go_enter Tryz.func114, Tryz.ntmps114
  go_wp2
  go_ret
  exact ⟨rfl, rfl⟩

/-- Done: 0 is OK, 90 is ErrCode. -/
def doneE (l : List UInt8) (bad : Bool) : Int := if bad || !allZ l then 90 else 0

theorem rDone_any {w : World} {p : Nat} {G : List Nat} {l : List UInt8} {bad : Bool} (h : Rdr 146 w p G l bad) :
    Calls Tryz.prog 101 #[.pointer (some ⟨p, 0, none⟩)] w fun e w' => e = .returned (.int .i64 (doneE l bad)) ∧ w = w' := by
  obtain ⟨A, c, h1, h2, h3, h4, h5, h6⟩ := h
  have c0 := h1.cell 0
  have c1 := h1.cell 1
  simp at c0 c1
  cases bad with
  | true =>
    go_enter Tryz.func101, Tryz.ntmps101
    go_wp2
    go_ret
    exact ⟨rfl, rfl⟩
  | false =>
    cases hz : allZ l with
    | true =>
      have H := Lib.hid hz
      go_enter Tryz.func101, Tryz.ntmps101
      go_wp2_with (go_at_call 115; refine (zeros_any _ _ _ _ h5 h4).mono ?_; rintro e w' ⟨rfl, rfl⟩)
      go_ret
      exact ⟨by simp [doneE, H.out], rfl⟩
    | false =>
      have H := Lib.hid hz
      go_enter Tryz.func101, Tryz.ntmps101
      go_wp2_with (go_at_call 115; refine (zeros_any _ _ _ _ h5 h4).mono ?_; rintro e w' ⟨rfl, rfl⟩)
      go_ret
      exact ⟨by simp [doneE, H.out], rfl⟩

/-- What is refused. -/
theorem rBytes_bad {w : World} {p : Nat} {G : List Nat} {l : List UInt8} {bad : Bool} (h : Rdr 146 w p G l bad) (n : Int) (hn : bad = true ∨ n < 0 ∨ (l.length : Int) < n) :
    Calls Tryz.prog 97 #[.pointer (some ⟨p, 0, none⟩), .int .i64 n] w fun e w' => e = .returned (.slice none 0 0) ∧ Rdr 146 w' p G l true ∧ Fr [p] w w' := by
  obtain ⟨A, c, h1, h2, h3, h4, h5, h6⟩ := h
  have c0 := h1.cell 0
  have c1 := h1.cell 1
  have f1 := h1.frozen 1
  simp at c0 c1
  have fin : Rdr 146 (w.setCell ⟨p, 1, none⟩ (.bool true)) p G l true ∧ Fr [p] w (w.setCell ⟨p, 1, none⟩ (.bool true)) :=
    ⟨⟨A, c, by simpa using h1.set_ 1 (.bool true), h2, h3, h4, h5.set_ h1 rdr_cells _ _, h6⟩, (Fr.refl _ _).setCell (.inl (by simp)) _⟩
  cases bad with
  | true =>
    go_enter Tryz.func97, Tryz.ntmps97
    go_wp2
    go_ret
    exact ⟨rfl, fin⟩
  | false =>
    by_cases hn0 : n < 0
    · go_enter Tryz.func97, Tryz.ntmps97
      go_wp2
      go_ret
      exact ⟨rfl, fin⟩
    · have hn1 : (l.length : Int) < n := by simpa [hn0] using hn
      go_enter Tryz.func97, Tryz.ntmps97
      go_wp2
      go_ret
      exact ⟨rfl, fin⟩

theorem rdr_cut {T : TypeId} {w : World} {p : Nat} {G : List Nat} {l : List UInt8} {A : Option Addr} {c n : Nat} (h1 : Blk w p T #[.slice A l.length c, .bool false]) (h2 : l.length ≤ c) (h3 : c ≤ maxLen) (h4 : l.length ≤ 140737488355328) (h5 : Rd w A (bvs l)) (h6 : ∀ a, A = some a → a.block ∈ G) (hn : n ≤ l.length)
    (A' : Option Addr) (m c' : Nat) (hA : A' = A ∧ c = n ∨ A' = A.map (·.add n)) (hm : m = l.length - n) (hc : c' = c - n) :
    Rdr T (w.setCell ⟨p, 0, none⟩ (.slice A' m c')) p G (l.drop n) false := by
  subst hm hc
  have hl : (l.drop n).length = l.length - n := by simp
  refine ⟨A', c - n, ?_, by omega, by omega, by omega, ?_, ?_⟩
  · rw [hl]; simpa using h1.set_ 0 (.slice A' (l.length - n) (c - n))
  · have h7 : Rd w A' (bvs (l.drop n)) := by
      rcases hA with ⟨rfl, rfl⟩ | rfl
      · rw [List.drop_eq_nil_of_le (by omega)]; exact Rd.nil _ _
      · rw [bvs_drop]; exact h5.drop n
    exact h7.set_ h1 rdr_cells _ _
  · intro a e
    rcases hA with ⟨rfl, _⟩ | rfl
    · exact h6 a e
    · cases A with
      | none => cases e
      | some a0 =>
        simp only [Option.map_some, Option.some.injEq] at e
        rw [← e, add_block]
        exact h6 a0 rfl

set_option maxHeartbeats 400000 in
theorem rBytes_ok {w : World} {p : Nat} {G : List Nat} {l : List UInt8} (h : Rdr 146 w p G l false) (n : Nat) (hn : n ≤ l.length) :
    Calls Tryz.prog 97 #[.pointer (some ⟨p, 0, none⟩), .int .i64 n] w fun e w' => ∃ v, e = .returned v ∧ Row w' w.heap.size 5 1 v n (bvs (l.take n)) ∧ Rdr 146 w' p G (l.drop n) false ∧ Fr [p] w w' := by
  obtain ⟨A, c, h1, h2, h3, h4, h5, h6⟩ := h
  have c0 := h1.cell 0
  have c1 := h1.cell 1
  have f1 := h1.frozen 1
  have f0 := h1.frozen 0
  simp at c0 c1
  unfold maxLen at h3
  have d0 : decide ((n : Int) < 0) = false := by simp
  have d1 : decide (l.length < n) = false := by simpa using hn
  obtain ⟨W, hW⟩ : ∃ W : World, W = w.setCell ⟨p, 1, none⟩ (.bool false) := ⟨_, rfl⟩
  have hlen : (l.take n).length = n := by rw [List.length_take]; omega
  have hrd : Rd W A (bvs (l.take n)) := by rw [hW, bvs_take]; exact (h5.set_ h1 rdr_cells 1 _).take n
  have hAn : A = none → n = 0 := fun e => by
    rcases Nat.eq_zero_or_pos n with h | h
    · exact h
    · obtain ⟨g, o, e', _⟩ := h5.byte (k := 0) (by omega)
      rw [e] at e'; cases e'
  have hF0 : Fr [p] w W := by rw [hW]; exact (Fr.refl _ _).setCell (.inl (by simp)) _
  have hB0 : Blk W p 146 #[.slice A l.length c, .bool false] := by rw [hW]; simpa using h1.set_ 1 (.bool false)
  have hR0 : Rd W A (bvs l) := by rw [hW]; exact h5.set_ h1 rdr_cells 1 _
  have HW := Lib.hid hW
  have HL := Lib.hid hlen
  clear hW hlen
  go_enter Tryz.func97, Tryz.ntmps97
  go_wp2_with (go_at_call 37; rw [← HW.out]; refine (clone_any _ _ _ _ _ HL.out hrd hAn (by omega)).mono ?_; rintro e w1 ⟨v, rfl, g1, g2⟩; have b1 := hB0.keep g2 (by simp); have e0 := b1.cell 0; have e1 := b1.cell 1; have e2 := b1.frozen 0; simp at e0 e1)
  all_goals
    go_ret
    refine ⟨v, rfl, ?_, ?_, ?_⟩
    · exact (g1.mono (by have := hF0.size; omega)).keep (F := [p]) ((Fr.refl _ _).setCell (.inl (by simp)) _) (fun g hg => by have := g1.ne_blk b1 (by decide); rw [hg] at this; simpa using this)
    · exact rdr_cut b1 h2 (by unfold maxLen; exact h3) h4 (hR0.keep_nil g2) h6 hn _ _ _ (by first | exact .inl ⟨rfl, by omega⟩ | exact .inr rfl) rfl (by omega)
    · exact (hF0.trans_nil g2).setCell (.inl (by simp)) _
end Go.Proofs.YtamifdfkgbaobaaGreatDoor
