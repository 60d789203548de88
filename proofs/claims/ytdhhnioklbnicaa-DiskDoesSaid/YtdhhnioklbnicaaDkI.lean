/-
  Layer 10 (disk): Crash.
-/
import Derived.Test.YtdhhnioklbnicaaDkH
set_option linter.unusedSimpArgs false
set_option linter.unusedVariables false
set_option linter.unnecessarySimpa false
namespace Go.Proofs.Ytdhhnioklbnicaa
open Go.RowKit
set_option maxRecDepth 100000

/-- What k rounds have kept. -/
def kfD (ks : List (Int × Int)) (k : Nat) (x : Int) : Option Int := ((ks.take k).find? (fun p => p.1 == x)).map (·.2)
def kfV (ks : List (Int × Int)) (k : Nat) (x : Int) : Option Value := (kfD ks k x).map (Value.int .i64 ·)
theorem kfD_zero (ks : List (Int × Int)) (x : Int) : kfD ks 0 x = none := rfl
theorem kfD_succ (ks : List (Int × Int)) (k : Nat) (h : k < ks.length) (hn : kfD ks k ks[k].1 = none) (x : Int) : kfD ks (k + 1) x = if x = ks[k].1 then some ks[k].2 else kfD ks k x := by
  unfold kfD at hn ⊢
  rw [List.take_succ_eq_append_getElem h, List.find?_append]
  by_cases e : x = ks[k].1
  · rw [if_pos e]
    have h1 : (ks.take k).find? (fun p => p.1 == x) = none := by rw [e]; simpa using hn
    rw [h1]
    simp [e]
  · rw [if_neg e]
    have h2 : ([ks[k]] : List (Int × Int)).find? (fun p => p.1 == x) = none := by
      rw [List.find?_cons_of_neg]
      · rfl
      · simpa using fun e2 => e e2.symm
    rw [h2]
    simp
def okOne (D : DkM) (ks : List (Int × Int)) (i : Nat) : Bool := (kfD ks i (ks.getD i (0, 0)).1).isNone && (D.is (ks.getD i (0, 0)).1 && (decide (0 ≤ (ks.getD i (0, 0)).2) && decide ((ks.getD i (0, 0)).2 ≤ (D.uns (ks.getD i (0, 0)).1).length)))
def crOk (D : DkM) (ks : List (Int × Int)) : Bool := (List.range ks.length).all (okOne D ks)
theorem crOk_iff {D : DkM} {ks : List (Int × Int)} : crOk D ks = true ↔ ∀ i, i < ks.length → okOne D ks i = true := by simp [crOk]
theorem crOk_no {D : DkM} {ks : List (Int × Int)} {i : Nat} (h : i < ks.length) (hi : okOne D ks i = false) : crOk D ks = false := by
  cases hc : crOk D ks
  · rfl
  · rw [crOk_iff.1 hc i h] at hi; cases hi
theorem okOne_no1 {D : DkM} {ks : List (Int × Int)} {i : Nat} {x y : Int} (e : ks.getD i (0, 0) = (x, y)) (h : kfD ks i x ≠ none) : okOne D ks i = false := by
  unfold okOne
  rw [e]
  cases hk : kfD ks i x with
  | none => exact absurd hk h
  | some z => rfl
theorem okOne_no2 {D : DkM} {ks : List (Int × Int)} {i : Nat} {x y : Int} (e : ks.getD i (0, 0) = (x, y)) (h : D.is x = false) : okOne D ks i = false := by
  unfold okOne
  rw [e]
  simp [h]
theorem okOne_no3 {D : DkM} {ks : List (Int × Int)} {i : Nat} {x y : Int} (e : ks.getD i (0, 0) = (x, y)) (h : y < 0 ∨ ((D.uns x).length : Int) < y) : okOne D ks i = false := by
  unfold okOne
  rw [e]
  rcases h with h | h
  · have : decide (0 ≤ y) = false := by simp; omega
    simp [this]
  · have : decide (y ≤ ((D.uns x).length : Int)) = false := by simp; omega
    simp [this]
theorem okOne_yes {D : DkM} {ks : List (Int × Int)} {i : Nat} {x y : Int} (e : ks.getD i (0, 0) = (x, y)) (h1 : kfD ks i x = none) (h2 : D.is x = true) (h3 : 0 ≤ y) (h4 : y ≤ (D.uns x).length) : okOne D ks i = true := by
  unfold okOne
  rw [e]
  simp [h1, h2, h3, h4]
def DkM.cr (D : DkM) (ks : List (Int × Int)) (left : Int → Bool) (i : Nat) : Option (List UInt8) :=
  if left i then D.sure.getD i none else match kfD ks ks.length i with
    | some z => if 0 < z then some ((D.uns i).getD (z.toNat - 1) []) else D.sure.getD i none
    | none => D.sure.getD i none
def DkM.crL (D : DkM) (ks : List (Int × Int)) (left : Int → Bool) : DkM := { D with sure := (List.range D.sure.length).map (D.cr ks left) }
theorem DkM.crL_len (D : DkM) (ks : List (Int × Int)) (left : Int → Bool) : (D.crL ks left).sure.length = D.sure.length := by simp [DkM.crL]
def DkM.crDone (D : DkM) (ks : List (Int × Int)) : DkM := { D.crL ks (fun _ => false) with uns := fun _ => [], calls := -1 }
def DkM.crash (D : DkM) (ks : List (Int × Int)) : DkM := if crOk D ks then D.crDone ks else D
def DkM.crashE (D : DkM) (ks : List (Int × Int)) : Int := if crOk D ks then 0 else 1
theorem DkM.crL_start (D : DkM) (ks : List (Int × Int)) (left : Int → Bool) (h : ∀ i : Nat, left i = false → kfD ks ks.length i = none) : D.crL ks left = D := by
  have e : (List.range D.sure.length).map (D.cr ks left) = D.sure := by
    apply List.ext_getElem (by simp)
    intro i h1 h2
    rw [List.getElem_map, List.getElem_range]
    have hg : D.sure.getD i none = D.sure[i] := by simp [h2]
    unfold DkM.cr
    cases hl : left i
    · rw [if_neg (by simp), h i hl]
      exact hg
    · rw [if_pos rfl, hg]
  unfold DkM.crL
  rw [e]
theorem DkM.crL_end (D : DkM) (ks : List (Int × Int)) (left : Int → Bool) (h : ∀ i : Nat, i < D.sure.length → left i = false) : D.crL ks left = D.crL ks (fun _ => false) := by
  unfold DkM.crL
  congr 1
  apply List.map_congr_left
  intro i hi
  unfold DkM.cr
  rw [h i (by simpa using hi)]
theorem DkM.crL_step (D : DkM) (ks : List (Int × Int)) (left : Int → Bool) {i : Nat} (hi : i < D.sure.length) {z : Int} (hz : kfD ks ks.length i = some z) (hp : 0 < z) :
    D.crL ks (fun y => left y && !(y == (i : Int))) = { D.crL ks left with sure := (D.crL ks left).sure.set i (some ((D.uns i).getD (z.toNat - 1) [])) } := by
  unfold DkM.crL
  congr 1
  apply List.ext_getElem (by simp)
  intro j h1 h2
  rw [List.getElem_map, List.getElem_range]
  by_cases e : i = j
  · subst e
    rw [List.getElem_set_self]
    unfold DkM.cr
    simp [hz, hp]
  · rw [List.getElem_set_ne e, List.getElem_map, List.getElem_range]
    unfold DkM.cr
    have : ((j : Int) == (i : Int)) = false := by rw [beq_eq_false_iff_ne]; omega
    simp only [this, Bool.not_false, Bool.and_true]
theorem DkM.crL_stay (D : DkM) (ks : List (Int × Int)) (left : Int → Bool) {i : Nat} {z : Int} (hz : kfD ks ks.length i = some z) (hp : ¬ 0 < z) :
    D.crL ks (fun y => left y && !(y == (i : Int))) = D.crL ks left := by
  unfold DkM.crL
  congr 1
  apply List.map_congr_left
  intro j _
  unfold DkM.cr
  by_cases e : i = j
  · subst e
    simp [hz, hp]
  · have : ((j : Int) == (i : Int)) = false := by rw [beq_eq_false_iff_ne]; omega
    simp only [this, Bool.not_false, Bool.and_true]

theorem kfD_ok {D : DkM} {ks : List (Int × Int)} (h : crOk D ks = true) {x z : Int} (hz : kfD ks ks.length x = some z) : D.is x = true ∧ 0 ≤ z ∧ z ≤ (D.uns x).length := by
  unfold kfD at hz
  rw [List.take_length] at hz
  cases hf : ks.find? (fun p => p.1 == x) with
  | none => rw [hf] at hz; cases hz
  | some q =>
    rw [hf] at hz
    have hq1 : q.1 = x := by have := List.find?_some hf; simpa using this
    have hq2 : q.2 = z := by simpa using hz
    obtain ⟨i, hi, hqi⟩ := List.getElem_of_mem (List.mem_of_find?_eq_some hf)
    have ho := crOk_iff.1 h i hi
    have hg : ks.getD i (0, 0) = q := by simp [hi, hqi]
    unfold okOne at ho
    rw [hg, hq1, hq2] at ho
    simp only [Bool.and_eq_true, decide_eq_true_eq] at ho
    exact ⟨ho.2.1, ho.2.2.1, ho.2.2.2⟩
theorem kfD_mem {ks : List (Int × Int)} {k : Nat} {x z : Int} (hz : kfD ks k x = some z) : (x, z) ∈ ks := by
  unfold kfD at hz
  cases hf : (ks.take k).find? (fun p => p.1 == x) with
  | none => rw [hf] at hz; cases hz
  | some q =>
    rw [hf] at hz
    have h8 : q.2 = z := by simpa using hz
    have h9 := List.mem_of_mem_take (List.mem_of_find?_eq_some hf)
    have h10 : q.1 = x := by have := List.find?_some hf; simpa using this
    have : q = (x, z) := Prod.ext h10 h8
    rw [← this]; exact h9
/-- What is to last, as it came in. -/
structure KRd (w : World) (A : Option Addr) (n : Nat) (ks : List (Int × Int)) : Prop where
  len : ks.length = n
  cell : ∀ i (h : i < ks.length), ∃ g o, A = some ⟨g, o, none⟩ ∧ w.cell? ⟨g, o + i * 2, none⟩ = some (.int .i64 ks[i].1) ∧ w.cell? ⟨g, o + i * 2 + 1, none⟩ = some (.int .i64 ks[i].2)
  in64 : ∀ p ∈ ks, wfZ p.1 ∧ wfZ p.2
theorem KRd.keep_nil {w w' : World} {A : Option Addr} {n : Nat} {ks : List (Int × Int)} (h : KRd w A n ks) (f : Fr [] w w') : KRd w' A n ks := ⟨h.len, fun i hi => by
  obtain ⟨g, o, e, h1, h2⟩ := h.cell i hi
  exact ⟨g, o, e, f.cell (by simp) h1, f.cell (by simp) h2⟩, h.in64⟩
section
variable {w w' : World} {p : Nat} {O : List Nat} {D : DkM} {X : DkX}
theorem zeroIntD (w : World) : (zeroValue 3).run Try.prog w = .ok (.int .i64 0) w := by kernel_rfl
/-- The list of writes at a key. -/
theorem DskX.unv (h : DskX w p O D X) (x : Int) : ∃ A c, (X.f x).getD (.slice none 0 0) = .slice A (D.uns x).length c := by
  cases hf : X.f x with
  | none => rw [(h.iff x).1 hf]; exact ⟨none, 0, rfl⟩
  | some v =>
    obtain ⟨⟨us, r, _⟩, _⟩ := h.un x v hf
    obtain ⟨A, c, e, _⟩ := r.shape
    exact ⟨A, c, e⟩
theorem UR.at {v : Value} {L : List (List UInt8)} (h : UR w v L) {j : Nat} (hj : j < L.length) : ∃ g c u, v = .slice (some ⟨g, 0, none⟩) L.length c ∧ w.cell? ⟨g, j, none⟩ = some u ∧ BlkB w u L[j] := by
  obtain ⟨us, r, hb⟩ := h
  have hul : us.length = L.length := by have := r.1; omega
  obtain ⟨g, c, rfl⟩ := r.hdD (by omega)
  obtain ⟨g', o', e', hc⟩ := r.rdD.1 (by intro h0; rw [h0] at hul; simp at hul; omega)
  cases e'
  have cn := hc j _ (List.getElem?_eq_getElem (by omega))
  rw [Nat.zero_add] at cn
  exact ⟨g, c, _, rfl, cn, hb j (by omega) hj⟩
theorem dkCrash_nil (w : World) (v : Value) : Calls Try.prog 15 #[.pointer none, v] w fun e w' => e = .returned (.int .i64 6) ∧ w = w' := by
  go_enter Try.func15, Try.ntmps15
  go_wp2_with fail
  refine (dkMade_nil w).mono ?_
  rintro e w4 ⟨rfl, rfl⟩
  go_wp2_with fail
  go_ret
  exact ⟨rfl, rfl⟩
set_option maxHeartbeats 4000000 in
theorem dkCrash_any (h : Dsk w p O D) (A : Option Addr) (n c : Nat) (ks : List (Int × Int)) (hk : KRd w A n ks) (hn : n ≤ 140737488355328) :
    Calls Try.prog 15 #[.pointer (some ⟨p, 0, none⟩), .slice A n c] w fun e w' => e = .returned (.int .i64 (D.crashE ks)) ∧ AftD w p O (D.crash ks) w' := by
  have h0 := Lib.hid h
  have cm := dkMade_any h
  have hmm := @run_makeMap Try.prog
  go_enter Try.func15, Try.ntmps15
  go_wp2_with fail
  refine cm.mono ?_
  rintro e w1 ⟨rfl, rfl⟩
  clear cm
  go_wp2_with fail
  have m0 := MapZ.made w
  have f0 : Fr [] w (w.alloc (.map #[] 0)) := (Fr.refl _ _).alloc _
  obtain ⟨m2, hm2⟩ : ∃ m2, w.heap.size = m2 := ⟨_, rfl⟩
  rw [hm2] at m0 ⊢
  have HM2 := Lib.hid hm2
  have HKL := Lib.hid hk.len
  clear hm2
  go_loopw [18] (fun i wr => ∃ k : Nat, k ≤ n ∧ i = .int .i64 k ∧ MapZ wr m2 k (kfV ks k) ∧ (∀ j, j < k → okOne D ks j = true) ∧ Fr [] w wr) (fun i _ => n - (intOf i).toNat)
  case atStart => exact ⟨0, Nat.zero_le _, rfl, m0, fun j hj => absurd hj (by omega), f0⟩
  case round =>
    clear m0 f0
    obtain ⟨k, hkn, rfl, mk, hall, F⟩ := hrel
    by_cases hlt : k < n
    · have hkl : k < ks.length := by rw [HKL.out]; exact hlt
      obtain ⟨g, o, rfl, c0, c1⟩ := hk.cell k hkl
      obtain ⟨wx, wy⟩ := hk.in64 _ (List.getElem_mem hkl)
      have hsucc := kfD_succ ks k hkl
      have hgd : ks.getD k (0, 0) = ks[k] := by simp [hkl]
      replace c0 := F.cell (by simp) c0
      replace c1 := F.cell (by simp) c1
      generalize ks[k] = pr at *
      obtain ⟨x, y⟩ := pr
      dsimp only at c0 c1 wx wy hsucc
      have HK := Lib.hid (And.intro hkl hgd)
      have HS := Lib.hid hsucc
      have HALL := Lib.hid hall
      obtain ⟨W, hW⟩ : ∃ W, wr.alloc (.cells #[.int .i64 x, .int .i64 y] 77) = W := ⟨_, rfl⟩
      obtain ⟨b9, hb9⟩ : ∃ b9, wr.heap.size = b9 := ⟨_, rfl⟩
      have k9 : Blk W b9 77 #[.int .i64 x, .int .i64 y] := by rw [← hW, ← hb9]; exact Blk.new _ _ _
      have f9 : Fr [] wr W := by rw [← hW]; exact (Fr.refl _ _).alloc _
      have HW := Lib.hid hW
      have HB9 := Lib.hid hb9
      replace mk := mk.keep_nil f9
      replace F := F.trans_nil f9
      clear hW hb9 hkl hgd hsucc hall f9
      go_upto_region 7 with fail
      rw [HW.out, HB9.out]
      have e0 := k9.cell 0
      have e1 := k9.cell 1
      simp at e0 e1
      clear c0 c1
      obtain ⟨X, hX⟩ := h0.out
      have hXW := hX.keep_nil F
      have cp1 := hXW.c1
      have hl0 := fun q => (hXW.map.keep_nil ((Fr.refl [] W).drewN q)).look Try.underlying73 (zeroBBD _) wx
      obtain ⟨Av, cv, hv⟩ := hXW.unv x
      rw [hv] at hl0
      obtain ⟨ln, hln⟩ : ∃ ln, (D.uns x).length = ln := ⟨_, rfl⟩
      rw [hln] at hl0
      have HLN := Lib.hid hln
      have HL0 := Lib.hid hl0
      clear hv hln hX hXW hl0
      cases hkf : kfD ks k x with
      | some z =>
        have HKF := Lib.hid (show kfV ks k x = some (.int .i64 z) by rw [kfV, hkf]; rfl)
        have HN := Lib.hid (show kfD ks k x ≠ none by rw [hkf]; simp)
        clear hkf
        go_upto_region 8 with (refine wpList_lookOkZ rfl rfl Try.underlying84 (zeroIntD _) rfl mk x rfl wx ?_; rw [HKF.out]; simp only [Option.getD_some, Option.isSome_some])
        go_quiet (fail)
        have Fq := F.trans_nil ((Fr.refl [] W).drewN nq)
        generalize World.drewN W nq = Wq at *
        have HV := Lib.hid (show D.crashE ks = 1 ∧ D = D.crash ks by have := crOk_no (D := D) HK.out.1 (okOne_no1 HK.out.2 HN.out); exact ⟨by rw [DkM.crashE, this]; rfl, by rw [DkM.crash, this]; rfl⟩)
        have FIN := Lib.hid (((AftD.same (h0.keep_nil Fq)).pre Fq).eq HV.out.2)
        go_wp2_with fail
        go_ret
        exact ⟨by rw [HV.out.1]; rfl, FIN.out⟩
      | none =>
        have HKF := Lib.hid (show kfV ks k x = none by rw [kfV, hkf]; rfl)
        have HN := Lib.hid hkf
        clear hkf
        cases his : D.is x
        · have HIS := Lib.hid his
          have ci : ∀ q, Calls Try.prog 37 #[.pointer (some ⟨p, 0, none⟩), .int .i64 x] (W.drewN q) fun e w' => e = .returned (.bool false) ∧ W.drewN q = w' := fun q => by have := dkIs_any ((h0.out.keep_nil F).keep_nil ((Fr.refl [] _).drewN q)) x; rwa [his] at this
          have CI := Lib.hid ci
          clear his ci
          go_upto_region 8 with (refine wpList_lookOkZ rfl rfl Try.underlying84 (zeroIntD _) rfl mk x rfl wx ?_; rw [HKF.out]; simp only [Option.getD_none, Option.isSome_none])
          go_quiet ((go_at_call 37; exact Calls.quiet_of_same ((CI.out _).mono fun e w' h => ⟨h.1, h.2.symm⟩)))
          have Fq := F.trans_nil ((Fr.refl [] W).drewN nq)
          generalize World.drewN W nq = Wq at *
          have HV := Lib.hid (show D.crashE ks = 1 ∧ D = D.crash ks by have := crOk_no (D := D) HK.out.1 (okOne_no2 HK.out.2 HIS.out); exact ⟨by rw [DkM.crashE, this]; rfl, by rw [DkM.crash, this]; rfl⟩)
          have FIN := Lib.hid (((AftD.same (h0.keep_nil Fq)).pre Fq).eq HV.out.2)
          go_wp2_with fail
          go_ret
          exact ⟨by rw [HV.out.1]; rfl, FIN.out⟩
        · have HIS := Lib.hid his
          have ci : ∀ q, Calls Try.prog 37 #[.pointer (some ⟨p, 0, none⟩), .int .i64 x] (W.drewN q) fun e w' => e = .returned (.bool true) ∧ W.drewN q = w' := fun q => by have := dkIs_any ((h0.out.keep_nil F).keep_nil ((Fr.refl [] _).drewN q)) x; rwa [his] at this
          have CI := Lib.hid ci
          clear his ci
          by_cases hy : y < 0
          · go_upto_region 8 with (refine wpList_lookOkZ rfl rfl Try.underlying84 (zeroIntD _) rfl mk x rfl wx ?_; rw [HKF.out]; simp only [Option.getD_none, Option.isSome_none])
            go_quiet ((go_at_call 37; exact Calls.quiet_of_same ((CI.out _).mono fun e w' h => ⟨h.1, h.2.symm⟩)))
            have Fq := F.trans_nil ((Fr.refl [] W).drewN nq)
            generalize World.drewN W nq = Wq at *
            have HV := Lib.hid (show D.crashE ks = 1 ∧ D = D.crash ks by have := crOk_no (D := D) HK.out.1 (okOne_no3 HK.out.2 (.inl hy)); exact ⟨by rw [DkM.crashE, this]; rfl, by rw [DkM.crash, this]; rfl⟩)
            have FIN := Lib.hid (((AftD.same (h0.keep_nil Fq)).pre Fq).eq HV.out.2)
            go_wp2_with fail
            go_ret
            exact ⟨by rw [HV.out.1]; rfl, FIN.out⟩
          · by_cases hy2 : (ln : Int) < y
            · have HY := Lib.hid (show ((D.uns x).length : Int) < y by rw [HLN.out]; exact hy2)
              have hl0 := HL0.out
              go_upto_region 8 with (refine wpList_lookOkZ rfl rfl Try.underlying84 (zeroIntD _) rfl mk x rfl wx ?_; rw [HKF.out]; simp only [Option.getD_none, Option.isSome_none])
              go_quiet ((go_at_call 37; exact Calls.quiet_of_same ((CI.out _).mono fun e w' h => ⟨h.1, h.2.symm⟩)))
              clear hl0
              have Fq := F.trans_nil ((Fr.refl [] W).drewN nq)
              generalize World.drewN W nq = Wq at *
              have HV := Lib.hid (show D.crashE ks = 1 ∧ D = D.crash ks by have := crOk_no (D := D) HK.out.1 (okOne_no3 HK.out.2 (.inr HY.out)); exact ⟨by rw [DkM.crashE, this]; rfl, by rw [DkM.crash, this]; rfl⟩)
              have FIN := Lib.hid (((AftD.same (h0.keep_nil Fq)).pre Fq).eq HV.out.2)
              go_wp2_with fail
              go_ret
              exact ⟨by rw [HV.out.1]; rfl, FIN.out⟩
            · have HY := Lib.hid (show 0 ≤ y ∧ y ≤ ((D.uns x).length : Int) by rw [HLN.out]; omega)
              have hl0 := HL0.out
              go_upto_region 8 with (refine wpList_lookOkZ rfl rfl Try.underlying84 (zeroIntD _) rfl mk x rfl wx ?_; rw [HKF.out]; simp only [Option.getD_none, Option.isSome_none])
              go_quiet ((go_at_call 37; exact Calls.quiet_of_same ((CI.out _).mono fun e w' h => ⟨h.1, h.2.symm⟩)))
              clear hl0
              have fq := (Fr.refl [] W).drewN nq
              have Fq := F.trans_nil fq
              replace mk := mk.keep_nil fq
              replace k9 := k9.keep_nil fq
              generalize World.drewN W nq = Wq at *
              have e0 := k9.cell 0
              have e1 := k9.cell 1
              simp at e0 e1
              go_wp2_with (refine wpList_putZ rfl rfl Try.underlying84 rfl mk (by unfold maxLen; omega) x rfl wx _ rfl ?_; intro w5 m5 f5 s5)
              refine ⟨⟨k + 1, by omega, by go_num, m5.eq (fun z _ => ?_), fun j hj => ?_, Fq.trans f5 (fun i hi => .inr (by rw [List.mem_singleton.1 hi, HM2.out]; exact Nat.le_refl _))⟩, by simp [intOf]; omega⟩
              · unfold kfV fput
                rw [HS.out HN.out z]
                by_cases e : z = x
                · rw [if_pos e, if_pos e]; rfl
                · rw [if_neg e, if_neg e]
              · by_cases e : j = k
                · subst e; exact okOne_yes HK.out.2 HN.out HIS.out HY.out.1 HY.out.2
                · exact HALL.out j (by omega)
    · obtain rfl : k = n := by omega
      have hc : crOk D ks = true := crOk_iff.2 fun i hi => hall i (by rw [← HKL.out]; exact hi)
      have HC := Lib.hid hc
      have HV := Lib.hid (show D.crashE ks = 0 ∧ D.crDone ks = D.crash ks from ⟨by rw [DkM.crashE, hc]; rfl, by rw [DkM.crash, hc]; rfl⟩)
      obtain ⟨X, hX⟩ := h0.out
      have HX := Lib.hid hX
      obtain ⟨r2, hr2⟩ : ∃ r2, wr.heap.size = r2 := ⟨_, rfl⟩
      have HR2 := Lib.hid (And.intro hr2 (show (∀ i ∈ O, i ≠ r2) ∧ (∀ i ∈ O, i ≠ m2) ∧ w.heap.size ≤ r2 from ⟨fun i hi => by have := hX.lt i hi; have := F.size; omega, fun i hi => by have := hX.lt i hi; have := HM2.out; omega, by have := F.size; omega⟩))
      clear hc hall hr2 hX
      go_wp2_with (first | (at_range; refine wpList_rangeZ rfl rfl Try.underlying84 rfl mk ?_; intro w0 cnt0 hrg f0 s0; rw [HR2.out.1]; rw [HR2.out.1] at hrg; go_frame))
      have F0 : Fr O w w0 := (F.trans_nil f0).mono (by simp)
      have hX0 := HX.out.keep_nil (F.trans_nil f0)
      clear f0 s0 mk F
      go_loopw [10] (fun _ wq => ∃ left cnt vs, RangeZ wq m2 r2 k (kfV ks k) left cnt ∧ DskX wq p O (D.crL ks left) { X with vs := vs } ∧ Fr O w wq) (fun _ wq => wq.rangeLeft m2 r2)
      case atStart =>
        refine ⟨_, _, X.vs, hrg, ?_, F0⟩
        rw [DkM.crL_start]
        · exact hX0
        · intro i hi
          rw [HKL.out]
          have : kfV ks k i = none := by simpa using hi
          unfold kfV at this
          simpa using this
      case round =>
        clear hrg hX0 F0
        obtain ⟨left, cnt, vs, hrg, h, F⟩ := hrel
        have c1r := h.c1
        go_wp2_with (at_next; refine wpList_nextZ rfl rfl rfl hrg ?_ ?_)
        · intro hl0
          have mz := h.map
          have hlen := h.n1.2
          rw [DkM.crL_len] at hlen
          go_upto_region 18 with (refine wpList_clearZ rfl rfl Try.underlying73 rfl mz ?_; intro w2 m2' f2 s2)
          have h2 := h.clr f2 m2'
          rw [DkM.crL_end D ks left (fun i hi => hl0 i (wfZ_of (by omega)))] at h2
          have F2 := F.trans f2 (fun i hi => .inl (by rw [List.mem_singleton.1 hi]; exact h.mO))
          have cc := h2.c2
          have zc := h2.blk.frozen 2
          have fs : Fr [p] w2 (w2.setCell ⟨p, 2, none⟩ (.int .i64 (-1))) := (Fr.refl [p] w2).setCell (.inl (by simp)) _
          have h3 := h2.setp fs (-1) (by omega) (h2.blk.set_ 2 _)
          have FIN : AftD w p O (D.crash ks) (w2.setCell ⟨p, 2, none⟩ (.int .i64 (-1))) := by
            rw [← HV.out.2]
            exact ⟨O, ⟨_, h3⟩, fun i hi => .inl hi, F2.trans fs (fun i hi => .inl (by rw [List.mem_singleton.1 hi]; exact h2.pO))⟩
          have HF := Lib.hid FIN
          clear h2 h3 FIN h F F2
          go_wp2_with fail
          go_ret
          exact ⟨by rw [HV.out.1]; rfl, HF.out⟩
        · intro x v w1 cnt1 hwx hlx hfx hrg1 hlt f1 s1 hen
          obtain ⟨z, hz, rfl⟩ : ∃ z, kfD ks k x = some z ∧ v = .int .i64 z := by
            unfold kfV at hfx
            cases hq : kfD ks k x with
            | none => rw [hq] at hfx; cases hfx
            | some z => rw [hq] at hfx; exact ⟨z, rfl, by simpa using hfx.symm⟩
          obtain ⟨hx, hz0, hzl⟩ := kfD_ok (D := D) HC.out (by rw [HKL.out]; exact hz)
          have rO : r2 ∉ O := fun hm => HR2.out.2.1 r2 hm rfl
          have h1 := h.keep f1 (fun i hi hm => rO (by rw [← List.mem_singleton.1 hm]; exact hi)) (hrg.noTy _)
          have F1 := F.trans f1 (fun i hi => .inr (by rw [List.mem_singleton.1 hi]; exact HR2.out.2.2.2))
          have HLE := Lib.hid hrg.left_eq
          have HL := Lib.hid hlt
          by_cases hzp : 0 < z
          · obtain ⟨h5, h6⟩ := DkM.is_iff.1 hx
            obtain ⟨i, rfl⟩ : ∃ i : Nat, x = i := ⟨x.toNat, by omega⟩
            have hi : i < D.sure.length := by omega
            obtain ⟨j, rfl⟩ : ∃ j : Nat, z = (j : Int) + 1 := ⟨(z - 1).toNat, by omega⟩
            have hjl : j < (D.uns i).length := by omega
            have hne : D.uns i ≠ [] := by intro e; rw [e] at hjl; simp at hjl
            obtain ⟨u, hu⟩ : ∃ u, X.f i = some u := by
              cases hq : X.f i with
              | none => exact absurd ((h1.iff i).1 hq) hne
              | some u => exact ⟨u, rfl⟩
            obtain ⟨ur, _⟩ := h1.un i u hu
            obtain ⟨g, c', ub, rfl, cu, bu⟩ := ur.at (j := j) hjl
            obtain ⟨hb5, rb⟩ := id bu
            obtain ⟨g2, c2, rfl⟩ := rb.hdD (by omega)
            have bj : ((D.crL ks left).uns i)[j]'hjl = (D.uns i).getD (((j : Int) + 1).toNat - 1) [] := by
              have e : ((j : Int) + 1).toNat - 1 = j := by omega
              rw [e]
              show (D.uns i)[j] = _
              simp [hjl]
            rw [bj] at bu
            have hl := (h1.map.keep_nil ((Fr.refl [] w1).drew)).look Try.underlying73 (zeroBBD _) hwx
            rw [show (DkX.f { X with vs := vs }) i = X.f i from rfl, hu] at hl
            simp only [Option.getD_some] at hl
            obtain ⟨ln, hln⟩ : ∃ ln, ((D.crL ks left).uns i).length = ln := ⟨_, rfl⟩
            rw [hln] at hl
            have hjn : j < ln := by rw [← hln]; exact hjl
            have c0s := h1.c0
            have c1s := h1.c1
            rw [DkM.crL_len] at c0s
            have srow := h1.row
            rw [DkM.crL_len] at srow
            obtain ⟨N, hN⟩ : ∃ N, D.sure.length = N := ⟨_, rfl⟩
            rw [hN] at c0s hi srow
            have x0 := (srow.setD i hi .nilFunc).1
            have y0 := (srow.setD i hi .nilFunc).2.1
            dsimp only at x0 y0 c0s c1s
            have hvk : i < vs.length := by have := srow.1; dsimp only at this; omega
            rw [List.getElem?_eq_getElem hvk] at x0
            obtain ⟨old, hold⟩ : ∃ old, vs[i] = old := ⟨_, rfl⟩
            rw [hold] at x0
            have j48 : (j : Int) + 1 ≤ 9223372036854775807 := (wfZ_b (hk.in64 _ (kfD_mem hz)).2).2
            have UN : IntKind.i64.wrap ((j : Int) + 1 - 1) = j := by rw [show (j : Int) + 1 - 1 = j by omega]; exact IntWalk.i64_in _ (by omega)
            have UN2 : IntKind.i64.wrap (j : Int) = j := IntWalk.i64_in _ (by omega)
            have K1 : (j : Int) < ln := by omega
            have KI : (i : Int) < N := by omega
            have HH := Lib.hid h1
            have HK := Lib.hid (And.intro hN (And.intro hi hz))
            have HB := Lib.hid bu
            have HF1 := Lib.hid F1
            clear hold hN h1 bu rb hb5 srow hne h hrg hlt hx hz ur hln h5 h6 hzl hz0 hu bj hjl F1 F hvk
            go_upto_region 16 with fail
            go_still_tail 16, (by kernel_rfl)
            have fz := (Fr.refl [] w1).drew
            obtain ⟨w8, hw8⟩ : ∃ w8, w1.drew = w8 := ⟨_, rfl⟩
            change wpList _ _ _ _ _ (World.drew w1)
            rw [hw8] at fz ⊢
            replace x0 := fz.cell (by simp) x0
            have h8 := HH.out.keep_nil fz
            have srow := h8.row
            rw [DkM.crL_len, HK.out.1] at srow
            replace y0 := (srow.setD i hi .nilFunc).2.1
            dsimp only at y0
            have hset := h8.setS (i := i) (by rw [DkM.crL_len, HK.out.1]; exact hi) (v := .slice (some ⟨g2, 0, none⟩) 512 c2) (s := some ((D.uns i).getD (((j : Int) + 1).toNat - 1) [])) (HB.out.keep_nil fz)
            rw [← DkM.crL_step D ks left (by rw [HK.out.1]; exact hi) (by rw [HKL.out]; exact HK.out.2.2) (by omega)] at hset
            have fs : Fr [X.g] w8 (w8.setCell ⟨X.g, i, none⟩ (.slice (some ⟨g2, 0, none⟩) 512 c2)) := (Fr.refl [X.g] w8).setCell (.inl (by simp)) _
            have hg2 : r2 ≠ X.g := fun e => HR2.out.2.1 X.g h8.gO e.symm
            have hm2 : m2 ≠ X.g := fun e => HR2.out.2.2.1 X.g h8.gO e.symm
            have hrg8 := (hrg1.keep fz (by simp) (by simp)).keep fs (by simpa using hm2) (by simpa using hg2)
            have F8 := (HF1.out.trans_nil fz).trans fs (fun i hi => .inl (by rw [List.mem_singleton.1 hi]; exact h8.gO))
            have HS := Lib.hid (And.intro hset (And.intro hrg8 F8))
            clear h8 srow hset hrg8 F8 hw8 fz hrg1 hl
            go_wp2_with fail
            obtain ⟨hset, hrg8, F8⟩ := HS.out
            refine ⟨⟨_, cnt1, _, hrg8, hset, F8⟩, ?_⟩
            rw [hrg8.left_eq, HLE.out]
            exact HL.out
          · have HS := Lib.hid (And.intro hrg1 (And.intro h1 F1))
            have hst : D.crL ks (fun y => left y && !(y == x)) = D.crL ks left := by
              obtain ⟨h5, h6⟩ := DkM.is_iff.1 hx
              obtain ⟨i, rfl⟩ : ∃ i : Nat, x = i := ⟨x.toNat, by omega⟩
              exact DkM.crL_stay D ks left (by rw [HKL.out]; exact hz) hzp
            have HST := Lib.hid hst
            clear hrg1 h1 F1 hst hrg h F hlt f1
            go_wp2_with fail
            obtain ⟨hrg8, h8, F8⟩ := HS.out
            refine ⟨⟨_, cnt1, vs, hrg8, by rw [HST.out]; exact h8, F8⟩, ?_⟩
            rw [hrg8.left_eq, HLE.out]
            exact HL.out
end
end Go.Proofs.Ytdhhnioklbnicaa
