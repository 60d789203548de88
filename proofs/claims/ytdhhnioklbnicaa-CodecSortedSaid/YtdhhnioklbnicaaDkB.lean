/-
  Layer 10 (disk): made, Off, Stop, Len, is, may.
-/
import Derived.Test.YtdhhnioklbnicaaDkA
set_option linter.unusedSimpArgs false
set_option linter.unusedVariables false
set_option linter.unnecessarySimpa false
namespace Go.Proofs.Ytdhhnioklbnicaa
open Go.RowKit

def DkM.is (D : DkM) (x : Int) : Bool := decide (0 ≤ x) && decide (x < D.sure.length)
def DkM.off (D : DkM) : Bool := D.calls == 0
theorem DkM.is_iff {D : DkM} {x : Int} : D.is x = true ↔ 0 ≤ x ∧ x < D.sure.length := by simp [DkM.is]
def DkM.mayE (D : DkM) (x : Int) (n : Nat) : Int := if D.is x = false then 100 else if n ≠ 512 then 101 else 0

section
variable {w w' : World} {p : Nat} {O : List Nat} {D : DkM} {X : DkX}
theorem DskX.c0 (h : DskX w p O D X) : w.cell? ⟨p, 0, none⟩ = some (.slice (some ⟨X.g, 0, none⟩) D.sure.length X.c) := by have := h.blk.cell 0; simpa using this
theorem DskX.c1 (h : DskX w p O D X) : w.cell? ⟨p, 1, none⟩ = some (.map (some X.m)) := by have := h.blk.cell 1; simpa using this
theorem DskX.c2 (h : DskX w p O D X) : w.cell? ⟨p, 2, none⟩ = some (.int .i64 D.calls) := by have := h.blk.cell 2; simpa using this
theorem DskX.mp (h : DskX w p O D X) : X.m ≠ p := fun e => by
  have h1 := h.map.no_cell 0
  rw [e, h.c0] at h1
  cases h1
theorem DskX.mg (h : DskX w p O D X) : X.m ≠ X.g := fun e => by
  obtain ⟨g', o', e', hc⟩ := h.row.rdD.1 (by intro h0; have := congrArg List.length h0; have h1 := h.row.1; have := h.n1.1; rw [List.length_nil] at *; omega)
  cases e'
  have h1 := h.map.no_cell (0 + 0)
  rw [e] at h1
  have hl : 0 < X.vs.length := by have h1 := h.row.1; have := h.n1.1; omega
  rw [hc 0 X.vs[0] (List.getElem?_eq_getElem hl)] at h1
  cases h1
theorem DskX.pT (h : DskX w p O D X) (e : TypeId) (he : 75 ≠ e) : NoTy w [p] e := fun i hi cs fz hc => by
  rw [List.mem_singleton.1 hi] at hc
  have hb := h.blk
  unfold Blk at hb
  rw [hb] at hc
  injection hc with hc
  injection hc with _ hc
  exact he hc
/-- Only the struct's third cell is another. -/
theorem DskX.setp (h : DskX w p O D X) (f : Fr [p] w w') (c : Int) (hc : -1 ≤ c ∧ c ≤ 9223372036854775807) (hb : Blk w' p 75 #[.slice (some ⟨X.g, 0, none⟩) D.sure.length X.c, .map (some X.m), .int .i64 c]) :
    DskX w' p O { D with calls := c } X := by
  have n8 := h.pT 5 (by decide)
  have nb : ∀ {B s n : Nat} {v : Value} {xs : List Value}, Row w B 31 s v n xs → ∀ g, v.ownBlock = some g → g ∉ [p] := fun hr g hg hm => hr.ne_blk h.blk (by decide) (by rw [hg, List.mem_singleton.1 hm])
  refine ⟨h.pO, h.gO, h.mO, hb, h.n1, h.row.keep f (nb h.row), fun i a b => (h.su i a b).keepT f n8, h.map.keep f (by simpa using h.mp), h.iff, fun x v hx => ?_, h.rng, h.apart, fun i hi cs fz hc => ?_, fun i hi => Nat.lt_of_lt_of_le (h.lt i hi) f.size, hc⟩
  · obtain ⟨h1, h2⟩ := h.un x v hx
    obtain ⟨us, h3, h4⟩ := id h1
    exact ⟨h1.keep f n8 (nb h3), h2⟩
  · by_cases e : i = p
    · subst e
      unfold Blk at hb
      rw [hb] at hc
      injection hc with hc
      injection hc with _ hc
      exact absurd hc (by decide)
    · rw [f.same i (h.lt i hi) (by simpa using e)] at hc
      exact h.no8 i hi cs fz hc

theorem neqMapD (b : Nat) (w : World) : (binOp .neq 73 (.map (some b)) (.map none)).run Try.prog w = .ok (.bool true) w := by kernel_rfl
set_option maxRecDepth 100000
theorem dkMade_any (h : Dsk w p O D) : Calls Try.prog 42 #[.pointer (some ⟨p, 0, none⟩)] w fun e w' => e = .returned (.bool true) ∧ w = w' := by
  obtain ⟨X, h⟩ := h
  have c1 := h.c1
  have nm := neqMapD X.m w
  go_enter Try.func42, Try.ntmps42
  go_wp2_with fail
  go_ret
  exact ⟨rfl, rfl⟩
theorem dkMade_nil (w : World) : Calls Try.prog 42 #[.pointer none] w fun e w' => e = .returned (.bool false) ∧ w = w' := by
  go_enter Try.func42, Try.ntmps42
  go_wp2_with fail
  go_ret
  exact ⟨rfl, rfl⟩
theorem dkOff_any (h : Dsk w p O D) : Calls Try.prog 23 #[.pointer (some ⟨p, 0, none⟩)] w fun e w' => e = .returned (.bool D.off) ∧ w = w' := by
  have hm := dkMade_any h
  obtain ⟨X, h⟩ := h
  have c2 := h.c2
  unfold DkM.off
  go_enter Try.func23, Try.ntmps23
  go_wp2_with fail
  refine hm.mono ?_
  rintro e w1 ⟨rfl, rfl⟩
  go_wp2_with fail
  go_ret
  exact ⟨rfl, rfl⟩
theorem dkOff_nil (w : World) : Calls Try.prog 23 #[.pointer none] w fun e w' => e = .returned (.bool false) ∧ w = w' := by
  go_enter Try.func23, Try.ntmps23
  go_wp2_with fail
  refine (dkMade_nil w).mono ?_
  rintro e w1 ⟨rfl, rfl⟩
  go_wp2_with fail
  go_ret
  exact ⟨rfl, rfl⟩
theorem dkLen_any (h : Dsk w p O D) : Calls Try.prog 24 #[.pointer (some ⟨p, 0, none⟩)] w fun e w' => e = .returned (.int .i64 D.sure.length) ∧ w = w' := by
  have hm := dkMade_any h
  obtain ⟨X, h⟩ := h
  have c0 := h.c0
  generalize D.sure.length = n at *
  go_enter Try.func24, Try.ntmps24
  go_wp2_with fail
  refine hm.mono ?_
  rintro e w1 ⟨rfl, rfl⟩
  go_wp2_with fail
  go_ret
  exact ⟨rfl, rfl⟩
theorem dkLen_nil (w : World) : Calls Try.prog 24 #[.pointer none] w fun e w' => e = .returned (.int .i64 0) ∧ w = w' := by
  go_enter Try.func24, Try.ntmps24
  go_wp2_with fail
  refine (dkMade_nil w).mono ?_
  rintro e w1 ⟨rfl, rfl⟩
  go_wp2_with fail
  go_ret
  exact ⟨rfl, rfl⟩
theorem dkIs_any (h : Dsk w p O D) (x : Int) : Calls Try.prog 37 #[.pointer (some ⟨p, 0, none⟩), .int .i64 x] w fun e w' => e = .returned (.bool (D.is x)) ∧ w = w' := by
  have hl := dkLen_any h
  obtain ⟨n, hn⟩ : ∃ n, D.sure.length = n := ⟨_, rfl⟩
  rw [hn] at hl
  by_cases h0 : 0 ≤ x
  · have HI := Lib.hid (show D.is x = decide (x < n) by rw [DkM.is, hn, decide_eq_true h0]; rfl)
    clear hn
    go_enter Try.func37, Try.ntmps37
    go_wp2_with fail
    refine hl.mono ?_
    rintro e w1 ⟨rfl, rfl⟩
    go_wp2_with fail
    go_ret
    exact ⟨by rw [HI.out]; rfl, rfl⟩
  · have HI := Lib.hid (show D.is x = false by rw [DkM.is, decide_eq_false h0]; rfl)
    clear hn
    go_enter Try.func37, Try.ntmps37
    go_wp2_with fail
    go_ret
    exact ⟨by rw [HI.out]; rfl, rfl⟩
theorem dkIs_nil (w : World) (x : Int) : Calls Try.prog 37 #[.pointer none, .int .i64 x] w fun e w' => e = .returned (.bool false) ∧ w = w' := by
  by_cases h0 : 0 ≤ x
  · have d : decide (x < 0) = false := by simpa using h0
    go_enter Try.func37, Try.ntmps37
    go_wp2_with fail
    refine (dkLen_nil w).mono ?_
    rintro e w1 ⟨rfl, rfl⟩
    go_wp2_with fail
    go_ret
    exact ⟨rfl, rfl⟩
  · go_enter Try.func37, Try.ntmps37
    go_wp2_with fail
    go_ret
    exact ⟨rfl, rfl⟩
theorem dkMay_any (h : Dsk w p O D) (x : Int) (A : Option Addr) (n c : Nat) : Calls Try.prog 39 #[.pointer (some ⟨p, 0, none⟩), .int .i64 x, .slice A n c] w fun e w' => e = .returned (.int .i64 (D.mayE x n)) ∧ w = w' := by
  have hm := dkMade_any h
  have hi := dkIs_any h x
  cases hx : D.is x
  · rw [hx] at hi
    have HM := Lib.hid (show D.mayE x n = 100 by unfold DkM.mayE; rw [hx]; rfl)
    clear hx
    go_enter Try.func39, Try.ntmps39
    go_wp2_with fail
    refine hm.mono ?_
    rintro e w1 ⟨rfl, rfl⟩
    go_wp2_with fail
    refine hi.mono ?_
    rintro e w1 ⟨rfl, rfl⟩
    go_wp2_with fail
    go_ret
    exact ⟨by rw [HM.out]; rfl, rfl⟩
  · rw [hx] at hi
    by_cases hn : n = 512
    · subst hn
      have HM := Lib.hid (show D.mayE x 512 = 0 by unfold DkM.mayE; rw [hx]; rfl)
      clear hx
      go_enter Try.func39, Try.ntmps39
      go_wp2_with fail
      refine hm.mono ?_
      rintro e w1 ⟨rfl, rfl⟩
      go_wp2_with fail
      refine hi.mono ?_
      rintro e w1 ⟨rfl, rfl⟩
      go_wp2_with fail
      go_ret
      exact ⟨by rw [HM.out]; rfl, rfl⟩
    · have d : ((n : Int) != 512) = true := by simp only [bne_iff_ne]; omega
      have HM := Lib.hid (show D.mayE x n = 101 by unfold DkM.mayE; rw [hx, if_neg (by decide), if_pos hn])
      clear hn hx
      go_enter Try.func39, Try.ntmps39
      go_wp2_with fail
      refine hm.mono ?_
      rintro e w1 ⟨rfl, rfl⟩
      go_wp2_with fail
      refine hi.mono ?_
      rintro e w1 ⟨rfl, rfl⟩
      go_wp2_with fail
      go_ret
      exact ⟨by rw [HM.out]; rfl, rfl⟩
theorem dkMay_nil (w : World) (x : Int) (v : Value) : Calls Try.prog 39 #[.pointer none, .int .i64 x, v] w fun e w' => e = .returned (.int .i64 6) ∧ w = w' := by
  go_enter Try.func39, Try.ntmps39
  go_wp2_with fail
  refine (dkMade_nil w).mono ?_
  rintro e w1 ⟨rfl, rfl⟩
  go_wp2_with fail
  go_ret
  exact ⟨rfl, rfl⟩
theorem dkStop_nil (w : World) (x : Int) : Calls Try.prog 21 #[.pointer none, .int .i64 x] w fun e w' => e = .returned (.tuple #[]) ∧ w = w' := by
  go_enter Try.func21, Try.ntmps21
  go_wp2_with fail
  refine (dkMade_nil w).mono ?_
  rintro e w1 ⟨rfl, rfl⟩
  go_wp2_with fail
  go_returns
  exact ⟨rfl, rfl⟩
def DkM.stop (D : DkM) (x : Int) : DkM := if D.off then D else { D with calls := max x (-1) }
theorem dkStop_any (h : Dsk w p O D) (x : Int) (hx : x ≤ 9223372036854775807) : Calls Try.prog 21 #[.pointer (some ⟨p, 0, none⟩), .int .i64 x] w fun e w' => e = .returned (.tuple #[]) ∧ Dsk w' p O (D.stop x) ∧ Fr [p] w w' := by
  have hm := dkMade_any h
  have ho := dkOff_any h
  unfold DkM.stop
  cases hoff : D.off
  · rw [hoff] at ho
    clear hoff
    obtain ⟨X, h⟩ := h
    have c2 := h.c2
    have z2 := h.blk.frozen 2
    have fin : ∀ c : Int, c = max x (-1) → Dsk (w.setCell ⟨p, 2, none⟩ (.int .i64 c)) p O { D with calls := max x (-1) } ∧ Fr [p] w (w.setCell ⟨p, 2, none⟩ (.int .i64 c)) := fun c e => by
      subst e
      have f : Fr [p] w (w.setCell ⟨p, 2, none⟩ (.int .i64 (max x (-1)))) := (Fr.refl [p] w).setCell (.inl (by simp)) _
      exact ⟨⟨X, h.setp f _ (by omega) (h.blk.set_ 2 _)⟩, f⟩
    have HF := Lib.hid fin
    clear fin
    go_enter Try.func21, Try.ntmps21
    go_wp2_with fail
    refine hm.mono ?_
    rintro e w1 ⟨rfl, rfl⟩
    go_wp2_with fail
    refine ho.mono ?_
    rintro e w1 ⟨rfl, rfl⟩
    go_wp2_with fail
    all_goals (go_returns; exact ⟨rfl, HF.out _ (by omega)⟩)
  · rw [hoff] at ho
    clear hoff
    have F := Fr.refl [p] w
    have HH := Lib.hid h
    clear h
    go_enter Try.func21, Try.ntmps21
    go_wp2_with fail
    refine hm.mono ?_
    rintro e w1 ⟨rfl, rfl⟩
    go_wp2_with fail
    refine ho.mono ?_
    rintro e w1 ⟨rfl, rfl⟩
    go_wp2_with fail
    go_returns
    exact ⟨rfl, HH.out, F⟩
end
end Go.Proofs.Ytdhhnioklbnicaa
