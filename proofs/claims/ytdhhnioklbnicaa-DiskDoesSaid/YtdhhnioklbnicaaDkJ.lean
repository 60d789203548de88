/-
  Layer 10 (disk): Fork.
-/
import Derived.Test.YtdhhnioklbnicaaDkG
set_option linter.unusedSimpArgs false
set_option linter.unusedVariables false
set_option linter.unnecessarySimpa false
namespace Go.Proofs.Ytdhhnioklbnicaa
open Go.RowKit
set_option maxRecDepth 100000

/-- slices.Clone of slices of bytes. -/
theorem cloneBB_any (A : Option Addr) (vs : List Value) (n c : Nat) (w : World) (hn : vs.length = n) (hr : Rd w A vs) (h1 : ∀ u ∈ vs, u.oneCell' = true) (hA : A = none → n = 0) (hl : n ≤ 4398046511104) :
    Calls Try.prog 46 #[.slice A n c] w fun e w' => ∃ v, e = .returned v ∧ Row w' w.heap.size 31 1 v n vs ∧ Fr [] w w' := by
  subst hn
  have qT : ∀ (w : World) (a : Option Addr) (n c n' c' : Nat), (binOp .eql 72 (.slice a n c) (.slice none n' c')).run Try.prog w = .ok (.bool a.isNone) w :=
    fun w a n c n' c' => Lib.run_eql_slice_nil w _ _ a n c n' c' Try.underlying72
  cases A with
  | none =>
    obtain rfl : vs = [] := List.eq_nil_of_length_eq_zero (hA rfl)
    go_enter Try.func46, Try.ntmps46
    go_wp2
    go_ret
    exact ⟨_, rfl, Row.nil _ _ _ _, Fr.refl _ _⟩
  | some ad =>
    go_enter Try.func46, Try.ntmps46
    go_wp2_with (at_builtin; refine wpList_app rfl rfl slBBD w.heap.size _ 0 [] rfl (Row.new w #[] 31 1 0 (0, 0) (free_zero _) (by unfold maxLen; omega) rfl (Nat.le_refl _)) (some ad) vs.length c vs rfl (by simp) (hr.alloc _) h1 (fun h => by cases h) (by omega) (by simp) ?_; intro v1 w1 h1 h2 h3 h4)
    go_ret
    refine ⟨_, rfl, by simpa using h1, ?_⟩
    exact ((Fr.refl [] w).alloc _).trans h2 (fun i hi => .inr (by rw [own_mem.1 hi]; exact Nat.le_refl _))
section
variable {w w' : World} {p : Nat} {O : List Nat} {D : DkM} {X : DkX}
theorem dkFork_nil (w : World) : Calls Try.prog 17 #[.pointer none] w fun e w' => e = .returned (.pointer none) ∧ w = w' := by
  go_enter Try.func17, Try.ntmps17
  go_wp2_with fail
  refine (dkMade_nil w).mono ?_
  rintro e w4 ⟨rfl, rfl⟩
  go_wp2_with fail
  go_ret
  exact ⟨rfl, rfl⟩
/-- What is not still to come. -/
def DkM.fk (D : DkM) (left : Int → Bool) : DkM := { D with uns := fun x => if left x = true then [] else D.uns x }
theorem fork_start {g2 c2 m2 p2 : Nat} (h : DskX w p O D X) (f : Fr [] w w') (r : Row w' 0 31 1 (.slice (some ⟨g2, 0, none⟩) D.sure.length c2) D.sure.length X.vs) (m : MapZ w' m2 4096 (fun _ => none)) (k : Blk w' p2 75 #[.slice (some ⟨g2, 0, none⟩) D.sure.length c2, .map (some m2), .int .i64 D.calls]) :
    DskX w' p2 [g2, m2, p2] (D.fk fun x => (X.f x).isSome) ⟨g2, c2, m2, fun _ => none, X.vs⟩ := by
  have hu : ∀ x, (D.fk fun x => (X.f x).isSome).uns x = [] := fun x => by
    show (if (X.f x).isSome = true then [] else D.uns x) = []
    cases hf : X.f x with
    | none => simpa using (h.iff x).1 hf
    | some u => simp
  refine ⟨by simp, by simp, by simp, k, h.n1, r, fun i a b => (h.su i a b).keepT f (NoTy.nil _ _), m, fun x => ⟨fun _ => hu x, fun _ => rfl⟩, fun x v hx => (by cases hx), fun x hx => absurd (hu x) hx, fun x y u v _ hx => (by cases hx), fun i hi cs fz hc => ?_, fun i hi => ?_, h.calls⟩
  · simp only [List.mem_cons, List.not_mem_nil, or_false] at hi
    rcases hi with rfl | rfl | rfl
    · exact r.noTy (d := 5) (by decide) i (by simp [Value.ownBlock]) cs fz hc
    · obtain ⟨D4, ⟨es, clock, hb, _⟩, _⟩ := m
      rw [hb] at hc
      cases hc
    · unfold Blk at k
      rw [k] at hc
      injection hc with hc
      injection hc with _ hc
      exact absurd hc (by decide)
  · simp only [List.mem_cons, List.not_mem_nil, or_false] at hi
    rcases hi with rfl | rfl | rfl
    · exact (r.lt i rfl).2
    · exact m.lt
    · exact k.lt
theorem RangeZ.rlt {b r n cnt : Nat} {f : Int → Option Value} {left : Int → Bool} (h : RangeZ w b r n f left cnt) : r < w.heap.size := by
  obtain ⟨D4, lf, h, _⟩ := h
  exact h.lt
theorem SuV.one {v : Value} {s : Option (List UInt8)} (h : SuV w v s) : v.oneCell' = true := by
  cases s with
  | none => have h : v = .slice none 0 0 := h; rw [h]; rfl
  | some l =>
    obtain ⟨hl, r⟩ : BlkB w v l := h
    obtain ⟨g, c, rfl⟩ := r.hdD (by omega)
    rfl
set_option maxHeartbeats 4000000 in
theorem dkFork_any (h : Dsk w p O D) (hl : ∀ x, (D.uns x).length ≤ 4398046511104) : Calls Try.prog 17 #[.pointer (some ⟨p, 0, none⟩)] w fun e w' => ∃ p2 O2, e = .returned (.pointer (some ⟨p2, 0, none⟩)) ∧ Dsk w' p2 O2 D ∧ (∀ i ∈ O2, w.heap.size ≤ i) ∧ Fr [] w w' := by
  have cm := dkMade_any h
  have hmm := @run_makeMap Try.prog
  obtain ⟨X, h⟩ := h
  have c0 := h.c0
  have c2 := h.c2
  have HH := Lib.hid h
  have HL := Lib.hid hl
  obtain ⟨N, hN⟩ : ∃ N, D.sure.length = N := ⟨_, rfl⟩
  obtain ⟨q, hq⟩ : ∃ q, D.calls = q := ⟨_, rfl⟩
  rw [hN] at c0
  rw [hq] at c2
  have hrow := h.row
  rw [hN] at hrow
  have hn1 := h.n1
  rw [hN] at hn1
  have hone : ∀ u ∈ X.vs, u.oneCell' = true := fun u hu => by
    obtain ⟨i, hi, rfl⟩ := List.getElem_of_mem hu
    exact (h.su i hi (by have := h.row.1; omega)).one
  have HN := Lib.hid (And.intro hN hq)
  have HO := Lib.hid (fun (u : Value) (hu : u ∈ X.vs) => hone u hu)
  clear hl h hN hq hone
  go_enter Try.func17, Try.ntmps17
  go_wp2_with fail
  refine cm.mono ?_
  rintro e w1 ⟨rfl, rfl⟩
  clear cm
  go_upto_region 3 with fail
  have fz := (Fr.refl [] w).drew
  obtain ⟨w1, hw1⟩ : ∃ w1, w.drew = w1 := ⟨_, rfl⟩
  rw [hw1] at fz
  refine wp_region_held_drew (S := fun w' => w'.cell? ⟨p, 0, none⟩ = some (.slice (some ⟨X.g, 0, none⟩) N X.c) ∧ w'.cell? ⟨p, 2, none⟩ = some (.int .i64 q)) (by kernel_rfl) (by rw [hw1]; exact ⟨fz.cell (by simp) c0, fz.cell (by simp) c2⟩) (fun hHeld => ?_)
  rw [hw1] at hHeld ⊢
  clear hw1
  refine take_w 0 (some 9) (v := ?_) rfl rfl (by kernel_rfl) (by kernel_rfl) (by kernel_rfl) (fun _ _ _ h => h) (by rfl) ?_ hHeld ?_
  rotate_left
  · (intro w hSw; (try dsimp only at hSw); go_simp; try with_reducible rfl)
  simp only [Act.put, List.setIfInBounds_toArray, List.set_cons_zero, List.set_cons_succ]
  refine take_w 1 (some 10) (v := ?_) rfl rfl (by kernel_rfl) (by kernel_rfl) (by kernel_rfl) (fun _ _ _ h => h) (by rfl) ?_ hHeld ?_
  rotate_left
  · (intro w hSw; (try dsimp only at hSw); go_simp; try with_reducible rfl)
  simp only [Act.put, List.setIfInBounds_toArray, List.set_cons_zero, List.set_cons_succ]
  refine take_w 2 (some 11) (v := ?_) rfl rfl (by kernel_rfl) (by kernel_rfl) (by kernel_rfl) (fun _ _ _ h => h) (by rfl) ?_ hHeld ?_
  rotate_left
  · (intro w hSw; (try dsimp only at hSw); go_simp; try with_reducible rfl)
  simp only [Act.put, List.setIfInBounds_toArray, List.set_cons_zero, List.set_cons_succ]
  refine take_w 3 (some 12) (v := ?_) rfl rfl (by kernel_rfl) (by kernel_rfl) (by kernel_rfl) (fun _ _ _ h => h) (by rfl) ?_ hHeld ?_
  rotate_left
  · (intro w hSw; (try dsimp only at hSw); go_simp; try with_reducible rfl)
  simp only [Act.put, List.setIfInBounds_toArray, List.set_cons_zero, List.set_cons_succ]
  refine take_w 6 (some 15) (v := ?_) rfl rfl (by kernel_rfl) (by kernel_rfl) (by kernel_rfl) (fun _ _ _ h => h) (by rfl) ?_ hHeld ?_
  rotate_left
  · (intro w hSw; (try dsimp only at hSw); go_simp; try with_reducible rfl)
  simp only [Act.put, List.setIfInBounds_toArray, List.set_cons_zero, List.set_cons_succ]
  refine take_w 7 (some 16) (v := ?_) rfl rfl (by kernel_rfl) (by kernel_rfl) (by kernel_rfl) (fun _ _ _ h => h) (by rfl) ?_ hHeld ?_
  rotate_left
  · (intro w hSw; (try dsimp only at hSw); go_simp; try with_reducible rfl)
  simp only [Act.put, List.setIfInBounds_toArray, List.set_cons_zero, List.set_cons_succ]
  refine take_w 8 (some 17) (v := ?_) rfl rfl (by kernel_rfl) (by kernel_rfl) (by kernel_rfl) (fun _ _ _ h => h) (by rfl) ?_ hHeld ?_
  rotate_left
  · (intro w hSw; (try dsimp only at hSw); go_simp; try with_reducible rfl)
  simp only [Act.put, List.setIfInBounds_toArray, List.set_cons_zero, List.set_cons_succ]
  refine take_w 9 (some 18) (v := ?_) rfl rfl (by kernel_rfl) (by kernel_rfl) (by kernel_rfl) (fun _ _ _ h => h) (by rfl) ?_ hHeld ?_
  rotate_left
  · (intro w hSw; (try dsimp only at hSw); go_simp; try with_reducible rfl)
  simp only [Act.put, List.setIfInBounds_toArray, List.set_cons_zero, List.set_cons_succ]
  refine take_2z 4 5 rfl rfl (by kernel_rfl) (by rfl) (by rfl) (fun K hK => ?_) (fun K hK => ?_)
  ·
    go_simp
    refine (cloneBB_any _ X.vs N X.c w1 (by have := hrow.1; omega) (hrow.keep_nil fz).rdD.1 HO.out (fun h => by cases h) (by omega)).mono ?_
    rintro e w2 ⟨v2, rfl, r2, f2⟩
    obtain ⟨g2, c2', rfl⟩ := r2.hdD (by omega)
    refine hK.out _ _ ⟨f2.cell (by simp) hHeld.1, f2.cell (by simp) hHeld.2⟩ (fun hHx => ?_)
    clear hHeld
    have hHeld := hHx
    clear hHx
    clear hK K
    try simp only [Act.put, List.setIfInBounds_toArray, List.set_cons_zero, List.set_cons_succ]
    refine take_c 5 rfl (by kernel_rfl) (by rfl) (fun K hK => ?_)
    go_simp
    have m5 := MapZ.made w2
    have f5 : Fr [] w2 (w2.alloc (.map #[] 0)) := (Fr.refl _ _).alloc _
    refine hK.out _ _ ⟨f5.cell (by simp) hHeld.1, f5.cell (by simp) hHeld.2⟩ (fun hHx => ?_)
    have hmb : w.heap.size ≤ w2.heap.size := by first | exact fz.size | exact (fz.trans_nil f2).size
    obtain ⟨w5, hw5⟩ : ∃ w5, w2.alloc (.map #[] 0) = w5 := ⟨_, rfl⟩
    obtain ⟨m2, hm2⟩ : ∃ m2, w2.heap.size = m2 := ⟨_, rfl⟩
    rw [hw5] at m5 f5 hHx ⊢
    rw [hm2] at m5 hmb ⊢
    (replace r2 := r2.keep_nil f5)
    clear hw5 hm2
    clear hHeld
    have hHeld := hHx
    clear hHx
    clear hK K
    try simp only [Act.put, List.setIfInBounds_toArray, List.set_cons_zero, List.set_cons_succ]
    have f24 := (fz.trans_nil f2).trans_nil f5
    have g2b : w.heap.size ≤ g2 := Nat.le_trans (by have := fz.size; omega) (r2.lt g2 rfl).1
    refine take_w 10 (some 19) (v := ?_) rfl rfl (by kernel_rfl) (by kernel_rfl) (by kernel_rfl) (fun _ _ _ h => h) (by rfl) ?_ hHeld ?_
    rotate_left
    · (intro w hSw; (try dsimp only at hSw); go_simp; try with_reducible rfl)
    simp only [Act.put, List.setIfInBounds_toArray, List.set_cons_zero, List.set_cons_succ]
    refine take_c 11 rfl (by kernel_rfl) (by rfl) (fun K hK => ?_)
    go_simp
    have k6 := Blk.new w5 75 #[.slice (some ⟨g2, 0, none⟩) N c2', .map (some m2), .int .i64 q]
    have f6 : Fr [] w5 (w5.alloc (.cells #[.slice (some ⟨g2, 0, none⟩) N c2', .map (some m2), .int .i64 q] 75)) := (Fr.refl _ _).alloc _
    refine hK.out _ _ ⟨f6.cell (by simp) hHeld.1, f6.cell (by simp) hHeld.2⟩ (fun hHx => ?_)
    obtain ⟨w6, hw6⟩ : ∃ w6, w5.alloc (.cells #[.slice (some ⟨g2, 0, none⟩) N c2', .map (some m2), .int .i64 q] 75) = w6 := ⟨_, rfl⟩
    obtain ⟨p2, hp2⟩ : ∃ p2, w5.heap.size = p2 := ⟨_, rfl⟩
    rw [hw6] at k6 f6 hHx ⊢
    rw [hp2] at k6 ⊢
    clear hHeld
    have hHeld := hHx
    clear hHx
    clear hK K
    try simp only [Act.put, List.setIfInBounds_toArray, List.set_cons_zero, List.set_cons_succ]
    refine take_w 12 (some 3) (v := ?_) rfl rfl (by kernel_rfl) (by kernel_rfl) (by kernel_rfl) (fun _ _ _ h => h) (by rfl) ?_ hHeld ?_
    rotate_left
    · (intro w hSw; (try dsimp only at hSw); go_simp; try with_reducible rfl)
    simp only [Act.put, List.setIfInBounds_toArray, List.set_cons_zero, List.set_cons_succ]
    refine wpAnyH_done (by kernel_rfl) ?_ _
    have F6 := f24.trans_nil f6
    have h6 : DskX w6 p2 [g2, m2, p2] (D.fk fun x => (X.f x).isSome) ⟨g2, c2', m2, fun _ => none, X.vs⟩ := fork_start HH.out F6 (by rw [HN.out.1]; exact (r2.keep_nil f6).mono (Nat.zero_le _)) ((m5.keep_nil f6).mono (by omega)) (by rw [HN.out.1, HN.out.2]; exact k6)
    have HB2 := Lib.hid (show ∀ i ∈ [g2, m2, p2], w.heap.size ≤ i from fun i hi => by have := f24.size; simp at hi; omega)
    have H6 := Lib.hid h6
    have e1 := h6.c1
    have cd1 := (HH.out.keep_nil F6).c1
    have mz := (HH.out.keep_nil F6).map
    dsimp only at e1
    have hpm : X.m < w6.heap.size := mz.lt
    clear hHeld hw6 hp2 f6 k6 r2 m5 h6 f24 c0 c2 hrow
    obtain ⟨r, hr⟩ : ∃ r, w6.heap.size = r := ⟨_, rfl⟩
    have HR := Lib.hid (And.intro hr (show (∀ i ∈ [g2, m2, p2], i ≠ r) ∧ w.heap.size ≤ r ∧ X.m ≠ r from ⟨fun i hi => by have := H6.out.lt i hi; omega, by have := F6.size; omega, by omega⟩))
    clear hr hpm
    go_wp2_with (first | (at_range; refine wpList_rangeZ rfl rfl Try.underlying73 rfl mz ?_; intro w0 cnt0 hrg f0 s0; rw [HR.out.1]; rw [HR.out.1] at hrg; go_frame))
    have F0 : Fr [] w w0 := F6.trans_nil f0
    have h0 := H6.out.keep_nil f0
    clear f0 s0 mz F6 e1 cd1
    go_loopw [4] (fun _ wr => ∃ left cnt O2 f2, RangeZ wr X.m r 4096 X.f left cnt ∧ DskX wr p2 O2 (D.fk left) ⟨g2, c2', m2, f2, X.vs⟩ ∧ (∀ i ∈ O2, w.heap.size ≤ i ∧ i ≠ r) ∧ Fr [] w wr) (fun _ wr => wr.rangeLeft X.m r)
    case atStart =>
      exact ⟨_, _, _, _, hrg, h0, fun i hi => ⟨HB2.out i hi, HR.out.2.1 i hi⟩, F0⟩
    case round =>
      clear hrg h0 F0
      obtain ⟨left, cnt, O2, f2', hrg, h, hO2, F⟩ := hrel
      go_wp2_with (at_next; refine wpList_nextZ rfl rfl rfl hrg ?_ ?_)
      · intro hl0
        have hd : D.fk left = D := by
          unfold DkM.fk
          have e : (fun x => if left x = true then [] else D.uns x) = D.uns := funext fun x => by
            by_cases hw : wfZ x
            · rw [hl0 x hw]; simp
            · have hx : D.uns x = [] := Classical.byContradiction fun hne => hw (wfZ_of (by have := HH.out.rng x hne; have := HH.out.n1; omega))
              rw [hx]; simp
          rw [e]
        rw [hd] at h
        have HF := Lib.hid (show ∃ p2' O2', (Ending.returned (.pointer (some ⟨p2, 0, none⟩))) = .returned (.pointer (some ⟨p2', 0, none⟩)) ∧ Dsk wr p2' O2' D ∧ (∀ i ∈ O2', w.heap.size ≤ i) ∧ Fr [] w wr from ⟨p2, O2, rfl, ⟨_, h⟩, fun i hi => (hO2 i hi).1, F⟩)
        clear h F hrg hO2 hd
        go_wp2_with fail
        go_ret
        exact HF.out
      · intro x v w1 cnt1 hwx hlx hfx hrg1 hlt f1 s1 hen
        have rO : r ∉ O2 := fun hm => (hO2 r hm).2 rfl
        have h1 := h.keep f1 (fun i hi hm => rO (by rw [← List.mem_singleton.1 hm]; exact hi)) (hrg.noTy _)
        have F1 := F.trans f1 (fun i hi => .inr (by rw [List.mem_singleton.1 hi]; exact HR.out.2.2.1))
        have HLE := Lib.hid hrg.left_eq
        have HLT := Lib.hid hlt
        obtain ⟨⟨us, ur, ub⟩, -⟩ := (HH.out.keep_nil F1).un x v hfx
        have hne : D.uns x ≠ [] := fun e => by have := (HH.out.iff x).2 e; rw [hfx] at this; cases this
        have hxr := HH.out.rng x hne
        have hll := HL.out x
        obtain ⟨L, hLL⟩ : ∃ L, D.uns x = L := ⟨_, rfl⟩
        rw [hLL] at ur ub hll hne
        obtain ⟨ln, hln⟩ : ∃ ln, L.length = ln := ⟨_, rfl⟩
        have hpos : 0 < ln := by rw [← hln]; exact List.length_pos_iff.2 hne
        rw [hln] at ur hll
        obtain ⟨gv, cv, rfl⟩ := ur.hdD hpos
        have hul : us.length = ln := by have := ur.1; omega
        have uone : ∀ u ∈ us, u.oneCell' = true := fun u hu => by
          obtain ⟨i, hi, rfl⟩ := List.getElem_of_mem hu
          exact SuV.one (s := some (L[i]'(by omega))) (ub i hi (by omega))
        have e1 := h1.c1
        dsimp only at e1
        have HS := Lib.hid h1
        have HLL := Lib.hid (And.intro hLL (And.intro hln (And.intro hne hxr)))
        have HUO := Lib.hid uone
        have HUB := Lib.hid ub
        have HLX := Lib.hid hlx
        clear h1 h hrg hlt hLL hne hln uone ub hxr F hlx
        go_upto_region 7 with fail
        have fz7 := (Fr.refl [] w1).drew
        obtain ⟨w7, hw7⟩ : ∃ w7, w1.drew = w7 := ⟨_, rfl⟩
        rw [hw7] at fz7
        refine wp_region_held_drew (S := fun w' => w'.cell? ⟨p2, 1, none⟩ = some (.map (some m2))) (by kernel_rfl) (by rw [hw7]; exact fz7.cell (by simp) e1) (fun hHeld => ?_)
        rw [hw7] at hHeld ⊢
        clear hw7
        refine take_w 0 (some 31) (v := ?_) rfl rfl (by kernel_rfl) (by kernel_rfl) (by kernel_rfl) (fun _ _ _ h => h) (by rfl) ?_ hHeld ?_
        rotate_left
        · (intro w hSw; (try dsimp only at hSw); go_simp; try with_reducible rfl)
        simp only [Act.put, List.setIfInBounds_toArray, List.set_cons_zero, List.set_cons_succ]
        refine take_w 1 (some 32) (v := ?_) rfl rfl (by kernel_rfl) (by kernel_rfl) (by kernel_rfl) (fun _ _ _ h => h) (by rfl) ?_ hHeld ?_
        rotate_left
        · (intro w hSw; (try dsimp only at hSw); go_simp; try with_reducible rfl)
        simp only [Act.put, List.setIfInBounds_toArray, List.set_cons_zero, List.set_cons_succ]
        refine take_w 2 (some 33) (v := ?_) rfl rfl (by kernel_rfl) (by kernel_rfl) (by kernel_rfl) (fun _ _ _ h => h) (by rfl) ?_ hHeld ?_
        rotate_left
        · (intro w hSw; (try dsimp only at hSw); go_simp; try with_reducible rfl)
        simp only [Act.put, List.setIfInBounds_toArray, List.set_cons_zero, List.set_cons_succ]
        refine take_w 3 (some 34) (v := ?_) rfl rfl (by kernel_rfl) (by kernel_rfl) (by kernel_rfl) (fun _ _ _ h => h) (by rfl) ?_ hHeld ?_
        rotate_left
        · (intro w hSw; (try dsimp only at hSw); go_simp; try with_reducible rfl)
        simp only [Act.put, List.setIfInBounds_toArray, List.set_cons_zero, List.set_cons_succ]
        refine take_w 4 (some 35) (v := ?_) rfl rfl (by kernel_rfl) (by kernel_rfl) (by kernel_rfl) (fun _ _ _ h => h) (by rfl) ?_ hHeld ?_
        rotate_left
        · (intro w hSw; (try dsimp only at hSw); go_simp; try with_reducible rfl)
        simp only [Act.put, List.setIfInBounds_toArray, List.set_cons_zero, List.set_cons_succ]
        refine take_w 5 (some 36) (v := ?_) rfl rfl (by kernel_rfl) (by kernel_rfl) (by kernel_rfl) (fun _ _ _ h => h) (by rfl) ?_ hHeld ?_
        rotate_left
        · (intro w hSw; (try dsimp only at hSw); go_simp; try with_reducible rfl)
        simp only [Act.put, List.setIfInBounds_toArray, List.set_cons_zero, List.set_cons_succ]
        refine take_c 6 rfl (by kernel_rfl) (by rfl) (fun K hK => ?_)
        go_simp
        refine (cloneBB_any _ us ln cv w7 hul (ur.keep_nil fz7).rdD.1 HUO.out (fun h => by cases h) hll).mono ?_
        rintro e w8 ⟨v8, rfl, r8, f8⟩
        obtain ⟨g8, c8, rfl⟩ := r8.hdD hpos
        refine hK.out _ _ (f8.cell (by simp) hHeld) (fun hHx => ?_)
        clear hHeld
        have hHeld := hHx
        clear hHx
        clear hK K
        try simp only [Act.put, List.setIfInBounds_toArray, List.set_cons_zero, List.set_cons_succ]
        have f78 := fz7.trans_nil f8
        have h8 := HS.out.keep_nil f78
        obtain ⟨w9, hrun, m9, f9, s9⟩ := h8.map.put Try.underlying73 (by unfold maxLen; omega) hwx (.slice (some ⟨g8, 0, none⟩) ln c8)
        refine take_c 7 rfl (by kernel_rfl) (by rfl) (fun K hK => ?_)
        dsimp only at hrun m9 f9
        go_simp
        refine hK.out _ _ (f9.cell (by simpa using fun e => h8.mp e.symm) hHeld) (fun hHx => ?_)
        clear hHeld
        have hHeld := hHx
        clear hHx
        clear hK K
        try simp only [Act.put, List.setIfInBounds_toArray, List.set_cons_zero, List.set_cons_succ]
        clear hrun
        refine wpAnyH_done (by kernel_rfl) ?_ _
        go_wp2_with fail
        have hf2 : f2' x = none := (h8.iff x).2 (by show (if left x = true then [] else D.uns x) = []; rw [HLX.out]; simp)
        have h7 := HS.out.keep_nil fz7
        have hg8 := (r8.lt g8 rfl).1
        have hrl : r < w7.heap.size := Nat.lt_of_lt_of_le hrg1.rlt fz7.size
        have hm2 := hO2 m2 h8.mO
        have hput := h7.putL (x := x) (L' := L) (v := .slice none 0 0) (v' := .slice (some ⟨g8, 0, none⟩) ln c8) (g' := g8) (w3 := w8) (w4 := w9) HLL.out.2.2.1 (DkM.is_iff.2 HLL.out.2.2.2) (by show _ = (f2' x).getD _; rw [hf2]; rfl) f8 ⟨us, by rw [HLL.out.2.1]; exact r8.mono (Nat.zero_le _), fun i a b => (HUB.out i a b).keep_nil f78⟩ rfl (.inr hg8) m9 f9
        have he : (D.fk left).wrL x L = D.fk (fun y => left y && !(y == x)) := by
          unfold DkM.wrL DkM.fk
          congr 1
          funext y
          by_cases e : y = x
          · subst e
            simp [HLL.out.1]
          · simp [e]
        rw [he] at hput
        have hXm : X.m < w.heap.size := HH.out.lts.2.2
        refine ⟨⟨_, cnt1, _, _, (hrg1.keep f78 (by simp) (by simp)).keep f9 (by simp; omega) (by simp; omega), hput.1, fun i hi => ?_, (F1.trans_nil f78).trans f9 (fun i hi => .inr (by rw [List.mem_singleton.1 hi]; exact hm2.1))⟩, ?_⟩
        · rcases List.mem_cons.1 hi with rfl | hi
          · exact ⟨by have := F1.size; have := fz7.size; omega, by omega⟩
          · exact hO2 i (List.mem_filter.1 hi).1
        · rw [((hrg1.keep f78 (by simp) (by simp)).keep f9 (by simp; omega) (by simp; omega)).left_eq, HLE.out]
          exact HLT.out
  ·
    go_simp
    have m5 := MapZ.made w1
    have f5 : Fr [] w1 (w1.alloc (.map #[] 0)) := (Fr.refl _ _).alloc _
    refine hK.out _ _ ⟨f5.cell (by simp) hHeld.1, f5.cell (by simp) hHeld.2⟩ (fun hHx => ?_)
    have hmb : w.heap.size ≤ w1.heap.size := by first | exact fz.size | exact (fz.trans_nil f2).size
    obtain ⟨w5, hw5⟩ : ∃ w5, w1.alloc (.map #[] 0) = w5 := ⟨_, rfl⟩
    obtain ⟨m2, hm2⟩ : ∃ m2, w1.heap.size = m2 := ⟨_, rfl⟩
    rw [hw5] at m5 f5 hHx ⊢
    rw [hm2] at m5 hmb ⊢
    skip
    clear hw5 hm2
    clear hHeld
    have hHeld := hHx
    clear hHx
    clear hK K
    try simp only [Act.put, List.setIfInBounds_toArray, List.set_cons_zero, List.set_cons_succ]
    refine take_c 4 rfl (by kernel_rfl) (by rfl) (fun K hK => ?_)
    have f05 := fz.trans_nil f5
    have gm5 := m5.lt
    go_simp
    refine (cloneBB_any _ X.vs N X.c w5 (by have := hrow.1; omega) (hrow.keep_nil f05).rdD.1 HO.out (fun h => by cases h) (by omega)).mono ?_
    rintro e w2 ⟨v2, rfl, r2, f2⟩
    obtain ⟨g2, c2', rfl⟩ := r2.hdD (by omega)
    refine hK.out _ _ ⟨f2.cell (by simp) hHeld.1, f2.cell (by simp) hHeld.2⟩ (fun hHx => ?_)
    clear hHeld
    have hHeld := hHx
    clear hHx
    clear hK K
    try simp only [Act.put, List.setIfInBounds_toArray, List.set_cons_zero, List.set_cons_succ]
    replace m5 := m5.keep_nil f2
    have f24 := f05.trans_nil f2
    replace r2 := r2.mono (B := w.heap.size) f05.size
    obtain ⟨w5, hw5⟩ : ∃ w5, w5 = w2 := ⟨_, rfl⟩
    subst hw5
    have g2b : w.heap.size ≤ g2 := Nat.le_trans (by have := fz.size; omega) (r2.lt g2 rfl).1
    refine take_w 10 (some 19) (v := ?_) rfl rfl (by kernel_rfl) (by kernel_rfl) (by kernel_rfl) (fun _ _ _ h => h) (by rfl) ?_ hHeld ?_
    rotate_left
    · (intro w hSw; (try dsimp only at hSw); go_simp; try with_reducible rfl)
    simp only [Act.put, List.setIfInBounds_toArray, List.set_cons_zero, List.set_cons_succ]
    refine take_c 11 rfl (by kernel_rfl) (by rfl) (fun K hK => ?_)
    go_simp
    have k6 := Blk.new w5 75 #[.slice (some ⟨g2, 0, none⟩) N c2', .map (some m2), .int .i64 q]
    have f6 : Fr [] w5 (w5.alloc (.cells #[.slice (some ⟨g2, 0, none⟩) N c2', .map (some m2), .int .i64 q] 75)) := (Fr.refl _ _).alloc _
    refine hK.out _ _ ⟨f6.cell (by simp) hHeld.1, f6.cell (by simp) hHeld.2⟩ (fun hHx => ?_)
    obtain ⟨w6, hw6⟩ : ∃ w6, w5.alloc (.cells #[.slice (some ⟨g2, 0, none⟩) N c2', .map (some m2), .int .i64 q] 75) = w6 := ⟨_, rfl⟩
    obtain ⟨p2, hp2⟩ : ∃ p2, w5.heap.size = p2 := ⟨_, rfl⟩
    rw [hw6] at k6 f6 hHx ⊢
    rw [hp2] at k6 ⊢
    clear hHeld
    have hHeld := hHx
    clear hHx
    clear hK K
    try simp only [Act.put, List.setIfInBounds_toArray, List.set_cons_zero, List.set_cons_succ]
    refine take_w 12 (some 3) (v := ?_) rfl rfl (by kernel_rfl) (by kernel_rfl) (by kernel_rfl) (fun _ _ _ h => h) (by rfl) ?_ hHeld ?_
    rotate_left
    · (intro w hSw; (try dsimp only at hSw); go_simp; try with_reducible rfl)
    simp only [Act.put, List.setIfInBounds_toArray, List.set_cons_zero, List.set_cons_succ]
    refine wpAnyH_done (by kernel_rfl) ?_ _
    have F6 := f24.trans_nil f6
    have h6 : DskX w6 p2 [g2, m2, p2] (D.fk fun x => (X.f x).isSome) ⟨g2, c2', m2, fun _ => none, X.vs⟩ := fork_start HH.out F6 (by rw [HN.out.1]; exact (r2.keep_nil f6).mono (Nat.zero_le _)) ((m5.keep_nil f6).mono (by omega)) (by rw [HN.out.1, HN.out.2]; exact k6)
    have HB2 := Lib.hid (show ∀ i ∈ [g2, m2, p2], w.heap.size ≤ i from fun i hi => by have := f24.size; simp at hi; omega)
    have H6 := Lib.hid h6
    have e1 := h6.c1
    have cd1 := (HH.out.keep_nil F6).c1
    have mz := (HH.out.keep_nil F6).map
    dsimp only at e1
    have hpm : X.m < w6.heap.size := mz.lt
    clear hHeld hw6 hp2 f6 k6 r2 m5 h6 f24 c0 c2 hrow
    obtain ⟨r, hr⟩ : ∃ r, w6.heap.size = r := ⟨_, rfl⟩
    have HR := Lib.hid (And.intro hr (show (∀ i ∈ [g2, m2, p2], i ≠ r) ∧ w.heap.size ≤ r ∧ X.m ≠ r from ⟨fun i hi => by have := H6.out.lt i hi; omega, by have := F6.size; omega, by omega⟩))
    clear hr hpm
    go_wp2_with (first | (at_range; refine wpList_rangeZ rfl rfl Try.underlying73 rfl mz ?_; intro w0 cnt0 hrg f0 s0; rw [HR.out.1]; rw [HR.out.1] at hrg; go_frame))
    have F0 : Fr [] w w0 := F6.trans_nil f0
    have h0 := H6.out.keep_nil f0
    clear f0 s0 mz F6 e1 cd1
    go_loopw [4] (fun _ wr => ∃ left cnt O2 f2, RangeZ wr X.m r 4096 X.f left cnt ∧ DskX wr p2 O2 (D.fk left) ⟨g2, c2', m2, f2, X.vs⟩ ∧ (∀ i ∈ O2, w.heap.size ≤ i ∧ i ≠ r) ∧ Fr [] w wr) (fun _ wr => wr.rangeLeft X.m r)
    case atStart =>
      exact ⟨_, _, _, _, hrg, h0, fun i hi => ⟨HB2.out i hi, HR.out.2.1 i hi⟩, F0⟩
    case round =>
      clear hrg h0 F0
      obtain ⟨left, cnt, O2, f2', hrg, h, hO2, F⟩ := hrel
      go_wp2_with (at_next; refine wpList_nextZ rfl rfl rfl hrg ?_ ?_)
      · intro hl0
        have hd : D.fk left = D := by
          unfold DkM.fk
          have e : (fun x => if left x = true then [] else D.uns x) = D.uns := funext fun x => by
            by_cases hw : wfZ x
            · rw [hl0 x hw]; simp
            · have hx : D.uns x = [] := Classical.byContradiction fun hne => hw (wfZ_of (by have := HH.out.rng x hne; have := HH.out.n1; omega))
              rw [hx]; simp
          rw [e]
        rw [hd] at h
        have HF := Lib.hid (show ∃ p2' O2', (Ending.returned (.pointer (some ⟨p2, 0, none⟩))) = .returned (.pointer (some ⟨p2', 0, none⟩)) ∧ Dsk wr p2' O2' D ∧ (∀ i ∈ O2', w.heap.size ≤ i) ∧ Fr [] w wr from ⟨p2, O2, rfl, ⟨_, h⟩, fun i hi => (hO2 i hi).1, F⟩)
        clear h F hrg hO2 hd
        go_wp2_with fail
        go_ret
        exact HF.out
      · intro x v w1 cnt1 hwx hlx hfx hrg1 hlt f1 s1 hen
        have rO : r ∉ O2 := fun hm => (hO2 r hm).2 rfl
        have h1 := h.keep f1 (fun i hi hm => rO (by rw [← List.mem_singleton.1 hm]; exact hi)) (hrg.noTy _)
        have F1 := F.trans f1 (fun i hi => .inr (by rw [List.mem_singleton.1 hi]; exact HR.out.2.2.1))
        have HLE := Lib.hid hrg.left_eq
        have HLT := Lib.hid hlt
        obtain ⟨⟨us, ur, ub⟩, -⟩ := (HH.out.keep_nil F1).un x v hfx
        have hne : D.uns x ≠ [] := fun e => by have := (HH.out.iff x).2 e; rw [hfx] at this; cases this
        have hxr := HH.out.rng x hne
        have hll := HL.out x
        obtain ⟨L, hLL⟩ : ∃ L, D.uns x = L := ⟨_, rfl⟩
        rw [hLL] at ur ub hll hne
        obtain ⟨ln, hln⟩ : ∃ ln, L.length = ln := ⟨_, rfl⟩
        have hpos : 0 < ln := by rw [← hln]; exact List.length_pos_iff.2 hne
        rw [hln] at ur hll
        obtain ⟨gv, cv, rfl⟩ := ur.hdD hpos
        have hul : us.length = ln := by have := ur.1; omega
        have uone : ∀ u ∈ us, u.oneCell' = true := fun u hu => by
          obtain ⟨i, hi, rfl⟩ := List.getElem_of_mem hu
          exact SuV.one (s := some (L[i]'(by omega))) (ub i hi (by omega))
        have e1 := h1.c1
        dsimp only at e1
        have HS := Lib.hid h1
        have HLL := Lib.hid (And.intro hLL (And.intro hln (And.intro hne hxr)))
        have HUO := Lib.hid uone
        have HUB := Lib.hid ub
        have HLX := Lib.hid hlx
        clear h1 h hrg hlt hLL hne hln uone ub hxr F hlx
        go_upto_region 7 with fail
        have fz7 := (Fr.refl [] w1).drew
        obtain ⟨w7, hw7⟩ : ∃ w7, w1.drew = w7 := ⟨_, rfl⟩
        rw [hw7] at fz7
        refine wp_region_held_drew (S := fun w' => w'.cell? ⟨p2, 1, none⟩ = some (.map (some m2))) (by kernel_rfl) (by rw [hw7]; exact fz7.cell (by simp) e1) (fun hHeld => ?_)
        rw [hw7] at hHeld ⊢
        clear hw7
        refine take_w 0 (some 31) (v := ?_) rfl rfl (by kernel_rfl) (by kernel_rfl) (by kernel_rfl) (fun _ _ _ h => h) (by rfl) ?_ hHeld ?_
        rotate_left
        · (intro w hSw; (try dsimp only at hSw); go_simp; try with_reducible rfl)
        simp only [Act.put, List.setIfInBounds_toArray, List.set_cons_zero, List.set_cons_succ]
        refine take_w 1 (some 32) (v := ?_) rfl rfl (by kernel_rfl) (by kernel_rfl) (by kernel_rfl) (fun _ _ _ h => h) (by rfl) ?_ hHeld ?_
        rotate_left
        · (intro w hSw; (try dsimp only at hSw); go_simp; try with_reducible rfl)
        simp only [Act.put, List.setIfInBounds_toArray, List.set_cons_zero, List.set_cons_succ]
        refine take_w 2 (some 33) (v := ?_) rfl rfl (by kernel_rfl) (by kernel_rfl) (by kernel_rfl) (fun _ _ _ h => h) (by rfl) ?_ hHeld ?_
        rotate_left
        · (intro w hSw; (try dsimp only at hSw); go_simp; try with_reducible rfl)
        simp only [Act.put, List.setIfInBounds_toArray, List.set_cons_zero, List.set_cons_succ]
        refine take_w 3 (some 34) (v := ?_) rfl rfl (by kernel_rfl) (by kernel_rfl) (by kernel_rfl) (fun _ _ _ h => h) (by rfl) ?_ hHeld ?_
        rotate_left
        · (intro w hSw; (try dsimp only at hSw); go_simp; try with_reducible rfl)
        simp only [Act.put, List.setIfInBounds_toArray, List.set_cons_zero, List.set_cons_succ]
        refine take_w 4 (some 35) (v := ?_) rfl rfl (by kernel_rfl) (by kernel_rfl) (by kernel_rfl) (fun _ _ _ h => h) (by rfl) ?_ hHeld ?_
        rotate_left
        · (intro w hSw; (try dsimp only at hSw); go_simp; try with_reducible rfl)
        simp only [Act.put, List.setIfInBounds_toArray, List.set_cons_zero, List.set_cons_succ]
        refine take_w 5 (some 36) (v := ?_) rfl rfl (by kernel_rfl) (by kernel_rfl) (by kernel_rfl) (fun _ _ _ h => h) (by rfl) ?_ hHeld ?_
        rotate_left
        · (intro w hSw; (try dsimp only at hSw); go_simp; try with_reducible rfl)
        simp only [Act.put, List.setIfInBounds_toArray, List.set_cons_zero, List.set_cons_succ]
        refine take_c 6 rfl (by kernel_rfl) (by rfl) (fun K hK => ?_)
        go_simp
        refine (cloneBB_any _ us ln cv w7 hul (ur.keep_nil fz7).rdD.1 HUO.out (fun h => by cases h) hll).mono ?_
        rintro e w8 ⟨v8, rfl, r8, f8⟩
        obtain ⟨g8, c8, rfl⟩ := r8.hdD hpos
        refine hK.out _ _ (f8.cell (by simp) hHeld) (fun hHx => ?_)
        clear hHeld
        have hHeld := hHx
        clear hHx
        clear hK K
        try simp only [Act.put, List.setIfInBounds_toArray, List.set_cons_zero, List.set_cons_succ]
        have f78 := fz7.trans_nil f8
        have h8 := HS.out.keep_nil f78
        obtain ⟨w9, hrun, m9, f9, s9⟩ := h8.map.put Try.underlying73 (by unfold maxLen; omega) hwx (.slice (some ⟨g8, 0, none⟩) ln c8)
        refine take_c 7 rfl (by kernel_rfl) (by rfl) (fun K hK => ?_)
        dsimp only at hrun m9 f9
        go_simp
        refine hK.out _ _ (f9.cell (by simpa using fun e => h8.mp e.symm) hHeld) (fun hHx => ?_)
        clear hHeld
        have hHeld := hHx
        clear hHx
        clear hK K
        try simp only [Act.put, List.setIfInBounds_toArray, List.set_cons_zero, List.set_cons_succ]
        clear hrun
        refine wpAnyH_done (by kernel_rfl) ?_ _
        go_wp2_with fail
        have hf2 : f2' x = none := (h8.iff x).2 (by show (if left x = true then [] else D.uns x) = []; rw [HLX.out]; simp)
        have h7 := HS.out.keep_nil fz7
        have hg8 := (r8.lt g8 rfl).1
        have hrl : r < w7.heap.size := Nat.lt_of_lt_of_le hrg1.rlt fz7.size
        have hm2 := hO2 m2 h8.mO
        have hput := h7.putL (x := x) (L' := L) (v := .slice none 0 0) (v' := .slice (some ⟨g8, 0, none⟩) ln c8) (g' := g8) (w3 := w8) (w4 := w9) HLL.out.2.2.1 (DkM.is_iff.2 HLL.out.2.2.2) (by show _ = (f2' x).getD _; rw [hf2]; rfl) f8 ⟨us, by rw [HLL.out.2.1]; exact r8.mono (Nat.zero_le _), fun i a b => (HUB.out i a b).keep_nil f78⟩ rfl (.inr hg8) m9 f9
        have he : (D.fk left).wrL x L = D.fk (fun y => left y && !(y == x)) := by
          unfold DkM.wrL DkM.fk
          congr 1
          funext y
          by_cases e : y = x
          · subst e
            simp [HLL.out.1]
          · simp [e]
        rw [he] at hput
        have hXm : X.m < w.heap.size := HH.out.lts.2.2
        refine ⟨⟨_, cnt1, _, _, (hrg1.keep f78 (by simp) (by simp)).keep f9 (by simp; omega) (by simp; omega), hput.1, fun i hi => ?_, (F1.trans_nil f78).trans f9 (fun i hi => .inr (by rw [List.mem_singleton.1 hi]; exact hm2.1))⟩, ?_⟩
        · rcases List.mem_cons.1 hi with rfl | hi
          · exact ⟨by have := F1.size; have := fz7.size; omega, by omega⟩
          · exact hO2 i (List.mem_filter.1 hi).1
        · rw [((hrg1.keep f78 (by simp) (by simp)).keep f9 (by simp; omega) (by simp; omega)).left_eq, HLE.out]
          exact HLT.out
end
end Go.Proofs.Ytdhhnioklbnicaa
