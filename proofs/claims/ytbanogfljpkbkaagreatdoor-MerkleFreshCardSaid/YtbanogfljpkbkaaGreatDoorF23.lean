/-
  Texts of this claim, one behind the other: DkE.
-/
import Derived.Test.YtbanogfljpkbkaaGreatDoorF22
set_option linter.unusedSimpArgs false
set_option linter.unusedVariables false
set_option linter.unnecessarySimpa false
namespace Go.Proofs.YtbanogfljpkbkaaGreatDoor
section
open Go.RowKit
set_option maxRecDepth 100000
def S4D (g3 g4 g5 p m : Nat) (x : Int) (A : Option Addr) (c : Nat) (w : World) : Prop :=
 w.cell? ⟨g3, 0, none⟩ = some (.pointer (some ⟨p, 0, none⟩)) ∧ w.cell? ⟨g4, 0, none⟩ = some (.int .i64 x) ∧ w.cell? ⟨g5, 0, none⟩ = some (.slice A 512 c) ∧ w.cell? ⟨p, 1, none⟩ = some (.map (some m))
theorem S4D.keep {g3 g4 g5 p m : Nat} {x : Int} {A : Option Addr} {c : Nat} {w w' : World} (h : S4D g3 g4 g5 p m x A c w) {F : List Nat} (f : Fr F w w') (h3 : g3 ∉ F) (h4 : g4 ∉ F) (h5 : g5 ∉ F) (hp : p ∉ F) : S4D g3 g4 g5 p m x A c w' :=
 ⟨f.cell h3 h.1, f.cell h4 h.2.1, f.cell h5 h.2.2.1, f.cell hp h.2.2.2⟩
section
variable {P : Program} {ops : Array Oper} {Q : Exit → Act → World → Prop} {S : World → Prop}
theorem take_2z {md : Region.Mode} (i j : Nat) {oi oj : Oper} {fuel : Nat} {listed : Array Bool} {a : Act} {w : World} (hi : ops[i]? = some oi) (hj : ops[j]? = some oj) (hr : Region.ready md ops listed = [i, j])
  (hwi : Region.wanted oi (yielded ops a.tmps) = true) (hwj : Region.wanted oj (yielded ops a.tmps) = true)
  (h1 : ∀ K' : Act → World → Prop, Shut (∀ a w, S w → (S w → wpAnyH P md ops Q S fuel (listed.setIfInBounds i true) a w) → K' a w) → Oper.wp P oi a w K' Q)
  (h2 : ∀ K' : Act → World → Prop, Shut (∀ a w, S w → (S w → wpAnyH P md ops Q S fuel (listed.setIfInBounds j true) a w) → K' a w) → Oper.wp P oj a w K' Q) : wpAnyH P md ops Q S (fuel + 1) listed a w :=
 wpAnyH_ready hr (by simp) (AllReadyH.cons hi (fun K' hK => by rw [if_pos hwi]; exact h1 K' hK) (AllReadyH.cons hj (fun K' hK => by rw [if_pos hwj]; exact h2 K' hK) AllReadyH.nil))
end
theorem Row.uniq {w : World} {b1 b2 : Nat} {e1 e2 : TypeId} {s n1 n2 : Nat} {v : Value} {xs ys : List Value} (h1 : Row w b1 e1 s v n1 xs) (h2 : Row w b2 e2 s v n2 ys) : n1 = n2 ∧ xs = ys := by
 rcases h1.2 with ⟨rfl, rfl⟩ | ⟨g1, c1, u1, z1, rfl, _, k1, _, _, _, _, t1⟩
 ·rcases h2.2 with ⟨_, rfl⟩ | ⟨g2, c2, u2, z2, e, _⟩
  ·have l1 := h1.1
   have l2 := h2.1
   rw [Nat.zero_mul] at l1 l2
   rw [List.length_eq_zero_iff.1 l1, List.length_eq_zero_iff.1 l2]
   exact ⟨rfl, rfl⟩
  ·cases e
 ·rcases h2.2 with ⟨e, _⟩ | ⟨g2, c2, u2, z2, e, _, k2, _, _, _, _, t2⟩
  ·cases e
  ·cases e
   rw [k1] at k2
   cases k2
   exact ⟨rfl, t1.symm.trans t2⟩
def AvX (w : World) (X : DkX) (g : Nat) : Prop := (∀ i (h : i < X.vs.length), X.vs[i].ownBlock ≠ some g) ∧ ∀ x v, X.f x = some v → ∃ n us, Row w 0 27 1 v n us ∧ ∀ u ∈ us, u.ownBlock ≠ some g
theorem AvX.keep {w w' : World} {X : DkX} {g : Nat} {F : List Nat} (h : AvX w X g) (f : Fr F w w') (hF : ∀ x v, X.f x = some v → ∀ k, v.ownBlock = some k → k ∉ F) : AvX w' X g :=
 ⟨h.1, fun x v hx => by obtain ⟨n, us, r, hu⟩ := h.2 x v hx; exact ⟨n, us, r.keep f (hF x v hx), hu⟩⟩
theorem AvX.keep_nil {w w' : World} {X : DkX} {g : Nat} (h : AvX w X g) (f : Fr [] w w') : AvX w' X g := h.keep f (fun _ _ _ _ _ => by simp)
def AftA (w : World) (p : Nat) (O : List Nat) (X : DkX) (D' : DkM) (w' : World) : Prop := ∃ O' X', DskX w' p O' D' X' ∧ (∀ i ∈ O', i ∈ O ∨ w.heap.size ≤ i) ∧ Fr O w w' ∧ ∀ g, g < w.heap.size → AvX w X g → AvX w' X' g
section
variable {w w' : World} {p : Nat} {O : List Nat} {D : DkM} {X : DkX}
set_option maxHeartbeats 2000000 in
theorem dkWrite1_av {g3 g4 g5 : Nat} {x : Int} {A : Option Addr} {c : Nat} {b : List UInt8} (h : DskX w p O D X) (k3 : Blk w g3 32 #[.pointer (some ⟨p, 0, none⟩)]) (k4 : Blk w g4 3 #[.int .i64 x]) (k5 : Blk w g5 27 #[.slice A 512 c])
  (hO : g3 ∉ O ∧ g4 ∉ O ∧ g5 ∉ O) (hx : D.is x = true) (hb : b.length = 512) (rd : Rd w A (bvs b)) (hA : A = none → 512 = 0) (hl : (D.uns x).length ≤ 4398046511104) :
  Calls Tryz.prog 164 #[.pointer (some ⟨g3, 0, none⟩), .pointer (some ⟨g4, 0, none⟩), .pointer (some ⟨g5, 0, none⟩)] w fun e w' => e = .returned (.tuple #[]) ∧ AftA w p O X (D.wr x b) w' := by
 have wf := DkM.wf_is h hx
 obtain ⟨L, hL⟩ : ∃ L, D.uns x = L := ⟨_, rfl⟩
 rw [hL] at hl
 obtain ⟨v, us, hv, R, ub, hvO⟩ : ∃ v us, (X.f x).getD (.slice none 0 0) = v ∧ Row w 0 27 1 v L.length us ∧ (∀ i (h : i < us.length) (h' : i < L.length), BlkB w us[i] L[i]) ∧ ∀ i, v.ownBlock = some i → i ∈ O ∧ i ≠ X.m ∧ i ≠ p := by
  cases hf : X.f x with
  | none =>
   have := (h.iff x).1 hf
   rw [hL] at this
   subst this
   exact ⟨_, [], rfl, Row.nil _ _ _ _, fun i hi => by simp at hi, fun i hi => by cases hi⟩
  | some v =>
   obtain ⟨⟨us, r, hb⟩, gv, hgv, h1, h2⟩ := h.un x v hf
   rw [hL] at r hb
   refine ⟨v, us, rfl, r, hb, fun i hi => ?_⟩
   rw [hgv] at hi
   cases hi
   refine ⟨h1, fun e => ?_, fun e => r.ne_blk h.blk (by decide) (by rw [hgv, e])⟩
   subst e
   obtain ⟨D4, ⟨es, clock, hb4, _⟩, _⟩ := h.map
   rcases r.2 with ⟨e2, _⟩ | ⟨g2, c2, cur2, fz2, e2, _, hg2, _⟩
   ·rw [e2] at hgv; cases hgv
   ·have : g2 = X.m := by rw [e2] at hgv; simpa [Value.ownBlock] using hgv
    subst this
    rw [hb4] at hg2
    cases hg2
 have HV := Lib.hid hv
 have HH0 := Lib.hid h
 have HX := Lib.hid hx
 have HB5 := Lib.hid hb
 have UB0 := Lib.hid ub
 have HLX := Lib.hid hL
 have HNO := Lib.hid (show v.ownBlock ≠ some g3 ∧ v.ownBlock ≠ some g4 ∧ v.ownBlock ≠ some g5 ∧ v.ownBlock ≠ some p from ⟨fun e => hO.1 (hvO _ e).1, fun e => hO.2.1 (hvO _ e).1, fun e => hO.2.2 (hvO _ e).1, fun e => (hvO _ e).2.2 rfl⟩)
 have HMO := Lib.hid (show True ∧ v.ownBlock ≠ some X.m from ⟨trivial, fun e => (hvO _ e).2.1 rfl⟩)
 have HMN := Lib.hid (show g3 ≠ X.m ∧ g4 ≠ X.m ∧ g5 ≠ X.m ∧ p ≠ X.m from ⟨fun e => hO.1 (e ▸ h.mO), fun e => hO.2.1 (e ▸ h.mO), fun e => hO.2.2 (e ▸ h.mO), fun e => h.mp e.symm⟩)
 have HVO := Lib.hid (fun i (e : v.ownBlock = some i) => (hvO i e).1)
 have s4 : S4D g3 g4 g5 p X.m x A c w := ⟨by have := k3.cell 0; simpa using this, by have := k4.cell 0; simpa using this, by have := k5.cell 0; simpa using this, h.c1⟩
 have mz := h.map
 clear hv h hx hb ub hL hvO k3 k4 k5 hO
 go_enter Tryz.func164, Tryz.ntmps164
 have fz := (Fr.refl [] w).drew
 obtain ⟨w1, hw1⟩ : ∃ w1, w.drew = w1 := ⟨_, rfl⟩
 rw [hw1] at fz
 refine wp_region_held_drew (S := S4D g3 g4 g5 p X.m x A c) (by kernel_rfl) (by rw [hw1]; exact s4.keep fz (by simp) (by simp) (by simp) (by simp)) (fun hHeld => ?_)
 rw [hw1] at hHeld ⊢
 have HSZ := Lib.hid (show w.heap.size ≤ w1.heap.size from fz.size)
 have HFZ := Lib.hid fz
 have HH := Lib.hid (HH0.out.keep_nil fz)
 have UB := Lib.hid (fun i a b => (UB0.out i a b).keep_nil fz)
 have HF := Lib.hid (show Fr O w w1 from fz.mono (by simp))
 have f0 := Fr.refl [] w1
 replace mz := mz.keep_nil fz
 replace R := R.keep_nil fz
 replace rd := rd.keep_nil fz
 clear hw1 fz s4 HH0 UB0
 refine take_w 0 (some 3) (v := ?_) rfl rfl (by kernel_rfl) (by kernel_rfl) (by kernel_rfl) (fun _ _ _ h => h) (by rfl) ?_ hHeld ?_
 rotate_left
 ·(intro w hSw; obtain ⟨s1, s2, s3, s4⟩ := hSw; go_simp; try with_reducible rfl)
 simp only [Act.put, p1, p2, p3]
 refine take_w 1 (some 4) (v := ?_) rfl rfl (by kernel_rfl) (by kernel_rfl) (by kernel_rfl) (fun _ _ _ h => h) (by rfl) ?_ hHeld ?_
 rotate_left
 ·(intro w hSw; obtain ⟨s1, s2, s3, s4⟩ := hSw; go_simp; try with_reducible rfl)
 simp only [Act.put, p1, p2, p3]
 refine take_w 2 (some 5) (v := ?_) rfl rfl (by kernel_rfl) (by kernel_rfl) (by kernel_rfl) (fun _ _ _ h => h) (by rfl) ?_ hHeld ?_
 rotate_left
 ·(intro w hSw; obtain ⟨s1, s2, s3, s4⟩ := hSw; go_simp; try with_reducible rfl)
 simp only [Act.put, p1, p2, p3]
 refine take_w 3 (some 6) (v := ?_) rfl rfl (by kernel_rfl) (by kernel_rfl) (by kernel_rfl) (fun _ _ _ h => h) (by rfl) ?_ hHeld ?_
 rotate_left
 ·(intro w hSw; obtain ⟨s1, s2, s3, s4⟩ := hSw; go_simp; try with_reducible rfl)
 simp only [Act.put, p1, p2, p3]
 refine take_w 4 (some 7) (v := ?_) rfl rfl (by kernel_rfl) (by kernel_rfl) (by kernel_rfl) (fun _ _ _ h => h) (by rfl) ?_ hHeld ?_
 rotate_left
 ·(intro w hSw; obtain ⟨s1, s2, s3, s4⟩ := hSw; go_simp; try with_reducible rfl)
 simp only [Act.put, p1, p2, p3]
 refine take_w 5 (some 8) (v := ?_) rfl rfl (by kernel_rfl) (by kernel_rfl) (by kernel_rfl) (fun _ _ _ h => h) (by rfl) ?_ hHeld ?_
 rotate_left
 ·(intro w hSw; obtain ⟨s1, s2, s3, s4⟩ := hSw; go_simp; try with_reducible rfl)
 simp only [Act.put, p1, p2, p3]
 refine take_w 6 (some 9) (v := ?_) rfl rfl (by kernel_rfl) (by kernel_rfl) (by kernel_rfl) (fun _ _ _ h => h) (by rfl) ?_ hHeld ?_
 rotate_left
 ·(intro w hSw; obtain ⟨s1, s2, s3, s4⟩ := hSw; go_simp; try with_reducible rfl)
 simp only [Act.put, p1, p2, p3]
 refine take_w 7 (some 10) (v := ?_) rfl rfl (by kernel_rfl) (by kernel_rfl) (by kernel_rfl) (fun _ _ _ h => h) (by rfl) ?_ hHeld ?_
 rotate_left
 ·(intro w hSw; obtain ⟨s1, s2, s3, s4⟩ := hSw; go_simp; try with_reducible rfl)
 simp only [Act.put, p1, p2, p3]
 refine take_w 8 (some 11) (v := ?_) rfl rfl (by kernel_rfl) (by kernel_rfl) (by kernel_rfl) (fun _ _ _ h => h) (by rfl) ?_ hHeld ?_
 rotate_left
 ·(intro w hSw; obtain ⟨s1, s2, s3, s4⟩ := hSw; go_simp; try with_reducible rfl)
 simp only [Act.put, p1, p2, p3]
 refine take_w 9 (some 12) (v := ?_) rfl rfl (by kernel_rfl) (by kernel_rfl) (by kernel_rfl) (fun _ _ _ h => h) (by rfl) ?_ hHeld ?_
 rotate_left
 ·(intro w hSw; obtain ⟨s1, s2, s3, s4⟩ := hSw; go_simp; try with_reducible rfl)
 simp only [Act.put, p1, p2, p3]
 refine take_w 11 (some 14) (v := ?_) rfl rfl (by kernel_rfl) (by kernel_rfl) (by kernel_rfl) (fun _ _ _ h => h) (by rfl) ?_ hHeld ?_
 rotate_left
 ·(intro w hSw; obtain ⟨s1, s2, s3, s4⟩ := hSw; go_simp; try with_reducible rfl)
 simp only [Act.put, p1, p2, p3]
 refine take_2z 10 12 rfl rfl (by kernel_rfl) (by rfl) (by rfl) (fun K hK => ?_) (fun K hK => ?_)
 ·
  have hl := (mz.keep_nil f0).look Tryz.underlying116 (zeroBBD _) wf
  rw [HV.out] at hl
  go_simp
  refine hK.out _ _ hHeld (fun hHx => ?_)
  clear hl
  clear hHeld
  have hHeld := hHx
  clear hHx
  clear hK K
  try simp only [Act.put, p1, p2, p3]
  refine tc 12 (fun K hK => ?_)
  go_simp
  refine (clone_any A b 512 c w1 HB5.out rd hA (by omega)).mono ?_
  rintro e w2 ⟨v2, rfl, r2, f2⟩
  obtain ⟨A2, c2, rfl, -, -, -, -, -⟩ := r2.shape
  refine hK.out _ _ (hHeld.keep f2 (by simp) (by simp) (by simp) (by simp)) (fun hHx => ?_)
  clear hHeld
  have hHeld := hHx
  clear hHx
  clear hK K
  try simp only [Act.put, p1, p2, p3]
  refine tc 13 (fun K hK => ?_)
  go_simp
  have f3 : Fr [] w2 (w2.alloc (.cells #[.slice A2 512 c2] 27)) := (Fr.refl _ _).alloc _
  have rd3 := Rd.one w2 (.slice A2 512 c2) 27
  refine hK.out _ _ (hHeld.keep f3 (by simp) (by simp) (by simp) (by simp)) (fun hHx => ?_)
  obtain ⟨w3, hw3⟩ : ∃ w3, w2.alloc (.cells #[.slice A2 512 c2] 27) = w3 := ⟨_, rfl⟩
  obtain ⟨b3, hb3⟩ : ∃ b3, w2.heap.size = b3 := ⟨_, rfl⟩
  rw [hw3] at f3 rd3 hHx ⊢
  rw [hb3] at rd3 ⊢
  clear hw3 hb3
  clear hHeld
  have hHeld := hHx
  clear hHx
  clear hK K
  try simp only [Act.put, p1, p2, p3]
  have f13 := f2.trans_nil f3
  have R3 := R.keep_nil f13
  refine tc 14 (fun K hK => ?_)
  refine wp_app rfl slBBD 0 v L.length us rfl R3 _ 1 1 [.slice A2 512 c2] rfl rfl rd3 (by intro u hu; rw [List.mem_singleton.1 hu]; rfl) (fun h => by cases h) (by omega) (Nat.zero_le _) (fun v4 w4 q1 q2 q3 q4 => hK.out _ _ (hHeld.keep q2 (fun hm => HNO.out.1 (mem_own.1 hm)) (fun hm => HNO.out.2.1 (mem_own.1 hm)) (fun hm => HNO.out.2.2.1 (mem_own.1 hm)) (fun hm => HNO.out.2.2.2 (mem_own.1 hm))) (fun hHx => ?_))
  clear hHeld
  have hHeld := hHx
  clear hHx
  clear hK K
  try simp only [Act.put, p1, p2, p3]
  have hmO := HMO.out
  have m4 := (mz.keep_nil f13).keep q2 (fun hm => hmO.2 (mem_own.1 hm))
  obtain ⟨w5, hrun, m5, f5, z5⟩ := m4.put Tryz.underlying116 (by unfold maxLen; omega) wf v4
  refine tc 15 (fun K hK => ?_)
  go_simp
  refine hK.out _ _ (hHeld.keep f5 (fun hm => HMN.out.1 (List.mem_singleton.1 hm)) (fun hm => HMN.out.2.1 (List.mem_singleton.1 hm)) (fun hm => HMN.out.2.2.1 (List.mem_singleton.1 hm)) (fun hm => HMN.out.2.2.2 (List.mem_singleton.1 hm))) (fun hHx => ?_)
  clear hHeld
  have hHeld := hHx
  clear hHx
  clear hK K
  try simp only [Act.put, p1, p2, p3]
  clear hrun
  refine wpAnyH_done (by kernel_rfl) ?_ _
  go_wp2_with fail
  go_returns
  refine ⟨rfl, ?_⟩
  obtain ⟨g4', c4', rfl⟩ := q1.hdD (by omega)
  have fO : Fr (Value.ownBlock v).toList w1 w4 := (f13.mono (by simp)).trans q2 (fun i hi => .inl hi)
  have hu3 : UR w4 (.slice (some ⟨g4', 0, none⟩) (L.length + 1) c4') (D.uns x ++ [b]) := by
   rw [HLX.out]
   refine ⟨us ++ [.slice A2 512 c2], by rw [List.length_append]; exact q1, fun i h1 h2 => ?_⟩
   have n8 : NoTy w3 v.ownBlock.toList 5 := R3.noTy (by decide)
   have hul : us.length = L.length := by have := R.1; omega
   by_cases hi : i < us.length
   ·rw [List.getElem_append_left hi]
    have e2 : (L ++ [b])[i] = L[i]'(by omega) := List.getElem_append_left (by omega)
    rw [e2]
    exact ((UB.out i hi (by omega)).keep_nil f13).keepT q2 n8
   ·have e1 : i = us.length := by rw [List.length_append, List.length_singleton] at h1; omega
    subst e1
    rw [List.getElem_append_right (Nat.le_refl _)]
    have e2 : (L ++ [b])[us.length] = b := by rw [List.getElem_append_right (by omega)]; simp [hul]
    rw [e2]
    simp only [Nat.sub_self, List.getElem_cons_zero]
    exact ⟨HB5.out, ((r2.mono (Nat.zero_le _)).keep_nil f3).keepT q2 n8⟩
  obtain ⟨k1, k2⟩ := HH.out.put (g' := g4') HX.out HV.out.symm fO hu3 rfl (by
   rcases q3 g4' rfl with h | h
   ·exact .inl h
   ·exact .inr (by have := f13.size; omega)) m5 f5
  have kF5 : ∀ y u, y ≠ x → X.f y = some u → ∀ k, u.ownBlock = some k → k ∉ (Value.ownBlock v).toList ∧ k ∉ [X.m] := fun y u hne hy k hk => by
   refine ⟨fun hm => ?_, fun hm => ?_⟩
   ·have hv2 := mem_own.1 hm
    cases hfx : X.f x with
    | none =>
     have e := HV.out
     rw [hfx] at e
     have e : Value.slice none 0 0 = v := e
     rw [← e] at hv2
     cases hv2
    | some t =>
     have e := HV.out
     rw [hfx] at e
     have e : t = v := e
     subst e
     exact HH.out.apart y x u t hne hy hfx (hk.trans hv2.symm)
   ·obtain ⟨⟨us', r', _⟩, _⟩ := HH.out.un y u hy
    obtain ⟨D4, ⟨es, clock, hb4, _⟩, _⟩ := HH.out.map
    rcases r'.2 with ⟨e2, _⟩ | ⟨g2, c2, cur2, fz2, e2, _, hg2, _⟩
    ·rw [e2] at hk; cases hk
    ·have : g2 = X.m := by
      have e3 : g2 = k := by rw [e2] at hk; simpa [Value.ownBlock] using hk
      rw [e3]; exact List.mem_singleton.1 hm
     subst this
     rw [hb4] at hg2
     cases hg2
  refine ⟨_, _, k1, fun i hi => by
   rcases List.mem_cons.1 hi with rfl | hi
   ·rcases q3 i rfl with h | h
    ·exact .inl (HVO.out i h)
    ·exact .inr (by have := f13.size; have := HSZ.out; omega)
   ·exact .inl (List.mem_filter.1 hi).1, HF.out.trans k2 (fun i hi => .inl hi), fun g hg hav => ⟨hav.1, fun y u hy => ?_⟩⟩
  have hav1 : AvX w1 X g := hav.keep_nil HFZ.out
  by_cases e : y = x
  ·subst e
   have hu : u = .slice (some ⟨g4', 0, none⟩) (L.length + 1) c4' := by
    have : fput X.f y (.slice (some ⟨g4', 0, none⟩) (L.length + 1) c4') y = some u := hy
    simpa [fput] using this.symm
   subst hu
   refine ⟨_, _, q1.keep f5 (fun k hk hm => ?_), fun u hu => ?_⟩
   ·have hk4 : k = g4' := own_mem.1 (mem_own.2 hk)
    subst hk4
    have hm := List.mem_singleton.1 hm
    rcases q3 k rfl with h | h
    ·exact HMO.out.2 (by rw [h, hm])
    ·have := HH.out.map.lt
     have := f13.size
     omega
   ·rcases List.mem_append.1 hu with hu | hu
    ·cases hfx : X.f y with
     | none =>
      have e := HV.out
      rw [hfx] at e
      have e : Value.slice none 0 0 = v := e
      subst e
      have := R.1
      obtain ⟨-, e0⟩ := R.uniq (Row.nil w1 0 27 1)
      rw [e0] at hu
      cases hu
     | some t =>
      have e := HV.out
      rw [hfx] at e
      have e : t = v := e
      subst e
      obtain ⟨n', us', r', hu'⟩ := hav1.2 y t hfx
      obtain ⟨-, rfl⟩ := R.uniq r'
      exact hu' u hu
    ·rw [List.mem_singleton.1 hu]
     intro e
     have := (r2.lt g e).1
     have := HSZ.out
     omega
  ·have hu : X.f y = some u := by
    have : fput X.f x (.slice (some ⟨g4', 0, none⟩) (L.length + 1) c4') y = some u := hy
    simpa [fput, e] using this
   obtain ⟨n', us', r', hu'⟩ := hav1.2 y u hu
   exact ⟨n', us', (r'.keep fO (fun k hk => (kF5 y u e hu k hk).1)).keep f5 (fun k hk => (kF5 y u e hu k hk).2), hu'⟩
 ·
  go_simp
  refine (clone_any A b 512 c w1 HB5.out rd hA (by omega)).mono ?_
  rintro e w2 ⟨v2, rfl, r2, f2⟩
  obtain ⟨A2, c2, rfl, -, -, -, -, -⟩ := r2.shape
  refine hK.out _ _ (hHeld.keep f2 (by simp) (by simp) (by simp) (by simp)) (fun hHx => ?_)
  clear hHeld
  have hHeld := hHx
  clear hHx
  clear hK K
  try simp only [Act.put, p1, p2, p3]
  refine take_2z 10 13 rfl rfl (by kernel_rfl) (by rfl) (by rfl) (fun K hK => ?_) (fun K hK => ?_)
  ·
   have hl := (mz.keep_nil f2).look Tryz.underlying116 (zeroBBD _) wf
   rw [HV.out] at hl
   go_simp
   refine hK.out _ _ hHeld (fun hHx => ?_)
   clear hl
   clear hHeld
   have hHeld := hHx
   clear hHx
   clear hK K
   try simp only [Act.put, p1, p2, p3]
   refine tc 13 (fun K hK => ?_)
   go_simp
   have f3 : Fr [] w2 (w2.alloc (.cells #[.slice A2 512 c2] 27)) := (Fr.refl _ _).alloc _
   have rd3 := Rd.one w2 (.slice A2 512 c2) 27
   refine hK.out _ _ (hHeld.keep f3 (by simp) (by simp) (by simp) (by simp)) (fun hHx => ?_)
   obtain ⟨w3, hw3⟩ : ∃ w3, w2.alloc (.cells #[.slice A2 512 c2] 27) = w3 := ⟨_, rfl⟩
   obtain ⟨b3, hb3⟩ : ∃ b3, w2.heap.size = b3 := ⟨_, rfl⟩
   rw [hw3] at f3 rd3 hHx ⊢
   rw [hb3] at rd3 ⊢
   clear hw3 hb3
   clear hHeld
   have hHeld := hHx
   clear hHx
   clear hK K
   try simp only [Act.put, p1, p2, p3]
   have f13 := f2.trans_nil f3
   have R3 := R.keep_nil f13
   refine tc 14 (fun K hK => ?_)
   refine wp_app rfl slBBD 0 v L.length us rfl R3 _ 1 1 [.slice A2 512 c2] rfl rfl rd3 (by intro u hu; rw [List.mem_singleton.1 hu]; rfl) (fun h => by cases h) (by omega) (Nat.zero_le _) (fun v4 w4 q1 q2 q3 q4 => hK.out _ _ (hHeld.keep q2 (fun hm => HNO.out.1 (mem_own.1 hm)) (fun hm => HNO.out.2.1 (mem_own.1 hm)) (fun hm => HNO.out.2.2.1 (mem_own.1 hm)) (fun hm => HNO.out.2.2.2 (mem_own.1 hm))) (fun hHx => ?_))
   clear hHeld
   have hHeld := hHx
   clear hHx
   clear hK K
   try simp only [Act.put, p1, p2, p3]
   have hmO := HMO.out
   have m4 := (mz.keep_nil f13).keep q2 (fun hm => hmO.2 (mem_own.1 hm))
   obtain ⟨w5, hrun, m5, f5, z5⟩ := m4.put Tryz.underlying116 (by unfold maxLen; omega) wf v4
   refine tc 15 (fun K hK => ?_)
   go_simp
   refine hK.out _ _ (hHeld.keep f5 (fun hm => HMN.out.1 (List.mem_singleton.1 hm)) (fun hm => HMN.out.2.1 (List.mem_singleton.1 hm)) (fun hm => HMN.out.2.2.1 (List.mem_singleton.1 hm)) (fun hm => HMN.out.2.2.2 (List.mem_singleton.1 hm))) (fun hHx => ?_)
   clear hHeld
   have hHeld := hHx
   clear hHx
   clear hK K
   try simp only [Act.put, p1, p2, p3]
   clear hrun
   refine wpAnyH_done (by kernel_rfl) ?_ _
   go_wp2_with fail
   go_returns
   refine ⟨rfl, ?_⟩
   obtain ⟨g4', c4', rfl⟩ := q1.hdD (by omega)
   have fO : Fr (Value.ownBlock v).toList w1 w4 := (f13.mono (by simp)).trans q2 (fun i hi => .inl hi)
   have hu3 : UR w4 (.slice (some ⟨g4', 0, none⟩) (L.length + 1) c4') (D.uns x ++ [b]) := by
    rw [HLX.out]
    refine ⟨us ++ [.slice A2 512 c2], by rw [List.length_append]; exact q1, fun i h1 h2 => ?_⟩
    have n8 : NoTy w3 v.ownBlock.toList 5 := R3.noTy (by decide)
    have hul : us.length = L.length := by have := R.1; omega
    by_cases hi : i < us.length
    ·rw [List.getElem_append_left hi]
     have e2 : (L ++ [b])[i] = L[i]'(by omega) := List.getElem_append_left (by omega)
     rw [e2]
     exact ((UB.out i hi (by omega)).keep_nil f13).keepT q2 n8
    ·have e1 : i = us.length := by rw [List.length_append, List.length_singleton] at h1; omega
     subst e1
     rw [List.getElem_append_right (Nat.le_refl _)]
     have e2 : (L ++ [b])[us.length] = b := by rw [List.getElem_append_right (by omega)]; simp [hul]
     rw [e2]
     simp only [Nat.sub_self, List.getElem_cons_zero]
     exact ⟨HB5.out, ((r2.mono (Nat.zero_le _)).keep_nil f3).keepT q2 n8⟩
   obtain ⟨k1, k2⟩ := HH.out.put (g' := g4') HX.out HV.out.symm fO hu3 rfl (by
    rcases q3 g4' rfl with h | h
    ·exact .inl h
    ·exact .inr (by have := f13.size; omega)) m5 f5
   have kF5 : ∀ y u, y ≠ x → X.f y = some u → ∀ k, u.ownBlock = some k → k ∉ (Value.ownBlock v).toList ∧ k ∉ [X.m] := fun y u hne hy k hk => by
    refine ⟨fun hm => ?_, fun hm => ?_⟩
    ·have hv2 := mem_own.1 hm
     cases hfx : X.f x with
     | none =>
      have e := HV.out
      rw [hfx] at e
      have e : Value.slice none 0 0 = v := e
      rw [← e] at hv2
      cases hv2
     | some t =>
      have e := HV.out
      rw [hfx] at e
      have e : t = v := e
      subst e
      exact HH.out.apart y x u t hne hy hfx (hk.trans hv2.symm)
    ·obtain ⟨⟨us', r', _⟩, _⟩ := HH.out.un y u hy
     obtain ⟨D4, ⟨es, clock, hb4, _⟩, _⟩ := HH.out.map
     rcases r'.2 with ⟨e2, _⟩ | ⟨g2, c2, cur2, fz2, e2, _, hg2, _⟩
     ·rw [e2] at hk; cases hk
     ·have : g2 = X.m := by
       have e3 : g2 = k := by rw [e2] at hk; simpa [Value.ownBlock] using hk
       rw [e3]; exact List.mem_singleton.1 hm
      subst this
      rw [hb4] at hg2
      cases hg2
   refine ⟨_, _, k1, fun i hi => by
    rcases List.mem_cons.1 hi with rfl | hi
    ·rcases q3 i rfl with h | h
     ·exact .inl (HVO.out i h)
     ·exact .inr (by have := f13.size; have := HSZ.out; omega)
    ·exact .inl (List.mem_filter.1 hi).1, HF.out.trans k2 (fun i hi => .inl hi), fun g hg hav => ⟨hav.1, fun y u hy => ?_⟩⟩
   have hav1 : AvX w1 X g := hav.keep_nil HFZ.out
   by_cases e : y = x
   ·subst e
    have hu : u = .slice (some ⟨g4', 0, none⟩) (L.length + 1) c4' := by
     have : fput X.f y (.slice (some ⟨g4', 0, none⟩) (L.length + 1) c4') y = some u := hy
     simpa [fput] using this.symm
    subst hu
    refine ⟨_, _, q1.keep f5 (fun k hk hm => ?_), fun u hu => ?_⟩
    ·have hk4 : k = g4' := own_mem.1 (mem_own.2 hk)
     subst hk4
     have hm := List.mem_singleton.1 hm
     rcases q3 k rfl with h | h
     ·exact HMO.out.2 (by rw [h, hm])
     ·have := HH.out.map.lt
      have := f13.size
      omega
    ·rcases List.mem_append.1 hu with hu | hu
     ·cases hfx : X.f y with
      | none =>
       have e := HV.out
       rw [hfx] at e
       have e : Value.slice none 0 0 = v := e
       subst e
       have := R.1
       obtain ⟨-, e0⟩ := R.uniq (Row.nil w1 0 27 1)
       rw [e0] at hu
       cases hu
      | some t =>
       have e := HV.out
       rw [hfx] at e
       have e : t = v := e
       subst e
       obtain ⟨n', us', r', hu'⟩ := hav1.2 y t hfx
       obtain ⟨-, rfl⟩ := R.uniq r'
       exact hu' u hu
     ·rw [List.mem_singleton.1 hu]
      intro e
      have := (r2.lt g e).1
      have := HSZ.out
      omega
   ·have hu : X.f y = some u := by
     have : fput X.f x (.slice (some ⟨g4', 0, none⟩) (L.length + 1) c4') y = some u := hy
     simpa [fput, e] using this
    obtain ⟨n', us', r', hu'⟩ := hav1.2 y u hu
    exact ⟨n', us', (r'.keep fO (fun k hk => (kF5 y u e hu k hk).1)).keep f5 (fun k hk => (kF5 y u e hu k hk).2), hu'⟩
  ·
   go_simp
   have f3 : Fr [] w2 (w2.alloc (.cells #[.slice A2 512 c2] 27)) := (Fr.refl _ _).alloc _
   have rd3 := Rd.one w2 (.slice A2 512 c2) 27
   refine hK.out _ _ (hHeld.keep f3 (by simp) (by simp) (by simp) (by simp)) (fun hHx => ?_)
   obtain ⟨w3, hw3⟩ : ∃ w3, w2.alloc (.cells #[.slice A2 512 c2] 27) = w3 := ⟨_, rfl⟩
   obtain ⟨b3, hb3⟩ : ∃ b3, w2.heap.size = b3 := ⟨_, rfl⟩
   rw [hw3] at f3 rd3 hHx ⊢
   rw [hb3] at rd3 ⊢
   clear hw3 hb3
   clear hHeld
   have hHeld := hHx
   clear hHx
   clear hK K
   try simp only [Act.put, p1, p2, p3]
   have hl := (mz.keep_nil (f2.trans_nil f3)).look Tryz.underlying116 (zeroBBD _) wf
   rw [HV.out] at hl
   refine tc 10 (fun K hK => ?_)
   go_simp
   refine hK.out _ _ hHeld (fun hHx => ?_)
   clear hl
   clear hHeld
   have hHeld := hHx
   clear hHx
   clear hK K
   try simp only [Act.put, p1, p2, p3]
   have f13 := f2.trans_nil f3
   have R3 := R.keep_nil f13
   refine tc 14 (fun K hK => ?_)
   refine wp_app rfl slBBD 0 v L.length us rfl R3 _ 1 1 [.slice A2 512 c2] rfl rfl rd3 (by intro u hu; rw [List.mem_singleton.1 hu]; rfl) (fun h => by cases h) (by omega) (Nat.zero_le _) (fun v4 w4 q1 q2 q3 q4 => hK.out _ _ (hHeld.keep q2 (fun hm => HNO.out.1 (mem_own.1 hm)) (fun hm => HNO.out.2.1 (mem_own.1 hm)) (fun hm => HNO.out.2.2.1 (mem_own.1 hm)) (fun hm => HNO.out.2.2.2 (mem_own.1 hm))) (fun hHx => ?_))
   clear hHeld
   have hHeld := hHx
   clear hHx
   clear hK K
   try simp only [Act.put, p1, p2, p3]
   have hmO := HMO.out
   have m4 := (mz.keep_nil f13).keep q2 (fun hm => hmO.2 (mem_own.1 hm))
   obtain ⟨w5, hrun, m5, f5, z5⟩ := m4.put Tryz.underlying116 (by unfold maxLen; omega) wf v4
   refine tc 15 (fun K hK => ?_)
   go_simp
   refine hK.out _ _ (hHeld.keep f5 (fun hm => HMN.out.1 (List.mem_singleton.1 hm)) (fun hm => HMN.out.2.1 (List.mem_singleton.1 hm)) (fun hm => HMN.out.2.2.1 (List.mem_singleton.1 hm)) (fun hm => HMN.out.2.2.2 (List.mem_singleton.1 hm))) (fun hHx => ?_)
   clear hHeld
   have hHeld := hHx
   clear hHx
   clear hK K
   try simp only [Act.put, p1, p2, p3]
   clear hrun
   refine wpAnyH_done (by kernel_rfl) ?_ _
   go_wp2_with fail
   go_returns
   refine ⟨rfl, ?_⟩
   obtain ⟨g4', c4', rfl⟩ := q1.hdD (by omega)
   have fO : Fr (Value.ownBlock v).toList w1 w4 := (f13.mono (by simp)).trans q2 (fun i hi => .inl hi)
   have hu3 : UR w4 (.slice (some ⟨g4', 0, none⟩) (L.length + 1) c4') (D.uns x ++ [b]) := by
    rw [HLX.out]
    refine ⟨us ++ [.slice A2 512 c2], by rw [List.length_append]; exact q1, fun i h1 h2 => ?_⟩
    have n8 : NoTy w3 v.ownBlock.toList 5 := R3.noTy (by decide)
    have hul : us.length = L.length := by have := R.1; omega
    by_cases hi : i < us.length
    ·rw [List.getElem_append_left hi]
     have e2 : (L ++ [b])[i] = L[i]'(by omega) := List.getElem_append_left (by omega)
     rw [e2]
     exact ((UB.out i hi (by omega)).keep_nil f13).keepT q2 n8
    ·have e1 : i = us.length := by rw [List.length_append, List.length_singleton] at h1; omega
     subst e1
     rw [List.getElem_append_right (Nat.le_refl _)]
     have e2 : (L ++ [b])[us.length] = b := by rw [List.getElem_append_right (by omega)]; simp [hul]
     rw [e2]
     simp only [Nat.sub_self, List.getElem_cons_zero]
     exact ⟨HB5.out, ((r2.mono (Nat.zero_le _)).keep_nil f3).keepT q2 n8⟩
   obtain ⟨k1, k2⟩ := HH.out.put (g' := g4') HX.out HV.out.symm fO hu3 rfl (by
    rcases q3 g4' rfl with h | h
    ·exact .inl h
    ·exact .inr (by have := f13.size; omega)) m5 f5
   have kF5 : ∀ y u, y ≠ x → X.f y = some u → ∀ k, u.ownBlock = some k → k ∉ (Value.ownBlock v).toList ∧ k ∉ [X.m] := fun y u hne hy k hk => by
    refine ⟨fun hm => ?_, fun hm => ?_⟩
    ·have hv2 := mem_own.1 hm
     cases hfx : X.f x with
     | none =>
      have e := HV.out
      rw [hfx] at e
      have e : Value.slice none 0 0 = v := e
      rw [← e] at hv2
      cases hv2
     | some t =>
      have e := HV.out
      rw [hfx] at e
      have e : t = v := e
      subst e
      exact HH.out.apart y x u t hne hy hfx (hk.trans hv2.symm)
    ·obtain ⟨⟨us', r', _⟩, _⟩ := HH.out.un y u hy
     obtain ⟨D4, ⟨es, clock, hb4, _⟩, _⟩ := HH.out.map
     rcases r'.2 with ⟨e2, _⟩ | ⟨g2, c2, cur2, fz2, e2, _, hg2, _⟩
     ·rw [e2] at hk; cases hk
     ·have : g2 = X.m := by
       have e3 : g2 = k := by rw [e2] at hk; simpa [Value.ownBlock] using hk
       rw [e3]; exact List.mem_singleton.1 hm
      subst this
      rw [hb4] at hg2
      cases hg2
   refine ⟨_, _, k1, fun i hi => by
    rcases List.mem_cons.1 hi with rfl | hi
    ·rcases q3 i rfl with h | h
     ·exact .inl (HVO.out i h)
     ·exact .inr (by have := f13.size; have := HSZ.out; omega)
    ·exact .inl (List.mem_filter.1 hi).1, HF.out.trans k2 (fun i hi => .inl hi), fun g hg hav => ⟨hav.1, fun y u hy => ?_⟩⟩
   have hav1 : AvX w1 X g := hav.keep_nil HFZ.out
   by_cases e : y = x
   ·subst e
    have hu : u = .slice (some ⟨g4', 0, none⟩) (L.length + 1) c4' := by
     have : fput X.f y (.slice (some ⟨g4', 0, none⟩) (L.length + 1) c4') y = some u := hy
     simpa [fput] using this.symm
    subst hu
    refine ⟨_, _, q1.keep f5 (fun k hk hm => ?_), fun u hu => ?_⟩
    ·have hk4 : k = g4' := own_mem.1 (mem_own.2 hk)
     subst hk4
     have hm := List.mem_singleton.1 hm
     rcases q3 k rfl with h | h
     ·exact HMO.out.2 (by rw [h, hm])
     ·have := HH.out.map.lt
      have := f13.size
      omega
    ·rcases List.mem_append.1 hu with hu | hu
     ·cases hfx : X.f y with
      | none =>
       have e := HV.out
       rw [hfx] at e
       have e : Value.slice none 0 0 = v := e
       subst e
       have := R.1
       obtain ⟨-, e0⟩ := R.uniq (Row.nil w1 0 27 1)
       rw [e0] at hu
       cases hu
      | some t =>
       have e := HV.out
       rw [hfx] at e
       have e : t = v := e
       subst e
       obtain ⟨n', us', r', hu'⟩ := hav1.2 y t hfx
       obtain ⟨-, rfl⟩ := R.uniq r'
       exact hu' u hu
     ·rw [List.mem_singleton.1 hu]
      intro e
      have := (r2.lt g e).1
      have := HSZ.out
      omega
   ·have hu : X.f y = some u := by
     have : fput X.f x (.slice (some ⟨g4', 0, none⟩) (L.length + 1) c4') y = some u := hy
     simpa [fput, e] using this
    obtain ⟨n', us', r', hu'⟩ := hav1.2 y u hu
    exact ⟨n', us', (r'.keep fO (fun k hk => (kF5 y u e hu k hk).1)).keep f5 (fun k hk => (kF5 y u e hu k hk).2), hu'⟩
theorem dkWrite1_any {g3 g4 g5 : Nat} {x : Int} {A : Option Addr} {c : Nat} {b : List UInt8} (h : Dsk w p O D) (k3 : Blk w g3 32 #[.pointer (some ⟨p, 0, none⟩)]) (k4 : Blk w g4 3 #[.int .i64 x]) (k5 : Blk w g5 27 #[.slice A 512 c])
  (hO : g3 ∉ O ∧ g4 ∉ O ∧ g5 ∉ O) (hx : D.is x = true) (hb : b.length = 512) (rd : Rd w A (bvs b)) (hA : A = none → 512 = 0) (hl : (D.uns x).length ≤ 4398046511104) :
  Calls Tryz.prog 164 #[.pointer (some ⟨g3, 0, none⟩), .pointer (some ⟨g4, 0, none⟩), .pointer (some ⟨g5, 0, none⟩)] w fun e w' => e = .returned (.tuple #[]) ∧ ∃ O', Dsk w' p O' (D.wr x b) ∧ (∀ i ∈ O', i ∈ O ∨ w.heap.size ≤ i) ∧ Fr O w w' := by
 obtain ⟨X, h⟩ := h
 exact (dkWrite1_av h k3 k4 k5 hO hx hb rd hA hl).mono fun e w' ⟨he, O', X', h1, h2, h3, _⟩ => ⟨he, O', ⟨X', h1⟩, h2, h3⟩
end
end
end Go.Proofs.YtbanogfljpkbkaaGreatDoor
