/-
  Texts of this claim, one behind the other: DkD, DkE, DkF.
-/
import Derived.Test.YtbanogfljpkbkaaGreatDoorM2
set_option linter.unusedSimpArgs false
set_option linter.unusedVariables false
set_option linter.unnecessarySimpa false
namespace Go.Proofs.YtbanogfljpkbkaaGreatDoor
section
open Go.RowKit
set_option maxRecDepth 100000
theorem zeroBBD (w : World) : (zeroValue 42).run Tryz.prog w = .ok (.slice none 0 0) w := by kernel_rfl
def DkM.readE (D : DkM) (x : Int) : Int := if D.is x = false then 100 else if D.off = true then 102 else 0
def DkM.readR (D : DkM) (x : Int) : List UInt8 := if D.is x = false then [] else if D.off = true then [] else match (D.uns x).getLast? with | some b => b | none => D.sureR x
def ReadC (w : World) (l : List UInt8) (c : Int) (e : Ending) (w' : World) : Prop := ∃ v, e = .returned (.tuple #[v, .int .i64 c]) ∧ Row w' w.heap.size 5 1 v l.length (bvs l) ∧ Fr [] w w'
section
variable {w w' : World} {p : Nat} {O : List Nat} {D : DkM} {X : DkX}
theorem DkM.wf_is (h : DskX w p O D X) {x : Int} (hx : D.is x = true) : wfZ x := wfZ_of (by
 have h1 := DkM.is_iff.1 hx
 have h2 := h.n1
 omega)
set_option maxHeartbeats 1000000 in
theorem dkRead_any (h : Dsk w p O D) (x : Int) : Calls Tryz.prog 101 #[.pointer (some ⟨p, 0, none⟩), .int .i64 x] w (ReadC w (D.readR x) (D.readE x)) := by
 have hm := dkMade_any h
 have hi := dkIs_any h x
 have ho := dkOff_any h
 have hs := dkSure_any h x
 cases hx : D.is x
 ·rw [hx] at hi
  have HE := Lib.hid (show D.readE x = 100 by rw [DkM.readE, if_pos hx])
  have HR := Lib.hid (show D.readR x = [] by rw [DkM.readR, if_pos hx])
  clear hx
  go_enter Tryz.func101, Tryz.ntmps101
  go_wp2_with fail
  refine hm.mono ?_
  rintro e w1 ⟨rfl, rfl⟩
  go_wp2_with fail
  refine hi.mono ?_
  rintro e w1 ⟨rfl, rfl⟩
  go_wp2_with fail
  go_ret2
  exact ⟨_, by rw [HE.out]; rfl, by rw [HR.out]; exact Row.nil _ _ _ _, Fr.refl _ _⟩
 ·rw [hx] at hi
  cases hf : D.off
  ·rw [hf] at ho
   have HE := Lib.hid (show D.readE x = 0 by rw [DkM.readE, hx, hf]; rfl)
   have hR : D.readR x = match (D.uns x).getLast? with | some b => b | none => D.sureR x := by rw [DkM.readR, hx, hf]; rfl
   obtain ⟨X, h⟩ := h
   have c1 := h.c1
   have wf := DkM.wf_is h hx
   have mz := h.map
   cases hfx : X.f x with
   | none =>
    have hu := (h.iff x).1 hfx
    rw [hu] at hR
    have HR := Lib.hid (show D.readR x = D.sureR x from hR)
    have HFX := Lib.hid (show (X.f x).getD (.slice none 0 0) = .slice none 0 0 by rw [hfx]; rfl)
    clear hx hf hR hu hfx
    go_enter Tryz.func101, Tryz.ntmps101
    go_wp2_with fail
    refine hm.mono ?_
    rintro e w1 ⟨rfl, rfl⟩
    go_wp2_with fail
    refine hi.mono ?_
    rintro e w1 ⟨rfl, rfl⟩
    go_wp2_with fail
    refine ho.mono ?_
    rintro e w1 ⟨rfl, rfl⟩
    go_wp2_with (refine wpList_lookZ rfl rfl Tryz.underlying116 (zeroBBD _) rfl mz x rfl wf ?_; rw [HFX.out])
    refine hs.mono ?_
    rintro e w1 ⟨v, rfl, r, f⟩
    go_wp2_with fail
    go_ret2
    exact ⟨_, by rw [HE.out]; rfl, by rw [HR.out]; exact r, f⟩
   | some v =>
    obtain ⟨⟨us, r, hb⟩, gv, hgv, -, -⟩ := h.un x v hfx
    have hne : D.uns x ≠ [] := fun e => by have := (h.iff x).2 e; rw [hfx] at this; cases this
    obtain ⟨L, hL⟩ : ∃ L, D.uns x = L := ⟨_, rfl⟩
    rw [hL] at r hb hne hR
    obtain ⟨n, hn⟩ : ∃ n, L.length = n + 1 := ⟨L.length - 1, by have := List.length_pos_iff.2 hne; omega⟩
    have hul : us.length = n + 1 := by have := r.1; omega
    have hl2 : L.getLast? = some (L[n]'(by omega)) := by
     rw [List.getLast?_eq_getElem?, show L.length - 1 = n by omega, List.getElem?_eq_getElem]
    rw [hl2] at hR
    obtain ⟨b5, rb⟩ := hb n (by omega) (by omega)
    obtain ⟨b, hbb⟩ : ∃ b, L[n]'(by omega) = b := ⟨_, rfl⟩
    rw [hbb] at b5 rb hR
    rw [hn] at r
    have hn48 : n + 1 ≤ 9223372036854775807 := by obtain ⟨_, _, _, h1, h2, -⟩ := r.shape; unfold maxLen at h2; omega
    obtain ⟨g, c, rfl⟩ := r.hdD (by omega)
    obtain ⟨g', o', e', hc⟩ := r.rdD.1 (by intro h0; rw [h0] at hul; simp at hul)
    cases e'
    have cn := hc n _ (List.getElem?_eq_getElem (by omega))
    rw [Nat.zero_add] at cn
    obtain ⟨g2, c2, hv2⟩ := rb.hdD (by omega)
    rw [hv2] at cn rb
    have HR := Lib.hid (show D.readR x = b from hR)
    have HB5 := Lib.hid b5
    have HFX := Lib.hid (show (X.f x).getD (.slice none 0 0) = .slice (some ⟨g, 0, none⟩) (n + 1) c by rw [hfx]; rfl)
    clear hx hf hR hfx hl2 hn hul hbb hv2 hc b5 hL hgv hb
    have K0 : (0 : Int) < (n : Int) + 1 := by omega
    go_enter Tryz.func101, Tryz.ntmps101
    go_wp2_with fail
    refine hm.mono ?_
    rintro e w1 ⟨rfl, rfl⟩
    go_wp2_with fail
    refine hi.mono ?_
    rintro e w1 ⟨rfl, rfl⟩
    go_wp2_with fail
    refine ho.mono ?_
    rintro e w1 ⟨rfl, rfl⟩
    go_wp2_with (refine wpList_lookZ rfl rfl Tryz.underlying116 (zeroBBD _) rfl mz x rfl wf ?_; rw [HFX.out])
    refine (clone_any _ b 512 c2 w HB5.out rb.rdD.1 rb.rdD.2.2 (by omega)).mono ?_
    rintro e w2 ⟨v2, rfl, r2, f2⟩
    go_wp2_with fail
    go_ret2
    exact ⟨_, by rw [HE.out]; rfl, by rw [HR.out]; show Row w2 _ _ 1 v2 b.length (bvs b); rw [HB5.out]; exact r2, f2⟩
  ·rw [hf] at ho
   have HE := Lib.hid (show D.readE x = 102 by rw [DkM.readE, hx, hf]; rfl)
   have HR := Lib.hid (show D.readR x = [] by rw [DkM.readR, hx, hf]; rfl)
   clear hx hf
   go_enter Tryz.func101, Tryz.ntmps101
   go_wp2_with fail
   refine hm.mono ?_
   rintro e w1 ⟨rfl, rfl⟩
   go_wp2_with fail
   refine hi.mono ?_
   rintro e w1 ⟨rfl, rfl⟩
   go_wp2_with fail
   refine ho.mono ?_
   rintro e w1 ⟨rfl, rfl⟩
   go_wp2_with fail
   go_ret2
   exact ⟨_, by rw [HE.out]; rfl, by rw [HR.out]; exact Row.nil _ _ _ _, Fr.refl _ _⟩
def DkM.wrL (D : DkM) (x : Int) (L : List (List UInt8)) : DkM := { D with uns := fun y => if y = x then L else D.uns y }
def DkM.wr (D : DkM) (x : Int) (b : List UInt8) : DkM := D.wrL x (D.uns x ++ [b])
theorem DskX.putL (h : DskX w p O D X) {x : Int} {L' : List (List UInt8)} (hL' : L' ≠ []) {v v' : Value} {g' : Nat} {w3 w4 : World} (hx : D.is x = true) (hv : v = (X.f x).getD (.slice none 0 0))
  (f3 : Fr v.ownBlock.toList w w3) (u3 : UR w3 v' L') (hg : v'.ownBlock = some g') (hloc : v.ownBlock = some g' ∨ w.heap.size ≤ g')
  (m4 : MapZ w4 X.m 4097 (fput X.f x v')) (f4 : Fr [X.m] w3 w4) : DskX w4 p (g' :: O.filter fun j => decide (v.ownBlock ≠ some j)) (D.wrL x L') { X with f := fput X.f x v' } ∧ Fr O w w4 := by
 have hvO : ∀ i ∈ v.ownBlock.toList, i ∈ O ∧ i ≠ X.g ∧ ∃ u, X.f x = some u ∧ u.ownBlock = some i := fun i hi => by
  cases hf : X.f x with
  | none => rw [hf] at hv; subst hv; exact (own_nil.1 hi).elim
  | some u =>
   rw [hf] at hv
   have hv : v = u := hv
   subst hv
   obtain ⟨_, g, h1, h2, h3⟩ := h.un x v hf
   have := mem_own.1 hi
   rw [h1] at this
   cases this
   exact ⟨h2, h3, v, rfl, h1⟩
 have n8v : NoTy w v.ownBlock.toList 5 := h.no8.sub fun i hi => (hvO i hi).1
 obtain ⟨us, ur, ub⟩ := u3
 have n8m : NoTy w3 [X.m] 5 := fun i hi cs fz hc => by
  obtain ⟨D4, ⟨es, clock, hb, _⟩, _⟩ := h.map
  have hm : X.m ∉ v.ownBlock.toList := fun hm => by
   obtain ⟨_, _, u, hu, hgu⟩ := hvO _ hm
   obtain ⟨⟨us', r', _⟩, _⟩ := h.un x u hu
   rcases r'.2 with ⟨e, _⟩ | ⟨g1, c1, cur, fz1, e, _, hgg, _⟩
   ·rw [e] at hgu; cases hgu
   ·have : g1 = X.m := by rw [e] at hgu; simpa [Value.ownBlock] using hgu
    subst this
    rw [hb] at hgg
    cases hgg
  rw [List.mem_singleton.1 hi, f3.same _ h.map.lt hm, hb] at hc
  cases hc
 have hpv : p ∉ v.ownBlock.toList := fun hm => by
  obtain ⟨_, _, u, hu, hgu⟩ := hvO _ hm
  obtain ⟨⟨us', r', _⟩, _⟩ := h.un x u hu
  exact r'.ne_blk h.blk (by decide) hgu
 have hxr := DkM.is_iff.1 hx
 have hmb : ∀ j, j = X.m → ∀ cs t fz, w3.heap[j]? ≠ some (.cells cs t fz) := fun j hj cs t fz hc => by
  obtain ⟨D4, ⟨es, clock, hb, _⟩, _⟩ := h.map
  have hm2 : X.m ∉ v.ownBlock.toList := fun hm3 => by
   obtain ⟨_, _, t, ht, hgt⟩ := hvO _ hm3
   obtain ⟨⟨us', r', _⟩, _⟩ := h.un x t ht
   rcases r'.2 with ⟨e2, _⟩ | ⟨g2, c2, cur2, fz2, e2, _, hg2, _⟩
   ·rw [e2] at hgt; cases hgt
   ·have : g2 = X.m := by rw [e2] at hgt; simpa [Value.ownBlock] using hgt
    subst this
    rw [hb] at hg2
    cases hg2
  rw [hj, f3.same _ h.map.lt hm2, hb] at hc
  cases hc
 have hmv' : ∀ g, v'.ownBlock = some g → g ∉ [X.m] := fun g hgg hm => by
  rw [List.mem_singleton.1 hm] at hgg
  rcases ur.2 with ⟨e, _⟩ | ⟨g1, c1, cur, fz1, e, _, hg1, _⟩
  ·rw [e] at hgg; cases hgg
  ·have : g1 = X.m := by rw [e] at hgg; simpa [Value.ownBlock] using hgg
   exact hmb _ this _ _ _ hg1
 have mvO : ∀ {j : Nat}, j ∈ O → (v.ownBlock ≠ some j) → j ∈ g' :: O.filter fun j => decide (v.ownBlock ≠ some j) := fun h1 h2 => List.mem_cons_of_mem _ (List.mem_filter.2 ⟨h1, by simpa using h2⟩)
 have gv : v.ownBlock ≠ some X.g := fun e => (hvO _ (mem_own.2 e)).2.1 rfl
 have mv : v.ownBlock ≠ some X.m := fun e => by
  obtain ⟨_, _, t, ht, hgt⟩ := hvO _ (mem_own.2 e)
  obtain ⟨⟨us', r', _⟩, _⟩ := h.un x t ht
  obtain ⟨D4, ⟨es, clock, hb, _⟩, _⟩ := h.map
  rcases r'.2 with ⟨e2, _⟩ | ⟨g2, c2, cur2, fz2, e2, _, hg2, _⟩
  ·rw [e2] at hgt; cases hgt
  ·have : g2 = X.m := by rw [e2] at hgt; simpa [Value.ownBlock] using hgt
   subst this
   rw [hb] at hg2
   cases hg2
 refine ⟨⟨mvO h.pO (fun e => hpv (mem_own.2 e)), mvO h.gO gv, mvO h.mO mv, ?_, h.n1, ?_, fun i a c => ?_, ?_, fun y => ?_, fun y u hy => ?_, fun y hy => ?_, fun y z u t hne hy hz => ?_, fun i hi cs fz hc => ?_, fun i hi => ?_, h.calls⟩, ?_⟩
 ·exact (h.blk.keep f3 hpv).keep f4 (by simpa using fun e => h.mp e.symm)
 ·refine (h.row.keep f3 (fun g hg2 hm => ?_)).keep f4 (fun g hg2 hm => ?_)
  ·have : g = X.g := by simpa [Value.ownBlock] using hg2.symm
   exact (hvO g hm).2.1 this
  ·have : g = X.g := by simpa [Value.ownBlock] using hg2.symm
   exact h.mg (by rw [← this]; exact (List.mem_singleton.1 hm).symm)
 ·exact ((h.su i a c).keepT f3 n8v).keepT f4 n8m
 ·refine m4.tight (fun y _ hy => ?_)
  unfold fput at hy
  have hn := h.n1
  by_cases e : y = x
  ·subst e; omega
  ·rw [if_neg e] at hy
   have := h.rng y (fun e2 => hy ((h.iff y).2 e2))
   omega
 ·show fput X.f x v' y = none ↔ (if y = x then L' else D.uns y) = []
  unfold fput
  by_cases e : y = x
  ·rw [if_pos e, if_pos e]; simp [hL']
  ·rw [if_neg e, if_neg e]; exact h.iff y
 ·replace hy : fput X.f x v' y = some u := hy
  show UR w4 u (if y = x then L' else D.uns y) ∧ ∃ g, u.ownBlock = some g ∧ g ∈ g' :: (O.filter fun j => decide (v.ownBlock ≠ some j)) ∧ g ≠ X.g
  unfold fput at hy
  by_cases e : y = x
  ·rw [if_pos e] at hy ⊢
   cases hy
   refine ⟨⟨us, ur.keep f4 hmv', fun i a c => (ub i a c).keepT f4 n8m⟩, g', hg, by simp, fun e2 => ?_⟩
   rcases hloc with h1 | h1
   ·exact (hvO g' (mem_own.2 h1)).2.1 e2
   ·have := h.lts.2.1; omega
  ·rw [if_neg e] at hy ⊢
   obtain ⟨h1, g, h2, h3, h4⟩ := h.un y u hy
   refine ⟨(h1.keep f3 n8v (fun g2 hg2 hm => ?_)).keep f4 n8m (fun g2 hg2 hm => ?_), g, h2, mvO h3 (fun e5 => by
    obtain ⟨_, _, t, ht, hgt⟩ := hvO _ (mem_own.2 e5)
    exact h.apart y x u t e hy ht (by rw [h2, hgt])), h4⟩
   ·obtain ⟨_, _, t, ht, hgt⟩ := hvO _ hm
    exact h.apart y x u t e hy ht (by rw [hg2, hgt])
   ·rw [List.mem_singleton.1 hm] at hg2
    obtain ⟨us', r', _⟩ := h1
    obtain ⟨D4, ⟨es, clock, hb, _⟩, _⟩ := h.map
    rcases r'.2 with ⟨e2, _⟩ | ⟨g2', c2, cur2, fz2, e2, _, hg3, _⟩
    ·rw [e2] at hg2; cases hg2
    ·have : g2' = X.m := by rw [e2] at hg2; simpa [Value.ownBlock] using hg2
     subst this
     rw [hb] at hg3
     cases hg3
 ·replace hy : (if y = x then L' else D.uns y) ≠ [] := hy
  by_cases e : y = x
  ·subst e; exact hxr
  ·rw [if_neg e] at hy; exact h.rng y hy
 ·replace hy : fput X.f x v' y = some u := hy
  replace hz : fput X.f x v' z = some t := hz
  have far : ∀ y u, y ≠ x → X.f y = some u → u.ownBlock ≠ some g' := fun y u e hy e2 => by
   rcases hloc with h1 | h1
   ·obtain ⟨_, _, t, ht, hgt⟩ := hvO g' (mem_own.2 h1)
    exact h.apart y x u t e hy ht (by rw [e2, hgt])
   ·have := h.un_lt hy e2; omega
  unfold fput at hy hz
  by_cases e : y = x
  ·rw [if_pos e] at hy
   have e3 : ¬ z = x := fun e3 => hne (e.trans e3.symm)
   rw [if_neg e3] at hz
   cases hy
   rw [hg]
   exact fun e4 => far z t e3 hz e4.symm
  ·rw [if_neg e] at hy
   by_cases e3 : z = x
   ·rw [if_pos e3] at hz
    cases hz
    rw [hg]
    exact far y u e hy
   ·rw [if_neg e3] at hz
    exact h.apart y z u t hne hy hz
 ·rcases List.mem_cons.1 hi with rfl | hi
  ·exact (ur.keep f4 hmv').noTy (d := 5) (by decide) i (mem_own.2 hg) _ _ hc
  ·obtain ⟨h1, h2⟩ := List.mem_filter.1 hi
   have h2 : v.ownBlock ≠ some i := by simpa using h2
   by_cases e : i = X.m
   ·obtain ⟨D4, ⟨es, clock, hb, _⟩, _⟩ := m4
    rw [e, hb] at hc
    cases hc
   ·rw [f4.same i (Nat.lt_of_lt_of_le (h.lt i h1) f3.size) (by simpa using e), f3.same i (h.lt i h1) (fun hm => h2 (mem_own.1 hm))] at hc
    exact h.no8 i h1 cs fz hc
 ·rcases List.mem_cons.1 hi with rfl | hi
  ·exact Nat.lt_of_lt_of_le (ur.lt i hg).2 f4.size
  ·exact Nat.lt_of_lt_of_le (h.lt i (List.mem_filter.1 hi).1) (Nat.le_trans f3.size f4.size)
 ·exact (f3.mono fun i hi => (hvO i hi).1).trans f4 (fun i hi => .inl (by rw [List.mem_singleton.1 hi]; exact h.mO))
theorem DskX.put (h : DskX w p O D X) {x : Int} {b : List UInt8} {v v' : Value} {g' : Nat} {w3 w4 : World} (hx : D.is x = true) (hv : v = (X.f x).getD (.slice none 0 0))
  (f3 : Fr v.ownBlock.toList w w3) (u3 : UR w3 v' (D.uns x ++ [b])) (hg : v'.ownBlock = some g') (hloc : v.ownBlock = some g' ∨ w.heap.size ≤ g')
  (m4 : MapZ w4 X.m 4097 (fput X.f x v')) (f4 : Fr [X.m] w3 w4) : DskX w4 p (g' :: O.filter fun j => decide (v.ownBlock ≠ some j)) (D.wr x b) { X with f := fput X.f x v' } ∧ Fr O w w4 :=
 h.putL (by simp) hx hv f3 u3 hg hloc m4 f4
end
end
section
open Go.RowKit
set_option maxRecDepth 100000
def S4D (g3 g4 g5 p m : Nat) (x : Int) (A : Option Addr) (c : Nat) (w : World) : Prop :=
 w.cell? ⟨g3, 0, none⟩ = some (.pointer (some ⟨p, 0, none⟩)) ∧ w.cell? ⟨g4, 0, none⟩ = some (.int .i64 x) ∧ w.cell? ⟨g5, 0, none⟩ = some (.slice A 512 c) ∧ w.cell? ⟨p, 1, none⟩ = some (.map (some m))
theorem S4D.keep {g3 g4 g5 p m : Nat} {x : Int} {A : Option Addr} {c : Nat} {w w' : World} (h : S4D g3 g4 g5 p m x A c w) {F : List Nat} (f : Fr F w w') (h3 : g3 ∉ F) (h4 : g4 ∉ F) (h5 : g5 ∉ F) (hp : p ∉ F) : S4D g3 g4 g5 p m x A c w' :=
 ⟨f.cell h3 h.1, f.cell h4 h.2.1, f.cell h5 h.2.2.1, f.cell hp h.2.2.2⟩
section
variable {P : Program} {ops : Array Oper} {Q : Exit → Act → World → Prop} {S : World → Prop}
theorem take_2z {md : Region.Mode} (i j : Nat) {oi oj : Oper} {fuel : Nat} {listed : Array Bool} {a : Act} {w : World} (hi : ops[i]? = some oi) (hj : ops[j]? = some oj) (hr : Region.ready md ops listed = [i, j])
  (hwi : Region.wanted oi (yielded ops a.tmps) = true) (hwj : Region.wanted oj (yielded ops a.tmps) = true)
  (h1 : ∀ K' : Act → World → Prop, Shut (∀ a w, S w → (S w → wpAnyH P md ops Q S fuel (listed.setIfInBounds i true) a w) → K' a w) → Oper.wp P oi a w K' Q)
  (h2 : ∀ K' : Act → World → Prop, Shut (∀ a w, S w → (S w → wpAnyH P md ops Q S fuel (listed.setIfInBounds j true) a w) → K' a w) → Oper.wp P oj a w K' Q) : wpAnyH P md ops Q S (fuel + 1) listed a w :=
 wpAnyH_ready hr (by simp) (AllReadyH.cons hi (fun K' hK => by rw [if_pos hwi]; exact h1 K' hK) (AllReadyH.cons hj (fun K' hK => by rw [if_pos hwj]; exact h2 K' hK) AllReadyH.nil))
end
theorem Row.uniq {w : World} {b1 b2 : Nat} {e1 e2 : TypeId} {s n1 n2 : Nat} {v : Value} {xs ys : List Value} (h1 : Row w b1 e1 s v n1 xs) (h2 : Row w b2 e2 s v n2 ys) : n1 = n2 ∧ xs = ys := by
 rcases h1.2 with ⟨rfl, rfl⟩ | ⟨g1, c1, u1, z1, rfl, _, k1, _, _, _, _, t1⟩
 ·rcases h2.2 with ⟨_, rfl⟩ | ⟨g2, c2, u2, z2, e, _⟩
  ·have l1 := h1.1
   have l2 := h2.1
   rw [Nat.zero_mul] at l1 l2
   rw [List.length_eq_zero_iff.1 l1, List.length_eq_zero_iff.1 l2]
   exact ⟨rfl, rfl⟩
  ·cases e
 ·rcases h2.2 with ⟨e, _⟩ | ⟨g2, c2, u2, z2, e, _, k2, _, _, _, _, t2⟩
  ·cases e
  ·cases e
   rw [k1] at k2
   cases k2
   exact ⟨rfl, t1.symm.trans t2⟩
def AvX (w : World) (X : DkX) (g : Nat) : Prop := (∀ i (h : i < X.vs.length), X.vs[i].ownBlock ≠ some g) ∧ ∀ x v, X.f x = some v → ∃ n us, Row w 0 27 1 v n us ∧ ∀ u ∈ us, u.ownBlock ≠ some g
theorem AvX.keep {w w' : World} {X : DkX} {g : Nat} {F : List Nat} (h : AvX w X g) (f : Fr F w w') (hF : ∀ x v, X.f x = some v → ∀ k, v.ownBlock = some k → k ∉ F) : AvX w' X g :=
 ⟨h.1, fun x v hx => by obtain ⟨n, us, r, hu⟩ := h.2 x v hx; exact ⟨n, us, r.keep f (hF x v hx), hu⟩⟩
theorem AvX.keep_nil {w w' : World} {X : DkX} {g : Nat} (h : AvX w X g) (f : Fr [] w w') : AvX w' X g := h.keep f (fun _ _ _ _ _ => by simp)
def AftA (w : World) (p : Nat) (O : List Nat) (X : DkX) (D' : DkM) (w' : World) : Prop := ∃ O' X', DskX w' p O' D' X' ∧ (∀ i ∈ O', i ∈ O ∨ w.heap.size ≤ i) ∧ Fr O w w' ∧ ∀ g, g < w.heap.size → AvX w X g → AvX w' X' g
section
variable {w w' : World} {p : Nat} {O : List Nat} {D : DkM} {X : DkX}
set_option maxHeartbeats 2000000 in
theorem dkWrite1_av {g3 g4 g5 : Nat} {x : Int} {A : Option Addr} {c : Nat} {b : List UInt8} (h : DskX w p O D X) (k3 : Blk w g3 32 #[.pointer (some ⟨p, 0, none⟩)]) (k4 : Blk w g4 3 #[.int .i64 x]) (k5 : Blk w g5 27 #[.slice A 512 c])
  (hO : g3 ∉ O ∧ g4 ∉ O ∧ g5 ∉ O) (hx : D.is x = true) (hb : b.length = 512) (rd : Rd w A (bvs b)) (hA : A = none → 512 = 0) (hl : (D.uns x).length ≤ 4398046511104) :
  Calls Tryz.prog 164 #[.pointer (some ⟨g3, 0, none⟩), .pointer (some ⟨g4, 0, none⟩), .pointer (some ⟨g5, 0, none⟩)] w fun e w' => e = .returned (.tuple #[]) ∧ AftA w p O X (D.wr x b) w' := by
 have wf := DkM.wf_is h hx
 obtain ⟨L, hL⟩ : ∃ L, D.uns x = L := ⟨_, rfl⟩
 rw [hL] at hl
 obtain ⟨v, us, hv, R, ub, hvO⟩ : ∃ v us, (X.f x).getD (.slice none 0 0) = v ∧ Row w 0 27 1 v L.length us ∧ (∀ i (h : i < us.length) (h' : i < L.length), BlkB w us[i] L[i]) ∧ ∀ i, v.ownBlock = some i → i ∈ O ∧ i ≠ X.m ∧ i ≠ p := by
  cases hf : X.f x with
  | none =>
   have := (h.iff x).1 hf
   rw [hL] at this
   subst this
   exact ⟨_, [], rfl, Row.nil _ _ _ _, fun i hi => by simp at hi, fun i hi => by cases hi⟩
  | some v =>
   obtain ⟨⟨us, r, hb⟩, gv, hgv, h1, h2⟩ := h.un x v hf
   rw [hL] at r hb
   refine ⟨v, us, rfl, r, hb, fun i hi => ?_⟩
   rw [hgv] at hi
   cases hi
   refine ⟨h1, fun e => ?_, fun e => r.ne_blk h.blk (by decide) (by rw [hgv, e])⟩
   subst e
   obtain ⟨D4, ⟨es, clock, hb4, _⟩, _⟩ := h.map
   rcases r.2 with ⟨e2, _⟩ | ⟨g2, c2, cur2, fz2, e2, _, hg2, _⟩
   ·rw [e2] at hgv; cases hgv
   ·have : g2 = X.m := by rw [e2] at hgv; simpa [Value.ownBlock] using hgv
    subst this
    rw [hb4] at hg2
    cases hg2
 have HV := Lib.hid hv
 have HH0 := Lib.hid h
 have HX := Lib.hid hx
 have HB5 := Lib.hid hb
 have UB0 := Lib.hid ub
 have HLX := Lib.hid hL
 have HNO := Lib.hid (show v.ownBlock ≠ some g3 ∧ v.ownBlock ≠ some g4 ∧ v.ownBlock ≠ some g5 ∧ v.ownBlock ≠ some p from ⟨fun e => hO.1 (hvO _ e).1, fun e => hO.2.1 (hvO _ e).1, fun e => hO.2.2 (hvO _ e).1, fun e => (hvO _ e).2.2 rfl⟩)
 have HMO := Lib.hid (show True ∧ v.ownBlock ≠ some X.m from ⟨trivial, fun e => (hvO _ e).2.1 rfl⟩)
 have HMN := Lib.hid (show g3 ≠ X.m ∧ g4 ≠ X.m ∧ g5 ≠ X.m ∧ p ≠ X.m from ⟨fun e => hO.1 (e ▸ h.mO), fun e => hO.2.1 (e ▸ h.mO), fun e => hO.2.2 (e ▸ h.mO), fun e => h.mp e.symm⟩)
 have HVO := Lib.hid (fun i (e : v.ownBlock = some i) => (hvO i e).1)
 have s4 : S4D g3 g4 g5 p X.m x A c w := ⟨by have := k3.cell 0; simpa using this, by have := k4.cell 0; simpa using this, by have := k5.cell 0; simpa using this, h.c1⟩
 have mz := h.map
 clear hv h hx hb ub hL hvO k3 k4 k5 hO
 go_enter Tryz.func164, Tryz.ntmps164
 have fz := (Fr.refl [] w).drew
 obtain ⟨w1, hw1⟩ : ∃ w1, w.drew = w1 := ⟨_, rfl⟩
 rw [hw1] at fz
 refine wp_region_held_drew (S := S4D g3 g4 g5 p X.m x A c) (by kernel_rfl) (by rw [hw1]; exact s4.keep fz (by simp) (by simp) (by simp) (by simp)) (fun hHeld => ?_)
 rw [hw1] at hHeld ⊢
 have HSZ := Lib.hid (show w.heap.size ≤ w1.heap.size from fz.size)
 have HFZ := Lib.hid fz
 have HH := Lib.hid (HH0.out.keep_nil fz)
 have UB := Lib.hid (fun i a b => (UB0.out i a b).keep_nil fz)
 have HF := Lib.hid (show Fr O w w1 from fz.mono (by simp))
 have f0 := Fr.refl [] w1
 replace mz := mz.keep_nil fz
 replace R := R.keep_nil fz
 replace rd := rd.keep_nil fz
 clear hw1 fz s4 HH0 UB0
 refine take_w 0 (some 3) (v := ?_) rfl rfl (by kernel_rfl) (by kernel_rfl) (by kernel_rfl) (fun _ _ _ h => h) (by rfl) ?_ hHeld ?_
 rotate_left
 ·(intro w hSw; obtain ⟨s1, s2, s3, s4⟩ := hSw; go_simp; try with_reducible rfl)
 simp only [Act.put, p1, p2, p3]
 refine take_w 1 (some 4) (v := ?_) rfl rfl (by kernel_rfl) (by kernel_rfl) (by kernel_rfl) (fun _ _ _ h => h) (by rfl) ?_ hHeld ?_
 rotate_left
 ·(intro w hSw; obtain ⟨s1, s2, s3, s4⟩ := hSw; go_simp; try with_reducible rfl)
 simp only [Act.put, p1, p2, p3]
 refine take_w 2 (some 5) (v := ?_) rfl rfl (by kernel_rfl) (by kernel_rfl) (by kernel_rfl) (fun _ _ _ h => h) (by rfl) ?_ hHeld ?_
 rotate_left
 ·(intro w hSw; obtain ⟨s1, s2, s3, s4⟩ := hSw; go_simp; try with_reducible rfl)
 simp only [Act.put, p1, p2, p3]
 refine take_w 3 (some 6) (v := ?_) rfl rfl (by kernel_rfl) (by kernel_rfl) (by kernel_rfl) (fun _ _ _ h => h) (by rfl) ?_ hHeld ?_
 rotate_left
 ·(intro w hSw; obtain ⟨s1, s2, s3, s4⟩ := hSw; go_simp; try with_reducible rfl)
 simp only [Act.put, p1, p2, p3]
 refine take_w 4 (some 7) (v := ?_) rfl rfl (by kernel_rfl) (by kernel_rfl) (by kernel_rfl) (fun _ _ _ h => h) (by rfl) ?_ hHeld ?_
 rotate_left
 ·(intro w hSw; obtain ⟨s1, s2, s3, s4⟩ := hSw; go_simp; try with_reducible rfl)
 simp only [Act.put, p1, p2, p3]
 refine take_w 5 (some 8) (v := ?_) rfl rfl (by kernel_rfl) (by kernel_rfl) (by kernel_rfl) (fun _ _ _ h => h) (by rfl) ?_ hHeld ?_
 rotate_left
 ·(intro w hSw; obtain ⟨s1, s2, s3, s4⟩ := hSw; go_simp; try with_reducible rfl)
 simp only [Act.put, p1, p2, p3]
 refine take_w 6 (some 9) (v := ?_) rfl rfl (by kernel_rfl) (by kernel_rfl) (by kernel_rfl) (fun _ _ _ h => h) (by rfl) ?_ hHeld ?_
 rotate_left
 ·(intro w hSw; obtain ⟨s1, s2, s3, s4⟩ := hSw; go_simp; try with_reducible rfl)
 simp only [Act.put, p1, p2, p3]
 refine take_w 7 (some 10) (v := ?_) rfl rfl (by kernel_rfl) (by kernel_rfl) (by kernel_rfl) (fun _ _ _ h => h) (by rfl) ?_ hHeld ?_
 rotate_left
 ·(intro w hSw; obtain ⟨s1, s2, s3, s4⟩ := hSw; go_simp; try with_reducible rfl)
 simp only [Act.put, p1, p2, p3]
 refine take_w 8 (some 11) (v := ?_) rfl rfl (by kernel_rfl) (by kernel_rfl) (by kernel_rfl) (fun _ _ _ h => h) (by rfl) ?_ hHeld ?_
 rotate_left
 ·(intro w hSw; obtain ⟨s1, s2, s3, s4⟩ := hSw; go_simp; try with_reducible rfl)
 simp only [Act.put, p1, p2, p3]
 refine take_w 9 (some 12) (v := ?_) rfl rfl (by kernel_rfl) (by kernel_rfl) (by kernel_rfl) (fun _ _ _ h => h) (by rfl) ?_ hHeld ?_
 rotate_left
 ·(intro w hSw; obtain ⟨s1, s2, s3, s4⟩ := hSw; go_simp; try with_reducible rfl)
 simp only [Act.put, p1, p2, p3]
 refine take_w 11 (some 14) (v := ?_) rfl rfl (by kernel_rfl) (by kernel_rfl) (by kernel_rfl) (fun _ _ _ h => h) (by rfl) ?_ hHeld ?_
 rotate_left
 ·(intro w hSw; obtain ⟨s1, s2, s3, s4⟩ := hSw; go_simp; try with_reducible rfl)
 simp only [Act.put, p1, p2, p3]
 refine take_2z 10 12 rfl rfl (by kernel_rfl) (by rfl) (by rfl) (fun K hK => ?_) (fun K hK => ?_)
 ·
  have hl := (mz.keep_nil f0).look Tryz.underlying116 (zeroBBD _) wf
  rw [HV.out] at hl
  go_simp
  refine hK.out _ _ hHeld (fun hHx => ?_)
  clear hl
  clear hHeld
  have hHeld := hHx
  clear hHx
  clear hK K
  try simp only [Act.put, p1, p2, p3]
  refine tc 12 (fun K hK => ?_)
  go_simp
  refine (clone_any A b 512 c w1 HB5.out rd hA (by omega)).mono ?_
  rintro e w2 ⟨v2, rfl, r2, f2⟩
  obtain ⟨A2, c2, rfl, -, -, -, -, -⟩ := r2.shape
  refine hK.out _ _ (hHeld.keep f2 (by simp) (by simp) (by simp) (by simp)) (fun hHx => ?_)
  clear hHeld
  have hHeld := hHx
  clear hHx
  clear hK K
  try simp only [Act.put, p1, p2, p3]
  refine tc 13 (fun K hK => ?_)
  go_simp
  have f3 : Fr [] w2 (w2.alloc (.cells #[.slice A2 512 c2] 27)) := (Fr.refl _ _).alloc _
  have rd3 := Rd.one w2 (.slice A2 512 c2) 27
  refine hK.out _ _ (hHeld.keep f3 (by simp) (by simp) (by simp) (by simp)) (fun hHx => ?_)
  obtain ⟨w3, hw3⟩ : ∃ w3, w2.alloc (.cells #[.slice A2 512 c2] 27) = w3 := ⟨_, rfl⟩
  obtain ⟨b3, hb3⟩ : ∃ b3, w2.heap.size = b3 := ⟨_, rfl⟩
  rw [hw3] at f3 rd3 hHx ⊢
  rw [hb3] at rd3 ⊢
  clear hw3 hb3
  clear hHeld
  have hHeld := hHx
  clear hHx
  clear hK K
  try simp only [Act.put, p1, p2, p3]
  have f13 := f2.trans_nil f3
  have R3 := R.keep_nil f13
  refine tc 14 (fun K hK => ?_)
  refine wp_app rfl slBBD 0 v L.length us rfl R3 _ 1 1 [.slice A2 512 c2] rfl rfl rd3 (by intro u hu; rw [List.mem_singleton.1 hu]; rfl) (fun h => by cases h) (by omega) (Nat.zero_le _) (fun v4 w4 q1 q2 q3 q4 => hK.out _ _ (hHeld.keep q2 (fun hm => HNO.out.1 (mem_own.1 hm)) (fun hm => HNO.out.2.1 (mem_own.1 hm)) (fun hm => HNO.out.2.2.1 (mem_own.1 hm)) (fun hm => HNO.out.2.2.2 (mem_own.1 hm))) (fun hHx => ?_))
  clear hHeld
  have hHeld := hHx
  clear hHx
  clear hK K
  try simp only [Act.put, p1, p2, p3]
  have hmO := HMO.out
  have m4 := (mz.keep_nil f13).keep q2 (fun hm => hmO.2 (mem_own.1 hm))
  obtain ⟨w5, hrun, m5, f5, z5⟩ := m4.put Tryz.underlying116 (by unfold maxLen; omega) wf v4
  refine tc 15 (fun K hK => ?_)
  go_simp
  refine hK.out _ _ (hHeld.keep f5 (fun hm => HMN.out.1 (List.mem_singleton.1 hm)) (fun hm => HMN.out.2.1 (List.mem_singleton.1 hm)) (fun hm => HMN.out.2.2.1 (List.mem_singleton.1 hm)) (fun hm => HMN.out.2.2.2 (List.mem_singleton.1 hm))) (fun hHx => ?_)
  clear hHeld
  have hHeld := hHx
  clear hHx
  clear hK K
  try simp only [Act.put, p1, p2, p3]
  clear hrun
  refine wpAnyH_done (by kernel_rfl) ?_ _
  go_wp2_with fail
  go_returns
  refine ⟨rfl, ?_⟩
  obtain ⟨g4', c4', rfl⟩ := q1.hdD (by omega)
  have fO : Fr (Value.ownBlock v).toList w1 w4 := (f13.mono (by simp)).trans q2 (fun i hi => .inl hi)
  have hu3 : UR w4 (.slice (some ⟨g4', 0, none⟩) (L.length + 1) c4') (D.uns x ++ [b]) := by
   rw [HLX.out]
   refine ⟨us ++ [.slice A2 512 c2], by rw [List.length_append]; exact q1, fun i h1 h2 => ?_⟩
   have n8 : NoTy w3 v.ownBlock.toList 5 := R3.noTy (by decide)
   have hul : us.length = L.length := by have := R.1; omega
   by_cases hi : i < us.length
   ·rw [List.getElem_append_left hi]
    have e2 : (L ++ [b])[i] = L[i]'(by omega) := List.getElem_append_left (by omega)
    rw [e2]
    exact ((UB.out i hi (by omega)).keep_nil f13).keepT q2 n8
   ·have e1 : i = us.length := by rw [List.length_append, List.length_singleton] at h1; omega
    subst e1
    rw [List.getElem_append_right (Nat.le_refl _)]
    have e2 : (L ++ [b])[us.length] = b := by rw [List.getElem_append_right (by omega)]; simp [hul]
    rw [e2]
    simp only [Nat.sub_self, List.getElem_cons_zero]
    exact ⟨HB5.out, ((r2.mono (Nat.zero_le _)).keep_nil f3).keepT q2 n8⟩
  obtain ⟨k1, k2⟩ := HH.out.put (g' := g4') HX.out HV.out.symm fO hu3 rfl (by
   rcases q3 g4' rfl with h | h
   ·exact .inl h
   ·exact .inr (by have := f13.size; omega)) m5 f5
  have kF5 : ∀ y u, y ≠ x → X.f y = some u → ∀ k, u.ownBlock = some k → k ∉ (Value.ownBlock v).toList ∧ k ∉ [X.m] := fun y u hne hy k hk => by
   refine ⟨fun hm => ?_, fun hm => ?_⟩
   ·have hv2 := mem_own.1 hm
    cases hfx : X.f x with
    | none =>
     have e := HV.out
     rw [hfx] at e
     have e : Value.slice none 0 0 = v := e
     rw [← e] at hv2
     cases hv2
    | some t =>
     have e := HV.out
     rw [hfx] at e
     have e : t = v := e
     subst e
     exact HH.out.apart y x u t hne hy hfx (hk.trans hv2.symm)
   ·obtain ⟨⟨us', r', _⟩, _⟩ := HH.out.un y u hy
    obtain ⟨D4, ⟨es, clock, hb4, _⟩, _⟩ := HH.out.map
    rcases r'.2 with ⟨e2, _⟩ | ⟨g2, c2, cur2, fz2, e2, _, hg2, _⟩
    ·rw [e2] at hk; cases hk
    ·have : g2 = X.m := by
      have e3 : g2 = k := by rw [e2] at hk; simpa [Value.ownBlock] using hk
      rw [e3]; exact List.mem_singleton.1 hm
     subst this
     rw [hb4] at hg2
     cases hg2
  refine ⟨_, _, k1, fun i hi => by
   rcases List.mem_cons.1 hi with rfl | hi
   ·rcases q3 i rfl with h | h
    ·exact .inl (HVO.out i h)
    ·exact .inr (by have := f13.size; have := HSZ.out; omega)
   ·exact .inl (List.mem_filter.1 hi).1, HF.out.trans k2 (fun i hi => .inl hi), fun g hg hav => ⟨hav.1, fun y u hy => ?_⟩⟩
  have hav1 : AvX w1 X g := hav.keep_nil HFZ.out
  by_cases e : y = x
  ·subst e
   have hu : u = .slice (some ⟨g4', 0, none⟩) (L.length + 1) c4' := by
    have : fput X.f y (.slice (some ⟨g4', 0, none⟩) (L.length + 1) c4') y = some u := hy
    simpa [fput] using this.symm
   subst hu
   refine ⟨_, _, q1.keep f5 (fun k hk hm => ?_), fun u hu => ?_⟩
   ·have hk4 : k = g4' := own_mem.1 (mem_own.2 hk)
    subst hk4
    have hm := List.mem_singleton.1 hm
    rcases q3 k rfl with h | h
    ·exact HMO.out.2 (by rw [h, hm])
    ·have := HH.out.map.lt
     have := f13.size
     omega
   ·rcases List.mem_append.1 hu with hu | hu
    ·cases hfx : X.f y with
     | none =>
      have e := HV.out
      rw [hfx] at e
      have e : Value.slice none 0 0 = v := e
      subst e
      have := R.1
      obtain ⟨-, e0⟩ := R.uniq (Row.nil w1 0 27 1)
      rw [e0] at hu
      cases hu
     | some t =>
      have e := HV.out
      rw [hfx] at e
      have e : t = v := e
      subst e
      obtain ⟨n', us', r', hu'⟩ := hav1.2 y t hfx
      obtain ⟨-, rfl⟩ := R.uniq r'
      exact hu' u hu
    ·rw [List.mem_singleton.1 hu]
     intro e
     have := (r2.lt g e).1
     have := HSZ.out
     omega
  ·have hu : X.f y = some u := by
    have : fput X.f x (.slice (some ⟨g4', 0, none⟩) (L.length + 1) c4') y = some u := hy
    simpa [fput, e] using this
   obtain ⟨n', us', r', hu'⟩ := hav1.2 y u hu
   exact ⟨n', us', (r'.keep fO (fun k hk => (kF5 y u e hu k hk).1)).keep f5 (fun k hk => (kF5 y u e hu k hk).2), hu'⟩
 ·
  go_simp
  refine (clone_any A b 512 c w1 HB5.out rd hA (by omega)).mono ?_
  rintro e w2 ⟨v2, rfl, r2, f2⟩
  obtain ⟨A2, c2, rfl, -, -, -, -, -⟩ := r2.shape
  refine hK.out _ _ (hHeld.keep f2 (by simp) (by simp) (by simp) (by simp)) (fun hHx => ?_)
  clear hHeld
  have hHeld := hHx
  clear hHx
  clear hK K
  try simp only [Act.put, p1, p2, p3]
  refine take_2z 10 13 rfl rfl (by kernel_rfl) (by rfl) (by rfl) (fun K hK => ?_) (fun K hK => ?_)
  ·
   have hl := (mz.keep_nil f2).look Tryz.underlying116 (zeroBBD _) wf
   rw [HV.out] at hl
   go_simp
   refine hK.out _ _ hHeld (fun hHx => ?_)
   clear hl
   clear hHeld
   have hHeld := hHx
   clear hHx
   clear hK K
   try simp only [Act.put, p1, p2, p3]
   refine tc 13 (fun K hK => ?_)
   go_simp
   have f3 : Fr [] w2 (w2.alloc (.cells #[.slice A2 512 c2] 27)) := (Fr.refl _ _).alloc _
   have rd3 := Rd.one w2 (.slice A2 512 c2) 27
   refine hK.out _ _ (hHeld.keep f3 (by simp) (by simp) (by simp) (by simp)) (fun hHx => ?_)
   obtain ⟨w3, hw3⟩ : ∃ w3, w2.alloc (.cells #[.slice A2 512 c2] 27) = w3 := ⟨_, rfl⟩
   obtain ⟨b3, hb3⟩ : ∃ b3, w2.heap.size = b3 := ⟨_, rfl⟩
   rw [hw3] at f3 rd3 hHx ⊢
   rw [hb3] at rd3 ⊢
   clear hw3 hb3
   clear hHeld
   have hHeld := hHx
   clear hHx
   clear hK K
   try simp only [Act.put, p1, p2, p3]
   have f13 := f2.trans_nil f3
   have R3 := R.keep_nil f13
   refine tc 14 (fun K hK => ?_)
   refine wp_app rfl slBBD 0 v L.length us rfl R3 _ 1 1 [.slice A2 512 c2] rfl rfl rd3 (by intro u hu; rw [List.mem_singleton.1 hu]; rfl) (fun h => by cases h) (by omega) (Nat.zero_le _) (fun v4 w4 q1 q2 q3 q4 => hK.out _ _ (hHeld.keep q2 (fun hm => HNO.out.1 (mem_own.1 hm)) (fun hm => HNO.out.2.1 (mem_own.1 hm)) (fun hm => HNO.out.2.2.1 (mem_own.1 hm)) (fun hm => HNO.out.2.2.2 (mem_own.1 hm))) (fun hHx => ?_))
   clear hHeld
   have hHeld := hHx
   clear hHx
   clear hK K
   try simp only [Act.put, p1, p2, p3]
   have hmO := HMO.out
   have m4 := (mz.keep_nil f13).keep q2 (fun hm => hmO.2 (mem_own.1 hm))
   obtain ⟨w5, hrun, m5, f5, z5⟩ := m4.put Tryz.underlying116 (by unfold maxLen; omega) wf v4
   refine tc 15 (fun K hK => ?_)
   go_simp
   refine hK.out _ _ (hHeld.keep f5 (fun hm => HMN.out.1 (List.mem_singleton.1 hm)) (fun hm => HMN.out.2.1 (List.mem_singleton.1 hm)) (fun hm => HMN.out.2.2.1 (List.mem_singleton.1 hm)) (fun hm => HMN.out.2.2.2 (List.mem_singleton.1 hm))) (fun hHx => ?_)
   clear hHeld
   have hHeld := hHx
   clear hHx
   clear hK K
   try simp only [Act.put, p1, p2, p3]
   clear hrun
   refine wpAnyH_done (by kernel_rfl) ?_ _
   go_wp2_with fail
   go_returns
   refine ⟨rfl, ?_⟩
   obtain ⟨g4', c4', rfl⟩ := q1.hdD (by omega)
   have fO : Fr (Value.ownBlock v).toList w1 w4 := (f13.mono (by simp)).trans q2 (fun i hi => .inl hi)
   have hu3 : UR w4 (.slice (some ⟨g4', 0, none⟩) (L.length + 1) c4') (D.uns x ++ [b]) := by
    rw [HLX.out]
    refine ⟨us ++ [.slice A2 512 c2], by rw [List.length_append]; exact q1, fun i h1 h2 => ?_⟩
    have n8 : NoTy w3 v.ownBlock.toList 5 := R3.noTy (by decide)
    have hul : us.length = L.length := by have := R.1; omega
    by_cases hi : i < us.length
    ·rw [List.getElem_append_left hi]
     have e2 : (L ++ [b])[i] = L[i]'(by omega) := List.getElem_append_left (by omega)
     rw [e2]
     exact ((UB.out i hi (by omega)).keep_nil f13).keepT q2 n8
    ·have e1 : i = us.length := by rw [List.length_append, List.length_singleton] at h1; omega
     subst e1
     rw [List.getElem_append_right (Nat.le_refl _)]
     have e2 : (L ++ [b])[us.length] = b := by rw [List.getElem_append_right (by omega)]; simp [hul]
     rw [e2]
     simp only [Nat.sub_self, List.getElem_cons_zero]
     exact ⟨HB5.out, ((r2.mono (Nat.zero_le _)).keep_nil f3).keepT q2 n8⟩
   obtain ⟨k1, k2⟩ := HH.out.put (g' := g4') HX.out HV.out.symm fO hu3 rfl (by
    rcases q3 g4' rfl with h | h
    ·exact .inl h
    ·exact .inr (by have := f13.size; omega)) m5 f5
   have kF5 : ∀ y u, y ≠ x → X.f y = some u → ∀ k, u.ownBlock = some k → k ∉ (Value.ownBlock v).toList ∧ k ∉ [X.m] := fun y u hne hy k hk => by
    refine ⟨fun hm => ?_, fun hm => ?_⟩
    ·have hv2 := mem_own.1 hm
     cases hfx : X.f x with
     | none =>
      have e := HV.out
      rw [hfx] at e
      have e : Value.slice none 0 0 = v := e
      rw [← e] at hv2
      cases hv2
     | some t =>
      have e := HV.out
      rw [hfx] at e
      have e : t = v := e
      subst e
      exact HH.out.apart y x u t hne hy hfx (hk.trans hv2.symm)
    ·obtain ⟨⟨us', r', _⟩, _⟩ := HH.out.un y u hy
     obtain ⟨D4, ⟨es, clock, hb4, _⟩, _⟩ := HH.out.map
     rcases r'.2 with ⟨e2, _⟩ | ⟨g2, c2, cur2, fz2, e2, _, hg2, _⟩
     ·rw [e2] at hk; cases hk
     ·have : g2 = X.m := by
       have e3 : g2 = k := by rw [e2] at hk; simpa [Value.ownBlock] using hk
       rw [e3]; exact List.mem_singleton.1 hm
      subst this
      rw [hb4] at hg2
      cases hg2
   refine ⟨_, _, k1, fun i hi => by
    rcases List.mem_cons.1 hi with rfl | hi
    ·rcases q3 i rfl with h | h
     ·exact .inl (HVO.out i h)
     ·exact .inr (by have := f13.size; have := HSZ.out; omega)
    ·exact .inl (List.mem_filter.1 hi).1, HF.out.trans k2 (fun i hi => .inl hi), fun g hg hav => ⟨hav.1, fun y u hy => ?_⟩⟩
   have hav1 : AvX w1 X g := hav.keep_nil HFZ.out
   by_cases e : y = x
   ·subst e
    have hu : u = .slice (some ⟨g4', 0, none⟩) (L.length + 1) c4' := by
     have : fput X.f y (.slice (some ⟨g4', 0, none⟩) (L.length + 1) c4') y = some u := hy
     simpa [fput] using this.symm
    subst hu
    refine ⟨_, _, q1.keep f5 (fun k hk hm => ?_), fun u hu => ?_⟩
    ·have hk4 : k = g4' := own_mem.1 (mem_own.2 hk)
     subst hk4
     have hm := List.mem_singleton.1 hm
     rcases q3 k rfl with h | h
     ·exact HMO.out.2 (by rw [h, hm])
     ·have := HH.out.map.lt
      have := f13.size
      omega
    ·rcases List.mem_append.1 hu with hu | hu
     ·cases hfx : X.f y with
      | none =>
       have e := HV.out
       rw [hfx] at e
       have e : Value.slice none 0 0 = v := e
       subst e
       have := R.1
       obtain ⟨-, e0⟩ := R.uniq (Row.nil w1 0 27 1)
       rw [e0] at hu
       cases hu
      | some t =>
       have e := HV.out
       rw [hfx] at e
       have e : t = v := e
       subst e
       obtain ⟨n', us', r', hu'⟩ := hav1.2 y t hfx
       obtain ⟨-, rfl⟩ := R.uniq r'
       exact hu' u hu
     ·rw [List.mem_singleton.1 hu]
      intro e
      have := (r2.lt g e).1
      have := HSZ.out
      omega
   ·have hu : X.f y = some u := by
     have : fput X.f x (.slice (some ⟨g4', 0, none⟩) (L.length + 1) c4') y = some u := hy
     simpa [fput, e] using this
    obtain ⟨n', us', r', hu'⟩ := hav1.2 y u hu
    exact ⟨n', us', (r'.keep fO (fun k hk => (kF5 y u e hu k hk).1)).keep f5 (fun k hk => (kF5 y u e hu k hk).2), hu'⟩
  ·
   go_simp
   have f3 : Fr [] w2 (w2.alloc (.cells #[.slice A2 512 c2] 27)) := (Fr.refl _ _).alloc _
   have rd3 := Rd.one w2 (.slice A2 512 c2) 27
   refine hK.out _ _ (hHeld.keep f3 (by simp) (by simp) (by simp) (by simp)) (fun hHx => ?_)
   obtain ⟨w3, hw3⟩ : ∃ w3, w2.alloc (.cells #[.slice A2 512 c2] 27) = w3 := ⟨_, rfl⟩
   obtain ⟨b3, hb3⟩ : ∃ b3, w2.heap.size = b3 := ⟨_, rfl⟩
   rw [hw3] at f3 rd3 hHx ⊢
   rw [hb3] at rd3 ⊢
   clear hw3 hb3
   clear hHeld
   have hHeld := hHx
   clear hHx
   clear hK K
   try simp only [Act.put, p1, p2, p3]
   have hl := (mz.keep_nil (f2.trans_nil f3)).look Tryz.underlying116 (zeroBBD _) wf
   rw [HV.out] at hl
   refine tc 10 (fun K hK => ?_)
   go_simp
   refine hK.out _ _ hHeld (fun hHx => ?_)
   clear hl
   clear hHeld
   have hHeld := hHx
   clear hHx
   clear hK K
   try simp only [Act.put, p1, p2, p3]
   have f13 := f2.trans_nil f3
   have R3 := R.keep_nil f13
   refine tc 14 (fun K hK => ?_)
   refine wp_app rfl slBBD 0 v L.length us rfl R3 _ 1 1 [.slice A2 512 c2] rfl rfl rd3 (by intro u hu; rw [List.mem_singleton.1 hu]; rfl) (fun h => by cases h) (by omega) (Nat.zero_le _) (fun v4 w4 q1 q2 q3 q4 => hK.out _ _ (hHeld.keep q2 (fun hm => HNO.out.1 (mem_own.1 hm)) (fun hm => HNO.out.2.1 (mem_own.1 hm)) (fun hm => HNO.out.2.2.1 (mem_own.1 hm)) (fun hm => HNO.out.2.2.2 (mem_own.1 hm))) (fun hHx => ?_))
   clear hHeld
   have hHeld := hHx
   clear hHx
   clear hK K
   try simp only [Act.put, p1, p2, p3]
   have hmO := HMO.out
   have m4 := (mz.keep_nil f13).keep q2 (fun hm => hmO.2 (mem_own.1 hm))
   obtain ⟨w5, hrun, m5, f5, z5⟩ := m4.put Tryz.underlying116 (by unfold maxLen; omega) wf v4
   refine tc 15 (fun K hK => ?_)
   go_simp
   refine hK.out _ _ (hHeld.keep f5 (fun hm => HMN.out.1 (List.mem_singleton.1 hm)) (fun hm => HMN.out.2.1 (List.mem_singleton.1 hm)) (fun hm => HMN.out.2.2.1 (List.mem_singleton.1 hm)) (fun hm => HMN.out.2.2.2 (List.mem_singleton.1 hm))) (fun hHx => ?_)
   clear hHeld
   have hHeld := hHx
   clear hHx
   clear hK K
   try simp only [Act.put, p1, p2, p3]
   clear hrun
   refine wpAnyH_done (by kernel_rfl) ?_ _
   go_wp2_with fail
   go_returns
   refine ⟨rfl, ?_⟩
   obtain ⟨g4', c4', rfl⟩ := q1.hdD (by omega)
   have fO : Fr (Value.ownBlock v).toList w1 w4 := (f13.mono (by simp)).trans q2 (fun i hi => .inl hi)
   have hu3 : UR w4 (.slice (some ⟨g4', 0, none⟩) (L.length + 1) c4') (D.uns x ++ [b]) := by
    rw [HLX.out]
    refine ⟨us ++ [.slice A2 512 c2], by rw [List.length_append]; exact q1, fun i h1 h2 => ?_⟩
    have n8 : NoTy w3 v.ownBlock.toList 5 := R3.noTy (by decide)
    have hul : us.length = L.length := by have := R.1; omega
    by_cases hi : i < us.length
    ·rw [List.getElem_append_left hi]
     have e2 : (L ++ [b])[i] = L[i]'(by omega) := List.getElem_append_left (by omega)
     rw [e2]
     exact ((UB.out i hi (by omega)).keep_nil f13).keepT q2 n8
    ·have e1 : i = us.length := by rw [List.length_append, List.length_singleton] at h1; omega
     subst e1
     rw [List.getElem_append_right (Nat.le_refl _)]
     have e2 : (L ++ [b])[us.length] = b := by rw [List.getElem_append_right (by omega)]; simp [hul]
     rw [e2]
     simp only [Nat.sub_self, List.getElem_cons_zero]
     exact ⟨HB5.out, ((r2.mono (Nat.zero_le _)).keep_nil f3).keepT q2 n8⟩
   obtain ⟨k1, k2⟩ := HH.out.put (g' := g4') HX.out HV.out.symm fO hu3 rfl (by
    rcases q3 g4' rfl with h | h
    ·exact .inl h
    ·exact .inr (by have := f13.size; omega)) m5 f5
   have kF5 : ∀ y u, y ≠ x → X.f y = some u → ∀ k, u.ownBlock = some k → k ∉ (Value.ownBlock v).toList ∧ k ∉ [X.m] := fun y u hne hy k hk => by
    refine ⟨fun hm => ?_, fun hm => ?_⟩
    ·have hv2 := mem_own.1 hm
     cases hfx : X.f x with
     | none =>
      have e := HV.out
      rw [hfx] at e
      have e : Value.slice none 0 0 = v := e
      rw [← e] at hv2
      cases hv2
     | some t =>
      have e := HV.out
      rw [hfx] at e
      have e : t = v := e
      subst e
      exact HH.out.apart y x u t hne hy hfx (hk.trans hv2.symm)
    ·obtain ⟨⟨us', r', _⟩, _⟩ := HH.out.un y u hy
     obtain ⟨D4, ⟨es, clock, hb4, _⟩, _⟩ := HH.out.map
     rcases r'.2 with ⟨e2, _⟩ | ⟨g2, c2, cur2, fz2, e2, _, hg2, _⟩
     ·rw [e2] at hk; cases hk
     ·have : g2 = X.m := by
       have e3 : g2 = k := by rw [e2] at hk; simpa [Value.ownBlock] using hk
       rw [e3]; exact List.mem_singleton.1 hm
      subst this
      rw [hb4] at hg2
      cases hg2
   refine ⟨_, _, k1, fun i hi => by
    rcases List.mem_cons.1 hi with rfl | hi
    ·rcases q3 i rfl with h | h
     ·exact .inl (HVO.out i h)
     ·exact .inr (by have := f13.size; have := HSZ.out; omega)
    ·exact .inl (List.mem_filter.1 hi).1, HF.out.trans k2 (fun i hi => .inl hi), fun g hg hav => ⟨hav.1, fun y u hy => ?_⟩⟩
   have hav1 : AvX w1 X g := hav.keep_nil HFZ.out
   by_cases e : y = x
   ·subst e
    have hu : u = .slice (some ⟨g4', 0, none⟩) (L.length + 1) c4' := by
     have : fput X.f y (.slice (some ⟨g4', 0, none⟩) (L.length + 1) c4') y = some u := hy
     simpa [fput] using this.symm
    subst hu
    refine ⟨_, _, q1.keep f5 (fun k hk hm => ?_), fun u hu => ?_⟩
    ·have hk4 : k = g4' := own_mem.1 (mem_own.2 hk)
     subst hk4
     have hm := List.mem_singleton.1 hm
     rcases q3 k rfl with h | h
     ·exact HMO.out.2 (by rw [h, hm])
     ·have := HH.out.map.lt
      have := f13.size
      omega
    ·rcases List.mem_append.1 hu with hu | hu
     ·cases hfx : X.f y with
      | none =>
       have e := HV.out
       rw [hfx] at e
       have e : Value.slice none 0 0 = v := e
       subst e
       have := R.1
       obtain ⟨-, e0⟩ := R.uniq (Row.nil w1 0 27 1)
       rw [e0] at hu
       cases hu
      | some t =>
       have e := HV.out
       rw [hfx] at e
       have e : t = v := e
       subst e
       obtain ⟨n', us', r', hu'⟩ := hav1.2 y t hfx
       obtain ⟨-, rfl⟩ := R.uniq r'
       exact hu' u hu
     ·rw [List.mem_singleton.1 hu]
      intro e
      have := (r2.lt g e).1
      have := HSZ.out
      omega
   ·have hu : X.f y = some u := by
     have : fput X.f x (.slice (some ⟨g4', 0, none⟩) (L.length + 1) c4') y = some u := hy
     simpa [fput, e] using this
    obtain ⟨n', us', r', hu'⟩ := hav1.2 y u hu
    exact ⟨n', us', (r'.keep fO (fun k hk => (kF5 y u e hu k hk).1)).keep f5 (fun k hk => (kF5 y u e hu k hk).2), hu'⟩
theorem dkWrite1_any {g3 g4 g5 : Nat} {x : Int} {A : Option Addr} {c : Nat} {b : List UInt8} (h : Dsk w p O D) (k3 : Blk w g3 32 #[.pointer (some ⟨p, 0, none⟩)]) (k4 : Blk w g4 3 #[.int .i64 x]) (k5 : Blk w g5 27 #[.slice A 512 c])
  (hO : g3 ∉ O ∧ g4 ∉ O ∧ g5 ∉ O) (hx : D.is x = true) (hb : b.length = 512) (rd : Rd w A (bvs b)) (hA : A = none → 512 = 0) (hl : (D.uns x).length ≤ 4398046511104) :
  Calls Tryz.prog 164 #[.pointer (some ⟨g3, 0, none⟩), .pointer (some ⟨g4, 0, none⟩), .pointer (some ⟨g5, 0, none⟩)] w fun e w' => e = .returned (.tuple #[]) ∧ ∃ O', Dsk w' p O' (D.wr x b) ∧ (∀ i ∈ O', i ∈ O ∨ w.heap.size ≤ i) ∧ Fr O w w' := by
 obtain ⟨X, h⟩ := h
 exact (dkWrite1_av h k3 k4 k5 hO hx hb rd hA hl).mono fun e w' ⟨he, O', X', h1, h2, h3, _⟩ => ⟨he, O', ⟨X', h1⟩, h2, h3⟩
end
end
section
open Go.RowKit
set_option maxRecDepth 100000
def DkM.dec (D : DkM) : DkM := { D with calls := if 0 < D.calls then D.calls - 1 else D.calls }
def AftD (w : World) (p : Nat) (O : List Nat) (D' : DkM) (w' : World) : Prop := ∃ O', Dsk w' p O' D' ∧ (∀ i ∈ O', i ∈ O ∨ w.heap.size ≤ i) ∧ Fr O w w'
theorem AftD.same {w : World} {p : Nat} {O : List Nat} {D : DkM} (h : Dsk w p O D) : AftD w p O D w := ⟨O, h, fun i hi => .inl hi, Fr.refl _ _⟩
theorem AftD.pre {w0 w w' : World} {p : Nat} {O : List Nat} {D : DkM} (f : Fr [] w0 w) (h : AftD w p O D w') : AftD w0 p O D w' := by
 obtain ⟨O', h1, h2, h3⟩ := h
 exact ⟨O', h1, fun i hi => (h2 i hi).imp id (fun h => Nat.le_trans f.size h), (f.mono (by simp)).trans h3 (fun i hi => .inl hi)⟩
theorem AftD.trans {w w1 w2 : World} {p : Nat} {O O1 : List Nat} {D : DkM} (f : Fr O w w1) (h1 : ∀ i ∈ O1, i ∈ O ∨ w.heap.size ≤ i) (h : AftD w1 p O1 D w2) : AftD w p O D w2 := by
 obtain ⟨O', k1, k2, k3⟩ := h
 refine ⟨O', k1, fun i hi => ?_, f.trans k3 h1⟩
 rcases k2 i hi with h2 | h2
 ·exact h1 i h2
 ·exact .inr (Nat.le_trans f.size h2)
theorem AftD.eq {w w' : World} {p : Nat} {O : List Nat} {D D' : DkM} (h : AftD w p O D w') (e : D = D') : AftD w p O D' w' := e ▸ h
theorem AftD.post {w w' w'' : World} {p : Nat} {O : List Nat} {D : DkM} (h : AftD w p O D w') (f : Fr [] w' w'') : AftD w p O D w'' := by
 obtain ⟨O', k1, k2, k3⟩ := h
 exact ⟨O', k1.keep_nil f, k2, k3.trans_nil f⟩
theorem dkWith_dkWrite1 {w : World} {p : Nat} {O : List Nat} {D D' : DkM} {g3 g4 g5 : Nat} (h : Dsk w p O D) (ho : D.off = false) (hc : Calls Tryz.prog 164 #[.pointer (some ⟨g3, 0, none⟩), .pointer (some ⟨g4, 0, none⟩), .pointer (some ⟨g5, 0, none⟩)] w fun e w' => e = .returned (.tuple #[]) ∧ AftD w p O D' w') :
  Calls Tryz.prog 163 #[.pointer (some ⟨p, 0, none⟩), .func (.func 164) #[] #[.pointer (some ⟨g3, 0, none⟩), .pointer (some ⟨g4, 0, none⟩), .pointer (some ⟨g5, 0, none⟩)]] w fun e w' => e = .returned (.int .i64 0) ∧ AftD w p O D'.dec w' := by
 have hf := dkOff_any h
 rw [ho] at hf
 clear ho
 go_enter Tryz.func163, Tryz.ntmps163
 go_wp2_with fail
 refine hf.mono ?_
 rintro e w1 ⟨rfl, rfl⟩
 go_wp2_with fail
 refine hc.mono ?_
 rintro e w1 ⟨rfl, O', ⟨X, h1⟩, hO, f1⟩
 have c2 := h1.c2
 have z2 := h1.blk.frozen 2
 by_cases hpos : 0 < D'.calls
 ·have hd := h1.setp (w' := w1.setCell ⟨p, 2, none⟩ (.int .i64 (D'.calls - 1))) ((Fr.refl [p] w1).setCell (.inl (by simp)) _) (D'.calls - 1) (by have := h1.calls; omega) (h1.blk.set_ 2 _)
  have hf2 : Fr [p] w1 (w1.setCell ⟨p, 2, none⟩ (.int .i64 (D'.calls - 1))) := (Fr.refl [p] w1).setCell (.inl (by simp)) _
  have fin : AftD w p O D'.dec (w1.setCell ⟨p, 2, none⟩ (.int .i64 (D'.calls - 1))) := by
   refine ⟨O', ⟨X, ?_⟩, hO, f1.trans hf2 (fun i hi => by rw [List.mem_singleton.1 hi]; exact hO p h1.pO)⟩
   rw [DkM.dec, if_pos hpos]
   exact hd
  have hr : IntKind.i64.wrap (D'.calls - 1) = D'.calls - 1 := IntWalk.i64_in _ (by have := h1.calls; omega)
  have hcb := h1.calls
  have FIN := Lib.hid fin
  clear hd hf2 fin hc h
  go_wp2_with fail
  go_ret
  exact ⟨rfl, FIN.out⟩
 ·have fin : AftD w p O D'.dec w1 := by
   refine ⟨O', ⟨X, ?_⟩, hO, f1⟩
   rw [DkM.dec, if_neg hpos]
   exact h1
  have FIN := Lib.hid fin
  clear fin hc h
  go_wp2_with fail
  go_ret
  exact ⟨rfl, FIN.out⟩
theorem dkWithOff_dkWrite1 {w : World} {p : Nat} {O : List Nat} {D : DkM} {g3 g4 g5 : Nat} (h : Dsk w p O D) (ho : D.off = true) :
  Calls Tryz.prog 163 #[.pointer (some ⟨p, 0, none⟩), .func (.func 164) #[] #[.pointer (some ⟨g3, 0, none⟩), .pointer (some ⟨g4, 0, none⟩), .pointer (some ⟨g5, 0, none⟩)]] w fun e w' => e = .returned (.int .i64 102) ∧ w = w' := by
 have hf := dkOff_any h
 rw [ho] at hf
 clear ho
 go_enter Tryz.func163, Tryz.ntmps163
 go_wp2_with fail
 refine hf.mono ?_
 rintro e w1 ⟨rfl, rfl⟩
 go_wp2_with fail
 go_ret
 exact ⟨rfl, rfl⟩
theorem dkWith_dkFlush1 {w : World} {p : Nat} {O : List Nat} {D D' : DkM} {g3 : Nat} (h : Dsk w p O D) (ho : D.off = false) (hc : Calls Tryz.prog 165 #[.pointer (some ⟨g3, 0, none⟩)] w fun e w' => e = .returned (.tuple #[]) ∧ AftD w p O D' w') :
  Calls Tryz.prog 163 #[.pointer (some ⟨p, 0, none⟩), .func (.func 165) #[] #[.pointer (some ⟨g3, 0, none⟩)]] w fun e w' => e = .returned (.int .i64 0) ∧ AftD w p O D'.dec w' := by
 have hf := dkOff_any h
 rw [ho] at hf
 clear ho
 go_enter Tryz.func163, Tryz.ntmps163
 go_wp2_with fail
 refine hf.mono ?_
 rintro e w1 ⟨rfl, rfl⟩
 go_wp2_with fail
 refine hc.mono ?_
 rintro e w1 ⟨rfl, O', ⟨X, h1⟩, hO, f1⟩
 have c2 := h1.c2
 have z2 := h1.blk.frozen 2
 by_cases hpos : 0 < D'.calls
 ·have hd := h1.setp (w' := w1.setCell ⟨p, 2, none⟩ (.int .i64 (D'.calls - 1))) ((Fr.refl [p] w1).setCell (.inl (by simp)) _) (D'.calls - 1) (by have := h1.calls; omega) (h1.blk.set_ 2 _)
  have hf2 : Fr [p] w1 (w1.setCell ⟨p, 2, none⟩ (.int .i64 (D'.calls - 1))) := (Fr.refl [p] w1).setCell (.inl (by simp)) _
  have fin : AftD w p O D'.dec (w1.setCell ⟨p, 2, none⟩ (.int .i64 (D'.calls - 1))) := by
   refine ⟨O', ⟨X, ?_⟩, hO, f1.trans hf2 (fun i hi => by rw [List.mem_singleton.1 hi]; exact hO p h1.pO)⟩
   rw [DkM.dec, if_pos hpos]
   exact hd
  have hr : IntKind.i64.wrap (D'.calls - 1) = D'.calls - 1 := IntWalk.i64_in _ (by have := h1.calls; omega)
  have hcb := h1.calls
  have FIN := Lib.hid fin
  clear hd hf2 fin hc h
  go_wp2_with fail
  go_ret
  exact ⟨rfl, FIN.out⟩
 ·have fin : AftD w p O D'.dec w1 := by
   refine ⟨O', ⟨X, ?_⟩, hO, f1⟩
   rw [DkM.dec, if_neg hpos]
   exact h1
  have FIN := Lib.hid fin
  clear fin hc h
  go_wp2_with fail
  go_ret
  exact ⟨rfl, FIN.out⟩
theorem dkWithOff_dkFlush1 {w : World} {p : Nat} {O : List Nat} {D : DkM} {g3 : Nat} (h : Dsk w p O D) (ho : D.off = true) :
  Calls Tryz.prog 163 #[.pointer (some ⟨p, 0, none⟩), .func (.func 165) #[] #[.pointer (some ⟨g3, 0, none⟩)]] w fun e w' => e = .returned (.int .i64 102) ∧ w = w' := by
 have hf := dkOff_any h
 rw [ho] at hf
 clear ho
 go_enter Tryz.func163, Tryz.ntmps163
 go_wp2_with fail
 refine hf.mono ?_
 rintro e w1 ⟨rfl, rfl⟩
 go_wp2_with fail
 go_ret
 exact ⟨rfl, rfl⟩
theorem AftA.same {w : World} {p : Nat} {O : List Nat} {D : DkM} {X : DkX} (h : DskX w p O D X) : AftA w p O X D w := ⟨O, X, h, fun i hi => .inl hi, Fr.refl _ _, fun _ _ h => h⟩
theorem AftA.pre {w0 w w' : World} {p : Nat} {O : List Nat} {D : DkM} {X : DkX} (f : Fr [] w0 w) (h : AftA w p O X D w') : AftA w0 p O X D w' := by
 obtain ⟨O', X', h1, h2, h3, h4⟩ := h
 exact ⟨O', X', h1, fun i hi => (h2 i hi).imp id (fun h => Nat.le_trans f.size h), (f.mono (by simp)).trans h3 (fun i hi => .inl hi), fun g hg ha => h4 g (Nat.lt_of_lt_of_le hg f.size) (ha.keep_nil f)⟩
theorem AftA.eq {w w' : World} {p : Nat} {O : List Nat} {D D' : DkM} {X : DkX} (h : AftA w p O X D w') (e : D = D') : AftA w p O X D' w' := e ▸ h
def DkM.writeE (D : DkM) (x : Int) (n : Nat) : Int := if D.mayE x n ≠ 0 then D.mayE x n else if D.off = true then 102 else 0
def DkM.write (D : DkM) (x : Int) (b : List UInt8) : DkM := if D.mayE x b.length ≠ 0 then D else if D.off = true then D else (D.wr x b).dec
theorem DkM.may0 {D : DkM} {x : Int} {n : Nat} (h : D.mayE x n = 0) : D.is x = true ∧ n = 512 := by
 unfold DkM.mayE at h
 cases hx : D.is x
 ·rw [if_pos hx] at h; cases h
 ·rw [hx, if_neg (by decide)] at h
  by_cases hn : n = 512
  ·exact ⟨rfl, hn⟩
  ·rw [if_pos hn] at h; cases h
section
variable {w w' : World} {p : Nat} {O : List Nat} {D : DkM}
theorem box1D (w : World) (t : TypeId) (x : Value) : Blk (w.alloc (.cells #[x] t)) w.heap.size t #[x] ∧ Fr [] w (w.alloc (.cells #[x] t)) ∧ (w.alloc (.cells #[x] t)).heap.size = w.heap.size + 1 := ⟨Blk.new _ _ _, (Fr.refl _ _).alloc _, by simp⟩
theorem boxes3 (w : World) (t1 t2 t3 : TypeId) (x1 x2 x3 : Value) : Blk (((w.alloc (.cells #[x1] t1)).alloc (.cells #[x2] t2)).alloc (.cells #[x3] t3)) w.heap.size t1 #[x1] ∧
  Blk (((w.alloc (.cells #[x1] t1)).alloc (.cells #[x2] t2)).alloc (.cells #[x3] t3)) (w.heap.size + 1) t2 #[x2] ∧ Blk (((w.alloc (.cells #[x1] t1)).alloc (.cells #[x2] t2)).alloc (.cells #[x3] t3)) (w.heap.size + 1 + 1) t3 #[x3] ∧
  Fr [] w (((w.alloc (.cells #[x1] t1)).alloc (.cells #[x2] t2)).alloc (.cells #[x3] t3)) := by
 obtain ⟨a1, f1, z1⟩ := box1D w t1 x1
 generalize w.alloc (.cells #[x1] t1) = w1 at *
 obtain ⟨a2, f2, z2⟩ := box1D w1 t2 x2
 generalize w1.alloc (.cells #[x2] t2) = w2 at *
 obtain ⟨a3, f3, z3⟩ := box1D w2 t3 x3
 generalize w2.alloc (.cells #[x3] t3) = w3 at *
 rw [z1] at a2 z2
 rw [z2] at a3
 exact ⟨(a1.keep f2 (by simp)).keep f3 (by simp), a2.keep f3 (by simp), a3, (f1.trans_nil f2).trans_nil f3⟩
set_option maxHeartbeats 1000000 in
theorem dkWrite_any (h : Dsk w p O D) (x : Int) (A : Option Addr) (n c : Nat) (b : List UInt8) (hb : b.length = n) (rd : Rd w A (bvs b)) (hA : A = none → n = 0) (hl : (D.uns x).length ≤ 4398046511104) :
  Calls Tryz.prog 111 #[.pointer (some ⟨p, 0, none⟩), .int .i64 x, .slice A n c] w fun e w' => e = .returned (.int .i64 (D.writeE x n)) ∧ AftD w p O (D.write x b) w' := by
 have HB := Lib.hid hb
 by_cases hm : D.mayE x n = 0
 ·obtain ⟨hx, rfl⟩ := DkM.may0 hm
  cases ho : D.off
  ·have HE := Lib.hid (show D.writeE x 512 = 0 by rw [DkM.writeE, if_neg (by simpa using hm), ho]; rfl)
   have HW := Lib.hid (show D.write x b = (D.wr x b).dec by rw [DkM.write, hb, if_neg (by simpa using hm), ho]; rfl)
   have HM := Lib.hid hm
   have HO := Lib.hid ho
   have HX := Lib.hid hx
   clear hb hm ho hx
   go_enter Tryz.func111, Tryz.ntmps111
   go_wp2_with fail
   obtain ⟨k3, k4, k5, f3⟩ := boxes3 w 32 3 27 (.pointer (some ⟨p, 0, none⟩)) (.int .i64 x) (.slice A 512 c)
   obtain ⟨w3, hw3⟩ : ∃ w3, ((w.alloc (.cells #[.pointer (some ⟨p, 0, none⟩)] 32)).alloc (.cells #[.int .i64 x] 3)).alloc (.cells #[.slice A 512 c] 27) = w3 := ⟨_, rfl⟩
   rw [hw3] at k3 k4 k5 f3 ⊢
   obtain ⟨g3, hg3⟩ : ∃ g3, w.heap.size = g3 := ⟨_, rfl⟩
   rw [hg3] at k3 k4 k5 ⊢
   obtain ⟨g4, hg4⟩ : ∃ g4, g3 + 1 = g4 := ⟨_, rfl⟩
   rw [hg4] at k4 k5 ⊢
   obtain ⟨g5, hg5⟩ : ∃ g5, g4 + 1 = g5 := ⟨_, rfl⟩
   rw [hg5] at k5 ⊢
   have HG := Lib.hid (And.intro hg3 (And.intro hg4 hg5))
   clear hw3 hg3 hg4 hg5
   have cm := dkMay_any (h.keep_nil f3) x A 512 c
   rw [HM.out] at cm
   refine cm.mono ?_
   clear cm
   rintro e w4 ⟨rfl, rfl⟩
   have e3 := k3.cell 0
   simp at e3
   go_wp2_with fail
   have hO : g3 ∉ O ∧ g4 ∉ O ∧ g5 ∉ O := by
    obtain ⟨X, hX⟩ := h
    obtain ⟨a1, a2, a3⟩ := HG.out
    exact ⟨fun e => by have := hX.lt _ e; omega, fun e => by have := hX.lt _ e; omega, fun e => by have := hX.lt _ e; omega⟩
   refine (dkWith_dkWrite1 (h.keep_nil f3) HO.out (dkWrite1_any (h.keep_nil f3) k3 k4 k5 hO HX.out HB.out (rd.keep_nil f3) hA hl)).mono ?_
   rintro e w5 ⟨rfl, aft⟩
   have FIN := Lib.hid ((aft.pre f3).eq HW.out.symm)
   clear aft h
   go_wp2_with fail
   go_ret
   exact ⟨by rw [HE.out]; rfl, FIN.out⟩
  ·have HE := Lib.hid (show D.writeE x 512 = 102 by rw [DkM.writeE, if_neg (by simpa using hm), ho]; rfl)
   have HW := Lib.hid (show D.write x b = D by rw [DkM.write, hb, if_neg (by simpa using hm), ho]; rfl)
   have HM := Lib.hid hm
   have HO := Lib.hid ho
   clear hb hm ho hx
   go_enter Tryz.func111, Tryz.ntmps111
   go_wp2_with fail
   obtain ⟨k3, k4, k5, f3⟩ := boxes3 w 32 3 27 (.pointer (some ⟨p, 0, none⟩)) (.int .i64 x) (.slice A 512 c)
   obtain ⟨w3, hw3⟩ : ∃ w3, ((w.alloc (.cells #[.pointer (some ⟨p, 0, none⟩)] 32)).alloc (.cells #[.int .i64 x] 3)).alloc (.cells #[.slice A 512 c] 27) = w3 := ⟨_, rfl⟩
   rw [hw3] at k3 k4 k5 f3 ⊢
   obtain ⟨g3, hg3⟩ : ∃ g3, w.heap.size = g3 := ⟨_, rfl⟩
   rw [hg3] at k3 k4 k5 ⊢
   obtain ⟨g4, hg4⟩ : ∃ g4, g3 + 1 = g4 := ⟨_, rfl⟩
   rw [hg4] at k4 k5 ⊢
   obtain ⟨g5, hg5⟩ : ∃ g5, g4 + 1 = g5 := ⟨_, rfl⟩
   rw [hg5] at k5 ⊢
   have HG := Lib.hid (And.intro hg3 (And.intro hg4 hg5))
   clear hw3 hg3 hg4 hg5
   have cm := dkMay_any (h.keep_nil f3) x A 512 c
   rw [HM.out] at cm
   refine cm.mono ?_
   clear cm
   rintro e w4 ⟨rfl, rfl⟩
   have e3 := k3.cell 0
   simp at e3
   go_wp2_with fail
   refine (dkWithOff_dkWrite1 (h.keep_nil f3) HO.out).mono ?_
   rintro e w5 ⟨rfl, rfl⟩
   have FIN := Lib.hid (((AftD.same (h.keep_nil f3)).pre f3).eq HW.out.symm)
   clear h
   go_wp2_with fail
   go_ret
   exact ⟨by rw [HE.out]; rfl, FIN.out⟩
 ·have HE := Lib.hid (show D.writeE x n = D.mayE x n by rw [DkM.writeE, if_pos hm])
  have HW := Lib.hid (show D.write x b = D by rw [DkM.write, hb, if_pos hm])
  obtain ⟨k, hk⟩ : ∃ k, D.mayE x n = k := ⟨_, rfl⟩
  rw [hk] at hm
  have d : (k != 0) = true := by simp only [bne_iff_ne]; exact hm
  have HK := Lib.hid hk
  clear hb hm hk
  go_enter Tryz.func111, Tryz.ntmps111
  go_wp2_with fail
  obtain ⟨k3, k4, k5, f3⟩ := boxes3 w 32 3 27 (.pointer (some ⟨p, 0, none⟩)) (.int .i64 x) (.slice A n c)
  obtain ⟨w3, hw3⟩ : ∃ w3, ((w.alloc (.cells #[.pointer (some ⟨p, 0, none⟩)] 32)).alloc (.cells #[.int .i64 x] 3)).alloc (.cells #[.slice A n c] 27) = w3 := ⟨_, rfl⟩
  rw [hw3] at k3 k4 k5 f3 ⊢
  obtain ⟨g3, hg3⟩ : ∃ g3, w.heap.size = g3 := ⟨_, rfl⟩
  rw [hg3] at k3 k4 k5 ⊢
  obtain ⟨g4, hg4⟩ : ∃ g4, g3 + 1 = g4 := ⟨_, rfl⟩
  rw [hg4] at k4 k5 ⊢
  obtain ⟨g5, hg5⟩ : ∃ g5, g4 + 1 = g5 := ⟨_, rfl⟩
  rw [hg5] at k5 ⊢
  have HG := Lib.hid (And.intro hg3 (And.intro hg4 hg5))
  clear hw3 hg3 hg4 hg5
  have cm := dkMay_any (h.keep_nil f3) x A n c
  rw [HK.out] at cm
  refine cm.mono ?_
  clear cm
  rintro e w4 ⟨rfl, rfl⟩
  have FIN := Lib.hid (((AftD.same (h.keep_nil f3)).pre f3).eq HW.out.symm)
  clear h
  go_wp2_with fail
  go_ret
  exact ⟨by rw [HE.out, HK.out]; rfl, FIN.out⟩
end
end
end Go.Proofs.YtbanogfljpkbkaaGreatDoor
