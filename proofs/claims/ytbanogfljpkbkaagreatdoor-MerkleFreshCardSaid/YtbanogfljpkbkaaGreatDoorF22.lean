/-
  Texts of this claim, one behind the other: DkC, DkD.
-/
import Derived.Test.YtbanogfljpkbkaaGreatDoorF21
import Derived.Test.YtbanogfljpkbkaaGreatDoorF3
set_option linter.unusedSimpArgs false
set_option linter.unusedVariables false
set_option linter.unnecessarySimpa false
namespace Go.Proofs.YtbanogfljpkbkaaGreatDoor
section
open Go.RowKit
def zB512 : List UInt8 := List.replicate 512 0
theorem zB512_len : zB512.length = 512 := List.length_replicate
theorem zB512_vs : bvs zB512 = List.replicate 512 (Value.int .u8 0) := by rw [zB512, bvs, List.map_replicate]; rfl
theorem slBBD : SlT Tryz.prog 42 27 1 24 (.slice none 0 0) := ⟨Tryz.underlying42, by kernel_rfl, rfl, by decide, by decide⟩
def newD (n : Nat) : DkM := ⟨List.replicate n none, fun _ => [], -1⟩
def NewC (w : World) (x : Int) (e : Ending) (w' : World) : Prop :=
 if 1 ≤ x ∧ x ≤ 4096 then ∃ p O, e = .returned (.tuple #[.pointer (some ⟨p, 0, none⟩), .int .i64 0]) ∧ Dsk w' p O (newD x.toNat) ∧ (∀ i ∈ O, w.heap.size ≤ i) ∧ Fr [] w w'
 else e = .returned (.tuple #[.pointer none, .int .i64 1]) ∧ w = w'
theorem NewC.yes {w w' : World} {x : Int} {e : Ending} (h : 1 ≤ x ∧ x ≤ 4096) (k : NewC w x e w') : ∃ p O, e = .returned (.tuple #[.pointer (some ⟨p, 0, none⟩), .int .i64 0]) ∧ Dsk w' p O (newD x.toNat) ∧ (∀ i ∈ O, w.heap.size ≤ i) ∧ Fr [] w w' := by
 unfold NewC at k
 rwa [if_pos h] at k
theorem NewC.no {w w' : World} {x : Int} {e : Ending} (h : ¬ (1 ≤ x ∧ x ≤ 4096)) (k : NewC w x e w') : e = .returned (.tuple #[.pointer none, .int .i64 1]) ∧ w = w' := by
 unfold NewC at k
 rwa [if_neg h] at k
theorem NewC.mkY {w w' : World} {n p : Nat} {O : List Nat} (h : 1 ≤ n ∧ n ≤ 4096) (k1 : Dsk w' p O (newD n)) (k2 : ∀ i ∈ O, w.heap.size ≤ i) (k3 : Fr [] w w') : NewC w n (.returned (.tuple #[.pointer (some ⟨p, 0, none⟩), .int .i64 0])) w' := by
 unfold NewC
 rw [if_pos (by omega)]
 exact ⟨p, O, rfl, by rw [Int.toNat_natCast]; exact k1, k2, k3⟩
theorem NewC.mkN {w : World} {x : Int} (h : ¬ (1 ≤ x ∧ x ≤ 4096)) : NewC w x (.returned (.tuple #[.pointer none, .int .i64 1])) w := by
 unfold NewC
 rw [if_neg h]
 exact ⟨rfl, rfl⟩
set_option maxRecDepth 100000
theorem dkNew_any (w : World) (x : Int) (hx : -9223372036854775808 ≤ x ∧ x ≤ 9223372036854775807) : Calls Tryz.prog 29 #[.int .i64 x] w (NewC w x) := by
 by_cases h1 : 1 ≤ x
 ·by_cases h2 : x ≤ 4096
  ·obtain ⟨n, rfl⟩ : ∃ n : Nat, x = n := ⟨x.toNat, by omega⟩
   have hmm := @run_makeMap Tryz.prog
   have b1 : 1 ≤ n := by omega
   have b2 : n ≤ 4096 := by omega
   have HB := Lib.hid (And.intro b1 b2)
   go_enter Tryz.func29, Tryz.ntmps29
   go_wp2_with (first | (refine wpList_mk1 rfl rfl slBBD rfl .i64 .i64 _ _ n rfl rfl rfl rfl (by omega) ?_; intro w1 k1 r1 f1 z1))
   have m1 := MapZ.made w1
   rw [z1] at m1
   have f2 : Fr [] w1 (w1.alloc (.map #[] 0)) := (Fr.refl _ _).alloc _
   have z2 : (w1.alloc (.map #[] 0)).heap.size = w.heap.size + 1 + 1 := by rw [← z1]; simp
   have k3 := Blk.new (w1.alloc (.map #[] 0)) 118 #[.slice (some ⟨w.heap.size, 0, none⟩) n n, .map (some (w.heap.size + 1)), .int .i64 (-1)]
   have f3 : Fr [] (w1.alloc (.map #[] 0)) ((w1.alloc (.map #[] 0)).alloc (.cells #[.slice (some ⟨w.heap.size, 0, none⟩) n n, .map (some (w.heap.size + 1)), .int .i64 (-1)] 118)) := (Fr.refl _ _).alloc _
   rw [z2] at k3
   have z3 : ((w1.alloc (.map #[] 0)).alloc (.cells #[.slice (some ⟨w.heap.size, 0, none⟩) n n, .map (some (w.heap.size + 1)), .int .i64 (-1)] 118)).heap.size = w.heap.size + 1 + 1 + 1 := by rw [← z2]; simp
   generalize (w1.alloc (.map #[] 0)).alloc (.cells #[.slice (some ⟨w.heap.size, 0, none⟩) n n, .map (some (w.heap.size + 1)), .int .i64 (-1)] 118) = w3 at *
   have F3 := (f1.trans_nil f2).trans_nil f3
   have rD := (r1.keep_nil f2).keep_nil f3
   have mD := (m1.keep_nil (Fr.refl _ _)).keep_nil f3
   go_ret2
   refine NewC.mkY (O := [w.heap.size, w.heap.size + 1, w.heap.size + 1 + 1]) HB.out ?_ (fun i hi => by simp at hi; omega) F3
   refine ⟨⟨w.heap.size, n, w.heap.size + 1, fun _ => none, List.replicate n (.slice none 0 0)⟩, by simp, by simp, by simp, ?_, ?_, ?_, ?_, ?_, fun x => ⟨fun _ => rfl, fun _ => rfl⟩, fun x v h => by (cases h), fun x h => absurd rfl h, fun x y u v _ h => by (cases h), ?_, fun i hi => by simp at hi; omega, by simp [newD]⟩
   ·rw [show (newD n).sure.length = n from List.length_replicate]; exact k3
   ·rw [show (newD n).sure.length = n from List.length_replicate]; exact HB.out
   ·rw [show (newD n).sure.length = n from List.length_replicate]; exact rD.mono (Nat.zero_le _)
   ·intro i a b
    simp only [newD, List.getElem_replicate]
    rfl
   ·exact mD.mono (by omega)
   ·intro i hi cs fz hc
    have kr := (k1.keep_nil f2).keep_nil f3
    simp only [List.mem_cons, List.not_mem_nil, or_false] at hi
    rcases hi with rfl | rfl | rfl
    ·unfold Blk at kr
     rw [kr] at hc
     injection hc with hc
     injection hc with _ hc
     exact absurd hc (by decide)
    ·obtain ⟨D, ⟨es, clock, hb, _⟩, _⟩ := mD
     rw [hb] at hc
     cases hc
    ·unfold Blk at k3
     rw [k3] at hc
     injection hc with hc
     injection hc with _ hc
     exact absurd hc (by decide)
  ·have HN := Lib.hid (show ¬ (1 ≤ x ∧ x ≤ 4096) by omega)
   have k1 : 4096 < x := by omega
   go_enter Tryz.func29, Tryz.ntmps29
   go_wp2_with fail
   go_ret2
   exact NewC.mkN HN.out
 ·have HN := Lib.hid (show ¬ (1 ≤ x ∧ x ≤ 4096) by omega)
  have k1 : x < 1 := by omega
  go_enter Tryz.func29, Tryz.ntmps29
  go_wp2_with fail
  go_ret2
  exact NewC.mkN HN.out
def DkM.sureR (D : DkM) (x : Int) : List UInt8 := if D.is x then (D.sure.getD x.toNat none).getD zB512 else []
section
variable {w w' : World} {p : Nat} {O : List Nat} {D : DkM} {X : DkX}
theorem DskX.at (h : DskX w p O D X) {i : Nat} (hi : i < D.sure.length) : ∃ v, w.cell? ⟨X.g, i, none⟩ = some v ∧ SuV w v (D.sure[i]) := by
 have hl : i < X.vs.length := by have := h.row.1; omega
 obtain ⟨g', o', e', hc⟩ := h.row.rdD.1 (by intro h0; rw [h0] at hl; simp at hl)
 cases e'
 have := hc i _ (List.getElem?_eq_getElem hl)
 rw [Nat.zero_add] at this
 exact ⟨_, this, h.su i hl hi⟩
theorem eqlSlD (g n c : Nat) (w : World) : (binOp .eql 27 (.slice (some ⟨g, 0, none⟩) n c) (.slice none 0 0)).run Tryz.prog w = .ok (.bool false) w := by kernel_rfl
theorem eqlSlN (w : World) : (binOp .eql 27 (.slice none 0 0) (.slice none 0 0)).run Tryz.prog w = .ok (.bool true) w := by kernel_rfl
def SureC (w : World) (l : List UInt8) (e : Ending) (w' : World) : Prop := ∃ v, e = .returned v ∧ Row w' w.heap.size 5 1 v l.length (bvs l) ∧ Fr [] w w'
set_option maxHeartbeats 1000000 in
theorem dkSure_any (h : Dsk w p O D) (x : Int) : Calls Tryz.prog 152 #[.pointer (some ⟨p, 0, none⟩), .int .i64 x] w (SureC w (D.sureR x)) := by
 have hi := dkIs_any h x
 cases hx : D.is x
 ·rw [hx] at hi
  have HR := Lib.hid (show D.sureR x = [] by rw [DkM.sureR, hx]; rfl)
  clear hx
  go_enter Tryz.func152, Tryz.ntmps152
  go_wp2_with fail
  refine hi.mono ?_
  rintro e w1 ⟨rfl, rfl⟩
  go_wp2_with fail
  go_ret
  exact ⟨_, rfl, by rw [HR.out]; exact Row.nil _ _ _ _, Fr.refl _ _⟩
 ·rw [hx] at hi
  obtain ⟨h0, h1⟩ := DkM.is_iff.1 hx
  obtain ⟨k, rfl⟩ : ∃ k : Nat, x = k := ⟨x.toNat, by omega⟩
  have hk : k < D.sure.length := by omega
  obtain ⟨X, h⟩ := h
  obtain ⟨v, cv, sv⟩ := h.at hk
  have c0 := h.c0
  have hR : D.sureR k = (D.sure[k]).getD zB512 := by rw [DkM.sureR, hx]; simp [hk]
  obtain ⟨n, hn⟩ : ∃ n, D.sure.length = n := ⟨_, rfl⟩
  rw [hn] at c0 hk
  clear hx h0 h1
  cases hs : D.sure[k] with
  | none =>
   rw [hs] at sv hR
   have HR := Lib.hid hR
   obtain rfl : v = .slice none 0 0 := sv
   have en := eqlSlN w
   clear hR hs hn
   go_enter Tryz.func152, Tryz.ntmps152
   go_wp2_with fail
   refine hi.mono ?_
   rintro e w1 ⟨rfl, rfl⟩
   go_wp2_with (first | (refine wpList_mk1 rfl rfl slB rfl .i64 .i64 _ _ 512 rfl rfl rfl rfl (by omega) ?_; intro w1 k1 r1 f1 z1))
   go_ret
   refine ⟨_, rfl, ?_, f1⟩
   rw [HR.out, show (none : Option (List UInt8)).getD zB512 = zB512 from rfl, zB512_len, zB512_vs]
   exact r1
  | some l =>
   rw [hs] at sv hR
   have HR := Lib.hid hR
   obtain ⟨hl, r⟩ : BlkB w v l := sv
   obtain ⟨g, c, rfl⟩ := r.hdD (by omega)
   have HL := Lib.hid hl
   have en := eqlSlD g 512 c w
   clear hR hs hn hl
   go_enter Tryz.func152, Tryz.ntmps152
   go_wp2_with fail
   refine hi.mono ?_
   rintro e w1 ⟨rfl, rfl⟩
   go_wp2_with fail
   refine (clone_any _ l 512 c w HL.out r.rdD.1 r.rdD.2.2 (by omega)).mono ?_
   rintro e w2 ⟨v2, rfl, r2, f2⟩
   go_wp2_with fail
   go_ret
   exact ⟨_, rfl, by rw [HR.out]; show Row w2 _ _ 1 v2 l.length (bvs l); rw [HL.out]; exact r2, f2⟩
end
end
section
open Go.RowKit
set_option maxRecDepth 100000
theorem zeroBBD (w : World) : (zeroValue 42).run Tryz.prog w = .ok (.slice none 0 0) w := by kernel_rfl
def DkM.readE (D : DkM) (x : Int) : Int := if D.is x = false then 100 else if D.off = true then 102 else 0
def DkM.readR (D : DkM) (x : Int) : List UInt8 := if D.is x = false then [] else if D.off = true then [] else match (D.uns x).getLast? with | some b => b | none => D.sureR x
def ReadC (w : World) (l : List UInt8) (c : Int) (e : Ending) (w' : World) : Prop := ∃ v, e = .returned (.tuple #[v, .int .i64 c]) ∧ Row w' w.heap.size 5 1 v l.length (bvs l) ∧ Fr [] w w'
section
variable {w w' : World} {p : Nat} {O : List Nat} {D : DkM} {X : DkX}
theorem DkM.wf_is (h : DskX w p O D X) {x : Int} (hx : D.is x = true) : wfZ x := wfZ_of (by
 have h1 := DkM.is_iff.1 hx
 have h2 := h.n1
 omega)
set_option maxHeartbeats 1000000 in
theorem dkRead_any (h : Dsk w p O D) (x : Int) : Calls Tryz.prog 101 #[.pointer (some ⟨p, 0, none⟩), .int .i64 x] w (ReadC w (D.readR x) (D.readE x)) := by
 have hm := dkMade_any h
 have hi := dkIs_any h x
 have ho := dkOff_any h
 have hs := dkSure_any h x
 cases hx : D.is x
 ·rw [hx] at hi
  have HE := Lib.hid (show D.readE x = 100 by rw [DkM.readE, if_pos hx])
  have HR := Lib.hid (show D.readR x = [] by rw [DkM.readR, if_pos hx])
  clear hx
  go_enter Tryz.func101, Tryz.ntmps101
  go_wp2_with fail
  refine hm.mono ?_
  rintro e w1 ⟨rfl, rfl⟩
  go_wp2_with fail
  refine hi.mono ?_
  rintro e w1 ⟨rfl, rfl⟩
  go_wp2_with fail
  go_ret2
  exact ⟨_, by rw [HE.out]; rfl, by rw [HR.out]; exact Row.nil _ _ _ _, Fr.refl _ _⟩
 ·rw [hx] at hi
  cases hf : D.off
  ·rw [hf] at ho
   have HE := Lib.hid (show D.readE x = 0 by rw [DkM.readE, hx, hf]; rfl)
   have hR : D.readR x = match (D.uns x).getLast? with | some b => b | none => D.sureR x := by rw [DkM.readR, hx, hf]; rfl
   obtain ⟨X, h⟩ := h
   have c1 := h.c1
   have wf := DkM.wf_is h hx
   have mz := h.map
   cases hfx : X.f x with
   | none =>
    have hu := (h.iff x).1 hfx
    rw [hu] at hR
    have HR := Lib.hid (show D.readR x = D.sureR x from hR)
    have HFX := Lib.hid (show (X.f x).getD (.slice none 0 0) = .slice none 0 0 by rw [hfx]; rfl)
    clear hx hf hR hu hfx
    go_enter Tryz.func101, Tryz.ntmps101
    go_wp2_with fail
    refine hm.mono ?_
    rintro e w1 ⟨rfl, rfl⟩
    go_wp2_with fail
    refine hi.mono ?_
    rintro e w1 ⟨rfl, rfl⟩
    go_wp2_with fail
    refine ho.mono ?_
    rintro e w1 ⟨rfl, rfl⟩
    go_wp2_with (refine wpList_lookZ rfl rfl Tryz.underlying116 (zeroBBD _) rfl mz x rfl wf ?_; rw [HFX.out])
    refine hs.mono ?_
    rintro e w1 ⟨v, rfl, r, f⟩
    go_wp2_with fail
    go_ret2
    exact ⟨_, by rw [HE.out]; rfl, by rw [HR.out]; exact r, f⟩
   | some v =>
    obtain ⟨⟨us, r, hb⟩, gv, hgv, -, -⟩ := h.un x v hfx
    have hne : D.uns x ≠ [] := fun e => by have := (h.iff x).2 e; rw [hfx] at this; cases this
    obtain ⟨L, hL⟩ : ∃ L, D.uns x = L := ⟨_, rfl⟩
    rw [hL] at r hb hne hR
    obtain ⟨n, hn⟩ : ∃ n, L.length = n + 1 := ⟨L.length - 1, by have := List.length_pos_iff.2 hne; omega⟩
    have hul : us.length = n + 1 := by have := r.1; omega
    have hl2 : L.getLast? = some (L[n]'(by omega)) := by
     rw [List.getLast?_eq_getElem?, show L.length - 1 = n by omega, List.getElem?_eq_getElem]
    rw [hl2] at hR
    obtain ⟨b5, rb⟩ := hb n (by omega) (by omega)
    obtain ⟨b, hbb⟩ : ∃ b, L[n]'(by omega) = b := ⟨_, rfl⟩
    rw [hbb] at b5 rb hR
    rw [hn] at r
    have hn48 : n + 1 ≤ 9223372036854775807 := by obtain ⟨_, _, _, h1, h2, -⟩ := r.shape; unfold maxLen at h2; omega
    obtain ⟨g, c, rfl⟩ := r.hdD (by omega)
    obtain ⟨g', o', e', hc⟩ := r.rdD.1 (by intro h0; rw [h0] at hul; simp at hul)
    cases e'
    have cn := hc n _ (List.getElem?_eq_getElem (by omega))
    rw [Nat.zero_add] at cn
    obtain ⟨g2, c2, hv2⟩ := rb.hdD (by omega)
    rw [hv2] at cn rb
    have HR := Lib.hid (show D.readR x = b from hR)
    have HB5 := Lib.hid b5
    have HFX := Lib.hid (show (X.f x).getD (.slice none 0 0) = .slice (some ⟨g, 0, none⟩) (n + 1) c by rw [hfx]; rfl)
    clear hx hf hR hfx hl2 hn hul hbb hv2 hc b5 hL hgv hb
    have K0 : (0 : Int) < (n : Int) + 1 := by omega
    go_enter Tryz.func101, Tryz.ntmps101
    go_wp2_with fail
    refine hm.mono ?_
    rintro e w1 ⟨rfl, rfl⟩
    go_wp2_with fail
    refine hi.mono ?_
    rintro e w1 ⟨rfl, rfl⟩
    go_wp2_with fail
    refine ho.mono ?_
    rintro e w1 ⟨rfl, rfl⟩
    go_wp2_with (refine wpList_lookZ rfl rfl Tryz.underlying116 (zeroBBD _) rfl mz x rfl wf ?_; rw [HFX.out])
    refine (clone_any _ b 512 c2 w HB5.out rb.rdD.1 rb.rdD.2.2 (by omega)).mono ?_
    rintro e w2 ⟨v2, rfl, r2, f2⟩
    go_wp2_with fail
    go_ret2
    exact ⟨_, by rw [HE.out]; rfl, by rw [HR.out]; show Row w2 _ _ 1 v2 b.length (bvs b); rw [HB5.out]; exact r2, f2⟩
  ·rw [hf] at ho
   have HE := Lib.hid (show D.readE x = 102 by rw [DkM.readE, hx, hf]; rfl)
   have HR := Lib.hid (show D.readR x = [] by rw [DkM.readR, hx, hf]; rfl)
   clear hx hf
   go_enter Tryz.func101, Tryz.ntmps101
   go_wp2_with fail
   refine hm.mono ?_
   rintro e w1 ⟨rfl, rfl⟩
   go_wp2_with fail
   refine hi.mono ?_
   rintro e w1 ⟨rfl, rfl⟩
   go_wp2_with fail
   refine ho.mono ?_
   rintro e w1 ⟨rfl, rfl⟩
   go_wp2_with fail
   go_ret2
   exact ⟨_, by rw [HE.out]; rfl, by rw [HR.out]; exact Row.nil _ _ _ _, Fr.refl _ _⟩
def DkM.wrL (D : DkM) (x : Int) (L : List (List UInt8)) : DkM := { D with uns := fun y => if y = x then L else D.uns y }
def DkM.wr (D : DkM) (x : Int) (b : List UInt8) : DkM := D.wrL x (D.uns x ++ [b])
theorem DskX.putL (h : DskX w p O D X) {x : Int} {L' : List (List UInt8)} (hL' : L' ≠ []) {v v' : Value} {g' : Nat} {w3 w4 : World} (hx : D.is x = true) (hv : v = (X.f x).getD (.slice none 0 0))
  (f3 : Fr v.ownBlock.toList w w3) (u3 : UR w3 v' L') (hg : v'.ownBlock = some g') (hloc : v.ownBlock = some g' ∨ w.heap.size ≤ g')
  (m4 : MapZ w4 X.m 4097 (fput X.f x v')) (f4 : Fr [X.m] w3 w4) : DskX w4 p (g' :: O.filter fun j => decide (v.ownBlock ≠ some j)) (D.wrL x L') { X with f := fput X.f x v' } ∧ Fr O w w4 := by
 have hvO : ∀ i ∈ v.ownBlock.toList, i ∈ O ∧ i ≠ X.g ∧ ∃ u, X.f x = some u ∧ u.ownBlock = some i := fun i hi => by
  cases hf : X.f x with
  | none => rw [hf] at hv; subst hv; exact (own_nil.1 hi).elim
  | some u =>
   rw [hf] at hv
   have hv : v = u := hv
   subst hv
   obtain ⟨_, g, h1, h2, h3⟩ := h.un x v hf
   have := mem_own.1 hi
   rw [h1] at this
   cases this
   exact ⟨h2, h3, v, rfl, h1⟩
 have n8v : NoTy w v.ownBlock.toList 5 := h.no8.sub fun i hi => (hvO i hi).1
 obtain ⟨us, ur, ub⟩ := u3
 have n8m : NoTy w3 [X.m] 5 := fun i hi cs fz hc => by
  obtain ⟨D4, ⟨es, clock, hb, _⟩, _⟩ := h.map
  have hm : X.m ∉ v.ownBlock.toList := fun hm => by
   obtain ⟨_, _, u, hu, hgu⟩ := hvO _ hm
   obtain ⟨⟨us', r', _⟩, _⟩ := h.un x u hu
   rcases r'.2 with ⟨e, _⟩ | ⟨g1, c1, cur, fz1, e, _, hgg, _⟩
   ·rw [e] at hgu; cases hgu
   ·have : g1 = X.m := by rw [e] at hgu; simpa [Value.ownBlock] using hgu
    subst this
    rw [hb] at hgg
    cases hgg
  rw [List.mem_singleton.1 hi, f3.same _ h.map.lt hm, hb] at hc
  cases hc
 have hpv : p ∉ v.ownBlock.toList := fun hm => by
  obtain ⟨_, _, u, hu, hgu⟩ := hvO _ hm
  obtain ⟨⟨us', r', _⟩, _⟩ := h.un x u hu
  exact r'.ne_blk h.blk (by decide) hgu
 have hxr := DkM.is_iff.1 hx
 have hmb : ∀ j, j = X.m → ∀ cs t fz, w3.heap[j]? ≠ some (.cells cs t fz) := fun j hj cs t fz hc => by
  obtain ⟨D4, ⟨es, clock, hb, _⟩, _⟩ := h.map
  have hm2 : X.m ∉ v.ownBlock.toList := fun hm3 => by
   obtain ⟨_, _, t, ht, hgt⟩ := hvO _ hm3
   obtain ⟨⟨us', r', _⟩, _⟩ := h.un x t ht
   rcases r'.2 with ⟨e2, _⟩ | ⟨g2, c2, cur2, fz2, e2, _, hg2, _⟩
   ·rw [e2] at hgt; cases hgt
   ·have : g2 = X.m := by rw [e2] at hgt; simpa [Value.ownBlock] using hgt
    subst this
    rw [hb] at hg2
    cases hg2
  rw [hj, f3.same _ h.map.lt hm2, hb] at hc
  cases hc
 have hmv' : ∀ g, v'.ownBlock = some g → g ∉ [X.m] := fun g hgg hm => by
  rw [List.mem_singleton.1 hm] at hgg
  rcases ur.2 with ⟨e, _⟩ | ⟨g1, c1, cur, fz1, e, _, hg1, _⟩
  ·rw [e] at hgg; cases hgg
  ·have : g1 = X.m := by rw [e] at hgg; simpa [Value.ownBlock] using hgg
   exact hmb _ this _ _ _ hg1
 have mvO : ∀ {j : Nat}, j ∈ O → (v.ownBlock ≠ some j) → j ∈ g' :: O.filter fun j => decide (v.ownBlock ≠ some j) := fun h1 h2 => List.mem_cons_of_mem _ (List.mem_filter.2 ⟨h1, by simpa using h2⟩)
 have gv : v.ownBlock ≠ some X.g := fun e => (hvO _ (mem_own.2 e)).2.1 rfl
 have mv : v.ownBlock ≠ some X.m := fun e => by
  obtain ⟨_, _, t, ht, hgt⟩ := hvO _ (mem_own.2 e)
  obtain ⟨⟨us', r', _⟩, _⟩ := h.un x t ht
  obtain ⟨D4, ⟨es, clock, hb, _⟩, _⟩ := h.map
  rcases r'.2 with ⟨e2, _⟩ | ⟨g2, c2, cur2, fz2, e2, _, hg2, _⟩
  ·rw [e2] at hgt; cases hgt
  ·have : g2 = X.m := by rw [e2] at hgt; simpa [Value.ownBlock] using hgt
   subst this
   rw [hb] at hg2
   cases hg2
 refine ⟨⟨mvO h.pO (fun e => hpv (mem_own.2 e)), mvO h.gO gv, mvO h.mO mv, ?_, h.n1, ?_, fun i a c => ?_, ?_, fun y => ?_, fun y u hy => ?_, fun y hy => ?_, fun y z u t hne hy hz => ?_, fun i hi cs fz hc => ?_, fun i hi => ?_, h.calls⟩, ?_⟩
 ·exact (h.blk.keep f3 hpv).keep f4 (by simpa using fun e => h.mp e.symm)
 ·refine (h.row.keep f3 (fun g hg2 hm => ?_)).keep f4 (fun g hg2 hm => ?_)
  ·have : g = X.g := by simpa [Value.ownBlock] using hg2.symm
   exact (hvO g hm).2.1 this
  ·have : g = X.g := by simpa [Value.ownBlock] using hg2.symm
   exact h.mg (by rw [← this]; exact (List.mem_singleton.1 hm).symm)
 ·exact ((h.su i a c).keepT f3 n8v).keepT f4 n8m
 ·refine m4.tight (fun y _ hy => ?_)
  unfold fput at hy
  have hn := h.n1
  by_cases e : y = x
  ·subst e; omega
  ·rw [if_neg e] at hy
   have := h.rng y (fun e2 => hy ((h.iff y).2 e2))
   omega
 ·show fput X.f x v' y = none ↔ (if y = x then L' else D.uns y) = []
  unfold fput
  by_cases e : y = x
  ·rw [if_pos e, if_pos e]; simp [hL']
  ·rw [if_neg e, if_neg e]; exact h.iff y
 ·replace hy : fput X.f x v' y = some u := hy
  show UR w4 u (if y = x then L' else D.uns y) ∧ ∃ g, u.ownBlock = some g ∧ g ∈ g' :: (O.filter fun j => decide (v.ownBlock ≠ some j)) ∧ g ≠ X.g
  unfold fput at hy
  by_cases e : y = x
  ·rw [if_pos e] at hy ⊢
   cases hy
   refine ⟨⟨us, ur.keep f4 hmv', fun i a c => (ub i a c).keepT f4 n8m⟩, g', hg, by simp, fun e2 => ?_⟩
   rcases hloc with h1 | h1
   ·exact (hvO g' (mem_own.2 h1)).2.1 e2
   ·have := h.lts.2.1; omega
  ·rw [if_neg e] at hy ⊢
   obtain ⟨h1, g, h2, h3, h4⟩ := h.un y u hy
   refine ⟨(h1.keep f3 n8v (fun g2 hg2 hm => ?_)).keep f4 n8m (fun g2 hg2 hm => ?_), g, h2, mvO h3 (fun e5 => by
    obtain ⟨_, _, t, ht, hgt⟩ := hvO _ (mem_own.2 e5)
    exact h.apart y x u t e hy ht (by rw [h2, hgt])), h4⟩
   ·obtain ⟨_, _, t, ht, hgt⟩ := hvO _ hm
    exact h.apart y x u t e hy ht (by rw [hg2, hgt])
   ·rw [List.mem_singleton.1 hm] at hg2
    obtain ⟨us', r', _⟩ := h1
    obtain ⟨D4, ⟨es, clock, hb, _⟩, _⟩ := h.map
    rcases r'.2 with ⟨e2, _⟩ | ⟨g2', c2, cur2, fz2, e2, _, hg3, _⟩
    ·rw [e2] at hg2; cases hg2
    ·have : g2' = X.m := by rw [e2] at hg2; simpa [Value.ownBlock] using hg2
     subst this
     rw [hb] at hg3
     cases hg3
 ·replace hy : (if y = x then L' else D.uns y) ≠ [] := hy
  by_cases e : y = x
  ·subst e; exact hxr
  ·rw [if_neg e] at hy; exact h.rng y hy
 ·replace hy : fput X.f x v' y = some u := hy
  replace hz : fput X.f x v' z = some t := hz
  have far : ∀ y u, y ≠ x → X.f y = some u → u.ownBlock ≠ some g' := fun y u e hy e2 => by
   rcases hloc with h1 | h1
   ·obtain ⟨_, _, t, ht, hgt⟩ := hvO g' (mem_own.2 h1)
    exact h.apart y x u t e hy ht (by rw [e2, hgt])
   ·have := h.un_lt hy e2; omega
  unfold fput at hy hz
  by_cases e : y = x
  ·rw [if_pos e] at hy
   have e3 : ¬ z = x := fun e3 => hne (e.trans e3.symm)
   rw [if_neg e3] at hz
   cases hy
   rw [hg]
   exact fun e4 => far z t e3 hz e4.symm
  ·rw [if_neg e] at hy
   by_cases e3 : z = x
   ·rw [if_pos e3] at hz
    cases hz
    rw [hg]
    exact far y u e hy
   ·rw [if_neg e3] at hz
    exact h.apart y z u t hne hy hz
 ·rcases List.mem_cons.1 hi with rfl | hi
  ·exact (ur.keep f4 hmv').noTy (d := 5) (by decide) i (mem_own.2 hg) _ _ hc
  ·obtain ⟨h1, h2⟩ := List.mem_filter.1 hi
   have h2 : v.ownBlock ≠ some i := by simpa using h2
   by_cases e : i = X.m
   ·obtain ⟨D4, ⟨es, clock, hb, _⟩, _⟩ := m4
    rw [e, hb] at hc
    cases hc
   ·rw [f4.same i (Nat.lt_of_lt_of_le (h.lt i h1) f3.size) (by simpa using e), f3.same i (h.lt i h1) (fun hm => h2 (mem_own.1 hm))] at hc
    exact h.no8 i h1 cs fz hc
 ·rcases List.mem_cons.1 hi with rfl | hi
  ·exact Nat.lt_of_lt_of_le (ur.lt i hg).2 f4.size
  ·exact Nat.lt_of_lt_of_le (h.lt i (List.mem_filter.1 hi).1) (Nat.le_trans f3.size f4.size)
 ·exact (f3.mono fun i hi => (hvO i hi).1).trans f4 (fun i hi => .inl (by rw [List.mem_singleton.1 hi]; exact h.mO))
theorem DskX.put (h : DskX w p O D X) {x : Int} {b : List UInt8} {v v' : Value} {g' : Nat} {w3 w4 : World} (hx : D.is x = true) (hv : v = (X.f x).getD (.slice none 0 0))
  (f3 : Fr v.ownBlock.toList w w3) (u3 : UR w3 v' (D.uns x ++ [b])) (hg : v'.ownBlock = some g') (hloc : v.ownBlock = some g' ∨ w.heap.size ≤ g')
  (m4 : MapZ w4 X.m 4097 (fput X.f x v')) (f4 : Fr [X.m] w3 w4) : DskX w4 p (g' :: O.filter fun j => decide (v.ownBlock ≠ some j)) (D.wr x b) { X with f := fput X.f x v' } ∧ Fr O w w4 :=
 h.putL (by simp) hx hv f3 u3 hg hloc m4 f4
end
end
end Go.Proofs.YtbanogfljpkbkaaGreatDoor
