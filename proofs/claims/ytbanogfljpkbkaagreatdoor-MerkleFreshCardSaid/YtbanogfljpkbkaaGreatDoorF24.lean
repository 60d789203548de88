/-
  Texts of this claim, one behind the other: DkF, DkG.
-/
import Derived.Test.YtbanogfljpkbkaaGreatDoorF23
import Derived.StillTailTactics
import Derived.Deep.LoopGhost
import Derived.Deep.DeepCutAuto
import Derived.IntWalk
set_option linter.unusedSimpArgs false
set_option linter.unusedVariables false
set_option linter.unnecessarySimpa false
namespace Go.Proofs.YtbanogfljpkbkaaGreatDoor
section
open Go.RowKit
set_option maxRecDepth 100000
def DkM.dec (D : DkM) : DkM := { D with calls := if 0 < D.calls then D.calls - 1 else D.calls }
def AftD (w : World) (p : Nat) (O : List Nat) (D' : DkM) (w' : World) : Prop := ∃ O', Dsk w' p O' D' ∧ (∀ i ∈ O', i ∈ O ∨ w.heap.size ≤ i) ∧ Fr O w w'
theorem AftD.same {w : World} {p : Nat} {O : List Nat} {D : DkM} (h : Dsk w p O D) : AftD w p O D w := ⟨O, h, fun i hi => .inl hi, Fr.refl _ _⟩
theorem AftD.pre {w0 w w' : World} {p : Nat} {O : List Nat} {D : DkM} (f : Fr [] w0 w) (h : AftD w p O D w') : AftD w0 p O D w' := by
 obtain ⟨O', h1, h2, h3⟩ := h
 exact ⟨O', h1, fun i hi => (h2 i hi).imp id (fun h => Nat.le_trans f.size h), (f.mono (by simp)).trans h3 (fun i hi => .inl hi)⟩
theorem AftD.trans {w w1 w2 : World} {p : Nat} {O O1 : List Nat} {D : DkM} (f : Fr O w w1) (h1 : ∀ i ∈ O1, i ∈ O ∨ w.heap.size ≤ i) (h : AftD w1 p O1 D w2) : AftD w p O D w2 := by
 obtain ⟨O', k1, k2, k3⟩ := h
 refine ⟨O', k1, fun i hi => ?_, f.trans k3 h1⟩
 rcases k2 i hi with h2 | h2
 ·exact h1 i h2
 ·exact .inr (Nat.le_trans f.size h2)
theorem AftD.eq {w w' : World} {p : Nat} {O : List Nat} {D D' : DkM} (h : AftD w p O D w') (e : D = D') : AftD w p O D' w' := e ▸ h
theorem AftD.post {w w' w'' : World} {p : Nat} {O : List Nat} {D : DkM} (h : AftD w p O D w') (f : Fr [] w' w'') : AftD w p O D w'' := by
 obtain ⟨O', k1, k2, k3⟩ := h
 exact ⟨O', k1.keep_nil f, k2, k3.trans_nil f⟩
theorem dkWith_dkWrite1 {w : World} {p : Nat} {O : List Nat} {D D' : DkM} {g3 g4 g5 : Nat} (h : Dsk w p O D) (ho : D.off = false) (hc : Calls Tryz.prog 164 #[.pointer (some ⟨g3, 0, none⟩), .pointer (some ⟨g4, 0, none⟩), .pointer (some ⟨g5, 0, none⟩)] w fun e w' => e = .returned (.tuple #[]) ∧ AftD w p O D' w') :
  Calls Tryz.prog 163 #[.pointer (some ⟨p, 0, none⟩), .func (.func 164) #[] #[.pointer (some ⟨g3, 0, none⟩), .pointer (some ⟨g4, 0, none⟩), .pointer (some ⟨g5, 0, none⟩)]] w fun e w' => e = .returned (.int .i64 0) ∧ AftD w p O D'.dec w' := by
 have hf := dkOff_any h
 rw [ho] at hf
 clear ho
 go_enter Tryz.func163, Tryz.ntmps163
 go_wp2_with fail
 refine hf.mono ?_
 rintro e w1 ⟨rfl, rfl⟩
 go_wp2_with fail
 refine hc.mono ?_
 rintro e w1 ⟨rfl, O', ⟨X, h1⟩, hO, f1⟩
 have c2 := h1.c2
 have z2 := h1.blk.frozen 2
 by_cases hpos : 0 < D'.calls
 ·have hd := h1.setp (w' := w1.setCell ⟨p, 2, none⟩ (.int .i64 (D'.calls - 1))) ((Fr.refl [p] w1).setCell (.inl (by simp)) _) (D'.calls - 1) (by have := h1.calls; omega) (h1.blk.set_ 2 _)
  have hf2 : Fr [p] w1 (w1.setCell ⟨p, 2, none⟩ (.int .i64 (D'.calls - 1))) := (Fr.refl [p] w1).setCell (.inl (by simp)) _
  have fin : AftD w p O D'.dec (w1.setCell ⟨p, 2, none⟩ (.int .i64 (D'.calls - 1))) := by
   refine ⟨O', ⟨X, ?_⟩, hO, f1.trans hf2 (fun i hi => by rw [List.mem_singleton.1 hi]; exact hO p h1.pO)⟩
   rw [DkM.dec, if_pos hpos]
   exact hd
  have hr : IntKind.i64.wrap (D'.calls - 1) = D'.calls - 1 := IntWalk.i64_in _ (by have := h1.calls; omega)
  have hcb := h1.calls
  have FIN := Lib.hid fin
  clear hd hf2 fin hc h
  go_wp2_with fail
  go_ret
  exact ⟨rfl, FIN.out⟩
 ·have fin : AftD w p O D'.dec w1 := by
   refine ⟨O', ⟨X, ?_⟩, hO, f1⟩
   rw [DkM.dec, if_neg hpos]
   exact h1
  have FIN := Lib.hid fin
  clear fin hc h
  go_wp2_with fail
  go_ret
  exact ⟨rfl, FIN.out⟩
theorem dkWithOff_dkWrite1 {w : World} {p : Nat} {O : List Nat} {D : DkM} {g3 g4 g5 : Nat} (h : Dsk w p O D) (ho : D.off = true) :
  Calls Tryz.prog 163 #[.pointer (some ⟨p, 0, none⟩), .func (.func 164) #[] #[.pointer (some ⟨g3, 0, none⟩), .pointer (some ⟨g4, 0, none⟩), .pointer (some ⟨g5, 0, none⟩)]] w fun e w' => e = .returned (.int .i64 102) ∧ w = w' := by
 have hf := dkOff_any h
 rw [ho] at hf
 clear ho
 go_enter Tryz.func163, Tryz.ntmps163
 go_wp2_with fail
 refine hf.mono ?_
 rintro e w1 ⟨rfl, rfl⟩
 go_wp2_with fail
 go_ret
 exact ⟨rfl, rfl⟩
theorem dkWith_dkFlush1 {w : World} {p : Nat} {O : List Nat} {D D' : DkM} {g3 : Nat} (h : Dsk w p O D) (ho : D.off = false) (hc : Calls Tryz.prog 165 #[.pointer (some ⟨g3, 0, none⟩)] w fun e w' => e = .returned (.tuple #[]) ∧ AftD w p O D' w') :
  Calls Tryz.prog 163 #[.pointer (some ⟨p, 0, none⟩), .func (.func 165) #[] #[.pointer (some ⟨g3, 0, none⟩)]] w fun e w' => e = .returned (.int .i64 0) ∧ AftD w p O D'.dec w' := by
 have hf := dkOff_any h
 rw [ho] at hf
 clear ho
 go_enter Tryz.func163, Tryz.ntmps163
 go_wp2_with fail
 refine hf.mono ?_
 rintro e w1 ⟨rfl, rfl⟩
 go_wp2_with fail
 refine hc.mono ?_
 rintro e w1 ⟨rfl, O', ⟨X, h1⟩, hO, f1⟩
 have c2 := h1.c2
 have z2 := h1.blk.frozen 2
 by_cases hpos : 0 < D'.calls
 ·have hd := h1.setp (w' := w1.setCell ⟨p, 2, none⟩ (.int .i64 (D'.calls - 1))) ((Fr.refl [p] w1).setCell (.inl (by simp)) _) (D'.calls - 1) (by have := h1.calls; omega) (h1.blk.set_ 2 _)
  have hf2 : Fr [p] w1 (w1.setCell ⟨p, 2, none⟩ (.int .i64 (D'.calls - 1))) := (Fr.refl [p] w1).setCell (.inl (by simp)) _
  have fin : AftD w p O D'.dec (w1.setCell ⟨p, 2, none⟩ (.int .i64 (D'.calls - 1))) := by
   refine ⟨O', ⟨X, ?_⟩, hO, f1.trans hf2 (fun i hi => by rw [List.mem_singleton.1 hi]; exact hO p h1.pO)⟩
   rw [DkM.dec, if_pos hpos]
   exact hd
  have hr : IntKind.i64.wrap (D'.calls - 1) = D'.calls - 1 := IntWalk.i64_in _ (by have := h1.calls; omega)
  have hcb := h1.calls
  have FIN := Lib.hid fin
  clear hd hf2 fin hc h
  go_wp2_with fail
  go_ret
  exact ⟨rfl, FIN.out⟩
 ·have fin : AftD w p O D'.dec w1 := by
   refine ⟨O', ⟨X, ?_⟩, hO, f1⟩
   rw [DkM.dec, if_neg hpos]
   exact h1
  have FIN := Lib.hid fin
  clear fin hc h
  go_wp2_with fail
  go_ret
  exact ⟨rfl, FIN.out⟩
theorem dkWithOff_dkFlush1 {w : World} {p : Nat} {O : List Nat} {D : DkM} {g3 : Nat} (h : Dsk w p O D) (ho : D.off = true) :
  Calls Tryz.prog 163 #[.pointer (some ⟨p, 0, none⟩), .func (.func 165) #[] #[.pointer (some ⟨g3, 0, none⟩)]] w fun e w' => e = .returned (.int .i64 102) ∧ w = w' := by
 have hf := dkOff_any h
 rw [ho] at hf
 clear ho
 go_enter Tryz.func163, Tryz.ntmps163
 go_wp2_with fail
 refine hf.mono ?_
 rintro e w1 ⟨rfl, rfl⟩
 go_wp2_with fail
 go_ret
 exact ⟨rfl, rfl⟩
theorem AftA.same {w : World} {p : Nat} {O : List Nat} {D : DkM} {X : DkX} (h : DskX w p O D X) : AftA w p O X D w := ⟨O, X, h, fun i hi => .inl hi, Fr.refl _ _, fun _ _ h => h⟩
theorem AftA.pre {w0 w w' : World} {p : Nat} {O : List Nat} {D : DkM} {X : DkX} (f : Fr [] w0 w) (h : AftA w p O X D w') : AftA w0 p O X D w' := by
 obtain ⟨O', X', h1, h2, h3, h4⟩ := h
 exact ⟨O', X', h1, fun i hi => (h2 i hi).imp id (fun h => Nat.le_trans f.size h), (f.mono (by simp)).trans h3 (fun i hi => .inl hi), fun g hg ha => h4 g (Nat.lt_of_lt_of_le hg f.size) (ha.keep_nil f)⟩
theorem AftA.eq {w w' : World} {p : Nat} {O : List Nat} {D D' : DkM} {X : DkX} (h : AftA w p O X D w') (e : D = D') : AftA w p O X D' w' := e ▸ h
def DkM.writeE (D : DkM) (x : Int) (n : Nat) : Int := if D.mayE x n ≠ 0 then D.mayE x n else if D.off = true then 102 else 0
def DkM.write (D : DkM) (x : Int) (b : List UInt8) : DkM := if D.mayE x b.length ≠ 0 then D else if D.off = true then D else (D.wr x b).dec
theorem DkM.may0 {D : DkM} {x : Int} {n : Nat} (h : D.mayE x n = 0) : D.is x = true ∧ n = 512 := by
 unfold DkM.mayE at h
 cases hx : D.is x
 ·rw [if_pos hx] at h; cases h
 ·rw [hx, if_neg (by decide)] at h
  by_cases hn : n = 512
  ·exact ⟨rfl, hn⟩
  ·rw [if_pos hn] at h; cases h
section
variable {w w' : World} {p : Nat} {O : List Nat} {D : DkM}
theorem box1D (w : World) (t : TypeId) (x : Value) : Blk (w.alloc (.cells #[x] t)) w.heap.size t #[x] ∧ Fr [] w (w.alloc (.cells #[x] t)) ∧ (w.alloc (.cells #[x] t)).heap.size = w.heap.size + 1 := ⟨Blk.new _ _ _, (Fr.refl _ _).alloc _, by simp⟩
theorem boxes3 (w : World) (t1 t2 t3 : TypeId) (x1 x2 x3 : Value) : Blk (((w.alloc (.cells #[x1] t1)).alloc (.cells #[x2] t2)).alloc (.cells #[x3] t3)) w.heap.size t1 #[x1] ∧
  Blk (((w.alloc (.cells #[x1] t1)).alloc (.cells #[x2] t2)).alloc (.cells #[x3] t3)) (w.heap.size + 1) t2 #[x2] ∧ Blk (((w.alloc (.cells #[x1] t1)).alloc (.cells #[x2] t2)).alloc (.cells #[x3] t3)) (w.heap.size + 1 + 1) t3 #[x3] ∧
  Fr [] w (((w.alloc (.cells #[x1] t1)).alloc (.cells #[x2] t2)).alloc (.cells #[x3] t3)) := by
 obtain ⟨a1, f1, z1⟩ := box1D w t1 x1
 generalize w.alloc (.cells #[x1] t1) = w1 at *
 obtain ⟨a2, f2, z2⟩ := box1D w1 t2 x2
 generalize w1.alloc (.cells #[x2] t2) = w2 at *
 obtain ⟨a3, f3, z3⟩ := box1D w2 t3 x3
 generalize w2.alloc (.cells #[x3] t3) = w3 at *
 rw [z1] at a2 z2
 rw [z2] at a3
 exact ⟨(a1.keep f2 (by simp)).keep f3 (by simp), a2.keep f3 (by simp), a3, (f1.trans_nil f2).trans_nil f3⟩
set_option maxHeartbeats 1000000 in
theorem dkWrite_any (h : Dsk w p O D) (x : Int) (A : Option Addr) (n c : Nat) (b : List UInt8) (hb : b.length = n) (rd : Rd w A (bvs b)) (hA : A = none → n = 0) (hl : (D.uns x).length ≤ 4398046511104) :
  Calls Tryz.prog 111 #[.pointer (some ⟨p, 0, none⟩), .int .i64 x, .slice A n c] w fun e w' => e = .returned (.int .i64 (D.writeE x n)) ∧ AftD w p O (D.write x b) w' := by
 have HB := Lib.hid hb
 by_cases hm : D.mayE x n = 0
 ·obtain ⟨hx, rfl⟩ := DkM.may0 hm
  cases ho : D.off
  ·have HE := Lib.hid (show D.writeE x 512 = 0 by rw [DkM.writeE, if_neg (by simpa using hm), ho]; rfl)
   have HW := Lib.hid (show D.write x b = (D.wr x b).dec by rw [DkM.write, hb, if_neg (by simpa using hm), ho]; rfl)
   have HM := Lib.hid hm
   have HO := Lib.hid ho
   have HX := Lib.hid hx
   clear hb hm ho hx
   go_enter Tryz.func111, Tryz.ntmps111
   go_wp2_with fail
   obtain ⟨k3, k4, k5, f3⟩ := boxes3 w 32 3 27 (.pointer (some ⟨p, 0, none⟩)) (.int .i64 x) (.slice A 512 c)
   obtain ⟨w3, hw3⟩ : ∃ w3, ((w.alloc (.cells #[.pointer (some ⟨p, 0, none⟩)] 32)).alloc (.cells #[.int .i64 x] 3)).alloc (.cells #[.slice A 512 c] 27) = w3 := ⟨_, rfl⟩
   rw [hw3] at k3 k4 k5 f3 ⊢
   obtain ⟨g3, hg3⟩ : ∃ g3, w.heap.size = g3 := ⟨_, rfl⟩
   rw [hg3] at k3 k4 k5 ⊢
   obtain ⟨g4, hg4⟩ : ∃ g4, g3 + 1 = g4 := ⟨_, rfl⟩
   rw [hg4] at k4 k5 ⊢
   obtain ⟨g5, hg5⟩ : ∃ g5, g4 + 1 = g5 := ⟨_, rfl⟩
   rw [hg5] at k5 ⊢
   have HG := Lib.hid (And.intro hg3 (And.intro hg4 hg5))
   clear hw3 hg3 hg4 hg5
   have cm := dkMay_any (h.keep_nil f3) x A 512 c
   rw [HM.out] at cm
   refine cm.mono ?_
   clear cm
   rintro e w4 ⟨rfl, rfl⟩
   have e3 := k3.cell 0
   simp at e3
   go_wp2_with fail
   have hO : g3 ∉ O ∧ g4 ∉ O ∧ g5 ∉ O := by
    obtain ⟨X, hX⟩ := h
    obtain ⟨a1, a2, a3⟩ := HG.out
    exact ⟨fun e => by have := hX.lt _ e; omega, fun e => by have := hX.lt _ e; omega, fun e => by have := hX.lt _ e; omega⟩
   refine (dkWith_dkWrite1 (h.keep_nil f3) HO.out (dkWrite1_any (h.keep_nil f3) k3 k4 k5 hO HX.out HB.out (rd.keep_nil f3) hA hl)).mono ?_
   rintro e w5 ⟨rfl, aft⟩
   have FIN := Lib.hid ((aft.pre f3).eq HW.out.symm)
   clear aft h
   go_wp2_with fail
   go_ret
   exact ⟨by rw [HE.out]; rfl, FIN.out⟩
  ·have HE := Lib.hid (show D.writeE x 512 = 102 by rw [DkM.writeE, if_neg (by simpa using hm), ho]; rfl)
   have HW := Lib.hid (show D.write x b = D by rw [DkM.write, hb, if_neg (by simpa using hm), ho]; rfl)
   have HM := Lib.hid hm
   have HO := Lib.hid ho
   clear hb hm ho hx
   go_enter Tryz.func111, Tryz.ntmps111
   go_wp2_with fail
   obtain ⟨k3, k4, k5, f3⟩ := boxes3 w 32 3 27 (.pointer (some ⟨p, 0, none⟩)) (.int .i64 x) (.slice A 512 c)
   obtain ⟨w3, hw3⟩ : ∃ w3, ((w.alloc (.cells #[.pointer (some ⟨p, 0, none⟩)] 32)).alloc (.cells #[.int .i64 x] 3)).alloc (.cells #[.slice A 512 c] 27) = w3 := ⟨_, rfl⟩
   rw [hw3] at k3 k4 k5 f3 ⊢
   obtain ⟨g3, hg3⟩ : ∃ g3, w.heap.size = g3 := ⟨_, rfl⟩
   rw [hg3] at k3 k4 k5 ⊢
   obtain ⟨g4, hg4⟩ : ∃ g4, g3 + 1 = g4 := ⟨_, rfl⟩
   rw [hg4] at k4 k5 ⊢
   obtain ⟨g5, hg5⟩ : ∃ g5, g4 + 1 = g5 := ⟨_, rfl⟩
   rw [hg5] at k5 ⊢
   have HG := Lib.hid (And.intro hg3 (And.intro hg4 hg5))
   clear hw3 hg3 hg4 hg5
   have cm := dkMay_any (h.keep_nil f3) x A 512 c
   rw [HM.out] at cm
   refine cm.mono ?_
   clear cm
   rintro e w4 ⟨rfl, rfl⟩
   have e3 := k3.cell 0
   simp at e3
   go_wp2_with fail
   refine (dkWithOff_dkWrite1 (h.keep_nil f3) HO.out).mono ?_
   rintro e w5 ⟨rfl, rfl⟩
   have FIN := Lib.hid (((AftD.same (h.keep_nil f3)).pre f3).eq HW.out.symm)
   clear h
   go_wp2_with fail
   go_ret
   exact ⟨by rw [HE.out]; rfl, FIN.out⟩
 ·have HE := Lib.hid (show D.writeE x n = D.mayE x n by rw [DkM.writeE, if_pos hm])
  have HW := Lib.hid (show D.write x b = D by rw [DkM.write, hb, if_pos hm])
  obtain ⟨k, hk⟩ : ∃ k, D.mayE x n = k := ⟨_, rfl⟩
  rw [hk] at hm
  have d : (k != 0) = true := by simp only [bne_iff_ne]; exact hm
  have HK := Lib.hid hk
  clear hb hm hk
  go_enter Tryz.func111, Tryz.ntmps111
  go_wp2_with fail
  obtain ⟨k3, k4, k5, f3⟩ := boxes3 w 32 3 27 (.pointer (some ⟨p, 0, none⟩)) (.int .i64 x) (.slice A n c)
  obtain ⟨w3, hw3⟩ : ∃ w3, ((w.alloc (.cells #[.pointer (some ⟨p, 0, none⟩)] 32)).alloc (.cells #[.int .i64 x] 3)).alloc (.cells #[.slice A n c] 27) = w3 := ⟨_, rfl⟩
  rw [hw3] at k3 k4 k5 f3 ⊢
  obtain ⟨g3, hg3⟩ : ∃ g3, w.heap.size = g3 := ⟨_, rfl⟩
  rw [hg3] at k3 k4 k5 ⊢
  obtain ⟨g4, hg4⟩ : ∃ g4, g3 + 1 = g4 := ⟨_, rfl⟩
  rw [hg4] at k4 k5 ⊢
  obtain ⟨g5, hg5⟩ : ∃ g5, g4 + 1 = g5 := ⟨_, rfl⟩
  rw [hg5] at k5 ⊢
  have HG := Lib.hid (And.intro hg3 (And.intro hg4 hg5))
  clear hw3 hg3 hg4 hg5
  have cm := dkMay_any (h.keep_nil f3) x A n c
  rw [HK.out] at cm
  refine cm.mono ?_
  clear cm
  rintro e w4 ⟨rfl, rfl⟩
  have FIN := Lib.hid (((AftD.same (h.keep_nil f3)).pre f3).eq HW.out.symm)
  clear h
  go_wp2_with fail
  go_ret
  exact ⟨by rw [HE.out, HK.out]; rfl, FIN.out⟩
end
end
section
open Go.RowKit
set_option maxRecDepth 100000
section
variable {w w' : World} {p : Nat} {O : List Nat} {D : DkM} {X : DkX}
theorem DskX.gT (h : DskX w p O D X) (e : TypeId) (he : 27 ≠ e) : NoTy w [X.g] e := by
 have := h.row.noTy (d := e) he
 simpa [Value.ownBlock] using this
theorem DskX.mT (h : DskX w p O D X) (e : TypeId) : NoTy w [X.m] e := fun i hi cs fz hc => by
 obtain ⟨D4, ⟨es, clock, hb, _⟩, _⟩ := h.map
 rw [List.mem_singleton.1 hi, hb] at hc
 cases hc
theorem DskX.pg (h : DskX w p O D X) : p ≠ X.g := fun e => h.row.ne_blk h.blk (by decide) (by rw [e]; rfl)
theorem DskX.um (h : DskX w p O D X) {x : Int} {v : Value} (hx : X.f x = some v) : v.ownBlock ≠ some X.m ∧ v.ownBlock ≠ some p := by
 obtain ⟨⟨us, r, _⟩, _⟩ := h.un x v hx
 refine ⟨fun e => ?_, r.ne_blk h.blk (by decide)⟩
 obtain ⟨D4, ⟨es, clock, hb, _⟩, _⟩ := h.map
 rcases r.2 with ⟨e2, _⟩ | ⟨g2, c2, cur2, fz2, e2, _, hg2, _⟩
 ·rw [e2] at e; cases e
 ·have : g2 = X.m := by rw [e2] at e; simpa [Value.ownBlock] using e
  subst this
  rw [hb] at hg2
  cases hg2
theorem DskX.setS (h : DskX w p O D X) {i : Nat} (hi : i < D.sure.length) {v : Value} {s : Option (List UInt8)} (hv : SuV w v s) :
  DskX (w.setCell ⟨X.g, i, none⟩ v) p O { D with sure := D.sure.set i s } { X with vs := X.vs.set i v } := by
 have f : Fr [X.g] w (w.setCell ⟨X.g, i, none⟩ v) := (Fr.refl [X.g] w).setCell (.inl (by simp)) v
 have n8 := h.gT 5 (by decide)
 have e : (D.sure.set i s).length = D.sure.length := List.length_set
 have rs := (h.row.setD i hi v).2.2
 refine ⟨h.pO, h.gO, h.mO, ?_, ?_, ?_, fun j a b => ?_, h.map.keep f (by simpa using h.mg), h.iff, fun x u hx => ?_, fun x hx => ?_, h.apart, fun j hj cs fz hc => ?_, fun j hj => Nat.lt_of_lt_of_le (h.lt j hj) f.size, h.calls⟩
 ·show Blk _ p _ #[.slice _ (D.sure.set i s).length _, _, _]
  rw [e]
  exact h.blk.keep f (by simpa using h.pg)
 ·show 1 ≤ (D.sure.set i s).length ∧ _
  rw [e]
  exact h.n1
 ·show Row _ 0 _ 1 (.slice _ (D.sure.set i s).length _) (D.sure.set i s).length (X.vs.set i v)
  rw [e]
  exact rs
 ·replace a : j < (X.vs.set i v).length := a
  replace b : j < (D.sure.set i s).length := b
  show SuV _ (X.vs.set i v)[j] (D.sure.set i s)[j]
  rw [List.length_set] at a b
  by_cases e2 : i = j
  ·subst e2
   simp only [List.getElem_set_self]
   exact hv.keepT f n8
  ·simp only [List.getElem_set_ne e2]
   exact (h.su j a b).keepT f n8
 ·obtain ⟨h1, g, h2, h3, h4⟩ := h.un x u hx
  exact ⟨h1.keep f n8 (fun g' hg' hm => by rw [h2] at hg'; cases hg'; exact h4 (List.mem_singleton.1 hm)), g, h2, h3, h4⟩
 ·show 0 ≤ x ∧ x < ((D.sure.set i s).length : Int)
  rw [e]
  exact h.rng x hx
 ·by_cases e2 : j = X.g
  ·subst e2
   exact rs.noTy (d := 5) (by decide) X.g (by simp [Value.ownBlock]) cs fz hc
  ·rw [f.same j (h.lt j hj) (by simpa using e2)] at hc
   exact h.no8 j hj cs fz hc
theorem DskX.clr (h : DskX w p O D X) (f : Fr [X.m] w w') (m : MapZ w' X.m 0 (fun _ => none)) : DskX w' p O { D with uns := fun _ => [] } { X with f := fun _ => none } := by
 have n8 := h.mT 5
 refine ⟨h.pO, h.gO, h.mO, h.blk.keep f (by simpa using fun e => h.mp e.symm), h.n1, h.row.keep f (fun g hg hm => ?_), fun i a b => (h.su i a b).keepT f n8, m.mono (by omega), fun x => ⟨fun _ => rfl, fun _ => rfl⟩, fun x v hx => (by cases hx), fun x hx => absurd rfl hx, fun x y u v _ hx => (by cases hx), fun j hj cs fz hc => ?_, fun j hj => Nat.lt_of_lt_of_le (h.lt j hj) f.size, h.calls⟩
 ·have : g = X.g := by simpa [Value.ownBlock] using hg.symm
  exact h.mg (by rw [← this]; exact (List.mem_singleton.1 hm).symm)
 ·by_cases e2 : j = X.m
  ·obtain ⟨D4, ⟨es, clock, hb, _⟩, _⟩ := m
   rw [e2, hb] at hc
   cases hc
  ·rw [f.same j (h.lt j hj) (by simpa using e2)] at hc
   exact h.no8 j hj cs fz hc
def DkM.fl (D : DkM) (left : Int → Bool) (i : Nat) : Option (List UInt8) := if left i then D.sure.getD i none else match (D.uns i).getLast? with | some b => some b | none => D.sure.getD i none
def DkM.flushL (D : DkM) (left : Int → Bool) : DkM := { D with sure := (List.range D.sure.length).map (D.fl left) }
theorem DkM.flushL_len (D : DkM) (left : Int → Bool) : (D.flushL left).sure.length = D.sure.length := by simp [DkM.flushL]
def DkM.flush1 (D : DkM) : DkM := { D.flushL (fun _ => false) with uns := fun _ => [] }
theorem DkM.flushL_start (D : DkM) (left : Int → Bool) (h : ∀ i : Nat, left i = false → D.uns i = []) : D.flushL left = D := by
 have e : (List.range D.sure.length).map (D.fl left) = D.sure := by
  apply List.ext_getElem (by simp)
  intro i h1 h2
  rw [List.getElem_map, List.getElem_range]
  have hg : D.sure.getD i none = D.sure[i] := by simp [h2]
  unfold DkM.fl
  cases hl : left i
  ·rw [if_neg (by simp), h i hl]
   exact hg
  ·rw [if_pos rfl, hg]
 unfold DkM.flushL
 rw [e]
theorem DkM.flushL_end (D : DkM) (left : Int → Bool) (h : ∀ i : Nat, i < D.sure.length → left i = false) : D.flushL left = D.flushL (fun _ => false) := by
 unfold DkM.flushL
 congr 1
 apply List.map_congr_left
 intro i hi
 unfold DkM.fl
 rw [h i (by simpa using hi)]
theorem DkM.flushL_step (D : DkM) (left : Int → Bool) {i : Nat} (hi : i < D.sure.length) {b : List UInt8} (hb : (D.uns i).getLast? = some b) : D.flushL (fun y => left y && !(y == (i : Int))) = { D.flushL left with sure := (D.flushL left).sure.set i (some b) } := by
 unfold DkM.flushL
 congr 1
 apply List.ext_getElem (by simp)
 intro j h1 h2
 rw [List.getElem_map, List.getElem_range]
 by_cases e : i = j
 ·subst e
  rw [List.getElem_set_self]
  unfold DkM.fl
  simp [hb]
 ·rw [List.getElem_set_ne e, List.getElem_map, List.getElem_range]
  unfold DkM.fl
  have : ((j : Int) == (i : Int)) = false := by rw [beq_eq_false_iff_ne]; omega
  simp only [this, Bool.not_false, Bool.and_true]
theorem RangeZ.noTy {b r n cnt : Nat} {f : Int → Option Value} {left : Int → Bool} (h : RangeZ w b r n f left cnt) (e : TypeId) : NoTy w [r] e := fun i hi cs fz hc => by
 obtain ⟨D4, lf, ⟨es, clock, since, seen, c0, _, _, _, _, hr, _⟩, _⟩ := h
 rw [List.mem_singleton.1 hi, hr] at hc
 cases hc
theorem RangeZ.ne {b r n cnt : Nat} {f : Int → Option Value} {left : Int → Bool} (h : RangeZ w b r n f left cnt) : r ≠ b := by
 obtain ⟨D4, lf, h, _⟩ := h
 exact h.ne
theorem UR.last {v : Value} {L : List (List UInt8)} (h : UR w v L) (hL : L ≠ []) : ∃ g n c b u, v = .slice (some ⟨g, 0, none⟩) (n + 1) c ∧ L.getLast? = some b ∧ w.cell? ⟨g, n, none⟩ = some u ∧ BlkB w u b ∧ n + 1 ≤ 9223372036854775807 := by
 obtain ⟨us, r, hb⟩ := h
 obtain ⟨n, hn⟩ : ∃ n, L.length = n + 1 := ⟨L.length - 1, by have := List.length_pos_iff.2 hL; omega⟩
 have hul : us.length = n + 1 := by have := r.1; omega
 rw [hn] at r
 have hn48 : n + 1 ≤ 9223372036854775807 := by obtain ⟨_, _, _, h1, h2, -⟩ := r.shape; unfold maxLen at h2; omega
 obtain ⟨g, c, rfl⟩ := r.hdD (by omega)
 obtain ⟨g', o', e', hc⟩ := r.rdD.1 (by intro h0; rw [h0] at hul; simp at hul)
 cases e'
 have cn := hc n _ (List.getElem?_eq_getElem (by omega))
 rw [Nat.zero_add] at cn
 exact ⟨g, n, c, _, _, rfl, by rw [List.getLast?_eq_getElem?, show L.length - 1 = n by omega, List.getElem?_eq_getElem], cn, hb n (by omega) (by omega), hn48⟩
set_option maxHeartbeats 2000000 in
theorem dkFlush1_any {g3 : Nat} (h : Dsk w p O D) (k3 : Blk w g3 32 #[.pointer (some ⟨p, 0, none⟩)]) (hO : g3 ∉ O) :
  Calls Tryz.prog 165 #[.pointer (some ⟨g3, 0, none⟩)] w fun e w' => e = .returned (.tuple #[]) ∧ AftD w p O D.flush1 w' := by
 obtain ⟨X, h⟩ := h
 have c1 := h.c1
 have mz := h.map
 have e3 := k3.cell 0
 simp at e3
 obtain ⟨r, hr⟩ : ∃ r, w.heap.size = r := ⟨_, rfl⟩
 have HR := Lib.hid (And.intro hr hO)
 have HOR := Lib.hid (show (∀ i ∈ O, i ≠ r) ∧ g3 ≠ r from ⟨fun i hi => by have := h.lt i hi; omega, by have := k3.lt; omega⟩)
 clear hr hO
 go_enter Tryz.func165, Tryz.ntmps165
 go_wp2_with (first | (at_range; refine wpList_rangeZ rfl rfl Tryz.underlying116 rfl mz ?_; intro w0 cnt0 hrg f0 s0; rw [HR.out.1]; rw [HR.out.1] at hrg; go_frame))
 have h0 := h.keep_nil f0
 have F0 : Fr O w w0 := f0.mono (by simp)
 clear f0 s0 mz h
 go_loopw [1] (fun _ wr => ∃ left cnt vs, RangeZ wr X.m r 4096 X.f left cnt ∧ DskX wr p O (D.flushL left) { X with vs := vs } ∧ Fr O w wr) (fun _ wr => wr.rangeLeft X.m r)
 case atStart =>
  refine ⟨_, _, X.vs, hrg, ?_, F0⟩
  rw [DkM.flushL_start]
  ·exact h0
  ·intro i hi
   have : X.f i = none := by simpa using hi
   exact (h0.iff i).1 this
 case round =>
  clear hrg h0 F0
  obtain ⟨left, cnt, vs, hrg, h, F⟩ := hrel
  have e3r := F.cell HR.out.2 e3
  have c1r := h.c1
  go_wp2_with (at_next; refine wpList_nextZ rfl rfl rfl hrg ?_ ?_)
  ·intro hl0
   have mz := hrg.map
   go_wp2_with (refine wpList_clearZ rfl rfl Tryz.underlying116 rfl mz ?_; intro w2 m2 f2 s2)
   go_returns
   refine ⟨rfl, O, ⟨{ ({ X with vs := vs } : DkX) with f := fun _ => none }, ?_⟩, fun i hi => .inl hi, F.trans f2 (fun i hi => .inl (by rw [List.mem_singleton.1 hi]; exact h.mO))⟩
   have h2 := h.clr f2 m2
   rw [DkM.flushL_end D left (fun i hi => hl0 i (wfZ_of (by have := h.n1.2; rw [DkM.flushL_len] at this; omega)))] at h2
   exact h2
  ·intro x v w1 cnt1 hwx hlx hfx hrg1 hlt f1 s1 hen
   have rO : r ∉ O := fun hm => HOR.out.1 r hm rfl
   have h1 := h.keep f1 (fun i hi hm => rO (by rw [← List.mem_singleton.1 hm]; exact hi)) (hrg.noTy _)
   obtain ⟨u1, _⟩ := h1.un x v hfx
   have hne : D.uns x ≠ [] := fun e => by
    have h2 : X.f x = none := (h1.iff x).2 e
    rw [hfx] at h2; cases h2
   obtain ⟨hx0, hx1⟩ := h1.rng x hne
   rw [DkM.flushL_len] at hx1
   obtain ⟨k, rfl⟩ : ∃ k : Nat, x = k := ⟨x.toNat, by omega⟩
   have hk : k < D.sure.length := by omega
   obtain ⟨g, n, c, b, u, rfl, hlast, cu, bu, hn48⟩ := u1.last hne
   have e3s := f1.cell (by simpa using HOR.out.2) e3r
   have c0s := h1.c0
   rw [DkM.flushL_len] at c0s
   obtain ⟨hb5, rb⟩ := id bu
   obtain ⟨g2, c2, rfl⟩ := rb.hdD (by omega)
   have srow := h1.row
   rw [DkM.flushL_len] at srow
   have x0 := (srow.setD k hk .nilFunc).1
   have y0 := (srow.setD k hk .nilFunc).2.1
   obtain ⟨N, hN⟩ : ∃ N, D.sure.length = N := ⟨_, rfl⟩
   rw [hN] at c0s hk
   dsimp only at x0 y0 c0s
   have hvk : k < vs.length := by have := srow.1; dsimp only at this; omega
   rw [List.getElem?_eq_getElem hvk] at x0
   obtain ⟨old, hold⟩ : ∃ old, vs[k] = old := ⟨_, rfl⟩
   rw [hold] at x0
   have K0 : (0 : Int) < (n : Int) + 1 := by omega
   have UN : IntKind.i64.wrap ((n : Int) + 1 - 1) = n := by rw [show (n : Int) + 1 - 1 = n by omega]; exact IntWalk.i64_in _ (by omega)
   have UN2 : IntKind.i64.wrap (n : Int) = n := IntWalk.i64_in _ (by omega)
   have HK := Lib.hid (And.intro hN hk)
   have HH := Lib.hid h1
   have HB := Lib.hid (And.intro hlast bu)
   have HL := Lib.hid hlt
   have HLE := Lib.hid hrg.left_eq
   clear hold hN h1 hlast bu rb hb5 srow hne h hrg hlt hwx hlx
   go_upto_region 3 with fail
   have K1 : (n : Int) < (n : Int) + 1 := by omega
   go_still_tail 12, (by kernel_rfl)
   have fz := (Fr.refl [] w1).drew
   obtain ⟨w8, hw8⟩ : ∃ w8, w1.drew = w8 := ⟨_, rfl⟩
   change wpList _ _ _ _ _ (World.drew w1)
   rw [hw8] at fz ⊢
   replace x0 := fz.cell (by simp) x0
   have h8 := HH.out.keep_nil fz
   have srow := h8.row
   rw [DkM.flushL_len, HK.out.1] at srow
   replace y0 := (srow.setD k hk .nilFunc).2.1
   dsimp only at y0
   have hset := h8.setS (i := k) (by rw [DkM.flushL_len, HK.out.1]; exact hk) (v := .slice (some ⟨g2, 0, none⟩) 512 c2) (s := some b) (HB.out.2.keep_nil fz)
   rw [← DkM.flushL_step D left (by rw [HK.out.1]; exact hk) HB.out.1] at hset
   have fs : Fr [X.g] w8 (w8.setCell ⟨X.g, k, none⟩ (.slice (some ⟨g2, 0, none⟩) 512 c2)) := (Fr.refl [X.g] w8).setCell (.inl (by simp)) _
   have hg2 : r ≠ X.g := fun e => HOR.out.1 X.g h8.gO e.symm
   have hrg8 := (hrg1.keep fz (by simp) (by simp)).keep fs (by simpa using h8.mg) (by simpa using hg2)
   have F8 := ((F.trans f1 (fun i hi => .inr (by rw [List.mem_singleton.1 hi, HR.out.1]; exact Nat.le_refl _))).trans_nil fz).trans fs (fun i hi => .inl (by rw [List.mem_singleton.1 hi]; exact h8.gO))
   have HS := Lib.hid (And.intro hset (And.intro hrg8 F8))
   clear h8 srow hset hrg8 F8 hw8 fz F hrg1
   go_wp2_with fail
   obtain ⟨hset, hrg8, F8⟩ := HS.out
   refine ⟨⟨_, cnt1, _, hrg8, hset, F8⟩, ?_⟩
   rw [hrg8.left_eq, HLE.out]
   exact HL.out
def DkM.flushE (D : DkM) : Int := if D.off = true then 102 else 0
def DkM.flush (D : DkM) : DkM := if D.off = true then D else D.flush1.dec
theorem dkFlush_any (h : Dsk w p O D) : Calls Tryz.prog 112 #[.pointer (some ⟨p, 0, none⟩)] w fun e w' => e = .returned (.int .i64 D.flushE) ∧ AftD w p O D.flush w' := by
 obtain ⟨k1, f1, z1⟩ := box1D w 32 (.pointer (some ⟨p, 0, none⟩))
 have hO : w.heap.size ∉ O := fun e => by obtain ⟨X, hX⟩ := h; have := hX.lt _ e; omega
 obtain ⟨w1, hw1⟩ : ∃ w1, w.alloc (.cells #[.pointer (some ⟨p, 0, none⟩)] 32) = w1 := ⟨_, rfl⟩
 obtain ⟨g3, hg3⟩ : ∃ g3, w.heap.size = g3 := ⟨_, rfl⟩
 rw [hw1] at k1 f1
 rw [hg3] at k1 hO
 have h1 := h.keep_nil f1
 have e1 := k1.cell 0
 simp at e1
 have HW := Lib.hid (And.intro hw1 hg3)
 cases ho : D.off
 ·have HE := Lib.hid (show D.flushE = 0 by rw [DkM.flushE, ho]; rfl)
  have HD := Lib.hid (show D.flush1.dec = D.flush by rw [DkM.flush, ho]; rfl)
  have cw := dkWith_dkFlush1 h1 ho (dkFlush1_any h1 k1 hO)
  have cm := dkMade_any h1
  clear ho hw1 hg3 z1 h hO
  go_enter Tryz.func112, Tryz.ntmps112
  go_wp2_with fail
  rw [HW.out.1, HW.out.2]
  refine cm.mono ?_
  rintro e w4 ⟨rfl, rfl⟩
  go_wp2_with fail
  refine cw.mono ?_
  rintro e w5 ⟨rfl, aft⟩
  have FIN := Lib.hid ((aft.pre f1).eq HD.out)
  clear aft h1 cw cm
  go_wp2_with fail
  go_ret
  exact ⟨by rw [HE.out]; rfl, FIN.out⟩
 ·have HE := Lib.hid (show D.flushE = 102 by rw [DkM.flushE, ho]; rfl)
  have HD := Lib.hid (show D = D.flush by rw [DkM.flush, ho]; rfl)
  have cw := dkWithOff_dkFlush1 (g3 := g3) h1 ho
  have cm := dkMade_any h1
  have FIN := Lib.hid (((AftD.same h1).pre f1).eq HD.out)
  clear ho hw1 hg3 z1 h hO
  go_enter Tryz.func112, Tryz.ntmps112
  go_wp2_with fail
  rw [HW.out.1, HW.out.2]
  refine cm.mono ?_
  rintro e w4 ⟨rfl, rfl⟩
  go_wp2_with fail
  refine cw.mono ?_
  rintro e w5 ⟨rfl, rfl⟩
  clear h1 cw cm
  go_wp2_with fail
  go_ret
  exact ⟨by rw [HE.out]; rfl, FIN.out⟩
end
end
end Go.Proofs.YtbanogfljpkbkaaGreatDoor
