/-
  Layer 10 (disk): with; Write, whole.
-/
import Derived.Test.YtdhhnioklbnicaaDkE
set_option linter.unusedSimpArgs false
set_option linter.unusedVariables false
set_option linter.unnecessarySimpa false
namespace Go.Proofs.Ytdhhnioklbnicaa
open Go.RowKit
set_option maxRecDepth 100000

def DkM.dec (D : DkM) : DkM := { D with calls := if 0 < D.calls then D.calls - 1 else D.calls }
/-- Behind a call: the disk is D', whatever lies behind it. -/
def AftD (w : World) (p : Nat) (O : List Nat) (D' : DkM) (w' : World) : Prop := ∃ O', Dsk w' p O' D' ∧ (∀ i ∈ O', i ∈ O ∨ w.heap.size ≤ i) ∧ Fr O w w'
theorem AftD.same {w : World} {p : Nat} {O : List Nat} {D : DkM} (h : Dsk w p O D) : AftD w p O D w := ⟨O, h, fun i hi => .inl hi, Fr.refl _ _⟩
theorem AftD.pre {w0 w w' : World} {p : Nat} {O : List Nat} {D : DkM} (f : Fr [] w0 w) (h : AftD w p O D w') : AftD w0 p O D w' := by
  obtain ⟨O', h1, h2, h3⟩ := h
  exact ⟨O', h1, fun i hi => (h2 i hi).imp id (fun h => Nat.le_trans f.size h), (f.mono (by simp)).trans h3 (fun i hi => .inl hi)⟩
theorem AftD.trans {w w1 w2 : World} {p : Nat} {O O1 : List Nat} {D : DkM} (f : Fr O w w1) (h1 : ∀ i ∈ O1, i ∈ O ∨ w.heap.size ≤ i) (h : AftD w1 p O1 D w2) : AftD w p O D w2 := by
  obtain ⟨O', k1, k2, k3⟩ := h
  refine ⟨O', k1, fun i hi => ?_, f.trans k3 h1⟩
  rcases k2 i hi with h2 | h2
  · exact h1 i h2
  · exact .inr (Nat.le_trans f.size h2)
theorem AftD.eq {w w' : World} {p : Nat} {O : List Nat} {D D' : DkM} (h : AftD w p O D w') (e : D = D') : AftD w p O D' w' := e ▸ h
theorem AftD.post {w w' w'' : World} {p : Nat} {O : List Nat} {D : DkM} (h : AftD w p O D w') (f : Fr [] w' w'') : AftD w p O D w'' := by
  obtain ⟨O', k1, k2, k3⟩ := h
  exact ⟨O', k1.keep_nil f, k2, k3.trans_nil f⟩

theorem dkWith_dkWrite1 {w : World} {p : Nat} {O : List Nat} {D D' : DkM} {g3 g4 g5 : Nat} (h : Dsk w p O D) (ho : D.off = false) (hc : Calls Try.prog 41 #[.pointer (some ⟨g3, 0, none⟩), .pointer (some ⟨g4, 0, none⟩), .pointer (some ⟨g5, 0, none⟩)] w fun e w' => e = .returned (.tuple #[]) ∧ AftD w p O D' w') :
    Calls Try.prog 40 #[.pointer (some ⟨p, 0, none⟩), .func (.func 41) #[] #[.pointer (some ⟨g3, 0, none⟩), .pointer (some ⟨g4, 0, none⟩), .pointer (some ⟨g5, 0, none⟩)]] w fun e w' => e = .returned (.int .i64 0) ∧ AftD w p O D'.dec w' := by
  have hf := dkOff_any h
  rw [ho] at hf
  clear ho
  go_enter Try.func40, Try.ntmps40
  go_wp2_with fail
  refine hf.mono ?_
  rintro e w1 ⟨rfl, rfl⟩
  go_wp2_with fail
  refine hc.mono ?_
  rintro e w1 ⟨rfl, O', ⟨X, h1⟩, hO, f1⟩
  have c2 := h1.c2
  have z2 := h1.blk.frozen 2
  by_cases hpos : 0 < D'.calls
  · have hd := h1.setp (w' := w1.setCell ⟨p, 2, none⟩ (.int .i64 (D'.calls - 1))) ((Fr.refl [p] w1).setCell (.inl (by simp)) _) (D'.calls - 1) (by have := h1.calls; omega) (h1.blk.set_ 2 _)
    have hf2 : Fr [p] w1 (w1.setCell ⟨p, 2, none⟩ (.int .i64 (D'.calls - 1))) := (Fr.refl [p] w1).setCell (.inl (by simp)) _
    have fin : AftD w p O D'.dec (w1.setCell ⟨p, 2, none⟩ (.int .i64 (D'.calls - 1))) := by
      refine ⟨O', ⟨X, ?_⟩, hO, f1.trans hf2 (fun i hi => by rw [List.mem_singleton.1 hi]; exact hO p h1.pO)⟩
      rw [DkM.dec, if_pos hpos]
      exact hd
    have hr : IntKind.i64.wrap (D'.calls - 1) = D'.calls - 1 := IntWalk.i64_in _ (by have := h1.calls; omega)
    have hcb := h1.calls
    have FIN := Lib.hid fin
    clear hd hf2 fin hc h
    go_wp2_with fail
    go_ret
    exact ⟨rfl, FIN.out⟩
  · have fin : AftD w p O D'.dec w1 := by
      refine ⟨O', ⟨X, ?_⟩, hO, f1⟩
      rw [DkM.dec, if_neg hpos]
      exact h1
    have FIN := Lib.hid fin
    clear fin hc h
    go_wp2_with fail
    go_ret
    exact ⟨rfl, FIN.out⟩
theorem dkWithOff_dkWrite1 {w : World} {p : Nat} {O : List Nat} {D : DkM} {g3 g4 g5 : Nat} (h : Dsk w p O D) (ho : D.off = true) :
    Calls Try.prog 40 #[.pointer (some ⟨p, 0, none⟩), .func (.func 41) #[] #[.pointer (some ⟨g3, 0, none⟩), .pointer (some ⟨g4, 0, none⟩), .pointer (some ⟨g5, 0, none⟩)]] w fun e w' => e = .returned (.int .i64 102) ∧ w = w' := by
  have hf := dkOff_any h
  rw [ho] at hf
  clear ho
  go_enter Try.func40, Try.ntmps40
  go_wp2_with fail
  refine hf.mono ?_
  rintro e w1 ⟨rfl, rfl⟩
  go_wp2_with fail
  go_ret
  exact ⟨rfl, rfl⟩
theorem dkWith_dkFlush1 {w : World} {p : Nat} {O : List Nat} {D D' : DkM} {g3 : Nat} (h : Dsk w p O D) (ho : D.off = false) (hc : Calls Try.prog 43 #[.pointer (some ⟨g3, 0, none⟩)] w fun e w' => e = .returned (.tuple #[]) ∧ AftD w p O D' w') :
    Calls Try.prog 40 #[.pointer (some ⟨p, 0, none⟩), .func (.func 43) #[] #[.pointer (some ⟨g3, 0, none⟩)]] w fun e w' => e = .returned (.int .i64 0) ∧ AftD w p O D'.dec w' := by
  have hf := dkOff_any h
  rw [ho] at hf
  clear ho
  go_enter Try.func40, Try.ntmps40
  go_wp2_with fail
  refine hf.mono ?_
  rintro e w1 ⟨rfl, rfl⟩
  go_wp2_with fail
  refine hc.mono ?_
  rintro e w1 ⟨rfl, O', ⟨X, h1⟩, hO, f1⟩
  have c2 := h1.c2
  have z2 := h1.blk.frozen 2
  by_cases hpos : 0 < D'.calls
  · have hd := h1.setp (w' := w1.setCell ⟨p, 2, none⟩ (.int .i64 (D'.calls - 1))) ((Fr.refl [p] w1).setCell (.inl (by simp)) _) (D'.calls - 1) (by have := h1.calls; omega) (h1.blk.set_ 2 _)
    have hf2 : Fr [p] w1 (w1.setCell ⟨p, 2, none⟩ (.int .i64 (D'.calls - 1))) := (Fr.refl [p] w1).setCell (.inl (by simp)) _
    have fin : AftD w p O D'.dec (w1.setCell ⟨p, 2, none⟩ (.int .i64 (D'.calls - 1))) := by
      refine ⟨O', ⟨X, ?_⟩, hO, f1.trans hf2 (fun i hi => by rw [List.mem_singleton.1 hi]; exact hO p h1.pO)⟩
      rw [DkM.dec, if_pos hpos]
      exact hd
    have hr : IntKind.i64.wrap (D'.calls - 1) = D'.calls - 1 := IntWalk.i64_in _ (by have := h1.calls; omega)
    have hcb := h1.calls
    have FIN := Lib.hid fin
    clear hd hf2 fin hc h
    go_wp2_with fail
    go_ret
    exact ⟨rfl, FIN.out⟩
  · have fin : AftD w p O D'.dec w1 := by
      refine ⟨O', ⟨X, ?_⟩, hO, f1⟩
      rw [DkM.dec, if_neg hpos]
      exact h1
    have FIN := Lib.hid fin
    clear fin hc h
    go_wp2_with fail
    go_ret
    exact ⟨rfl, FIN.out⟩
theorem dkWithOff_dkFlush1 {w : World} {p : Nat} {O : List Nat} {D : DkM} {g3 : Nat} (h : Dsk w p O D) (ho : D.off = true) :
    Calls Try.prog 40 #[.pointer (some ⟨p, 0, none⟩), .func (.func 43) #[] #[.pointer (some ⟨g3, 0, none⟩)]] w fun e w' => e = .returned (.int .i64 102) ∧ w = w' := by
  have hf := dkOff_any h
  rw [ho] at hf
  clear ho
  go_enter Try.func40, Try.ntmps40
  go_wp2_with fail
  refine hf.mono ?_
  rintro e w1 ⟨rfl, rfl⟩
  go_wp2_with fail
  go_ret
  exact ⟨rfl, rfl⟩
theorem AftA.same {w : World} {p : Nat} {O : List Nat} {D : DkM} {X : DkX} (h : DskX w p O D X) : AftA w p O X D w := ⟨O, X, h, fun i hi => .inl hi, Fr.refl _ _, fun _ _ h => h⟩
theorem AftA.pre {w0 w w' : World} {p : Nat} {O : List Nat} {D : DkM} {X : DkX} (f : Fr [] w0 w) (h : AftA w p O X D w') : AftA w0 p O X D w' := by
  obtain ⟨O', X', h1, h2, h3, h4⟩ := h
  exact ⟨O', X', h1, fun i hi => (h2 i hi).imp id (fun h => Nat.le_trans f.size h), (f.mono (by simp)).trans h3 (fun i hi => .inl hi), fun g hg ha => h4 g (Nat.lt_of_lt_of_le hg f.size) (ha.keep_nil f)⟩
theorem AftA.eq {w w' : World} {p : Nat} {O : List Nat} {D D' : DkM} {X : DkX} (h : AftA w p O X D w') (e : D = D') : AftA w p O X D' w' := e ▸ h
theorem dkWithA {w : World} {p : Nat} {O : List Nat} {D D' : DkM} {g3 g4 g5 : Nat} {X : DkX} (h : DskX w p O D X) (ho : D.off = false) (hc : Calls Try.prog 41 #[.pointer (some ⟨g3, 0, none⟩), .pointer (some ⟨g4, 0, none⟩), .pointer (some ⟨g5, 0, none⟩)] w fun e w' => e = .returned (.tuple #[]) ∧ AftA w p O X D' w') :
    Calls Try.prog 40 #[.pointer (some ⟨p, 0, none⟩), .func (.func 41) #[] #[.pointer (some ⟨g3, 0, none⟩), .pointer (some ⟨g4, 0, none⟩), .pointer (some ⟨g5, 0, none⟩)]] w fun e w' => e = .returned (.int .i64 0) ∧ AftA w p O X D'.dec w' := by
  have hf := dkOff_any ⟨X, h⟩
  rw [ho] at hf
  clear ho
  go_enter Try.func40, Try.ntmps40
  go_wp2_with fail
  refine hf.mono ?_
  rintro e w1 ⟨rfl, rfl⟩
  go_wp2_with fail
  refine hc.mono ?_
  rintro e w1 ⟨rfl, O', X', h1, hO, f1, hav⟩
  have c2 := h1.c2
  have z2 := h1.blk.frozen 2
  by_cases hpos : 0 < D'.calls
  · have hd := h1.setp (w' := w1.setCell ⟨p, 2, none⟩ (.int .i64 (D'.calls - 1))) ((Fr.refl [p] w1).setCell (.inl (by simp)) _) (D'.calls - 1) (by have := h1.calls; omega) (h1.blk.set_ 2 _)
    have hf2 : Fr [p] w1 (w1.setCell ⟨p, 2, none⟩ (.int .i64 (D'.calls - 1))) := (Fr.refl [p] w1).setCell (.inl (by simp)) _
    have fin : AftA w p O X D'.dec (w1.setCell ⟨p, 2, none⟩ (.int .i64 (D'.calls - 1))) := by
      refine ⟨O', X', ?_, hO, f1.trans hf2 (fun i hi => by rw [List.mem_singleton.1 hi]; exact hO p h1.pO), fun g hg ha => (hav g hg ha).keep hf2 (fun x v hx k hk hm => by
        rw [List.mem_singleton.1 hm] at hk
        obtain ⟨⟨us, r, _⟩, _⟩ := h1.un x v hx
        exact r.ne_blk h1.blk (by decide) hk)⟩
      rw [DkM.dec, if_pos hpos]
      exact hd
    have hr : IntKind.i64.wrap (D'.calls - 1) = D'.calls - 1 := IntWalk.i64_in _ (by have := h1.calls; omega)
    have hcb := h1.calls
    have FIN := Lib.hid fin
    clear hd hf2 fin hc h hav
    go_wp2_with fail
    go_ret
    exact ⟨rfl, FIN.out⟩
  · have fin : AftA w p O X D'.dec w1 := by
      refine ⟨O', X', ?_, hO, f1, hav⟩
      rw [DkM.dec, if_neg hpos]
      exact h1
    have FIN := Lib.hid fin
    clear fin hc h hav
    go_wp2_with fail
    go_ret
    exact ⟨rfl, FIN.out⟩

def DkM.writeE (D : DkM) (x : Int) (n : Nat) : Int := if D.mayE x n ≠ 0 then D.mayE x n else if D.off = true then 102 else 0
def DkM.write (D : DkM) (x : Int) (b : List UInt8) : DkM := if D.mayE x b.length ≠ 0 then D else if D.off = true then D else (D.wr x b).dec
theorem DkM.may0 {D : DkM} {x : Int} {n : Nat} (h : D.mayE x n = 0) : D.is x = true ∧ n = 512 := by
  unfold DkM.mayE at h
  cases hx : D.is x
  · rw [if_pos hx] at h; cases h
  · rw [hx, if_neg (by decide)] at h
    by_cases hn : n = 512
    · exact ⟨rfl, hn⟩
    · rw [if_pos hn] at h; cases h
section
variable {w w' : World} {p : Nat} {O : List Nat} {D : DkM}
theorem box1D (w : World) (t : TypeId) (x : Value) : Blk (w.alloc (.cells #[x] t)) w.heap.size t #[x] ∧ Fr [] w (w.alloc (.cells #[x] t)) ∧ (w.alloc (.cells #[x] t)).heap.size = w.heap.size + 1 := ⟨Blk.new _ _ _, (Fr.refl _ _).alloc _, by simp⟩
theorem boxes3 (w : World) (t1 t2 t3 : TypeId) (x1 x2 x3 : Value) : Blk (((w.alloc (.cells #[x1] t1)).alloc (.cells #[x2] t2)).alloc (.cells #[x3] t3)) w.heap.size t1 #[x1] ∧
    Blk (((w.alloc (.cells #[x1] t1)).alloc (.cells #[x2] t2)).alloc (.cells #[x3] t3)) (w.heap.size + 1) t2 #[x2] ∧ Blk (((w.alloc (.cells #[x1] t1)).alloc (.cells #[x2] t2)).alloc (.cells #[x3] t3)) (w.heap.size + 1 + 1) t3 #[x3] ∧
    Fr [] w (((w.alloc (.cells #[x1] t1)).alloc (.cells #[x2] t2)).alloc (.cells #[x3] t3)) := by
  obtain ⟨a1, f1, z1⟩ := box1D w t1 x1
  generalize w.alloc (.cells #[x1] t1) = w1 at *
  obtain ⟨a2, f2, z2⟩ := box1D w1 t2 x2
  generalize w1.alloc (.cells #[x2] t2) = w2 at *
  obtain ⟨a3, f3, z3⟩ := box1D w2 t3 x3
  generalize w2.alloc (.cells #[x3] t3) = w3 at *
  rw [z1] at a2 z2
  rw [z2] at a3
  exact ⟨(a1.keep f2 (by simp)).keep f3 (by simp), a2.keep f3 (by simp), a3, (f1.trans_nil f2).trans_nil f3⟩
theorem dkWrite_nil (w : World) (x : Int) (A : Option Addr) (n c : Nat) : Calls Try.prog 11 #[.pointer none, .int .i64 x, .slice A n c] w fun e w' => e = .returned (.int .i64 6) ∧ Fr [] w w' := by
  go_enter Try.func11, Try.ntmps11
  go_wp2_with fail
  obtain ⟨k3, k4, k5, f3⟩ := boxes3 w 24 3 31 (.pointer none) (.int .i64 x) (.slice A n c)
  obtain ⟨w3, hw3⟩ : ∃ w3, ((w.alloc (.cells #[.pointer none] 24)).alloc (.cells #[.int .i64 x] 3)).alloc (.cells #[.slice A n c] 31) = w3 := ⟨_, rfl⟩
  rw [hw3] at k3 k4 k5 f3 ⊢
  obtain ⟨g3, hg3⟩ : ∃ g3, w.heap.size = g3 := ⟨_, rfl⟩
  rw [hg3] at k3 k4 k5 ⊢
  obtain ⟨g4, hg4⟩ : ∃ g4, g3 + 1 = g4 := ⟨_, rfl⟩
  rw [hg4] at k4 k5 ⊢
  obtain ⟨g5, hg5⟩ : ∃ g5, g4 + 1 = g5 := ⟨_, rfl⟩
  rw [hg5] at k5 ⊢
  have HG := Lib.hid (And.intro hg3 (And.intro hg4 hg5))
  clear hw3 hg3 hg4 hg5
  refine (dkMay_nil w3 x _).mono ?_
  rintro e w4 ⟨rfl, rfl⟩
  go_wp2_with fail
  go_ret
  exact ⟨rfl, f3⟩
set_option maxHeartbeats 1000000 in
theorem dkWrite_any (h : Dsk w p O D) (x : Int) (A : Option Addr) (n c : Nat) (b : List UInt8) (hb : b.length = n) (rd : Rd w A (bvs b)) (hA : A = none → n = 0) (hl : (D.uns x).length ≤ 4398046511104) :
    Calls Try.prog 11 #[.pointer (some ⟨p, 0, none⟩), .int .i64 x, .slice A n c] w fun e w' => e = .returned (.int .i64 (D.writeE x n)) ∧ AftD w p O (D.write x b) w' := by
  have HB := Lib.hid hb
  by_cases hm : D.mayE x n = 0
  · obtain ⟨hx, rfl⟩ := DkM.may0 hm
    cases ho : D.off
    · have HE := Lib.hid (show D.writeE x 512 = 0 by rw [DkM.writeE, if_neg (by simpa using hm), ho]; rfl)
      have HW := Lib.hid (show D.write x b = (D.wr x b).dec by rw [DkM.write, hb, if_neg (by simpa using hm), ho]; rfl)
      have HM := Lib.hid hm
      have HO := Lib.hid ho
      have HX := Lib.hid hx
      clear hb hm ho hx
      go_enter Try.func11, Try.ntmps11
      go_wp2_with fail
      obtain ⟨k3, k4, k5, f3⟩ := boxes3 w 24 3 31 (.pointer (some ⟨p, 0, none⟩)) (.int .i64 x) (.slice A 512 c)
      obtain ⟨w3, hw3⟩ : ∃ w3, ((w.alloc (.cells #[.pointer (some ⟨p, 0, none⟩)] 24)).alloc (.cells #[.int .i64 x] 3)).alloc (.cells #[.slice A 512 c] 31) = w3 := ⟨_, rfl⟩
      rw [hw3] at k3 k4 k5 f3 ⊢
      obtain ⟨g3, hg3⟩ : ∃ g3, w.heap.size = g3 := ⟨_, rfl⟩
      rw [hg3] at k3 k4 k5 ⊢
      obtain ⟨g4, hg4⟩ : ∃ g4, g3 + 1 = g4 := ⟨_, rfl⟩
      rw [hg4] at k4 k5 ⊢
      obtain ⟨g5, hg5⟩ : ∃ g5, g4 + 1 = g5 := ⟨_, rfl⟩
      rw [hg5] at k5 ⊢
      have HG := Lib.hid (And.intro hg3 (And.intro hg4 hg5))
      clear hw3 hg3 hg4 hg5
      have cm := dkMay_any (h.keep_nil f3) x A 512 c
      rw [HM.out] at cm
      refine cm.mono ?_
      clear cm
      rintro e w4 ⟨rfl, rfl⟩
      have e3 := k3.cell 0
      simp at e3
      go_wp2_with fail
      have hO : g3 ∉ O ∧ g4 ∉ O ∧ g5 ∉ O := by
        obtain ⟨X, hX⟩ := h
        obtain ⟨a1, a2, a3⟩ := HG.out
        exact ⟨fun e => by have := hX.lt _ e; omega, fun e => by have := hX.lt _ e; omega, fun e => by have := hX.lt _ e; omega⟩
      refine (dkWith_dkWrite1 (h.keep_nil f3) HO.out (dkWrite1_any (h.keep_nil f3) k3 k4 k5 hO HX.out HB.out (rd.keep_nil f3) hA hl)).mono ?_
      rintro e w5 ⟨rfl, aft⟩
      have FIN := Lib.hid ((aft.pre f3).eq HW.out.symm)
      clear aft h
      go_wp2_with fail
      go_ret
      exact ⟨by rw [HE.out]; rfl, FIN.out⟩
    · have HE := Lib.hid (show D.writeE x 512 = 102 by rw [DkM.writeE, if_neg (by simpa using hm), ho]; rfl)
      have HW := Lib.hid (show D.write x b = D by rw [DkM.write, hb, if_neg (by simpa using hm), ho]; rfl)
      have HM := Lib.hid hm
      have HO := Lib.hid ho
      clear hb hm ho hx
      go_enter Try.func11, Try.ntmps11
      go_wp2_with fail
      obtain ⟨k3, k4, k5, f3⟩ := boxes3 w 24 3 31 (.pointer (some ⟨p, 0, none⟩)) (.int .i64 x) (.slice A 512 c)
      obtain ⟨w3, hw3⟩ : ∃ w3, ((w.alloc (.cells #[.pointer (some ⟨p, 0, none⟩)] 24)).alloc (.cells #[.int .i64 x] 3)).alloc (.cells #[.slice A 512 c] 31) = w3 := ⟨_, rfl⟩
      rw [hw3] at k3 k4 k5 f3 ⊢
      obtain ⟨g3, hg3⟩ : ∃ g3, w.heap.size = g3 := ⟨_, rfl⟩
      rw [hg3] at k3 k4 k5 ⊢
      obtain ⟨g4, hg4⟩ : ∃ g4, g3 + 1 = g4 := ⟨_, rfl⟩
      rw [hg4] at k4 k5 ⊢
      obtain ⟨g5, hg5⟩ : ∃ g5, g4 + 1 = g5 := ⟨_, rfl⟩
      rw [hg5] at k5 ⊢
      have HG := Lib.hid (And.intro hg3 (And.intro hg4 hg5))
      clear hw3 hg3 hg4 hg5
      have cm := dkMay_any (h.keep_nil f3) x A 512 c
      rw [HM.out] at cm
      refine cm.mono ?_
      clear cm
      rintro e w4 ⟨rfl, rfl⟩
      have e3 := k3.cell 0
      simp at e3
      go_wp2_with fail
      refine (dkWithOff_dkWrite1 (h.keep_nil f3) HO.out).mono ?_
      rintro e w5 ⟨rfl, rfl⟩
      have FIN := Lib.hid (((AftD.same (h.keep_nil f3)).pre f3).eq HW.out.symm)
      clear h
      go_wp2_with fail
      go_ret
      exact ⟨by rw [HE.out]; rfl, FIN.out⟩
  · have HE := Lib.hid (show D.writeE x n = D.mayE x n by rw [DkM.writeE, if_pos hm])
    have HW := Lib.hid (show D.write x b = D by rw [DkM.write, hb, if_pos hm])
    obtain ⟨k, hk⟩ : ∃ k, D.mayE x n = k := ⟨_, rfl⟩
    rw [hk] at hm
    have d : (k != 0) = true := by simp only [bne_iff_ne]; exact hm
    have HK := Lib.hid hk
    clear hb hm hk
    go_enter Try.func11, Try.ntmps11
    go_wp2_with fail
    obtain ⟨k3, k4, k5, f3⟩ := boxes3 w 24 3 31 (.pointer (some ⟨p, 0, none⟩)) (.int .i64 x) (.slice A n c)
    obtain ⟨w3, hw3⟩ : ∃ w3, ((w.alloc (.cells #[.pointer (some ⟨p, 0, none⟩)] 24)).alloc (.cells #[.int .i64 x] 3)).alloc (.cells #[.slice A n c] 31) = w3 := ⟨_, rfl⟩
    rw [hw3] at k3 k4 k5 f3 ⊢
    obtain ⟨g3, hg3⟩ : ∃ g3, w.heap.size = g3 := ⟨_, rfl⟩
    rw [hg3] at k3 k4 k5 ⊢
    obtain ⟨g4, hg4⟩ : ∃ g4, g3 + 1 = g4 := ⟨_, rfl⟩
    rw [hg4] at k4 k5 ⊢
    obtain ⟨g5, hg5⟩ : ∃ g5, g4 + 1 = g5 := ⟨_, rfl⟩
    rw [hg5] at k5 ⊢
    have HG := Lib.hid (And.intro hg3 (And.intro hg4 hg5))
    clear hw3 hg3 hg4 hg5
    have cm := dkMay_any (h.keep_nil f3) x A n c
    rw [HK.out] at cm
    refine cm.mono ?_
    clear cm
    rintro e w4 ⟨rfl, rfl⟩
    have FIN := Lib.hid (((AftD.same (h.keep_nil f3)).pre f3).eq HW.out.symm)
    clear h
    go_wp2_with fail
    go_ret
    exact ⟨by rw [HE.out, HK.out]; rfl, FIN.out⟩
set_option maxHeartbeats 1000000 in
theorem dkWrite_av {X : DkX} (h : DskX w p O D X) (x : Int) (A : Option Addr) (n c : Nat) (b : List UInt8) (hb : b.length = n) (rd : Rd w A (bvs b)) (hA : A = none → n = 0) (hl : (D.uns x).length ≤ 4398046511104) :
    Calls Try.prog 11 #[.pointer (some ⟨p, 0, none⟩), .int .i64 x, .slice A n c] w fun e w' => e = .returned (.int .i64 (D.writeE x n)) ∧ AftA w p O X (D.write x b) w' := by
  have HB := Lib.hid hb
  by_cases hm : D.mayE x n = 0
  · obtain ⟨hx, rfl⟩ := DkM.may0 hm
    cases ho : D.off
    · have HE := Lib.hid (show D.writeE x 512 = 0 by rw [DkM.writeE, if_neg (by simpa using hm), ho]; rfl)
      have HW := Lib.hid (show D.write x b = (D.wr x b).dec by rw [DkM.write, hb, if_neg (by simpa using hm), ho]; rfl)
      have HM := Lib.hid hm
      have HO := Lib.hid ho
      have HX := Lib.hid hx
      clear hb hm ho hx
      go_enter Try.func11, Try.ntmps11
      go_wp2_with fail
      obtain ⟨k3, k4, k5, f3⟩ := boxes3 w 24 3 31 (.pointer (some ⟨p, 0, none⟩)) (.int .i64 x) (.slice A 512 c)
      obtain ⟨w3, hw3⟩ : ∃ w3, ((w.alloc (.cells #[.pointer (some ⟨p, 0, none⟩)] 24)).alloc (.cells #[.int .i64 x] 3)).alloc (.cells #[.slice A 512 c] 31) = w3 := ⟨_, rfl⟩
      rw [hw3] at k3 k4 k5 f3 ⊢
      obtain ⟨g3, hg3⟩ : ∃ g3, w.heap.size = g3 := ⟨_, rfl⟩
      rw [hg3] at k3 k4 k5 ⊢
      obtain ⟨g4, hg4⟩ : ∃ g4, g3 + 1 = g4 := ⟨_, rfl⟩
      rw [hg4] at k4 k5 ⊢
      obtain ⟨g5, hg5⟩ : ∃ g5, g4 + 1 = g5 := ⟨_, rfl⟩
      rw [hg5] at k5 ⊢
      have HG := Lib.hid (And.intro hg3 (And.intro hg4 hg5))
      clear hw3 hg3 hg4 hg5
      have cm := dkMay_any ⟨X, h.keep_nil f3⟩ x A 512 c
      rw [HM.out] at cm
      refine cm.mono ?_
      clear cm
      rintro e w4 ⟨rfl, rfl⟩
      have e3 := k3.cell 0
      simp at e3
      go_wp2_with fail
      have hO : g3 ∉ O ∧ g4 ∉ O ∧ g5 ∉ O := by
        have hX := h
        obtain ⟨a1, a2, a3⟩ := HG.out
        exact ⟨fun e => by have := hX.lt _ e; omega, fun e => by have := hX.lt _ e; omega, fun e => by have := hX.lt _ e; omega⟩
      refine (dkWithA (h.keep_nil f3) HO.out (dkWrite1_av (h.keep_nil f3) k3 k4 k5 hO HX.out HB.out (rd.keep_nil f3) hA hl)).mono ?_
      rintro e w5 ⟨rfl, aft⟩
      have FIN := Lib.hid ((aft.pre f3).eq HW.out.symm)
      clear aft h
      go_wp2_with fail
      go_ret
      exact ⟨by rw [HE.out]; rfl, FIN.out⟩
    · have HE := Lib.hid (show D.writeE x 512 = 102 by rw [DkM.writeE, if_neg (by simpa using hm), ho]; rfl)
      have HW := Lib.hid (show D.write x b = D by rw [DkM.write, hb, if_neg (by simpa using hm), ho]; rfl)
      have HM := Lib.hid hm
      have HO := Lib.hid ho
      clear hb hm ho hx
      go_enter Try.func11, Try.ntmps11
      go_wp2_with fail
      obtain ⟨k3, k4, k5, f3⟩ := boxes3 w 24 3 31 (.pointer (some ⟨p, 0, none⟩)) (.int .i64 x) (.slice A 512 c)
      obtain ⟨w3, hw3⟩ : ∃ w3, ((w.alloc (.cells #[.pointer (some ⟨p, 0, none⟩)] 24)).alloc (.cells #[.int .i64 x] 3)).alloc (.cells #[.slice A 512 c] 31) = w3 := ⟨_, rfl⟩
      rw [hw3] at k3 k4 k5 f3 ⊢
      obtain ⟨g3, hg3⟩ : ∃ g3, w.heap.size = g3 := ⟨_, rfl⟩
      rw [hg3] at k3 k4 k5 ⊢
      obtain ⟨g4, hg4⟩ : ∃ g4, g3 + 1 = g4 := ⟨_, rfl⟩
      rw [hg4] at k4 k5 ⊢
      obtain ⟨g5, hg5⟩ : ∃ g5, g4 + 1 = g5 := ⟨_, rfl⟩
      rw [hg5] at k5 ⊢
      have HG := Lib.hid (And.intro hg3 (And.intro hg4 hg5))
      clear hw3 hg3 hg4 hg5
      have cm := dkMay_any ⟨X, h.keep_nil f3⟩ x A 512 c
      rw [HM.out] at cm
      refine cm.mono ?_
      clear cm
      rintro e w4 ⟨rfl, rfl⟩
      have e3 := k3.cell 0
      simp at e3
      go_wp2_with fail
      refine (dkWithOff_dkWrite1 ⟨X, h.keep_nil f3⟩ HO.out).mono ?_
      rintro e w5 ⟨rfl, rfl⟩
      have FIN := Lib.hid (((AftA.same (h.keep_nil f3)).pre f3).eq HW.out.symm)
      clear h
      go_wp2_with fail
      go_ret
      exact ⟨by rw [HE.out]; rfl, FIN.out⟩
  · have HE := Lib.hid (show D.writeE x n = D.mayE x n by rw [DkM.writeE, if_pos hm])
    have HW := Lib.hid (show D.write x b = D by rw [DkM.write, hb, if_pos hm])
    obtain ⟨k, hk⟩ : ∃ k, D.mayE x n = k := ⟨_, rfl⟩
    rw [hk] at hm
    have d : (k != 0) = true := by simp only [bne_iff_ne]; exact hm
    have HK := Lib.hid hk
    clear hb hm hk
    go_enter Try.func11, Try.ntmps11
    go_wp2_with fail
    obtain ⟨k3, k4, k5, f3⟩ := boxes3 w 24 3 31 (.pointer (some ⟨p, 0, none⟩)) (.int .i64 x) (.slice A n c)
    obtain ⟨w3, hw3⟩ : ∃ w3, ((w.alloc (.cells #[.pointer (some ⟨p, 0, none⟩)] 24)).alloc (.cells #[.int .i64 x] 3)).alloc (.cells #[.slice A n c] 31) = w3 := ⟨_, rfl⟩
    rw [hw3] at k3 k4 k5 f3 ⊢
    obtain ⟨g3, hg3⟩ : ∃ g3, w.heap.size = g3 := ⟨_, rfl⟩
    rw [hg3] at k3 k4 k5 ⊢
    obtain ⟨g4, hg4⟩ : ∃ g4, g3 + 1 = g4 := ⟨_, rfl⟩
    rw [hg4] at k4 k5 ⊢
    obtain ⟨g5, hg5⟩ : ∃ g5, g4 + 1 = g5 := ⟨_, rfl⟩
    rw [hg5] at k5 ⊢
    have HG := Lib.hid (And.intro hg3 (And.intro hg4 hg5))
    clear hw3 hg3 hg4 hg5
    have cm := dkMay_any ⟨X, h.keep_nil f3⟩ x A n c
    rw [HK.out] at cm
    refine cm.mono ?_
    clear cm
    rintro e w4 ⟨rfl, rfl⟩
    have FIN := Lib.hid (((AftA.same (h.keep_nil f3)).pre f3).eq HW.out.symm)
    clear h
    go_wp2_with fail
    go_ret
    exact ⟨by rw [HE.out, HK.out]; rfl, FIN.out⟩
end
end Go.Proofs.Ytdhhnioklbnicaa
