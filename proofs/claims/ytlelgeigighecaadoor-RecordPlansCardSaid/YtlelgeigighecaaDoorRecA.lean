/-
  Layer 13 (record): marks; contracts of block, Mark, ReadMark and their references.
-/
import Derived.Test.YtlelgeigighecaaDoorHeadD
import Derived.Test.YtlelgeigighecaaDoorShaK
set_option linter.unusedSimpArgs false
set_option linter.unusedVariables false
set_option linter.unnecessarySimpa false
namespace Go.Proofs.YtlelgeigighecaaDoor
open Go.RowKit

def pad512 (q : List UInt8) : List UInt8 := q ++ List.replicate (512 - q.length) 0
theorem pad512_len {q : List UInt8} (h : q.length ≤ 512) : (pad512 q).length = 512 := by rw [pad512, List.length_append, List.length_replicate]; omega
def markM : List UInt8 := [77, 65, 82, 75]
def doneM : List UInt8 := [68, 79, 78, 69]
def planM : List UInt8 := [80, 76, 65, 78]
def markR (n : Nat) : List UInt8 := markM ++ leB 8 n
theorem markR_len (n : Nat) : (markR n).length = 12 := by simp [markR, markM, leB_length]
def markB (n : Nat) : List UInt8 := pad512 (markR n ++ shaSum (markR n))
theorem markB_len (n : Nat) : (markB n).length = 512 := pad512_len (by rw [List.length_append, markR_len, shaSum_length]; omega)

theorem Rd.ofBm {w : World} {g : Nat} {t : TypeId} {l : List UInt8} (hb : Blk w g t (bvs l).toArray) : Rd w (some ⟨g, 0, none⟩) (bvs l) := Rd.of_blk hb 0 _ (fun j u hu => by rw [Nat.zero_add]; simpa using hu)
set_option maxHeartbeats 1000000 in
theorem rcBlock_rcMark1 (w : World) (g:Nat) (q : List UInt8) (hq : q.length ≤ 512) (hc : ∀ w1 p B v, Fr [] w w1 → w.heap.size ≤ p → w.heap.size ≤ B → Wrt w1 p B v 512 false [] → Calls Tryd.prog 73 #[.pointer (some ⟨p, 0, none⟩), .pointer (some ⟨g, 0, none⟩)] w1 fun e w' => e = .returned (.tuple #[]) ∧ WPost w1 w' p B v 512 q) :
    Calls Tryd.prog 74 #[.func (.func 73) #[] #[.pointer (some ⟨g, 0, none⟩)]] w fun e w' => ∃ r, e = .returned r ∧ Row w' w.heap.size 5 1 r 512 (bvs (pad512 q)) ∧ Fr [] w w' := by
  go_enter Tryd.func74, Tryd.ntmps74
  go_wp2_with fail
  have cc := newWriter_any 512 w
  rw [show sizeN 512 = 512 from rfl] at cc
  refine cc.mono ?_
  clear cc
  rintro e w1 ⟨rfl, h1, f1, z1⟩
  go_wp2_with fail
  refine (hc w1 _ _ _ f1 (Nat.le_refl _) (Nat.le_refl _) h1).mono ?_
  rintro e w2 ⟨rfl, v2, h2, f2, g2⟩
  have F2 : Fr [] w w2 := f1.trans f2 (fun i hi => by
    rcases List.mem_cons.1 hi with rfl | hi
    · exact .inr (Nat.le_refl _)
    · exact (own_nil.1 hi).elim)
  go_wp2_with fail
  refine (wDone_ok h2).mono ?_
  rintro e w3 ⟨r, rfl, h3, f3⟩
  go_wp2_with fail
  go_ret
  exact ⟨r, rfl, h3.mono F2.size, F2.trans_nil f3⟩
set_option maxHeartbeats 1000000 in
theorem rcBlock_rcMark2 (w : World) (g d:Nat) (q : List UInt8) (hq : q.length ≤ 512) (hc : ∀ w1 p B v, Fr [] w w1 → w.heap.size ≤ p → w.heap.size ≤ B → Wrt w1 p B v 512 false [] → Calls Tryd.prog 75 #[.pointer (some ⟨p, 0, none⟩), .pointer (some ⟨g, 0, none⟩), .pointer (some ⟨d, 0, none⟩)] w1 fun e w' => e = .returned (.tuple #[]) ∧ WPost w1 w' p B v 512 q) :
    Calls Tryd.prog 74 #[.func (.func 75) #[] #[.pointer (some ⟨g, 0, none⟩), .pointer (some ⟨d, 0, none⟩)]] w fun e w' => ∃ r, e = .returned r ∧ Row w' w.heap.size 5 1 r 512 (bvs (pad512 q)) ∧ Fr [] w w' := by
  go_enter Tryd.func74, Tryd.ntmps74
  go_wp2_with fail
  have cc := newWriter_any 512 w
  rw [show sizeN 512 = 512 from rfl] at cc
  refine cc.mono ?_
  clear cc
  rintro e w1 ⟨rfl, h1, f1, z1⟩
  go_wp2_with fail
  refine (hc w1 _ _ _ f1 (Nat.le_refl _) (Nat.le_refl _) h1).mono ?_
  rintro e w2 ⟨rfl, v2, h2, f2, g2⟩
  have F2 : Fr [] w w2 := f1.trans f2 (fun i hi => by
    rcases List.mem_cons.1 hi with rfl | hi
    · exact .inr (Nat.le_refl _)
    · exact (own_nil.1 hi).elim)
  go_wp2_with fail
  refine (wDone_ok h2).mono ?_
  rintro e w3 ⟨r, rfl, h3, f3⟩
  go_wp2_with fail
  go_ret
  exact ⟨r, rfl, h3.mono F2.size, F2.trans_nil f3⟩
set_option maxHeartbeats 1000000 in
theorem rcBlock_rcSeal1 (w : World) (g d:Nat) (q : List UInt8) (hq : q.length ≤ 512) (hc : ∀ w1 p B v, Fr [] w w1 → w.heap.size ≤ p → w.heap.size ≤ B → Wrt w1 p B v 512 false [] → Calls Tryd.prog 91 #[.pointer (some ⟨p, 0, none⟩), .pointer (some ⟨g, 0, none⟩), .pointer (some ⟨d, 0, none⟩)] w1 fun e w' => e = .returned (.tuple #[]) ∧ WPost w1 w' p B v 512 q) :
    Calls Tryd.prog 74 #[.func (.func 91) #[] #[.pointer (some ⟨g, 0, none⟩), .pointer (some ⟨d, 0, none⟩)]] w fun e w' => ∃ r, e = .returned r ∧ Row w' w.heap.size 5 1 r 512 (bvs (pad512 q)) ∧ Fr [] w w' := by
  go_enter Tryd.func74, Tryd.ntmps74
  go_wp2_with fail
  have cc := newWriter_any 512 w
  rw [show sizeN 512 = 512 from rfl] at cc
  refine cc.mono ?_
  clear cc
  rintro e w1 ⟨rfl, h1, f1, z1⟩
  go_wp2_with fail
  refine (hc w1 _ _ _ f1 (Nat.le_refl _) (Nat.le_refl _) h1).mono ?_
  rintro e w2 ⟨rfl, v2, h2, f2, g2⟩
  have F2 : Fr [] w w2 := f1.trans f2 (fun i hi => by
    rcases List.mem_cons.1 hi with rfl | hi
    · exact .inr (Nat.le_refl _)
    · exact (own_nil.1 hi).elim)
  go_wp2_with fail
  refine (wDone_ok h2).mono ?_
  rintro e w3 ⟨r, rfl, h3, f3⟩
  go_wp2_with fail
  go_ret
  exact ⟨r, rfl, h3.mono F2.size, F2.trans_nil f3⟩
set_option maxHeartbeats 1000000 in
theorem rcBlock_rcplan1 (w : World) (g d t:Nat) (q : List UInt8) (hq : q.length ≤ 512) (hc : ∀ w1 p B v, Fr [] w w1 → w.heap.size ≤ p → w.heap.size ≤ B → Wrt w1 p B v 512 false [] → Calls Tryd.prog 88 #[.pointer (some ⟨p, 0, none⟩), .pointer (some ⟨g, 0, none⟩), .pointer (some ⟨d, 0, none⟩), .pointer (some ⟨t, 0, none⟩)] w1 fun e w' => e = .returned (.tuple #[]) ∧ WPost w1 w' p B v 512 q) :
    Calls Tryd.prog 74 #[.func (.func 88) #[] #[.pointer (some ⟨g, 0, none⟩), .pointer (some ⟨d, 0, none⟩), .pointer (some ⟨t, 0, none⟩)]] w fun e w' => ∃ r, e = .returned r ∧ Row w' w.heap.size 5 1 r 512 (bvs (pad512 q)) ∧ Fr [] w w' := by
  go_enter Tryd.func74, Tryd.ntmps74
  go_wp2_with fail
  have cc := newWriter_any 512 w
  rw [show sizeN 512 = 512 from rfl] at cc
  refine cc.mono ?_
  clear cc
  rintro e w1 ⟨rfl, h1, f1, z1⟩
  go_wp2_with fail
  refine (hc w1 _ _ _ f1 (Nat.le_refl _) (Nat.le_refl _) h1).mono ?_
  rintro e w2 ⟨rfl, v2, h2, f2, g2⟩
  have F2 : Fr [] w w2 := f1.trans f2 (fun i hi => by
    rcases List.mem_cons.1 hi with rfl | hi
    · exact .inr (Nat.le_refl _)
    · exact (own_nil.1 hi).elim)
  go_wp2_with fail
  refine (wDone_ok h2).mono ?_
  rintro e w3 ⟨r, rfl, h3, f3⟩
  go_wp2_with fail
  go_ret
  exact ⟨r, rfl, h3.mono F2.size, F2.trans_nil f3⟩

set_option maxRecDepth 100000 in
set_option maxHeartbeats 1000000 in
theorem rcMark1_ok {w : World} {p B g n : Nat} {v : Value} (h : Wrt w p B v 512 false []) (hn : n < 18446744073709551616) (hb : Blk w g 22 #[.int .u64 (n : Int)]) :
    Calls Tryd.prog 73 #[.pointer (some ⟨p, 0, none⟩), .pointer (some ⟨g, 0, none⟩)] w fun e w' => e = .returned (.tuple #[]) ∧ WPost w w' p B v 512 (markR n) := by
  have kc := fun (w : World) (C : Array Value) (n c : Nat) => Lib.run_convert_bytes_const (P := Tryd.prog) w 28 5 C n c Tryd.underlying28 Tryd.underlying5
  go_enter Tryd.func73, Tryd.ntmps73
  go_wp2_with fail
  have ra := Rd.mark w markM 5 (4, 5)
  have fa : Fr [] w (w.alloc (.cells (bvs markM).toArray 5 (4, 5))) := (Fr.refl _ _).alloc _
  refine (wBytes_ok (h.keep_nil fa) _ 4 4 markM rfl ra (by simp) (fun g o e _ => by cases e; have := h.lt; omega) (by simp)).mono ?_
  rintro e w1 ⟨rfl, x1⟩
  have b1 := x1.blk (h.keep_nil fa) (hb.keep_nil fa) (by decide) (by decide)
  obtain ⟨v1, h1, f1, g1⟩ := WPost.trans (fa.mono (by simp)) (fun g hg => .inl hg) x1
  clear ra fa x1 hb kc
  rw [List.nil_append] at h1
  have c0 := b1.cell 0
  simp at c0
  go_wp2_with fail
  refine (wUint_ok h1 8 n rfl hn (by omega) (by rw [show markM.length = 4 from rfl]; omega)).mono ?_
  rintro e w2 ⟨rfl, x2⟩
  have y2 := WPost.trans f1 g1 x2
  go_wp2_with fail
  go_returns
  exact ⟨rfl, y2⟩

set_option maxRecDepth 100000 in
set_option maxHeartbeats 1000000 in
theorem rcMark2_ok {w : World} {p B g f d n : Nat} {v : Value} {D : List UInt8} (h : Wrt w p B v 512 false []) (hn : n < 18446744073709551616) (hb : Blk w g 22 #[.int .u64 (n : Int)]) (T : TypeId) (hf : Blk w f T #[.func (.func 73) #[] #[.pointer (some ⟨g, 0, none⟩)]]) (hT1 : T ≠ 97) (hT2 : T ≠ 5) (hd : Blk w d 70 (bvs D).toArray) (hD : D.length = 32) :
    Calls Tryd.prog 75 #[.pointer (some ⟨p, 0, none⟩), .pointer (some ⟨f, 0, none⟩), .pointer (some ⟨d, 0, none⟩)] w fun e w' => e = .returned (.tuple #[]) ∧ WPost w w' p B v 512 (markR n ++ D) := by
  have cf := hf.cell 0
  simp at cf
  have HD := Lib.hid hD
  clear hD
  go_enter Tryd.func75, Tryd.ntmps75
  go_wp2_with fail
  refine (rcMark1_ok h hn hb).mono ?_
  rintro e w1 ⟨rfl, x1⟩
  have d1 := x1.blk h hd (by decide) (by decide)
  have hpd : p ≠ d := fun e => (hd.ne_ h.1 (by decide)) e.symm
  obtain ⟨v1, h1, f1, g1⟩ := x1
  go_wp2_with fail
  refine (wBytes_ok h1 _ 32 32 D HD.out (Rd.ofBm d1) (by simp) (fun g o e _ => by cases e; exact hpd.symm) (by rw [markR_len]; omega)).mono ?_
  rintro e w2 ⟨rfl, x2⟩
  have y2 := WPost.trans f1 g1 x2
  go_wp2_with fail
  go_returns
  exact ⟨rfl, y2⟩
end Go.Proofs.YtlelgeigighecaaDoor
