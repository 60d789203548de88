/-
  Texts of this claim, one behind the other: JnI, RowA, RowB, RowR, Row14, JnR.
-/
import Derived.Test.YtiknmcdighkclaaDoorM17
import Derived.ProofKit
import Derived.OpenShut
import Derived.ShutString
import Derived.ChangeOld
import Derived.ChangeSlices
import Derived.SizedLaws
import Derived.Below
import Derived.Carry
import Derived.ChangeArms
import Derived.DataReads
/-
  Layer 14: what must come of every program.
-/
set_option linter.unusedSimpArgs false
set_option linter.unusedVariables false
set_option linter.unnecessarySimpa false
namespace Go.Proofs.YtiknmcdighkclaaDoor
open Go.RowKit
set_option maxRecDepth 100000

/-- A disk and a journal that were made behind w, as they lie in w'. -/
def LJ (w w' : World) (p g : Nat) (D : DkM) (J : JrM) : Prop := ∃ O, Dsk w' p O D ∧ Jr w' g p J ∧ g ∉ O ∧ (∀ i ∈ O, w.heap.size ≤ i) ∧ w.heap.size ≤ g ∧ Fr [] w w'
section
variable {w w1 w2 : World} {p g : Nat} {D D' : DkM} {J J' : JrM}
theorem LJ.fr (h : LJ w w1 p g D J) : Fr [] w w1 := by obtain ⟨O, -, -, -, -, -, f⟩ := h; exact f
theorem LJ.jr (h : LJ w w1 p g D J) : Jr w1 g p J := by obtain ⟨O, -, h, -⟩ := h; exact h
theorem LJ.keep (h : LJ w w1 p g D J) (f : Fr [] w1 w2) : LJ w w2 p g D J := by
  obtain ⟨O, h1, h2, h3, h4, h5, h6⟩ := h
  exact ⟨O, h1.keep_nil f, h2.keep_nil f, h3, h4, h5, h6.trans_nil f⟩
theorem LJ.lv (h : LJ w w1 p g D J) : LV w w1 p D := by
  obtain ⟨O, h1, h2, h3, h4, h5, h6⟩ := h
  exact ⟨O, h1, h4, h6⟩
theorem LJ.jop {f : Nat} {args : Array Value} {r : Int × DkM × JrM} (h : LJ w w1 p g D J) (hc : ∀ O, Dsk w1 p O D → g ∉ O → Jr w1 g p J → Calls Tryd.prog f args w1 (JopC w1 p g O r)) :
    Calls Tryd.prog f args w1 fun e w' => e = .returned (.int .i64 r.1) ∧ LJ w w' p g r.2.1 r.2.2 := by
  obtain ⟨O, h1, h2, h3, h4, h5, h6⟩ := h
  refine (hc O h1 h3 h2).mono ?_
  rintro e w' ⟨he, O', k1, k2, k3, k4⟩
  have hgl := h2.lt
  refine ⟨he, O', k1, k3, fun hm => ?_, fun i hi => ?_, h5, h6.trans k4 (fun i hi => .inr ?_)⟩
  · rcases k2 g hm with h | h
    · exact h3 h
    · omega
  · rcases k2 i hi with h | h
    · exact h4 i h
    · exact Nat.le_trans h6.size h
  · rcases List.mem_cons.1 hi with rfl | hi
    · exact h5
    · exact h4 i hi
theorem LJ.append (h : LJ w w1 p g D J) (ok : J.ok) {A : Option Addr} {n c : Nat} {rs : List (Int × List UInt8)} (hr : RdR w1 A n c rs) (hK : KG w) (hu : ∀ x, (D.uns x).length + 70 ≤ 4398046511104) :
    Calls Tryd.prog 12 #[.pointer (some ⟨g, 0, none⟩), .slice A n c] w1 fun e w' => e = .returned (.int .i64 (appM D J rs).1) ∧ LJ w w' p g (appM D J rs).2.1 (appM D J rs).2.2 :=
  h.jop fun O h1 h2 h3 => jnAppend_any h1 h3 h2 ok hr (hK.keep h.fr) hu
theorem LJ.reset (h : LJ w w1 p g D J) (ok : J.ok) (hK : KG w) (hu : ∀ x, (D.uns x).length + 2 ≤ 4398046511104) :
    Calls Tryd.prog 9 #[.pointer (some ⟨g, 0, none⟩)] w1 fun e w' => e = .returned (.int .i64 (resM D J).1) ∧ LJ w w' p g (resM D J).2.1 (resM D J).2.2 :=
  h.jop fun O h1 h2 h3 => jnReset_any h1 h3 h2 ok (hK.keep h.fr) hu
theorem LJ.aft {O : List Nat} (h1 : Dsk w1 p O D) (h2 : Jr w1 g p J) (h3 : g ∉ O) (h4 : ∀ i ∈ O, w.heap.size ≤ i) (h5 : w.heap.size ≤ g) (h6 : Fr [] w w1) (ha : AftD w1 p O D' w2) : LJ w w2 p g D' J := by
  obtain ⟨O', k1, k2, k3⟩ := ha
  have hgl := h2.lt
  refine ⟨O', k1, h2.keep k3 h3, fun hm => ?_, fun i hi => ?_, h5, h6.trans k3 (fun i hi => .inr (h4 i hi))⟩
  · rcases k2 g hm with h | h
    · exact h3 h
    · omega
  · rcases k2 i hi with h | h
    · exact h4 i h
    · exact Nat.le_trans h6.size h
theorem LJ.flush (h : LJ w w1 p g D J) : Calls Tryd.prog 19 #[.pointer (some ⟨p, 0, none⟩)] w1 fun e w' => e = .returned (.int .i64 D.flushE) ∧ LJ w w' p g D.flush J := by
  obtain ⟨O, h1, h2, h3, h4, h5, h6⟩ := h
  exact (dkFlush_any h1).mono fun e w' ⟨he, ha⟩ => ⟨he, LJ.aft h1 h2 h3 h4 h5 h6 ha⟩
theorem LJ.crash0 (h : LJ w w1 p g D J) : Calls Tryd.prog 20 #[.pointer (some ⟨p, 0, none⟩), .slice none 0 0] w1 fun e w' => e = .returned (.int .i64 (D.crashE [])) ∧ LJ w w' p g (D.crash []) J := by
  obtain ⟨O, h1, h2, h3, h4, h5, h6⟩ := h
  exact (dkCrash_any h1 none 0 0 [] ⟨rfl, fun i h => by simp at h, fun p h => by cases h⟩ (by omega)).mono fun e w' ⟨he, ha⟩ => ⟨he, LJ.aft h1 h2 h3 h4 h5 h6 ha⟩
theorem LJ.made {O : List Nat} (h1 : Dsk w1 p O D) (h4 : ∀ i ∈ O, w.heap.size ≤ i) (h6 : Fr [] w w1) (f : Fr [] w1 w2) (hj : Jr w2 g p J) (hg : w1.heap.size ≤ g) : LJ w w2 p g D J := by
  refine ⟨O, h1.keep_nil f, hj, fun hm => ?_, h4, Nat.le_trans h6.size hg, h6.trans_nil f⟩
  have : g < w1.heap.size := by obtain ⟨X, hX⟩ := h1; exact hX.lt _ hm
  omega
theorem OpenC.yes {x y : Int} {m : Nat} {e : Ending} (h : OpenC w p D x y e w1) (hr : jRight D x y = true) (ho : D.off = false) (hm : rmV (D.readR x) = some m) :
    ∃ g v ps, e = .returned (.tuple #[.pointer (some ⟨g, 0, none⟩), v, .int .i64 0]) ∧ w.heap.size ≤ g ∧ RRow w1 w.heap.size v ps (scanA D x y m).1 ∧ Jr w1 g p (openJ x y (scanA D x y m).2.2 (scanA D x y m).2.1) ∧ Fr [] w w1 := by
  obtain ⟨f, h | h | h | ⟨m', g, v, ps, -, -, k1, k2, k3, k4, k5⟩⟩ := h
  · rw [hr] at h; cases h.1
  · rw [ho] at h; cases h.2.1
  · rw [hm] at h; cases h.2.2.1
  · rw [hm] at k1
    cases k1
    exact ⟨g, v, ps, k2, k3, k4, k5, f⟩
theorem rdR_one (w : World) (x : Int) (v : Value) (l : List UInt8) (hx : in64 x) (h : SlB w v l) (hl : l.length ≤ 140737488355328) : RdR (w.alloc (.cells #[.int .i64 x, v] 51)) (some ⟨w.heap.size, 0, none⟩) 1 1 [(x, l)] := by
  have B2 := Blk.new w 51 #[.int .i64 x, v]
  refine ⟨rfl, fun _ => ⟨_, _, rfl, B2.lt, fun i hi => ?_⟩, fun h => (by cases h), by omega, by omega⟩
  obtain rfl : i = 0 := by simp at hi; omega
  exact ⟨hx, B2.cell 0, v, B2.cell 1, h.keep_nil ((Fr.refl _ _).alloc _), hl⟩
end
set_option maxHeartbeats 8000000 in
theorem lives14_any (w : World) (hK : KG w) : Calls Tryd.prog 6 #[] w fun e w' => e = .returned (.bool true) ∧ Fr [] w w' := by
  obtain ⟨D2, D3, D4, D5, D6, D7, hi1, ha1, hr1, hb1, hf1, hc1, hd1⟩ := l14
  have I1 := Lib.hid hi1
  have A1 := Lib.hid ha1
  have R1 := Lib.hid hr1
  have B1 := Lib.hid hb1
  have F1 := Lib.hid hf1
  have C1 := Lib.hid hc1
  have E1 := Lib.hid hd1
  clear hi1 ha1 hr1 hb1 hf1 hc1 hd1
  have cn := dkNew_any w 30 (by omega)
  have kc := fun (w : World) (C : Array Value) (n c : Nat) => Lib.run_convert_bytes_const (P := Tryd.prog) w 35 5 C n c Tryd.underlying35 Tryd.underlying5
  go_enter Tryd.func6, Tryd.ntmps6
  go_wp2_with fail
  refine cn.mono ?_
  intro e w1 hn
  obtain ⟨p, rfl, h1⟩ := LV.of_new (by omega) hn
  clear cn hn
  change LV w w1 p (newD 30) at h1
  obtain ⟨O, hd, hO, hf⟩ := h1
  have ci := jnInit_any hd 2 16 (wfZ_of (by decide)) (hK.keep hf) (fun x => by show 0 + 2 ≤ _; omega)
  rw [I1.out.1] at ci
  go_wp2_with fail
  refine ci.mono ?_
  rintro e w2 ⟨rfl, ha⟩
  have h2 : LV w w2 p D2 := LV.aft hO hf ha
  clear ci ha hd hO hf
  obtain ⟨O2, hd2, hO2, hf2⟩ := h2
  have co := jnOpen_any hd2 2 16 (wfZ_of (by decide)) (hK.keep hf2)
  go_wp2_with fail
  refine co.mono ?_
  intro e w3 ho
  obtain ⟨g, v, ps, rfl, hg, hrr, hj, f3⟩ := ho.yes I1.out.2.2.1 I1.out.2.2.2.1 I1.out.2.2.2.2.1
  rw [I1.out.2.2.2.2.2] at hrr hj
  obtain ⟨Av, cv, rfl, -⟩ := hrr.row.shape
  have LL : LJ w w3 p g D2 (openJ 2 16 1 0) := LJ.made hd2 hO2 hf2 f3 hj hg
  clear ho hrr hj f3 hd2 hO2 hf2 co
  go_wp2_with fail
  refine (dkBlock_any _ _ 1 1 [120] rfl (Rd.mark w3 [120] 5 (1, 2)) (by omega)).mono ?_
  rintro e w4 ⟨v4, rfl, r4, f4⟩
  obtain ⟨A4, c4, rfl, -, -, -, -, -⟩ := r4.shape
  replace LL := (LL.keep ((Fr.refl [] w3).alloc _)).keep f4
  have s4 : SlB w4 (.slice A4 512 c4) bX := (show Row w4 _ 5 1 (.slice A4 512 c4) bX.length (bvs bX) by rw [bX_len]; exact r4).slb
  have hR := rdR_one w4 20 _ bX ⟨by decide, by decide⟩ s4 (by rw [bX_len]; omega)
  have ca := (LL.keep ((Fr.refl [] w4).alloc (.cells #[.int .i64 20, .slice A4 512 c4] 51))).append ⟨by decide, by decide, by decide, by decide⟩ hR hK (fun x => by have := I1.out.2.1 x; omega)
  rw [show [(20, bX)] = rsX from rfl, A1.out] at ca
  obtain ⟨w5, hw5⟩ : ∃ w5, w4.alloc (.cells #[.int .i64 20, .slice A4 512 c4] 51) = w5 := ⟨_, rfl⟩
  rw [hw5] at ca
  clear LL f4 r4 s4 hR
  go_wp2_with fail
  refine ca.mono ?_
  clear ca hw5 hg
  rintro e w6 ⟨rfl, LL⟩
  replace LL : LJ w w6 p g D2 (openJ 2 16 1 0) := LL
  have ce := LL.reset ⟨by decide, by decide, by decide, by decide⟩ hK (fun x => by have := I1.out.2.1 x; omega)
  rw [R1.out.1] at ce
  go_wp2_with fail
  refine ce.mono ?_
  clear ce LL
  rintro e w3 ⟨rfl, LL⟩
  replace LL : LJ w w3 p g D3 (jL 17 0) := LL
  have hg : 0 ≤ 0 := Nat.le_refl 0
  go_wp2_with fail
  refine (dkBlock_any _ _ 1 1 [120] rfl (Rd.mark w3 [120] 5 (1, 2)) (by omega)).mono ?_
  rintro e w4 ⟨v4, rfl, r4, f4⟩
  obtain ⟨A4, c4, rfl, -, -, -, -, -⟩ := r4.shape
  replace LL := (LL.keep ((Fr.refl [] w3).alloc _)).keep f4
  have s4 : SlB w4 (.slice A4 512 c4) bX := (show Row w4 _ 5 1 (.slice A4 512 c4) bX.length (bvs bX) by rw [bX_len]; exact r4).slb
  have hR := rdR_one w4 20 _ bX ⟨by decide, by decide⟩ s4 (by rw [bX_len]; omega)
  have ca := (LL.keep ((Fr.refl [] w4).alloc (.cells #[.int .i64 20, .slice A4 512 c4] 51))).append ⟨by decide, by decide, by decide, by decide⟩ hR hK (fun x => by have := R1.out.2 x; omega)
  rw [show [(20, bX)] = rsX from rfl, B1.out.1] at ca
  obtain ⟨w5, hw5⟩ : ∃ w5, w4.alloc (.cells #[.int .i64 20, .slice A4 512 c4] 51) = w5 := ⟨_, rfl⟩
  rw [hw5] at ca
  clear LL f4 r4 s4 hR
  go_wp2_with fail
  refine ca.mono ?_
  clear ca hw5 hg
  rintro e w3 ⟨rfl, LL⟩
  replace LL : LJ w w3 p g D4 (jL 18 3) := LL
  have cf := LL.flush
  rw [F1.out.1, F1.out.2.1] at cf
  go_wp2_with fail
  refine cf.mono ?_
  clear cf LL
  rintro e w3 ⟨rfl, LL⟩
  have hg : 0 ≤ 0 := Nat.le_refl 0
  go_wp2_with fail
  refine (dkBlock_any _ _ 1 1 [121] rfl (Rd.mark w3 [121] 5 (1, 2)) (by omega)).mono ?_
  rintro e w4 ⟨v4, rfl, r4, f4⟩
  obtain ⟨A4, c4, rfl, -, -, -, -, -⟩ := r4.shape
  replace LL := (LL.keep ((Fr.refl [] w3).alloc _)).keep f4
  have s4 : SlB w4 (.slice A4 512 c4) bY := (show Row w4 _ 5 1 (.slice A4 512 c4) bY.length (bvs bY) by rw [bY_len]; exact r4).slb
  have hR := rdR_one w4 21 _ bY ⟨by decide, by decide⟩ s4 (by rw [bY_len]; omega)
  have ca := (LL.keep ((Fr.refl [] w4).alloc (.cells #[.int .i64 21, .slice A4 512 c4] 51))).append ⟨by decide, by decide, by decide, by decide⟩ hR hK (fun x => by have := F1.out.2.2 x; omega)
  rw [show [(21, bY)] = rsY from rfl, C1.out.1] at ca
  obtain ⟨w5, hw5⟩ : ∃ w5, w4.alloc (.cells #[.int .i64 21, .slice A4 512 c4] 51) = w5 := ⟨_, rfl⟩
  rw [hw5] at ca
  clear LL f4 r4 s4 hR
  go_wp2_with fail
  refine ca.mono ?_
  clear ca hw5 hg
  rintro e w3 ⟨rfl, LL⟩
  replace LL : LJ w w3 p g D6 (jL 19 6) := LL
  have cc := LL.crash0
  rw [E1.out.1, E1.out.2.1] at cc
  go_wp2_with fail
  refine cc.mono ?_
  clear cc LL
  rintro e w3 ⟨rfl, LL⟩
  obtain ⟨O2, hd2, hO2, hf2⟩ := LL.lv
  have co := jnOpen_any hd2 2 16 (wfZ_of (by decide)) (hK.keep hf2)
  go_wp2_with fail
  refine co.mono ?_
  intro e w4 ho
  obtain ⟨g2, v, ps, rfl, hg, hrr, hj, f3⟩ := ho.yes E1.out.2.2.1 E1.out.2.2.2.1 E1.out.2.2.2.2.1
  rw [E1.out.2.2.2.2.2] at hrr hj
  have hj1 := (LL.keep f3).jr
  have FW := (LL.keep f3).fr
  obtain ⟨gv, cv, rfl⟩ := hrr.row.hdD (by decide)
  have hl1 : rsX.length = 1 := rfl
  have rd := hrr.rdx
  obtain ⟨gr, o, v1, e, x0, -⟩ := rd 0 (by decide)
  cases e
  rw [hl1]
  have x0 : w4.cell? ⟨gv, 0, none⟩ = some (.int .i64 20) := x0
  have fc : Fr [] w4 w4 := Fr.refl _ _
  have b1 : ∀ w', Fr [] w4 w' → Calls Tryd.prog 15 #[.pointer (some ⟨g, 0, none⟩)] w' fun e w'' => e = .returned (.bool true) ∧ w' = w'' := fun w' f => jnBegun_any (hj1.keep_nil f)
  have b2 : ∀ w', Fr [] w4 w' → Calls Tryd.prog 15 #[.pointer (some ⟨g2, 0, none⟩)] w' fun e w'' => e = .returned (.bool false) ∧ w' = w'' := fun w' f => jnBegun_any (hj.keep_nil f)
  have m1 : ∀ w', Fr [] w4 w' → Calls Tryd.prog 10 #[.pointer (some ⟨g, 0, none⟩)] w' fun e w'' => e = .returned (.int .i64 7) ∧ Fr [] w' w'' := fun w' f => jnRoom_any (hj1.keep_nil f) ⟨by decide, by decide, by decide, by decide⟩
  have m2 : ∀ w', Fr [] w4 w' → Calls Tryd.prog 10 #[.pointer (some ⟨g2, 0, none⟩)] w' fun e w'' => e = .returned (.int .i64 0) ∧ Fr [] w' w'' := fun w' f => jnRoom_any (hj.keep_nil f) ⟨by decide, by decide, by decide, by decide⟩
  have n2 : ∀ w', Fr [] w4 w' → Calls Tryd.prog 13 #[.pointer (some ⟨g2, 0, none⟩)] w' fun e w'' => e = .returned (.int .u64 18) ∧ w' = w'' := fun w' f => jnNumber_any (hj.keep_nil f)
  have u2 : ∀ w', Fr [] w4 w' → Calls Tryd.prog 11 #[.pointer (some ⟨g2, 0, none⟩)] w' fun e w'' => e = .returned (.int .i64 3) ∧ w' = w'' := fun w' f => jnUsed_any (hj.keep_nil f)
  have o2 : ∀ w', Fr [] w4 w' → Calls Tryd.prog 16 #[.pointer (some ⟨g2, 0, none⟩)] w' fun e w'' => e = .returned (.int .i64 13) ∧ w' = w'' := fun w' f => jnMost_any (hj.keep_nil f) ⟨by decide, by decide, by decide, by decide⟩
  have CC := Lib.hid (And.intro b1 (And.intro b2 (And.intro m1 (And.intro m2 (And.intro n2 (And.intro u2 o2))))))
  clear b1 b2 m1 m2 n2 u2 o2 hj hj1 LL hrr rd f3 hd2 hO2 hf2 ho co
  go_wp2_with fail
  refine (CC.out.1 _ fc).mono ?_
  rintro e w' ⟨rfl, rfl⟩
  go_wp2_with fail
  refine (CC.out.2.2.1 _ fc).mono ?_
  rintro e w5 ⟨rfl, fq⟩
  replace x0 := fq.cell (by simp) x0
  replace fc := fc.trans_nil fq
  clear fq
  go_wp2_with fail
  refine (CC.out.2.2.2.2.1 _ fc).mono ?_
  rintro e w' ⟨rfl, rfl⟩
  go_wp2_with fail
  refine (CC.out.2.2.2.2.2.1 _ fc).mono ?_
  rintro e w' ⟨rfl, rfl⟩
  go_wp2_with fail
  refine (CC.out.2.2.2.1 _ fc).mono ?_
  rintro e w5 ⟨rfl, fq⟩
  replace x0 := fq.cell (by simp) x0
  replace fc := fc.trans_nil fq
  clear fq
  go_wp2_with fail
  refine (CC.out.2.2.2.2.2.2 _ fc).mono ?_
  rintro e w' ⟨rfl, rfl⟩
  go_wp2_with fail
  refine (CC.out.2.1 _ fc).mono ?_
  rintro e w' ⟨rfl, rfl⟩
  go_wp2_with fail
  go_ret
  exact ⟨rfl, FW.trans_nil fc⟩
end Go.Proofs.YtiknmcdighkclaaDoor
/-
  From a row's reading of its arguments to the words of the walks: slices of bytes.
-/
set_option linter.unusedSimpArgs false
set_option linter.unusedVariables false
set_option linter.unnecessarySimpa false
namespace Go.Proofs.YtiknmcdighkclaaDoor
open Go.ChangeShapes Go.WideShapes Go.ChangeAt Go.RowKit

/-- A slice of bytes that came in. -/
structure ArgB (W : World) (A : Option Addr) (n cap : Nat) (l : List UInt8) : Prop where
  len : l.length = n
  rd : Rd W A (bvs l)
  nil : A = none → n = 0
  le : n ≤ cap
  cap : cap ≤ maxLen
  reach : n ≤ 140737488351232
  blk : ∀ g o, A = some ⟨g, o, none⟩ → l ≠ [] → g < W.heap.size

theorem byte_of_int {z : Int} (h : (Lit.int .u8 z).wf = true) : Value.int .u8 z = bv (UInt8.ofNat z.toNat) := by
  simp [Lit.wf, IntKind.min, IntKind.max, IntKind.signed, IntKind.bits] at h
  unfold bv
  have : z.toNat < 256 := by omega
  rw [UInt8.toNat_ofNat', Nat.mod_eq_of_lt this]
  congr 1
  omega

theorem open_bytes {H : Type} {enc : TypeId × Value → H} {P : Program} {W : World} {t e : TypeId} {fuel : Nat} {cs : List Value} {x : DataW H × List MemPlace} {held : Bool}
    (ht : P.underlying t = some (.slice e)) (he : P.underlying e = some (.int .u8)) (hc : P.cellsOf e = 1) (hB : P.bytesOf e = 1)
    (h : DataW.trod enc P W 0 (fun _ => true) held fuel t cs = some x) (hw : (DataW.weights P t x.1).all (· ≤ reachBytes) = true) :
    ∃ A n cap l, cs = [.slice A n cap] ∧ ArgB W A n cap l := by
  rcases open_ints ht he hc h with ⟨rfl, rfl⟩ | ⟨a, len, cap, zs, rfl, _, hl, hm, hz, hx, hcell, hwz⟩
  · exact ⟨none, 0, 0, [], rfl, rfl, Rd.nil _ _, fun _ => rfl, Nat.le_refl _, by unfold maxLen; omega, by omega, fun g o e => by cases e⟩
  · simp only [if_true] at hz
    refine ⟨some a, len, cap, (zs.take len).map fun z => UInt8.ofNat z.toNat, rfl, by simp; omega, ?_, fun h => (by cases h), hl, hm, ?_, ?_⟩
    · intro hne
      have hpos : 0 < zs.length := by
        cases zs with
        | nil => simp [bvs] at hne
        | cons z r => simp
      obtain ⟨g, o, sp⟩ := a
      have hsp : sp = none := by simpa [Addr.add] using World.cell?_spot (hcell 0 hpos)
      subst hsp
      refine ⟨g, o, rfl, fun j u hu => ?_⟩
      have hj : j < (zs.take len).length := by
        have := (List.getElem?_eq_some_iff.1 hu).1
        simpa [bvs] using this
      have hj' : j < zs.length := by rw [List.length_take] at hj; omega
      have h1 := hcell j hj'
      rw [addr_add] at h1
      rw [h1]
      have h2 : zs.getD j 0 = zs[j] := by simp [List.getD, hj']
      rw [h2, byte_of_int (hwz _ (List.getElem_mem hj'))]
      simp only [bvs, List.map_map, List.getElem?_map, List.getElem?_eq_getElem hj, Option.map_some, Function.comp, List.getElem_take] at hu
      exact hu
    · subst hx
      have h1 : (lits (H := H) .u8 (zs.take len)).length + (lits (H := H) .u8 (zs.drop len)).length = zs.length := by
        simp [lits]
        omega
      have h2 := List.all_eq_true.1 hw (((lits (H := H) .u8 (zs.take len)).length + (lits (H := H) .u8 (zs.drop len)).length) * P.bytesOf e) (by simp [DataW.weights, ht])
      rw [h1, hB] at h2
      have : zs.length * 1 ≤ reachBytes := by simpa using h2
      unfold reachBytes at this
      omega
    · intro g o e1 hne
      cases e1
      have hpos : 0 < zs.length := by
        cases zs with
        | nil => simp at hne
        | cons z r => simp
      have h1 := hcell 0 hpos
      exact World.block_lt_of_cell? W _ (by rw [addr_add] at h1; exact h1)

theorem weights_at {H : Type} {P : Program} {ts : List TypeId} {ds : List (DataW H)} (h : (DataW.weightsEach P ts ds).all (· ≤ reachBytes) = true) {j : Nat} {t : TypeId} {d : DataW H} (ht : ts[j]? = some t) (hd : ds[j]? = some d) :
    (DataW.weights P t d).all (· ≤ reachBytes) = true := by
  rw [List.all_eq_true] at h ⊢
  exact fun n hn => h n (DataW.weights_mem_each ht hd n hn)

/-- An argument that is one slice of bytes. -/
theorem arg_bytes {H : Type} {enc : TypeId × Value → H} {P : Program} {W : World} {t e : TypeId} {v : Value} {d : DataW H} {ps : List MemPlace} {held : Bool} {r : Reach} {b0 : Nat}
    (ht : P.underlying t = some (.slice e)) (he : P.underlying e = some (.int .u8)) (hc : P.cellsOf e = 1) (hB : P.bytesOf e = 1)
    (hv : Value.okWide P W r b0 t v) (h : DataW.Trod enc P W 0 (fun _ => true) held t v d ps) (hw : (DataW.weights P t d).all (· ≤ reachBytes) = true) :
    ∃ A n cap l, v = .slice A n cap ∧ ArgB W A n cap l := by
  obtain ⟨a, len, cap, rfl⟩ := okWide_slice ht hv
  obtain ⟨fuel, hf⟩ := h
  obtain ⟨A, n, c, l, h1, h2⟩ := open_bytes ht he hc hB hf hw
  simp [Value.cells] at h1
  obtain ⟨rfl, rfl, rfl⟩ := h1
  exact ⟨a, len, cap, l, rfl, h2⟩

theorem wf_i64 {z : Int} (h : (Lit.int .i64 z).wf = true) : -9223372036854775808 ≤ z ∧ z ≤ 9223372036854775807 := by
  simp [Lit.wf, IntKind.min, IntKind.max, IntKind.signed, IntKind.bits] at h
  exact h
theorem wf_u64 {z : Int} (h : (Lit.int .u64 z).wf = true) : ∃ n : Nat, z = n ∧ n < 18446744073709551616 := by
  simp [Lit.wf, IntKind.min, IntKind.max, IntKind.signed, IntKind.bits] at h
  exact ⟨z.toNat, by omega, by omega⟩
theorem wf_u8 {z : Int} (h : (Lit.int .u8 z).wf = true) : ∃ x : UInt8, z = (x.toNat : Int) := by
  simp [Lit.wf, IntKind.min, IntKind.max, IntKind.signed, IntKind.bits] at h
  refine ⟨UInt8.ofNat z.toNat, ?_⟩
  rw [UInt8.toNat_ofNat', Nat.mod_eq_of_lt (show z.toNat < 2 ^ 8 by omega)]
  omega
end Go.Proofs.YtiknmcdighkclaaDoor
/-
  From a row's reading of its arguments to the words of the walks: slices of structs, field by field.
-/
set_option linter.unusedSimpArgs false
set_option linter.unusedVariables false
set_option linter.unnecessarySimpa false
namespace Go.Proofs.YtiknmcdighkclaaDoor
open Go.ChangeShapes Go.WideShapes Go.ChangeAt Go.RowKit

section
variable {H : Type} {enc : TypeId × Value → H} {P : Program} {W : World} {fuel : Nat} {held : Bool}

/-- A slice that came in, its elements still unread: n of them, each of 'size' cells. -/
structure ArgS (enc : TypeId × Value → H) (P : Program) (W : World) (held : Bool) (e : TypeId) (A : Option Addr) (n cap : Nat) (els : List (List Value)) : Prop where
  len : els.length = n
  rd : 0 < n → ∃ g o, A = some ⟨g, o, none⟩ ∧ g < W.heap.size ∧ ∀ i (hi : i < els.length) j, j < P.cellsOf e → W.cell? ⟨g, o + i * P.cellsOf e + j, none⟩ = els[i][j]?
  nil : A = none → n = 0
  le : n ≤ cap
  cap : cap ≤ maxLen
  reach : n * P.bytesOf e ≤ 140737488351232
  each : ∀ x ∈ els, x.length = P.cellsOf e ∧ ∃ m y, DataW.trod enc P W 0 (fun _ => true) held m e x = some y ∧ (DataW.weights P e y.1).all (· ≤ reachBytes) = true

theorem weightsAll_mem {e : TypeId} : ∀ {l : List (DataW H)} {d : DataW H}, d ∈ l → ∀ n ∈ d.weights P e, n ∈ DataW.weightsAll P e l
  | d0 :: l, d, hd, n, hn => by
    rw [DataW.weightsAll, List.mem_append]
    rcases List.mem_cons.1 hd with rfl | h
    · exact .inl hn
    · exact .inr (weightsAll_mem h n hn)

theorem open_elems {t e : TypeId} {cs : List Value} {x : DataW H × List MemPlace} (ht : P.underlying t = some (.slice e)) (hpos : 0 < P.cellsOf e)
    (h : DataW.trod enc P W 0 (fun _ => true) held fuel t cs = some x) (hw : (DataW.weights P t x.1).all (· ≤ reachBytes) = true) :
    ∃ A n cap els, cs = [.slice A n cap] ∧ ArgS enc P W held e A n cap els := by
  rcases DataW.trod_slice ht h with ⟨rfl, rfl⟩ | ⟨a, len, cap, elems, rest, k, _, rfl, hx, hb, hl, hm, hlen, hel, hsp, _⟩
  · exact ⟨none, 0, 0, [], rfl, ⟨rfl, fun h => by omega, fun _ => rfl, Nat.le_refl _, by unfold maxLen; omega, by omega, by simp⟩⟩
  · have hread : ∀ i, i < len → ∃ cs' y, W.cells? 0 (a.add (i * P.cellsOf e)) (P.cellsOf e) = some cs' ∧ DataW.trod enc P W 0 (fun _ => true) held k e cs' = some y ∧ elems[i]? = some y := by
      intro i hi
      have h1 := hel i hi
      have h2 : elems[i]? = some elems[i] := List.getElem?_eq_getElem (by omega)
      rw [h2] at h1
      obtain ⟨cs', e1, e2⟩ := Option.bind_eq_some_iff.1 h1
      exact ⟨cs', _, e1, e2, h2⟩
    obtain ⟨els, hels⟩ : ∃ els : List (List Value), els = (List.range len).map fun i => (W.cells? 0 (a.add (i * P.cellsOf e)) (P.cellsOf e)).getD [] := ⟨_, rfl⟩
    have hel2 : els.length = len := by rw [hels]; simp
    have hat : ∀ i (hi : i < els.length), W.cells? 0 (a.add (i * P.cellsOf e)) (P.cellsOf e) = some els[i] := by
      intro i hi
      obtain ⟨cs', y, e1, _⟩ := hread i (by omega)
      subst hels
      simp [e1]
    refine ⟨some a, len, cap, els, rfl, ⟨hel2, fun hn => ?_, fun h => (by cases h), hl, hm, ?_, fun z hz => ?_⟩⟩
    · obtain ⟨g, o, sp⟩ := a
      have h0 := World.cells?_some (hat 0 (by omega))
      have c0 := h0.2.2 0 hpos
      rw [List.getElem?_eq_getElem (by omega)] at c0
      have hspot : sp = none := by simpa [Addr.add] using World.cell?_spot c0
      subst hspot
      refine ⟨g, o, rfl, ?_, fun i hi j hj => ?_⟩
      · have := World.block_lt_of_cell? W _ c0
        simpa [Addr.add] using this
      · have h1 := (World.cells?_some (hat i hi)).2.2 j hj
        rw [addr_add, addr_add] at h1
        exact h1
    · rw [hx] at hw
      have h2 := List.all_eq_true.1 hw (((elems.map (·.1)).length + (rest.map (·.1)).length) * P.bytesOf e) (by simp [DataW.weights, ht])
      have h3 : (elems.length + rest.length) * P.bytesOf e ≤ 140737488351232 := by simpa [reachBytes] using h2
      exact Nat.le_trans (Nat.mul_le_mul_right _ (by omega)) h3
    · obtain ⟨i, hi, rfl⟩ := List.getElem_of_mem hz
      obtain ⟨cs', y, e1, e2, e3⟩ := hread i (by omega)
      have e4 := hat i hi
      rw [e1] at e4
      cases e4
      refine ⟨(World.cells?_some e1).2.1, k, y, e2, ?_⟩
      rw [hx] at hw
      rw [List.all_eq_true] at hw ⊢
      intro n hn
      refine hw n ?_
      simp only [DataW.weights, ht, List.mem_cons, List.mem_append]
      exact .inr (.inl (weightsAll_mem (List.mem_map.2 ⟨y, List.mem_of_getElem? e3, rfl⟩) n hn))

/-- One field of a struct: its cells are read at its type, its weight is within reach. -/
theorem open_field {t : TypeId} {fs : Array Field} {cs : List Value} {x : DataW H × List MemPlace} (ht : P.underlying t = some (.struct fs))
    (h : DataW.trod enc P W 0 (fun _ => true) held fuel t cs = some x) (hw : (DataW.weights P t x.1).all (· ≤ reachBytes) = true) (i : Nat) (ft : TypeId) (off : Nat) (hf : (fs[i]?).map (fun f => (f.type, f.offset)) = some (ft, off)) :
    cs.length = P.cellsOf t ∧ ∃ m y, DataW.trod enc P W 0 (fun _ => true) held m ft ((cs.drop off).take (P.cellsOf ft)) = some y ∧ (DataW.weights P ft y.1).all (· ≤ reachBytes) = true := by
  obtain ⟨f, hf', e⟩ := Option.map_eq_some_iff.1 hf
  simp only [Prod.mk.injEq] at e
  obtain ⟨rfl, rfl⟩ := e
  obtain ⟨xs, m, _, hx, hcl, hxl, hall⟩ := DataW.trod_struct ht h
  have h1 := hall i f hf'
  have hi : i < fs.size := (Array.getElem?_eq_some_iff.1 hf').1
  have h2 : xs[i]? = some xs[i] := List.getElem?_eq_getElem (by omega)
  rw [h2] at h1
  refine ⟨hcl, m, _, h1, ?_⟩
  rw [hx] at hw
  simp only [DataW.weights, ht] at hw
  refine weights_at (j := i) hw ?_ ?_
  · simp [hf']
  · simp [h2]
end
end Go.Proofs.YtiknmcdighkclaaDoor
/-
  Arguments of layer 13's laws (slices of redos, slices of slices of bytes) as they come in.
-/
set_option linter.unusedSimpArgs false
set_option linter.unusedVariables false
set_option linter.unnecessarySimpa false
namespace Go.Proofs.YtiknmcdighkclaaDoor
open Go.ChangeShapes Go.WideShapes Go.ChangeAt Go.RowKit

theorem list_choice {α : Type} {p : Nat → α → Prop} : ∀ (n : Nat), (∀ i, i < n → ∃ y, p i y) → ∃ ys : List α, ys.length = n ∧ ∀ i (hi : i < ys.length), p i ys[i]
  | 0, _ => ⟨[], rfl, fun i hi => by simp at hi⟩
  | n + 1, h => by
    obtain ⟨ys, hl, hp⟩ := list_choice n (fun i hi => h i (by omega))
    obtain ⟨y, hy⟩ := h n (by omega)
    refine ⟨ys ++ [y], by rw [List.length_append, hl]; rfl, fun i hi => ?_⟩
    by_cases hlt : i < ys.length
    · rw [List.getElem_append_left hlt]; exact hp i hlt
    · have e : i = ys.length := by rw [List.length_append, List.length_singleton] at hi; omega
      subst e
      rw [List.getElem_append_right (Nat.le_refl _)]
      simpa [hl] using hy

/-- A slice of slices of bytes that came in. -/
structure ArgBB (W : World) (A : Option Addr) (n cap : Nat) (vs : List Value) (bs : List (List UInt8)) : Prop where
  len : bs.length = n
  rd : BRd W A vs bs
  nil : A = none → n = 0
  le : n ≤ cap
  reach : n * 24 ≤ 140737488351232
  each : ∀ b ∈ bs, b.length ≤ 140737488351232

section
variable {H : Type} {enc : TypeId × Value → H} {W : World} {held : Bool}
set_option maxRecDepth 100000 in
theorem arg_bytess {v : Value} {d : DataW H} {ps : List MemPlace} {r : Reach} {b0 : Nat} (hv : Value.okWide Tryd.prog W r b0 45 v) (h : DataW.Trod enc Tryd.prog W 0 (fun _ => true) held 45 v d ps) (hw : (DataW.weights Tryd.prog 45 d).all (· ≤ reachBytes) = true) :
    ∃ A n cap vs bs, v = .slice A n cap ∧ ArgBB W A n cap vs bs := by
  obtain ⟨A, n, cap, rfl⟩ := okWide_slice Tryd.underlying45 hv
  obtain ⟨fuel, hf⟩ := h
  obtain ⟨A', n', cap', els, e1, hS⟩ := open_elems Tryd.underlying45 (by rw [show Tryd.prog.cellsOf 35 = 1 by kernel_rfl]; omega) hf hw
  simp [Value.cells] at e1
  obtain ⟨rfl, rfl, rfl⟩ := e1
  have c1 : Tryd.prog.cellsOf 35 = 1 := by kernel_rfl
  have b24 : Tryd.prog.bytesOf 35 = 24 := by kernel_rfl
  obtain ⟨ys, hyl, hy⟩ := list_choice (p := fun i (y : Value × List UInt8) => els[i]? = some [y.1] ∧ SlB W y.1 y.2 ∧ y.2.length ≤ 140737488351232) n (fun i hi => by
    have hi' : i < els.length := by rw [hS.len]; exact hi
    obtain ⟨hl, m, y, t, wt⟩ := hS.each els[i] (List.getElem_mem hi')
    obtain ⟨B, k, c, l, e2, hb⟩ := open_bytes Tryd.underlying35 Tryd.underlying5 (by kernel_rfl) (by kernel_rfl) t wt
    exact ⟨(.slice B k c, l), by rw [List.getElem?_eq_getElem hi', e2], ⟨B, c, by rw [hb.len], hb.rd, fun h => by rw [hb.len]; exact hb.nil h, by rw [hb.len]; exact hb.le⟩, by rw [hb.len]; exact hb.reach⟩)
  refine ⟨A, n, cap, ys.map (·.1), ys.map (·.2), rfl, ⟨by rw [List.length_map, hyl], ⟨fun hne => ?_, by rw [List.length_map, List.length_map], fun i h1 h2 => ?_⟩, hS.nil, hS.le, by rw [← b24]; exact hS.reach, fun b hb => ?_⟩⟩
  · have hpos : 0 < n := by
      rw [← hyl]
      cases ys with
      | nil => simp at hne
      | cons y r => simp
    obtain ⟨g, o, rfl, -, hc⟩ := hS.rd hpos
    refine ⟨g, o, rfl, fun j u hu => ?_⟩
    have hj : j < ys.length := by
      have := (List.getElem?_eq_some_iff.1 hu).1
      simpa using this
    have h1 := hc j (by rw [hS.len, ← hyl]; exact hj) 0 (by rw [c1]; omega)
    rw [c1, Nat.mul_one, Nat.add_zero] at h1
    rw [h1]
    have h2 := (hy j hj).1
    rw [List.getElem?_eq_getElem (by rw [hS.len, ← hyl]; exact hj)] at h2
    rw [Option.some.inj h2]
    rw [List.getElem?_map, List.getElem?_eq_getElem hj] at hu
    exact hu
  · rw [List.length_map] at h1
    simp only [List.getElem_map]
    exact (hy i h1).2.1
  · obtain ⟨y, hy', rfl⟩ := List.mem_map.1 hb
    obtain ⟨i, hi, rfl⟩ := List.getElem_of_mem hy'
    exact (hy i hi).2.2

set_option maxRecDepth 100000 in
theorem arg_redos {v : Value} {d : DataW H} {ps : List MemPlace} {r : Reach} {b0 : Nat} (hv : Value.okWide Tryd.prog W r b0 30 v) (h : DataW.Trod enc Tryd.prog W 0 (fun _ => true) held 30 v d ps) (hw : (DataW.weights Tryd.prog 30 d).all (· ≤ reachBytes) = true) :
    ∃ A n cap rs, v = .slice A n cap ∧ RdR W A n cap rs := by
  obtain ⟨A, n, cap, rfl⟩ := okWide_slice Tryd.underlying30 hv
  obtain ⟨fuel, hf⟩ := h
  obtain ⟨A', n', cap', els, e1, hS⟩ := open_elems Tryd.underlying30 (by rw [show Tryd.prog.cellsOf 51 = 2 by kernel_rfl]; omega) hf hw
  simp [Value.cells] at e1
  obtain ⟨rfl, rfl, rfl⟩ := e1
  have c2 : Tryd.prog.cellsOf 51 = 2 := by kernel_rfl
  have b32 : Tryd.prog.bytesOf 51 = 32 := by kernel_rfl
  have ci : Tryd.prog.cellsOf 3 = 1 := by kernel_rfl
  have cb : Tryd.prog.cellsOf 35 = 1 := by kernel_rfl
  obtain ⟨ys, hyl, hy⟩ := list_choice (p := fun i (y : Int × Value × List UInt8) => els[i]? = some [.int .i64 y.1, y.2.1] ∧ in64 y.1 ∧ SlB W y.2.1 y.2.2 ∧ y.2.2.length ≤ 140737488355328) n (fun i hi => by
    have hi' : i < els.length := by rw [hS.len]; exact hi
    obtain ⟨hl, m, y, t, wt⟩ := hS.each els[i] (List.getElem_mem hi')
    obtain ⟨_, m0, y0, t0, _⟩ := open_field Tryd.underlying51 t wt 0 3 0 rfl
    obtain ⟨_, m1, y1, t1, w1⟩ := open_field Tryd.underlying51 t wt 1 35 1 rfl
    rw [c2] at hl
    obtain ⟨cs, hcs⟩ : ∃ cs, els[i] = cs := ⟨_, rfl⟩
    rw [hcs] at hl t0 t1
    match cs, hl, hcs with
    | [a, b], _, hcs =>
      simp only [ci, cb, List.drop_zero, List.drop_succ_cons, List.take_succ_cons, List.take_zero] at t0 t1
      obtain ⟨k, e0, _, r0⟩ := DataW.trod_int Tryd.underlying3 t0
      obtain ⟨B, k2, c, l, e2, hb⟩ := open_bytes Tryd.underlying35 Tryd.underlying5 (by kernel_rfl) (by kernel_rfl) t1 w1
      simp only [List.cons.injEq, and_true] at e0 e2
      subst e0 e2
      exact ⟨(k, .slice B k2 c, l), by rw [List.getElem?_eq_getElem hi', hcs], wf_i64 r0, ⟨B, c, by rw [hb.len], hb.rd, fun h => by rw [hb.len]; exact hb.nil h, by rw [hb.len]; exact hb.le⟩, by rw [hb.len]; have := hb.reach; omega⟩)
  refine ⟨A, n, cap, ys.map (fun y => (y.1, y.2.2)), rfl, ⟨by rw [List.length_map, hyl], fun hpos => ?_, hS.nil, hS.le, by rw [← b32]; exact hS.reach⟩⟩
  obtain ⟨g, o, rfl, hg, hc⟩ := hS.rd hpos
  refine ⟨g, o, rfl, hg, fun i hi => ?_⟩
  rw [List.length_map] at hi
  obtain ⟨h1, h2, h3, h4⟩ := hy i hi
  have hi' : i < els.length := by rw [hS.len, ← hyl]; exact hi
  have k0 := hc i hi' 0 (by rw [c2]; omega)
  have k1 := hc i hi' 1 (by rw [c2]; omega)
  rw [List.getElem?_eq_getElem hi'] at h1
  rw [Option.some.inj h1, c2] at k0 k1
  simp only [List.getElem_map]
  exact ⟨h2, by simpa using k0, _, by simpa using k1, h3, h4⟩
end
end Go.Proofs.YtiknmcdighkclaaDoor
/-
  A call of layer 14's laws (a struct of five fields: kind, redos, a number, bytes, what a crash keeps), alone and in a slice, as it comes in. Of the last three fields nothing is told.
-/
set_option linter.unusedSimpArgs false
set_option linter.unusedVariables false
set_option linter.unnecessarySimpa false
namespace Go.Proofs.YtiknmcdighkclaaDoor
open Go.ChangeShapes Go.WideShapes Go.ChangeAt Go.RowKit

structure O14 where
  kind : Int
  A : Option Addr
  m : Nat
  c : Nat
  rs : List (Int × List UInt8)
structure O14.ok (W : World) (o : O14) : Prop where
  kind : -9223372036854775808 ≤ o.kind ∧ o.kind ≤ 9223372036854775807
  r : RdR W o.A o.m o.c o.rs
section
variable {H : Type} {enc : TypeId × Value → H} {W : World} {held : Bool}
set_option maxRecDepth 100000 in
theorem open_redos {fuel : Nat} {cs0 : List Value} {x : DataW H × List MemPlace} (hf : DataW.trod enc Tryd.prog W 0 (fun _ => true) held fuel 30 cs0 = some x) (hw : (DataW.weights Tryd.prog 30 x.1).all (· ≤ reachBytes) = true) :
    ∃ A n cap rs, cs0 = [.slice A n cap] ∧ RdR W A n cap rs := by
  obtain ⟨A, n, cap, els, e1, hS⟩ := open_elems Tryd.underlying30 (by rw [show Tryd.prog.cellsOf 51 = 2 by kernel_rfl]; omega) hf hw
  have c2 : Tryd.prog.cellsOf 51 = 2 := by kernel_rfl
  have b32 : Tryd.prog.bytesOf 51 = 32 := by kernel_rfl
  have ci : Tryd.prog.cellsOf 3 = 1 := by kernel_rfl
  have cb : Tryd.prog.cellsOf 35 = 1 := by kernel_rfl
  obtain ⟨ys, hyl, hy⟩ := list_choice (p := fun i (y : Int × Value × List UInt8) => els[i]? = some [.int .i64 y.1, y.2.1] ∧ in64 y.1 ∧ SlB W y.2.1 y.2.2 ∧ y.2.2.length ≤ 140737488355328) n (fun i hi => by
    have hi' : i < els.length := by rw [hS.len]; exact hi
    obtain ⟨hl, m, y, t, wt⟩ := hS.each els[i] (List.getElem_mem hi')
    obtain ⟨_, m0, y0, t0, _⟩ := open_field Tryd.underlying51 t wt 0 3 0 rfl
    obtain ⟨_, m1, y1, t1, w1⟩ := open_field Tryd.underlying51 t wt 1 35 1 rfl
    rw [c2] at hl
    obtain ⟨cs, hcs⟩ : ∃ cs, els[i] = cs := ⟨_, rfl⟩
    rw [hcs] at hl t0 t1
    match cs, hl, hcs with
    | [a, b], _, hcs =>
      simp only [ci, cb, List.drop_zero, List.drop_succ_cons, List.take_succ_cons, List.take_zero] at t0 t1
      obtain ⟨k, e0, _, r0⟩ := DataW.trod_int Tryd.underlying3 t0
      obtain ⟨B, k2, c, l, e2, hb⟩ := open_bytes Tryd.underlying35 Tryd.underlying5 (by kernel_rfl) (by kernel_rfl) t1 w1
      simp only [List.cons.injEq, and_true] at e0 e2
      subst e0 e2
      exact ⟨(k, .slice B k2 c, l), by rw [List.getElem?_eq_getElem hi', hcs], wf_i64 r0, ⟨B, c, by rw [hb.len], hb.rd, fun h => by rw [hb.len]; exact hb.nil h, by rw [hb.len]; exact hb.le⟩, by rw [hb.len]; have := hb.reach; omega⟩)
  refine ⟨A, n, cap, ys.map (fun y => (y.1, y.2.2)), e1, ⟨by rw [List.length_map, hyl], fun hpos => ?_, hS.nil, hS.le, by rw [← b32]; exact hS.reach⟩⟩
  obtain ⟨g, o, rfl, hg, hc⟩ := hS.rd hpos
  refine ⟨g, o, rfl, hg, fun i hi => ?_⟩
  rw [List.length_map] at hi
  obtain ⟨h1, h2, h3, h4⟩ := hy i hi
  have hi' : i < els.length := by rw [hS.len, ← hyl]; exact hi
  have k0 := hc i hi' 0 (by rw [c2]; omega)
  have k1 := hc i hi' 1 (by rw [c2]; omega)
  rw [List.getElem?_eq_getElem hi'] at h1
  rw [Option.some.inj h1, c2] at k0 k1
  simp only [List.getElem_map]
  exact ⟨h2, by simpa using k0, _, by simpa using k1, h3, h4⟩
set_option maxRecDepth 100000 in
theorem open_op14 {fuel : Nat} {cs : List Value} {x : DataW H × List MemPlace} (h : DataW.trod enc Tryd.prog W 0 (fun _ => true) held fuel 38 cs = some x) (hw : (DataW.weights Tryd.prog 38 x.1).all (· ≤ reachBytes) = true) :
    ∃ o : O14, cs[0]? = some (.int .i64 o.kind) ∧ cs[1]? = some (.slice o.A o.m o.c) ∧ o.ok W := by
  obtain ⟨hl, m0, y0, t0, _⟩ := open_field Tryd.underlying38 h hw 0 3 0 rfl
  obtain ⟨_, m1, y1, t1, w1⟩ := open_field Tryd.underlying38 h hw 1 30 1 rfl
  have c5 : Tryd.prog.cellsOf 38 = 5 := by kernel_rfl
  have ci : Tryd.prog.cellsOf 3 = 1 := by kernel_rfl
  have ck : Tryd.prog.cellsOf 30 = 1 := by kernel_rfl
  rw [c5] at hl
  match cs, hl with
  | [a, b, c, d, e], _ =>
    simp only [ci, ck, List.drop_zero, List.drop_succ_cons, List.take_succ_cons, List.take_zero] at t0 t1
    obtain ⟨k, e0, _, r0⟩ := DataW.trod_int Tryd.underlying3 t0
    obtain ⟨A, m, cap, rs, e1, hr⟩ := open_redos t1 w1
    simp only [List.cons.injEq, and_true] at e0 e1
    subst e0 e1
    exact ⟨⟨k, A, m, cap, rs⟩, rfl, rfl, wf_i64 r0, hr⟩
structure ArgO14 (W : World) (A : Option Addr) (n cap : Nat) (l : List O14) : Prop where
  len : l.length = n
  rd : 0 < n → ∃ g o, A = some ⟨g, o, none⟩ ∧ g < W.heap.size ∧ ∀ i (hi : i < l.length), W.cell? ⟨g, o + i * 5, none⟩ = some (.int .i64 l[i].kind) ∧ W.cell? ⟨g, o + i * 5 + 1, none⟩ = some (.slice l[i].A l[i].m l[i].c)
  nil : A = none → n = 0
  le : n ≤ cap
  cap : cap ≤ maxLen
  ok : ∀ o ∈ l, o.ok W
set_option maxRecDepth 100000 in
theorem arg_op14s {v : Value} {d : DataW H} {ps : List MemPlace} {r : Reach} {b0 : Nat} (hv : Value.okWide Tryd.prog W r b0 22 v) (h : DataW.Trod enc Tryd.prog W 0 (fun _ => true) held 22 v d ps) (hw : (DataW.weights Tryd.prog 22 d).all (· ≤ reachBytes) = true) :
    ∃ A n cap l, v = .slice A n cap ∧ ArgO14 W A n cap l := by
  obtain ⟨A, n, cap, rfl⟩ := okWide_slice Tryd.underlying22 hv
  obtain ⟨fuel, hf⟩ := h
  have c5 : Tryd.prog.cellsOf 38 = 5 := by kernel_rfl
  obtain ⟨A', n', cap', els, h1, h2⟩ := open_elems Tryd.underlying22 (by rw [c5]; omega) hf hw
  simp [Value.cells] at h1
  obtain ⟨rfl, rfl, rfl⟩ := h1
  have hm : ∀ i, i < n → ∃ o : O14, (∀ (hi : i < els.length), els[i][0]? = some (.int .i64 o.kind) ∧ els[i][1]? = some (.slice o.A o.m o.c)) ∧ o.ok W := fun i hi => by
    have hi' : i < els.length := by rw [h2.len]; exact hi
    obtain ⟨_, m, y, e1, e2⟩ := h2.each els[i] (List.getElem_mem hi')
    obtain ⟨o, k0, k1, k2⟩ := open_op14 e1 e2
    exact ⟨o, fun _ => ⟨k0, k1⟩, k2⟩
  obtain ⟨ys, hyl, hy⟩ := list_choice n hm
  refine ⟨A, n, cap, ys, rfl, hyl, fun hn => ?_, h2.nil, h2.le, h2.cap, fun o ho => by obtain ⟨i, hi, rfl⟩ := List.getElem_of_mem ho; exact (hy i hi).2⟩
  obtain ⟨g, o, e, hg, hc⟩ := h2.rd hn
  refine ⟨g, o, e, hg, fun i hi => ?_⟩
  have hi' : i < els.length := by rw [h2.len, ← hyl]; exact hi
  obtain ⟨k0, k1⟩ := (hy i hi).1 hi'
  have a0 := hc i hi' 0 (by rw [c5]; omega)
  have a1 := hc i hi' 1 (by rw [c5]; omega)
  rw [c5] at a0 a1
  exact ⟨by simpa using a0.trans k0, by simpa using a1.trans k1⟩
end
theorem O14.ok.keep {W W' : World} {o : O14} (h : o.ok W) (hf : Fr [] W W') : o.ok W' := ⟨h.kind, h.r.keep_nil hf⟩
theorem ArgO14.keep {W W' : World} {A : Option Addr} {n c : Nat} {l : List O14} (h : ArgO14 W A n c l) (hf : Fr [] W W') : ArgO14 W' A n c l :=
  ⟨h.len, fun hn => by
    obtain ⟨g, o, e, hg, hc⟩ := h.rd hn
    exact ⟨g, o, e, by have := hf.size; omega, fun i hi => ⟨hf.cell (by simp) (hc i hi).1, hf.cell (by simp) (hc i hi).2⟩⟩, h.nil, h.le, h.cap, fun o ho => (h.ok o ho).keep hf⟩
end Go.Proofs.YtiknmcdighkclaaDoor
/-
  JournalChain: redos that are gathered out of what came in, beside a disk and a journal.
-/
set_option linter.unusedSimpArgs false
set_option linter.unusedVariables false
set_option linter.unnecessarySimpa false
namespace Go.Proofs.YtiknmcdighkclaaDoor
open Go.RowKit
set_option maxRecDepth 100000

theorem RdR.cellsD {W : World} {A : Option Addr} {n c : Nat} {rs : List (Int × List UInt8)} (h : RdR W A n c rs) :
    ∃ ps : List (Int × Value), ps.length = n ∧ Rd W A (rcells ps) ∧ (∀ u ∈ rcells ps, u.oneCell' = true) ∧ ∀ i (h1 : i < ps.length) (h2 : i < rs.length), ps[i].1 = rs[i].1 ∧ SlB W ps[i].2 rs[i].2 := by
  have hl := h.len
  by_cases h0 : 0 < n
  · obtain ⟨g, o, e, hg, hc⟩ := h.cell h0
    obtain ⟨ys, hyl, hy⟩ := list_choice (p := fun i (y : Int × Value) => ∀ hi : i < rs.length, y.1 = rs[i].1 ∧ W.cell? ⟨g, o + i * 2, none⟩ = some (.int .i64 y.1) ∧ W.cell? ⟨g, o + i * 2 + 1, none⟩ = some y.2 ∧ SlB W y.2 rs[i].2) n (fun i hi => by
      obtain ⟨-, k1, v, k2, k3, -⟩ := hc i (by omega)
      exact ⟨(rs[i].1, v), fun _ => ⟨rfl, k1, k2, k3⟩⟩)
    refine ⟨ys, hyl, fun _ => ⟨g, o, e, fun j u hu => ?_⟩, fun u hu => ?_, fun i h1 h2 => ⟨(hy i h1 h2).1, (hy i h1 h2).2.2.2⟩⟩
    · have hj := (List.getElem?_eq_some_iff.1 hu).1
      rw [rcells_len] at hj
      have hi : j / 2 < ys.length := by omega
      obtain ⟨-, k1, k2, -⟩ := hy (j / 2) hi (by omega)
      obtain ⟨p1, p2⟩ := rcells_at ys (j / 2) hi
      rcases Nat.mod_two_eq_zero_or_one j with hm | hm
      · have : j = j / 2 * 2 := by omega
        rw [this] at hu ⊢
        rw [p1] at hu
        cases hu
        exact k1
      · have : j = j / 2 * 2 + 1 := by omega
        rw [this] at hu ⊢
        rw [p2] at hu
        cases hu
        rw [← Nat.add_assoc]
        exact k2
    · obtain ⟨p, hp, hm⟩ := List.mem_flatMap.1 hu
      obtain ⟨i, hi, rfl⟩ := List.getElem_of_mem hp
      obtain ⟨A', c', e', -⟩ := (hy i hi (by omega)).2.2.2
      simp at hm
      rcases hm with rfl | rfl
      · rfl
      · rw [e']; rfl
  · obtain rfl : n = 0 := by omega
    exact ⟨[], rfl, fun h => absurd (show rcells [] = [] from rfl) h, fun u hu => absurd hu (by simp [rcells]), fun i h1 => absurd h1 (Nat.not_lt_zero _)⟩
/-- Redos that are gathered: the call's own cells, bytes that came in. -/
def Acc (W w : World) (v : Value) (rs : List (Int × List UInt8)) : Prop := ∃ ps : List (Int × Value), Row w W.heap.size 51 2 v rs.length (rcells ps) ∧ ps.length = rs.length ∧ ∀ i (h1 : i < ps.length) (h2 : i < rs.length), ps[i].1 = rs[i].1 ∧ SlB W ps[i].2 rs[i].2
theorem Acc.nil (W w : World) : Acc W w (.slice none 0 0) [] := ⟨[], Row.nil _ _ _ _, rfl, fun i h => by simp at h⟩
theorem Acc.rdx {W w : World} {A : Option Addr} {n c : Nat} {rs : List (Int × List UInt8)} (h : Acc W w (.slice A n c) rs) (f : Fr [] W w) : RdX w A rs := fun i hi => by
  obtain ⟨ps, r, hl, he⟩ := h
  have hi2 : i < ps.length := by rw [hl]; exact hi
  obtain ⟨g, o, e, hc⟩ := r.rd.1 (by intro h0; have := congrArg List.length h0; rw [rcells_len, List.length_nil] at this; omega)
  obtain ⟨p1, p2⟩ := rcells_at ps i hi2
  obtain ⟨e1, r1⟩ := he i hi2 hi
  rw [e1] at p1
  exact ⟨g, o, _, e, hc _ _ p1, by rw [Nat.add_assoc]; exact hc _ _ p2, r1.keep_nil f⟩
/-- A disk and a journal that were made behind W, and what was gathered beside them. -/
def LC (W w : World) (p g : Nat) (D : DkM) (J : JrM) (v : Value) (rs : List (Int × List UInt8)) : Prop := ∃ O, Dsk w p O D ∧ Jr w g p J ∧ g ∉ O ∧ (∀ i ∈ O, W.heap.size ≤ i) ∧ W.heap.size ≤ g ∧ Fr [] W w ∧ Acc W w v rs ∧ ∀ b, v.ownBlock = some b → b ∉ O
section
variable {W w w1 w2 : World} {p g : Nat} {D D' : DkM} {J J' : JrM} {v : Value} {rs : List (Int × List UInt8)}
theorem LC.fr (h : LC W w p g D J v rs) : Fr [] W w := by obtain ⟨O, -, -, -, -, -, f, -⟩ := h; exact f
theorem LC.jr (h : LC W w p g D J v rs) : Jr w g p J := by obtain ⟨O, -, h, -⟩ := h; exact h
theorem LC.acc (h : LC W w p g D J v rs) : Acc W w v rs := by obtain ⟨O, -, -, -, -, -, -, h, -⟩ := h; exact h
theorem LC.of (h : LJ W w p g D J) : LC W w p g D J (.slice none 0 0) [] := by
  obtain ⟨O, h1, h2, h3, h4, h5, h6⟩ := h
  exact ⟨O, h1, h2, h3, h4, h5, h6, Acc.nil _ _, fun b hb => by cases hb⟩
theorem LC.lj (h : LC W w p g D J v rs) : LJ W w p g D J := by
  obtain ⟨O, h1, h2, h3, h4, h5, h6, -⟩ := h
  exact ⟨O, h1, h2, h3, h4, h5, h6⟩
theorem LC.keep (h : LC W w p g D J v rs) (f : Fr [] w w2) : LC W w2 p g D J v rs := by
  obtain ⟨O, h1, h2, h3, h4, h5, h6, ⟨ps, r, hl, he⟩, h8⟩ := h
  exact ⟨O, h1.keep_nil f, h2.keep_nil f, h3, h4, h5, h6.trans_nil f, ⟨ps, r.keep_nil f, hl, he⟩, h8⟩
theorem LC.jop {f : Nat} {args : Array Value} {r : Int × DkM × JrM} (h : LC W w p g D J v rs) (hc : ∀ O, Dsk w p O D → g ∉ O → Jr w g p J → Calls Tryd.prog f args w (JopC w p g O r)) :
    Calls Tryd.prog f args w fun e w' => e = .returned (.int .i64 r.1) ∧ LC W w' p g r.2.1 r.2.2 v rs := by
  obtain ⟨O, h1, h2, h3, h4, h5, h6, ⟨ps, ra, hl, hE⟩, h8⟩ := h
  refine (hc O h1 h3 h2).mono ?_
  rintro e w' ⟨he, O', k1, k2, k3, k4⟩
  have hgl := h2.lt
  have hne : ∀ b, v.ownBlock = some b → b ∉ g :: O := fun b hb hm => by
    rcases List.mem_cons.1 hm with rfl | hm
    · exact ra.ne_blk h2 (by decide) hb
    · exact h8 b hb hm
  refine ⟨he, O', k1, k3, fun hm => ?_, fun i hi => ?_, h5, h6.trans k4 (fun i hi => .inr ?_), ⟨ps, ra.keep k4 hne, hl, hE⟩, fun b hb hm => ?_⟩
  · rcases k2 g hm with h | h
    · exact h3 h
    · omega
  · rcases k2 i hi with h | h
    · exact h4 i h
    · exact Nat.le_trans h6.size h
  · rcases List.mem_cons.1 hi with rfl | hi
    · exact h5
    · exact h4 i hi
  · rcases k2 b hm with h | h
    · exact h8 b hb h
    · have := (ra.lt b hb).2; omega
theorem LC.append (h : LC W w p g D J v rs) (ok : J.ok) {A : Option Addr} {n c : Nat} {qs : List (Int × List UInt8)} (hr : RdR W A n c qs) (hK : KG W) (hu : ∀ x, (D.uns x).length + 70 ≤ 4398046511104) :
    Calls Tryd.prog 12 #[.pointer (some ⟨g, 0, none⟩), .slice A n c] w fun e w' => e = .returned (.int .i64 (appM D J qs).1) ∧ LC W w' p g (appM D J qs).2.1 (appM D J qs).2.2 v rs :=
  h.jop fun O h1 h2 h3 => jnAppend_any h1 h3 h2 ok (hr.keep_nil h.fr) (hK.keep h.fr) hu
theorem LC.reset (h : LC W w p g D J v rs) (ok : J.ok) (hK : KG W) (hu : ∀ x, (D.uns x).length + 2 ≤ 4398046511104) :
    Calls Tryd.prog 9 #[.pointer (some ⟨g, 0, none⟩)] w fun e w' => e = .returned (.int .i64 (resM D J).1) ∧ LC W w' p g (resM D J).2.1 (resM D J).2.2 v rs :=
  h.jop fun O h1 h2 h3 => jnReset_any h1 h3 h2 ok (hK.keep h.fr) hu
/-- What is gathered next. -/
theorem LC.app (h : LC W w p g D J v rs) {qs : List (Int × List UInt8)} {ps qps : List (Int × Value)} {v' : Value} (r : Row w W.heap.size 51 2 v rs.length (rcells ps)) (hl : ps.length = rs.length)
    (he : ∀ i (h1 : i < ps.length) (h2 : i < rs.length), ps[i].1 = rs[i].1 ∧ SlB W ps[i].2 rs[i].2) (hql : qps.length = qs.length) (hqe : ∀ i (h1 : i < qps.length) (h2 : i < qs.length), qps[i].1 = qs[i].1 ∧ SlB W qps[i].2 qs[i].2)
    (q1 : Row w2 W.heap.size 51 2 v' (rs.length + qs.length) (rcells ps ++ rcells qps)) (q2 : Fr v.ownBlock.toList w w2) (q3 : ∀ b, v'.ownBlock = some b → v.ownBlock = some b ∨ b = w.heap.size) : LC W w2 p g D J v' (rs ++ qs) := by
  obtain ⟨O, h1, h2, h3, h4, h5, h6, -, h8⟩ := h
  have hlt : ∀ i ∈ O, i < w.heap.size := by obtain ⟨X, hX⟩ := h1; exact hX.lt
  refine ⟨O, h1.keep q2 (fun i hi hm => h8 i (mem_own.1 hm) hi) (r.noTy (by decide)), h2.keep q2 (fun hm => r.ne_blk h2 (by decide) (mem_own.1 hm)), h3, h4, h5, h6.trans q2 (fun i hi => .inr (r.lt i (mem_own.1 hi)).1), ⟨ps ++ qps, ?_, ?_, fun i a b => ?_⟩, fun b hb hm => ?_⟩
  · rw [List.length_append, rcells, List.flatMap_append]; exact q1
  · rw [List.length_append, List.length_append, hl, hql]
  · by_cases hi : i < ps.length
    · rw [List.getElem_append_left hi, List.getElem_append_left (by omega)]
      exact he i hi (by omega)
    · rw [List.length_append] at a b
      have e1 : (ps ++ qps)[i] = qps[i - ps.length] := List.getElem_append_right (by omega)
      have e2 : (rs ++ qs)[i] = qs[i - ps.length] := by rw [List.getElem_append_right (by omega)]; congr 1; omega
      rw [e1, e2]
      exact hqe _ (by omega) (by omega)
  · rcases q3 b hb with h | h
    · exact h8 b h hm
    · have := hlt b hm; omega
end
theorem bsOf_le : ∀ (t : List (List (Int × List UInt8))) (m : Nat), t.flatten.length ≤ (bsOf m t).length
  | [], m => Nat.le_refl _
  | rs :: t, m => by
    have := bsOf_le t (m + 1)
    rw [bsOf, List.length_append, blk_len2, List.flatten_cons, List.length_append]
    omega
end Go.Proofs.YtiknmcdighkclaaDoor
