/-
  Texts of this claim, one behind the other: DkG, JnA, DkM, DkJ, DkH, DkI, DkN, ShaA, CodB, CodC, CodD, CodE.
-/
import Derived.Test.YtbanogfljpkbkaaGreatDoorM3
import Derived.StillTailTactics
import Derived.Deep.LoopGhost
import Derived.Deep.DeepCutAuto
import Derived.IntWalk
import Derived.Deep.CutBlock
import Derived.BigQuiet
import Derived.Deep.QuietTactic
import Derived.Test.YtbanogfljpkbkaaGreatDoorM2
import Derived.Test.YtbanogfljpkbkaaGreatDoorM1
import Derived.Laws.BitsAllLaws
set_option linter.unusedSimpArgs false
set_option linter.unusedVariables false
set_option linter.unnecessarySimpa false
namespace Go.Proofs.YtbanogfljpkbkaaGreatDoor
section
open Go.RowKit
set_option maxRecDepth 100000
section
variable {w w' : World} {p : Nat} {O : List Nat} {D : DkM} {X : DkX}
theorem DskX.gT (h : DskX w p O D X) (e : TypeId) (he : 27 ≠ e) : NoTy w [X.g] e := by
 have := h.row.noTy (d := e) he
 simpa [Value.ownBlock] using this
theorem DskX.mT (h : DskX w p O D X) (e : TypeId) : NoTy w [X.m] e := fun i hi cs fz hc => by
 obtain ⟨D4, ⟨es, clock, hb, _⟩, _⟩ := h.map
 rw [List.mem_singleton.1 hi, hb] at hc
 cases hc
theorem DskX.pg (h : DskX w p O D X) : p ≠ X.g := fun e => h.row.ne_blk h.blk (by decide) (by rw [e]; rfl)
theorem DskX.um (h : DskX w p O D X) {x : Int} {v : Value} (hx : X.f x = some v) : v.ownBlock ≠ some X.m ∧ v.ownBlock ≠ some p := by
 obtain ⟨⟨us, r, _⟩, _⟩ := h.un x v hx
 refine ⟨fun e => ?_, r.ne_blk h.blk (by decide)⟩
 obtain ⟨D4, ⟨es, clock, hb, _⟩, _⟩ := h.map
 rcases r.2 with ⟨e2, _⟩ | ⟨g2, c2, cur2, fz2, e2, _, hg2, _⟩
 ·rw [e2] at e; cases e
 ·have : g2 = X.m := by rw [e2] at e; simpa [Value.ownBlock] using e
  subst this
  rw [hb] at hg2
  cases hg2
theorem DskX.setS (h : DskX w p O D X) {i : Nat} (hi : i < D.sure.length) {v : Value} {s : Option (List UInt8)} (hv : SuV w v s) :
  DskX (w.setCell ⟨X.g, i, none⟩ v) p O { D with sure := D.sure.set i s } { X with vs := X.vs.set i v } := by
 have f : Fr [X.g] w (w.setCell ⟨X.g, i, none⟩ v) := (Fr.refl [X.g] w).setCell (.inl (by simp)) v
 have n8 := h.gT 5 (by decide)
 have e : (D.sure.set i s).length = D.sure.length := List.length_set
 have rs := (h.row.setD i hi v).2.2
 refine ⟨h.pO, h.gO, h.mO, ?_, ?_, ?_, fun j a b => ?_, h.map.keep f (by simpa using h.mg), h.iff, fun x u hx => ?_, fun x hx => ?_, h.apart, fun j hj cs fz hc => ?_, fun j hj => Nat.lt_of_lt_of_le (h.lt j hj) f.size, h.calls⟩
 ·show Blk _ p _ #[.slice _ (D.sure.set i s).length _, _, _]
  rw [e]
  exact h.blk.keep f (by simpa using h.pg)
 ·show 1 ≤ (D.sure.set i s).length ∧ _
  rw [e]
  exact h.n1
 ·show Row _ 0 _ 1 (.slice _ (D.sure.set i s).length _) (D.sure.set i s).length (X.vs.set i v)
  rw [e]
  exact rs
 ·replace a : j < (X.vs.set i v).length := a
  replace b : j < (D.sure.set i s).length := b
  show SuV _ (X.vs.set i v)[j] (D.sure.set i s)[j]
  rw [List.length_set] at a b
  by_cases e2 : i = j
  ·subst e2
   simp only [List.getElem_set_self]
   exact hv.keepT f n8
  ·simp only [List.getElem_set_ne e2]
   exact (h.su j a b).keepT f n8
 ·obtain ⟨h1, g, h2, h3, h4⟩ := h.un x u hx
  exact ⟨h1.keep f n8 (fun g' hg' hm => by rw [h2] at hg'; cases hg'; exact h4 (List.mem_singleton.1 hm)), g, h2, h3, h4⟩
 ·show 0 ≤ x ∧ x < ((D.sure.set i s).length : Int)
  rw [e]
  exact h.rng x hx
 ·by_cases e2 : j = X.g
  ·subst e2
   exact rs.noTy (d := 5) (by decide) X.g (by simp [Value.ownBlock]) cs fz hc
  ·rw [f.same j (h.lt j hj) (by simpa using e2)] at hc
   exact h.no8 j hj cs fz hc
theorem DskX.clr (h : DskX w p O D X) (f : Fr [X.m] w w') (m : MapZ w' X.m 0 (fun _ => none)) : DskX w' p O { D with uns := fun _ => [] } { X with f := fun _ => none } := by
 have n8 := h.mT 5
 refine ⟨h.pO, h.gO, h.mO, h.blk.keep f (by simpa using fun e => h.mp e.symm), h.n1, h.row.keep f (fun g hg hm => ?_), fun i a b => (h.su i a b).keepT f n8, m.mono (by omega), fun x => ⟨fun _ => rfl, fun _ => rfl⟩, fun x v hx => (by cases hx), fun x hx => absurd rfl hx, fun x y u v _ hx => (by cases hx), fun j hj cs fz hc => ?_, fun j hj => Nat.lt_of_lt_of_le (h.lt j hj) f.size, h.calls⟩
 ·have : g = X.g := by simpa [Value.ownBlock] using hg.symm
  exact h.mg (by rw [← this]; exact (List.mem_singleton.1 hm).symm)
 ·by_cases e2 : j = X.m
  ·obtain ⟨D4, ⟨es, clock, hb, _⟩, _⟩ := m
   rw [e2, hb] at hc
   cases hc
  ·rw [f.same j (h.lt j hj) (by simpa using e2)] at hc
   exact h.no8 j hj cs fz hc
def DkM.fl (D : DkM) (left : Int → Bool) (i : Nat) : Option (List UInt8) := if left i then D.sure.getD i none else match (D.uns i).getLast? with | some b => some b | none => D.sure.getD i none
def DkM.flushL (D : DkM) (left : Int → Bool) : DkM := { D with sure := (List.range D.sure.length).map (D.fl left) }
theorem DkM.flushL_len (D : DkM) (left : Int → Bool) : (D.flushL left).sure.length = D.sure.length := by simp [DkM.flushL]
def DkM.flush1 (D : DkM) : DkM := { D.flushL (fun _ => false) with uns := fun _ => [] }
theorem DkM.flushL_start (D : DkM) (left : Int → Bool) (h : ∀ i : Nat, left i = false → D.uns i = []) : D.flushL left = D := by
 have e : (List.range D.sure.length).map (D.fl left) = D.sure := by
  apply List.ext_getElem (by simp)
  intro i h1 h2
  rw [List.getElem_map, List.getElem_range]
  have hg : D.sure.getD i none = D.sure[i] := by simp [h2]
  unfold DkM.fl
  cases hl : left i
  ·rw [if_neg (by simp), h i hl]
   exact hg
  ·rw [if_pos rfl, hg]
 unfold DkM.flushL
 rw [e]
theorem DkM.flushL_end (D : DkM) (left : Int → Bool) (h : ∀ i : Nat, i < D.sure.length → left i = false) : D.flushL left = D.flushL (fun _ => false) := by
 unfold DkM.flushL
 congr 1
 apply List.map_congr_left
 intro i hi
 unfold DkM.fl
 rw [h i (by simpa using hi)]
theorem DkM.flushL_step (D : DkM) (left : Int → Bool) {i : Nat} (hi : i < D.sure.length) {b : List UInt8} (hb : (D.uns i).getLast? = some b) : D.flushL (fun y => left y && !(y == (i : Int))) = { D.flushL left with sure := (D.flushL left).sure.set i (some b) } := by
 unfold DkM.flushL
 congr 1
 apply List.ext_getElem (by simp)
 intro j h1 h2
 rw [List.getElem_map, List.getElem_range]
 by_cases e : i = j
 ·subst e
  rw [List.getElem_set_self]
  unfold DkM.fl
  simp [hb]
 ·rw [List.getElem_set_ne e, List.getElem_map, List.getElem_range]
  unfold DkM.fl
  have : ((j : Int) == (i : Int)) = false := by rw [beq_eq_false_iff_ne]; omega
  simp only [this, Bool.not_false, Bool.and_true]
theorem RangeZ.noTy {b r n cnt : Nat} {f : Int → Option Value} {left : Int → Bool} (h : RangeZ w b r n f left cnt) (e : TypeId) : NoTy w [r] e := fun i hi cs fz hc => by
 obtain ⟨D4, lf, ⟨es, clock, since, seen, c0, _, _, _, _, hr, _⟩, _⟩ := h
 rw [List.mem_singleton.1 hi, hr] at hc
 cases hc
theorem RangeZ.ne {b r n cnt : Nat} {f : Int → Option Value} {left : Int → Bool} (h : RangeZ w b r n f left cnt) : r ≠ b := by
 obtain ⟨D4, lf, h, _⟩ := h
 exact h.ne
theorem UR.last {v : Value} {L : List (List UInt8)} (h : UR w v L) (hL : L ≠ []) : ∃ g n c b u, v = .slice (some ⟨g, 0, none⟩) (n + 1) c ∧ L.getLast? = some b ∧ w.cell? ⟨g, n, none⟩ = some u ∧ BlkB w u b ∧ n + 1 ≤ 9223372036854775807 := by
 obtain ⟨us, r, hb⟩ := h
 obtain ⟨n, hn⟩ : ∃ n, L.length = n + 1 := ⟨L.length - 1, by have := List.length_pos_iff.2 hL; omega⟩
 have hul : us.length = n + 1 := by have := r.1; omega
 rw [hn] at r
 have hn48 : n + 1 ≤ 9223372036854775807 := by obtain ⟨_, _, _, h1, h2, -⟩ := r.shape; unfold maxLen at h2; omega
 obtain ⟨g, c, rfl⟩ := r.hdD (by omega)
 obtain ⟨g', o', e', hc⟩ := r.rdD.1 (by intro h0; rw [h0] at hul; simp at hul)
 cases e'
 have cn := hc n _ (List.getElem?_eq_getElem (by omega))
 rw [Nat.zero_add] at cn
 exact ⟨g, n, c, _, _, rfl, by rw [List.getLast?_eq_getElem?, show L.length - 1 = n by omega, List.getElem?_eq_getElem], cn, hb n (by omega) (by omega), hn48⟩
set_option maxHeartbeats 2000000 in
theorem dkFlush1_any {g3 : Nat} (h : Dsk w p O D) (k3 : Blk w g3 32 #[.pointer (some ⟨p, 0, none⟩)]) (hO : g3 ∉ O) :
  Calls Tryz.prog 165 #[.pointer (some ⟨g3, 0, none⟩)] w fun e w' => e = .returned (.tuple #[]) ∧ AftD w p O D.flush1 w' := by
 obtain ⟨X, h⟩ := h
 have c1 := h.c1
 have mz := h.map
 have e3 := k3.cell 0
 simp at e3
 obtain ⟨r, hr⟩ : ∃ r, w.heap.size = r := ⟨_, rfl⟩
 have HR := Lib.hid (And.intro hr hO)
 have HOR := Lib.hid (show (∀ i ∈ O, i ≠ r) ∧ g3 ≠ r from ⟨fun i hi => by have := h.lt i hi; omega, by have := k3.lt; omega⟩)
 clear hr hO
 go_enter Tryz.func165, Tryz.ntmps165
 go_wp2_with (first | (at_range; refine wpList_rangeZ rfl rfl Tryz.underlying116 rfl mz ?_; intro w0 cnt0 hrg f0 s0; rw [HR.out.1]; rw [HR.out.1] at hrg; go_frame))
 have h0 := h.keep_nil f0
 have F0 : Fr O w w0 := f0.mono (by simp)
 clear f0 s0 mz h
 go_loopw [1] (fun _ wr => ∃ left cnt vs, RangeZ wr X.m r 4096 X.f left cnt ∧ DskX wr p O (D.flushL left) { X with vs := vs } ∧ Fr O w wr) (fun _ wr => wr.rangeLeft X.m r)
 case atStart =>
  refine ⟨_, _, X.vs, hrg, ?_, F0⟩
  rw [DkM.flushL_start]
  ·exact h0
  ·intro i hi
   have : X.f i = none := by simpa using hi
   exact (h0.iff i).1 this
 case round =>
  clear hrg h0 F0
  obtain ⟨left, cnt, vs, hrg, h, F⟩ := hrel
  have e3r := F.cell HR.out.2 e3
  have c1r := h.c1
  go_wp2_with (at_next; refine wpList_nextZ rfl rfl rfl hrg ?_ ?_)
  ·intro hl0
   have mz := hrg.map
   go_wp2_with (refine wpList_clearZ rfl rfl Tryz.underlying116 rfl mz ?_; intro w2 m2 f2 s2)
   go_returns
   refine ⟨rfl, O, ⟨{ ({ X with vs := vs } : DkX) with f := fun _ => none }, ?_⟩, fun i hi => .inl hi, F.trans f2 (fun i hi => .inl (by rw [List.mem_singleton.1 hi]; exact h.mO))⟩
   have h2 := h.clr f2 m2
   rw [DkM.flushL_end D left (fun i hi => hl0 i (wfZ_of (by have := h.n1.2; rw [DkM.flushL_len] at this; omega)))] at h2
   exact h2
  ·intro x v w1 cnt1 hwx hlx hfx hrg1 hlt f1 s1 hen
   have rO : r ∉ O := fun hm => HOR.out.1 r hm rfl
   have h1 := h.keep f1 (fun i hi hm => rO (by rw [← List.mem_singleton.1 hm]; exact hi)) (hrg.noTy _)
   obtain ⟨u1, _⟩ := h1.un x v hfx
   have hne : D.uns x ≠ [] := fun e => by
    have h2 : X.f x = none := (h1.iff x).2 e
    rw [hfx] at h2; cases h2
   obtain ⟨hx0, hx1⟩ := h1.rng x hne
   rw [DkM.flushL_len] at hx1
   obtain ⟨k, rfl⟩ : ∃ k : Nat, x = k := ⟨x.toNat, by omega⟩
   have hk : k < D.sure.length := by omega
   obtain ⟨g, n, c, b, u, rfl, hlast, cu, bu, hn48⟩ := u1.last hne
   have e3s := f1.cell (by simpa using HOR.out.2) e3r
   have c0s := h1.c0
   rw [DkM.flushL_len] at c0s
   obtain ⟨hb5, rb⟩ := id bu
   obtain ⟨g2, c2, rfl⟩ := rb.hdD (by omega)
   have srow := h1.row
   rw [DkM.flushL_len] at srow
   have x0 := (srow.setD k hk .nilFunc).1
   have y0 := (srow.setD k hk .nilFunc).2.1
   obtain ⟨N, hN⟩ : ∃ N, D.sure.length = N := ⟨_, rfl⟩
   rw [hN] at c0s hk
   dsimp only at x0 y0 c0s
   have hvk : k < vs.length := by have := srow.1; dsimp only at this; omega
   rw [List.getElem?_eq_getElem hvk] at x0
   obtain ⟨old, hold⟩ : ∃ old, vs[k] = old := ⟨_, rfl⟩
   rw [hold] at x0
   have K0 : (0 : Int) < (n : Int) + 1 := by omega
   have UN : IntKind.i64.wrap ((n : Int) + 1 - 1) = n := by rw [show (n : Int) + 1 - 1 = n by omega]; exact IntWalk.i64_in _ (by omega)
   have UN2 : IntKind.i64.wrap (n : Int) = n := IntWalk.i64_in _ (by omega)
   have HK := Lib.hid (And.intro hN hk)
   have HH := Lib.hid h1
   have HB := Lib.hid (And.intro hlast bu)
   have HL := Lib.hid hlt
   have HLE := Lib.hid hrg.left_eq
   clear hold hN h1 hlast bu rb hb5 srow hne h hrg hlt hwx hlx
   go_upto_region 3 with fail
   have K1 : (n : Int) < (n : Int) + 1 := by omega
   go_still_tail 12, (by kernel_rfl)
   have fz := (Fr.refl [] w1).drew
   obtain ⟨w8, hw8⟩ : ∃ w8, w1.drew = w8 := ⟨_, rfl⟩
   change wpList _ _ _ _ _ (World.drew w1)
   rw [hw8] at fz ⊢
   replace x0 := fz.cell (by simp) x0
   have h8 := HH.out.keep_nil fz
   have srow := h8.row
   rw [DkM.flushL_len, HK.out.1] at srow
   replace y0 := (srow.setD k hk .nilFunc).2.1
   dsimp only at y0
   have hset := h8.setS (i := k) (by rw [DkM.flushL_len, HK.out.1]; exact hk) (v := .slice (some ⟨g2, 0, none⟩) 512 c2) (s := some b) (HB.out.2.keep_nil fz)
   rw [← DkM.flushL_step D left (by rw [HK.out.1]; exact hk) HB.out.1] at hset
   have fs : Fr [X.g] w8 (w8.setCell ⟨X.g, k, none⟩ (.slice (some ⟨g2, 0, none⟩) 512 c2)) := (Fr.refl [X.g] w8).setCell (.inl (by simp)) _
   have hg2 : r ≠ X.g := fun e => HOR.out.1 X.g h8.gO e.symm
   have hrg8 := (hrg1.keep fz (by simp) (by simp)).keep fs (by simpa using h8.mg) (by simpa using hg2)
   have F8 := ((F.trans f1 (fun i hi => .inr (by rw [List.mem_singleton.1 hi, HR.out.1]; exact Nat.le_refl _))).trans_nil fz).trans fs (fun i hi => .inl (by rw [List.mem_singleton.1 hi]; exact h8.gO))
   have HS := Lib.hid (And.intro hset (And.intro hrg8 F8))
   clear h8 srow hset hrg8 F8 hw8 fz F hrg1
   go_wp2_with fail
   obtain ⟨hset, hrg8, F8⟩ := HS.out
   refine ⟨⟨_, cnt1, _, hrg8, hset, F8⟩, ?_⟩
   rw [hrg8.left_eq, HLE.out]
   exact HL.out
def DkM.flushE (D : DkM) : Int := if D.off = true then 102 else 0
def DkM.flush (D : DkM) : DkM := if D.off = true then D else D.flush1.dec
theorem dkFlush_any (h : Dsk w p O D) : Calls Tryz.prog 112 #[.pointer (some ⟨p, 0, none⟩)] w fun e w' => e = .returned (.int .i64 D.flushE) ∧ AftD w p O D.flush w' := by
 obtain ⟨k1, f1, z1⟩ := box1D w 32 (.pointer (some ⟨p, 0, none⟩))
 have hO : w.heap.size ∉ O := fun e => by obtain ⟨X, hX⟩ := h; have := hX.lt _ e; omega
 obtain ⟨w1, hw1⟩ : ∃ w1, w.alloc (.cells #[.pointer (some ⟨p, 0, none⟩)] 32) = w1 := ⟨_, rfl⟩
 obtain ⟨g3, hg3⟩ : ∃ g3, w.heap.size = g3 := ⟨_, rfl⟩
 rw [hw1] at k1 f1
 rw [hg3] at k1 hO
 have h1 := h.keep_nil f1
 have e1 := k1.cell 0
 simp at e1
 have HW := Lib.hid (And.intro hw1 hg3)
 cases ho : D.off
 ·have HE := Lib.hid (show D.flushE = 0 by rw [DkM.flushE, ho]; rfl)
  have HD := Lib.hid (show D.flush1.dec = D.flush by rw [DkM.flush, ho]; rfl)
  have cw := dkWith_dkFlush1 h1 ho (dkFlush1_any h1 k1 hO)
  have cm := dkMade_any h1
  clear ho hw1 hg3 z1 h hO
  go_enter Tryz.func112, Tryz.ntmps112
  go_wp2_with fail
  rw [HW.out.1, HW.out.2]
  refine cm.mono ?_
  rintro e w4 ⟨rfl, rfl⟩
  go_wp2_with fail
  refine cw.mono ?_
  rintro e w5 ⟨rfl, aft⟩
  have FIN := Lib.hid ((aft.pre f1).eq HD.out)
  clear aft h1 cw cm
  go_wp2_with fail
  go_ret
  exact ⟨by rw [HE.out]; rfl, FIN.out⟩
 ·have HE := Lib.hid (show D.flushE = 102 by rw [DkM.flushE, ho]; rfl)
  have HD := Lib.hid (show D = D.flush by rw [DkM.flush, ho]; rfl)
  have cw := dkWithOff_dkFlush1 (g3 := g3) h1 ho
  have cm := dkMade_any h1
  have FIN := Lib.hid (((AftD.same h1).pre f1).eq HD.out)
  clear ho hw1 hg3 z1 h hO
  go_enter Tryz.func112, Tryz.ntmps112
  go_wp2_with fail
  rw [HW.out.1, HW.out.2]
  refine cm.mono ?_
  rintro e w4 ⟨rfl, rfl⟩
  go_wp2_with fail
  refine cw.mono ?_
  rintro e w5 ⟨rfl, rfl⟩
  clear h1 cw cm
  go_wp2_with fail
  go_ret
  exact ⟨by rw [HE.out]; rfl, FIN.out⟩
end
end
section
open Go.RowKit
set_option maxRecDepth 100000
structure JrM where
 first : Int
 count : Int
 num : Nat
 used : Int
 begun : Bool
 bad : Bool
def Jr (w : World) (g p : Nat) (J : JrM) : Prop := Blk w g 169 #[.pointer (some ⟨p, 0, none⟩), .int .i64 J.first, .int .i64 J.count, .int .u64 (J.num : Int), .int .i64 J.used, .bool J.begun, .bool J.bad]
def JrM.stE (J : JrM) : Int := if J.bad then 102 else 0
def jRight (D : DkM) (first count : Int) : Bool := decide (16 ≤ count) && (decide (count ≤ 256) && (decide (0 ≤ first) && decide (first ≤ D.sure.length - count)))
structure JrM.ok (J : JrM) : Prop where
 c : 16 ≤ J.count ∧ J.count ≤ 256
 f : 0 ≤ J.first ∧ J.first ≤ 4096
 n : J.num < 18446744073709551616
 u : 0 ≤ J.used ∧ J.used ≤ 256
def JrM.most (J : JrM) : Int := min (J.count - 3) 64
def JrM.room (J : JrM) : Int := if J.bad = true ∨ J.begun = false then 0 else max (min (J.count - 3 - J.used) 64) 0
theorem room_if (x : Int) : (if (if 64 < x then 64 else x) < 0 then 0 else if 64 < x then 64 else x) = max (min x 64) 0 := by
 by_cases h : 64 < x
 ·rw [if_pos h, if_neg (by omega)]; omega
 ·rw [if_neg h]; split <;> omega
section
variable {w w' : World} {g p : Nat} {O : List Nat} {J : JrM} {D : DkM}
theorem Jr.keep (h : Jr w g p J) {F : List Nat} (f : Fr F w w') (hF : g ∉ F) : Jr w' g p J := Blk.keep h f hF
theorem Jr.keep_nil (h : Jr w g p J) (f : Fr [] w w') : Jr w' g p J := h.keep f (by simp)
theorem jnRight_any (h : Dsk w p O D) (x y : Int) (hx : wfZ x) : Calls Tryz.prog 64 #[.pointer (some ⟨p, 0, none⟩), .int .i64 x, .int .i64 y] w fun e w' => e = .returned (.bool (jRight D x y)) ∧ w = w' := by
 have cl := dkLen_any h
 obtain ⟨X, hX⟩ := h
 have hn := hX.n1
 obtain ⟨n, hn'⟩ : ∃ n, D.sure.length = n := ⟨_, rfl⟩
 have HR := Lib.hid (show jRight D x y = (decide (16 ≤ y) && (decide (y ≤ 256) && (decide (0 ≤ x) && decide (x ≤ (n : Int) - y)))) by rw [jRight, hn'])
 rw [hn'] at cl hn
 clear hX hn'
 by_cases h1 : 16 ≤ y
 ·by_cases h2 : y ≤ 256
  ·by_cases h3 : 0 ≤ x
   ·go_enter Tryz.func64, Tryz.ntmps64
    go_wp2_with (go_at_call 107; refine cl.mono ?_; rintro e w' ⟨rfl, rfl⟩)
    go_returns
    exact ⟨by rw [HR.out, decide_eq_true h1, decide_eq_true h2, decide_eq_true h3]; rfl, rfl⟩
   ·clear cl
    go_enter Tryz.func64, Tryz.ntmps64
    go_wp2_with fail
    go_returns
    exact ⟨by rw [HR.out, decide_eq_false (show ¬ 0 ≤ x by omega), Bool.false_and, Bool.and_false, Bool.and_false]; rfl, rfl⟩
  ·clear cl
   go_enter Tryz.func64, Tryz.ntmps64
   go_wp2_with fail
   go_returns
   exact ⟨by rw [HR.out, decide_eq_false (show ¬ y ≤ 256 by omega), Bool.false_and, Bool.and_false]; rfl, rfl⟩
 ·clear cl
  go_enter Tryz.func64, Tryz.ntmps64
  go_wp2_with fail
  go_returns
  exact ⟨by rw [HR.out, decide_eq_false (show ¬ 16 ≤ y by omega), Bool.false_and]; rfl, rfl⟩
theorem jnState_any (h : Jr w g p J) : Calls Tryz.prog 141 #[.pointer (some ⟨g, 0, none⟩)] w fun e w' => e = .returned (.int .i64 J.stE) ∧ w = w' := by
 have c0 := h.cell 0
 have c6 := h.cell 6
 have HS := Lib.hid (show J.stE = if J.bad then 102 else 0 from rfl)
 obtain ⟨bad, hb⟩ : ∃ b, J.bad = b := ⟨_, rfl⟩
 simp only [List.getElem?_toArray, List.getElem?_cons_zero, List.getElem?_cons_succ] at c0 c6
 rw [hb] at HS
 rw [hb] at c6
 clear h hb
 cases bad
 ·go_enter Tryz.func141, Tryz.ntmps141
  go_wp2_with fail
  go_ret
  exact ⟨by rw [HS.out]; rfl, rfl⟩
 ·go_enter Tryz.func141, Tryz.ntmps141
  go_wp2_with fail
  go_ret
  exact ⟨by rw [HS.out]; rfl, rfl⟩
theorem jnUsed_any (h : Jr w g p J) : Calls Tryz.prog 142 #[.pointer (some ⟨g, 0, none⟩)] w fun e w' => e = .returned (.int .i64 J.used) ∧ w = w' := by
 have c4 : w.cell? ⟨g, 4, none⟩ = some (.int .i64 J.used) := Blk.cell h 4
 go_enter Tryz.func142, Tryz.ntmps142
 go_wp2_with fail
 go_ret
 exact ⟨rfl, rfl⟩
theorem jnBegun_any (h : Jr w g p J) : Calls Tryz.prog 143 #[.pointer (some ⟨g, 0, none⟩)] w fun e w' => e = .returned (.bool J.begun) ∧ w = w' := by
 have c5 : w.cell? ⟨g, 5, none⟩ = some (.bool J.begun) := Blk.cell h 5
 go_enter Tryz.func143, Tryz.ntmps143
 go_wp2_with fail
 go_ret
 exact ⟨rfl, rfl⟩
theorem jnMost_any (h : Jr w g p J) (ok : J.ok) : Calls Tryz.prog 92 #[.pointer (some ⟨g, 0, none⟩)] w fun e w' => e = .returned (.int .i64 J.most) ∧ w = w' := by
 have c0 : w.cell? ⟨g, 0, none⟩ = some (.pointer (some ⟨p, 0, none⟩)) := Blk.cell h 0
 have c2 : w.cell? ⟨g, 2, none⟩ = some (.int .i64 J.count) := Blk.cell h 2
 have hc := ok.c
 have e1 : IntKind.i64.wrap (J.count - 3) = J.count - 3 := IntWalk.i64_in _ (by omega)
 go_enter Tryz.func92, Tryz.ntmps92
 go_wp2_with fail
 ·go_ret
  exact ⟨by rw [show J.most = 64 by unfold JrM.most; omega]; rfl, rfl⟩
 ·go_ret
  exact ⟨by rw [show J.most = J.count - 3 by unfold JrM.most; omega]; rfl, rfl⟩
theorem jnRoom_any (h : Jr w g p J) (ok : J.ok) : Calls Tryz.prog 91 #[.pointer (some ⟨g, 0, none⟩)] w fun e w' => e = .returned (.int .i64 J.room) ∧ Fr [] w w' := by
 have c2 : w.cell? ⟨g, 2, none⟩ = some (.int .i64 J.count) := Blk.cell h 2
 have c4 : w.cell? ⟨g, 4, none⟩ = some (.int .i64 J.used) := Blk.cell h 4
 have c5 : w.cell? ⟨g, 5, none⟩ = some (.bool J.begun) := Blk.cell h 5
 have cs := jnState_any h
 have hc := ok.c
 have hu := ok.u
 have HS := Lib.hid (show J.room = if J.bad = true ∨ J.begun = false then 0 else max (min (J.count - 3 - J.used) 64) 0 from rfl)
 rw [JrM.stE] at cs
 obtain ⟨bad, hb⟩ : ∃ b, J.bad = b := ⟨_, rfl⟩
 obtain ⟨beg, hg⟩ : ∃ b, J.begun = b := ⟨_, rfl⟩
 rw [hb, hg] at HS
 rw [hg] at c5
 rw [hb] at cs
 clear h hb hg
 have e1 : IntKind.i64.wrap (J.count - 3) = J.count - 3 := IntWalk.i64_in _ (by omega)
 have e2 : IntKind.i64.wrap (J.count - 3 - J.used) = J.count - 3 - J.used := IntWalk.i64_in _ (by omega)
 cases bad
 ·cases beg
  ·go_enter Tryz.func91, Tryz.ntmps91
   go_wp2_with (go_at_call 141; refine cs.mono ?_; rintro e w' ⟨rfl, rfl⟩)
   go_ret
   exact ⟨by rw [HS.out]; rfl, Fr.refl _ _⟩
  ·go_enter Tryz.func91, Tryz.ntmps91
   go_upto_region 3 with (go_at_call 141; refine cs.mono ?_; rintro e w' ⟨rfl, rfl⟩)
   go_quiet (fail)
   rw [room_if]
   obtain ⟨m, hm⟩ : ∃ m, max (min (J.count - 3 - J.used) 64) 0 = m := ⟨_, rfl⟩
   obtain ⟨m2, hm2⟩ : ∃ m, (if 64 < J.count - 3 - J.used then 64 else J.count - 3 - J.used) = m := ⟨_, rfl⟩
   rw [hm] at HS ⊢
   rw [hm2]
   go_wp2_with fail
   go_ret
   exact ⟨by rw [HS.out, if_neg (by simp)]; rfl, (Fr.refl _ _).drewN _⟩
 ·go_enter Tryz.func91, Tryz.ntmps91
  go_wp2_with (go_at_call 141; refine cs.mono ?_; rintro e w' ⟨rfl, rfl⟩)
  go_ret
  exact ⟨by rw [HS.out]; rfl, Fr.refl _ _⟩
theorem jnDid_any (h : Jr w g p J) (z : Int) : Calls Tryz.prog 148 #[.pointer (some ⟨g, 0, none⟩), .int .i64 z] w fun e w' => e = .returned (.int .i64 z) ∧ Jr w' g p { J with bad := J.bad || decide (z ≠ 0) } ∧ Fr [g] w w' := by
 have c6 : w.cell? ⟨g, 6, none⟩ = some (.bool J.bad) := Blk.cell h 6
 have z6 := Blk.frozen h 6
 have HH := Lib.hid h
 obtain ⟨bad, hb⟩ : ∃ b, J.bad = b := ⟨_, rfl⟩
 rw [hb] at c6
 have key : ∀ b : Bool, b = (J.bad || decide (z ≠ 0)) → Jr (w.setCell ⟨g, 6, none⟩ (.bool b)) g p { J with bad := J.bad || decide (z ≠ 0) } ∧ Fr [g] w (w.setCell ⟨g, 6, none⟩ (.bool b)) := fun b hb => by
  refine ⟨?_, (Fr.refl _ _).setCell (.inl (by simp)) _⟩
  have := Blk.set_ HH.out 6 (.bool b)
  rw [hb] at this ⊢
  exact this
 have KEY := Lib.hid key
 have HB := Lib.hid hb
 clear h key hb
 cases bad
 ·by_cases hz : z = 0
  ·subst hz
   go_enter Tryz.func148, Tryz.ntmps148
   go_wp2_with fail
   go_ret
   exact ⟨rfl, KEY.out _ (by rw [HB.out]; rfl)⟩
  ·have dz : (z == 0) = false := by simpa using hz
   go_enter Tryz.func148, Tryz.ntmps148
   go_wp2_with fail
   go_ret
   exact ⟨rfl, KEY.out _ (by rw [HB.out]; simp [hz])⟩
 ·go_enter Tryz.func148, Tryz.ntmps148
  go_wp2_with fail
  go_ret
  exact ⟨rfl, KEY.out _ (by rw [HB.out]; rfl)⟩
end
end
section
open Go.RowKit
set_option maxRecDepth 100000
def blkK (b : List UInt8) (k : Nat) : List UInt8 := (List.range 512).map fun i => if i < k then b.getD (i % b.length) 0 else 0
def blkOf (b : List UInt8) : List UInt8 := blkK b 512
theorem blkK_len (b : List UInt8) (k : Nat) : (blkK b k).length = 512 := by simp [blkK]
theorem blkOf_len (b : List UInt8) : (blkOf b).length = 512 := blkK_len b 512
theorem blkK_zero (b : List UInt8) : blkK b 0 = zB512 := by
 apply List.ext_getElem
 ·rw [blkK_len, zB512_len]
 ·intro i h1 h2
  simp [blkK, zB512, List.getElem_replicate, -List.reduceReplicate]
theorem blkOf_nil : blkOf [] = zB512 := by
 apply List.ext_getElem
 ·rw [blkOf_len, zB512_len]
 ·intro i h1 h2
  simp [blkOf, blkK, zB512, List.getElem_replicate, -List.reduceReplicate]
theorem blkK_succ (b : List UInt8) (k : Nat) (hk : k < 512) : blkK b (k + 1) = (blkK b k).set k (b.getD (k % b.length) 0) := by
 apply List.ext_getElem
 ·rw [List.length_set, blkK_len, blkK_len]
 ·intro i h1 h2
  rw [List.getElem_set]
  simp only [blkK, List.getElem_map, List.getElem_range]
  by_cases e : k = i
  ·subst e; simp
  ·rw [if_neg e]
   by_cases h : i < k
   ·rw [if_pos (by omega), if_pos h]
   ·rw [if_neg (by omega), if_neg h]
def BlkCD (w : World) (b : List UInt8) (e : Ending) (w' : World) : Prop := ∃ v, e = .returned v ∧ Row w' w.heap.size 5 1 v 512 (bvs (blkOf b)) ∧ Fr [] w w'
theorem blkK_nil (k : Nat) : blkK [] k = blkOf [] := by
 rw [blkOf_nil, ← blkK_zero []]
 simp only [blkK]
 apply List.map_congr_left
 intro i _
 split <;> simp
set_option maxHeartbeats 2000000 in
theorem dkBlock_any (w : World) (A : Option Addr) (n c : Nat) (b : List UInt8) (hb : b.length = n) (rd : Rd w A (bvs b)) (hn : n ≤ 4611686018427387904) : Calls Tryz.prog 13 #[.slice A n c] w (BlkCD w b) := by
 have HB := Lib.hid hb
 go_enter Tryz.func13, Tryz.ntmps13
 go_wp2_with (first | (refine wpList_mk1 rfl rfl slB rfl .i64 .i64 _ _ 512 rfl rfl rfl rfl (by omega) ?_; intro w1 k1 r1 f1 z1))
 rw [← zB512_vs, ← blkK_zero b] at r1
 obtain ⟨gb, hgb⟩ : ∃ gb, w.heap.size = gb := ⟨_, rfl⟩
 rw [hgb] at r1 ⊢
 have HG := Lib.hid hgb
 have F1 := Lib.hid f1
 have RD := Lib.hid rd
 clear k1 z1 hgb f1 hb rd
 go_loopw [4] (fun i wr => ∃ k : Nat, k ≤ 512 ∧ i = .int .i64 k ∧ Row wr gb 5 1 (.slice (some ⟨gb, 0, none⟩) 512 512) 512 (bvs (blkK b k)) ∧ Fr [] w wr) (fun i _ => 512 - (intOf i).toNat)
 case atStart => exact ⟨0, by omega, rfl, r1, F1.out⟩
 case round =>
  clear r1
  obtain ⟨k, hk, rfl, R, F⟩ := hrel
  by_cases hp : 0 < n
  ·have d2 : (0 : Int) < n := by omega
   by_cases hlt : k < 512
   ·have d0 : (k : Int) < 512 := by omega
    have hkn : k % n < n := Nat.mod_lt _ hp
    have hkb : k % n < b.length := by rw [HB.out]; exact hkn
    obtain ⟨y, hy⟩ : ∃ y, b[k % n] = y := ⟨_, rfl⟩
    obtain ⟨g, o, rfl, hc⟩ := RD.out (by intro h; have := congrArg List.length h; simp [bvs] at this; rw [this] at hkb; cases hkb)
    have cy := F.cell (by simp) (hc (k % n) (.int .u8 y.toNat) (by rw [bvs, List.getElem?_map, List.getElem?_eq_getElem hkb, hy]; rfl))
    have ck := (R.setD k hlt (.int .u8 y.toNat)).1
    rw [bvs, List.getElem?_map, List.getElem?_eq_getElem (by rw [blkK_len]; exact hlt)] at ck
    have fk := (R.setD k hlt (.int .u8 y.toNat)).2.1
    have HS := Lib.hid (R.setD k hlt (.int .u8 y.toNat)).2.2
    have HY := Lib.hid (show bvs (blkK b (k + 1)) = (bvs (blkK b k)).set k (.int .u8 y.toNat) by
     rw [blkK_succ b k hlt, HB.out, bvs, bvs, List.map_set, List.getD_eq_getElem?_getD, List.getElem?_eq_getElem hkb, hy]; rfl)
    obtain ⟨q, hq⟩ : ∃ q, k % n = q := ⟨_, rfl⟩
    have DV : (k : Int).tmod n = q := by rw [← hq]; exact (Int.ofNat_tmod _ _).symm
    have dn : (n : Int) ≠ 0 := by omega
    rw [hq] at cy hkn
    simp only [Option.map_some] at ck
    clear hc hy hkb hq R
    go_wp2_with fail
    have R2 := HS.out
    rw [← HY.out] at R2
    exact ⟨⟨k + 1, by omega, by go_num, R2, F.setCell (.inr (by have := HG.out; simp; omega)) _⟩, by simp [intOf]; omega⟩
   ·have hk2 : k = 512 := by omega
    subst hk2
    have d0 : ¬ (((512 : Nat) : Int) < 512) := by omega
    go_wp2_with fail
    go_ret
    exact ⟨_, rfl, by rw [HG.out]; exact R, F⟩
  ·have hn0 : n = 0 := by omega
   subst hn0
   have hbn : b = [] := List.length_eq_zero_iff.1 HB.out
   have HE := Lib.hid (show blkK b k = blkOf b by rw [hbn, blkK_nil])
   rw [HE.out] at R
   clear hbn
   by_cases hlt : k < 512
   ·have d0 : (k : Int) < 512 := by omega
    go_wp2_with fail
    go_ret
    exact ⟨_, rfl, by rw [HG.out]; exact R, F⟩
   ·have d0 : ¬ ((k : Int) < 512) := by omega
    go_wp2_with fail
    go_ret
    exact ⟨_, rfl, by rw [HG.out]; exact R, F⟩
end
section
open Go.RowKit
set_option maxRecDepth 100000
section
variable {w w' : World} {p : Nat} {O : List Nat} {D : DkM} {X : DkX}
def DkM.fk (D : DkM) (left : Int → Bool) : DkM := { D with uns := fun x => if left x = true then [] else D.uns x }
theorem RangeZ.rlt {b r n cnt : Nat} {f : Int → Option Value} {left : Int → Bool} (h : RangeZ w b r n f left cnt) : r < w.heap.size := by
 obtain ⟨D4, lf, h, _⟩ := h
 exact h.lt
theorem SuV.one {v : Value} {s : Option (List UInt8)} (h : SuV w v s) : v.oneCell' = true := by
 cases s with
 | none => have h : v = .slice none 0 0 := h; rw [h]; rfl
 | some l =>
  obtain ⟨hl, r⟩ : BlkB w v l := h
  obtain ⟨g, c, rfl⟩ := r.hdD (by omega)
  rfl
end
end
section
open Go.RowKit
set_option maxRecDepth 100000
def DkM.delU (D : DkM) (x : Int) : DkM := { D with uns := fun y => if y = x then [] else D.uns y }
section
variable {w w' : World} {p : Nat} {O : List Nat} {D : DkM} {X : DkX}
theorem DskX.del (h : DskX w p O D X) {x : Int} (f : Fr [X.m] w w') (m : MapZ w' X.m 4096 (fdel X.f x)) : DskX w' p O (D.delU x) { X with f := fdel X.f x } := by
 have n8 := h.mT 5
 have hf : ∀ y u, fdel X.f x y = some u → y ≠ x ∧ X.f y = some u := fun y u hy => by
  unfold fdel at hy
  by_cases e : y = x
  ·rw [if_pos e] at hy; cases hy
  ·rw [if_neg e] at hy; exact ⟨e, hy⟩
 refine ⟨h.pO, h.gO, h.mO, h.blk.keep f (by simpa using fun e => h.mp e.symm), h.n1, h.row.keep f (fun g hg hm => ?_), fun i a b => (h.su i a b).keepT f n8, m, fun y => ?_, fun y v hy => ?_, fun y hy => ?_, fun y z u v hne hy hz => ?_, fun j hj cs fz hc => ?_, fun j hj => Nat.lt_of_lt_of_le (h.lt j hj) f.size, h.calls⟩
 ·have : g = X.g := by simpa [Value.ownBlock] using hg.symm
  exact h.mg (by rw [← this]; exact (List.mem_singleton.1 hm).symm)
 ·show fdel X.f x y = none ↔ (if y = x then [] else D.uns y) = []
  unfold fdel
  by_cases e : y = x
  ·rw [if_pos e, if_pos e]; simp
  ·rw [if_neg e, if_neg e]; exact h.iff y
 ·obtain ⟨e, hy2⟩ := hf y v hy
  show UR w' v (if y = x then [] else D.uns y) ∧ _
  rw [if_neg e]
  obtain ⟨h1, g, h2, h3, h4⟩ := h.un y v hy2
  exact ⟨h1.keep f n8 (fun g' hg' hm => by rw [List.mem_singleton.1 hm] at hg'; exact (h.um hy2).1 hg'), g, h2, h3, h4⟩
 ·replace hy : (if y = x then [] else D.uns y) ≠ [] := hy
  by_cases e : y = x
  ·rw [if_pos e] at hy; exact absurd rfl hy
  ·rw [if_neg e] at hy; exact h.rng y hy
 ·exact h.apart y z u v hne (hf y u hy).2 (hf z v hz).2
 ·by_cases e2 : j = X.m
  ·obtain ⟨D4, ⟨es, clock, hb, _⟩, _⟩ := m
   rw [e2, hb] at hc
   cases hc
  ·rw [f.same j (h.lt j hj) (by simpa using e2)] at hc
   exact h.no8 j hj cs fz hc
def DkM.tamper (D : DkM) (x : Int) (b : List UInt8) : DkM := if D.mayE x b.length ≠ 0 then D else { D with sure := D.sure.set x.toNat (some b), uns := fun y => if y = x then [] else D.uns y }
set_option maxHeartbeats 1000000 in
theorem dkTamper_any (h : Dsk w p O D) (x : Int) (A : Option Addr) (n c : Nat) (b : List UInt8) (hb : b.length = n) (rd : Rd w A (bvs b)) (hA : A = none → n = 0) :
  Calls Tryz.prog 33 #[.pointer (some ⟨p, 0, none⟩), .int .i64 x, .slice A n c] w fun e w' => e = .returned (.int .i64 (D.mayE x n)) ∧ AftD w p O (D.tamper x b) w' := by
 have HB := Lib.hid hb
 have cm := dkMay_any h x A n c
 by_cases hm : D.mayE x n = 0
 ·obtain ⟨hx, rfl⟩ := DkM.may0 hm
  rw [hm] at cm
  have HM := Lib.hid hm
  have HT := Lib.hid (show D.tamper x b = { D with sure := D.sure.set x.toNat (some b), uns := fun y => if y = x then [] else D.uns y } by rw [DkM.tamper, hb, if_neg (by simpa using hm)])
  obtain ⟨X, h⟩ := h
  have c0 := h.c0
  have c1 := h.c1
  have wf := DkM.wf_is h hx
  obtain ⟨hx0, hx1⟩ := DkM.is_iff.1 hx
  obtain ⟨k, rfl⟩ : ∃ k : Nat, x = k := ⟨x.toNat, by omega⟩
  have hk : k < D.sure.length := by omega
  obtain ⟨N, hN⟩ : ∃ N, D.sure.length = N := ⟨_, rfl⟩
  rw [hN] at c0 hk
  have HK := Lib.hid (And.intro hN hk)
  have HH := Lib.hid h
  clear hb hm hx h hN hx0 hx1
  go_enter Tryz.func33, Tryz.ntmps33
  go_wp2_with fail
  refine cm.mono ?_
  rintro e w1 ⟨rfl, rfl⟩
  clear cm
  go_upto_region 4 with fail
  have fz := (Fr.refl [] w).drew
  obtain ⟨w1, hw1⟩ : ∃ w1, w.drew = w1 := ⟨_, rfl⟩
  rw [hw1] at fz
  refine wp_region_held_drew (S := fun w' => w'.cell? ⟨p, 0, none⟩ = some (.slice (some ⟨X.g, 0, none⟩) N X.c)) (by kernel_rfl) (by rw [hw1]; exact fz.cell (by simp) c0) (fun hHeld => ?_)
  rw [hw1] at hHeld ⊢
  clear hw1
  refine tw 0 15 hHeld ?_
  refine tw 1 16 hHeld ?_
  refine tw 2 17 hHeld ?_
  refine tw 3 18 hHeld ?_
  refine tw 4 19 hHeld ?_
  refine tw 5 20 hHeld ?_
  refine tc 6 (fun K hK => ?_)
  go_simp
  refine (clone_any A b 512 c w1 HB.out (rd.keep_nil fz) hA (by omega)).mono ?_
  rintro e w2 ⟨v2, rfl, r2, f2⟩
  obtain ⟨A2, c2, rfl, -, -, -, -, -⟩ := r2.shape
  have f02 := fz.trans_nil f2
  have h2 := HH.out.keep_nil f02
  have srow := h2.row
  rw [HK.out.1] at srow
  obtain ⟨x0, y0, -⟩ := srow.setD k hk .nilFunc
  have hvk : k < X.vs.length := by have := srow.1; omega
  rw [List.getElem?_eq_getElem hvk] at x0
  have hset := h2.setS (i := k) (by rw [HK.out.1]; exact hk) (v := .slice A2 512 c2) (s := some b) ⟨HB.out, r2.mono (Nat.zero_le _)⟩
  have fs : Fr [X.g] w2 (w2.setCell ⟨X.g, k, none⟩ (.slice A2 512 c2)) := (Fr.refl [X.g] w2).setCell (.inl (by simp)) _
  refine hK.out _ _ (f2.cell (by simp) hHeld) (fun hHx => ?_)
  clear hHeld
  have hHeld := hHx
  clear hHx
  clear hK K
  try simp only [Act.put, p1, p2, p3]
  refine tw 7 22 hHeld ?_
  refine tcd 8 none (fun K hK => ?_)
  refine wp_st1 rfl (by kernel_rfl) X.g k rfl (.slice A2 512 c2) rfl rfl rfl x0 y0 ?_
  refine hK _ _ (fs.cell (by simpa using h2.pg) hHeld) (fun hHx => ?_)
  clear hHx hHeld
  have HS := Lib.hid hset
  have c1s := hset.c1
  have mz := hset.map
  have F3 : Fr O w (w2.setCell ⟨X.g, k, none⟩ (.slice A2 512 c2)) := (f02.mono (by simp)).trans fs (fun i hi => .inl (by rw [List.mem_singleton.1 hi]; exact HH.out.gO))
  generalize w2.setCell ⟨X.g, k, none⟩ (.slice A2 512 c2) = w3 at *
  clear srow x0 y0 fs h2 hset
  clear hK K
  try simp only [Act.put, p1, p2, p3]
  refine wpAnyH_done (by kernel_rfl) ?_ _
  go_wp2_with (refine wpList_delZ rfl rfl Tryz.underlying116 rfl mz _ rfl wf ?_; intro w4 m4 f4 s4)
  have hd := HS.out.del f4 m4
  have FIN : AftD w p O (D.tamper k b) w4 := by
   rw [HT.out]
   exact ⟨O, ⟨_, hd⟩, fun i hi => .inl hi, F3.trans f4 (fun i hi => .inl (by rw [List.mem_singleton.1 hi]; exact HH.out.mO))⟩
  have HF := Lib.hid FIN
  clear FIN hd
  go_ret
  exact ⟨by rw [HM.out]; rfl, HF.out⟩
 ·have HT := Lib.hid (show D = D.tamper x b by rw [DkM.tamper, hb, if_pos hm])
  obtain ⟨k, hk⟩ : ∃ k, D.mayE x n = k := ⟨_, rfl⟩
  rw [hk] at hm cm
  have d : (k != 0) = true := by simp only [bne_iff_ne]; exact hm
  have HK := Lib.hid hk
  have FIN := Lib.hid ((AftD.same h).eq HT.out)
  clear hb hm hk h
  go_enter Tryz.func33, Tryz.ntmps33
  go_wp2_with fail
  refine cm.mono ?_
  rintro e w1 ⟨rfl, rfl⟩
  clear cm
  go_wp2_with fail
  go_ret
  exact ⟨by rw [HK.out]; rfl, FIN.out⟩
end
end
section
open Go.RowKit
set_option maxRecDepth 100000
def kfD (ks : List (Int × Int)) (k : Nat) (x : Int) : Option Int := ((ks.take k).find? (fun p => p.1 == x)).map (·.2)
def DkM.cr (D : DkM) (ks : List (Int × Int)) (left : Int → Bool) (i : Nat) : Option (List UInt8) :=
 if left i then D.sure.getD i none else match kfD ks ks.length i with
  | some z => if 0 < z then some ((D.uns i).getD (z.toNat - 1) []) else D.sure.getD i none
  | none => D.sure.getD i none
section
variable {w w' : World} {p : Nat} {O : List Nat} {D : DkM} {X : DkX}
theorem UR.at {v : Value} {L : List (List UInt8)} (h : UR w v L) {j : Nat} (hj : j < L.length) : ∃ g c u, v = .slice (some ⟨g, 0, none⟩) L.length c ∧ w.cell? ⟨g, j, none⟩ = some u ∧ BlkB w u L[j] := by
 obtain ⟨us, r, hb⟩ := h
 have hul : us.length = L.length := by have := r.1; omega
 obtain ⟨g, c, rfl⟩ := r.hdD (by omega)
 obtain ⟨g', o', e', hc⟩ := r.rdD.1 (by intro h0; rw [h0] at hul; simp at hul; omega)
 cases e'
 have cn := hc j _ (List.getElem?_eq_getElem (by omega))
 rw [Nat.zero_add] at cn
 exact ⟨g, c, _, rfl, cn, hb j (by omega) hj⟩
end
end
section
open Go.RowKit
set_option maxRecDepth 100000
end
section
open Go.RowKit
def uw (x : UInt32) : Int := (x.toNat : Int)
def wv (x : UInt32) : Value := .int .u32 (uw x)
def wvs (l : List UInt32) : List Value := l.map wv
theorem wvs_length (l : List UInt32) : (wvs l).length = l.length := by simp [wvs]
theorem wvs_one (l : List UInt32) : ∀ u ∈ wvs l, u.oneCell' = true := by
 intro u hu
 obtain ⟨x, _, rfl⟩ := List.mem_map.1 hu
 rfl
theorem wvs_at {l : List UInt32} {k : Nat} (h : k < l.length) : (wvs l)[k]? = some (.int .u32 (uw l[k])) := by simp [wvs, h, wv]
theorem wvs_set (l : List UInt32) (k : Nat) (x : UInt32) : (wvs l).set k (.int .u32 (uw x)) = wvs (l.set k x) := by simp [wvs, List.map_set, wv]
theorem uw_add (a b : UInt32) : IntKind.u32.wrap (uw a + uw b) = uw (a + b) := by
 simp only [uw, UInt32.toNat_add, IntKind.wrap_u32]; omega
theorem uw_xor (a b : UInt32) : bits .xor .u32 (uw a) (uw b) = uw (a ^^^ b) := by
 simp only [uw]; rw [u32_xor_nat _ _ a.toNat_lt b.toNat_lt, UInt32.toNat_xor]
theorem uw_or (a b : UInt32) : bits .or .u32 (uw a) (uw b) = uw (a ||| b) := by
 simp only [uw]; rw [u32_or_nat _ _ a.toNat_lt b.toNat_lt, UInt32.toNat_or]
theorem uw_and (a b : UInt32) : bits .and .u32 (uw a) (uw b) = uw (a &&& b) := by
 simp only [uw]; rw [u32_and_nat _ _ a.toNat_lt b.toNat_lt, UInt32.toNat_and]
theorem uw_byte (b : UInt8) : IntKind.u32.wrap (b.toNat : Int) = uw b.toUInt32 := by
 have := b.toNat_lt
 simp only [uw, UInt8.toNat_toUInt32, IntKind.wrap_u32]; omega
def shl (x : UInt32) (n : Nat) : UInt32 := UInt32.ofNat (x.toNat * 2 ^ n)
def shr (x : UInt32) (n : Nat) : UInt32 := UInt32.ofNat (x.toNat / 2 ^ n)
theorem uw_shl (x : UInt32) (n : Nat) : IntKind.u32.wrap (uw x * 2 ^ n) = uw (shl x n) := by
 have e : (uw x * 2 ^ n) = ((x.toNat * 2 ^ n : Nat) : Int) := by unfold uw; push_cast; rfl
 rw [e, IntKind.wrap_u32]
 simp only [uw, shl, UInt32.toNat_ofNat']
 omega
theorem uw_shr (x : UInt32) (n : Nat) : uw x / 2 ^ n = uw (shr x n) := by
 have e : (uw x / 2 ^ n) = ((x.toNat / 2 ^ n : Nat) : Int) := by unfold uw; push_cast; rfl
 have h : x.toNat / 2 ^ n < 4294967296 := Nat.lt_of_le_of_lt (Nat.div_le_self _ _) x.toNat_lt
 rw [e]
 simp only [uw, shr, UInt32.toNat_ofNat']
 generalize x.toNat / 2 ^ n = m at *
 omega
def rotr (x : UInt32) (n : Nat) : UInt32 := shl x (32 - n) ||| shr x n
theorem rotr' (x : UInt32) (n : Nat) : shr x n ||| shl x (32 - n) = rotr x n := UInt32.or_comm _ _
def smallS0 (x : UInt32) : UInt32 := rotr x 7 ^^^ rotr x 18 ^^^ shr x 3
def smallS1 (x : UInt32) : UInt32 := rotr x 17 ^^^ rotr x 19 ^^^ shr x 10
def bigS0 (x : UInt32) : UInt32 := rotr x 2 ^^^ rotr x 13 ^^^ rotr x 22
def bigS1 (x : UInt32) : UInt32 := rotr x 6 ^^^ rotr x 11 ^^^ rotr x 25
theorem ch_eq (e f g : UInt32) : g ^^^ e &&& (f ^^^ g) = (e &&& f) ^^^ (~~~e &&& g) := by
 apply UInt32.toBitVec_inj.1
 apply BitVec.eq_of_getLsbD_eq
 intro i hi
 simp only [UInt32.toBitVec_xor, UInt32.toBitVec_and, UInt32.toBitVec_not, BitVec.getLsbD_xor, BitVec.getLsbD_and, BitVec.getLsbD_not, hi, decide_true, Bool.true_and]
 cases e.toBitVec.getLsbD i <;> cases f.toBitVec.getLsbD i <;> cases g.toBitVec.getLsbD i <;> rfl
theorem maj_eq (a b c : UInt32) : a &&& b ||| c &&& (a ||| b) = (a &&& b) ^^^ (a &&& c) ^^^ (b &&& c) := by
 apply UInt32.toBitVec_inj.1
 apply BitVec.eq_of_getLsbD_eq
 intro i hi
 simp only [UInt32.toBitVec_xor, UInt32.toBitVec_and, UInt32.toBitVec_or, BitVec.getLsbD_xor, BitVec.getLsbD_and, BitVec.getLsbD_or]
 cases a.toBitVec.getLsbD i <;> cases b.toBitVec.getLsbD i <;> cases c.toBitVec.getLsbD i <;> rfl
theorem uw_not (x : UInt32) : bits .xor .u32 (uw x) 4294967295 = uw (~~~x) := by
 have e : (4294967295 : Int) = uw 4294967295 := rfl
 rw [e, uw_xor]
 congr 1
 apply UInt32.toBitVec_inj.1
 apply BitVec.eq_of_getLsbD_eq
 intro i hi
 have h1 : (4294967295 : UInt32).toBitVec = BitVec.allOnes 32 := by decide
 rw [UInt32.toBitVec_xor, UInt32.toBitVec_not, BitVec.getLsbD_xor, BitVec.getLsbD_not, h1, BitVec.getLsbD_allOnes]
 simp [hi]
def wordAt (p : List UInt8) (k : Nat) : UInt32 := shl (p.getD (4 * k) 0).toUInt32 24 ||| shl (p.getD (4 * k + 1) 0).toUInt32 16 ||| shl (p.getD (4 * k + 2) 0).toUInt32 8 ||| (p.getD (4 * k + 3) 0).toUInt32
def nextW (l : List UInt32) (k : Nat) : UInt32 := l.getD (k - 16) 0 + l.getD (k - 7) 0 + smallS0 (l.getD (k - 15) 0) + smallS1 (l.getD (k - 2) 0)
def sched (p : List UInt8) : Nat → List UInt32
 | 0 => []
 | k + 1 => sched p k ++ [if k < 16 then wordAt p k else nextW (sched p k) k]
theorem sched_length (p : List UInt8) : ∀ k, (sched p k).length = k
 | 0 => rfl
 | k + 1 => by rw [sched, List.length_append, sched_length p k]; rfl
structure S8 where
 a : UInt32
 b : UInt32
 c : UInt32
 d : UInt32
 e : UInt32
 f : UInt32
 g : UInt32
 h : UInt32
def S8.list (s : S8) : List UInt32 := [s.a, s.b, s.c, s.d, s.e, s.f, s.g, s.h]
def S8.one (s : S8) (k w : UInt32) : UInt32 := s.h + bigS1 s.e + (s.g ^^^ s.e &&& (s.f ^^^ s.g)) + k + w
def S8.two (s : S8) : UInt32 := bigS0 s.a + (s.a &&& s.b ||| s.c &&& (s.a ||| s.b))
def S8.step (s : S8) (k w : UInt32) : S8 := ⟨s.one k w + s.two, s.a, s.b, s.c, s.d + s.one k w, s.e, s.f, s.g⟩
def S8.run (s : S8) (ks ws : List UInt32) : Nat → S8
 | 0 => s
 | k + 1 => (s.run ks ws k).step (ks.getD k 0) (ws.getD k 0)
def S8.add (s t : S8) : S8 := ⟨s.a + t.a, s.b + t.b, s.c + t.c, s.d + t.d, s.e + t.e, s.f + t.f, s.g + t.g, s.h + t.h⟩
def kC : List UInt32 := [1116352408, 1899447441, 3049323471, 3921009573, 961987163, 1508970993, 2453635748, 2870763221, 3624381080, 310598401, 607225278, 1426881987, 1925078388, 2162078206, 2614888103, 3248222580, 3835390401, 4022224774, 264347078, 604807628, 770255983, 1249150122, 1555081692, 1996064986, 2554220882, 2821834349, 2952996808, 3210313671, 3336571891, 3584528711, 113926993, 338241895, 666307205, 773529912, 1294757372, 1396182291, 1695183700, 1986661051, 2177026350, 2456956037, 2730485921, 2820302411, 3259730800, 3345764771, 3516065817, 3600352804, 4094571909, 275423344, 430227734, 506948616, 659060556, 883997877, 958139571, 1322822218, 1537002063, 1747873779, 1955562222, 2024104815, 2227730452, 2361852424, 2428436474, 2756734187, 3204031479, 3329325298]
def first8 : S8 := ⟨1779033703, 3144134277, 1013904242, 2773480762, 1359893119, 2600822924, 528734635, 1541459225⟩
def shaBlk (s : S8) (p : List UInt8) : S8 := s.add (s.run kC (sched p 64) 64)
def shaRun (s : S8) (m : List UInt8) : Nat → S8
 | 0 => s
 | n + 1 => shaBlk (shaRun s m n) ((m.drop (64 * n)).take 64)
def be8 (n : Nat) : List UInt8 := (List.range 8).map fun i => UInt8.ofNat (n / 2 ^ (56 - 8 * i))
def padB (n : Nat) : List UInt8 := 128 :: List.replicate ((119 - n % 64) % 64) 0 ++ be8 (n * 8)
def wordB (x : UInt32) : List UInt8 := [UInt8.ofNat (x.toNat / 2 ^ 24), UInt8.ofNat (x.toNat / 2 ^ 16), UInt8.ofNat (x.toNat / 2 ^ 8), UInt8.ofNat x.toNat]
def shaSum (l : List UInt8) : List UInt8 := (shaRun first8 (l ++ padB l.length) ((l.length + (padB l.length).length) / 64)).list.flatMap wordB
theorem shaSum_length (l : List UInt8) : (shaSum l).length = 32 := by simp [shaSum, S8.list, wordB]
end
section
open Go.RowKit
def Rdr (T : TypeId) (w : World) (p : Nat) (G : List Nat) (l : List UInt8) (bad : Bool) : Prop :=
 ∃ A c, Blk w p T #[.slice A l.length c, .bool bad] ∧ l.length ≤ c ∧ c ≤ maxLen ∧ l.length ≤ 140737488355328 ∧ Rd w A (bvs l) ∧ ∀ a, A = some a → a.block ∈ G
theorem Rdr.keep {T : TypeId} {w w' : World} {p : Nat} {G F : List Nat} {l : List UInt8} {bad : Bool} (h : Rdr T w p G l bad) (hf : Fr F w w') (hp : p ∉ F) (hG : ∀ g ∈ G, g ∉ F) : Rdr T w' p G l bad := by
 obtain ⟨A, c, h1, h2, h3, h4, h5, h6⟩ := h
 exact ⟨A, c, h1.keep hf hp, h2, h3, h4, h5.keep hf (fun g o e => hG g (h6 _ e)), h6⟩
theorem Rdr.mono {T : TypeId} {w : World} {p : Nat} {G G' : List Nat} {l : List UInt8} {bad : Bool} (h : Rdr T w p G l bad) (hG : ∀ g ∈ G, g ∈ G') : Rdr T w p G' l bad := by
 obtain ⟨A, c, h1, h2, h3, h4, h5, h6⟩ := h
 exact ⟨A, c, h1, h2, h3, h4, h5, fun a e => hG _ (h6 a e)⟩
theorem Rdr.lt {T : TypeId} {w : World} {p : Nat} {G : List Nat} {l : List UInt8} {bad : Bool} (h : Rdr T w p G l bad) : p < w.heap.size := by
 obtain ⟨A, c, h1, _⟩ := h
 exact h1.lt
theorem Rdr.len {T : TypeId} {w : World} {p : Nat} {G : List Nat} {l : List UInt8} {bad : Bool} (h : Rdr T w p G l bad) : l.length ≤ 140737488355328 := by
 obtain ⟨A, c, _, _, _, h4, _⟩ := h
 exact h4
theorem rd_ne {w : World} {A : Option Addr} {l : List UInt8} {p : Nat} {T : TypeId} {cs : Array Value} (hr : Rd w A (bvs l)) (hb : Blk w p T cs) (hc : ∀ (i : Nat) (x : UInt8), cs[i]? ≠ some (bv x)) (hl : l ≠ []) {g o : Nat} (e : A = some ⟨g, o, none⟩) : g ≠ p := by
 rintro rfl
 cases l with
 | nil => exact hl rfl
 | cons x r =>
  obtain ⟨g', o', e', h⟩ := hr (by simp [bvs])
  rw [e] at e'; cases e'
  have := h 0 (bv x) (by simp [bvs])
  rw [hb.cell] at this
  exact hc _ _ this
theorem Rd.set_ {w : World} {A : Option Addr} {l : List UInt8} {p : Nat} {T : TypeId} {cs : Array Value} (hr : Rd w A (bvs l)) (hb : Blk w p T cs) (hc : ∀ (i : Nat) (x : UInt8), cs[i]? ≠ some (bv x)) (i : Nat) (v : Value) : Rd (w.setCell ⟨p, i, none⟩ v) A (bvs l) := by
 by_cases hl : l = []
 ·subst hl; exact Rd.nil _ _
 ·exact hr.keep ((Fr.refl [p] w).setCell (.inl (by simp)) v) (fun g o e => by simpa using rd_ne hr hb hc hl e)
theorem rdr_cells {A : Option Addr} {n c : Nat} {bad : Bool} : ∀ (i : Nat) (x : UInt8), (#[.slice A n c, .bool bad] : Array Value)[i]? ≠ some (bv x) := by
 intro i x
 match i with
 | 0 => simp [bv]
 | 1 => simp [bv]
 | i + 2 => simp
theorem newReader_any (A : Option Addr) (l : List UInt8) (n c : Nat) (w : World) (hn : l.length = n) (hr : Rd w A (bvs l)) (hA : A = none → n = 0) (hl : n ≤ 140737488355328) :
  Calls Tryz.prog 199 #[.slice A n c] w fun e w' => ∃ p G, e = .returned (.pointer (some ⟨p, 0, none⟩)) ∧ Rdr 248 w' p G l false ∧ Fr [] w w' ∧ w.heap.size ≤ p ∧ (∀ g ∈ G, w.heap.size ≤ g ∧ g < w'.heap.size ∧ g ≠ p) := by
 subst hn
 go_enter Tryz.func199, Tryz.ntmps199
 go_wp2_with (go_at_call 58; refine (clone_any _ _ _ _ _ rfl hr hA hl).mono ?_; rintro e w1 ⟨v, rfl, h1, h2⟩; obtain ⟨B, cap, rfl, hn, hm, hrd, hlt, -⟩ := h1.shape)
 go_ret
 refine ⟨w1.heap.size, Rd.blks B, rfl, ⟨B, cap, Blk.new _ _ _, hn, hm, hl, hrd.alloc _, fun a e => by subst e; simp [Rd.blks]⟩, h2.alloc _, h2.size, fun g hg => ?_⟩
 unfold Rd.blks at hg
 cases B with
 | none => simp at hg
 | some a =>
  simp at hg
  subst hg
  have := hlt a rfl
  have := h2.size
  exact ⟨by omega, by simp; omega, by omega⟩
theorem rLeft_any {w : World} {p : Nat} {G : List Nat} {l : List UInt8} {bad : Bool} (h : Rdr 248 w p G l bad) :
  Calls Tryz.prog 225 #[.pointer (some ⟨p, 0, none⟩)] w fun e w' => e = .returned (.int .i64 l.length) ∧ w = w' := by
 obtain ⟨A, c, h1, h2, h3, h4, h5, h6⟩ := h
 have c0 := h1.cell 0
 simp at c0
 go_enter Tryz.func225, Tryz.ntmps225
 go_wp2
 go_ret
 exact ⟨rfl, rfl⟩
def doneE (l : List UInt8) (bad : Bool) : Int := if bad || !allZ l then 90 else 0
theorem rDone_any {w : World} {p : Nat} {G : List Nat} {l : List UInt8} {bad : Bool} (h : Rdr 248 w p G l bad) :
  Calls Tryz.prog 204 #[.pointer (some ⟨p, 0, none⟩)] w fun e w' => e = .returned (.int .i64 (doneE l bad)) ∧ w = w' := by
 obtain ⟨A, c, h1, h2, h3, h4, h5, h6⟩ := h
 have c0 := h1.cell 0
 have c1 := h1.cell 1
 simp at c0 c1
 cases bad with
 | true =>
  go_enter Tryz.func204, Tryz.ntmps204
  go_wp2
  go_ret
  exact ⟨rfl, rfl⟩
 | false =>
  cases hz : allZ l with
  | true =>
   have H := Lib.hid hz
   go_enter Tryz.func204, Tryz.ntmps204
   go_wp2_with (go_at_call 226; refine (zeros_any _ _ _ _ h5 h4).mono ?_; rintro e w' ⟨rfl, rfl⟩)
   go_ret
   exact ⟨by simp [doneE, H.out], rfl⟩
  | false =>
   have H := Lib.hid hz
   go_enter Tryz.func204, Tryz.ntmps204
   go_wp2_with (go_at_call 226; refine (zeros_any _ _ _ _ h5 h4).mono ?_; rintro e w' ⟨rfl, rfl⟩)
   go_ret
   exact ⟨by simp [doneE, H.out], rfl⟩
theorem rBytes_bad {w : World} {p : Nat} {G : List Nat} {l : List UInt8} {bad : Bool} (h : Rdr 248 w p G l bad) (n : Int) (hn : bad = true ∨ n < 0 ∨ (l.length : Int) < n) :
  Calls Tryz.prog 200 #[.pointer (some ⟨p, 0, none⟩), .int .i64 n] w fun e w' => e = .returned (.slice none 0 0) ∧ Rdr 248 w' p G l true ∧ Fr [p] w w' := by
 obtain ⟨A, c, h1, h2, h3, h4, h5, h6⟩ := h
 have c0 := h1.cell 0
 have c1 := h1.cell 1
 have f1 := h1.frozen 1
 simp at c0 c1
 have fin : Rdr 248 (w.setCell ⟨p, 1, none⟩ (.bool true)) p G l true ∧ Fr [p] w (w.setCell ⟨p, 1, none⟩ (.bool true)) :=
  ⟨⟨A, c, by simpa using h1.set_ 1 (.bool true), h2, h3, h4, h5.set_ h1 rdr_cells _ _, h6⟩, (Fr.refl _ _).setCell (.inl (by simp)) _⟩
 cases bad with
 | true =>
  go_enter Tryz.func200, Tryz.ntmps200
  go_wp2
  go_ret
  exact ⟨rfl, fin⟩
 | false =>
  by_cases hn0 : n < 0
  ·go_enter Tryz.func200, Tryz.ntmps200
   go_wp2
   go_ret
   exact ⟨rfl, fin⟩
  ·have hn1 : (l.length : Int) < n := by simpa [hn0] using hn
   go_enter Tryz.func200, Tryz.ntmps200
   go_wp2
   go_ret
   exact ⟨rfl, fin⟩
theorem rdr_cut {T : TypeId} {w : World} {p : Nat} {G : List Nat} {l : List UInt8} {A : Option Addr} {c n : Nat} (h1 : Blk w p T #[.slice A l.length c, .bool false]) (h2 : l.length ≤ c) (h3 : c ≤ maxLen) (h4 : l.length ≤ 140737488355328) (h5 : Rd w A (bvs l)) (h6 : ∀ a, A = some a → a.block ∈ G) (hn : n ≤ l.length)
  (A' : Option Addr) (m c' : Nat) (hA : A' = A ∧ c = n ∨ A' = A.map (·.add n)) (hm : m = l.length - n) (hc : c' = c - n) :
  Rdr T (w.setCell ⟨p, 0, none⟩ (.slice A' m c')) p G (l.drop n) false := by
 subst hm hc
 have hl : (l.drop n).length = l.length - n := by simp
 refine ⟨A', c - n, ?_, by omega, by omega, by omega, ?_, ?_⟩
 ·rw [hl]; simpa using h1.set_ 0 (.slice A' (l.length - n) (c - n))
 ·have h7 : Rd w A' (bvs (l.drop n)) := by
   rcases hA with ⟨rfl, rfl⟩ | rfl
   ·rw [List.drop_eq_nil_of_le (by omega)]; exact Rd.nil _ _
   ·rw [bvs_drop]; exact h5.drop n
  exact h7.set_ h1 rdr_cells _ _
 ·intro a e
  rcases hA with ⟨rfl, _⟩ | rfl
  ·exact h6 a e
  ·cases A with
   | none => cases e
   | some a0 =>
    simp only [Option.map_some, Option.some.injEq] at e
    rw [← e, add_block]
    exact h6 a0 rfl
set_option maxHeartbeats 400000 in
theorem rBytes_ok {w : World} {p : Nat} {G : List Nat} {l : List UInt8} (h : Rdr 248 w p G l false) (n : Nat) (hn : n ≤ l.length) :
  Calls Tryz.prog 200 #[.pointer (some ⟨p, 0, none⟩), .int .i64 n] w fun e w' => ∃ v, e = .returned v ∧ Row w' w.heap.size 5 1 v n (bvs (l.take n)) ∧ Rdr 248 w' p G (l.drop n) false ∧ Fr [p] w w' := by
 obtain ⟨A, c, h1, h2, h3, h4, h5, h6⟩ := h
 have c0 := h1.cell 0
 have c1 := h1.cell 1
 have f1 := h1.frozen 1
 have f0 := h1.frozen 0
 simp at c0 c1
 unfold maxLen at h3
 have d0 : decide ((n : Int) < 0) = false := by simp
 have d1 : decide (l.length < n) = false := by simpa using hn
 obtain ⟨W, hW⟩ : ∃ W : World, W = w.setCell ⟨p, 1, none⟩ (.bool false) := ⟨_, rfl⟩
 have hlen : (l.take n).length = n := by rw [List.length_take]; omega
 have hrd : Rd W A (bvs (l.take n)) := by rw [hW, bvs_take]; exact (h5.set_ h1 rdr_cells 1 _).take n
 have hAn : A = none → n = 0 := fun e => by
  rcases Nat.eq_zero_or_pos n with h | h
  ·exact h
  ·obtain ⟨g, o, e', _⟩ := h5.byte (k := 0) (by omega)
   rw [e] at e'; cases e'
 have hF0 : Fr [p] w W := by rw [hW]; exact (Fr.refl _ _).setCell (.inl (by simp)) _
 have hB0 : Blk W p 248 #[.slice A l.length c, .bool false] := by rw [hW]; simpa using h1.set_ 1 (.bool false)
 have hR0 : Rd W A (bvs l) := by rw [hW]; exact h5.set_ h1 rdr_cells 1 _
 have HW := Lib.hid hW
 have HL := Lib.hid hlen
 clear hW hlen
 go_enter Tryz.func200, Tryz.ntmps200
 go_wp2_with (go_at_call 58; rw [← HW.out]; refine (clone_any _ _ _ _ _ HL.out hrd hAn (by omega)).mono ?_; rintro e w1 ⟨v, rfl, g1, g2⟩; have b1 := hB0.keep g2 (by simp); have e0 := b1.cell 0; have e1 := b1.cell 1; have e2 := b1.frozen 0; simp at e0 e1)
 all_goals
  go_ret
  refine ⟨v, rfl, ?_, ?_, ?_⟩
  ·exact (g1.mono (by have := hF0.size; omega)).keep (F := [p]) ((Fr.refl _ _).setCell (.inl (by simp)) _) (fun g hg => by have := g1.ne_blk b1 (by decide); rw [hg] at this; simpa using this)
  ·exact rdr_cut b1 h2 (by unfold maxLen; exact h3) h4 (hR0.keep_nil g2) h6 hn _ _ _ (by first | exact .inl ⟨rfl, by omega⟩ | exact .inr rfl) rfl (by omega)
  ·exact (hF0.trans_nil g2).setCell (.inl (by simp)) _
end
section
open Go.RowKit
def leN : List UInt8 → Nat
 | [] => 0
 | x :: r => x.toNat + 256 * leN r
theorem leN_append (a b : List UInt8) : leN (a ++ b) = leN a + 256 ^ a.length * leN b := by
 induction a with
 | nil => simp [leN]
 | cons x r ih => simp only [List.cons_append, leN, ih, List.length_cons, Nat.pow_succ]; rw [Nat.mul_add, Nat.mul_comm (256 ^ r.length) 256, Nat.mul_assoc, Nat.add_assoc]
theorem leN_lt (a : List UInt8) : leN a < 256 ^ a.length := by
 induction a with
 | nil => simp [leN]
 | cons x r ih => simp only [leN, List.length_cons, Nat.pow_succ]; have := x.toNat_lt; omega
theorem leN_take_succ (l : List UInt8) (k : Nat) (h : k < l.length) : leN (l.take (k + 1)) = leN (l.take k) + 256 ^ k * l[k].toNat := by
 rw [List.take_succ_eq_append_getElem h, leN_append, List.length_take, Nat.min_eq_left (by omega)]; simp [leN]
theorem leN_take_lt (l : List UInt8) (k : Nat) : leN (l.take k) < 256 ^ k := by
 refine Nat.lt_of_lt_of_le (leN_lt _) (Nat.pow_le_pow_right (by omega) ?_)
 rw [List.length_take]; omega
theorem pow256 (k : Nat) : (256 : Nat) ^ k = 2 ^ (8 * k) := by rw [Nat.pow_mul]
theorem pow256_le {k : Nat} (h : k < 8) : 256 ^ k * 256 ≤ 18446744073709551616 := by
 have : (256 : Nat) ^ (k + 1) ≤ 256 ^ 8 := Nat.pow_le_pow_right (by omega) (by omega)
 rw [Nat.pow_succ] at this
 omega
theorem or_byte (x c k : Nat) (hx : x < 256 ^ k) (hc : c < 256) (hk : k < 8) :
  bits .or .u64 (x : Int) (IntKind.u64.wrap (IntKind.u64.wrap (c : Int) * 2 ^ (8 * k))) = ((x + 256 ^ k * c : Nat) : Int) := by
 have h1 := pow256_le hk
 have h2 : 256 ^ k * c < 18446744073709551616 := Nat.lt_of_lt_of_le (Nat.mul_lt_mul_of_pos_left hc (Nat.pow_pos (by omega))) h1
 have e1 : IntKind.u64.wrap (c : Int) = c := IntWalk.u64_in _ (by omega)
 have e2 : ((c : Int) * 2 ^ (8 * k)) = ((256 ^ k * c : Nat) : Int) := by rw [pow256]; push_cast; exact Int.mul_comm _ _
 have hx2 : x < 18446744073709551616 := by have := Nat.le_mul_of_pos_right (256 ^ k) (show 0 < 256 by omega); omega
 have e4 : x ||| 256 ^ k * c = x + 256 ^ k * c := by
  rw [Nat.or_comm, pow256, ← Nat.two_pow_add_eq_or_of_lt (by rw [← pow256]; exact hx), Nat.add_comm]
 rw [e1, e2]
 revert h2 e4
 generalize 256 ^ k * c = m
 intro h2 e4
 rw [IntWalk.u64_in _ (by omega), u64_or_nat x _ hx2 h2, e4]
def wide (n : Int) : Bool := n == 1 || n == 2 || n == 4 || n == 8
theorem isWide_any (w : World) (n : Int) : Calls Tryz.prog 196 #[.int .i64 n] w fun e w' => e = .returned (.bool (wide n)) ∧ w = w' := by
 go_enter Tryz.func196, Tryz.ntmps196
 go_wp2
 all_goals go_ret
 all_goals first | exact ⟨rfl, rfl⟩ | (rename_i h; subst h; exact ⟨rfl, rfl⟩)
set_option maxHeartbeats 400000 in
theorem rUint_ok {w : World} {p : Nat} {G : List Nat} {l : List UInt8} (h : Rdr 248 w p G l false) (n : Nat) (hn : n ≤ l.length) (hw : wide n = true) :
  Calls Tryz.prog 201 #[.pointer (some ⟨p, 0, none⟩), .int .i64 n] w fun e w' => e = .returned (.int .u64 (leN (l.take n))) ∧ Rdr 248 w' p G (l.drop n) false ∧ Fr [p] w w' := by
 obtain ⟨q, hq⟩ : ∃ q, l.take n = q := ⟨_, rfl⟩
 have hl : q.length = n := by rw [← hq, List.length_take]; omega
 have HW := Lib.hid hw
 have HL := Lib.hid hl
 have HQ := Lib.hid hq
 have n8 : n ≤ 8 := by
  simp only [wide, Bool.or_eq_true, beq_iff_eq] at hw
  omega
 clear hl hw hq
 go_enter Tryz.func201, Tryz.ntmps201
 go_wp2_with (first
  | (go_at_call 196; refine (isWide_any _ _).mono ?_; rw [HW.out]; rintro e w' ⟨rfl, rfl⟩)
  | (go_at_call 200; refine (rBytes_ok h n hn).mono ?_; rintro e w1 ⟨v, rfl, h1, h2, h3⟩; rw [HQ.out] at h1; obtain ⟨B, cap, rfl, -, -, hrd, -, -⟩ := h1.shape))
 go_loop [5, 15] (fun x i => ∃ k : Nat, k ≤ n ∧ i = .int .i64 k ∧ x = .int .u64 (leN (q.take k))) (fun _ i => n - (intOf i).toNat)
 case atStart => exact ⟨0, Nat.zero_le _, rfl, rfl⟩
 case round =>
  obtain ⟨k, hk, rfl, rfl⟩ := hrel
  by_cases hlt : k < n
  ·have hk' : k < q.length := by rw [HL.out]; exact hlt
   obtain ⟨g, o, rfl, hc⟩ := hrd.byte hk'
   have hck := hc k hk'
   have E := Lib.hid (or_byte (leN (q.take k)) q[k].toNat k (leN_take_lt q k) q[k].toNat_lt (by omega))
   have T := Lib.hid (leN_take_succ q k hk')
   clear hc
   go_wp2
   go_round
   case rel => exact ⟨k + 1, by omega, by go_num, by rw [E.out, T.out]⟩
   case measure => simp [intOf]; omega
  ·have hk2 : k = n := by omega
   have E : q.take k = q := by rw [hk2, ← HL.out, List.take_length]
   have HE := Lib.hid E
   clear E hk2
   go_wp2
   go_ret
   exact ⟨by rw [HE.out, HQ.out]; rfl, h2, h3⟩
theorem rUint_bad {w : World} {p : Nat} {G : List Nat} {l : List UInt8} {bad : Bool} (h : Rdr 248 w p G l bad) (n : Int) (hn : bad = true ∨ wide n = false ∨ (l.length : Int) < n) :
  Calls Tryz.prog 201 #[.pointer (some ⟨p, 0, none⟩), .int .i64 n] w fun e w' => e = .returned (.int .u64 0) ∧ Rdr 248 w' p G l true ∧ Fr [p] w w' := by
 cases hw : wide n with
 | true =>
  have HW := Lib.hid hw
  have hb : bad = true ∨ n < 0 ∨ (l.length : Int) < n := by
   rcases hn with h | h | h
   ·exact .inl h
   ·rw [hw] at h; cases h
   ·exact .inr (.inr h)
  have HB := Lib.hid hb
  clear hw hn hb
  go_enter Tryz.func201, Tryz.ntmps201
  go_wp2_with (first
   | (go_at_call 196; refine (isWide_any _ _).mono ?_; rw [HW.out]; rintro e w' ⟨rfl, rfl⟩)
   | (go_at_call 200; refine (rBytes_bad h n HB.out).mono ?_; rintro e w1 ⟨rfl, h2, h3⟩))
  go_loop [5, 15] (fun x i => x = .int .u64 0 ∧ i = .int .i64 0) (fun _ _ => 0)
  case atStart => exact ⟨rfl, rfl⟩
  case round =>
   obtain ⟨rfl, rfl⟩ := hrel
   go_wp2
   go_ret
   exact ⟨rfl, h2, h3⟩
 | false =>
  have HW := Lib.hid hw
  clear hw hn
  go_enter Tryz.func201, Tryz.ntmps201
  go_wp2_with (first
   | (go_at_call 196; refine (isWide_any _ _).mono ?_; rw [HW.out]; rintro e w' ⟨rfl, rfl⟩)
   | (go_at_call 200; refine (rBytes_bad h (-1) (.inr (.inl (by decide)))).mono ?_; rintro e w1 ⟨rfl, h2, h3⟩))
  go_loop [5, 15] (fun x i => x = .int .u64 0 ∧ i = .int .i64 0) (fun _ _ => 0)
  case atStart => exact ⟨rfl, rfl⟩
  case round =>
   obtain ⟨rfl, rfl⟩ := hrel
   go_wp2
   go_ret
   exact ⟨rfl, h2, h3⟩
end
section
open Go.RowKit
end
section
open Go.RowKit
end
end Go.Proofs.YtbanogfljpkbkaaGreatDoor
