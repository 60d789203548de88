/-
  Texts of this claim, one behind the other: RecD, RecE, RecF, RecG.
-/
import Derived.Test.YtbanogfljpkbkaaGreatDoorF14
import Derived.Maps.Own
import Derived.Maps.OwnOps
import Derived.Maps.Views
set_option linter.unusedSimpArgs false
set_option linter.unusedVariables false
set_option linter.unnecessarySimpa false
namespace Go.Proofs.YtbanogfljpkbkaaGreatDoor
section
open Go.RowKit Go.Maps
def likeB (l : List UInt8) : Bool := l.take 4 == planM || (l.take 4 == doneM || l.take 4 == markM)
theorem rcLike_any (A : Option Addr) (l : List UInt8) (n c : Nat) (w : World) (hn : l.length = n) (hr : Rd w A (bvs l)) (hA : A = none → n = 0) (h4 : 4 ≤ n) (hc : n ≤ c) : Calls Tryz.prog 177 #[.slice A n c] w fun e w' => e = .returned (.bool (likeB l)) ∧ w = w' := by
 have E := strB w A (l.take 4) 4 c (by rw [List.length_take]; omega) (by rw [bvs_take]; exact hr.take 4) (fun h => absurd (hA h) (by omega))
 have K4 : (4 : Int) ≤ c := by omega
 have HB := Lib.hid (show likeB l = (l.take 4 == [80, 76, 65, 78] || (l.take 4 == [68, 79, 78, 69] || l.take 4 == [77, 65, 82, 75])) from rfl)
 generalize l.take 4 = q at *
 cases m1 : (q == [80, 76, 65, 78])
 ·cases m2 : (q == [68, 79, 78, 69])
  ·cases m3 : (q == [77, 65, 82, 75])
   ·have H := Lib.hid (show likeB l = false by rw [HB.out, m1, m2, m3]; rfl)
    go_enter Tryz.func177, Tryz.ntmps177
    go_wp2_with fail
    go_ret
    exact ⟨by rw [H.out]; rfl, rfl⟩
   ·have H := Lib.hid (show likeB l = true by rw [HB.out, m1, m2, m3]; rfl)
    go_enter Tryz.func177, Tryz.ntmps177
    go_wp2_with fail
    go_ret
    exact ⟨by rw [H.out]; rfl, rfl⟩
  ·have H := Lib.hid (show likeB l = true by rw [HB.out, m1, m2]; rfl)
   go_enter Tryz.func177, Tryz.ntmps177
   go_wp2_with fail
   go_ret
   exact ⟨by rw [H.out]; rfl, rfl⟩
 ·have H := Lib.hid (show likeB l = true by rw [HB.out, m1]; rfl)
  go_enter Tryz.func177, Tryz.ntmps177
  go_wp2_with fail
  go_ret
  exact ⟨by rw [H.out]; rfl, rfl⟩
def turnB : List UInt8 → List UInt8
 | [] => []
 | x :: r => (x ^^^ 128) :: r
theorem turnB_len (l : List UInt8) : (turnB l).length = l.length := by cases l <;> rfl
theorem turn_byte (x : UInt8) : Value.int .u8 (bits .xor .u8 (x.toNat : Int) 128) = bv (x ^^^ 128) := by
 have := u8_xor_nat x.toNat 128 x.toNat_lt (by omega)
 unfold bv
 rw [show (128 : Int) = ((128 : Nat) : Int) from rfl, this, UInt8.toNat_xor]
 rfl
theorem row_turn {w : World} {B g n c : Nat} {x : UInt8} {r : List UInt8} (h : Row w B 5 1 (.slice (some ⟨g, 0, none⟩) n c) n (bvs (x :: r))) :
  w.cell? ⟨g, 0, none⟩ = some (bv x) ∧ w.frozen? ⟨g, 0, none⟩ = false ∧ Row (w.setCell ⟨g, 0, none⟩ (bv (x ^^^ 128))) B 5 1 (.slice (some ⟨g, 0, none⟩) n c) n (bvs ((x ^^^ 128) :: r)) := by
 rcases h.2 with ⟨e, _⟩ | ⟨g', cap, cur, fz, e, hb, hg, hf, hnc, hcm, hcs, ht⟩
 ·cases e
 ·cases e
  have hn : r.length + 1 = n := by have := h.1; rw [bvs_length, List.length_cons, Nat.mul_one] at this; exact this
  have hpos : 0 < cur.size := by omega
  obtain ⟨lc⟩ := cur
  match lc, hpos with
  | y :: rest, _ =>
   have e1 : y = bv x ∧ rest.take r.length = bvs r := by
    rw [Nat.mul_one, ← hn] at ht
    simp only [List.take_succ_cons, bvs, List.map_cons, List.cons.injEq] at ht
    exact ht
   refine ⟨?_, ?_, ?_⟩
   ·rw [cell_of_row w g 0 _ _ _ hg, e1.1]; rfl
   ·have := hf 0 (by simp)
    simp only [World.frozen?, hg]
    simpa using this
   ·refine ⟨by simp [bvs]; omega, .inr ⟨g, c, (bv (x ^^^ 128) :: rest).toArray, fz, rfl, hb, ?_, by simpa using hf, hnc, hcm, by simpa using hcs, ?_⟩⟩
    ·simp [World.setCell, Array.getElem?_modify, hg]
    ·rw [Nat.mul_one, ← hn]
     simp only [List.take_succ_cons, bvs, List.map_cons]
     rw [e1.2]
     rfl
theorem row_head {w : World} {B n : Nat} {v : Value} {xs : List Value} (h : Row w B 5 1 v n xs) (hn : 0 < n) : ∃ g c, v = .slice (some ⟨g, 0, none⟩) n c := by
 rcases h.2 with ⟨_, e⟩ | ⟨g, cap, cur, fz, e, _⟩
 ·omega
 ·exact ⟨g, cap, e⟩
set_option maxHeartbeats 1000000 in
theorem rcTurn_any (A : Option Addr) (l : List UInt8) (n c : Nat) (w : World) (hn : l.length = n) (hr : Rd w A (bvs l)) (hA : A = none → n = 0) (hpos : 0 < n) (hl : n ≤ 140737488355328) :
  Calls Tryz.prog 176 #[.slice A n c] w fun e w' => ∃ v, e = .returned v ∧ Row w' w.heap.size 5 1 v n (bvs (turnB l)) ∧ Fr [] w w' := by
 obtain ⟨x, r, rfl⟩ : ∃ x r, l = x :: r := by
  cases l with
  | nil => simp at hn; omega
  | cons x r => exact ⟨x, r, rfl⟩
 have HN := Lib.hid hn
 clear hn
 go_enter Tryz.func176, Tryz.ntmps176
 go_wp2_with fail
 refine (clone_any A (x :: r) n c w HN.out hr hA hl).mono ?_
 rintro e w1 ⟨v1, rfl, r1, f1⟩
 obtain ⟨g, cap, rfl⟩ := row_head r1 hpos
 obtain ⟨c0, z0, r2⟩ := row_turn r1
 rw [← turn_byte] at r2
 have c0' : w1.cell? ⟨g, 0, none⟩ = some (.int .u8 (x.toNat : Int)) := c0
 have fs : Fr [] w (w1.setCell ⟨g, 0, none⟩ (.int .u8 (bits .xor .u8 (x.toNat : Int) 128))) := f1.setCell (.inr (r1.lt g rfl).1) _
 clear c0 r1
 go_wp2_with fail
 go_ret
 exact ⟨_, rfl, r2, fs⟩
def zvs (l : List Int) : List Value := l.map fun z => Value.int .i64 z
theorem zvs_len (l : List Int) : (zvs l).length = l.length := by simp [zvs]
theorem zvs_append (a b : List Int) : zvs (a ++ b) = zvs a ++ zvs b := by simp [zvs]
theorem zint_at {w : World} {A : Option Addr} {L : List Int} (hr : Rd w A (zvs L)) {k : Nat} (hk : k < L.length) : ∃ g o, A = some ⟨g, o, none⟩ ∧ ∀ j (hj : j < L.length), w.cell? ⟨g, o + j, none⟩ = some (.int .i64 L[j]) := by
 obtain ⟨g, o, e, hc⟩ := hr (by intro h; have := congrArg List.length h; rw [zvs_len, List.length_nil] at this; omega)
 exact ⟨g, o, e, fun j hj => hc j _ (by simp [zvs, hj])⟩
def inP (x : Int) : Bool := decide (0 ≤ x) && decide (x < 4096)
def rightF (l : List Int) : Bool := l.all inP && (decide l.Nodup && (decide (1 ≤ l.length) && decide (l.length ≤ 64)))
def okT (l : List Int) (k : Nat) : Prop := (l.take k).all inP = true ∧ (l.take k).Nodup
theorem okT_zero (l : List Int) : okT l 0 := ⟨rfl, List.nodup_nil⟩
theorem okT_succ {l : List Int} {k : Nat} (h : okT l k) (hk : k < l.length) (h1 : inP l[k] = true) (h2 : l[k] ∉ l.take k) : okT l (k + 1) := by
 unfold okT
 rw [List.take_succ_eq_append_getElem hk]
 refine ⟨by rw [List.all_append, h.1]; simp [h1], ?_⟩
 rw [List.nodup_append]
 exact ⟨h.2, by simp, fun a ha b hb => by rw [List.mem_singleton.1 hb]; rintro rfl; exact h2 ha⟩
theorem right_bad1 {l : List Int} {k : Nat} (hk : k < l.length) (h : inP l[k] = false) : rightF l = false := by
 have : l.all inP = false := by
  rw [List.all_eq_false]
  exact ⟨l[k], List.getElem_mem hk, by rw [h]; decide⟩
 simp [rightF, this]
theorem right_bad2 {l : List Int} {k : Nat} (hk : k < l.length) (h : l[k] ∈ l.take k) : rightF l = false := by
 have : ¬ l.Nodup := by
  intro hn
  have e : l = l.take k ++ l.drop k := (List.take_append_drop k l).symm
  rw [e, List.nodup_append] at hn
  exact hn.2.2 _ h _ (by rw [List.drop_eq_getElem_cons hk]; exact List.mem_cons_self) rfl
 simp [rightF, this]
theorem right_end {l : List Int} (h : okT l l.length) : rightF l = (decide (1 ≤ l.length) && decide (l.length ≤ 64)) := by
 obtain ⟨h1, h2⟩ := h
 rw [List.take_length] at h1 h2
 rw [rightF, h1, decide_eq_true h2]
 rfl
set_option maxRecDepth 100000 in
set_option maxHeartbeats 4000000 in
end
section
open Go.RowKit Go.Maps
theorem lawInt : Keyed Tryz.prog 3 := int_keyed Tryz.underlying3
theorem zeroBool (w : World) : (zeroValue 4).run Tryz.prog w = .ok (.bool false) w := by kernel_rfl
theorem plainElem_bool_inv {H : Type} {P : Program} {e : TypeId} (he : P.underlying e = some .bool) {v : Value} {z : DataW H × List MemPlace} (h : plainElem P e v = some z) : ∃ x, v = .bool x ∧ z = (.lit (.bool x), []) := by
 unfold plainElem at h
 rw [he] at h
 cases v <;> simp at h
 exact ⟨_, rfl, h.symm⟩
theorem lookup_boolM {H : Type} {P : Program} {k t e : TypeId} {w : World} {b n : Nat} {D : DataW H} (h : w.ownsMap P k (plainElem P e) b n D) (K : Keyed P k) (ht : P.underlying t = some (.map k e)) (he : P.underlying e = some .bool) (hz : (zeroValue e).run P w = .ok (.bool false) w)
  {key : Value} {kl : Lit} (hkey : keyOf P k key = some kl) : ∃ c, (Instr.lookup t (.map (some b)) key false).run P w = .ok (.bool c) w ∧ D.atKey kl (.lit (.bool false)) = .lit (.bool c) := by
 obtain ⟨v, ps, hrun, hv⟩ := h.lookup K ht hz (plainElem_bool he false) hkey
 obtain ⟨c, rfl, hc⟩ := plainElem_bool_inv he hv
 simp only [Prod.mk.injEq] at hc
 exact ⟨c, hrun, hc.1⟩
def dT {H : Type} (l : List Int) : Nat → DataW H
 | 0 => .map []
 | k + 1 => (dT l k).put (.int .i64 (l.getD k 0)) (.lit (.bool true))
theorem dT_map {H : Type} (l : List Int) : ∀ k, IsMap (dT (H := H) l k)
 | 0 => isMap_empty
 | k + 1 => (dT_map l k).put _ _
theorem dT_at {H : Type} (l : List Int) (x : Int) : ∀ k, k ≤ l.length → (dT (H := H) l k).atKey (.int .i64 x) (.lit (.bool false)) = .lit (.bool (decide (x ∈ l.take k)))
 | 0, _ => by
  rw [List.take_zero]
  rfl
 | k + 1, hk => by
  have hkl : k < l.length := by omega
  have hg : l.getD k 0 = l[k] := by simp [hkl]
  rw [dT, List.take_succ_eq_append_getElem hkl]
  by_cases e : x = l[k]
  ·rw [hg, ← e, atKey_put_same (k := .int .i64 x) (dT_map l k) trivial]
   rw [decide_eq_true (List.mem_append_right _ (List.mem_singleton.2 rfl))]
  ·rw [atKey_put_other (by rw [hg]; intro h; injection h with _ h; exact e h), dT_at l x k (by omega)]
   simp only [List.mem_append, List.mem_singleton, e, or_false]
theorem grown_fr {w w' : World} {b : Nat} (h : w.grownBy w' (some b)) : Fr [b] w w' := ⟨h.os, h.tape, h.output, h.size, fun k hk hn => h.block k hk (by simp at hn; simpa using hn)⟩
set_option maxRecDepth 100000 in
set_option maxHeartbeats 4000000 in
theorem rcRight_any (A : Option Addr) (l : List Int) (n c : Nat) (w : World) (hn : l.length = n) (hr : Rd w A (zvs l)) (hw : ∀ x ∈ l, in64 x) (hl : n ≤ 140737488355328) :
  Calls Tryz.prog 192 #[.slice A n c] w fun e w' => e = .returned (.bool (rightF l)) ∧ Fr [] w w' := by
 have HN := Lib.hid hn
 have HW := Lib.hid hw
 clear hn hw
 have hmm := @run_makeMap Tryz.prog
 go_enter Tryz.func192, Tryz.ntmps192
 go_wp2_with fail
 go_loopw [9] (fun i wr => ∃ k : Nat, k ≤ n ∧ i = .int .i64 k ∧ okT l k ∧ wr.ownsMap Tryz.prog 3 (plainElem Tryz.prog 4) w.heap.size k (dT (H := Unit) l k) ∧ Fr [] w wr) (fun i _ => n - (intOf i).toNat)
 case atStart => exact ⟨0, Nat.zero_le _, rfl, okT_zero l, World.ownsMap_made _ _ _ _, (Fr.refl [] w).alloc _⟩
 case round =>
  obtain ⟨k, hk, rfl, hok, hown, F⟩ := hrel
  by_cases hlt : k < n
  ·have hkl : k < l.length := by rw [HN.out]; exact hlt
   obtain ⟨g, o, rfl, hc⟩ := zint_at (hr.keep_nil F) hkl
   have ck := hc k hkl
   have hw64 := HW.out _ (List.getElem_mem hkl)
   have hgd : l.getD k 0 = l[k] := by simp [hkl]
   have HB1 := Lib.hid (fun h => right_bad1 hkl h)
   have HB2 := Lib.hid (fun h => right_bad2 hkl h)
   have HOK := Lib.hid (fun h1 h2 => okT_succ hok hkl h1 h2)
   have hdt := dT_at (H := Unit) l l[k] k (by omega)
   obtain ⟨x, hx⟩ : ∃ x, l[k] = x := ⟨_, rfl⟩
   rw [hx] at ck HB1 HB2 HOK hdt hw64 hgd
   have HX := Lib.hid hx
   have HGD := Lib.hid hgd
   clear hc hok hx hgd
   have wfx : (Lit.int .i64 x).wf = true := by
    unfold in64 at hw64
    simp [Lit.wf, IntKind.min, IntKind.max, IntKind.signed, IntKind.bits]
    omega
   have hkey : keyOf Tryz.prog 3 (.int .i64 x) = some (.int .i64 x) := keyOf_int_mk Tryz.underlying3 wfx
   have HKEY := Lib.hid hkey
   clear hkey wfx
   by_cases h0 : x < 0
   ·have H := Lib.hid (HB1.out (by simp [inP]; omega))
    clear hdt
    go_wp2_with fail
    go_ret
    exact ⟨by rw [H.out]; rfl, F⟩
   ·by_cases h1 : 4096 ≤ x
    ·have H := Lib.hid (HB1.out (by simp [inP]; omega))
     clear hdt
     go_wp2_with fail
     go_ret
     exact ⟨by rw [H.out]; rfl, F⟩
    ·have HP := Lib.hid (show inP x = true by simp [inP]; omega)
     obtain ⟨b, hrun, hat⟩ := lookup_boolM hown lawInt Tryz.underlying244 Tryz.underlying4 (zeroBool _) HKEY.out
     rw [hdt] at hat
     have hb : b = decide (x ∈ l.take k) := by
      have := (DataW.lit.inj hat)
      injection this with this
      exact this.symm
     have HBB := Lib.hid hb
     clear hat hdt hb
     cases b
     ·have hnm : x ∉ l.take k := fun h => by have := HBB.out; simp [h] at this
      have HO := Lib.hid (HOK.out HP.out hnm)
      clear hnm
      go_wp2_with
       (first
        | (at_mapUpdate; refine wpList_mapUpdate_own _ rfl _ _ _ 244 rfl 3 4 lawInt Tryz.underlying244 _ w.heap.size k _ rfl hown (by unfold maxLen; omega) _ _ _ rfl rfl HKEY.out _ [] (plainElem_bool Tryz.underlying4 true) ?_; intro w1 hown1 hgrow1))
      refine ⟨⟨k + 1, by omega, by go_num, HO.out, ?_, F.trans (grown_fr hgrow1) (fun i hi => .inr (by simp at hi; omega))⟩, by simp [intOf]; omega⟩
      rw [dT, HGD.out]
      exact hown1
     ·have hm : x ∈ l.take k := by have := HBB.out; simpa using this.symm
      have H := Lib.hid (HB2.out hm)
      clear hm
      go_wp2_with fail
      go_ret
      exact ⟨by rw [H.out]; rfl, F⟩
  ·obtain rfl : k = n := by omega
   have he := right_end (by rw [HN.out]; exact hok)
   rw [HN.out] at he
   clear hown
   by_cases h1 : 1 ≤ k
   ·by_cases h2 : k ≤ 64
    ·have H := Lib.hid (show rightF l = true by rw [he]; simp [h1, h2])
     clear he hok
     have K1 : (1 : Int) ≤ (k : Int) := by omega
     have K2 : (k : Int) ≤ 64 := by omega
     go_wp2_with fail
     go_ret
     exact ⟨by rw [H.out]; rfl, F⟩
    ·have H := Lib.hid (show rightF l = false by rw [he]; simp [h1, h2])
     clear he hok
     have K1 : (1 : Int) ≤ (k : Int) := by omega
     have K2 : ¬ ((k : Int) ≤ 64) := by omega
     go_wp2_with fail
     go_ret
     exact ⟨by rw [H.out]; rfl, F⟩
   ·have H := Lib.hid (show rightF l = false by rw [he]; simp [h1])
    clear he hok
    have K1 : ¬ ((1 : Int) ≤ (k : Int)) := by omega
    go_wp2_with fail
    go_ret
    exact ⟨by rw [H.out]; rfl, F⟩
end
section
open Go.RowKit
theorem Row.ne_rowR {w : World} {b1 b2 : Nat} {e1 e2 : TypeId} {s1 s2 : Nat} {v1 v2 : Value} {n1 n2 : Nat} {x1 x2 : List Value} (h1 : Row w b1 e1 s1 v1 n1 x1) (h2 : Row w b2 e2 s2 v2 n2 x2) (hne : e1 ≠ e2) : ∀ g, v1.ownBlock = some g → v2.ownBlock ≠ some g := by
 intro g hg hg2
 rcases h1.2 with ⟨rfl, _⟩ | ⟨g1, c1, u1, z1, rfl, _, k1, _⟩
 ·cases hg
 ·rcases h2.2 with ⟨rfl, _⟩ | ⟨g2, c2, u2, z2, rfl, _, k2, _⟩
  ·cases hg2
  ·have a1 : g1 = g := by simpa [Value.ownBlock] using hg
   have a2 : g2 = g := by simpa [Value.ownBlock] using hg2
   subst a1 a2
   rw [k1] at k2
   injection k2 with k2
   injection k2 with _ k2
   exact hne k2
theorem WPost.rowk {w w' : World} {p B size : Nat} {v : Value} {bad : Bool} {l q : List UInt8} (h : WPost w w' p B v size q) (h0 : Wrt w p B v size bad l) {Bp s n : Nat} {e : TypeId} {vr : Value} {xs : List Value} (hr : Row w Bp e s vr n xs) (h1 : 223 ≠ e) (h2 : e ≠ 5) : Row w' Bp e s vr n xs := by
 obtain ⟨v', a, f, b⟩ := h
 refine hr.keep f (fun g hg hm => ?_)
 rcases List.mem_cons.1 hm with e | hm
 ·exact (hr.ne_blk h0.1 h1) (by rw [hg, e])
 ·exact (hr.ne_rowR h0.2.1 h2 g hg) (mem_own.1 hm)
def encI (l : List Int) : List UInt8 := l.flatMap fun x => leB 4 x.toNat
theorem encI_len (l : List Int) : (encI l).length = 4 * l.length := by
 induction l with
 | nil => rfl
 | cons x r ih => rw [encI, List.flatMap_cons, List.length_append, leB_length, List.length_cons, ← encI, ih]; omega
theorem encI_succ (l : List Int) (k : Nat) (h : k < l.length) : encI (l.take (k + 1)) = encI (l.take k) ++ leB 4 l[k].toNat := by
 rw [List.take_succ_eq_append_getElem h, encI, List.flatMap_append]
 simp [encI]
set_option maxHeartbeats 1000000 in
theorem rcplan11_ok {w : World} {p B : Nat} {v : Value} {q : List UInt8} (h : Wrt w p B v 512 false q) (k : Nat) (hk : k < 4096) (hq : q.length + 4 ≤ 512) :
  Calls Tryz.prog 223 #[.pointer (some ⟨p, 0, none⟩), .int .i64 (k : Int)] w fun e w' => e = .returned (.tuple #[]) ∧ WPost w w' p B v 512 (q ++ leB 4 k) := by
 have U : IntKind.u64.wrap (k : Int) = k := by rw [IntKind.wrap_u64]; omega
 go_enter Tryz.func223, Tryz.ntmps223
 go_wp2_with fail
 refine (wUint_ok h 4 k rfl (by omega) (by omega) (by omega)).mono ?_
 rintro e w1 ⟨rfl, x1⟩
 go_wp2_with fail
 go_returns
 exact ⟨rfl, x1⟩
set_option maxRecDepth 100000 in
set_option maxHeartbeats 2000000 in
theorem putI_ok {w : World} {p B Bp n c : Nat} {v : Value} {q : List UInt8} {A : Option Addr} {l : List Int} (h : Wrt w p B v 512 false q) (hr : Row w Bp 3 1 (.slice A n c) n (zvs l)) (hl : ∀ x ∈ l, 0 ≤ x ∧ x < 4096) (hq : q.length + 4 * n ≤ 512) :
  Calls Tryz.prog 222 #[.pointer (some ⟨p, 0, none⟩), .slice A n c, .func (.func 223) #[] #[]] w fun e w' => e = .returned (.tuple #[]) ∧ WPost w w' p B v 512 (q ++ encI l) := by
 have hn : l.length = n := by have := hr.1; rw [zvs_len, Nat.mul_one] at this; exact this
 have HN := Lib.hid hn
 clear hn
 go_enter Tryz.func222, Tryz.ntmps222
 go_wp2_with fail
 go_loopw [10] (fun i wr => ∃ k : Nat, k ≤ n ∧ i = .int .i64 k ∧ WPost w wr p B v 512 (q ++ encI (l.take k))) (fun i _ => n - (intOf i).toNat)
 case atStart => exact ⟨0, Nat.zero_le _, rfl, v, by rw [List.take_zero, show encI [] = [] from rfl, List.append_nil]; exact h, Fr.refl _ _, fun g hg => .inl hg⟩
 case round =>
  obtain ⟨k, hk, rfl, hW⟩ := hrel
  by_cases hlt : k < n
  ·have hkl : k < l.length := by rw [HN.out]; exact hlt
   have hr2 := hW.rowk h hr (by decide) (by decide)
   obtain ⟨g, o, rfl, hc⟩ := zint_at hr2.rd.1 hkl
   have ck := hc k hkl
   have hx2 := hl _ (List.getElem_mem hkl)
   have hen := encI_succ l k hkl
   have hlen : (q ++ encI (l.take k)).length = q.length + 4 * k := by rw [List.length_append, encI_len, List.length_take, Nat.min_eq_left (by omega)]
   obtain ⟨x, hx⟩ : ∃ x : Nat, l[k] = x := ⟨l[k].toNat, by omega⟩
   rw [hx] at ck hx2 hen
   rw [Int.toNat_natCast] at hen
   obtain ⟨q1, hq1⟩ : ∃ q1, q ++ encI (l.take k) = q1 := ⟨_, rfl⟩
   rw [hq1] at hW hlen
   have HQ := Lib.hid (show q ++ encI (l.take (k + 1)) = q1 ++ leB 4 x by rw [hen, ← List.append_assoc, hq1])
   obtain ⟨v1, h1, f1, g1⟩ := hW
   have hx4 : x < 4096 := by omega
   clear hc hx hen hq1 hr2 hx2
   go_wp2_with fail
   refine (rcplan11_ok h1 x hx4 (by omega)).mono ?_
   rintro e w2 ⟨rfl, x2⟩
   have y2 := WPost.trans f1 g1 x2
   go_wp2_with fail
   exact ⟨⟨k + 1, by omega, by go_num, by rw [HQ.out]; exact y2⟩, by simp [intOf]; omega⟩
  ·obtain rfl : k = n := by omega
   rw [List.take_of_length_le (by rw [HN.out]; exact Nat.le_refl _)] at hW
   go_wp2_with fail
   go_returns
   exact ⟨rfl, hW⟩
def planR (n : Nat) (l : List Int) (t : Nat) : List UInt8 := planM ++ leB 8 n ++ leB 2 l.length ++ leB 8 t ++ encI l
theorem planR_len (n : Nat) (l : List Int) (t : Nat) : (planR n l t).length = 22 + 4 * l.length := by
 simp only [planR, List.length_append, leB_length, encI_len]
 show 4 + 8 + 2 + 8 + _ = _
 omega
def planB (n : Nat) (l : List Int) (t : Nat) : List UInt8 := pad512 (planR n l t)
set_option maxRecDepth 100000 in
set_option maxHeartbeats 2000000 in
theorem rcplan1_ok {w : World} {p B Bp g d f m t n c : Nat} {v : Value} {A : Option Addr} {l : List Int} (h : Wrt w p B v 512 false []) (hg : Blk w g 57 #[.int .u64 (m : Int)]) (hm : m < 18446744073709551616) (hd : Blk w d 36 #[.slice A n c]) (hf : Blk w f 57 #[.int .u64 (t : Int)]) (ht : t < 18446744073709551616)
  (hr : Row w Bp 3 1 (.slice A n c) n (zvs l)) (hl : ∀ x ∈ l, 0 ≤ x ∧ x < 4096) (hn64 : n ≤ 64) :
  Calls Tryz.prog 221 #[.pointer (some ⟨p, 0, none⟩), .pointer (some ⟨g, 0, none⟩), .pointer (some ⟨d, 0, none⟩), .pointer (some ⟨f, 0, none⟩)] w fun e w' => e = .returned (.tuple #[]) ∧ WPost w w' p B v 512 (planR m l t) := by
 have hn : l.length = n := by have := hr.1; rw [zvs_len, Nat.mul_one] at this; exact this
 have HN := Lib.hid hn
 have U : IntKind.u64.wrap (n : Int) = n := by rw [IntKind.wrap_u64]; omega
 have kc := fun (w : World) (C : Array Value) (n c : Nat) => Lib.run_convert_bytes_const (P := Tryz.prog) w 27 5 C n c Tryz.underlying27 Tryz.underlying5
 clear hn
 go_enter Tryz.func221, Tryz.ntmps221
 go_wp2_with fail
 have ra := Rd.mark w planM 5 (4, 5)
 have fa : Fr [] w (w.alloc (.cells (bvs planM).toArray 5 (4, 5))) := (Fr.refl _ _).alloc _
 refine (wBytes_ok (h.keep_nil fa) _ 4 4 planM rfl ra (by simp) (fun g o e _ => by cases e; have := h.lt; omega) (by simp)).mono ?_
 rintro e w1 ⟨rfl, x1⟩
 have b1 := x1.blk (h.keep_nil fa) (hg.keep_nil fa) (by decide) (by decide)
 have d1 := x1.blk (h.keep_nil fa) (hd.keep_nil fa) (by decide) (by decide)
 have t1 := x1.blk (h.keep_nil fa) (hf.keep_nil fa) (by decide) (by decide)
 have r1 := x1.rowk (h.keep_nil fa) (hr.keep_nil fa) (by decide) (by decide)
 obtain ⟨v1, h1, f1, g1⟩ := WPost.trans (fa.mono (by simp)) (fun g hg => .inl hg) x1
 clear ra fa x1 hg hd hf hr kc
 rw [List.nil_append] at h1
 have c0 := b1.cell 0
 simp at c0
 go_wp2_with fail
 refine (wUint_ok h1 8 m rfl hm (by omega) (by rw [show planM.length = 4 from rfl]; omega)).mono ?_
 rintro e w2 ⟨rfl, x2⟩
 have d2 := x2.blk h1 d1 (by decide) (by decide)
 have t2 := x2.blk h1 t1 (by decide) (by decide)
 have r2 := x2.rowk h1 r1 (by decide) (by decide)
 obtain ⟨v2, h2, f2, g2⟩ := WPost.trans f1 g1 x2
 have L2 : (planM ++ leB 8 m).length = 12 := by rw [List.length_append, leB_length]; rfl
 clear x2 b1 d1 t1 r1 c0 f1 g1 h1
 have c0 := d2.cell 0
 simp at c0
 go_wp2_with fail
 refine (wUint_ok h2 2 n rfl (by omega) (by omega) (by rw [L2]; omega)).mono ?_
 rintro e w3 ⟨rfl, x3⟩
 have d3 := x3.blk h2 d2 (by decide) (by decide)
 have t3 := x3.blk h2 t2 (by decide) (by decide)
 have r3 := x3.rowk h2 r2 (by decide) (by decide)
 obtain ⟨v3, h3, f3, g3⟩ := WPost.trans f2 g2 x3
 have L3 : (planM ++ leB 8 m ++ leB 2 n).length = 14 := by rw [List.length_append, leB_length, L2]
 clear x3 d2 t2 r2 c0 f2 g2 h2 L2
 have c0 := t3.cell 0
 simp at c0
 go_wp2_with fail
 refine (wUint_ok h3 8 t rfl ht (by omega) (by rw [L3]; omega)).mono ?_
 rintro e w4 ⟨rfl, x4⟩
 have d4 := x4.blk h3 d3 (by decide) (by decide)
 have r4 := x4.rowk h3 r3 (by decide) (by decide)
 obtain ⟨v4, h4, f4, g4⟩ := WPost.trans f3 g3 x4
 have L4 : (planM ++ leB 8 m ++ leB 2 n ++ leB 8 t).length = 22 := by rw [List.length_append, leB_length, L3]
 clear x4 d3 t3 r3 c0 f3 g3 h3 L3
 have c0 := d4.cell 0
 simp at c0
 go_wp2_with fail
 refine (putI_ok h4 r4 hl (by rw [L4]; omega)).mono ?_
 rintro e w5 ⟨rfl, x5⟩
 have y5 := WPost.trans f4 g4 x5
 go_wp2_with fail
 go_returns
 refine ⟨rfl, ?_⟩
 rw [planR, HN.out]
 exact y5
set_option maxRecDepth 100000 in
set_option maxHeartbeats 2000000 in
theorem rcplan_any {w : World} {Bp n c m t : Nat} {A : Option Addr} {l : List Int} (hm : m < 18446744073709551616) (ht : t < 18446744073709551616) (hr : Row w Bp 3 1 (.slice A n c) n (zvs l)) (hl : ∀ x ∈ l, 0 ≤ x ∧ x < 4096) (hn64 : n ≤ 64) :
  Calls Tryz.prog 193 #[.int .u64 (m : Int), .slice A n c, .int .u64 (t : Int)] w fun e w' => ∃ r, e = .returned r ∧ Row w' w.heap.size 5 1 r 512 (bvs (planB m l t)) ∧ Fr [] w w' := by
 have hn : l.length = n := by have := hr.1; rw [zvs_len, Nat.mul_one] at this; exact this
 go_enter Tryz.func193, Tryz.ntmps193
 go_upto_region 1 with fail
 have b1 : Blk (w.alloc (.cells #[.int .u64 (m : Int)] 57)) w.heap.size 57 #[.int .u64 (m : Int)] := Blk.new _ _ _
 have s1 : (w.alloc (.cells #[.int .u64 (m : Int)] 57)).heap.size = w.heap.size + 1 := by simp
 have f1 : Fr [] w (w.alloc (.cells #[.int .u64 (m : Int)] 57)) := (Fr.refl _ _).alloc _
 generalize w.alloc (.cells #[.int .u64 (m : Int)] 57) = w1 at *
 have b2 : Blk (w1.alloc (.cells #[.slice A n c] 36)) (w.heap.size + 1) 36 #[.slice A n c] := by rw [← s1]; exact Blk.new _ _ _
 have s2 : (w1.alloc (.cells #[.slice A n c] 36)).heap.size = w.heap.size + 1 + 1 := by simp [s1]
 have f2 : Fr [] w1 (w1.alloc (.cells #[.slice A n c] 36)) := (Fr.refl _ _).alloc _
 generalize w1.alloc (.cells #[.slice A n c] 36) = w2 at *
 have b3 : Blk (w2.alloc (.cells #[.int .u64 (t : Int)] 57)) (w.heap.size + 1 + 1) 57 #[.int .u64 (t : Int)] := by rw [← s2]; exact Blk.new _ _ _
 have f3 : Fr [] w2 (w2.alloc (.cells #[.int .u64 (t : Int)] 57)) := (Fr.refl _ _).alloc _
 generalize w2.alloc (.cells #[.int .u64 (t : Int)] 57) = w3 at *
 have F3 := (f1.trans_nil f2).trans_nil f3
 have d1 := (b1.keep_nil f2).keep_nil f3
 have d2 := b2.keep_nil f3
 have r3 := hr.keep_nil F3
 clear b1 b2 s1 s2 f1 f2 f3
 go_wp2_with fail
 refine (rcBlock_rcplan1 w3 w.heap.size (w.heap.size + 1) (w.heap.size + 1 + 1) (planR m l t) (by rw [planR_len, hn]; omega) (fun wx p B v f _ _ h => rcplan1_ok h (d1.keep_nil f) hm (d2.keep_nil f) (b3.keep_nil f) ht (r3.keep_nil f) hl hn64)).mono ?_
 rintro e w4 ⟨r, rfl, r4, f4⟩
 go_wp2_with fail
 go_ret
 exact ⟨r, rfl, r4.mono F3.size, F3.trans_nil f4⟩
end
section
open Go.RowKit
set_option maxRecDepth 100000 in
set_option maxHeartbeats 2000000 in
def SlB (w : World) (v : Value) (l : List UInt8) : Prop := ∃ A c, v = .slice A l.length c ∧ Rd w A (bvs l) ∧ (A = none → l.length = 0) ∧ l.length ≤ c
theorem SlB.keep_nil {w w' : World} {v : Value} {l : List UInt8} (h : SlB w v l) (f : Fr [] w w') : SlB w' v l := by
 obtain ⟨A, c, h1, h2, h3⟩ := h
 exact ⟨A, c, h1, h2.keep_nil f, h3⟩
theorem SlB.one {w : World} {v : Value} {l : List UInt8} (h : SlB w v l) : v.oneCell' = true := by obtain ⟨A, c, rfl, _⟩ := h; rfl
structure BRd (w : World) (A : Option Addr) (vs : List Value) (bs : List (List UInt8)) : Prop where
 rd : Rd w A vs
 len : vs.length = bs.length
 each : ∀ i (h : i < vs.length) (h' : i < bs.length), SlB w vs[i] bs[i]
theorem BRd.keep_nil {w w' : World} {A : Option Addr} {vs : List Value} {bs : List (List UInt8)} (h : BRd w A vs bs) (f : Fr [] w w') : BRd w' A vs bs :=
 ⟨h.rd.keep_nil f, h.len, fun i h1 h2 => (h.each i h1 h2).keep_nil f⟩
def doneR (n : Nat) (all : List UInt8) : List UInt8 := doneM ++ leB 8 n ++ shaSum all
theorem doneR_len (n : Nat) (all : List UInt8) : (doneR n all).length = 44 := by
 rw [doneR, List.length_append, List.length_append, leB_length, shaSum_length]; rfl
def doneB (n : Nat) (all : List UInt8) : List UInt8 := pad512 (doneR n all)
theorem doneB_len (n : Nat) (all : List UInt8) : (doneB n all).length = 512 := pad512_len (by rw [doneR_len]; omega)
set_option maxRecDepth 100000 in
set_option maxHeartbeats 2000000 in
theorem rcSeal1_ok {w : World} {p B g d m : Nat} {v : Value} {D : List UInt8} (h : Wrt w p B v 512 false []) (hm : m < 18446744073709551616) (hg : Blk w g 57 #[.int .u64 (m : Int)]) (hd : Blk w d 39 (bvs D).toArray) (hD : D.length = 32) :
  Calls Tryz.prog 205 #[.pointer (some ⟨p, 0, none⟩), .pointer (some ⟨g, 0, none⟩), .pointer (some ⟨d, 0, none⟩)] w fun e w' => e = .returned (.tuple #[]) ∧ WPost w w' p B v 512 (doneM ++ leB 8 m ++ D) := by
 have HD := Lib.hid hD
 clear hD
 have kc := fun (w : World) (C : Array Value) (n c : Nat) => Lib.run_convert_bytes_const (P := Tryz.prog) w 27 5 C n c Tryz.underlying27 Tryz.underlying5
 go_enter Tryz.func205, Tryz.ntmps205
 go_wp2_with fail
 have ra := Rd.mark w doneM 5 (4, 5)
 have fa : Fr [] w (w.alloc (.cells (bvs doneM).toArray 5 (4, 5))) := (Fr.refl _ _).alloc _
 refine (wBytes_ok (h.keep_nil fa) _ 4 4 doneM rfl ra (by simp) (fun g o e _ => by cases e; have := h.lt; omega) (by simp)).mono ?_
 rintro e w1 ⟨rfl, x1⟩
 have b1 := x1.blk (h.keep_nil fa) (hg.keep_nil fa) (by decide) (by decide)
 have d1 := x1.blk (h.keep_nil fa) (hd.keep_nil fa) (by decide) (by decide)
 obtain ⟨v1, h1, f1, g1⟩ := WPost.trans (fa.mono (by simp)) (fun g hg => .inl hg) x1
 clear ra fa x1 hg kc
 rw [List.nil_append] at h1
 have c0 := b1.cell 0
 simp at c0
 go_wp2_with fail
 refine (wUint_ok h1 8 m rfl hm (by omega) (by rw [show doneM.length = 4 from rfl]; omega)).mono ?_
 rintro e w2 ⟨rfl, x2⟩
 have d2 := x2.blk h1 d1 (by decide) (by decide)
 obtain ⟨v2, h2, f2, g2⟩ := WPost.trans f1 g1 x2
 have hpd : p ≠ d := fun e => (d2.ne_ h2.1 (by decide)) e.symm
 go_wp2_with fail
 refine (wBytes_ok h2 _ 32 32 D HD.out (Rd.ofBm d2) (by simp) (fun g o e _ => by cases e; exact hpd.symm) (by rw [List.length_append, leB_length, show doneM.length = 4 from rfl]; omega)).mono ?_
 rintro e w3 ⟨rfl, x3⟩
 have y3 := WPost.trans f2 g2 x3
 go_wp2_with fail
 go_returns
 exact ⟨rfl, y3⟩
end
end Go.Proofs.YtbanogfljpkbkaaGreatDoor
