/-
  Texts of this claim, one behind the other: JnA, DkM, DkJ, DkH, DkI, DkN.
-/
import Derived.Test.YtbanogfljpkbkaaGreatDoorF24
import Derived.Deep.DeepCutAuto
import Derived.Deep.CutBlock
import Derived.BigQuiet
import Derived.Deep.QuietTactic
import Derived.Test.YtbanogfljpkbkaaGreatDoorF22
import Derived.Test.YtbanogfljpkbkaaGreatDoorF3
set_option linter.unusedSimpArgs false
set_option linter.unusedVariables false
set_option linter.unnecessarySimpa false
namespace Go.Proofs.YtbanogfljpkbkaaGreatDoor
section
open Go.RowKit
set_option maxRecDepth 100000
structure JrM where
 first : Int
 count : Int
 num : Nat
 used : Int
 begun : Bool
 bad : Bool
def Jr (w : World) (g p : Nat) (J : JrM) : Prop := Blk w g 169 #[.pointer (some ⟨p, 0, none⟩), .int .i64 J.first, .int .i64 J.count, .int .u64 (J.num : Int), .int .i64 J.used, .bool J.begun, .bool J.bad]
def JrM.stE (J : JrM) : Int := if J.bad then 102 else 0
def jRight (D : DkM) (first count : Int) : Bool := decide (16 ≤ count) && (decide (count ≤ 256) && (decide (0 ≤ first) && decide (first ≤ D.sure.length - count)))
structure JrM.ok (J : JrM) : Prop where
 c : 16 ≤ J.count ∧ J.count ≤ 256
 f : 0 ≤ J.first ∧ J.first ≤ 4096
 n : J.num < 18446744073709551616
 u : 0 ≤ J.used ∧ J.used ≤ 256
def JrM.most (J : JrM) : Int := min (J.count - 3) 64
def JrM.room (J : JrM) : Int := if J.bad = true ∨ J.begun = false then 0 else max (min (J.count - 3 - J.used) 64) 0
theorem room_if (x : Int) : (if (if 64 < x then 64 else x) < 0 then 0 else if 64 < x then 64 else x) = max (min x 64) 0 := by
 by_cases h : 64 < x
 ·rw [if_pos h, if_neg (by omega)]; omega
 ·rw [if_neg h]; split <;> omega
section
variable {w w' : World} {g p : Nat} {O : List Nat} {J : JrM} {D : DkM}
theorem Jr.keep (h : Jr w g p J) {F : List Nat} (f : Fr F w w') (hF : g ∉ F) : Jr w' g p J := Blk.keep h f hF
theorem Jr.keep_nil (h : Jr w g p J) (f : Fr [] w w') : Jr w' g p J := h.keep f (by simp)
theorem jnRight_any (h : Dsk w p O D) (x y : Int) (hx : wfZ x) : Calls Tryz.prog 64 #[.pointer (some ⟨p, 0, none⟩), .int .i64 x, .int .i64 y] w fun e w' => e = .returned (.bool (jRight D x y)) ∧ w = w' := by
 have cl := dkLen_any h
 obtain ⟨X, hX⟩ := h
 have hn := hX.n1
 obtain ⟨n, hn'⟩ : ∃ n, D.sure.length = n := ⟨_, rfl⟩
 have HR := Lib.hid (show jRight D x y = (decide (16 ≤ y) && (decide (y ≤ 256) && (decide (0 ≤ x) && decide (x ≤ (n : Int) - y)))) by rw [jRight, hn'])
 rw [hn'] at cl hn
 clear hX hn'
 by_cases h1 : 16 ≤ y
 ·by_cases h2 : y ≤ 256
  ·by_cases h3 : 0 ≤ x
   ·go_enter Tryz.func64, Tryz.ntmps64
    go_wp2_with (go_at_call 107; refine cl.mono ?_; rintro e w' ⟨rfl, rfl⟩)
    go_returns
    exact ⟨by rw [HR.out, decide_eq_true h1, decide_eq_true h2, decide_eq_true h3]; rfl, rfl⟩
   ·clear cl
    go_enter Tryz.func64, Tryz.ntmps64
    go_wp2_with fail
    go_returns
    exact ⟨by rw [HR.out, decide_eq_false (show ¬ 0 ≤ x by omega), Bool.false_and, Bool.and_false, Bool.and_false]; rfl, rfl⟩
  ·clear cl
   go_enter Tryz.func64, Tryz.ntmps64
   go_wp2_with fail
   go_returns
   exact ⟨by rw [HR.out, decide_eq_false (show ¬ y ≤ 256 by omega), Bool.false_and, Bool.and_false]; rfl, rfl⟩
 ·clear cl
  go_enter Tryz.func64, Tryz.ntmps64
  go_wp2_with fail
  go_returns
  exact ⟨by rw [HR.out, decide_eq_false (show ¬ 16 ≤ y by omega), Bool.false_and]; rfl, rfl⟩
theorem jnState_any (h : Jr w g p J) : Calls Tryz.prog 141 #[.pointer (some ⟨g, 0, none⟩)] w fun e w' => e = .returned (.int .i64 J.stE) ∧ w = w' := by
 have c0 := h.cell 0
 have c6 := h.cell 6
 have HS := Lib.hid (show J.stE = if J.bad then 102 else 0 from rfl)
 obtain ⟨bad, hb⟩ : ∃ b, J.bad = b := ⟨_, rfl⟩
 simp only [List.getElem?_toArray, List.getElem?_cons_zero, List.getElem?_cons_succ] at c0 c6
 rw [hb] at HS
 rw [hb] at c6
 clear h hb
 cases bad
 ·go_enter Tryz.func141, Tryz.ntmps141
  go_wp2_with fail
  go_ret
  exact ⟨by rw [HS.out]; rfl, rfl⟩
 ·go_enter Tryz.func141, Tryz.ntmps141
  go_wp2_with fail
  go_ret
  exact ⟨by rw [HS.out]; rfl, rfl⟩
theorem jnUsed_any (h : Jr w g p J) : Calls Tryz.prog 142 #[.pointer (some ⟨g, 0, none⟩)] w fun e w' => e = .returned (.int .i64 J.used) ∧ w = w' := by
 have c4 : w.cell? ⟨g, 4, none⟩ = some (.int .i64 J.used) := Blk.cell h 4
 go_enter Tryz.func142, Tryz.ntmps142
 go_wp2_with fail
 go_ret
 exact ⟨rfl, rfl⟩
theorem jnBegun_any (h : Jr w g p J) : Calls Tryz.prog 143 #[.pointer (some ⟨g, 0, none⟩)] w fun e w' => e = .returned (.bool J.begun) ∧ w = w' := by
 have c5 : w.cell? ⟨g, 5, none⟩ = some (.bool J.begun) := Blk.cell h 5
 go_enter Tryz.func143, Tryz.ntmps143
 go_wp2_with fail
 go_ret
 exact ⟨rfl, rfl⟩
theorem jnMost_any (h : Jr w g p J) (ok : J.ok) : Calls Tryz.prog 92 #[.pointer (some ⟨g, 0, none⟩)] w fun e w' => e = .returned (.int .i64 J.most) ∧ w = w' := by
 have c0 : w.cell? ⟨g, 0, none⟩ = some (.pointer (some ⟨p, 0, none⟩)) := Blk.cell h 0
 have c2 : w.cell? ⟨g, 2, none⟩ = some (.int .i64 J.count) := Blk.cell h 2
 have hc := ok.c
 have e1 : IntKind.i64.wrap (J.count - 3) = J.count - 3 := IntWalk.i64_in _ (by omega)
 go_enter Tryz.func92, Tryz.ntmps92
 go_wp2_with fail
 all_goals go_ret
 all_goals refine ⟨?_, rfl⟩
 all_goals first
  | (rw [show J.most = 64 by unfold JrM.most; omega]; rfl)
  | (rw [show J.most = J.count - 3 by unfold JrM.most; omega]; rfl)
  | (rw [JrM.most]; rfl)
theorem jnRoom_any (h : Jr w g p J) (ok : J.ok) : Calls Tryz.prog 91 #[.pointer (some ⟨g, 0, none⟩)] w fun e w' => e = .returned (.int .i64 J.room) ∧ Fr [] w w' := by
 have c2 : w.cell? ⟨g, 2, none⟩ = some (.int .i64 J.count) := Blk.cell h 2
 have c4 : w.cell? ⟨g, 4, none⟩ = some (.int .i64 J.used) := Blk.cell h 4
 have c5 : w.cell? ⟨g, 5, none⟩ = some (.bool J.begun) := Blk.cell h 5
 have cs := jnState_any h
 have hc := ok.c
 have hu := ok.u
 have HS := Lib.hid (show J.room = if J.bad = true ∨ J.begun = false then 0 else max (min (J.count - 3 - J.used) 64) 0 from rfl)
 rw [JrM.stE] at cs
 obtain ⟨bad, hb⟩ : ∃ b, J.bad = b := ⟨_, rfl⟩
 obtain ⟨beg, hg⟩ : ∃ b, J.begun = b := ⟨_, rfl⟩
 rw [hb, hg] at HS
 rw [hg] at c5
 rw [hb] at cs
 clear h hb hg
 have e1 : IntKind.i64.wrap (J.count - 3) = J.count - 3 := IntWalk.i64_in _ (by omega)
 have e2 : IntKind.i64.wrap (J.count - 3 - J.used) = J.count - 3 - J.used := IntWalk.i64_in _ (by omega)
 cases bad
 ·cases beg
  ·go_enter Tryz.func91, Tryz.ntmps91
   go_wp2_with (go_at_call 141; refine cs.mono ?_; rintro e w' ⟨rfl, rfl⟩)
   go_ret
   exact ⟨by rw [HS.out]; rfl, Fr.refl _ _⟩
  ·go_enter Tryz.func91, Tryz.ntmps91
   go_upto_region 3 with (go_at_call 141; refine cs.mono ?_; rintro e w' ⟨rfl, rfl⟩)
   go_quiet (fail)
   first | rw [room_if] | skip
   obtain ⟨m, hm⟩ : ∃ m, max (min (J.count - 3 - J.used) 64) 0 = m := ⟨_, rfl⟩
   obtain ⟨m2, hm2⟩ : ∃ m, (if 64 < J.count - 3 - J.used then 64 else J.count - 3 - J.used) = m := ⟨_, rfl⟩
   rw [hm] at HS ⊢
   first | rw [hm2] | skip
   go_wp2_with fail
   go_ret
   exact ⟨by rw [HS.out, if_neg (by simp)]; rfl, (Fr.refl _ _).drewN _⟩
 ·go_enter Tryz.func91, Tryz.ntmps91
  go_wp2_with (go_at_call 141; refine cs.mono ?_; rintro e w' ⟨rfl, rfl⟩)
  go_ret
  exact ⟨by rw [HS.out]; rfl, Fr.refl _ _⟩
theorem jnDid_any (h : Jr w g p J) (z : Int) : Calls Tryz.prog 148 #[.pointer (some ⟨g, 0, none⟩), .int .i64 z] w fun e w' => e = .returned (.int .i64 z) ∧ Jr w' g p { J with bad := J.bad || decide (z ≠ 0) } ∧ Fr [g] w w' := by
 have c6 : w.cell? ⟨g, 6, none⟩ = some (.bool J.bad) := Blk.cell h 6
 have z6 := Blk.frozen h 6
 have HH := Lib.hid h
 obtain ⟨bad, hb⟩ : ∃ b, J.bad = b := ⟨_, rfl⟩
 rw [hb] at c6
 have key : ∀ b : Bool, b = (J.bad || decide (z ≠ 0)) → Jr (w.setCell ⟨g, 6, none⟩ (.bool b)) g p { J with bad := J.bad || decide (z ≠ 0) } ∧ Fr [g] w (w.setCell ⟨g, 6, none⟩ (.bool b)) := fun b hb => by
  refine ⟨?_, (Fr.refl _ _).setCell (.inl (by simp)) _⟩
  have := Blk.set_ HH.out 6 (.bool b)
  rw [hb] at this ⊢
  exact this
 have KEY := Lib.hid key
 have HB := Lib.hid hb
 clear h key hb
 cases bad
 ·by_cases hz : z = 0
  ·subst hz
   go_enter Tryz.func148, Tryz.ntmps148
   go_wp2_with fail
   go_ret
   exact ⟨rfl, KEY.out _ (by rw [HB.out]; rfl)⟩
  ·have dz : (z == 0) = false := by simpa using hz
   go_enter Tryz.func148, Tryz.ntmps148
   go_wp2_with fail
   go_ret
   exact ⟨rfl, KEY.out _ (by rw [HB.out]; simp [hz])⟩
 ·go_enter Tryz.func148, Tryz.ntmps148
  go_wp2_with fail
  go_ret
  exact ⟨rfl, KEY.out _ (by rw [HB.out]; rfl)⟩
end
end
section
open Go.RowKit
set_option maxRecDepth 100000
def blkK (b : List UInt8) (k : Nat) : List UInt8 := (List.range 512).map fun i => if i < k then b.getD (i % b.length) 0 else 0
def blkOf (b : List UInt8) : List UInt8 := blkK b 512
theorem blkK_len (b : List UInt8) (k : Nat) : (blkK b k).length = 512 := by simp [blkK]
theorem blkOf_len (b : List UInt8) : (blkOf b).length = 512 := blkK_len b 512
theorem blkK_zero (b : List UInt8) : blkK b 0 = zB512 := by
 apply List.ext_getElem
 ·rw [blkK_len, zB512_len]
 ·intro i h1 h2
  simp [blkK, zB512, List.getElem_replicate, -List.reduceReplicate]
theorem blkOf_nil : blkOf [] = zB512 := by
 apply List.ext_getElem
 ·rw [blkOf_len, zB512_len]
 ·intro i h1 h2
  simp [blkOf, blkK, zB512, List.getElem_replicate, -List.reduceReplicate]
theorem blkK_succ (b : List UInt8) (k : Nat) (hk : k < 512) : blkK b (k + 1) = (blkK b k).set k (b.getD (k % b.length) 0) := by
 apply List.ext_getElem
 ·rw [List.length_set, blkK_len, blkK_len]
 ·intro i h1 h2
  rw [List.getElem_set]
  simp only [blkK, List.getElem_map, List.getElem_range]
  by_cases e : k = i
  ·subst e; simp
  ·rw [if_neg e]
   by_cases h : i < k
   ·rw [if_pos (by omega), if_pos h]
   ·rw [if_neg (by omega), if_neg h]
def BlkCD (w : World) (b : List UInt8) (e : Ending) (w' : World) : Prop := ∃ v, e = .returned v ∧ Row w' w.heap.size 5 1 v 512 (bvs (blkOf b)) ∧ Fr [] w w'
theorem blkK_nil (k : Nat) : blkK [] k = blkOf [] := by
 rw [blkOf_nil, ← blkK_zero []]
 simp only [blkK]
 apply List.map_congr_left
 intro i _
 split <;> simp
set_option maxHeartbeats 2000000 in
theorem dkBlock_any (w : World) (A : Option Addr) (n c : Nat) (b : List UInt8) (hb : b.length = n) (rd : Rd w A (bvs b)) (hn : n ≤ 4611686018427387904) : Calls Tryz.prog 13 #[.slice A n c] w (BlkCD w b) := by
 have HB := Lib.hid hb
 go_enter Tryz.func13, Tryz.ntmps13
 go_wp2_with (first | (refine wpList_mk1 rfl rfl slB rfl .i64 .i64 _ _ 512 rfl rfl rfl rfl (by omega) ?_; intro w1 k1 r1 f1 z1))
 rw [← zB512_vs, ← blkK_zero b] at r1
 obtain ⟨gb, hgb⟩ : ∃ gb, w.heap.size = gb := ⟨_, rfl⟩
 rw [hgb] at r1 ⊢
 have HG := Lib.hid hgb
 have F1 := Lib.hid f1
 have RD := Lib.hid rd
 clear k1 z1 hgb f1 hb rd
 go_loopw [4] (fun i wr => ∃ k : Nat, k ≤ 512 ∧ i = .int .i64 k ∧ Row wr gb 5 1 (.slice (some ⟨gb, 0, none⟩) 512 512) 512 (bvs (blkK b k)) ∧ Fr [] w wr) (fun i _ => 512 - (intOf i).toNat)
 case atStart => exact ⟨0, by omega, rfl, r1, F1.out⟩
 case round =>
  clear r1
  obtain ⟨k, hk, rfl, R, F⟩ := hrel
  by_cases hp : 0 < n
  ·have d2 : (0 : Int) < n := by omega
   by_cases hlt : k < 512
   ·have d0 : (k : Int) < 512 := by omega
    have hkn : k % n < n := Nat.mod_lt _ hp
    have hkb : k % n < b.length := by rw [HB.out]; exact hkn
    obtain ⟨y, hy⟩ : ∃ y, b[k % n] = y := ⟨_, rfl⟩
    obtain ⟨g, o, rfl, hc⟩ := RD.out (by intro h; have := congrArg List.length h; simp [bvs] at this; rw [this] at hkb; cases hkb)
    have cy := F.cell (by simp) (hc (k % n) (.int .u8 y.toNat) (by rw [bvs, List.getElem?_map, List.getElem?_eq_getElem hkb, hy]; rfl))
    have ck := (R.setD k hlt (.int .u8 y.toNat)).1
    rw [bvs, List.getElem?_map, List.getElem?_eq_getElem (by rw [blkK_len]; exact hlt)] at ck
    have fk := (R.setD k hlt (.int .u8 y.toNat)).2.1
    have HS := Lib.hid (R.setD k hlt (.int .u8 y.toNat)).2.2
    have HY := Lib.hid (show bvs (blkK b (k + 1)) = (bvs (blkK b k)).set k (.int .u8 y.toNat) by
     rw [blkK_succ b k hlt, HB.out, bvs, bvs, List.map_set, List.getD_eq_getElem?_getD, List.getElem?_eq_getElem hkb, hy]; rfl)
    obtain ⟨q, hq⟩ : ∃ q, k % n = q := ⟨_, rfl⟩
    have DV : (k : Int).tmod n = q := by rw [← hq]; exact (Int.ofNat_tmod _ _).symm
    have dn : (n : Int) ≠ 0 := by omega
    rw [hq] at cy hkn
    simp only [Option.map_some] at ck
    clear hc hy hkb hq R
    go_wp2_with fail
    have R2 := HS.out
    rw [← HY.out] at R2
    exact ⟨⟨k + 1, by omega, by go_num, R2, F.setCell (.inr (by have := HG.out; simp; omega)) _⟩, by simp [intOf]; omega⟩
   ·have hk2 : k = 512 := by omega
    subst hk2
    have d0 : ¬ (((512 : Nat) : Int) < 512) := by omega
    go_wp2_with fail
    go_ret
    exact ⟨_, rfl, by rw [HG.out]; exact R, F⟩
  ·have hn0 : n = 0 := by omega
   subst hn0
   have hbn : b = [] := List.length_eq_zero_iff.1 HB.out
   have HE := Lib.hid (show blkK b k = blkOf b by rw [hbn, blkK_nil])
   rw [HE.out] at R
   clear hbn
   by_cases hlt : k < 512
   ·have d0 : (k : Int) < 512 := by omega
    go_wp2_with fail
    go_ret
    exact ⟨_, rfl, by rw [HG.out]; exact R, F⟩
   ·have d0 : ¬ ((k : Int) < 512) := by omega
    go_wp2_with fail
    go_ret
    exact ⟨_, rfl, by rw [HG.out]; exact R, F⟩
end
section
open Go.RowKit
set_option maxRecDepth 100000
section
variable {w w' : World} {p : Nat} {O : List Nat} {D : DkM} {X : DkX}
def DkM.fk (D : DkM) (left : Int → Bool) : DkM := { D with uns := fun x => if left x = true then [] else D.uns x }
theorem RangeZ.rlt {b r n cnt : Nat} {f : Int → Option Value} {left : Int → Bool} (h : RangeZ w b r n f left cnt) : r < w.heap.size := by
 obtain ⟨D4, lf, h, _⟩ := h
 exact h.lt
theorem SuV.one {v : Value} {s : Option (List UInt8)} (h : SuV w v s) : v.oneCell' = true := by
 cases s with
 | none => have h : v = .slice none 0 0 := h; rw [h]; rfl
 | some l =>
  obtain ⟨hl, r⟩ : BlkB w v l := h
  obtain ⟨g, c, rfl⟩ := r.hdD (by omega)
  rfl
end
end
section
open Go.RowKit
set_option maxRecDepth 100000
def DkM.delU (D : DkM) (x : Int) : DkM := { D with uns := fun y => if y = x then [] else D.uns y }
section
variable {w w' : World} {p : Nat} {O : List Nat} {D : DkM} {X : DkX}
theorem DskX.del (h : DskX w p O D X) {x : Int} (f : Fr [X.m] w w') (m : MapZ w' X.m 4096 (fdel X.f x)) : DskX w' p O (D.delU x) { X with f := fdel X.f x } := by
 have n8 := h.mT 5
 have hf : ∀ y u, fdel X.f x y = some u → y ≠ x ∧ X.f y = some u := fun y u hy => by
  unfold fdel at hy
  by_cases e : y = x
  ·rw [if_pos e] at hy; cases hy
  ·rw [if_neg e] at hy; exact ⟨e, hy⟩
 refine ⟨h.pO, h.gO, h.mO, h.blk.keep f (by simpa using fun e => h.mp e.symm), h.n1, h.row.keep f (fun g hg hm => ?_), fun i a b => (h.su i a b).keepT f n8, m, fun y => ?_, fun y v hy => ?_, fun y hy => ?_, fun y z u v hne hy hz => ?_, fun j hj cs fz hc => ?_, fun j hj => Nat.lt_of_lt_of_le (h.lt j hj) f.size, h.calls⟩
 ·have : g = X.g := by simpa [Value.ownBlock] using hg.symm
  exact h.mg (by rw [← this]; exact (List.mem_singleton.1 hm).symm)
 ·show fdel X.f x y = none ↔ (if y = x then [] else D.uns y) = []
  unfold fdel
  by_cases e : y = x
  ·rw [if_pos e, if_pos e]; simp
  ·rw [if_neg e, if_neg e]; exact h.iff y
 ·obtain ⟨e, hy2⟩ := hf y v hy
  show UR w' v (if y = x then [] else D.uns y) ∧ _
  rw [if_neg e]
  obtain ⟨h1, g, h2, h3, h4⟩ := h.un y v hy2
  exact ⟨h1.keep f n8 (fun g' hg' hm => by rw [List.mem_singleton.1 hm] at hg'; exact (h.um hy2).1 hg'), g, h2, h3, h4⟩
 ·replace hy : (if y = x then [] else D.uns y) ≠ [] := hy
  by_cases e : y = x
  ·rw [if_pos e] at hy; exact absurd rfl hy
  ·rw [if_neg e] at hy; exact h.rng y hy
 ·exact h.apart y z u v hne (hf y u hy).2 (hf z v hz).2
 ·by_cases e2 : j = X.m
  ·obtain ⟨D4, ⟨es, clock, hb, _⟩, _⟩ := m
   rw [e2, hb] at hc
   cases hc
  ·rw [f.same j (h.lt j hj) (by simpa using e2)] at hc
   exact h.no8 j hj cs fz hc
def DkM.tamper (D : DkM) (x : Int) (b : List UInt8) : DkM := if D.mayE x b.length ≠ 0 then D else { D with sure := D.sure.set x.toNat (some b), uns := fun y => if y = x then [] else D.uns y }
set_option maxHeartbeats 1000000 in
theorem dkTamper_any (h : Dsk w p O D) (x : Int) (A : Option Addr) (n c : Nat) (b : List UInt8) (hb : b.length = n) (rd : Rd w A (bvs b)) (hA : A = none → n = 0) :
  Calls Tryz.prog 33 #[.pointer (some ⟨p, 0, none⟩), .int .i64 x, .slice A n c] w fun e w' => e = .returned (.int .i64 (D.mayE x n)) ∧ AftD w p O (D.tamper x b) w' := by
 have HB := Lib.hid hb
 have cm := dkMay_any h x A n c
 by_cases hm : D.mayE x n = 0
 ·obtain ⟨hx, rfl⟩ := DkM.may0 hm
  rw [hm] at cm
  have HM := Lib.hid hm
  have HT := Lib.hid (show D.tamper x b = { D with sure := D.sure.set x.toNat (some b), uns := fun y => if y = x then [] else D.uns y } by rw [DkM.tamper, hb, if_neg (by simpa using hm)])
  obtain ⟨X, h⟩ := h
  have c0 := h.c0
  have c1 := h.c1
  have wf := DkM.wf_is h hx
  obtain ⟨hx0, hx1⟩ := DkM.is_iff.1 hx
  obtain ⟨k, rfl⟩ : ∃ k : Nat, x = k := ⟨x.toNat, by omega⟩
  have hk : k < D.sure.length := by omega
  obtain ⟨N, hN⟩ : ∃ N, D.sure.length = N := ⟨_, rfl⟩
  rw [hN] at c0 hk
  have HK := Lib.hid (And.intro hN hk)
  have HH := Lib.hid h
  clear hb hm hx h hN hx0 hx1
  go_enter Tryz.func33, Tryz.ntmps33
  go_wp2_with fail
  refine cm.mono ?_
  rintro e w1 ⟨rfl, rfl⟩
  clear cm
  go_upto_region 4 with fail
  have fz := (Fr.refl [] w).drew
  obtain ⟨w1, hw1⟩ : ∃ w1, w.drew = w1 := ⟨_, rfl⟩
  rw [hw1] at fz
  refine wp_region_held_drew (S := fun w' => w'.cell? ⟨p, 0, none⟩ = some (.slice (some ⟨X.g, 0, none⟩) N X.c)) (by kernel_rfl) (by rw [hw1]; exact fz.cell (by simp) c0) (fun hHeld => ?_)
  rw [hw1] at hHeld ⊢
  clear hw1
  refine tw 0 15 hHeld ?_
  refine tw 1 16 hHeld ?_
  refine tw 2 17 hHeld ?_
  refine tw 3 18 hHeld ?_
  refine tw 4 19 hHeld ?_
  refine tw 5 20 hHeld ?_
  refine tc 6 (fun K hK => ?_)
  go_simp
  refine (clone_any A b 512 c w1 HB.out (rd.keep_nil fz) hA (by omega)).mono ?_
  rintro e w2 ⟨v2, rfl, r2, f2⟩
  obtain ⟨A2, c2, rfl, -, -, -, -, -⟩ := r2.shape
  have f02 := fz.trans_nil f2
  have h2 := HH.out.keep_nil f02
  have srow := h2.row
  rw [HK.out.1] at srow
  obtain ⟨x0, y0, -⟩ := srow.setD k hk .nilFunc
  have hvk : k < X.vs.length := by have := srow.1; omega
  rw [List.getElem?_eq_getElem hvk] at x0
  have hset := h2.setS (i := k) (by rw [HK.out.1]; exact hk) (v := .slice A2 512 c2) (s := some b) ⟨HB.out, r2.mono (Nat.zero_le _)⟩
  have fs : Fr [X.g] w2 (w2.setCell ⟨X.g, k, none⟩ (.slice A2 512 c2)) := (Fr.refl [X.g] w2).setCell (.inl (by simp)) _
  refine hK.out _ _ (f2.cell (by simp) hHeld) (fun hHx => ?_)
  clear hHeld
  have hHeld := hHx
  clear hHx
  clear hK K
  try simp only [Act.put, p1, p2, p3]
  refine tw 7 22 hHeld ?_
  refine tcd 8 none (fun K hK => ?_)
  refine wp_st1 rfl (by kernel_rfl) X.g k rfl (.slice A2 512 c2) rfl rfl rfl x0 y0 ?_
  refine hK _ _ (fs.cell (by simpa using h2.pg) hHeld) (fun hHx => ?_)
  clear hHx hHeld
  have HS := Lib.hid hset
  have c1s := hset.c1
  have mz := hset.map
  have F3 : Fr O w (w2.setCell ⟨X.g, k, none⟩ (.slice A2 512 c2)) := (f02.mono (by simp)).trans fs (fun i hi => .inl (by rw [List.mem_singleton.1 hi]; exact HH.out.gO))
  generalize w2.setCell ⟨X.g, k, none⟩ (.slice A2 512 c2) = w3 at *
  clear srow x0 y0 fs h2 hset
  clear hK K
  try simp only [Act.put, p1, p2, p3]
  refine wpAnyH_done (by kernel_rfl) ?_ _
  go_wp2_with (refine wpList_delZ rfl rfl Tryz.underlying116 rfl mz _ rfl wf ?_; intro w4 m4 f4 s4)
  have hd := HS.out.del f4 m4
  have FIN : AftD w p O (D.tamper k b) w4 := by
   rw [HT.out]
   exact ⟨O, ⟨_, hd⟩, fun i hi => .inl hi, F3.trans f4 (fun i hi => .inl (by rw [List.mem_singleton.1 hi]; exact HH.out.mO))⟩
  have HF := Lib.hid FIN
  clear FIN hd
  go_ret
  exact ⟨by rw [HM.out]; rfl, HF.out⟩
 ·have HT := Lib.hid (show D = D.tamper x b by rw [DkM.tamper, hb, if_pos hm])
  obtain ⟨k, hk⟩ : ∃ k, D.mayE x n = k := ⟨_, rfl⟩
  rw [hk] at hm cm
  have d : (k != 0) = true := by simp only [bne_iff_ne]; exact hm
  have HK := Lib.hid hk
  have FIN := Lib.hid ((AftD.same h).eq HT.out)
  clear hb hm hk h
  go_enter Tryz.func33, Tryz.ntmps33
  go_wp2_with fail
  refine cm.mono ?_
  rintro e w1 ⟨rfl, rfl⟩
  clear cm
  go_wp2_with fail
  go_ret
  exact ⟨by rw [HK.out]; rfl, FIN.out⟩
end
end
section
open Go.RowKit
set_option maxRecDepth 100000
def kfD (ks : List (Int × Int)) (k : Nat) (x : Int) : Option Int := ((ks.take k).find? (fun p => p.1 == x)).map (·.2)
def DkM.cr (D : DkM) (ks : List (Int × Int)) (left : Int → Bool) (i : Nat) : Option (List UInt8) :=
 if left i then D.sure.getD i none else match kfD ks ks.length i with
  | some z => if 0 < z then some ((D.uns i).getD (z.toNat - 1) []) else D.sure.getD i none
  | none => D.sure.getD i none
section
variable {w w' : World} {p : Nat} {O : List Nat} {D : DkM} {X : DkX}
theorem UR.at {v : Value} {L : List (List UInt8)} (h : UR w v L) {j : Nat} (hj : j < L.length) : ∃ g c u, v = .slice (some ⟨g, 0, none⟩) L.length c ∧ w.cell? ⟨g, j, none⟩ = some u ∧ BlkB w u L[j] := by
 obtain ⟨us, r, hb⟩ := h
 have hul : us.length = L.length := by have := r.1; omega
 obtain ⟨g, c, rfl⟩ := r.hdD (by omega)
 obtain ⟨g', o', e', hc⟩ := r.rdD.1 (by intro h0; rw [h0] at hul; simp at hul; omega)
 cases e'
 have cn := hc j _ (List.getElem?_eq_getElem (by omega))
 rw [Nat.zero_add] at cn
 exact ⟨g, c, _, rfl, cn, hb j (by omega) hj⟩
end
end
section
open Go.RowKit
set_option maxRecDepth 100000
end
end Go.Proofs.YtbanogfljpkbkaaGreatDoor
