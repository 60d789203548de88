/-
  Texts of this claim, one behind the other: XjB, XdG, MerI, MerJ, MerL.
-/
import Derived.Test.YtbanogfljpkbkaaGreatDoorM22
import Derived.Test.YtbanogfljpkbkaaGreatDoorM21
import Derived.Test.YtbanogfljpkbkaaGreatDoorM18
import Derived.Test.YtbanogfljpkbkaaGreatDoorM20
import Derived.Test.YtbanogfljpkbkaaGreatDoorM4
import Derived.Test.YtbanogfljpkbkaaGreatDoorM14
set_option linter.unusedSimpArgs false
set_option linter.unusedVariables false
set_option linter.unnecessarySimpa false
namespace Go.Proofs.YtbanogfljpkbkaaGreatDoor
section
open Go.RowKit
set_option maxRecDepth 100000
def XJr (w : World) (g p : Nat) (J : JrM) : Prop := Blk w g 177 #[.pointer (some ⟨p, 0, none⟩), .int .i64 J.first, .int .i64 J.count, .int .u64 (J.num : Int), .int .i64 J.used, .bool J.begun, .bool J.bad]
section
variable {w w' : World} {p g : Nat} {O : List Nat} {D : DkM} {J : JrM}
theorem XJr.keep (h : XJr w g p J) {F : List Nat} (f : Fr F w w') (hF : g ∉ F) : XJr w' g p J := Blk.keep h f hF
theorem XJr.keep_nil (h : XJr w g p J) (f : Fr [] w w') : XJr w' g p J := h.keep f (by simp)
def XOpC (w : World) (p : Nat) (D : DkM) (x y : Int) (m : Nat) (e : Ending) (w' : World) : Prop :=
 ∃ g, e = .returned (.tuple #[.pointer (some ⟨g, 0, none⟩), .slice none 0 0, .int .i64 0]) ∧ w.heap.size ≤ g ∧ XJr w' g p (openJ x y m 0) ∧ Fr [] w w'
set_option maxHeartbeats 400000 in
theorem xjOpen_none {N : Nat} (h : Xdk w p O D) (on : On D N) (x y : Int) (hr : jRight D x y = true) {m : Nat} (hm : rmV (D.readR x) = some m) (hz : ∀ b ∈ areaK D (openJ x y 0 0) (y.toNat - 1), b = zB512) :
  Calls Tryz.prog 72 #[.pointer (some ⟨p, 0, none⟩), .int .i64 x, .int .i64 y] w (XOpC w p D x y m) := by
 have cr := xjRight_yes h x y hr
 have hb2 := hr
 rw [jRight_on on] at hb2
 simp only [Bool.and_eq_true, decide_eq_true_eq] at hb2
 have hn4 : N ≤ 4096 := by obtain ⟨X, hX⟩ := h; have := hX.n1.2; rw [on.len] at this; exact this
 have hRE : ∀ z : Int, 0 ≤ z → z < N → D.readE z = 0 ∧ (D.readR z).length = 512 := fun z h0 h1 => by
  have his : D.is z = true := on.is.2 ⟨h0, h1⟩
  refine ⟨by rw [DkM.readE, his, on.off]; rfl, ?_⟩
  obtain ⟨X, hX⟩ := h
  rw [DkM.readR_has his on.off]
  obtain ⟨i, rfl⟩ : ∃ i : Nat, z = i := ⟨z.toNat, by omega⟩
  exact DkM.hasR_len hX.ss hX.su (by rw [on.len]; omega)
 have c0 := xdRead_any h x
 rw [(hRE x (by omega) (by omega)).1] at c0
 have hl0 := (hRE x (by omega) (by omega)).2
 have hm64 := rmV_lt hm
 have HM := Lib.hid (And.intro hm hz)
 have HH := Lib.hid h
 have HRE := Lib.hid hRE
 obtain ⟨Y, rfl⟩ : ∃ Y : Nat, y = Y := ⟨y.toNat, by omega⟩
 obtain ⟨l, hl⟩ : ∃ l, D.readR x = l := ⟨_, rfl⟩
 rw [hl] at hl0 c0
 have HL := Lib.hid hl
 have hY : 16 ≤ Y ∧ Y ≤ 256 := by omega
 have hx : 0 ≤ x ∧ x + Y ≤ 4096 ∧ x + Y ≤ N := by omega
 clear h hr hb2 hRE hm hz hl
 go_enter Tryz.func72, Tryz.ntmps72
 go_wp2_with (go_at_call 66; refine cr.mono ?_; rintro e w' ⟨rfl, rfl⟩)
 refine c0.mono ?_
 rintro e w1 ⟨v, rfl, r1, f1⟩
 obtain ⟨A, c, rfl, hnc, -, -, -, -⟩ := r1.shape
 obtain ⟨n1, hn1⟩ : ∃ n1, l.length = n1 := ⟨_, rfl⟩
 rw [hn1] at r1 hnc hl0 ⊢
 subst hl0
 have cm := xrcReadMark_any w1 A l 512 c hn1 r1.rdD.1 r1.rdD.2.2 hnc
 unfold RmC at cm
 rw [← HL.out, HM.out.1, show errG (some m).isSome 110 = 0 from rfl, show (some m).getD 0 = m from rfl] at cm
 have HF1 := Lib.hid f1
 clear r1 f1 c0
 go_wp2_with fail
 refine cm.mono ?_
 rintro e w2 ⟨rfl, f2⟩
 have HF2 := Lib.hid (HF1.out.trans_nil f2)
 have HMM := Lib.hid hm64
 clear f2 cm HF1 hn1 cr hn4 hm64
 go_wp2_with fail
 obtain ⟨ar, har⟩ : ∃ ar, areaK D (openJ x Y 0 0) = ar := ⟨_, rfl⟩
 have HAR := Lib.hid har
 have ar0 : ar 0 = [] := by rw [← har]; rfl
 clear har
 go_loopw [12, 13] (fun v i wr => ∃ k : Nat, 1 ≤ k ∧ k ≤ Y ∧ i = .int .i64 k ∧ Fr [] w2 wr ∧ ∃ vs, BRow wr w2.heap.size v vs (ar (k - 1))) (fun _ i _ => Y - (intOf i).toNat)
 case atStart => exact ⟨1, by omega, by omega, rfl, Fr.refl _ _, [], by rw [show ar (1 - 1) = [] from ar0]; exact BRow.nil _ _⟩
 case round =>
  obtain ⟨w3, hw3⟩ : ∃ w3, w3 = wr := ⟨_, rfl⟩
  subst hw3
  obtain ⟨k, hk1, hkY, rfl, fr, vs, R⟩ := hrel
  have rr := R.row
  have hal : (ar (k - 1)).length = k - 1 := by rw [← HAR.out]; exact areaK_len _ _ _
  rw [hal] at rr
  obtain ⟨Av, cv, rfl, hcv, -, -, -, -⟩ := rr.shape
  by_cases hlt : k < Y
  ·have d0 : (k : Int) < Y := by omega
   have cr := xdRead_any (HH.out.keep_nil (HF2.out.trans_nil fr)) (x + k)
   rw [(HRE.out (x + k) (by omega) (by omega)).1] at cr
   obtain ⟨b, hb⟩ : ∃ b, D.readR (x + k) = b := ⟨_, rfl⟩
   have hb5 : b.length = 512 := by rw [← hb]; exact (HRE.out (x + k) (by omega) (by omega)).2
   rw [hb] at cr
   have HB := Lib.hid (show ar k = ar (k - 1) ++ [b] from by
    obtain ⟨q, rfl⟩ : ∃ q, k = q + 1 := ⟨k - 1, by omega⟩
    rw [← HAR.out, areaK_succ, Nat.add_sub_cancel, ← hb]
    congr 3
    show x + 1 + ((q : Nat) : Int) = _
    omega)
   have e1 : IntKind.i64.wrap (x + (k : Int)) = x + k := IntWalk.i64_in _ (by omega)
   have HR := Lib.hid (And.intro R fr)
   have HAL := Lib.hid hal
   clear R fr hb hal
   obtain ⟨q, hq⟩ : ∃ q, k - 1 = q := ⟨_, rfl⟩
   rw [hq] at rr hcv ⊢
   go_wp2_with fail
   refine cr.mono ?_
   rintro e w4 ⟨vb, rfl, r4, f4⟩
   rw [hb5] at r4
   obtain ⟨Ab, cb, rfl, hcb, -, -, -, -⟩ := r4.shape
   have r9 := rr.keep_nil f4
   have h34 := f4.size
   have h23 := HR.out.2.size
   have H4 := Lib.hid (And.intro r4 f4)
   have HB5 := Lib.hid hb5
   clear cr rr r4 f4 hb5
   go_wp2_with (at_builtin; refine wpList_app rfl rfl slBB w2.heap.size _ q vs rfl (r9.alloc _) _ 1 1 [_] rfl rfl (Rd.one _ _ _) (by intro u hu; rw [List.mem_singleton.1 hu]; rfl) (fun h => by cases h) (by omega) (by simp; omega) ?_; intro v7 wx q1 q2 q3 q4)
   obtain ⟨R, fr⟩ := HR.out
   obtain ⟨r4, f4⟩ := H4.out
   have fa : Fr [] w4 (w4.alloc (.cells #[.slice Ab 512 cb] 27)) := (Fr.refl [] w4).alloc _
   replace q2 : Fr (Value.slice Av q cv).ownBlock.toList (w4.alloc (.cells #[.slice Ab 512 cb] 27)) wx := q2
   have hal := HAL.out
   rw [hq] at R hal
   have R9x := ((R.keep_nil f4).keep_nil fa).snoc (b := b) (by rw [HB5.out]; exact (r4.keep_nil fa).mono (by omega)) q2 (by rw [hal]; exact q1)
   refine ⟨⟨k + 1, by omega, by omega, by go_num, (fr.trans_nil (f4.trans_nil fa)).trans q2 (fun g hg => .inr (r9.lt g (mem_own.1 hg)).1), vs ++ [.slice Ab 512 cb], ?_⟩, by simp [intOf]; omega⟩
   rw [Nat.add_sub_cancel, HB.out, hq]
   exact R9x
  ·obtain rfl : k = Y := by omega
   have d0 : ¬ ((k : Int) < k) := by omega
   have hz := HM.out.2
   rw [show ((k : Nat) : Int).toNat - 1 = k - 1 by omega, HAR.out] at hz
   obtain ⟨bs, hbs⟩ : ∃ bs, ar (k - 1) = bs := ⟨_, rfl⟩
   rw [hbs] at R hz hal
   obtain ⟨q, hq⟩ : ∃ q, k - 1 = q := ⟨_, rfl⟩
   rw [hq] at rr hcv hal ⊢
   have kj := Blk.new w3 177 #[.pointer (some ⟨p, 0, none⟩), .int .i64 x, .int .i64 k, .int .u64 (m : Int), .int .i64 0, .bool false, .bool false]
   have fj : Fr [] w3 (w3.alloc (.cells #[.pointer (some ⟨p, 0, none⟩), .int .i64 x, .int .i64 k, .int .u64 (m : Int), .int .i64 0, .bool false, .bool false] 177)) := (Fr.refl _ _).alloc _
   obtain ⟨w4, hw4⟩ : ∃ z, w3.alloc (.cells #[.pointer (some ⟨p, 0, none⟩), .int .i64 x, .int .i64 k, .int .u64 (m : Int), .int .i64 0, .bool false, .bool false] 177) = z := ⟨_, rfl⟩
   have HW4 := Lib.hid hw4
   rw [hw4] at kj fj
   obtain ⟨g, hg⟩ : ∃ g, w3.heap.size = g := ⟨_, rfl⟩
   rw [hg] at kj
   have hm64 := HMM.out
   obtain ⟨wD, hwD⟩ : ∃ wD, w4.drew = wD := ⟨_, rfl⟩
   have fD : Fr [] w4 wD := by rw [← hwD]; exact (Fr.refl [] _).drew
   have f3D := fj.trans_nil fD
   have cp := xrcParse_zero wD (if cv = 0 then Av else Av.map (·.add 0)) m q cv vs bs hal (by have := (R.brd.keep_nil f3D).cut 0 cv (by rw [R.vlen, hal]; exact hcv); simpa using this) (by omega) hz
   obtain ⟨A', hA'⟩ : ∃ A', (if cv = 0 then Av else Av.map (·.add 0)) = A' := ⟨_, rfl⟩
   rw [hA'] at cp
   have HA' := Lib.hid hA'
   have hSD : wD.cell? ⟨g, 3, none⟩ = some (.int .u64 (m : Int)) ∧ wD.cell? ⟨g, 4, none⟩ = some (.int .i64 0) := ⟨fD.cell (by simp) (kj.cell 3), fD.cell (by simp) (kj.cell 4)⟩
   have HK := Lib.hid (And.intro kj (And.intro (fr.trans_nil f3D) fD))
   have HG := Lib.hid hg
   have HS := Lib.hid fr.size
   clear R fr hz hbs kj fj fD f3D hw4 hal rr hA' ar0
   go_wp2_with fail
   rw [HW4.out]
   clear HW4
   go_loopw [17] (fun v wr => v = .slice none 0 0 ∧ wr = w4) (fun _ _ => 0)
   case atStart => exact ⟨rfl, rfl⟩
   case round =>
    obtain ⟨rfl, rfl⟩ := hrel
    go_upto_region 19 with fail
    refine wp_region_held_drew (S := fun w' => w'.cell? ⟨g, 3, none⟩ = some (.int .u64 (m : Int)) ∧ w'.cell? ⟨g, 4, none⟩ = some (.int .i64 0)) (by kernel_rfl) (by rw [hwD]; exact hSD) (fun hHeld => ?_)
    rw [hwD] at hHeld ⊢
    clear hSD hwD
    refine tw 0 69 hHeld ?_
    refine tw 1 70 hHeld ?_
    refine tw 2 71 hHeld ?_
    refine tw 3 72 hHeld ?_
    refine tw 4 73 hHeld ?_
    refine tw 5 74 hHeld ?_
    refine tw 6 75 hHeld ?_
    refine tw 7 76 hHeld ?_
    refine tw 8 77 hHeld ?_
    refine tw 9 78 hHeld ?_ (v := .slice A' q cv) (hy := (fun w _ => (hy_sliceL (s := 1) Tryz.underlying42 (by kernel_rfl) rfl rfl 0 rfl (by omega)).trans (by rw [Nat.mul_one, HA'.out]; rfl)))
    refine tc 10 (fun K hK => ?_)
    go_simp
    refine cp.mono ?_
    rintro e w5 ⟨rfl, f5⟩
    have hHx : w5.cell? ⟨g, 3, none⟩ = some (.int .u64 (m : Int)) ∧ w5.cell? ⟨g, 4, none⟩ = some (.int .i64 0) := ⟨f5.cell (by simp) hHeld.1, f5.cell (by simp) hHeld.2⟩
    refine hK.out _ _ hHx (fun hHy => ?_)
    clear hK cp hHeld hHy
    have hHeld := hHx
    clear hHx
    try simp only [Act.put, p1, p2, p3]
    refine tw 11 68 hHeld ?_
    refine tw 12 80 hHeld ?_
    refine tw 13 81 hHeld ?_
    refine tw 14 82 hHeld ?_
    refine tw 15 18 hHeld ?_
    refine tw 16 19 hHeld ?_
    refine tw 17 20 hHeld ?_
    refine wpAnyH_done (by kernel_rfl) ?_ _
    have HF5 := Lib.hid f5
    clear hHeld f5
    go_wp2_with fail
    refine bodyPost_ret (results_tmp3 rfl _ _ _) rfl ?_
    exact ⟨g, rfl, by have := HF2.out.size; have := HG.out; have := HS.out; omega, HK.out.1.keep_nil (HK.out.2.2.trans_nil HF5.out), (HF2.out.trans_nil HK.out.2.1).trans_nil HF5.out⟩
def XcOC (w : World) (p : Nat) (x y : Int) (m : Nat) (e : Ending) (w' : World) : Prop :=
 ∃ c g, e = .returned (.tuple #[.pointer (some ⟨c, 0, none⟩), .int .i64 0]) ∧ Blk w' c 139 #[.pointer (some ⟨p, 0, none⟩), .pointer (some ⟨g, 0, none⟩), .slice none 0 0, .bool false] ∧ XJr w' g p (openJ x y m 0) ∧ w.heap.size ≤ c ∧ w.heap.size ≤ g ∧ Fr [] w w'
set_option maxHeartbeats 1000000 in
theorem xcOpen_none {N : Nat} (h : Xdk w p O D) (on : On D N) (x y : Int) (hr : jRight D x y = true) {m : Nat} (hm : rmV (D.readR x) = some m) (hz : ∀ b ∈ areaK D (openJ x y 0 0) (y.toNat - 1), b = zB512) :
  Calls Tryz.prog 36 #[.pointer (some ⟨p, 0, none⟩), .int .i64 x, .int .i64 y] w (XcOC w p x y m) := by
 have co := xjOpen_none h on x y hr hm hz
 clear h on hr hm hz
 go_enter Tryz.func36, Tryz.ntmps36
 go_wp2_with fail
 refine co.mono ?_
 rintro e w1 ⟨g, rfl, hg, hj, f1⟩
 have kc := Blk.new w1 139 #[.pointer (some ⟨p, 0, none⟩), .pointer (some ⟨g, 0, none⟩), .slice none 0 0, .bool false]
 have fc : Fr [] w1 (w1.alloc (.cells #[.pointer (some ⟨p, 0, none⟩), .pointer (some ⟨g, 0, none⟩), .slice none 0 0, .bool false] 139)) := (Fr.refl _ _).alloc _
 obtain ⟨w2, hw2⟩ : ∃ z, w1.alloc (.cells #[.pointer (some ⟨p, 0, none⟩), .pointer (some ⟨g, 0, none⟩), .slice none 0 0, .bool false] 139) = z := ⟨_, rfl⟩
 rw [hw2] at kc fc
 have HW := Lib.hid hw2
 have HF := Lib.hid (And.intro hj (And.intro f1 (And.intro fc hg)))
 have HK := Lib.hid kc
 clear co hj f1 fc hw2 kc hg
 go_wp2_with fail
 rw [HW.out]
 go_loopw [12] (fun i wr => i = .int .i64 0 ∧ wr = w2) (fun _ _ => 0)
 case atStart => exact ⟨rfl, rfl⟩
 case round =>
  obtain ⟨rfl, rfl⟩ := hrel
  go_wp2_with fail
  go_ret2
  obtain ⟨hj, f1, fc, hg⟩ := HF.out
  exact ⟨w1.heap.size, g, rfl, HK.out, hj.keep_nil fc, f1.size, hg, f1.trans_nil fc⟩
end
end
section
open Go.RowKit
set_option maxRecDepth 100000
section
variable {w w' : World} {p : Nat} {O : List Nat} {D D' : DkM} {X : XdX}
def XNewC (w : World) (x : Int) (e : Ending) (w' : World) : Prop :=
 if 1 ≤ x ∧ x ≤ 4096 then ∃ p O, e = .returned (.tuple #[.pointer (some ⟨p, 0, none⟩), .int .i64 0]) ∧ Xdk w' p O (newD x.toNat) ∧ (∀ i ∈ O, w.heap.size ≤ i) ∧ Fr [] w w'
 else e = .returned (.tuple #[.pointer none, .int .i64 1]) ∧ w = w'
theorem XNewC.yes {w w' : World} {x : Int} {e : Ending} (h : 1 ≤ x ∧ x ≤ 4096) (k : XNewC w x e w') : ∃ p O, e = .returned (.tuple #[.pointer (some ⟨p, 0, none⟩), .int .i64 0]) ∧ Xdk w' p O (newD x.toNat) ∧ (∀ i ∈ O, w.heap.size ≤ i) ∧ Fr [] w w' := by
 unfold XNewC at k; rwa [if_pos h] at k
theorem XNewC.no {w w' : World} {x : Int} {e : Ending} (h : ¬ (1 ≤ x ∧ x ≤ 4096)) (k : XNewC w x e w') : e = .returned (.tuple #[.pointer none, .int .i64 1]) ∧ w = w' := by
 unfold XNewC at k; rwa [if_neg h] at k
theorem XNewC.mkY {w w' : World} {n p : Nat} {O : List Nat} (h : 1 ≤ n ∧ n ≤ 4096) (k1 : Xdk w' p O (newD n)) (k2 : ∀ i ∈ O, w.heap.size ≤ i) (k3 : Fr [] w w') : XNewC w n (.returned (.tuple #[.pointer (some ⟨p, 0, none⟩), .int .i64 0])) w' := by
 unfold XNewC; rw [if_pos (by omega)]; exact ⟨p, O, rfl, by rw [Int.toNat_natCast]; exact k1, k2, k3⟩
theorem XNewC.mkN {w : World} {x : Int} (h : ¬ (1 ≤ x ∧ x ≤ 4096)) : XNewC w x (.returned (.tuple #[.pointer none, .int .i64 1])) w := by
 unfold XNewC; rw [if_neg h]; exact ⟨rfl, rfl⟩
theorem conv_z512 {W : World} {B : Nat} {A : Option Addr} {c : Nat} {S : ByteArray} (h : Row W B 5 1 (.slice A 512 c) 512 (List.replicate 512 (Value.int .u8 0))) (hS : strV zB512 = .string S) : (convert 27 9 (.slice A 512 c)).run Tryz.prog W = .ok (.string S) W := by
 rw [← hS]
 refine conv_str Tryz.underlying27 Tryz.underlying5 Tryz.underlying9 W A zB512 512 c zB512_len ?_ h.rdD.2.2
 rw [zB512_vs]
 exact h.rdD.1
theorem newD_sureR {n : Nat} {j : Nat} (hj : j < n) : (newD n).sureR j = zB512 := by
 rw [DkM.sureR_nat _ (by simpa [newD] using hj)]
 simp [newD, List.getD_eq_getElem?_getD, hj]
set_option maxHeartbeats 2000000 in
theorem xdNew_any (w : World) (x : Int) (hx : -9223372036854775808 ≤ x ∧ x ≤ 9223372036854775807) : Calls Tryz.prog 30 #[.int .i64 x] w (XNewC w x) := by
 by_cases h1 : 1 ≤ x
 ·by_cases h2 : x ≤ 4096
  ·obtain ⟨n, rfl⟩ : ∃ n : Nat, x = n := ⟨x.toNat, by omega⟩
   have b1 : 1 ≤ n := by omega
   have b2 : n ≤ 4096 := by omega
   have HB := Lib.hid (And.intro b1 b2)
   have d1 : decide ((n : Int) < 1) = false := by simp; omega
   have d2 : decide (4096 < (n : Int)) = false := by simp; omega
   obtain ⟨S, hS⟩ : ∃ S : ByteArray, (⟨zB512.toArray⟩ : ByteArray) = S := ⟨_, rfl⟩
   have HS := Lib.hid (show strV zB512 = .string S from congrArg Value.string hS)
   clear h1 h2 hS
   go_enter Tryz.func30, Tryz.ntmps30
   go_wp2_with (first | (refine wpList_mk1 rfl rfl slB rfl .i64 .i64 _ _ 512 rfl rfl rfl rfl (by omega) ?_; intro w1 k1 r1 f1 z1; have hcv := conv_z512 r1 HS.out; rw [show (w.alloc (.cells #[.slice none 0 0, .bool false, .int .i64 0] 121)).heap.size = w.heap.size + 1 by simp] at hcv))
   have kp := (Blk.new w 121 #[.slice none 0 0, .bool false, .int .i64 0]).keep_nil f1
   have F1 : Fr [] w w1 := ((Fr.refl [] w).alloc _).trans_nil f1
   obtain ⟨q, hq⟩ : ∃ q, w.heap.size = q := ⟨_, rfl⟩
   rw [hq] at kp
   have hqs : w.heap.size ≤ q := by omega
   have HQ := Lib.hid hq
   have KP := Lib.hid kp
   have FF := Lib.hid F1
   rw [hq]
   clear k1 r1 f1 z1 kp F1 hq hcv
   go_wp2_with fail
   go_loopw [6] (fun i wr => ∃ k : Nat, k ≤ n ∧ i = .int .i64 k ∧ ∃ v, Blk wr q 121 #[v, .bool false, .int .i64 0] ∧ Row wr (q + 1) 124 2 v k (pcells (List.replicate k (zB512, .slice none 0 0))) ∧ Fr [] w wr) (fun i _ => n - (intOf i).toNat)
   case atStart => exact ⟨0, by omega, rfl, _, KP.out, Row.nil _ _ _ _, FF.out⟩
   case round =>
    obtain ⟨k, hkn, rfl, v, kb, R, F⟩ := hrel
    by_cases hlt : k < n
    ·have d0 : (k : Int) < n := by omega
     have c0 : wr.cell? ⟨q, 0, none⟩ = some v := kb.cell 0
     obtain ⟨cs, hcs⟩ : ∃ cs, pcells (List.replicate k (zB512, .slice none 0 0)) = cs := ⟨_, rfl⟩
     rw [hcs] at R
     have HC := Lib.hid hcs
     obtain ⟨A3, c3, rfl, -, -, -, -, -⟩ := R.shape
     have Ra := R.alloc (.cells #[.string S, .slice none 0 0] 124)
     have hqr : q < wr.heap.size := kb.lt
     have KB := Lib.hid (kb.alloc (.cells #[.string S, .slice none 0 0] 124))
     have HE6 := Lib.hid (show pcells (List.replicate (k + 1) (zB512, .slice none 0 0)) = cs ++ [.string S, .slice none 0 0] from by
      rw [List.replicate_succ', pcells_app, HC.out, ← HS.out]; rfl)
     clear hcs kb
     go_wp2_with (at_builtin; refine wpList_app rfl rfl slXB (q + 1) _ k cs rfl Ra _ 1 1 [.string S, .slice none 0 0] rfl rfl (Rd.of_blk (Blk.new wr 124 #[.string S, .slice none 0 0]) 0 _ (fun j u hu => by rw [Nat.zero_add]; simpa using hu)) (by intro u hu; simp at hu; rcases hu with rfl | rfl <;> rfl) (by intro h; cases h) (by omega) (by simp; omega) ?_; intro v' w5 q1 q2 q3 q4; obtain ⟨A9, c9, rfl, -, -, -, -, -⟩ := q1.shape; have kb5 := KB.out.keep q2 (fun hm => Ra.ne_blk KB.out (by decide) (mem_own.1 hm)); have c5 : w5.cell? ⟨q, 0, none⟩ = some _ := kb5.cell 0; have z5 := kb5.frozen 0)
     refine ⟨⟨k + 1, by omega, by go_num, _, kb5.set_ 0 _, ?_, ((F.alloc _).trans q2 (fun i hi => .inr (by have := (Ra.lt i (mem_own.1 hi)).1; omega))).setCell (.inr hqs) _⟩, by simp [intOf]; omega⟩
     rw [HE6.out]
     exact q1.keep ((Fr.refl [q] _).setCell (.inl (by simp)) _) (fun g hg hm => by rw [List.mem_singleton.1 hm] at hg; have := (q1.lt _ hg).1; omega)
    ·obtain rfl : k = n := by omega
     have d0 : ¬ ((k : Int) < k) := by omega
     have KK := Lib.hid (And.intro kb (And.intro R F))
     clear kb R F
     go_wp2_with fail
     go_ret2
     obtain ⟨kb, R, F⟩ := KK.out
     obtain ⟨g, c, rfl⟩ := R.hdD (by omega)
     have hg := R.lt g rfl
     have hq2 := kb.lt
     refine XNewC.mkY (O := [q, g]) HB.out ⟨⟨g, c, 0, List.replicate k (zB512, .slice none 0 0)⟩, ?_⟩ (fun i hi => by simp at hi; omega) F
     have hl : (newD k).sure.length = k := by simp [newD]
     refine ⟨by simp, by simp, by rw [hl]; exact kb, fun h => absurd rfl h, by show (-9223372036854775808 : Int) ≤ 0 ∧ (0 : Int) ≤ 9223372036854775807; decide, by rw [hl]; exact HB.out, by rw [hl]; exact R.mono (Nat.zero_le _), fun i hi => ?_, fun x h => absurd rfl h, fun i hi => (by rw [hl] at hi; rw [newD_sureR hi]; exact zB512_len), fun x b hb => (by cases hb), ?_, fun i hi => by simp at hi; omega, by simp [newD]⟩
     ·have hi' : i < k := by simpa using hi
      rw [newD_sureR hi']
      show (List.replicate k (zB512, Value.slice none 0 0))[i].1 = _ ∧ _
      rw [List.getElem_replicate]
      exact ⟨rfl, Row.nil _ _ _ _, fun g hg => by cases hg⟩
     ·intro i hi cs fz hc
      simp only [List.mem_cons, List.not_mem_nil, or_false] at hi
      rcases hi with rfl | rfl
      ·unfold Blk at kb
       rw [kb] at hc
       injection hc with hc
       injection hc with _ hc
       exact absurd hc (by decide)
      ·exact R.noTy (e := 124) (d := 5) (by decide) _ (own_mem.2 rfl) cs fz hc
  ·have HNO := Lib.hid (show ¬ (1 ≤ x ∧ x ≤ 4096) from fun h => h2 h.2)
   have d1 : decide (x < 1) = false := by simp; omega
   have d2 : decide (4096 < x) = true := by simp; omega
   go_enter Tryz.func30, Tryz.ntmps30
   go_wp2_with fail
   go_ret2
   exact XNewC.mkN HNO.out
 ·have HNO := Lib.hid (show ¬ (1 ≤ x ∧ x ≤ 4096) from fun h => h1 h.1)
  have d1 : decide (x < 1) = true := by simp; omega
  go_enter Tryz.func30, Tryz.ntmps30
  go_wp2_with fail
  go_ret2
  exact XNewC.mkN HNO.out
end
end
section
open Go.RowKit
set_option maxRecDepth 100000
def TwX (B : World) (F0 : List Nat) (w : World) (p : Nat) (D : DkM) (px : Nat) (X : DkM) : Prop :=
 ∃ O OX, Dsk w p O D ∧ Xdk w px OX X ∧ (∀ i ∈ O, i ∉ OX) ∧ (∀ i ∈ O, i ∈ F0 ∨ B.heap.size ≤ i) ∧ (∀ i ∈ OX, i ∈ F0 ∨ B.heap.size ≤ i) ∧ Fr F0 B w
section
variable {B w w' : World} {F0 O : List Nat} {p px : Nat} {D D' X X' : DkM}
theorem Dsk.lts (h : Dsk w p O D) : ∀ i ∈ O, i < w.heap.size := by obtain ⟨X, hX⟩ := h; exact hX.lt
theorem Xdk.lts (h : Xdk w p O D) : ∀ i ∈ O, i < w.heap.size := by obtain ⟨X, hX⟩ := h; exact hX.lt
theorem Xdk.no8s (h : Xdk w p O D) : NoTy w O 5 := by obtain ⟨X, hX⟩ := h; exact hX.no8
theorem TwX.fr (h : TwX B F0 w p D px X) : Fr F0 B w := by obtain ⟨_, _, -, -, -, -, -, f⟩ := h; exact f
theorem TwX.keep (h : TwX B F0 w p D px X) (f : Fr [] w w') : TwX B F0 w' p D px X := by
 obtain ⟨O, OX, h1, h2, h3, h4, h5, h6⟩ := h
 exact ⟨O, OX, h1.keep_nil f, h2.keep_nil f, h3, h4, h5, h6.trans_nil f⟩
theorem TwX.of (h1 : Dsk w p O D) (h2 : Xdk w px F0 X) (h3 : ∀ i ∈ O, i ∉ F0) : TwX w (O ++ F0) w p D px X :=
 ⟨O, F0, h1, h2, h3, fun i hi => .inl (List.mem_append_left _ hi), fun i hi => .inl (List.mem_append_right _ hi), Fr.refl _ _⟩
theorem TwX.re (h : TwX B F0 w p D px X) : ∃ F1, TwX w F1 w p D px X ∧ ∀ i ∈ F1, i < w.heap.size ∧ (i ∈ F0 ∨ B.heap.size ≤ i) := by
 obtain ⟨O, OX, h1, h2, h3, h4, h5, h6⟩ := h
 refine ⟨O ++ OX, TwX.of h1 h2 h3, fun i hi => ?_⟩
 rcases List.mem_append.1 hi with hi | hi
 ·exact ⟨h1.lts i hi, h4 i hi⟩
 ·exact ⟨h2.lts i hi, h5 i hi⟩
theorem TwX.move {B' : World} (h : TwX B F0 B p D px X) (f : Fr [] B B') : TwX B' F0 B' p D px X := by
 obtain ⟨O, OX, h1, h2, h3, h4, h5, h6⟩ := h
 refine ⟨O, OX, h1.keep_nil f, h2.keep_nil f, h3, fun i hi => .inl ?_, fun i hi => .inl ?_, Fr.refl _ _⟩
 ·rcases h4 i hi with h | h
  ·exact h
  ·have := h1.lts i hi; omega
 ·rcases h5 i hi with h | h
  ·exact h
  ·have := h2.lts i hi; omega
theorem TwX.opD {f : Nat} {args : Array Value} {r : Ending} (h : TwX B F0 w p D px X) (hc : ∀ O, Dsk w p O D → Calls Tryz.prog f args w fun e w' => e = r ∧ AftD w p O D' w') :
  Calls Tryz.prog f args w fun e w' => e = r ∧ TwX B F0 w' p D' px X := by
 obtain ⟨O, OX, h1, h2, h3, h4, h5, h6⟩ := h
 refine (hc O h1).mono ?_
 rintro e w' ⟨he, O', k1, k2, k3⟩
 have hs := h6.size
 exact ⟨he, O', OX, k1, h2.keep k3 (fun i hi hm => h3 i hm hi), fun i hi hx => by
  rcases k2 i hi with h | h
  ·exact h3 i h hx
  ·have := h2.lts i hx; omega, fun i hi => by
  rcases k2 i hi with h | h
  ·exact h4 i h
  ·exact .inr (by omega), h5, h6.trans k3 h4⟩
theorem TwX.opX {f : Nat} {args : Array Value} {r : Ending} (h : TwX B F0 w p D px X) (hc : ∀ O, Xdk w px O X → Calls Tryz.prog f args w fun e w' => e = r ∧ AftX w px O X' w') :
  Calls Tryz.prog f args w fun e w' => e = r ∧ TwX B F0 w' p D px X' := by
 obtain ⟨O, OX, h1, h2, h3, h4, h5, h6⟩ := h
 refine (hc OX h2).mono ?_
 rintro e w' ⟨he, O', k1, k2, k3⟩
 have hs := h6.size
 exact ⟨he, O, O', h1.keep k3 (fun i hi hm => h3 i hi hm) h2.no8s, k1, fun i hi hx => by
  rcases k2 i hx with h | h
  ·exact h3 i hi h
  ·have := h1.lts i hi; omega, h4, fun i hi => by
  rcases k2 i hi with h | h
  ·exact h5 i h
  ·exact .inr (by omega), h6.trans k3 h5⟩
theorem BRow.keepB {F : List Nat} {B : Nat} {v : Value} {vs : List Value} {bs : List (List UInt8)} (h : BRow w B v vs bs) (f : Fr F w w') (hF : ∀ i ∈ F, i < B) : BRow w' B v vs bs :=
 ⟨h.row.keep f (fun g hg hm => by have := (h.row.lt g hg).1; have := hF g hm; omega), fun i a b => (h.each i a b).keep f (fun g hg hm => by have := ((h.each i a b).lt g hg).1; have := hF g hm; omega)⟩
theorem BBRow.keepB {F : List Nat} {B : Nat} {v : Value} {us : List Value} {ls : List (List (List UInt8))} (h : BBRow w B v us ls) (f : Fr F w w') (hF : ∀ i ∈ F, i < B) : BBRow w' B v us ls :=
 ⟨h.row.keep f (fun g hg hm => by have := (h.row.lt g hg).1; have := hF g hm; omega), fun i a b => (h.each i a b).imp fun _ k => k.keepB f hF⟩
end
def bothC (d x s r : Nat) (L R : List Value) : List Value := .pointer (some ⟨d, 0, none⟩) :: .pointer (some ⟨x, 0, none⟩) :: .pointer (some ⟨s, 0, none⟩) :: .pointer (some ⟨r, 0, none⟩) :: (L ++ R)
theorem list32 {l : List Value} (h : l.length = 32) : ∃ a0 a1 a2 a3 a4 a5 a6 a7 a8 a9 a10 a11 a12 a13 a14 a15 a16 a17 a18 a19 a20 a21 a22 a23 a24 a25 a26 a27 a28 a29 a30 a31, l = [a0, a1, a2, a3, a4, a5, a6, a7, a8, a9, a10, a11, a12, a13, a14, a15, a16, a17, a18, a19, a20, a21, a22, a23, a24, a25, a26, a27, a28, a29, a30, a31] := by
 match l, h with
 | [a0, a1, a2, a3, a4, a5, a6, a7, a8, a9, a10, a11, a12, a13, a14, a15, a16, a17, a18, a19, a20, a21, a22, a23, a24, a25, a26, a27, a28, a29, a30, a31], _ => exact ⟨_, _, _, _, _, _, _, _, _, _, _, _, _, _, _, _, _, _, _, _, _, _, _, _, _, _, _, _, _, _, _, _, rfl⟩
theorem list9 {l : List Value} (h : l.length = 9) : ∃ a0 a1 a2 a3 a4 a5 a6 a7 a8, l = [a0, a1, a2, a3, a4, a5, a6, a7, a8] := by
 match l, h with
 | [a0, a1, a2, a3, a4, a5, a6, a7, a8], _ => exact ⟨_, _, _, _, _, _, _, _, _, rfl⟩
set_option maxHeartbeats 1000000 in
theorem bothB (w : World) (d x s r : Nat) (L R : List Value) (hL : L.length = 9) (hR : R.length = 32) :
  (Instr.build 41 #[(0, .pointer (some ⟨d, 0, none⟩)), (1, .pointer (some ⟨x, 0, none⟩)), (2, .pointer (some ⟨s, 0, none⟩)), (3, .pointer (some ⟨r, 0, none⟩)), (4, .agg L.toArray), (5, .agg R.toArray)]).run Tryz.prog w = .ok (.agg (bothC d x s r L R).toArray) w := by
 obtain ⟨a0, a1, a2, a3, a4, a5, a6, a7, a8, rfl⟩ := list9 hL
 obtain ⟨b0, b1, b2, b3, b4, b5, b6, b7, b8, b9, b10, b11, b12, b13, b14, b15, b16, b17, b18, b19, b20, b21, b22, b23, b24, b25, b26, b27, b28, b29, b30, b31, rfl⟩ := list32 hR
 kernel_rfl
def LayB (w : World) (s : Nat) (e : Ending) (w' : World) : Prop :=
 ∃ A c, e = .returned (.tuple #[.agg ((lyB s).cells (.slice A (lyB s).lev.length c)).toArray, .int .i64 0]) ∧ LyW w' A c (lyB s) (tagsN s) ∧ Fr [] w w'
theorem xhLayoutB {s : Nat} (hs : 1 ≤ s ∧ s ≤ 1024) (w : World) : Calls Tryz.prog 18 #[.agg (hdM s).cells.toArray] w (LayB w s) := by
 have h64 : in64 (s : Int) := ⟨by omega, by omega⟩
 refine (xhLayout_any w (hdM s) (hdM_ok h64)).mono ?_
 rintro e w' ⟨v, rfl, r, f⟩
 rw [hdM_good hs, if_pos rfl, if_pos rfl] at r
 rw [hdM_good hs, if_pos rfl]
 have e1 : (hdM (s : Int)).sec.toNat = s := Int.toNat_natCast s
 rw [e1] at r ⊢
 replace r : Row w' w.heap.size 3 1 v (lyB s).lev.length (ivs (lyB s).lev) := r
 obtain ⟨A, c, rfl, -, -, -, -, -⟩ := r.shape
 have hS := sumL_B s hs
 exact ⟨A, c, rfl, ⟨r.rdD.1, rfl, tagsN_b hs, rfl, by show 45 ≤ 100000; omega, by show 45 + sumL (levsN (tagsN s)) ≤ 100000; omega⟩, f⟩
end
section
open Go.RowKit
set_option maxRecDepth 100000
theorem alloc_size1 (w : World) (o : Obj) : (w.alloc o).heap.size = w.heap.size + 1 := by simp
structure BgP where
 b : Nat
 S : SgP
 px : Nat
 gx : Nat
 cx : Nat
 rs : Nat
 A : Option Addr
 c : Nat
def BgP.cells (P : BgP) (L : LyM) (root : List UInt8) : List Value := bothC P.S.ca.p P.px P.S.g P.rs (L.cells (.slice P.A L.lev.length P.c)) (bvs root)
structure BgW (W B w : World) (P : BgP) (s : Nat) (O OX : List Nat) : Prop where
 blk : Blk w P.b 41 (P.cells (lyB s) (bldR (fresh (tagsN s)))).toArray
 ly : LyW B P.A P.c (lyB s) (tagsN s)
 sg : SgW w P.S O (mB s) 0
 xd : Xdk w P.px OX (dB2 s)
 xj : XJr w P.gx P.px (openJ 5 40 1 0)
 xc : Blk w P.cx 139 #[.pointer (some ⟨P.px, 0, none⟩), .pointer (some ⟨P.gx, 0, none⟩), .slice none 0 0, .bool false]
 xs : Blk w P.rs 89 #[.pointer (some ⟨P.cx, 0, none⟩), .slice none 0 0]
 new : (∀ i ∈ P.S.own O, B.heap.size ≤ i) ∧ B.heap.size ≤ P.S.ca.s ∧ B.heap.size ≤ P.S.g ∧ B.heap.size ≤ P.S.q ∧ B.heap.size ≤ P.b ∧ (∀ i ∈ OX, B.heap.size ≤ i) ∧ B.heap.size ≤ P.gx ∧ B.heap.size ≤ P.cx ∧ B.heap.size ≤ P.rs
 ap : (∀ i ∈ P.S.own O, i ∉ OX ∧ i ≠ P.gx ∧ i ≠ P.cx ∧ i ≠ P.rs ∧ i ≠ P.b) ∧ P.S.ca.s ∉ OX ∧ P.S.g ∉ OX ∧ P.S.q ∉ OX ∧ P.gx ∉ OX ∧ P.cx ∉ OX ∧ P.rs ∉ OX ∧ P.b ∉ OX
 frW : Fr [] W B
 fr : Fr [] B w
def secB (z : Int) : Nat := (z.tmod 1024).natAbs + 1
theorem secB_b (z : Int) : 1 ≤ secB z ∧ secB z ≤ 1024 := by
 have := Int.tmod_lt_of_pos z (show (0 : Int) < 1024 by decide)
 have := Int.lt_tmod_of_pos z (show (0 : Int) < 1024 by decide)
 unfold secB
 omega
def BgC (w : World) (s : Nat) (e : Ending) (w' : World) : Prop := ∃ P O OX B, e = .returned (.pointer (some ⟨P.b, 0, none⟩)) ∧ BgW w B w' P s O OX
theorem flatL_at {ls : List (List (List UInt8))} {k i : Nat} (hk : k < ls.length) (hi : i < (ls[k]).length) : ls.flatten.getD ((ls.take k).flatten.length + i) [] = (ls[k])[i] ∧ (ls.take k).flatten.length + i < ls.flatten.length ∧ (ls.take (k + 1)).flatten.length = (ls.take k).flatten.length + ls[k].length := by
 have e1 : ls = ls.take k ++ (ls[k] :: ls.drop (k + 1)) := by rw [List.getElem_cons_drop, List.take_append_drop]
 have e2 : ls.flatten = (ls.take k).flatten ++ (ls[k] ++ (ls.drop (k + 1)).flatten) := by
  conv => lhs; rw [e1]
  rw [List.flatten_append, List.flatten_cons]
 refine ⟨?_, ?_, ?_⟩
 ·rw [List.getD_eq_getElem?_getD, e2, List.getElem?_append_right (by omega), Nat.add_sub_cancel_left, List.getElem?_append_left hi, List.getElem?_eq_getElem hi]
  rfl
 ·rw [e2, List.length_append, List.length_append]; omega
 ·rw [List.take_succ_eq_append_getElem hk, List.flatten_append, List.length_append]; simp
set_option maxHeartbeats 4000000 in
theorem begin17_any (w : World) (z : Int) (hz : in64 z) (hK : KG w) : Calls Tryz.prog 8 #[.int .i64 z] w (BgC w (secB z)) := by
 have hs := secB_b z
 have BF := begF (secB z) hs
 have HB := Lib.hid BF
 obtain ⟨s, hsx⟩ : ∃ s, secB z = s := ⟨_, rfl⟩
 rw [hsx] at hs BF HB ⊢
 obtain ⟨r, hr⟩ : ∃ r, z.tmod 1024 = r := ⟨_, rfl⟩
 have t1 := Int.tmod_lt_of_pos z (show (0 : Int) < 1024 by decide)
 have t2 := Int.lt_tmod_of_pos z (show (0 : Int) < 1024 by decide)
 have hS : (r.natAbs : Int) + 1 = (s : Int) := by rw [← hsx, secB, hr]; omega
 rw [hr] at t1 t2
 have ch := fun w => head17_any w (s : Int)
 have cl := fun w => xhLayoutB hs w
 have HK := Lib.hid hK
 obtain ⟨N, hN⟩ : ∃ N, (lyB s).blocks = N := ⟨_, rfl⟩
 have hNb := BF.n
 rw [hN] at hNb
 have HN := Lib.hid hN
 clear BF hsx hK
 go_enter Tryz.func8, Tryz.ntmps8
 have E2 : (s : Int) - 1 + 1 = s := by omega
 go_upto_if 23 with fail
 go_cut [3] from 24 to 25 (fun v wx => v = .int .i64 ((s : Int) - 1) ∧ wx = w)
 case first =>
  have E4 : IntKind.i64.wrap (-r) = -r := IntWalk.i64_in _ (by omega)
  by_cases hneg : r < 0
  ·go_wp2_with fail
   go_meet
   exact ⟨by rw [show (s : Int) - 1 = -r by omega], rfl⟩
  ·go_wp2_with fail
   go_meet
   exact ⟨by rw [show (s : Int) - 1 = r by omega], rfl⟩
 case rest =>
  obtain ⟨rfl, hwc⟩ := hcut
  subst hwc
  have E3 : IntKind.i64.wrap ((s : Int) - 1 + 1) = s := by rw [IntWalk.i64_in _ (by omega)]; omega
  clear hS t1 t2 hr hz
  go_wp2_with fail
  refine (ch wc).mono ?_
  rintro e w1 ⟨rfl, f1⟩
  have HF1 := Lib.hid f1
  clear f1 ch
  go_wp2_with fail
  refine (cl w1).mono ?_
  rintro e w2 ⟨A, c, rfl, hly, f2⟩
  have HF2 := Lib.hid (HF1.out.trans_nil f2)
  have HLY := Lib.hid hly
  clear f2 cl HF1 hly
  obtain ⟨Cs, hCs⟩ : ∃ Cs, (lyB s).cells (.slice A (lyB s).lev.length c) = Cs := ⟨_, rfl⟩
  have HCs := Lib.hid hCs
  have HCL := Lib.hid (show Cs.length = 9 by rw [← hCs]; rfl)
  have HC1 := Lib.hid (show ∀ u ∈ Cs, u.oneCell' = true by rw [← hCs]; exact layC_ones)
  have HC8 := Lib.hid (show Cs.toArray[8]? = some (.int .i64 (N : Int)) ∧ Cs.toArray[3]? = some (.int .i64 5) ∧ Cs.toArray[4]? = some (.int .i64 45) by rw [← hCs, ← HN.out]; exact ⟨rfl, rfl, rfl⟩)
  rw [hCs]
  clear hCs
  go_upto_region 5 with
   (first
    | (refine wpList_alS stLay (o := ⟨some 4, _, _, _, _, _⟩) rfl rfl ?_; intro w3 h3 f3 z3; have Z3 := Lib.hid z3; clear z3; obtain ⟨gl, hgl⟩ : ∃ g, w2.heap.size = g := ⟨_, rfl⟩; rw [hgl] at h3; rw [hgl]; have HGL := Lib.hid hgl; clear hgl)
    | (refine wpList_stB stLay rfl rfl gl rfl Cs rfl HCL.out HC1.out zeroL (by rfl) h3 ?_; intro w4 h4 f4 z4; have Z4 := Lib.hid z4; clear z4))
  have f24 : Fr [] w2 w4 := f3.trans f4 (fun i hi => .inr (by have := HGL.out; simp at hi; omega))
  have F4 := HF2.out.trans_nil f24
  have HF24 := Lib.hid f24
  have b4 := h4
  clear f3 f4 h3 f24
  have l8 : w4.cell? ⟨gl, 8, none⟩ = some (.int .i64 (N : Int)) := (b4.cell 8).trans HC8.out.1
  have l3 : w4.cell? ⟨gl, 3, none⟩ = some (.int .i64 5) := (b4.cell 3).trans HC8.out.2.1
  have cn := dkNew_any w4 (N : Int) (by omega)
  have HF4 := Lib.hid F4
  have HB4 := Lib.hid b4
  clear F4 b4 h4
  go_wp2_with fail
  refine cn.mono ?_
  intro e w5 hn
  obtain ⟨p, O, rfl, hd, hO, f5⟩ := NewC.yes (by omega) hn
  rw [Int.toNat_natCast] at hd
  clear cn hn l8
  have l8 : w5.cell? ⟨gl, 8, none⟩ = some (.int .i64 (N : Int)) := ((HB4.out.keep_nil f5).cell 8).trans HC8.out.1
  replace l3 : w5.cell? ⟨gl, 3, none⟩ = some (.int .i64 5) := ((HB4.out.keep_nil f5).cell 3).trans HC8.out.2.1
  have cx := xdNew_any w5 (N : Int) (by omega)
  have HD := Lib.hid (And.intro hd (And.intro hO f5))
  clear hd hO f5
  go_wp2_with fail
  refine cx.mono ?_
  intro e w6 hn
  obtain ⟨px, OX, rfl, hx, hOX, f6⟩ := XNewC.yes (by omega) hn
  rw [Int.toNat_natCast] at hx
  clear cx hn l8
  obtain ⟨hd, hO, f5⟩ := HD.out
  have f56 := f5.trans_nil f6
  have hs5 := f5.size
  have hd5 := hd.lts
  have TW : TwX w4 [] w6 p (newD N) px (newD N) := ⟨O, OX, hd.keep_nil f6, hx, fun i hi hj => by have := hd5 i hi; have := hOX i hj; omega, fun i hi => .inr (hO i hi), fun i hi => .inr (by have := hOX i hi; omega), f56⟩
  replace l3 : w6.cell? ⟨gl, 3, none⟩ = some (.int .i64 5) := ((HB4.out.keep_nil f56).cell 3).trans HC8.out.2.1
  clear HD hd hO f5 f6 f56 hs5 hd5 hx hOX
  have BF := HB.out
  have hr0 := BF.r0
  have he0 := BF.e0
  have hon1 := BF.on1
  rw [HN.out] at hr0 he0 hon1
  have hi : initE (newD N) 5 40 = mkE (newD N) 5 1 := by rw [initE, hr0]; rfl
  have hd1 : (mkE (newD N) 5 1).2 = dB1 s := by rw [← HN.out]; rfl
  have ci := TW.opD (r := .returned (.int .i64 0)) (D' := dB1 s) (fun O h => (jnInit_any h 5 40 (wfZ_of (by decide)) (HK.out.keep (HF4.out.trans_nil TW.fr)) (fun x => by show 0 + 2 ≤ _; omega)).mono fun e w' ⟨h1, h2⟩ => by rw [hi] at h1 h2; rw [he0] at h1; rw [hd1] at h2; exact ⟨h1, h2⟩)
  have HI := Lib.hid (And.intro hr0 hd1)
  have HTW := Lib.hid TW
  clear BF hr0 he0 hi hd1 TW
  go_wp2_with fail
  refine ci.mono ?_
  rintro e w7 ⟨rfl, TW⟩
  replace l3 : w7.cell? ⟨gl, 3, none⟩ = some (.int .i64 5) := ((HB4.out.keep_nil TW.fr).cell 3).trans HC8.out.2.1
  have ci2 := TW.opX (r := .returned (.int .i64 0)) (X' := dB1 s) (fun O h => (xjInit_yes h (On.new N) 5 40 HI.out.1 (by show 0 ≤ _; omega)).mono fun e w' ⟨h1, h2⟩ => by rw [HI.out.2] at h2; exact ⟨h1, h2⟩)
  clear ci TW
  go_wp2_with fail
  refine ci2.mono ?_
  rintro e w8 ⟨rfl, TW⟩
  replace l3 : w8.cell? ⟨gl, 3, none⟩ = some (.int .i64 5) := ((HB4.out.keep_nil TW.fr).cell 3).trans HC8.out.2.1
  clear ci2 HTW
  have b8 := HB4.out.keep_nil TW.fr
  have cfr := xmFresh_any (HLY.out.keep_nil (HF24.out.trans_nil TW.fr))
  rw [HCs.out] at cfr
  obtain ⟨F1, TW1, hF1⟩ := TW.re
  have HTW := Lib.hid (And.intro TW1 (And.intro (fun i hi => (hF1 i hi).1) (And.intro (show ∀ i ∈ F1, w4.heap.size ≤ i from fun i hi => (hF1 i hi).2.elim (fun h => by cases h) id) TW.fr)))
  clear TW TW1 hF1 l3
  go_wp2_with
   (first
    | (refine wpList_ldS stLay rfl rfl gl 0 rfl Cs HCL.out b8.range0 ?_))
  refine cfr.mono ?_
  rintro e w9 ⟨v, us, rfl, RB, f9⟩
  have hRL : (bldR (fresh (tagsN s))).length = 32 := shaSum_length _
  obtain ⟨R, hR⟩ : ∃ R, bldR (fresh (tagsN s)) = R := ⟨_, rfl⟩
  obtain ⟨ls, hls⟩ : ∃ ls, bldN (fresh (tagsN s)) = ls := ⟨_, rfl⟩
  have HLS := Lib.hid (show nodesB s = ls.flatten by rw [nodesB, hls])
  have hls2 : ls.length ≤ 2 := by rw [← hls, bldN_len, fresh_len, levsN_len]; split <;> omega
  rw [hls] at RB
  rw [hR] at hRL ⊢
  have HR := Lib.hid (And.intro hR hRL)
  clear cfr hR hRL hls b8
  obtain ⟨L, hL⟩ : ∃ L, ls.length = L := ⟨_, rfl⟩
  have rr := RB.row
  rw [hL] at rr hls2
  obtain ⟨A6, c6, rfl, -, -, -, -, -⟩ := rr.shape
  have HLL := Lib.hid hL
  have HRB := Lib.hid (And.intro RB f9)
  have HS9 := Lib.hid f9.size
  clear RB rr hL f9
  go_upto_region 10 with
   (first
    | (refine wpList_alS stA32 (o := ⟨some 11, _, _, _, _, _⟩) rfl rfl ?_; intro w10 h10 f10 z10; have Z10 := Lib.hid z10; clear z10; obtain ⟨gr, hgr⟩ : ∃ g, w9.heap.size = g := ⟨_, rfl⟩; rw [hgr] at h10; rw [hgr]; have HGR := Lib.hid hgr; clear hgr)
    | (refine wpList_stB stA32 rfl rfl gr rfl (bvs R) rfl (by rw [bvs_length, HR.out.2]) (bvs_one _) (bvs (zB 32)) rfl h10 ?_; intro w11 h11 f11 z11; have Z11 := Lib.hid z11; clear z11))
  have f911 : Fr [] w9 w11 := f10.trans f11 (fun i hi => .inr (by have := HGR.out; simp at hi; omega))
  have f811 := HRB.out.2.trans_nil f911
  have TW := HTW.out.1.move f811
  have RB := HRB.out.1.keep_nil f911
  have HF1 := Lib.hid (And.intro HTW.out.2.1 (And.intro HTW.out.2.2.1 (HTW.out.2.2.2.trans_nil f811)))
  have bl : Blk w11 gl 38 Cs.toArray := HB4.out.keep_nil HF1.out.2.2
  have l4 : w11.cell? ⟨gl, 4, none⟩ = some (.int .i64 45) := (bl.cell 4).trans HC8.out.2.2
  have HBL := Lib.hid (And.intro bl h11)
  clear f10 f11 f911 f811 HTW HRB h10 h11 bl
  have BF := HB.out
  have HTAM := Lib.hid (show ∀ q, q ≤ ls.flatten.length → On (tamK (dB1 s) 45 ls.flatten q) N from fun q hq => (tamK_on (by rw [← HN.out]; exact BF.on1) (by rw [← HN.out, ← HLS.out]; exact BF.ln) (by rw [← HLS.out]; exact BF.l5) q hq).1)
  have hln : 45 + ls.flatten.length ≤ N := by rw [← HN.out, ← HLS.out]; exact BF.ln
  have HL5 := Lib.hid (show ∀ b ∈ ls.flatten, b.length = 512 by rw [← HLS.out]; exact BF.l5)
  clear BF
  go_wp2_with fail
  have HTW0 := Lib.hid TW
  have HRB := Lib.hid RB
  clear TW RB l4
  go_loopw [12, 13] (fun t12 t13 wr => ∃ k a q : Nat, k ≤ L ∧ q = (ls.take k).flatten.length ∧ a = 45 + q ∧ t13 = .int .i64 k ∧ t12 = .int .i64 a ∧ TwX w11 F1 wr p (tamK (dB1 s) 45 ls.flatten q) px (tamK (dB1 s) 45 ls.flatten q)) (fun _ t _ => L - (intOf t).toNat)
  case atStart => exact ⟨0, 45, 0, Nat.zero_le _, rfl, rfl, rfl, rfl, HTW0.out⟩
  case round =>
   clear HTW0
   obtain ⟨wo, hwo⟩ : ∃ wo, wo = wr := ⟨_, rfl⟩
   subst hwo
   obtain ⟨k, a, q, hk, hq, ha, rfl, rfl, TW⟩ := hrel
   by_cases hlt : k < L
   ·have hkl : k < ls.length := by rw [HLL.out]; exact hlt
    have RB := HRB.out.keepB TW.fr HF1.out.1
    have hul : k < us.length := by have := RB.len; omega
    obtain ⟨vs, RV⟩ := RB.each k hul hkl
    obtain ⟨g6, c6', e6⟩ := RB.row.hdD (by omega)
    obtain ⟨rfl, e6b⟩ : A6 = some ⟨g6, 0, none⟩ ∧ True := by cases e6; exact ⟨rfl, trivial⟩
    obtain ⟨M, hM⟩ : ∃ M, ls[k].length = M := ⟨_, rfl⟩
    have rv := RV.row
    rw [hM] at rv
    obtain ⟨Ak, ck, hu, -, -, -, -, -⟩ := rv.shape
    rw [hu] at rv RV
    have HC6 := Lib.hid (fun (wx : World) (f : Fr F1 w11 wx) => show wx.cell? ⟨g6, k, none⟩ = some (.slice Ak M ck) from by
     obtain ⟨g', o', e', hc⟩ := (HRB.out.keepB f HF1.out.1).row.rdD.1 (by intro h0; rw [h0] at hul; simp at hul)
     cases e'
     have := hc k _ (List.getElem?_eq_getElem hul)
     rw [Nat.zero_add, hu] at this
     exact this)
    have HCV := Lib.hid (fun (wx : World) (f : Fr F1 w11 wx) (i : Nat) (hi : i < M) => show ∃ gk Ab cb, Ak = some ⟨gk, 0, none⟩ ∧ wx.cell? ⟨gk, i, none⟩ = some (.slice Ab 512 cb) ∧ Rd wx Ab (bvs (ls[k][i]?.getD [])) ∧ Ab ≠ none from by
     obtain ⟨vs, RV⟩ := (HRB.out.keepB f HF1.out.1).each k hul hkl
     rw [hu] at RV
     have rv := RV.row
     obtain ⟨gk, ck', e⟩ := rv.hdD (by omega)
     have hvl := RV.vlen
     have hib : i < vs.length := by omega
     have h5 : (ls[k][i]'(by omega)).length = 512 := HL5.out _ (List.mem_flatten.2 ⟨ls[k], List.getElem_mem _, List.getElem_mem _⟩)
     have hr := RV.each i hib (by omega)
     rw [h5] at hr
     obtain ⟨gb, cb, eb⟩ := hr.hdD (by omega)
     refine ⟨gk, some ⟨gb, 0, none⟩, cb, by cases e; rfl, ?_, ?_, by simp⟩
     ·obtain ⟨g', o', e', hc⟩ := rv.rdD.1 (by intro h0; rw [h0] at hib; simp at hib)
      cases e
      cases e'
      have := hc i _ (List.getElem?_eq_getElem hib)
      rw [Nat.zero_add, eb] at this
      exact this
     ·rw [List.getElem?_eq_getElem (by omega), Option.getD_some]
      rw [eb] at hr
      exact hr.rdD.1)
    have HQ := Lib.hid (show ∀ i, i < M → ls.flatten.getD (q + i) [] = (ls[k])[i]?.getD [] ∧ q + i < ls.flatten.length from fun i hi => by
     have := flatL_at hkl (i := i) (by omega)
     rw [← hq] at this
     refine ⟨?_, this.2.1⟩
     rw [this.1, List.getElem?_eq_getElem (by omega)]; rfl)
    have HQ1 := Lib.hid (show (ls.take (k + 1)).flatten.length = q + M from by
     rw [List.take_succ_eq_append_getElem hkl, List.flatten_append, List.length_append, hq]; simp [hM])
    have hqM : q + M ≤ ls.flatten.length := by
     rcases Nat.eq_zero_or_pos M with h0 | h0
     ·have e1 : ls.flatten = (ls.take k).flatten ++ (ls.drop k).flatten := by rw [← List.flatten_append, List.take_append_drop]
      have := congrArg List.length e1
      rw [List.length_append] at this
      omega
     ·have := (HQ.out (M - 1) (by omega)).2; omega
    have HM := Lib.hid hM
    have HTW1 := Lib.hid TW
    have HA := Lib.hid ha
    clear ha
    clear RB RV rv e6 e6b hM hu hq TW
    go_wp2_with fail
    go_loopw [12, 14] (fun t12 t14 wr => ∃ i b : Nat, i ≤ M ∧ b = a + i ∧ t14 = .int .i64 i ∧ t12 = .int .i64 b ∧ TwX w11 F1 wr p (tamK (dB1 s) 45 ls.flatten (q + i)) px (tamK (dB1 s) 45 ls.flatten (q + i))) (fun _ t _ => M - (intOf t).toNat)
    case atStart => exact ⟨0, a, Nat.zero_le _, rfl, rfl, rfl, HTW1.out⟩
    case round =>
     clear HTW1
     obtain ⟨w12, hw12⟩ : ∃ wo, wo = wr := ⟨_, rfl⟩
     subst hw12
     obtain ⟨i, b, hi, hb, rfl, rfl, TW⟩ := hrel
     have c6 := HC6.out w12 TW.fr
     by_cases hiM : i < M
     ·obtain ⟨hnl, hqi⟩ := HQ.out i hiM
      obtain ⟨x, hx⟩ : ∃ x, (ls[k][i]?).getD [] = x := ⟨_, rfl⟩
      have hx5 : x.length = 512 := by
       rw [← hx, ← hnl]
       refine HL5.out _ ?_
       rw [List.getD_eq_getElem?_getD, List.getElem?_eq_getElem hqi]
       exact List.getElem_mem _
      obtain ⟨gk, Ab, cb, rfl, cc, rb, hAb⟩ := HCV.out w12 TW.fr i hiM
      rw [hx] at rb hnl
      have hbb : b = 45 + (q + i) := by have := HA.out; omega
      have hon := HTAM.out (q + i) (by omega)
      have hE : (tamK (dB1 s) 45 ls.flatten (q + i)).mayE (b : Int) 512 = 0 := (hon.tam (x := b) (b := x) (by omega) hx5).1
      have hD : (tamK (dB1 s) 45 ls.flatten (q + i)).tamper (b : Int) x = tamK (dB1 s) 45 ls.flatten (q + (i + 1)) := by
       show _ = (tamK (dB1 s) 45 ls.flatten (q + i)).tamper ((45 + (q + i) : Nat) : Int) (ls.flatten.getD (q + i) [])
       rw [hnl, hbb]
      have HE := Lib.hid (And.intro hE hD)
      have ct := TW.opD (r := .returned (.int .i64 0)) (D' := tamK (dB1 s) 45 ls.flatten (q + (i + 1))) (fun O h => (dkTamper_any h (b : Int) Ab 512 cb x hx5 rb (fun h => absurd h hAb)).mono fun e w' ⟨h1, h2⟩ => by rw [HE.out.1] at h1; rw [HE.out.2] at h2; exact ⟨h1, h2⟩)
      have HX := Lib.hid (And.intro hx hx5)
      have HBI := Lib.hid hb
      have hb9 : b ≤ 2000 := by omega
      clear TW rb hAb hnl hE hD hx hx5 hon hqi hbb hb
      go_wp2_with fail
      refine ct.mono ?_
      rintro e w13 ⟨rfl, TW⟩
      have c6 := HC6.out w13 TW.fr
      obtain ⟨gk2, Ab2, cb2, e2, cc2, rb2, hAb2⟩ := HCV.out w13 TW.fr i hiM
      cases e2
      rw [HX.out.1] at rb2
      have ct2 := TW.opX (r := .returned (.int .i64 0)) (X' := tamK (dB1 s) 45 ls.flatten (q + (i + 1))) (fun O h => (xdTamper_any h (b : Int) Ab2 512 cb2 x HX.out.2 rb2 (fun h => absurd h hAb2)).mono fun e w' ⟨h1, h2⟩ => by rw [HE.out.1] at h1; rw [HE.out.2] at h2; exact ⟨h1, h2⟩)
      clear TW rb2 hAb2 ct
      go_wp2_with fail
      refine ct2.mono ?_
      rintro e w14 ⟨rfl, TW⟩
      have HTW := Lib.hid TW
      clear ct2 TW
      go_wp2_with fail
      exact ⟨⟨i + 1, b + 1, by omega, by have := HBI.out; omega, by go_num, by go_num, HTW.out⟩, by simp [intOf]; omega⟩
     ·obtain rfl : i = M := by omega
      have HTW := Lib.hid TW
      have HBI := Lib.hid hb
      clear TW hb
      go_wp2_with fail
      exact ⟨⟨k + 1, b, q + i, by omega, HQ1.out.symm, by have := HBI.out; have h2 := HA.out; rw [this, h2]; omega, by go_num, rfl, HTW.out⟩, by simp [intOf]; omega⟩
   ·obtain rfl : k = L := by omega
    have BF := HB.out
    have hqe : q = ls.flatten.length := by rw [hq, List.take_of_length_le (by rw [HLL.out]; exact Nat.le_refl _)]
    have hD2 : tamK (dB1 s) 45 ls.flatten q = dB2 s := by rw [dB2, HLS.out, hqe]
    rw [hD2] at TW
    have FW := (HF4.out.trans_nil HF1.out.2.2).trans TW.fr (fun i hi => .inr (by have := HF1.out.2.1 i hi; have := HF4.out.size; omega))
    have F4 : Fr [] w4 wo := HF1.out.2.2.trans TW.fr (fun i hi => .inr (HF1.out.2.1 i hi))
    have kl := HB4.out.keep_nil F4
    have kr := HBL.out.2.keep TW.fr (fun hm => by have := HF1.out.1 _ hm; have := HGR.out; have := HS9.out; omega)
    skip
    have hs4 := HF4.out.size
    obtain ⟨O, OX, hd, hx, hap, hO, hOX, -⟩ := TW
    have HO := Lib.hid (And.intro hap (And.intro (show ∀ i ∈ O, w4.heap.size ≤ i ∧ i < wo.heap.size from fun i hi => ⟨by rcases hO i hi with h | h; · { have := HF1.out.2.1 i h; omega }; · { have := HF1.out.2.2.size; omega }, hd.lts i hi⟩) (show ∀ i ∈ OX, w4.heap.size ≤ i ∧ i < wo.heap.size from fun i hi => ⟨by rcases hOX i hi with h | h; · { have := HF1.out.2.1 i h; omega }; · { have := HF1.out.2.2.size; omega }, hx.lts i hi⟩)))
    have co := caOpen_yes hd 5 40 (wfZ_of (by decide)) (HK.out.keep FW) BF.r2 BF.on2.off BF.m2 (by rw [BF.sc]; exact Nat.zero_le _) (by rw [BF.sc]; intro r hr; cases hr) (by rw [BF.sc]; intro r hr; cases hr)
    rw [BF.sc] at co
    replace l3 : wo.cell? ⟨gl, 3, none⟩ = some (.int .i64 5) := (kl.cell 3).trans HC8.out.2.1
    have d0 : ¬ ((k : Int) < k) := by omega
    have HH := Lib.hid (And.intro FW (And.intro kl (And.intro kr (And.intro F4 hx))))
    have hsw := F4.size
    clear BF hq ha hqe hD2 F4 FW kl kr hap hO hOX hd hx hs4
    go_wp2_with fail
    refine co.mono ?_
    rintro e wA ⟨P, hP, rfl, hca, fA, pc, pg, ps, pb⟩
    have BF := HB.out
    have cxo := xcOpen_none (HH.out.2.2.2.2.keep_nil fA) BF.on2 5 40 BF.r2 BF.m2 BF.tr
    replace l3 : wA.cell? ⟨gl, 3, none⟩ = some (.int .i64 5) := ((HH.out.2.1.keep_nil fA).cell 3).trans HC8.out.2.1
    have HA := Lib.hid (And.intro hca (And.intro fA (And.intro hP (And.intro pc (And.intro pg (And.intro ps pb))))))
    clear BF co hca fA hP pc pg ps pb
    go_wp2_with fail
    refine cxo.mono ?_
    rintro e wB ⟨cx, gx, rfl, kc, hj, pcx, pgx, fB⟩
    have cm := meNew_any (HA.out.1.keep_nil fB)
    have HBB := Lib.hid (And.intro kc (And.intro hj (And.intro pcx (And.intro pgx fB))))
    clear cxo l3 kc hj pcx pgx fB
    go_wp2_with fail
    refine cm.mono ?_
    rintro e wC ⟨S, hS, rfl, hsg, fC, pq1, pq2, pq3⟩
    have fAC := HA.out.2.1.trans_nil (HBB.out.2.2.2.2.trans_nil fC)
    have kl := HH.out.2.1.keep_nil fAC
    have kr := HH.out.2.2.1.keep_nil fAC
    have HCC := Lib.hid (And.intro hsg (And.intro fC (And.intro hS (And.intro pq1 (And.intro pq2 (And.intro pq3 fAC))))))
    clear cm hsg fC hS pq1 pq2 pq3 fAC
    have kS := Blk.new wC 89 #[.pointer (some ⟨cx, 0, none⟩), .slice none 0 0]
    have fS : Fr [] wC (wC.alloc (.cells #[.pointer (some ⟨cx, 0, none⟩), .slice none 0 0] 89)) := (Fr.refl _ _).alloc _
    have zS : (wC.alloc (.cells #[.pointer (some ⟨cx, 0, none⟩), .slice none 0 0] 89)).heap.size = wC.heap.size + 1 := alloc_size1 _ _
    replace kl := kl.keep_nil fS
    replace kr := kr.keep_nil fS
    have HKS := Lib.hid (And.intro kS (And.intro fS zS))
    clear kS fS zS
    go_wp2_with
     (first
      | (refine wpList_ldS stLay rfl rfl gl 0 rfl Cs HCL.out kl.range0 ?_)
      | (refine wpList_ldS stA32 rfl rfl gr 0 rfl (bvs R) (by rw [bvs_length, HR.out.2]) kr.range0 ?_)
      | (refine wpList_bldK (o := ⟨some 139, _, _, _, _, _⟩) rfl rfl #[(0, .pointer (some ⟨p, 0, none⟩)), (1, .pointer (some ⟨px, 0, none⟩)), (2, .pointer (some ⟨S.g, 0, none⟩)), (3, .pointer (some ⟨wC.heap.size, 0, none⟩)), (4, .agg Cs.toArray), (5, .agg (bvs R).toArray)] (by kernel_rfl) (.agg (bothC p px S.g wC.heap.size Cs (bvs R)).toArray) (bothB _ _ _ _ _ _ _ HCL.out (by rw [bvs_length, HR.out.2])) ?_)
      | (refine wpList_boxS (o := ⟨some 140, _, _, _, _, _⟩) rfl rfl (bothC p px S.g wC.heap.size Cs (bvs R)) rfl ?_; intro wF hF fF zF))
    go_ret
    obtain ⟨hap, hO, hOX⟩ := HO.out
    obtain ⟨FW, -, -, F4, hx⟩ := HH.out
    obtain ⟨hca, fA, hP, pc, pg, ps, pb⟩ := HA.out
    obtain ⟨kc, hj, pcx, pgx, fB⟩ := HBB.out
    obtain ⟨hsg, fC, hS, pq1, pq2, pq3, fAC⟩ := HCC.out
    obtain ⟨kS, fS, zS⟩ := HKS.out
    have fSF := fS.trans_nil fF
    have fCF := fC.trans_nil fSF
    have lc := hca.lts
    have lcx := Blk.lt kc
    have lgx := Blk.lt hj
    have lS := hsg.lts
    have sB := fB.size
    have sC := fC.size
    have sA := fA.size
    obtain ⟨gb, hgb⟩ : ∃ g, (wC.alloc (.cells #[.pointer (some ⟨cx, 0, none⟩), .slice none 0 0] 89)).heap.size = g := ⟨_, rfl⟩
    rw [hgb] at hF zS
    refine ⟨⟨gb, S, px, gx, cx, wC.heap.size, A, c⟩, O, OX, w4, by rw [zS]; rfl, ?_⟩
    have hSP : S.ca.p = p := by rw [hS, hP]
    subst hS
    refine ⟨?_, HLY.out.keep_nil HF24.out, hsg.keep_nil fSF, hx.keep_nil (fAC.trans_nil fSF), hj.keep_nil fCF, kc.keep_nil fCF, kS.keep_nil fF, ⟨fun i hi => ?_, by show w4.heap.size ≤ S.ca.s; omega, by show w4.heap.size ≤ S.g; omega, by show w4.heap.size ≤ S.q; omega, by show w4.heap.size ≤ gb; omega, fun i hi => (hOX i hi).1, by show w4.heap.size ≤ gx; omega, by show w4.heap.size ≤ cx; omega, by show w4.heap.size ≤ wC.heap.size; omega⟩, ⟨fun i hi => ?_, ?_, ?_, ?_, ?_, ?_, ?_, ?_⟩, HF4.out, F4.trans_nil (fAC.trans_nil fSF)⟩
    ·show Blk wF gb 41 (bothC S.ca.p px S.g wC.heap.size ((lyB s).cells (.slice A (lyB s).lev.length c)) (bvs (bldR (fresh (tagsN s))))).toArray
     rw [hSP, HCs.out, HR.out.1]
     exact hF
    ·unfold SgP.own CaP.own at hi
     simp only [List.mem_cons] at hi
     rcases hi with h | h | h | h | h
     ·omega
     ·omega
     ·omega
     ·omega
     ·exact (hO i h).1
    ·show i ∉ OX ∧ i ≠ gx ∧ i ≠ cx ∧ i ≠ wC.heap.size ∧ i ≠ gb
     unfold SgP.own CaP.own at hi
     simp only [List.mem_cons] at hi
     have hox : wo.heap.size ≤ i → i ∉ OX := fun h hm => by have := (hOX i hm).2; omega
     rcases hi with h | h | h | h | h
     ·exact ⟨hox (by omega), by omega, by omega, by omega, by omega⟩
     ·exact ⟨hox (by omega), by omega, by omega, by omega, by omega⟩
     ·exact ⟨hox (by omega), by omega, by omega, by omega, by omega⟩
     ·exact ⟨hox (by omega), by omega, by omega, by omega, by omega⟩
     ·have := (hO i h).2
      exact ⟨hap i h, by omega, by omega, by omega, by omega⟩
    ·exact show S.ca.s ∉ OX from fun hm => by have := (hOX _ hm).2; omega
    ·exact show S.g ∉ OX from fun hm => by have := (hOX _ hm).2; omega
    ·exact show S.q ∉ OX from fun hm => by have := (hOX _ hm).2; omega
    ·exact show gx ∉ OX from fun hm => by have := (hOX _ hm).2; omega
    ·exact show cx ∉ OX from fun hm => by have := (hOX _ hm).2; omega
    ·exact show wC.heap.size ∉ OX from fun hm => by have := (hOX _ hm).2; omega
    ·exact show gb ∉ OX from fun hm => by have := (hOX _ hm).2; omega
end
section
open Go.RowKit
set_option maxRecDepth 100000
theorem convW {W : World} {g : Nat} {C : Array Value} {n c : Nat} (h : Blk W g 5 C) : ∃ W', (convert 27 27 (.slice (some ⟨g, 0, none⟩) n c)).run Tryz.prog W = .ok (.slice (some ⟨g, 0, none⟩) n c) W' ∧ W'.heap[g]? = some (.cells C 5 (C.size, C.size + 1)) ∧ Fr [g] W W' := by
 have hsh : W.shape? g = some (5, C.size) := by
  unfold World.shape?
  rw [show W.heap[g]? = some (.cells C 5) from h]
 have hl : g < W.heap.size := h.lt
 refine ⟨W.freeze ⟨g, C.size, none⟩ 1, ?_, ?_, ⟨rfl, rfl, rfl, ?_, fun k hk hn => ?_⟩⟩
 ·simp [convert, run_underlying Tryz.underlying27, run_underlying Tryz.underlying5, markStringish, hsh]
 ·unfold World.freeze
  rw [if_neg (by decide)]
  show (W.heap.modify g _)[g]? = _
  rw [Array.getElem?_modify, if_pos rfl, show W.heap[g]? = some (.cells C 5) from h]
  rfl
 ·unfold World.freeze
  rw [if_neg (by decide)]
  show W.heap.size ≤ (W.heap.modify g _).size
  rw [Array.size_modify]
  exact Nat.le_refl _
 ·unfold World.freeze
  rw [if_neg (by decide)]
  show (W.heap.modify g _)[k]? = _
  rw [Array.getElem?_modify, if_neg (fun e => hn (by rw [← e]; exact List.mem_singleton.2 rfl))]
theorem convW_rd {W : World} {g : Nat} {l : List UInt8} {t : TypeId} {fz : Nat × Nat} (h : W.heap[g]? = some (.cells (bvs l).toArray t fz)) : Rd W (some ⟨g, 0, none⟩) (bvs l) := fun _ =>
 ⟨g, 0, rfl, fun j u hu => by rw [cell_of_row _ _ _ _ _ _ h, Nat.zero_add]; simpa using hu⟩
structure LvS (B w : World) (P : BgP) (L : LyM) (n : Nat) (root : List UInt8) (O : List Nat) (M : StM) (k : Nat) : Prop where
 blk : Blk w P.b 41 (P.cells L root).toArray
 rl : root.length = 32
 ly : LyW B P.A P.c L n
 sg : SgW w P.S O M k
 new : ∀ i ∈ P.S.own O, B.heap.size ≤ i ∧ i ≠ P.b
 pb : B.heap.size ≤ P.b
 fr : Fr [] B w
section
variable {B w w' : World} {P : BgP} {L : LyM} {n : Nat} {root : List UInt8} {O : List Nat} {M M' : StM} {k k' : Nat}
theorem LvS.keep (h : LvS B w P L n root O M k) (f : Fr [] w w') : LvS B w' P L n root O M k := ⟨h.blk.keep_nil f, h.rl, h.ly, h.sg.keep_nil f, h.new, h.pb, h.fr.trans_nil f⟩
theorem LvS.lyW (h : LvS B w P L n root O M k) : LyW w P.A P.c L n := h.ly.keep_nil h.fr
theorem LvS.sm (h : LvS B w P L n root O M k) : B.heap.size ≤ P.S.m ∧ P.S.m ≠ P.b := h.new _ (List.mem_cons_self ..)
theorem LvS.chg (h : LvS B w P L n root O M k) (hs : SgW w' P.S O M' k') (f : Fr [P.S.m] w w') : LvS B w' P L n root O M' k' :=
 ⟨h.blk.keep f (fun hm => h.sm.2 (List.mem_singleton.1 hm).symm), h.rl, h.ly, hs, h.new, h.pb, h.fr.trans f (fun i hi => .inr (by rw [List.mem_singleton.1 hi]; exact h.sm.1))⟩
theorem LvS.aft (h : LvS B w P L n root O M k) (ha : AftS w P.S O M' k' w') : ∃ O', LvS B w' P L n root O' M' k' := by
 obtain ⟨O', h1, h2, h3⟩ := ha
 have hbl := h.blk.lt
 have hs := h.fr.size
 refine ⟨O', h.blk.keep h3 (fun hm => (h.new _ hm).2 rfl), h.rl, h.ly, h1, fun i hi => ?_, h.pb, h.fr.trans h3 (fun i hi => .inr (h.new i hi).1)⟩
 rcases SgP.own_sub (S := P.S) (O := O) h2 i hi with h4 | h4
 ·exact h.new i h4
 ·exact ⟨by omega, by omega⟩
theorem LvS.cells (h : LvS B w P L n root O M k) : w.cell? ⟨P.b, 2, none⟩ = some (.pointer (some ⟨P.S.g, 0, none⟩)) ∧ w.rangeAt P.b 4 (L.cells (.slice P.A L.lev.length P.c)) ∧ w.rangeAt P.b 13 (bvs root) := by
 have h0 : (L.cells (.slice P.A L.lev.length P.c)).length = 9 := rfl
 refine ⟨h.blk.cell 2, h.blk.range 4 _ (fun j u hu => ?_), h.blk.range 13 _ (fun j u hu => ?_)⟩
 ·have hj : j < (L.cells (.slice P.A L.lev.length P.c)).length := (List.getElem?_eq_some_iff.1 hu).1
  rw [List.getElem?_toArray, BgP.cells, bothC, show 4 + j = j + 1 + 1 + 1 + 1 by omega]
  simp only [List.getElem?_cons_succ]
  rw [List.getElem?_append_left hj]
  exact hu
 ·rw [List.getElem?_toArray, BgP.cells, bothC, show 13 + j = (9 + j) + 1 + 1 + 1 + 1 by omega]
  simp only [List.getElem?_cons_succ]
  rw [List.getElem?_append_right (by omega), h0, Nat.add_sub_cancel_left]
  exact hu
theorem LvS.put {C g : Nat} (h : LvS B w P L n root O M k) (hb : P.S.below O C) (hp : P.b < C) (hC : C ≤ g) (f : Fr [g] w w') (h8 : NoTy w [g] 5) : LvS B w' P L n root O M k :=
 ⟨h.blk.keep f (fun hm => by have := List.mem_singleton.1 hm; omega), h.rl, h.ly, h.sg.keepN hb f (fun i hi => by rw [List.mem_singleton.1 hi]; exact hC) h8, h.new, h.pb, h.fr.trans f (fun i hi => .inr (by rw [List.mem_singleton.1 hi]; have := h.pb; omega))⟩
theorem LvS.of {W : World} {s : Nat} {OX : List Nat} (h : BgW W B w P s O OX) : LvS B w P (lyB s) (tagsN s) (bldR (fresh (tagsN s))) O (mB s) 0 :=
 ⟨h.blk, shaSum_length _, h.ly, h.sg, fun i hi => ⟨h.new.1 i hi, (h.ap.1 i hi).2.2.2.2⟩, h.new.2.2.2.2.1, h.fr⟩
end
end
end Go.Proofs.YtbanogfljpkbkaaGreatDoor
