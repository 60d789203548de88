/-
  Texts of this claim, one behind the other: JnL, CacP, DkLay, KeyL, SrLay, SrK, SrZb, SrA, RngA.
-/
import Derived.Test.YtamifdfkgbaobaaGreatDoorM17
import Derived.Shelf.SlIterI.Nil
import Derived.Ground.GgzProg
import Derived.Shelf.SortM.Plain
import Derived.Shelf.SortM.SortNone
import Derived.Ground.SlgmProg
import Derived.Test.YtamifdfkgbaobaaGreatDoorProg
import Derived.RangeFuncNested
import Derived.RangeFuncBound
import Derived.RangeFuncCalls
import Derived.RangeFuncLeaves
import Derived.Shelf.Abstract
import Derived.Shelf.RegionOpen
import Derived.WalkKit
import Derived.OwnWalkIn
import Derived.TacticsInMore
import Derived.LoopNIn
import Derived.LoopIn
/-
  Layer 14: what lives() does to its disk and its journal, in plain words.
-/
set_option linter.unusedSimpArgs false
set_option linter.unusedVariables false
set_option linter.unnecessarySimpa false
namespace Go.Proofs.YtamifdfkgbaobaaGreatDoor
open Go.RowKit
set_option maxRecDepth 100000

theorem On.crash0 {D : DkM} {n : Nat} (h : On D n) : D.crashE [] = 0 ∧ On (D.crash []) n ∧ (∀ y, (D.crash []).readR y = D.sureR y) ∧ ∀ x, (D.crash []).uns x = [] := by
  have hc : crOk D [] = true := rfl
  rw [DkM.crashE, DkM.crash, hc]
  have hs : (D.crDone []).sure = D.sure := by
    show (List.range D.sure.length).map (D.cr [] fun _ => false) = _
    apply List.ext_getElem
    · simp
    · intro i h1 h2
      rw [List.getElem_map, List.getElem_range]
      show D.sure.getD i none = _
      rw [List.getD_eq_getElem?_getD, List.getElem?_eq_getElem h2]
      rfl
  have ho : On (D.crDone []) n := ⟨rfl, by rw [hs, h.len]⟩
  refine ⟨rfl, ho, fun y => ?_, fun x => rfl⟩
  show (D.crDone []).readR y = _
  have hi : (D.crDone []).is y = D.is y := by rw [DkM.is, DkM.is, hs]
  cases e : D.is y with
  | false =>
    rw [e] at hi
    have h1 : (D.crDone []).readR y = [] := by rw [DkM.readR, ho.off, hi]; rfl
    have h2 : D.sureR y = [] := by rw [DkM.sureR, e]; rfl
    rw [h1, h2]
  | true =>
    rw [e] at hi
    have h1 : (D.crDone []).readR y = (D.crDone []).sureR y := by rw [DkM.readR, ho.off, hi]; rfl
    rw [h1, DkM.sureR, DkM.sureR, hi, hs, e]
def rsX : List (Int × List UInt8) := [(20, bX)]
def rsY : List (Int × List UInt8) := [(21, bY)]
theorem rsX_ok {n : Nat} (h : n ≠ 0) : rcOk n rsX := ⟨h, by decide, by intro r hr; rw [List.mem_singleton.1 hr]; exact bX_len, by decide⟩
theorem rsY_ok {n : Nat} (h : n ≠ 0) : rcOk n rsY := ⟨h, by decide, by intro r hr; rw [List.mem_singleton.1 hr]; exact bY_len, by decide⟩
/-- The journal of lives() behind its reset. -/
def jL (m u : Nat) : JrM := ⟨2, 16, m, u, true, false⟩
/-- What lies behind an append of one redo. -/
theorem app_one {D : DkM} {m u : Nat} {rs : List (Int × List UInt8)} (h : On D 30) (hr : rcOk m rs) (hl : rs.length = 1) (hm : m + 1 < 18446744073709551616) (hj : jMay 30 (jL m u) rs = true) (hu : u ≤ 12) :
    ∃ E, appM D (jL m u) rs = (0, E, jL (m + 1) (u + 3)) ∧ On E 30 ∧ (∀ y, E.readR y = if 3 + (u : Int) ≤ y ∧ y < 3 + (u : Int) + (blkL m rs ++ [doneB m (blkL m rs).flatten]).length then (blkL m rs ++ [doneB m (blkL m rs).flatten]).getD (y - (3 + (u : Int))).toNat [] else D.readR y) ∧
      (∀ y, E.sureR y = if 3 + (u : Int) ≤ y ∧ y < 3 + (u : Int) + (blkL m rs).length then (blkL m rs).getD (y - (3 + (u : Int))).toNat [] else D.readR y) ∧ ∀ x, (E.uns x).length ≤ (D.uns x).length + 67 := by
  have hb5 := blk_512 hr
  have hd5 : (doneB m (blkL m rs).flatten).length = 512 := doneB_len _ _
  have hlen : (blkL m rs).length = 2 := by rw [blkL_len, hl]
  obtain ⟨k1, k2, k3, k4⟩ := runS_appS (blkL m rs) (doneB m (blkL m rs).flatten) D 30 (3 + (u : Int)) h (by omega) (by rw [hlen]; omega) hb5 hd5
  refine ⟨(runS D (appS (3 + (u : Int)) (blkL m rs) (doneB m (blkL m rs).flatten))).2, ?_, k2, k3, k4, fun x => ?_⟩
  · unfold appM
    have e1 : (jL m u).first + 1 + (jL m u).used = 3 + (u : Int) := rfl
    have e2 : (jL m u).num = m := rfl
    rw [if_neg (show ¬ (jL m u).bad = true by simp [jL]), e2, if_neg (by simp [hr]), h.len, if_neg (show ¬ jMay ((30 : Nat) : Int) (jL m u) rs = false by rw [show ((30 : Nat) : Int) = 30 from rfl, hj]; simp), e1]
    rw [if_neg (show ¬ (jL m u).most < rs.length by rw [hl]; show ¬ min ((16 : Int) - 3) 64 < ((1 : Nat) : Int); omega), if_neg (show ¬ (jL m u).room < rs.length by rw [hl]; simp [JrM.room, jL]; omega), k1, if_pos rfl, hl, Nat.mod_eq_of_lt hm]
    rfl
  · have := runS_uns (appS (3 + (u : Int)) (blkL m rs) (doneB m (blkL m rs).flatten)) D x
    have hl2 : (appS (3 + (u : Int)) (blkL m rs) (doneB m (blkL m rs).flatten)).length = 4 := by rw [appS, List.length_append, wrS_len, hlen]; rfl
    omega
theorem trV_cutoff {m : Nat} {rs : List (Int × List UInt8)} (h : rcOk m rs) (hm : m < 18446744073709551616) (x : List (List UInt8)) : trV m (blkL m rs ++ zB512 :: x) = none :=
  trV_no (blk_head h hm _) fun j => by
    have := j.2.2.2.1
    rw [rcP_len, getD_mid _ _ _ _ (blkL_len _ _)] at this
    have e := doneB_take m ((blkL m rs ++ zB512 :: x).take (rs.length + 1)).flatten
    rw [← this] at e
    revert e
    decide
/-- What lives() comes by. -/
theorem l14 : ∃ D2 D3 D4 D5 D6 D7, (initE (newD 30) 2 16 = (0, D2) ∧ (∀ x, (D2.uns x).length ≤ 2) ∧ jRight D2 2 16 = true ∧ D2.off = false ∧ rmV (D2.readR 2) = some 1 ∧ scanA D2 2 16 1 = ([], 0, 1)) ∧
    (appM D2 (openJ 2 16 1 0) rsX = (2, D2, openJ 2 16 1 0)) ∧ (resM D2 (openJ 2 16 1 0) = (0, D3, jL 17 0) ∧ (∀ x, (D3.uns x).length ≤ 4)) ∧ (appM D3 (jL 17 0) rsX = (0, D4, jL 18 3) ∧ (∀ x, (D4.uns x).length ≤ 71)) ∧
    (D4.flushE = 0 ∧ D4.flush = D5 ∧ (∀ x, (D5.uns x).length ≤ 71)) ∧ (appM D5 (jL 18 3) rsY = (0, D6, jL 19 6) ∧ (∀ x, (D6.uns x).length ≤ 138)) ∧
    (D6.crashE [] = 0 ∧ D6.crash [] = D7 ∧ jRight D7 2 16 = true ∧ D7.off = false ∧ rmV (D7.readR 2) = some 17 ∧ scanA D7 2 16 17 = (rsX, 3, 18)) := by
  have hr0 : jRight (newD 30) 2 16 = true := by rw [jRight, (On.new 30).len]; decide
  obtain ⟨k1, k2, k3, -⟩ := mkE_ok (On.new 30) (x := 2) (by omega) (by omega) (m := 1) (by decide)
  have u2 : ∀ x, ((mkE (newD 30) 2 1).2.uns x).length ≤ 2 := fun x => by have := mkE_uns (newD 30) 2 1 x; have e : ((newD 30).uns x).length = 0 := rfl; omega
  obtain ⟨D2, hD2⟩ : ∃ D, (mkE (newD 30) 2 1).2 = D := ⟨_, rfl⟩
  have i0 : initE (newD 30) 2 16 = (0, D2) := by rw [initE, if_pos hr0]; exact Prod.ext k1 hD2
  rw [hD2] at k2 k3 u2
  obtain ⟨l1, l2, l3, -⟩ := mkE_ok k2 (x := 2) (by omega) (by omega) (m := 17) (by decide)
  have u3 : ∀ x, ((mkE D2 2 17).2.uns x).length ≤ 4 := fun x => by have := mkE_uns D2 2 17 x; have := u2 x; omega
  obtain ⟨D3, hD3⟩ : ∃ D, (mkE D2 2 17).2 = D := ⟨_, rfl⟩
  rw [hD3] at l2 l3 u3
  obtain ⟨D4, a1, a2, a3, -, u4⟩ := app_one (m := 17) (u := 0) l2 (rsX_ok (by decide)) rfl (by omega) (by decide) (by omega)
  obtain ⟨f1, f2, f3⟩ := a2.flush
  have f4 : ∀ y, D4.flush1.readR y = D4.readR y := a2.flush_read
  have u5 : ∀ x, D4.flush1.uns x = [] := fun x => rfl
  obtain ⟨D5, hD5⟩ : ∃ D, D4.flush1 = D := ⟨_, rfl⟩
  rw [hD5] at f2 f3 f4 u5
  obtain ⟨D6, b1, b2, -, b4, u6⟩ := app_one (m := 18) (u := 3) f3 (rsY_ok (by decide)) rfl (by omega) (by decide) (by omega)
  obtain ⟨c1, c2, c3, -⟩ := b2.crash0
  obtain ⟨D7, hD7⟩ : ∃ D, D6.crash [] = D := ⟨_, rfl⟩
  rw [hD7] at c2 c3
  have r2 : ∀ D : DkM, On D 30 → jRight D 2 16 = true := fun D h => by rw [jRight, h.len]; decide
  have e7 : ∀ y, D7.readR y = if 6 ≤ y ∧ y < 6 + (2 : Int) then (blkL 18 rsY).getD (y - 6).toNat [] else D5.readR y := fun y => by rw [c3, b4]; rfl
  have z2 : areaK D3 (openJ 2 16 0 0) 15 = List.replicate 15 zB512 := by
    apply List.ext_getElem
    · rw [areaK_len, List.length_replicate]
    · intro i h1 h2
      rw [areaK_len] at h1
      rw [List.getElem_replicate]
      simp only [areaK, List.getElem_map, List.getElem_range]
      show D3.readR (2 + 1 + (i : Nat)) = _
      rw [l3, if_neg (by omega), k3, if_neg (by omega)]
      exact (On.new_read 30 (by omega) (by omega)).1
  have z0 : ∀ b ∈ areaK D2 (openJ 2 16 0 0) 15, b = zB512 := by
    intro b hb
    obtain ⟨i, hi, rfl⟩ := List.mem_map.1 hb
    have := List.mem_range.1 hi
    show D2.readR (2 + 1 + (i : Nat)) = _
    rw [k3, if_neg (by omega)]
    exact (On.new_read 30 (by omega) (by omega)).1
  have w4 := areaK_write (E := D4) (D := D3) (J := openJ 2 16 0 0) (k := 15) (u := 0) (L := blkL 17 rsX ++ [doneB 17 (blkL 17 rsX).flatten]) a3 (by rw [blk_len2]; decide)
  have w5 : areaK D5 (openJ 2 16 0 0) 15 = areaK D4 (openJ 2 16 0 0) 15 := areaK_congr rfl fun i hi => f4 _
  have w7 := areaK_write (E := D7) (D := D5) (J := openJ 2 16 0 0) (k := 15) (u := 3) (L := blkL 18 rsY) e7 (by rw [blkL_len]; decide)
  have hl1 : (blkL 17 rsX ++ [doneB 17 (blkL 17 rsX).flatten]).length = 3 := blk_len2 _ _ _
  have hl2 : (blkL 18 rsY).length = 2 := blkL_len _ _
  obtain ⟨bs, hbs⟩ : ∃ bs, blkL 17 rsX ++ [doneB 17 (blkL 17 rsX).flatten] = bs := ⟨_, rfl⟩
  rw [hbs] at hl1 w4
  rw [z2, List.take_zero, List.nil_append, hl1] at w4
  rw [w5, w4, hl2, List.take_left' hl1, show (3 : Nat) + 2 = 3 + 2 from rfl, ← List.drop_drop, List.drop_left' hl1, List.drop_replicate, List.drop_replicate] at w7
  refine ⟨D2, D3, D4, D5, D6, D7, ⟨i0, u2, r2 _ k2, k2.off, by rw [k3, if_pos rfl]; exact rmV_mark (by decide) (by decide), ?_⟩, ?_, ⟨?_, u3⟩, ⟨a1, fun x => by have := u4 x; have := u3 x; omega⟩, ⟨f1, f2, fun x => by rw [u5]; exact Nat.zero_le _⟩, ⟨b1, fun x => by have := u6 x; rw [u5] at this; simpa using Nat.le_trans this (by decide)⟩, c1, hD7, r2 _ c2, c2.off, ?_, ?_⟩
  · exact scanJ_no (trV_zero z0)
  · unfold appM
    rw [if_neg (show ¬ (openJ 2 16 1 0).bad = true by simp [openJ]), if_neg (show ¬ ¬ rcOk (openJ 2 16 1 0).num rsX by simp only [Classical.not_not]; exact rsX_ok (by decide)), k2.len, if_neg (show ¬ jMay ((30 : Nat) : Int) (openJ 2 16 1 0) rsX = false by decide), if_neg (show ¬ (openJ 2 16 1 0).most < rsX.length by decide), if_pos (show (openJ 2 16 1 0).room < rsX.length by decide)]
  · unfold resM
    rw [if_neg (show ¬ (openJ 2 16 1 0).bad = true by simp [openJ]), show (openJ 2 16 1 0).next = 17 from rfl, show (openJ 2 16 1 0).first = 2 from rfl, l1, hD3, if_pos rfl]
    rfl
  · rw [e7, if_neg (by omega), f4, a3, if_neg (by omega), l3, if_pos rfl]
    exact rmV_mark (by decide) (by decide)
  · have hA : areaK D7 (openJ 2 16 0 0) 15 = bsOf 17 [rsX] ++ (blkL 18 rsY ++ zB512 :: List.replicate 9 zB512) := by
      rw [w7, bsOf, bsOf, List.append_nil, hbs]
      rfl
    show scanJ D7.sure.length (openJ 2 16 0 0) 15 17 (areaK D7 (openJ 2 16 0 0) 15) = _
    rw [hA, c2.len, scanJ_tx (n := ((30 : Nat) : Int)) (J := openJ 2 16 0 0) (rest := blkL 18 rsY ++ zB512 :: List.replicate 9 zB512) [rsX] 17 15 ⟨rsX_ok (by decide), by decide, trivial⟩ (by decide) (by decide) (trV_cutoff (m := 18) (rsY_ok (by decide)) (by decide) _)]
    rw [bsOf, bsOf, List.append_nil, hbs, hl1]
    rfl
end Go.Proofs.YtamifdfkgbaobaaGreatDoor
/-
  Layer 15: a cache, in plain words.
-/
set_option linter.unusedSimpArgs false
set_option linter.unusedVariables false
set_option linter.unnecessarySimpa false
namespace Go.Proofs.YtamifdfkgbaobaaGreatDoor
open Go.RowKit
set_option maxRecDepth 100000

/-- A cache that is of use: its disk, its journal, its dirty blocks. -/
structure CaM where
  D : DkM
  J : JrM
  dirty : Int → Option (List UInt8)
def updD (d : Int → Option (List UInt8)) (r : Int × List UInt8) : Int → Option (List UInt8) := fun x => if x = r.1 then some r.2 else d x
def putD (d : Int → Option (List UInt8)) (rs : List (Int × List UInt8)) : Int → Option (List UInt8) := rs.foldl updD d
/-- The dirty blocks, by rising numbers. -/
def keysZ (d : Int → Option (List UInt8)) : List Int := ((List.range 4096).map fun i : Nat => (i : Int)).filter fun x => (d x).isSome
def wrD (d : Int → Option (List UInt8)) (zs : List Int) : List Stp := zs.map fun x => .wr x ((d x).getD [])
/-- A checkpoint. -/
def chkM (M : CaM) : CaM := ⟨(resM (runS M.D ([.fl] ++ wrD M.dirty (keysZ M.dirty) ++ [.fl])).2 M.J).2.1, (resM (runS M.D ([.fl] ++ wrD M.dirty (keysZ M.dirty) ++ [.fl])).2 M.J).2.2, fun _ => none⟩
def chkC (M : CaM) : CaM := if M.J.used = 0 ∧ M.J.begun = true then M else chkM M
def roomM (M : CaM) (n : Nat) : CaM := if (n : Int) ≤ M.J.room ∨ M.J.most < n then M else chkC M
def comE (M : CaM) (rs : List (Int × List UInt8)) : Int := (appM (roomM M rs.length).D (roomM M rs.length).J rs).1
def comM (M : CaM) (rs : List (Int × List UInt8)) : CaM := if comE M rs = 0 then ⟨(appM (roomM M rs.length).D (roomM M rs.length).J rs).2.1, (appM (roomM M rs.length).D (roomM M rs.length).J rs).2.2, putD (roomM M rs.length).dirty rs⟩ else roomM M rs.length
def cleanM (M : CaM) : CaM := { chkC M with D := (runS (chkC M).D (scS (chkC M).J)).2 }
/-- What a block reads as. -/
def rdM (M : CaM) (x : Int) : List UInt8 := match M.dirty x with
  | some l => l
  | none => M.D.readR x
/-- A cache in good order over N blocks. -/
structure CaG (N : Nat) (M : CaM) : Prop where
  on : On M.D N
  n4 : N ≤ 4096
  c : 16 ≤ M.J.count ∧ M.J.count ≤ 256
  f : 0 ≤ M.J.first ∧ M.J.first + M.J.count ≤ N
  u : 0 ≤ M.J.used ∧ M.J.used + 1 ≤ M.J.count
  bad : M.J.bad = false
  m0 : M.J.num ≠ 0
  m64 : M.J.num < 9223372036854775808
  d : ∀ x l, M.dirty x = some l → 0 ≤ x ∧ x < N ∧ (x < M.J.first ∨ M.J.first + M.J.count ≤ x) ∧ l.length = 512
  e : M.J.used = 0 → M.J.begun = true → ∀ x, M.dirty x = none
section
variable {N : Nat} {M : CaM} {rs : List (Int × List UInt8)}
theorem CaG.jok (G : CaG N M) : M.J.ok := by
  have := G.n4
  have h1 := G.c
  have h2 := G.f
  have h3 := G.u
  have h4 := G.m64
  exact ⟨h1, by omega, by omega, by omega⟩
theorem keysZ_mem {d : Int → Option (List UInt8)} {x : Int} : x ∈ keysZ d ↔ 0 ≤ x ∧ x < 4096 ∧ (d x).isSome = true := by
  unfold keysZ
  rw [List.mem_filter, List.mem_map]
  constructor
  · rintro ⟨⟨i, hi, rfl⟩, h⟩
    have := List.mem_range.1 hi
    exact ⟨by omega, by omega, h⟩
  · rintro ⟨h0, h1, h⟩
    exact ⟨⟨x.toNat, List.mem_range.2 (by omega), by omega⟩, h⟩
theorem keysZ_sorted (d : Int → Option (List UInt8)) : (keysZ d).Pairwise (fun x y => x < y) := by
  unfold keysZ
  apply List.Pairwise.filter
  rw [List.pairwise_map]
  exact (List.pairwise_lt_range (n := 4096)).imp (fun h => by omega)
theorem keysZ_nodup (d : Int → Option (List UInt8)) : (keysZ d).Nodup := (keysZ_sorted d).imp (fun h => by omega)
theorem keysZ_le (d : Int → Option (List UInt8)) : (keysZ d).length ≤ 4096 := by
  unfold keysZ
  refine Nat.le_trans (List.length_filter_le _ _) ?_
  rw [List.length_map, List.length_range]
  exact Nat.le_refl _
theorem keysZ_nil {d : Int → Option (List UInt8)} (h : ∀ x, d x = none) : keysZ d = [] := by
  unfold keysZ
  rw [List.filter_eq_nil_iff]
  intro x _
  rw [h x]; simp
/-- Writes home, one behind the other. -/
theorem runS_wrD {d : Int → Option (List UInt8)} : ∀ (zs : List Int) (D : DkM), On D N → zs.Nodup → (∀ x ∈ zs, 0 ≤ x ∧ x < N ∧ ((d x).getD []).length = 512) →
    (runS D (wrD d zs)).1 = 0 ∧ On (runS D (wrD d zs)).2 N ∧ (∀ y, (runS D (wrD d zs)).2.readR y = if y ∈ zs then (d y).getD [] else D.readR y)
  | [], D, h, _, _ => ⟨rfl, h, fun y => by rw [if_neg (by simp)]; rfl⟩
  | x :: r, D, h, hn, hz => by
    obtain ⟨h0, h1, h2⟩ := hz x List.mem_cons_self
    obtain ⟨e1, e2⟩ := h.write (b := (d x).getD []) h0 h1 h2
    obtain ⟨hx, hr⟩ := List.nodup_cons.1 hn
    obtain ⟨k1, k2, k3⟩ := runS_wrD r (D.wr x ((d x).getD [])) (h.wr x _) hr (fun y hy => hz y (List.mem_cons_of_mem _ hy))
    have hs : runS D (wrD d (x :: r)) = runS (D.wr x ((d x).getD [])) (wrD d r) := by
      show runS D (.wr x ((d x).getD []) :: wrD d r) = _
      rw [runS, Stp.E, Stp.D, e1, e2, if_pos rfl]
    rw [hs]
    refine ⟨k1, k2, fun y => ?_⟩
    rw [k3, h.wr_read h0 h1]
    by_cases hy : y ∈ r
    · rw [if_pos hy, if_pos (List.mem_cons_of_mem _ hy)]
    · rw [if_neg hy]
      by_cases e : y = x
      · subst e; rw [if_pos rfl, if_pos List.mem_cons_self]
      · rw [if_neg e, if_neg (by simp [e, hy])]
/-- What lies on the disk ahead of a checkpoint's reset. -/
theorem CaG.home (G : CaG N M) : (runS M.D ([.fl] ++ wrD M.dirty (keysZ M.dirty) ++ [.fl])).1 = 0 ∧ On (runS M.D ([.fl] ++ wrD M.dirty (keysZ M.dirty) ++ [.fl])).2 N ∧ (∀ y, (runS M.D ([.fl] ++ wrD M.dirty (keysZ M.dirty) ++ [.fl])).2.readR y = rdM M y) ∧ ∀ y, (runS M.D ([.fl] ++ wrD M.dirty (keysZ M.dirty) ++ [.fl])).2.uns y = [] := by
  obtain ⟨f1, f2, f3⟩ := G.on.flush
  obtain ⟨k1, k2, k3⟩ := runS_wrD (d := M.dirty) (keysZ M.dirty) M.D.flush1 f3 (keysZ_nodup _) (fun x hx => by
    obtain ⟨l, hl⟩ := Option.isSome_iff_exists.1 (keysZ_mem.1 hx).2.2
    obtain ⟨a, b, -, c⟩ := G.d x l hl
    exact ⟨a, b, by rw [hl]; exact c⟩)
  obtain ⟨g1, g2, g3⟩ := k2.flush
  have h1 : runS M.D ([.fl] ++ wrD M.dirty (keysZ M.dirty) ++ [.fl]) = (0, (runS M.D.flush1 (wrD M.dirty (keysZ M.dirty))).2.flush1) := by
    show runS M.D (.fl :: (wrD M.dirty (keysZ M.dirty) ++ [.fl])) = _
    rw [runS, Stp.E, f1, if_pos rfl, Stp.D, f2, runS_app _ _ _ k1, runS, Stp.E, g1, if_pos rfl, Stp.D, g2]
    rfl
  rw [h1]
  refine ⟨rfl, g3, fun y => ?_, fun y => rfl⟩
  show (runS M.D.flush1 (wrD M.dirty (keysZ M.dirty))).2.flush1.readR y = _
  rw [k2.flush_read, k3, G.on.flush_read, rdM]
  cases hd : M.dirty y with
  | none => rw [if_neg (fun h => by have := (keysZ_mem.1 h).2.2; rw [hd] at this; cases this)]
  | some l =>
    obtain ⟨a, b, -, c⟩ := G.d y l hd
    have := G.n4
    rw [if_pos (keysZ_mem.2 ⟨a, by omega, by rw [hd]; rfl⟩)]
    rfl
/-- A checkpoint of a cache in good order. -/
theorem CaG.chk (G : CaG N M) (hm : M.J.num + 600 < 9223372036854775808) : (resM (runS M.D ([.fl] ++ wrD M.dirty (keysZ M.dirty) ++ [.fl])).2 M.J).1 = 0 ∧ CaG N (chkM M) ∧ (chkM M).J = { M.J with num := M.J.next, used := 0, begun := true } ∧ (∀ x, (chkM M).D.readR x = if x = M.J.first then markB M.J.next else rdM M x) ∧ (∀ x, (chkM M).D.sureR x = (chkM M).D.readR x) ∧ (∀ x, (chkM M).D.uns x = []) ∧ (chkM M).J.num ≤ M.J.num + 256 := by
  obtain ⟨h1, h2, h3, h4⟩ := G.home
  have hc := G.c
  have hf := G.f
  have hnx : M.J.next ≠ 0 ∧ M.J.next ≤ M.J.num + 256 := by
    have h0 := G.m0
    have hmd : (M.J.num + M.J.count.toNat) % 18446744073709551616 = M.J.num + M.J.count.toNat := Nat.mod_eq_of_lt (by omega)
    by_cases hb : M.J.begun = true
    · rw [JrM.next, if_pos hb]; exact ⟨h0, by omega⟩
    · rw [JrM.next, if_neg hb, if_neg h0, hmd, if_neg (by omega)]
      omega
  obtain ⟨D3, hD3⟩ : ∃ D, (runS M.D ([.fl] ++ wrD M.dirty (keysZ M.dirty) ++ [.fl])).2 = D := ⟨_, rfl⟩
  have hM : chkM M = ⟨(resM D3 M.J).2.1, (resM D3 M.J).2.2, fun _ => none⟩ := by rw [chkM, hD3]
  rw [hD3] at h2 h3 h4 ⊢
  obtain ⟨k1, k2, k3, k4⟩ := mkE_ok h2 (x := M.J.first) (by omega) (by omega) hnx.1
  have hr : resM D3 M.J = (0, (mkE D3 M.J.first M.J.next).2, { M.J with num := M.J.next, used := 0, begun := true }) := by
    unfold resM
    rw [if_neg (by rw [G.bad]; simp), k1, if_pos rfl]
  have hmk : (mkE D3 M.J.first M.J.next).2.uns = fun _ => [] := by
    obtain ⟨e1, e2⟩ := h2.write (x := M.J.first) (b := markB M.J.next) (by omega) (by omega) (markB_len _)
    obtain ⟨f1, f2, f3⟩ := (h2.wr M.J.first (markB M.J.next)).flush
    rw [mkE, if_neg hnx.1, runS, Stp.E, e1, if_pos rfl, Stp.D, e2, runS, Stp.E, f1, if_pos rfl, Stp.D, f2]
    rfl
  rw [hM, hr]
  refine ⟨rfl, ⟨k2, G.n4, hc, hf, ⟨Int.le_refl _, by show (0 : Int) + 1 ≤ M.J.count; omega⟩, G.bad, hnx.1, by show M.J.next < 9223372036854775808; omega, fun x l h => (by cases h), fun _ _ x => rfl⟩, rfl, fun x => ?_, fun x => ?_, fun x => congrFun hmk x, hnx.2⟩
  · show (mkE D3 M.J.first M.J.next).2.readR x = _
    rw [k3, h3]
  · show (mkE D3 M.J.first M.J.next).2.sureR x = (mkE D3 M.J.first M.J.next).2.readR x
    rw [k4, k3]
theorem CaG.chkC (G : CaG N M) (hm : M.J.num + 600 < 9223372036854775808) : CaG N (chkC M) ∧ (chkC M).J.used = 0 ∧ (chkC M).J.begun = true ∧ (∀ x, (chkC M).dirty x = none) ∧ (chkC M).J.first = M.J.first ∧ (chkC M).J.count = M.J.count ∧ (∀ x, x ≠ M.J.first → rdM (chkC M) x = rdM M x) ∧ (chkC M).J.num ≤ M.J.num + 256 ∧ ∀ x, ((chkC M).D.uns x).length ≤ (M.D.uns x).length := by
  obtain ⟨-, c1, c2, c3, c4, c5, c6⟩ := G.chk hm
  unfold Go.Proofs.YtamifdfkgbaobaaGreatDoor.chkC
  split
  · rename_i h
    exact ⟨G, h.1, h.2, G.e h.1 h.2, rfl, rfl, fun x _ => rfl, by omega, fun x => Nat.le_refl _⟩
  · refine ⟨c1, by rw [c2], by rw [c2], fun x => rfl, by rw [c2], by rw [c2], fun x hx => ?_, c6, fun x => by rw [c5]; exact Nat.zero_le _⟩
    show (chkM M).D.readR x = _
    rw [c3, if_neg hx]
theorem CaG.room (G : CaG N M) (hm : M.J.num + 600 < 9223372036854775808) (n : Nat) : CaG N (roomM M n) ∧ (roomM M n).J.first = M.J.first ∧ (roomM M n).J.count = M.J.count ∧ (∀ x, x ≠ M.J.first → rdM (roomM M n) x = rdM M x) ∧ (roomM M n).J.num ≤ M.J.num + 256 ∧ ∀ x, ((roomM M n).D.uns x).length ≤ (M.D.uns x).length := by
  unfold roomM
  split
  · exact ⟨G, rfl, rfl, fun x _ => rfl, by omega, fun x => Nat.le_refl _⟩
  · obtain ⟨h1, h2, h3, h4, h5, h6, h7, h8, h9⟩ := G.chkC hm
    exact ⟨h1, h5, h6, h7, h8, h9⟩
theorem putD_some {d : Int → Option (List UInt8)} : ∀ (rs : List (Int × List UInt8)) (d : Int → Option (List UInt8)) {x : Int} {l : List UInt8}, putD d rs x = some l → d x = some l ∨ (x, l) ∈ rs
  | [], d, x, l, h => .inl h
  | r :: t, d, x, l, h => by
    rcases putD_some (d := d) t (updD d r) (x := x) (l := l) h with h | h
    · unfold updD at h
      split at h
      · rename_i e
        cases h
        subst e
        exact .inr List.mem_cons_self
      · exact .inl h
    · exact .inr (List.mem_cons_of_mem _ h)
/-- An append to a journal in good order. -/
theorem CaG.app (G : CaG N M) (hm : M.J.num + 600 < 9223372036854775808) : 0 ≤ (appM M.D M.J rs).1 ∧ (appM M.D M.J rs).1 ≤ 3 ∧ ((appM M.D M.J rs).1 ≠ 0 → (appM M.D M.J rs).2 = (M.D, M.J)) ∧
    ((appM M.D M.J rs).1 = 0 → (∀ r ∈ rs, r.2.length = 512) ∧ rs.length ≤ 64 ∧ CaG N ⟨(appM M.D M.J rs).2.1, (appM M.D M.J rs).2.2, putD M.dirty rs⟩ ∧ (appM M.D M.J rs).2.2.first = M.J.first ∧ (appM M.D M.J rs).2.2.count = M.J.count ∧ (appM M.D M.J rs).2.2.num ≤ M.J.num + 1 ∧
      (∀ y, y < M.J.first + 1 ∨ M.J.first + M.J.count ≤ y → (appM M.D M.J rs).2.1.readR y = M.D.readR y) ∧ ∀ r ∈ rs, 0 ≤ r.1 ∧ r.1 < N) := by
  have hlen := G.on.len
  have hc := G.c
  have hf := G.f
  have hu := G.u
  unfold appM
  rw [if_neg (by rw [G.bad]; simp)]
  by_cases h1 : rcOk M.J.num rs
  · rw [if_neg (by simp [h1])]
    by_cases h2 : jMay M.D.sure.length M.J rs = false
    · rw [if_pos h2]
      exact ⟨by simp, by simp, fun _ => rfl, fun h => by cases h⟩
    · rw [if_neg h2]
      by_cases h3 : M.J.most < rs.length
      · rw [if_pos h3]
        exact ⟨by simp, by simp, fun _ => rfl, fun h => by cases h⟩
      · rw [if_neg h3]
        by_cases h4 : M.J.room < rs.length
        · rw [if_pos h4]
          exact ⟨by simp, by simp, fun _ => rfl, fun h => by cases h⟩
        · rw [if_neg h4]
          have h1l : 1 ≤ rs.length := by
            have := h1.2.2.2
            simp only [rightF, Bool.and_eq_true, decide_eq_true_eq] at this
            rw [rcP_len] at this
            omega
          have hroom : (rs.length : Int) ≤ M.J.count - 3 - M.J.used := by
            have hr : M.J.room = if M.J.bad = true ∨ M.J.begun = false then 0 else max (min (M.J.count - 3 - M.J.used) 64) 0 := rfl
            split at hr <;> omega
          have hbl := blk_len2 M.J.num rs (doneB M.J.num (blkL M.J.num rs).flatten)
          obtain ⟨k1, k2, k3, -⟩ := runS_appS (blkL M.J.num rs) (doneB M.J.num (blkL M.J.num rs).flatten) M.D N (M.J.first + 1 + M.J.used) G.on (by omega) (by rw [blkL_len]; omega) (blk_512 h1) (doneB_len _ _)
          obtain ⟨R, hR⟩ : ∃ R, runS M.D (appS (M.J.first + 1 + M.J.used) (blkL M.J.num rs) (doneB M.J.num (blkL M.J.num rs).flatten)) = R := ⟨_, rfl⟩
          rw [hR] at k1 k2 k3 ⊢
          have hmay : ∀ r ∈ rs, 0 ≤ r.1 ∧ r.1 < N ∧ (r.1 < M.J.first ∨ M.J.first + M.J.count ≤ r.1) := by
            have : jMay M.D.sure.length M.J rs = true := by simpa using h2
            rw [jMay, List.all_eq_true] at this
            intro r hr
            have := this r hr
            rw [jMay1, hlen] at this
            simp only [Bool.and_eq_true, Bool.not_eq_true', Bool.and_eq_false_iff, decide_eq_true_eq, decide_eq_false_iff_not] at this
            omega
          dsimp only
          rw [if_pos k1]
          refine ⟨by rw [k1]; decide, by rw [k1]; decide, fun h => absurd k1 h, fun _ => ⟨h1.2.2.1, h1.2.1, ⟨k2, G.n4, hc, hf, ?_, G.bad, ?_, ?_, ?_, ?_⟩, rfl, rfl, ?_, fun y hy => ?_, fun r hr => ⟨(hmay r hr).1, (hmay r hr).2.1⟩⟩⟩
          · show 0 ≤ M.J.used + ((rs.length + 2 : Nat) : Int) ∧ M.J.used + ((rs.length + 2 : Nat) : Int) + 1 ≤ M.J.count
            omega
          · show (M.J.num + 1) % 18446744073709551616 ≠ 0
            omega
          · show (M.J.num + 1) % 18446744073709551616 < _
            omega
          · intro x l hx
            rcases putD_some (d := M.dirty) rs M.dirty hx with h | h
            · exact G.d x l h
            · have := hmay _ h
              exact ⟨this.1, this.2.1, this.2.2, h1.2.2.1 _ h⟩
          · intro h
            exact absurd h (by show ¬ M.J.used + ((rs.length + 2 : Nat) : Int) = 0; omega)
          · show (M.J.num + 1) % 18446744073709551616 ≤ _
            omega
          · rw [k3, if_neg (by rw [hbl]; omega)]
  · rw [if_pos h1]
    exact ⟨by simp, by simp, fun _ => rfl, fun h => by cases h⟩
theorem scS_len (J : JrM) : (scS J).length = J.count.toNat - 1 + 1 := by rw [scS, List.length_append, wrS_len, List.length_replicate]; rfl
/-- A clean cache. -/
theorem CaG.clean (G : CaG N M) (hm : M.J.num + 600 < 9223372036854775808) : (scrM (Go.Proofs.YtamifdfkgbaobaaGreatDoor.chkC M).D (Go.Proofs.YtamifdfkgbaobaaGreatDoor.chkC M).J).1 = 0 ∧ (scrM (Go.Proofs.YtamifdfkgbaobaaGreatDoor.chkC M).D (Go.Proofs.YtamifdfkgbaobaaGreatDoor.chkC M).J).2 = ((cleanM M).D, (cleanM M).J) ∧ CaG N (cleanM M) ∧ (cleanM M).J.used = 0 ∧ (∀ x, (cleanM M).dirty x = none) ∧ (cleanM M).J.first = M.J.first ∧ (cleanM M).J.count = M.J.count ∧ (cleanM M).J.num ≤ M.J.num + 256 ∧
    (∀ x, x < M.J.first ∨ M.J.first + M.J.count ≤ x → rdM (cleanM M) x = rdM M x) ∧ (∀ x, M.J.first < x → x < M.J.first + M.J.count → (cleanM M).D.readR x = zB512) ∧ (∀ x, (cleanM M).D.sureR x = (cleanM M).D.readR x) ∧ ∀ x, (cleanM M).D.uns x = [] := by
  obtain ⟨h1, h2, h3, h4, h5, h6, h7, h8, h9⟩ := G.chkC hm
  obtain ⟨C, hC⟩ : ∃ C, Go.Proofs.YtamifdfkgbaobaaGreatDoor.chkC M = C := ⟨_, rfl⟩
  have hcl : cleanM M = { C with D := (runS C.D (scS C.J)).2 } := by rw [cleanM, hC]
  rw [hC] at h1 h2 h3 h4 h5 h6 h7 h8 ⊢
  have hc := G.c
  have hf := G.f
  have hrl : ((List.replicate (C.J.count.toNat - 1) zB512).length : Int) = M.J.count - 1 := by rw [List.length_replicate, h6]; omega
  obtain ⟨k1, k2, k3, -⟩ := runS_wrS (List.replicate (C.J.count.toNat - 1) zB512) C.D N (C.J.first + 1) h1.on (by rw [h5]; omega) (by rw [hrl, h5]; omega) (fun b hb => by rw [List.eq_of_mem_replicate hb]; exact zB512_len)
  obtain ⟨f1, f2, f3⟩ := k2.flush
  have hr : runS C.D (scS C.J) = (0, (runS C.D (wrS (C.J.first + 1) (List.replicate (C.J.count.toNat - 1) zB512))).2.flush1) := by
    rw [scS, runS_app _ _ _ k1, runS, Stp.E, f1, if_pos rfl, Stp.D, f2]
    rfl
  have hs : scrM C.D C.J = (0, (runS C.D (scS C.J)).2, C.J) := by
    unfold scrM
    rw [if_neg (by rw [h1.bad]; simp), if_neg (by rw [h2, h3]; simp), hr]
    have := h1.bad
    simp only [ne_eq, not_true_eq_false, decide_false]
    rw [← this]
  have hrd : ∀ y, (runS C.D (scS C.J)).2.readR y = if M.J.first + 1 ≤ y ∧ y < M.J.first + M.J.count then zB512 else C.D.readR y := fun y => by
    rw [hr]
    show (runS C.D (wrS (C.J.first + 1) (List.replicate (C.J.count.toNat - 1) zB512))).2.flush1.readR y = _
    rw [k2.flush_read, k3, hrl, h5]
    by_cases hy : M.J.first + 1 ≤ y ∧ y < M.J.first + M.J.count
    · rw [if_pos hy, if_pos (by omega), List.getD_eq_getElem?_getD, List.getElem?_replicate, if_pos (by rw [h6]; omega)]
      rfl
    · rw [if_neg hy, if_neg (by omega)]
  rw [hcl, hs]
  refine ⟨rfl, rfl, ⟨by rw [hr]; exact f3, G.n4, h1.c, h1.f, h1.u, h1.bad, h1.m0, h1.m64, h1.d, h1.e⟩, h2, h4, h5, h6, h8, fun x hx => ?_, fun x a b => ?_, fun x => ?_, fun x => by rw [hr]; rfl⟩
  · rw [← h7 x (by omega)]
    show (match C.dirty x with | some l => l | none => (runS C.D (scS C.J)).2.readR x) = (match C.dirty x with | some l => l | none => C.D.readR x)
    rw [h4 x]
    show (runS C.D (scS C.J)).2.readR x = C.D.readR x
    rw [hrd, if_neg (by omega)]
  · show (runS C.D (scS C.J)).2.readR x = zB512
    rw [hrd, if_pos (by omega)]
  · show (runS C.D (scS C.J)).2.sureR x = (runS C.D (scS C.J)).2.readR x
    rw [hr]
    show (runS C.D (wrS (C.J.first + 1) (List.replicate (C.J.count.toNat - 1) zB512))).2.flush1.sureR x = (runS C.D (wrS (C.J.first + 1) (List.replicate (C.J.count.toNat - 1) zB512))).2.flush1.readR x
    rw [k2.flush_sure, k2.flush_read]
end
end Go.Proofs.YtamifdfkgbaobaaGreatDoor
/-
  DERIVED: THE SHELF's CONTRACTS AT THIS DUMP, IN PLAIN WORDS (tools/lay-plain.mjs out of 'YtamifdfkgbaobaaGreatDoorDkLay0.lean', which tools/lay-shelf.mjs wrote): THE SAME DECLARATIONS UNDER THE SAME NAMES: 'import', 'namespace', 'open', 'def', 'theorem' AND NOTHING ELSE: no command of the shelf's: FOR A HAND-IN. Each laying: the table of numbers ('.._ren') and one theorem, a field a fact of the dump's own or the kernel's comparison; each contract: ONE APPLICATION.
-/
namespace Go.Proofs
open Go.Shelf
def Tryz.sortedA_ren : Go.Shelf.Ren := ⟨fun | 6 => 63 | 8 => 86 | 9 => 87 | 11 => 107 | 13 => 109 | 12 => 108 | 23 => 125 | 24 => 126 | 14 => 116 | 15 => 117 | 16 => 118 | 17 => 119 | 18 => 120 | 19 => 121 | 20 => 122 | 21 => 123 | 22 => 124 | 25 => 131 | 26 => 132 | 27 => 133 | 28 => 134 | 29 => 135 | 30 => 136 | 31 => 139 | n => n, fun | 26 => 3 | 28 => 97 | 24 => 39 | 0 => 0 | 3 => 3 | 37 => 137 | 48 => 138 | 50 => 58 | 4 => 4 | 40 => 149 | 39 => 148 | 45 => 79 | 5 => 5 | 9 => 9 | 51 => 162 | 55 => 166 | 57 => 169 | 58 => 170 | 33 => 71 | n => n, fun | n => n⟩
theorem Tryz.sortedA : Go.Proofs.SlLaysZI.n6 Tryz.prog Tryz.sortedA_ren := {
  mixed := by kernel_rfl
  f6 := ⟨Tryz.f63.name, by decide, Tryz.func63.trans (congrArg some (by kernel_rfl))⟩
  f8 := ⟨Tryz.f86.name, by decide, Tryz.func86.trans (congrArg some (by kernel_rfl))⟩
  f11 := ⟨Tryz.f107.name, by decide, Tryz.func107.trans (congrArg some (by kernel_rfl))⟩
  t0 := Tryz.underlying0
  a0 := Tryz.isAgg0
  z0 := Tryz.sizeOf0
  v0 := Tryz.zeroValue0
  t24 := Tryz.underlying39
  a24 := Tryz.isAgg39
  z24 := Tryz.sizeOf39
  v24 := Tryz.zeroValue39
  t26 := Tryz.underlying3
  a26 := Tryz.isAgg3
  z26 := Tryz.sizeOf3
  v26 := Tryz.zeroValue3
  t28 := Tryz.underlying97
  a28 := Tryz.isAgg97
  z28 := Tryz.sizeOf97
  v28 := Tryz.zeroValue97
  i26 := by kernel_rfl }
def Tryz.sortA_ren : Go.Shelf.Ren := ⟨fun | 5 => 87 | 8 => 109 | 7 => 108 | 19 => 125 | 20 => 126 | 10 => 116 | 11 => 117 | 12 => 118 | 13 => 119 | 14 => 120 | 15 => 121 | 16 => 122 | 17 => 123 | 18 => 124 | 30 => 131 | 31 => 132 | 32 => 133 | 33 => 134 | 34 => 135 | 35 => 136 | 40 => 139 | n => n, fun | 23 => 39 | 25 => 3 | 3 => 3 | 32 => 137 | 22 => 39 | 0 => 0 | 44 => 138 | 46 => 58 | 4 => 4 | 36 => 149 | 35 => 148 | 41 => 79 | 5 => 5 | 9 => 9 | 53 => 162 | 57 => 166 | 63 => 169 | 64 => 170 | n => n, fun | n => n⟩
theorem Tryz.sortA : Go.Proofs.SlLaysM.n5 Tryz.prog Tryz.sortA_ren := {
  mixed := by kernel_rfl
  f5 := ⟨Tryz.f87.name, by decide, Tryz.func87.trans (congrArg some (by kernel_rfl))⟩
  f7 := ⟨Tryz.f108.name, by decide, Tryz.func108.trans (congrArg some (by kernel_rfl))⟩
  f8 := Tryz.func109.trans (congrArg some (by kernel_rfl))
  f10 := ⟨Tryz.f116.name, by decide, Tryz.func116.trans (congrArg some (by kernel_rfl))⟩
  f11 := ⟨Tryz.f117.name, by decide, Tryz.func117.trans (congrArg some (by kernel_rfl))⟩
  f12 := ⟨Tryz.f118.name, by decide, Tryz.func118.trans (congrArg some (by kernel_rfl))⟩
  f13 := ⟨Tryz.f119.name, by decide, Tryz.func119.trans (congrArg some (by kernel_rfl))⟩
  f14 := ⟨Tryz.f120.name, by decide, Tryz.func120.trans (congrArg some (by kernel_rfl))⟩
  f15 := ⟨Tryz.f121.name, by decide, Tryz.func121.trans (congrArg some (by kernel_rfl))⟩
  f16 := ⟨Tryz.f122.name, by decide, Tryz.func122.trans (congrArg some (by kernel_rfl))⟩
  f17 := ⟨Tryz.f123.name, by decide, Tryz.func123.trans (congrArg some (by kernel_rfl))⟩
  f18 := ⟨Tryz.f124.name, by decide, Tryz.func124.trans (congrArg some (by kernel_rfl))⟩
  f19 := Tryz.func125.trans (congrArg some (by kernel_rfl))
  f20 := Tryz.func126.trans (congrArg some (by kernel_rfl))
  f30 := ⟨Tryz.f131.name, by decide, Tryz.func131.trans (congrArg some (by kernel_rfl))⟩
  f31 := Tryz.func132.trans (congrArg some (by kernel_rfl))
  f32 := Tryz.func133.trans (congrArg some (by kernel_rfl))
  f33 := ⟨Tryz.f134.name, by decide, Tryz.func134.trans (congrArg some (by kernel_rfl))⟩
  f34 := ⟨Tryz.f135.name, by decide, Tryz.func135.trans (congrArg some (by kernel_rfl))⟩
  f35 := ⟨Tryz.f136.name, by decide, Tryz.func136.trans (congrArg some (by kernel_rfl))⟩
  f40 := ⟨Tryz.f139.name, by decide, Tryz.func139.trans (congrArg some (by kernel_rfl))⟩
  t0 := Tryz.underlying0
  a0 := Tryz.isAgg0
  z0 := Tryz.sizeOf0
  v0 := Tryz.zeroValue0
  t3 := Tryz.underlying3
  a3 := Tryz.isAgg3
  z3 := Tryz.sizeOf3
  v3 := Tryz.zeroValue3
  t4 := Tryz.underlying4
  a4 := Tryz.isAgg4
  z4 := Tryz.sizeOf4
  v4 := Tryz.zeroValue4
  t5 := Tryz.underlying5
  a5 := Tryz.isAgg5
  z5 := Tryz.sizeOf5
  v5 := Tryz.zeroValue5
  t9 := Tryz.underlying9
  a9 := Tryz.isAgg9
  z9 := Tryz.sizeOf9
  v9 := Tryz.zeroValue9
  t22 := Tryz.underlying39
  a22 := Tryz.isAgg39
  z22 := Tryz.sizeOf39
  v22 := Tryz.zeroValue39
  t23 := Tryz.underlying39
  a23 := Tryz.isAgg39
  z23 := Tryz.sizeOf39
  v23 := Tryz.zeroValue39
  t25 := Tryz.underlying3
  a25 := Tryz.isAgg3
  z25 := Tryz.sizeOf3
  v25 := Tryz.zeroValue3
  t32 := Tryz.underlying137
  a32 := Tryz.isAgg137
  z32 := Tryz.sizeOf137
  v32 := Tryz.zeroValue137
  t35 := Tryz.underlying148
  a35 := Tryz.isAgg148
  z35 := Tryz.sizeOf148
  v35 := Tryz.zeroValue148
  t36 := Tryz.underlying149
  a36 := Tryz.isAgg149
  z36 := Tryz.sizeOf149
  v36 := Tryz.zeroValue149
  t41 := Tryz.underlying79
  a41 := Tryz.isAgg79
  z41 := Tryz.sizeOf79
  v41 := Tryz.zeroValue79
  t44 := Tryz.underlying138
  a44 := Tryz.isAgg138
  z44 := Tryz.sizeOf138
  v44 := Tryz.zeroValue138
  t46 := Tryz.underlying58
  a46 := Tryz.isAgg58
  z46 := Tryz.sizeOf58
  v46 := Tryz.zeroValue58
  t53 := Tryz.underlying162
  a53 := Tryz.isAgg162
  z53 := Tryz.sizeOf162
  v53 := Tryz.zeroValue162
  t57 := Tryz.underlying166
  a57 := Tryz.isAgg166
  z57 := Tryz.sizeOf166
  v57 := Tryz.zeroValue166
  t63 := Tryz.underlying169
  a63 := Tryz.isAgg169
  z63 := Tryz.sizeOf169
  v63 := Tryz.zeroValue169
  t64 := Tryz.underlying170
  a64 := Tryz.isAgg170
  z64 := Tryz.sizeOf170
  v64 := Tryz.zeroValue170 }
end Go.Proofs
/-
  The keys of a map by whole numbers, in order: plain words, and the laid contracts of slices.Sort.
-/
set_option linter.unusedSimpArgs false
set_option linter.unusedVariables false
set_option linter.unnecessarySimpa false
namespace Go.Proofs.YtamifdfkgbaobaaGreatDoor
open Go.RowKit Go.Maps Go.Sort Go.Shelf
set_option maxRecDepth 100000

theorem sortsA (m : Nat) : AnyZI.SortsIn Tryz.prog Tryz.sortedA_ren Fence.wide m :=
  ⟨fun blk off cap ss W hH hblk hsz => callsIn_wide.2 (AnyM.slices_Sort_int Tryz.sortA blk off cap ss W hH hblk hsz),
   fun p cap W => callsIn_wide.2 (AnyM.slices_Sort_int_none Tryz.sortA p cap W)⟩
/-- zs are the keys, in order. -/
def KeyL (f : Int → Option Value) (zs : List Int) : Prop := zs.Pairwise (fun x y => x < y) ∧ ∀ x, x ∈ zs ↔ (wfZ x ∧ (f x).isSome = true)
theorem KeyL.of_perm {D : DataW Value} {w : World} {b n : Nat} {f : Int → Option Value} (hown : w.ownsMap Tryz.prog 3 rawV b n D) (hf : AsF D f) {ss : List Int} (hS : ss.Perm (intKeys D)) :
    KeyL f (ss.mergeSort (fun x y => decide (x ≤ y))) ∧ ss.length ≤ n := by
  have hp := List.mergeSort_perm ss (fun x y : Int => decide (x ≤ y))
  obtain ⟨es, hD, hpw, _⟩ := hown.entries keyZ
  obtain ⟨es', hD', hko⟩ := hown.keysOf
  obtain rfl : es = es' := by rw [hD] at hD'; simpa using hD'
  subst hD
  have hk : ∀ p ∈ es, ∃ x, p.1 = .int .i64 x ∧ wfZ x := fun p hp => by
    obtain ⟨v, hv⟩ := hko p hp
    obtain ⟨x, _, h1, h2⟩ := Maps.keyOf_i64 Tryz.underlying3 hv
    exact ⟨x, h1, h2⟩
  have hnd : (intKeys (.map es)).Nodup := by
    show (es.map fun p => Go.intOf p.1).Nodup
    refine List.pairwise_map.2 (hpw.imp_of_mem fun {p q} hp' hq' hne e => hne ?_)
    obtain ⟨a, ha, _⟩ := hk p hp'
    obtain ⟨b, hb, _⟩ := hk q hq'
    rw [ha, hb] at e ⊢
    exact congrArg _ e
  have hm : ∀ x, x ∈ intKeys (.map es) ↔ (wfZ x ∧ (f x).isSome = true) := fun x => by
    show x ∈ es.map (fun p => Go.intOf p.1) ↔ _
    rw [List.mem_map]
    constructor
    · rintro ⟨p, hp', rfl⟩
      obtain ⟨a, ha, hw⟩ := hk p hp'
      rw [ha]
      refine ⟨hw, ?_⟩
      show (f a).isSome = true
      rw [← (hf a hw).1, has_eq, List.any_eq_true]
      exact ⟨p, hp', by rw [ha]; simp [Lit.sameKey]⟩
    · rintro ⟨hw, hx⟩
      rw [← (hf x hw).1, has_eq, List.any_eq_true] at hx
      obtain ⟨p, hp', hs⟩ := hx
      obtain ⟨a, ha, _⟩ := hk p hp'
      rw [ha] at hs
      exact ⟨p, hp', by rw [ha]; simpa [Lit.sameKey, Go.intOf] using hs⟩
  refine ⟨⟨?_, fun x => ?_⟩, ?_⟩
  · have h1 : (ss.mergeSort (fun x y : Int => decide (x ≤ y))).Pairwise (fun a b => decide (a ≤ b) = true) :=
      List.pairwise_mergeSort (fun a b c h1 h2 => by simp only [decide_eq_true_eq] at *; omega) (fun a b => by simp only [Bool.or_eq_true, decide_eq_true_eq]; omega) ss
    have h2 : (ss.mergeSort (fun x y : Int => decide (x ≤ y))).Nodup := (hp.trans hS).nodup_iff.2 hnd
    exact (h1.and h2).imp fun {a b} h => by
      have := h.1
      simp only [decide_eq_true_eq] at this
      have := h.2
      omega
  · rw [(hp.trans hS).mem_iff, hm]
  · rw [hS.length_eq]
    have := hown.size_le
    show (es.map _).length ≤ n
    rw [List.length_map]
    exact this
theorem KeyL.uniq {f : Int → Option Value} {a b : List Int} (ha : KeyL f a) (hb : KeyL f b) : a = b := by
  have hm : ∀ x, x ∈ a ↔ x ∈ b := fun x => (ha.2 x).trans (hb.2 x).symm
  have na : a.Nodup := ha.1.imp fun {x y} h => by omega
  have nb : b.Nodup := hb.1.imp fun {x y} h => by omega
  have hp : a.Perm b := (List.perm_ext_iff_of_nodup na nb).2 hm
  exact hp.eq_of_pairwise (le := fun x y => x < y) (fun x y _ _ h1 h2 => by omega) ha.1 hb.1
end Go.Proofs.YtamifdfkgbaobaaGreatDoor
/-
  DERIVED: THE SHELF's CONTRACTS AT THIS DUMP, IN PLAIN WORDS (tools/lay-plain.mjs out of 'YtamifdfkgbaobaaGreatDoorSrLay0.lean', which tools/lay-shelf.mjs wrote): THE SAME DECLARATIONS UNDER THE SAME NAMES: 'import', 'namespace', 'open', 'def', 'theorem' AND NOTHING ELSE: no command of the shelf's: FOR A HAND-IN. Each laying: the table of numbers ('.._ren') and one theorem, a field a fact of the dump's own or the kernel's comparison; each contract: ONE APPLICATION.
-/
namespace Go.Proofs
open Go.Shelf
def Tryz.keysB_ren : Go.Shelf.Ren := ⟨fun | 7 => 64 | 10 => 88 | n => n, fun | 23 => 88 | 26 => 3 | 3 => 41 | 28 => 97 | 0 => 0 | 27 => 96 | 33 => 71 | 4 => 4 | n => n, fun | n => n⟩
theorem Tryz.keysB : Go.Proofs.SlLaysZI.n7 Tryz.prog Tryz.keysB_ren := {
  mixed := by kernel_rfl
  f7 := ⟨Tryz.f64.name, by decide, Tryz.func64.trans (congrArg some (by kernel_rfl))⟩
  f10 := ⟨Tryz.f88.name, by decide, Tryz.func88.trans (congrArg some (by kernel_rfl))⟩
  t0 := Tryz.underlying0
  a0 := Tryz.isAgg0
  z0 := Tryz.sizeOf0
  v0 := Tryz.zeroValue0
  t4 := Tryz.underlying4
  a4 := Tryz.isAgg4
  z4 := Tryz.sizeOf4
  v4 := Tryz.zeroValue4
  t23 := Tryz.underlying88
  a23 := Tryz.isAgg88
  z23 := Tryz.sizeOf88
  v23 := Tryz.zeroValue88
  t26 := Tryz.underlying3
  a26 := Tryz.isAgg3
  z26 := Tryz.sizeOf3
  v26 := Tryz.zeroValue3
  t27 := Tryz.underlying96
  a27 := Tryz.isAgg96
  z27 := Tryz.sizeOf96
  v27 := Tryz.zeroValue96
  t28 := Tryz.underlying97
  a28 := Tryz.isAgg97
  z28 := Tryz.sizeOf97
  v28 := Tryz.zeroValue97
  t33 := Tryz.underlying71
  a33 := Tryz.isAgg71
  z33 := Tryz.sizeOf71
  v33 := Tryz.zeroValue71 }
end Go.Proofs
/-
  The keys of Sorted's map, in order.
-/
set_option linter.unusedSimpArgs false
set_option linter.unusedVariables false
set_option linter.unnecessarySimpa false
namespace Go.Proofs.YtamifdfkgbaobaaGreatDoor
open Go.RowKit Go.Maps Go.Sort Go.Shelf
set_option maxRecDepth 100000

theorem keysS_any (b : Nat) (w : World) : Calls Tryz.prog 64 #[.map (some b)] w fun e w' => e = .returned (.func (.func 88) #[] #[.pointer (some ⟨w.heap.size, 0, none⟩)]) ∧ w' = w.alloc (.cells #[.map (some b)] 88) :=
  (callsIn_wide (n := 5)).1 (AnyZI.keys_in Tryz.keysB Fence.wide 5 trivial rfl (some b) w)
theorem sortedS_any {w : World} {b n : Nat} {f : Int → Option Value} (h : MapZ w b n f) (hn : n ≤ 17592186044416) :
    Calls Tryz.prog 63 #[.func (.func 88) #[] #[.pointer (some ⟨w.heap.size, 0, none⟩)]] (w.alloc (.cells #[.map (some b)] 88)) fun e w' => ∃ (v : Value) (zs : List Int), e = .returned v ∧ KeyL f zs ∧ zs.length ≤ n ∧
      Row w' w.heap.size 3 1 v zs.length (zs.map (Value.int .i64)) ∧ Fr [] (w.alloc (.cells #[.map (some b)] 88)) w' := by
  obtain ⟨D, hown, hf⟩ := h
  have hs := hown.size_le
  have hmx : Maps.size D ≤ maxLen := by simp only [maxLen]; omega
  have hby : Maps.size D * 8 ≤ 140737488355328 := by omega
  have hbl := hown.lt
  have hseq : SeqGives Fence.wide 2 Tryz.prog 88 #[.pointer (some ⟨w.heap.size, 0, none⟩)] encZ (fun ss => ss.Perm (intKeys D)) (Maps.size D) (w.alloc (.cells #[.map (some b)] 88)) :=
    AnyZI.keys_gives (ρ := Tryz.keysB_ren) { Tryz.keysB with } Fence.wide _ trivial rfl (by omega) w.heap.size b n D _ (by simp) (by simp) (by
      obtain ⟨es, clock, hb, Ft, hs, hD⟩ := hown
      exact ⟨es, clock, (Below.heap_alloc _ _ b hbl).trans hb, Ft, hs, hD⟩)
  have cS := AnyZI.sorted_in Tryz.sortedA Fence.wide 5 trivial trivial trivial trivial rfl (by omega) (sortsA _) (enters_of Tryz.func87 (by kernel_rfl) rfl) 88 #[.pointer (some ⟨w.heap.size, 0, none⟩)] trivial (enters_of Tryz.func88 (by kernel_rfl) rfl) _ _ hmx hby _ hseq
  change CallsIn _ _ Tryz.prog 63 _ _ _ at cS
  refine (callsIn_wide.1 cS).mono ?_
  rintro e w' ⟨v, ss, rfl, hS, hrow, -, hb⟩
  obtain ⟨k1, k2⟩ := KeyL.of_perm hown hf hS
  have hl : (ss.mergeSort (fun x y : Int => decide (x ≤ y))).length = ss.length := (List.mergeSort_perm _ _).length_eq
  refine ⟨v, _, rfl, k1, by omega, ?_, Fr.of_below hb⟩
  rw [hl]
  exact Row.of_own (ownsRow_base_a hrow (by simp))
end Go.Proofs.YtamifdfkgbaobaaGreatDoor
/-
  Sorted's values are slices of bytes.
-/
set_option linter.unusedSimpArgs false
set_option linter.unusedVariables false
set_option linter.unnecessarySimpa false
namespace Go.Proofs.YtamifdfkgbaobaaGreatDoor
open Go.RowKit
abbrev zS : Value := .slice none 0 0
theorem zeroS (w : World) : (zeroValue 41).run Tryz.prog w = .ok zS w := Tryz.zeroValue41 w
theorem undS : Tryz.prog.underlying 88 = some (.map 3 41) := Tryz.underlying88
end Go.Proofs.YtamifdfkgbaobaaGreatDoor
/-
  Sorted: what it is in memory; New, Set, Get, Delete, Clear, Len, All.
-/
set_option linter.unusedSimpArgs false
set_option linter.unusedVariables false
set_option linter.unnecessarySimpa false
namespace Go.Proofs.YtamifdfkgbaobaaGreatDoor
open Go.RowKit Go.Maps

theorem MapZ.lenS {w : World} {b n : Nat} {f : Int → Option Value} (h : MapZ w b n f) {zs : List Int} (hz : KeyL f zs) {t e : TypeId} (ht : Tryz.prog.underlying t = some (.map 3 e)) (ty : TypeId) : (Builtin.len_ #[t] ty #[.map (some b)]).run Tryz.prog w = .ok (.int .i64 zs.length) w ∧ zs.length ≤ n := by
  obtain ⟨D, hown, hf⟩ := h
  obtain ⟨k1, k2⟩ := KeyL.of_perm hown hf (List.Perm.refl (intKeys D))
  have e : zs.length = Maps.size D := by
    rw [hz.uniq k1, (List.mergeSort_perm _ _).length_eq]
    obtain ⟨es, hD, -⟩ := hown.entries keyZ
    rw [hD]
    show (es.map _).length = _
    rw [List.length_map]
    rfl
  have hs := hown.size_le
  rw [e]
  exact ⟨hown.len ht ty, hs⟩
/-- A Sorted at p, its map at b: the values f. -/
structure SrtW (w : World) (p b n : Nat) (f : Int → Option Value) : Prop where
  blk : Blk w p 90 #[.map (some b)]
  map : MapZ w b n f
section
variable {w w' : World} {p b n : Nat} {f : Int → Option Value}
theorem SrtW.ne (h : SrtW w p b n f) : b ≠ p := fun e => by
  have h1 := h.blk
  obtain ⟨D, ⟨es, clock, hb, _⟩, _⟩ := h.map
  unfold Blk at h1
  rw [← e, hb] at h1
  cases h1
theorem SrtW.keep (h : SrtW w p b n f) {F : List Nat} (fr : Fr F w w') (hp : p ∉ F) (hb : b ∉ F) : SrtW w' p b n f := ⟨h.blk.keep fr hp, h.map.keep fr hb⟩
theorem SrtW.keep_nil (h : SrtW w p b n f) (fr : Fr [] w w') : SrtW w' p b n f := h.keep fr (by simp) (by simp)
theorem SrtW.c0 (h : SrtW w p b n f) : w.cell? ⟨p, 0, none⟩ = some (.map (some b)) := h.blk.cell 0
theorem SrtW.noTy (h : SrtW w p b n f) (e : TypeId) : ∀ i ∈ [b], ∀ cs fz, w.heap[i]? ≠ some (.cells cs e fz) := fun i hi cs fz hc => by
  obtain ⟨D, ⟨es, clock, hb, _⟩, _⟩ := h.map
  rw [List.mem_singleton.1 hi, hb] at hc
  cases hc
theorem neqMapS (b : Nat) (w : World) : (binOp .neq 88 (.map (some b)) (.map none)).run Tryz.prog w = .ok (.bool true) w := by kernel_rfl
set_option maxRecDepth 100000
theorem srtNew_any (w : World) : Calls Tryz.prog 24 #[] w fun e w' => e = .returned (.pointer (some ⟨w.heap.size + 1, 0, none⟩)) ∧ SrtW w' (w.heap.size + 1) w.heap.size 0 (fun _ => none) ∧ Fr [] w w' ∧ w'.heap.size = w.heap.size + 2 := by
  have hmm := @run_makeMap Tryz.prog
  have m1 := MapZ.made w
  have f1 : Fr [] w (w.alloc (.map #[] 0)) := (Fr.refl _ _).alloc _
  have k2 := Blk.new (w.alloc (.map #[] 0)) 90 #[.map (some w.heap.size)]
  have f2 : Fr [] (w.alloc (.map #[] 0)) ((w.alloc (.map #[] 0)).alloc (.cells #[.map (some w.heap.size)] 90)) := (Fr.refl _ _).alloc _
  have HF := Lib.hid (And.intro m1 (And.intro f1 (And.intro k2 f2)))
  clear m1 f1 k2 f2
  go_enter Tryz.func24, Tryz.ntmps24
  go_wp2_with fail
  obtain ⟨m1, f1, k2, f2⟩ := HF.out
  go_ret
  have e1 : (w.alloc (.map #[] 0)).heap.size = w.heap.size + 1 := by simp
  rw [e1] at k2
  exact ⟨rfl, ⟨k2, m1.keep_nil f2⟩, f1.trans_nil f2, by simp⟩
theorem srtSet_any (h : SrtW w p b n f) (hn : n < maxLen) (k : Int) (hk : wfZ k) (v : Value) (hv : v.cells = #[v]) : Calls Tryz.prog 56 #[.pointer (some ⟨p, 0, none⟩), .int .i64 k, v] w fun e w' => e = .returned (.tuple #[]) ∧ SrtW w' p b (n + 1) (fput f k v) ∧ Fr [b] w w' := by
  have c0 := h.c0
  have nq := neqMapS b
  have hm := h.map
  have HH := Lib.hid h
  clear h
  go_enter Tryz.func56, Tryz.ntmps56
  go_wp2_with (refine wpList_putZ rfl rfl undS rfl hm hn k rfl hk v rfl ?_; intro w1 m1 f1 z1)
  have HM := Lib.hid (And.intro m1 f1)
  clear m1 f1 z1 hm c0
  go_wp2_with fail
  go_returns
  exact ⟨rfl, ⟨HH.out.blk.keep HM.out.2 (fun hm => HH.out.ne (List.mem_singleton.1 hm).symm), HM.out.1⟩, HM.out.2⟩
theorem srtGet_any (h : SrtW w p b n f) (k : Int) (hk : wfZ k) : Calls Tryz.prog 39 #[.pointer (some ⟨p, 0, none⟩), .int .i64 k] w fun e w' => e = .returned (.tuple #[(f k).getD zS, .bool (f k).isSome]) ∧ w = w' := by
  have c0 := h.c0
  have hm := h.map
  clear h
  go_enter Tryz.func39, Tryz.ntmps39
  go_wp2_with (refine wpList_lookOkZ rfl rfl undS (zeroS _) rfl hm k rfl hk ?_)
  go_ret2
  exact ⟨rfl, rfl⟩
theorem srtClear_any (h : SrtW w p b n f) : Calls Tryz.prog 47 #[.pointer (some ⟨p, 0, none⟩)] w fun e w' => e = .returned (.tuple #[]) ∧ SrtW w' p b 0 (fun _ => none) ∧ Fr [b] w w' := by
  have c0 := h.c0
  have hm := h.map
  have HH := Lib.hid h
  clear h
  go_enter Tryz.func47, Tryz.ntmps47
  go_wp2_with (refine wpList_clearZ rfl rfl undS rfl hm ?_; intro w6 m6 f6 z6)
  have HM := Lib.hid (And.intro m6 f6)
  clear m6 f6 z6 hm c0
  go_wp2_with fail
  go_returns
  exact ⟨rfl, ⟨HH.out.blk.keep HM.out.2 (fun hm => HH.out.ne (List.mem_singleton.1 hm).symm), HM.out.1⟩, HM.out.2⟩
theorem srtAll_any (P : Option Addr) (w : World) : Calls Tryz.prog 35 #[.pointer P] w fun e w' => e = .returned (.func (.func 62) #[] #[.pointer (some ⟨w.heap.size, 0, none⟩)]) ∧ w' = w.alloc (.cells #[.pointer P] 62) := by
  go_enter Tryz.func35, Tryz.ntmps35
  go_wp2_with fail
  go_ret
  exact ⟨rfl, rfl⟩
theorem srtSet_nil (k : Int) (v : Value) (w : World) : Calls Tryz.prog 56 #[.pointer none, .int .i64 k, v] w fun e w' => e = .returned (.tuple #[]) ∧ w = w' := by
  go_enter Tryz.func56, Tryz.ntmps56
  go_wp2_with fail
  go_returns
  exact ⟨rfl, rfl⟩
theorem srtClear_nil (w : World) : Calls Tryz.prog 47 #[.pointer none] w fun e w' => e = .returned (.tuple #[]) ∧ w = w' := by
  go_enter Tryz.func47, Tryz.ntmps47
  go_wp2_with fail
  go_returns
  exact ⟨rfl, rfl⟩
theorem srtGet_nil (k : Int) (w : World) : Calls Tryz.prog 39 #[.pointer none, .int .i64 k] w fun e w' => e = .returned (.tuple #[zS, .bool false]) ∧ w = w' := by
  go_enter Tryz.func39, Tryz.ntmps39
  go_wp2_with fail
  go_ret2
  exact ⟨rfl, rfl⟩
end
end Go.Proofs.YtamifdfkgbaobaaGreatDoor
/-
  A range over a function: what a round keeps, in terms of frames.
-/
set_option linter.unusedSimpArgs false
set_option linter.unusedVariables false
set_option linter.unnecessarySimpa false
namespace Go.Proofs.YtamifdfkgbaobaaGreatDoor
open Go.RowKit Go.Shelf

/-- Cells, and what lies below B, are as they were, but for the blocks F. -/
structure KeepC (F : List Nat) (B : Nat) (A C : World) : Prop where
  size : A.heap.size ≤ C.heap.size
  same : ∀ k o, A.heap[k]? = some o → k ∉ F → (k < B ∨ o.isCells = true) → C.heap[k]? = some o
theorem keepC_t {F : List Nat} {B : Nat} {A C E : World} (h : KeepC F B A C) (k : KeepC F B C E) : KeepC F B A E :=
  ⟨Nat.le_trans h.size k.size, fun i o hi hF hB => k.same i o (h.same i o hi hF hB) hF hB⟩
theorem keepC_b {F : List Nat} {B : Nat} {w : World} (hB : B ≤ w.heap.size) (W : World) (l : Nat) (o o' : Obj) (hl : w.heap.size ≤ l) (h : W.heap[l]? = some o) (hc : o.isCells = false) (_ : o.isWalk = false) : KeepC F B W (W.putObj l o') := by
  have hg := grownBy_putObj' W l o'
  refine ⟨hg.size, fun k x hk _ hx => ?_⟩
  have hlt := (Array.getElem?_eq_some_iff.1 hk).1
  have hne : k ≠ l := fun e => by
    subst e
    rw [h] at hk
    cases hk
    rcases hx with hx | hx
    · omega
    · rw [hc] at hx; cases hx
  rw [hg.block k hlt (by simpa using hne)]
  exact hk
theorem KeepC.of_fr {F : List Nat} {B : Nat} {A C : World} (f : Fr F A C) : KeepC F B A C :=
  ⟨f.size, fun k o hk hF _ => by rw [f.same k (Array.getElem?_eq_some_iff.1 hk).1 hF]; exact hk⟩
theorem KeepC.cell {F : List Nat} {B : Nat} {A C : World} (h : KeepC F B A C) {a : Addr} (ha : a.block ∉ F) {v : Value} (hc : A.cell? a = some v) : C.cell? a = some v := by
  obtain ⟨g, i, s⟩ := a
  have : ∃ o, A.heap[g]? = some o ∧ o.isCells = true := by
    unfold World.cell? at hc
    dsimp only at hc
    cases hh : A.heap[g]? with
    | none => rw [hh] at hc; cases hc
    | some o =>
      rw [hh] at hc
      cases o <;> first | exact ⟨_, rfl, rfl⟩ | cases hc
  obtain ⟨o, ho, hoc⟩ := this
  have hC := h.same g o ho ha (.inr hoc)
  unfold World.cell? at hc ⊢
  dsimp only at hc ⊢
  rw [ho] at hc
  rw [hC]
  exact hc
theorem KeepC.blk {F : List Nat} {B : Nat} {A C : World} (h : KeepC F B A C) {g : Nat} {t : TypeId} {cs : Array Value} (hg : g ∉ F) (hb : Blk A g t cs) : Blk C g t cs := h.same g _ hb hg (.inr rfl)
theorem KeepC.row {F : List Nat} {B : Nat} {A C : World} (h : KeepC F B A C) {base : Nat} {e : TypeId} {size : Nat} {v : Value} {n : Nat} {xs : List Value} (hr : Row A base e size v n xs) (hv : ∀ g, v.ownBlock = some g → g ∉ F) : Row C base e size v n xs := by
  refine ⟨hr.1, ?_⟩
  rcases hr.2 with h0 | ⟨g, cap, cur, fz, rfl, hb, hg, rest⟩
  · exact .inl h0
  · exact .inr ⟨g, cap, cur, fz, rfl, hb, h.same g _ hg (hv g rfl) (.inr rfl), rest⟩
theorem fr_grown {A C : World} (f : Fr [] A C) : A.grownBy C none := ⟨f.os, f.tape, f.output, f.size, fun k hk _ => f.same k hk (by simp)⟩
theorem grown_frR {A C : World} {r : Option Nat} (h : A.grownBy C r) : Fr r.toList A C := ⟨h.os, h.tape, h.output, h.size, fun k hk hn => h.block k hk (by cases r <;> simp_all)⟩
theorem keepsO_of_fr {F : List Nat} {A C : World} (f : Fr F A C) (hF : ∀ k ∈ F, ∀ o, A.heap[k]? = some o → o.isCells = true) : KeepsOthers A C :=
  ⟨f.size, fun k o hk hc => by
    rw [f.same k (Array.getElem?_eq_some_iff.1 hk).1 (fun hm => by rw [hF k hm o hk] at hc; cases hc)]
    exact hk⟩
/-- A frame since the loop began. -/
theorem ownFrom_fr {β : Type} {F : List Nat} {w : World} : OwnFrom w.heap.size (fun (_ : β) W => Fr F w W) := fun s W W' row hs hg hr => by
  refine ⟨hg.os.trans hs.os, hg.tape.trans hs.tape, hg.output.trans hs.output, Nat.le_trans hs.size hg.size, fun k hk hF => ?_⟩
  rw [hg.block k (Nat.lt_of_lt_of_le hk hs.size) (fun e => by have := (hr k e.symm).1; omega)]
  exact hs.same k hk hF
theorem ownFrom_blk {β : Type} {B g : Nat} {t : TypeId} {cs : β → Array Value} : OwnFrom B (fun (s : β) W => Blk W g t (cs s)) := fun s W W' row hs hg hr => by
  have hs' : Blk W g t (cs s) := hs
  have hlt := hs'.lt
  show W'.heap[g]? = some _
  rw [hg.block g hlt (fun e => by
    obtain ⟨_, o, ho, hc⟩ := hr g e.symm
    rw [show W.heap[g]? = some _ from hs'] at ho
    cases ho
    cases hc)]
  exact hs'
end Go.Proofs.YtamifdfkgbaobaaGreatDoor
