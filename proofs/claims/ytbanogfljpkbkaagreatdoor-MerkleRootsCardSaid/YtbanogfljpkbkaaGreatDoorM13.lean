/-
  Texts of this claim, one behind the other: CacP, CacQ, CacL, DkLay, KeyL, SrLay, SrK, SrZb, SrA, RngA, SrB, CacA, CacB, SrtL, MeH.
-/
import Derived.Test.YtbanogfljpkbkaaGreatDoorM12
import Derived.Shelf.SlIterI.Nil
import Derived.Ground.GgzProg
import Derived.Shelf.SortM.Plain
import Derived.Shelf.SortM.SortNone
import Derived.Ground.SlgmProg
import Derived.Test.YtbanogfljpkbkaaGreatDoorProg
import Derived.Test.YtbanogfljpkbkaaGreatDoorM1
import Derived.Test.YtbanogfljpkbkaaGreatDoorM2
import Derived.RangeFuncNested
import Derived.RangeFuncBound
import Derived.RangeFuncCalls
import Derived.RangeFuncLeaves
import Derived.Shelf.Abstract
import Derived.Shelf.RegionOpen
import Derived.WalkKit
import Derived.OwnWalkIn
import Derived.TacticsInMore
import Derived.LoopNIn
import Derived.LoopIn
import Derived.Test.YtbanogfljpkbkaaGreatDoorM6
set_option linter.unusedSimpArgs false
set_option linter.unusedVariables false
set_option linter.unnecessarySimpa false
namespace Go.Proofs.YtbanogfljpkbkaaGreatDoor
section
open Go.RowKit
set_option maxRecDepth 100000
structure CaM where
 D : DkM
 J : JrM
 dirty : Int → Option (List UInt8)
def updD (d : Int → Option (List UInt8)) (r : Int × List UInt8) : Int → Option (List UInt8) := fun x => if x = r.1 then some r.2 else d x
def putD (d : Int → Option (List UInt8)) (rs : List (Int × List UInt8)) : Int → Option (List UInt8) := rs.foldl updD d
def keysZ (d : Int → Option (List UInt8)) : List Int := ((List.range 4096).map fun i : Nat => (i : Int)).filter fun x => (d x).isSome
def wrD (d : Int → Option (List UInt8)) (zs : List Int) : List Stp := zs.map fun x => .wr x ((d x).getD [])
def chkM (M : CaM) : CaM := ⟨(resM (runS M.D ([.fl] ++ wrD M.dirty (keysZ M.dirty) ++ [.fl])).2 M.J).2.1, (resM (runS M.D ([.fl] ++ wrD M.dirty (keysZ M.dirty) ++ [.fl])).2 M.J).2.2, fun _ => none⟩
def chkC (M : CaM) : CaM := if M.J.used = 0 ∧ M.J.begun = true then M else chkM M
def roomM (M : CaM) (n : Nat) : CaM := if (n : Int) ≤ M.J.room ∨ M.J.most < n then M else chkC M
def comE (M : CaM) (rs : List (Int × List UInt8)) : Int := (appM (roomM M rs.length).D (roomM M rs.length).J rs).1
def comM (M : CaM) (rs : List (Int × List UInt8)) : CaM := if comE M rs = 0 then ⟨(appM (roomM M rs.length).D (roomM M rs.length).J rs).2.1, (appM (roomM M rs.length).D (roomM M rs.length).J rs).2.2, putD (roomM M rs.length).dirty rs⟩ else roomM M rs.length
def rdM (M : CaM) (x : Int) : List UInt8 := match M.dirty x with
 | some l => l
 | none => M.D.readR x
structure CaG (N : Nat) (M : CaM) : Prop where
 on : On M.D N
 n4 : N ≤ 4096
 c : 16 ≤ M.J.count ∧ M.J.count ≤ 256
 f : 0 ≤ M.J.first ∧ M.J.first + M.J.count ≤ N
 u : 0 ≤ M.J.used ∧ M.J.used + 1 ≤ M.J.count
 bad : M.J.bad = false
 m0 : M.J.num ≠ 0
 m64 : M.J.num < 9223372036854775808
 d : ∀ x l, M.dirty x = some l → 0 ≤ x ∧ x < N ∧ (x < M.J.first ∨ M.J.first + M.J.count ≤ x) ∧ l.length = 512
 e : M.J.used = 0 → M.J.begun = true → ∀ x, M.dirty x = none
section
variable {N : Nat} {M : CaM} {rs : List (Int × List UInt8)}
theorem CaG.jok (G : CaG N M) : M.J.ok := by
 have := G.n4
 have h1 := G.c
 have h2 := G.f
 have h3 := G.u
 have h4 := G.m64
 exact ⟨h1, by omega, by omega, by omega⟩
theorem keysZ_mem {d : Int → Option (List UInt8)} {x : Int} : x ∈ keysZ d ↔ 0 ≤ x ∧ x < 4096 ∧ (d x).isSome = true := by
 unfold keysZ
 rw [List.mem_filter, List.mem_map]
 constructor
 ·rintro ⟨⟨i, hi, rfl⟩, h⟩
  have := List.mem_range.1 hi
  exact ⟨by omega, by omega, h⟩
 ·rintro ⟨h0, h1, h⟩
  exact ⟨⟨x.toNat, List.mem_range.2 (by omega), by omega⟩, h⟩
theorem keysZ_sorted (d : Int → Option (List UInt8)) : (keysZ d).Pairwise (fun x y => x < y) := by
 unfold keysZ
 apply List.Pairwise.filter
 rw [List.pairwise_map]
 exact (List.pairwise_lt_range (n := 4096)).imp (fun h => by omega)
theorem keysZ_nodup (d : Int → Option (List UInt8)) : (keysZ d).Nodup := (keysZ_sorted d).imp (fun h => by omega)
theorem keysZ_le (d : Int → Option (List UInt8)) : (keysZ d).length ≤ 4096 := by
 unfold keysZ
 refine Nat.le_trans (List.length_filter_le _ _) ?_
 rw [List.length_map, List.length_range]
 exact Nat.le_refl _
theorem runS_wrD {d : Int → Option (List UInt8)} : ∀ (zs : List Int) (D : DkM), On D N → zs.Nodup → (∀ x ∈ zs, 0 ≤ x ∧ x < N ∧ ((d x).getD []).length = 512) →
  (runS D (wrD d zs)).1 = 0 ∧ On (runS D (wrD d zs)).2 N ∧ (∀ y, (runS D (wrD d zs)).2.readR y = if y ∈ zs then (d y).getD [] else D.readR y)
 | [], D, h, _, _ => ⟨rfl, h, fun y => by rw [if_neg (by simp)]; rfl⟩
 | x :: r, D, h, hn, hz => by
  obtain ⟨h0, h1, h2⟩ := hz x List.mem_cons_self
  obtain ⟨e1, e2⟩ := h.write (b := (d x).getD []) h0 h1 h2
  obtain ⟨hx, hr⟩ := List.nodup_cons.1 hn
  obtain ⟨k1, k2, k3⟩ := runS_wrD r (D.wr x ((d x).getD [])) (h.wr x _) hr (fun y hy => hz y (List.mem_cons_of_mem _ hy))
  have hs : runS D (wrD d (x :: r)) = runS (D.wr x ((d x).getD [])) (wrD d r) := by
   show runS D (.wr x ((d x).getD []) :: wrD d r) = _
   rw [runS, Stp.E, Stp.D, e1, e2, if_pos rfl]
  rw [hs]
  refine ⟨k1, k2, fun y => ?_⟩
  rw [k3, h.wr_read h0 h1]
  by_cases hy : y ∈ r
  ·rw [if_pos hy, if_pos (List.mem_cons_of_mem _ hy)]
  ·rw [if_neg hy]
   by_cases e : y = x
   ·subst e; rw [if_pos rfl, if_pos List.mem_cons_self]
   ·rw [if_neg e, if_neg (by simp [e, hy])]
theorem CaG.home (G : CaG N M) : (runS M.D ([.fl] ++ wrD M.dirty (keysZ M.dirty) ++ [.fl])).1 = 0 ∧ On (runS M.D ([.fl] ++ wrD M.dirty (keysZ M.dirty) ++ [.fl])).2 N ∧ (∀ y, (runS M.D ([.fl] ++ wrD M.dirty (keysZ M.dirty) ++ [.fl])).2.readR y = rdM M y) ∧ ∀ y, (runS M.D ([.fl] ++ wrD M.dirty (keysZ M.dirty) ++ [.fl])).2.uns y = [] := by
 obtain ⟨f1, f2, f3⟩ := G.on.flush
 obtain ⟨k1, k2, k3⟩ := runS_wrD (d := M.dirty) (keysZ M.dirty) M.D.flush1 f3 (keysZ_nodup _) (fun x hx => by
  obtain ⟨l, hl⟩ := Option.isSome_iff_exists.1 (keysZ_mem.1 hx).2.2
  obtain ⟨a, b, -, c⟩ := G.d x l hl
  exact ⟨a, b, by rw [hl]; exact c⟩)
 obtain ⟨g1, g2, g3⟩ := k2.flush
 have h1 : runS M.D ([.fl] ++ wrD M.dirty (keysZ M.dirty) ++ [.fl]) = (0, (runS M.D.flush1 (wrD M.dirty (keysZ M.dirty))).2.flush1) := by
  show runS M.D (.fl :: (wrD M.dirty (keysZ M.dirty) ++ [.fl])) = _
  rw [runS, Stp.E, f1, if_pos rfl, Stp.D, f2, runS_app _ _ _ k1, runS, Stp.E, g1, if_pos rfl, Stp.D, g2]
  rfl
 rw [h1]
 refine ⟨rfl, g3, fun y => ?_, fun y => rfl⟩
 show (runS M.D.flush1 (wrD M.dirty (keysZ M.dirty))).2.flush1.readR y = _
 rw [k2.flush_read, k3, G.on.flush_read, rdM]
 cases hd : M.dirty y with
 | none => rw [if_neg (fun h => by have := (keysZ_mem.1 h).2.2; rw [hd] at this; cases this)]
 | some l =>
  obtain ⟨a, b, -, c⟩ := G.d y l hd
  have := G.n4
  rw [if_pos (keysZ_mem.2 ⟨a, by omega, by rw [hd]; rfl⟩)]
  rfl
theorem CaG.chk (G : CaG N M) (hm : M.J.num + 600 < 9223372036854775808) : (resM (runS M.D ([.fl] ++ wrD M.dirty (keysZ M.dirty) ++ [.fl])).2 M.J).1 = 0 ∧ CaG N (chkM M) ∧ (chkM M).J = { M.J with num := M.J.next, used := 0, begun := true } ∧ (∀ x, (chkM M).D.readR x = if x = M.J.first then markB M.J.next else rdM M x) ∧ (∀ x, (chkM M).D.sureR x = (chkM M).D.readR x) ∧ (∀ x, (chkM M).D.uns x = []) ∧ (chkM M).J.num ≤ M.J.num + 256 := by
 obtain ⟨h1, h2, h3, h4⟩ := G.home
 have hc := G.c
 have hf := G.f
 have hnx : M.J.next ≠ 0 ∧ M.J.next ≤ M.J.num + 256 := by
  have h0 := G.m0
  have hmd : (M.J.num + M.J.count.toNat) % 18446744073709551616 = M.J.num + M.J.count.toNat := Nat.mod_eq_of_lt (by omega)
  by_cases hb : M.J.begun = true
  ·rw [JrM.next, if_pos hb]; exact ⟨h0, by omega⟩
  ·rw [JrM.next, if_neg hb, if_neg h0, hmd, if_neg (by omega)]
   omega
 obtain ⟨D3, hD3⟩ : ∃ D, (runS M.D ([.fl] ++ wrD M.dirty (keysZ M.dirty) ++ [.fl])).2 = D := ⟨_, rfl⟩
 have hM : chkM M = ⟨(resM D3 M.J).2.1, (resM D3 M.J).2.2, fun _ => none⟩ := by rw [chkM, hD3]
 rw [hD3] at h2 h3 h4 ⊢
 obtain ⟨k1, k2, k3, k4⟩ := mkE_ok h2 (x := M.J.first) (by omega) (by omega) hnx.1
 have hr : resM D3 M.J = (0, (mkE D3 M.J.first M.J.next).2, { M.J with num := M.J.next, used := 0, begun := true }) := by
  unfold resM
  rw [if_neg (by rw [G.bad]; simp), k1, if_pos rfl]
 have hmk : (mkE D3 M.J.first M.J.next).2.uns = fun _ => [] := by
  obtain ⟨e1, e2⟩ := h2.write (x := M.J.first) (b := markB M.J.next) (by omega) (by omega) (markB_len _)
  obtain ⟨f1, f2, f3⟩ := (h2.wr M.J.first (markB M.J.next)).flush
  rw [mkE, if_neg hnx.1, runS, Stp.E, e1, if_pos rfl, Stp.D, e2, runS, Stp.E, f1, if_pos rfl, Stp.D, f2]
  rfl
 rw [hM, hr]
 refine ⟨rfl, ⟨k2, G.n4, hc, hf, ⟨Int.le_refl _, by show (0 : Int) + 1 ≤ M.J.count; omega⟩, G.bad, hnx.1, by show M.J.next < 9223372036854775808; omega, fun x l h => (by cases h), fun _ _ x => rfl⟩, rfl, fun x => ?_, fun x => ?_, fun x => congrFun hmk x, hnx.2⟩
 ·show (mkE D3 M.J.first M.J.next).2.readR x = _
  rw [k3, h3]
 ·show (mkE D3 M.J.first M.J.next).2.sureR x = (mkE D3 M.J.first M.J.next).2.readR x
  rw [k4, k3]
theorem CaG.chkC (G : CaG N M) (hm : M.J.num + 600 < 9223372036854775808) : CaG N (chkC M) ∧ (chkC M).J.used = 0 ∧ (chkC M).J.begun = true ∧ (∀ x, (chkC M).dirty x = none) ∧ (chkC M).J.first = M.J.first ∧ (chkC M).J.count = M.J.count ∧ (∀ x, x ≠ M.J.first → rdM (chkC M) x = rdM M x) ∧ (chkC M).J.num ≤ M.J.num + 256 ∧ ∀ x, ((chkC M).D.uns x).length ≤ (M.D.uns x).length := by
 obtain ⟨-, c1, c2, c3, c4, c5, c6⟩ := G.chk hm
 unfold Go.Proofs.YtbanogfljpkbkaaGreatDoor.chkC
 split
 ·rename_i h
  exact ⟨G, h.1, h.2, G.e h.1 h.2, rfl, rfl, fun x _ => rfl, by omega, fun x => Nat.le_refl _⟩
 ·refine ⟨c1, by rw [c2], by rw [c2], fun x => rfl, by rw [c2], by rw [c2], fun x hx => ?_, c6, fun x => by rw [c5]; exact Nat.zero_le _⟩
  show (chkM M).D.readR x = _
  rw [c3, if_neg hx]
theorem CaG.room (G : CaG N M) (hm : M.J.num + 600 < 9223372036854775808) (n : Nat) : CaG N (roomM M n) ∧ (roomM M n).J.first = M.J.first ∧ (roomM M n).J.count = M.J.count ∧ (∀ x, x ≠ M.J.first → rdM (roomM M n) x = rdM M x) ∧ (roomM M n).J.num ≤ M.J.num + 256 ∧ ∀ x, ((roomM M n).D.uns x).length ≤ (M.D.uns x).length := by
 unfold roomM
 split
 ·exact ⟨G, rfl, rfl, fun x _ => rfl, by omega, fun x => Nat.le_refl _⟩
 ·obtain ⟨h1, h2, h3, h4, h5, h6, h7, h8, h9⟩ := G.chkC hm
  exact ⟨h1, h5, h6, h7, h8, h9⟩
theorem putD_some {d : Int → Option (List UInt8)} : ∀ (rs : List (Int × List UInt8)) (d : Int → Option (List UInt8)) {x : Int} {l : List UInt8}, putD d rs x = some l → d x = some l ∨ (x, l) ∈ rs
 | [], d, x, l, h => .inl h
 | r :: t, d, x, l, h => by
  rcases putD_some (d := d) t (updD d r) (x := x) (l := l) h with h | h
  ·unfold updD at h
   split at h
   ·rename_i e
    cases h
    subst e
    exact .inr List.mem_cons_self
   ·exact .inl h
  ·exact .inr (List.mem_cons_of_mem _ h)
theorem CaG.app (G : CaG N M) (hm : M.J.num + 600 < 9223372036854775808) : 0 ≤ (appM M.D M.J rs).1 ∧ (appM M.D M.J rs).1 ≤ 3 ∧ ((appM M.D M.J rs).1 ≠ 0 → (appM M.D M.J rs).2 = (M.D, M.J)) ∧
  ((appM M.D M.J rs).1 = 0 → (∀ r ∈ rs, r.2.length = 512) ∧ rs.length ≤ 64 ∧ CaG N ⟨(appM M.D M.J rs).2.1, (appM M.D M.J rs).2.2, putD M.dirty rs⟩ ∧ (appM M.D M.J rs).2.2.first = M.J.first ∧ (appM M.D M.J rs).2.2.count = M.J.count ∧ (appM M.D M.J rs).2.2.num ≤ M.J.num + 1 ∧
   (∀ y, y < M.J.first + 1 ∨ M.J.first + M.J.count ≤ y → (appM M.D M.J rs).2.1.readR y = M.D.readR y) ∧ ∀ r ∈ rs, 0 ≤ r.1 ∧ r.1 < N) := by
 have hlen := G.on.len
 have hc := G.c
 have hf := G.f
 have hu := G.u
 unfold appM
 rw [if_neg (by rw [G.bad]; simp)]
 by_cases h1 : rcOk M.J.num rs
 ·rw [if_neg (by simp [h1])]
  by_cases h2 : jMay M.D.sure.length M.J rs = false
  ·rw [if_pos h2]
   exact ⟨by simp, by simp, fun _ => rfl, fun h => by cases h⟩
  ·rw [if_neg h2]
   by_cases h3 : M.J.most < rs.length
   ·rw [if_pos h3]
    exact ⟨by simp, by simp, fun _ => rfl, fun h => by cases h⟩
   ·rw [if_neg h3]
    by_cases h4 : M.J.room < rs.length
    ·rw [if_pos h4]
     exact ⟨by simp, by simp, fun _ => rfl, fun h => by cases h⟩
    ·rw [if_neg h4]
     have h1l : 1 ≤ rs.length := by
      have := h1.2.2.2
      simp only [rightF, Bool.and_eq_true, decide_eq_true_eq] at this
      rw [rcP_len] at this
      omega
     have hroom : (rs.length : Int) ≤ M.J.count - 3 - M.J.used := by
      have hr : M.J.room = if M.J.bad = true ∨ M.J.begun = false then 0 else max (min (M.J.count - 3 - M.J.used) 64) 0 := rfl
      split at hr <;> omega
     have hbl := blk_len2 M.J.num rs (doneB M.J.num (blkL M.J.num rs).flatten)
     obtain ⟨k1, k2, k3, -⟩ := runS_appS (blkL M.J.num rs) (doneB M.J.num (blkL M.J.num rs).flatten) M.D N (M.J.first + 1 + M.J.used) G.on (by omega) (by rw [blkL_len]; omega) (blk_512 h1) (doneB_len _ _)
     obtain ⟨R, hR⟩ : ∃ R, runS M.D (appS (M.J.first + 1 + M.J.used) (blkL M.J.num rs) (doneB M.J.num (blkL M.J.num rs).flatten)) = R := ⟨_, rfl⟩
     rw [hR] at k1 k2 k3 ⊢
     have hmay : ∀ r ∈ rs, 0 ≤ r.1 ∧ r.1 < N ∧ (r.1 < M.J.first ∨ M.J.first + M.J.count ≤ r.1) := by
      have : jMay M.D.sure.length M.J rs = true := by simpa using h2
      rw [jMay, List.all_eq_true] at this
      intro r hr
      have := this r hr
      rw [jMay1, hlen] at this
      simp only [Bool.and_eq_true, Bool.not_eq_true', Bool.and_eq_false_iff, decide_eq_true_eq, decide_eq_false_iff_not] at this
      omega
     dsimp only
     rw [if_pos k1]
     refine ⟨by rw [k1]; decide, by rw [k1]; decide, fun h => absurd k1 h, fun _ => ⟨h1.2.2.1, h1.2.1, ⟨k2, G.n4, hc, hf, ?_, G.bad, ?_, ?_, ?_, ?_⟩, rfl, rfl, ?_, fun y hy => ?_, fun r hr => ⟨(hmay r hr).1, (hmay r hr).2.1⟩⟩⟩
     ·show 0 ≤ M.J.used + ((rs.length + 2 : Nat) : Int) ∧ M.J.used + ((rs.length + 2 : Nat) : Int) + 1 ≤ M.J.count
      omega
     ·show (M.J.num + 1) % 18446744073709551616 ≠ 0
      omega
     ·show (M.J.num + 1) % 18446744073709551616 < _
      omega
     ·intro x l hx
      rcases putD_some (d := M.dirty) rs M.dirty hx with h | h
      ·exact G.d x l h
      ·have := hmay _ h
       exact ⟨this.1, this.2.1, this.2.2, h1.2.2.1 _ h⟩
     ·intro h
      exact absurd h (by show ¬ M.J.used + ((rs.length + 2 : Nat) : Int) = 0; omega)
     ·show (M.J.num + 1) % 18446744073709551616 ≤ _
      omega
     ·rw [k3, if_neg (by rw [hbl]; omega)]
 ·rw [if_pos h1]
  exact ⟨by simp, by simp, fun _ => rfl, fun h => by cases h⟩
end
end
section
open Go.RowKit
set_option maxRecDepth 100000
def rdU (f : Int → List UInt8) (rs : List (Int × List UInt8)) : Int → List UInt8 := rs.foldl (fun f r x => if x = r.1 then r.2 else f x) f
theorem rdU_congr : ∀ (rs : List (Int × List UInt8)) (f g : Int → List UInt8) (x : Int), f x = g x → rdU f rs x = rdU g rs x
 | [], f, g, x, h => h
 | r :: t, f, g, x, h => by
  show rdU (fun x => if x = r.1 then r.2 else f x) t x = rdU (fun x => if x = r.1 then r.2 else g x) t x
  exact rdU_congr t _ _ x (by show (if x = r.1 then r.2 else f x) = (if x = r.1 then r.2 else g x); rw [h])
theorem rd_put (R : Int → List UInt8) : ∀ (rs : List (Int × List UInt8)) (d : Int → Option (List UInt8)) (x : Int), (match putD d rs x with | some l => l | none => R x) = rdU (fun x => match d x with | some l => l | none => R x) rs x
 | [], d, x => rfl
 | r :: t, d, x => by
  have ih := rd_put R t (updD d r) x
  show (match putD (updD d r) t x with | some l => l | none => R x) = _
  rw [ih]
  show _ = rdU (fun x => if x = r.1 then r.2 else match d x with | some l => l | none => R x) t x
  refine rdU_congr t _ _ x ?_
  show (match (if x = r.1 then some r.2 else d x) with | some l => l | none => R x) = if x = r.1 then r.2 else match d x with | some l => l | none => R x
  by_cases e : x = r.1
  ·simp [e]
  ·simp [e]
section
variable {N : Nat} {M : CaM} {rs : List (Int × List UInt8)}
theorem CaG.com (G : CaG N M) (hm : M.J.num + 1200 < 9223372036854775808) : 0 ≤ comE M rs ∧ comE M rs ≤ 3 ∧ CaG N (comM M rs) ∧ (comM M rs).J.first = M.J.first ∧ (comM M rs).J.count = M.J.count ∧ (comM M rs).J.num ≤ M.J.num + 257 ∧ (∀ x, ((comM M rs).D.uns x).length ≤ (M.D.uns x).length + 67) ∧
  (comE M rs = 0 → (∀ r ∈ rs, r.2.length = 512) ∧ rs.length ≤ 64 ∧ (∀ r ∈ rs, 0 ≤ r.1 ∧ r.1 < N) ∧ ∀ x, x < M.J.first ∨ M.J.first + M.J.count ≤ x → rdM (comM M rs) x = rdU (rdM M) rs x) ∧
  (comE M rs ≠ 0 → ∀ x, x < M.J.first ∨ M.J.first + M.J.count ≤ x → rdM (comM M rs) x = rdM M x) := by
 have hc := G.c
 obtain ⟨h1, h2, h3, h4, h5, h6⟩ := G.room (by omega) rs.length
 have ha := h1.app (rs := rs) (by omega)
 have hun : ∀ x, ((appM (roomM M rs.length).D (roomM M rs.length).J rs).2.1.uns x).length ≤ (M.D.uns x).length + 67 := fun x => by
  have := appM_uns (roomM M rs.length).D (roomM M rs.length).J rs x
  have := h6 x
  omega
 obtain ⟨a1, a2, a3, a4⟩ := ha
 refine ⟨a1, a2, ?_⟩
 by_cases hz : comE M rs = 0
 ·obtain ⟨b1, b2, b3, b4, b5, b6, b7, b8⟩ := a4 hz
  have hM : comM M rs = ⟨(appM (roomM M rs.length).D (roomM M rs.length).J rs).2.1, (appM (roomM M rs.length).D (roomM M rs.length).J rs).2.2, putD (roomM M rs.length).dirty rs⟩ := if_pos hz
  rw [hM]
  refine ⟨b3, b4.trans h2, b5.trans h3, by show (appM _ _ rs).2.2.num ≤ _; omega, hun, fun _ => ⟨b1, b2, b8, fun x hx => ?_⟩, fun h => absurd hz h⟩
  show (match putD (roomM M rs.length).dirty rs x with | some l => l | none => (appM (roomM M rs.length).D (roomM M rs.length).J rs).2.1.readR x) = _
  rw [b7 x (by rw [h2, h3]; omega)]
  have := rd_put (roomM M rs.length).D.readR rs (roomM M rs.length).dirty x
  rw [this]
  exact rdU_congr rs _ _ x (h4 x (by omega))
 ·have hM : comM M rs = roomM M rs.length := if_neg hz
  rw [hM]
  exact ⟨h1, h2, h3, by omega, fun x => by have := h6 x; omega, fun h => absurd h hz, fun _ x hx => h4 x (by omega)⟩
end
end
section
open Go.RowKit
set_option maxRecDepth 100000
theorem app_gen {D : DkM} {J : JrM} {N : Nat} {rs : List (Int × List UInt8)} (h : On D N) (hb : J.bad = false) (hr : rcOk J.num rs) (hm : J.num + 1 < 18446744073709551616) (hj : jMay N J rs = true) (h1 : (rs.length : Int) ≤ J.most) (h2 : (rs.length : Int) ≤ J.room)
  (h0 : 0 ≤ J.first + 1 + J.used) (hN : J.first + 1 + J.used + rs.length + 2 ≤ N) :
  ∃ E, appM D J rs = (0, E, { J with used := J.used + ((rs.length + 2 : Nat) : Int), num := J.num + 1 }) ∧ On E N ∧
   (∀ y, E.readR y = if J.first + 1 + J.used ≤ y ∧ y < J.first + 1 + J.used + (blkL J.num rs ++ [doneB J.num (blkL J.num rs).flatten]).length then (blkL J.num rs ++ [doneB J.num (blkL J.num rs).flatten]).getD (y - (J.first + 1 + J.used)).toNat [] else D.readR y) ∧
   ∀ x, (E.uns x).length ≤ (D.uns x).length + 67 := by
 obtain ⟨k1, k2, k3, -⟩ := runS_appS (blkL J.num rs) (doneB J.num (blkL J.num rs).flatten) D N (J.first + 1 + J.used) h h0 (by rw [blkL_len]; omega) (blk_512 hr) (doneB_len _ _)
 have hu := appM_uns D J rs
 have ha : appM D J rs = (0, (runS D (appS (J.first + 1 + J.used) (blkL J.num rs) (doneB J.num (blkL J.num rs).flatten))).2, { J with used := J.used + ((rs.length + 2 : Nat) : Int), num := J.num + 1 }) := by
  unfold appM
  rw [if_neg (by rw [hb]; simp), if_neg (by simp [hr]), h.len, if_neg (by rw [hj]; simp), if_neg (by omega), if_neg (by omega), k1, if_pos rfl, Nat.mod_eq_of_lt hm]
 exact ⟨_, ha, k2, k3, fun x => by have := hu x; rwa [ha] at this⟩
end
section
open Go.Shelf
def Tryz.sortedA_ren : Go.Shelf.Ren := ⟨fun | 6 => 88 | 8 => 138 | 9 => 139 | 11 => 189 | 13 => 191 | 12 => 190 | 23 => 219 | 24 => 220 | 14 => 210 | 15 => 211 | 16 => 212 | 17 => 213 | 18 => 214 | 19 => 215 | 20 => 216 | 21 => 217 | 22 => 218 | 25 => 228 | 26 => 229 | 27 => 230 | 28 => 231 | 29 => 232 | 30 => 233 | 31 => 236 | n => n, fun | 26 => 3 | 28 => 153 | 24 => 36 | 0 => 0 | 3 => 3 | 37 => 161 | 48 => 156 | 50 => 57 | 4 => 4 | 40 => 235 | 39 => 234 | 45 => 240 | 5 => 5 | 9 => 9 | 51 => 249 | 55 => 253 | 57 => 257 | 58 => 258 | 33 => 165 | n => n, fun | n => n⟩
theorem Tryz.sortedA : Go.Proofs.SlLaysZI.n6 Tryz.prog Tryz.sortedA_ren := {
 mixed := by kernel_rfl
 f6 := ⟨Tryz.f88.name, by decide, Tryz.func88.trans (congrArg some (by kernel_rfl))⟩
 f8 := ⟨Tryz.f138.name, by decide, Tryz.func138.trans (congrArg some (by kernel_rfl))⟩
 f11 := ⟨Tryz.f189.name, by decide, Tryz.func189.trans (congrArg some (by kernel_rfl))⟩
 t0 := Tryz.underlying0
 a0 := Tryz.isAgg0
 z0 := Tryz.sizeOf0
 v0 := Tryz.zeroValue0
 t24 := Tryz.underlying36
 a24 := Tryz.isAgg36
 z24 := Tryz.sizeOf36
 v24 := Tryz.zeroValue36
 t26 := Tryz.underlying3
 a26 := Tryz.isAgg3
 z26 := Tryz.sizeOf3
 v26 := Tryz.zeroValue3
 t28 := Tryz.underlying153
 a28 := Tryz.isAgg153
 z28 := Tryz.sizeOf153
 v28 := Tryz.zeroValue153
 i26 := by kernel_rfl }
def Tryz.sortA_ren : Go.Shelf.Ren := ⟨fun | 5 => 139 | 8 => 191 | 7 => 190 | 19 => 219 | 20 => 220 | 10 => 210 | 11 => 211 | 12 => 212 | 13 => 213 | 14 => 214 | 15 => 215 | 16 => 216 | 17 => 217 | 18 => 218 | 30 => 228 | 31 => 229 | 32 => 230 | 33 => 231 | 34 => 232 | 35 => 233 | 40 => 236 | n => n, fun | 23 => 36 | 25 => 3 | 3 => 3 | 32 => 161 | 22 => 36 | 0 => 0 | 44 => 156 | 46 => 57 | 4 => 4 | 36 => 235 | 35 => 234 | 41 => 240 | 5 => 5 | 9 => 9 | 53 => 249 | 57 => 253 | 63 => 257 | 64 => 258 | n => n, fun | n => n⟩
theorem Tryz.sortA : Go.Proofs.SlLaysM.n5 Tryz.prog Tryz.sortA_ren := {
 mixed := by kernel_rfl
 f5 := ⟨Tryz.f139.name, by decide, Tryz.func139.trans (congrArg some (by kernel_rfl))⟩
 f7 := ⟨Tryz.f190.name, by decide, Tryz.func190.trans (congrArg some (by kernel_rfl))⟩
 f8 := Tryz.func191.trans (congrArg some (by kernel_rfl))
 f10 := ⟨Tryz.f210.name, by decide, Tryz.func210.trans (congrArg some (by kernel_rfl))⟩
 f11 := ⟨Tryz.f211.name, by decide, Tryz.func211.trans (congrArg some (by kernel_rfl))⟩
 f12 := ⟨Tryz.f212.name, by decide, Tryz.func212.trans (congrArg some (by kernel_rfl))⟩
 f13 := ⟨Tryz.f213.name, by decide, Tryz.func213.trans (congrArg some (by kernel_rfl))⟩
 f14 := ⟨Tryz.f214.name, by decide, Tryz.func214.trans (congrArg some (by kernel_rfl))⟩
 f15 := ⟨Tryz.f215.name, by decide, Tryz.func215.trans (congrArg some (by kernel_rfl))⟩
 f16 := ⟨Tryz.f216.name, by decide, Tryz.func216.trans (congrArg some (by kernel_rfl))⟩
 f17 := ⟨Tryz.f217.name, by decide, Tryz.func217.trans (congrArg some (by kernel_rfl))⟩
 f18 := ⟨Tryz.f218.name, by decide, Tryz.func218.trans (congrArg some (by kernel_rfl))⟩
 f19 := Tryz.func219.trans (congrArg some (by kernel_rfl))
 f20 := Tryz.func220.trans (congrArg some (by kernel_rfl))
 f30 := ⟨Tryz.f228.name, by decide, Tryz.func228.trans (congrArg some (by kernel_rfl))⟩
 f31 := Tryz.func229.trans (congrArg some (by kernel_rfl))
 f32 := Tryz.func230.trans (congrArg some (by kernel_rfl))
 f33 := ⟨Tryz.f231.name, by decide, Tryz.func231.trans (congrArg some (by kernel_rfl))⟩
 f34 := ⟨Tryz.f232.name, by decide, Tryz.func232.trans (congrArg some (by kernel_rfl))⟩
 f35 := ⟨Tryz.f233.name, by decide, Tryz.func233.trans (congrArg some (by kernel_rfl))⟩
 f40 := ⟨Tryz.f236.name, by decide, Tryz.func236.trans (congrArg some (by kernel_rfl))⟩
 t0 := Tryz.underlying0
 a0 := Tryz.isAgg0
 z0 := Tryz.sizeOf0
 v0 := Tryz.zeroValue0
 t3 := Tryz.underlying3
 a3 := Tryz.isAgg3
 z3 := Tryz.sizeOf3
 v3 := Tryz.zeroValue3
 t4 := Tryz.underlying4
 a4 := Tryz.isAgg4
 z4 := Tryz.sizeOf4
 v4 := Tryz.zeroValue4
 t5 := Tryz.underlying5
 a5 := Tryz.isAgg5
 z5 := Tryz.sizeOf5
 v5 := Tryz.zeroValue5
 t9 := Tryz.underlying9
 a9 := Tryz.isAgg9
 z9 := Tryz.sizeOf9
 v9 := Tryz.zeroValue9
 t22 := Tryz.underlying36
 a22 := Tryz.isAgg36
 z22 := Tryz.sizeOf36
 v22 := Tryz.zeroValue36
 t23 := Tryz.underlying36
 a23 := Tryz.isAgg36
 z23 := Tryz.sizeOf36
 v23 := Tryz.zeroValue36
 t25 := Tryz.underlying3
 a25 := Tryz.isAgg3
 z25 := Tryz.sizeOf3
 v25 := Tryz.zeroValue3
 t32 := Tryz.underlying161
 a32 := Tryz.isAgg161
 z32 := Tryz.sizeOf161
 v32 := Tryz.zeroValue161
 t35 := Tryz.underlying234
 a35 := Tryz.isAgg234
 z35 := Tryz.sizeOf234
 v35 := Tryz.zeroValue234
 t36 := Tryz.underlying235
 a36 := Tryz.isAgg235
 z36 := Tryz.sizeOf235
 v36 := Tryz.zeroValue235
 t41 := Tryz.underlying240
 a41 := Tryz.isAgg240
 z41 := Tryz.sizeOf240
 v41 := Tryz.zeroValue240
 t44 := Tryz.underlying156
 a44 := Tryz.isAgg156
 z44 := Tryz.sizeOf156
 v44 := Tryz.zeroValue156
 t46 := Tryz.underlying57
 a46 := Tryz.isAgg57
 z46 := Tryz.sizeOf57
 v46 := Tryz.zeroValue57
 t53 := Tryz.underlying249
 a53 := Tryz.isAgg249
 z53 := Tryz.sizeOf249
 v53 := Tryz.zeroValue249
 t57 := Tryz.underlying253
 a57 := Tryz.isAgg253
 z57 := Tryz.sizeOf253
 v57 := Tryz.zeroValue253
 t63 := Tryz.underlying257
 a63 := Tryz.isAgg257
 z63 := Tryz.sizeOf257
 v63 := Tryz.zeroValue257
 t64 := Tryz.underlying258
 a64 := Tryz.isAgg258
 z64 := Tryz.sizeOf258
 v64 := Tryz.zeroValue258 }
end
section
open Go.RowKit Go.Maps Go.Sort Go.Shelf
set_option maxRecDepth 100000
theorem sortsA (m : Nat) : AnyZI.SortsIn Tryz.prog Tryz.sortedA_ren Fence.wide m :=
 ⟨fun blk off cap ss W hH hblk hsz => callsIn_wide.2 (AnyM.slices_Sort_int Tryz.sortA blk off cap ss W hH hblk hsz),
  fun p cap W => callsIn_wide.2 (AnyM.slices_Sort_int_none Tryz.sortA p cap W)⟩
def KeyL (f : Int → Option Value) (zs : List Int) : Prop := zs.Pairwise (fun x y => x < y) ∧ ∀ x, x ∈ zs ↔ (wfZ x ∧ (f x).isSome = true)
theorem KeyL.of_perm {D : DataW Value} {w : World} {b n : Nat} {f : Int → Option Value} (hown : w.ownsMap Tryz.prog 3 rawV b n D) (hf : AsF D f) {ss : List Int} (hS : ss.Perm (intKeys D)) :
  KeyL f (ss.mergeSort (fun x y => decide (x ≤ y))) ∧ ss.length ≤ n := by
 have hp := List.mergeSort_perm ss (fun x y : Int => decide (x ≤ y))
 obtain ⟨es, hD, hpw, _⟩ := hown.entries keyZ
 obtain ⟨es', hD', hko⟩ := hown.keysOf
 obtain rfl : es = es' := by rw [hD] at hD'; simpa using hD'
 subst hD
 have hk : ∀ p ∈ es, ∃ x, p.1 = .int .i64 x ∧ wfZ x := fun p hp => by
  obtain ⟨v, hv⟩ := hko p hp
  obtain ⟨x, _, h1, h2⟩ := Maps.keyOf_i64 Tryz.underlying3 hv
  exact ⟨x, h1, h2⟩
 have hnd : (intKeys (.map es)).Nodup := by
  show (es.map fun p => Go.intOf p.1).Nodup
  refine List.pairwise_map.2 (hpw.imp_of_mem fun {p q} hp' hq' hne e => hne ?_)
  obtain ⟨a, ha, _⟩ := hk p hp'
  obtain ⟨b, hb, _⟩ := hk q hq'
  rw [ha, hb] at e ⊢
  exact congrArg _ e
 have hm : ∀ x, x ∈ intKeys (.map es) ↔ (wfZ x ∧ (f x).isSome = true) := fun x => by
  show x ∈ es.map (fun p => Go.intOf p.1) ↔ _
  rw [List.mem_map]
  constructor
  ·rintro ⟨p, hp', rfl⟩
   obtain ⟨a, ha, hw⟩ := hk p hp'
   rw [ha]
   refine ⟨hw, ?_⟩
   show (f a).isSome = true
   rw [← (hf a hw).1, has_eq, List.any_eq_true]
   exact ⟨p, hp', by rw [ha]; simp [Lit.sameKey]⟩
  ·rintro ⟨hw, hx⟩
   rw [← (hf x hw).1, has_eq, List.any_eq_true] at hx
   obtain ⟨p, hp', hs⟩ := hx
   obtain ⟨a, ha, _⟩ := hk p hp'
   rw [ha] at hs
   exact ⟨p, hp', by rw [ha]; simpa [Lit.sameKey, Go.intOf] using hs⟩
 refine ⟨⟨?_, fun x => ?_⟩, ?_⟩
 ·have h1 : (ss.mergeSort (fun x y : Int => decide (x ≤ y))).Pairwise (fun a b => decide (a ≤ b) = true) :=
   List.pairwise_mergeSort (fun a b c h1 h2 => by simp only [decide_eq_true_eq] at *; omega) (fun a b => by simp only [Bool.or_eq_true, decide_eq_true_eq]; omega) ss
  have h2 : (ss.mergeSort (fun x y : Int => decide (x ≤ y))).Nodup := (hp.trans hS).nodup_iff.2 hnd
  exact (h1.and h2).imp fun {a b} h => by
   have := h.1
   simp only [decide_eq_true_eq] at this
   have := h.2
   omega
 ·rw [(hp.trans hS).mem_iff, hm]
 ·rw [hS.length_eq]
  have := hown.size_le
  show (es.map _).length ≤ n
  rw [List.length_map]
  exact this
theorem KeyL.uniq {f : Int → Option Value} {a b : List Int} (ha : KeyL f a) (hb : KeyL f b) : a = b := by
 have hm : ∀ x, x ∈ a ↔ x ∈ b := fun x => (ha.2 x).trans (hb.2 x).symm
 have na : a.Nodup := ha.1.imp fun {x y} h => by omega
 have nb : b.Nodup := hb.1.imp fun {x y} h => by omega
 have hp : a.Perm b := (List.perm_ext_iff_of_nodup na nb).2 hm
 exact hp.eq_of_pairwise (le := fun x y => x < y) (fun x y _ _ h1 h2 => by omega) ha.1 hb.1
end
section
open Go.Shelf
def Tryz.keysB_ren : Go.Shelf.Ren := ⟨fun | 7 => 89 | 10 => 140 | n => n, fun | 23 => 147 | 26 => 3 | 3 => 27 | 28 => 153 | 0 => 0 | 27 => 152 | 33 => 165 | 4 => 4 | n => n, fun | n => n⟩
theorem Tryz.keysB : Go.Proofs.SlLaysZI.n7 Tryz.prog Tryz.keysB_ren := {
 mixed := by kernel_rfl
 f7 := ⟨Tryz.f89.name, by decide, Tryz.func89.trans (congrArg some (by kernel_rfl))⟩
 f10 := ⟨Tryz.f140.name, by decide, Tryz.func140.trans (congrArg some (by kernel_rfl))⟩
 t0 := Tryz.underlying0
 a0 := Tryz.isAgg0
 z0 := Tryz.sizeOf0
 v0 := Tryz.zeroValue0
 t4 := Tryz.underlying4
 a4 := Tryz.isAgg4
 z4 := Tryz.sizeOf4
 v4 := Tryz.zeroValue4
 t23 := Tryz.underlying147
 a23 := Tryz.isAgg147
 z23 := Tryz.sizeOf147
 v23 := Tryz.zeroValue147
 t26 := Tryz.underlying3
 a26 := Tryz.isAgg3
 z26 := Tryz.sizeOf3
 v26 := Tryz.zeroValue3
 t27 := Tryz.underlying152
 a27 := Tryz.isAgg152
 z27 := Tryz.sizeOf152
 v27 := Tryz.zeroValue152
 t28 := Tryz.underlying153
 a28 := Tryz.isAgg153
 z28 := Tryz.sizeOf153
 v28 := Tryz.zeroValue153
 t33 := Tryz.underlying165
 a33 := Tryz.isAgg165
 z33 := Tryz.sizeOf165
 v33 := Tryz.zeroValue165 }
end
section
open Go.RowKit Go.Maps Go.Sort Go.Shelf
set_option maxRecDepth 100000
theorem keysS_any (b : Nat) (w : World) : Calls Tryz.prog 89 #[.map (some b)] w fun e w' => e = .returned (.func (.func 140) #[] #[.pointer (some ⟨w.heap.size, 0, none⟩)]) ∧ w' = w.alloc (.cells #[.map (some b)] 147) :=
 (callsIn_wide (n := 5)).1 (AnyZI.keys_in Tryz.keysB Fence.wide 5 trivial rfl (some b) w)
theorem sortedS_any {w : World} {b n : Nat} {f : Int → Option Value} (h : MapZ w b n f) (hn : n ≤ 17592186044416) :
  Calls Tryz.prog 88 #[.func (.func 140) #[] #[.pointer (some ⟨w.heap.size, 0, none⟩)]] (w.alloc (.cells #[.map (some b)] 147)) fun e w' => ∃ (v : Value) (zs : List Int), e = .returned v ∧ KeyL f zs ∧ zs.length ≤ n ∧
   Row w' w.heap.size 3 1 v zs.length (zs.map (Value.int .i64)) ∧ Fr [] (w.alloc (.cells #[.map (some b)] 147)) w' := by
 obtain ⟨D, hown, hf⟩ := h
 have hs := hown.size_le
 have hmx : Maps.size D ≤ maxLen := by simp only [maxLen]; omega
 have hby : Maps.size D * 8 ≤ 140737488355328 := by omega
 have hbl := hown.lt
 have hseq : SeqGives Fence.wide 2 Tryz.prog 140 #[.pointer (some ⟨w.heap.size, 0, none⟩)] encZ (fun ss => ss.Perm (intKeys D)) (Maps.size D) (w.alloc (.cells #[.map (some b)] 147)) :=
  AnyZI.keys_gives (ρ := Tryz.keysB_ren) { Tryz.keysB with } Fence.wide _ trivial rfl (by omega) w.heap.size b n D _ (by simp) (by simp) (by
   obtain ⟨es, clock, hb, Ft, hs, hD⟩ := hown
   exact ⟨es, clock, (Below.heap_alloc _ _ b hbl).trans hb, Ft, hs, hD⟩)
 have cS := AnyZI.sorted_in Tryz.sortedA Fence.wide 5 trivial trivial trivial trivial rfl (by omega) (sortsA _) (enters_of Tryz.func139 (by kernel_rfl) rfl) 140 #[.pointer (some ⟨w.heap.size, 0, none⟩)] trivial (enters_of Tryz.func140 (by kernel_rfl) rfl) _ _ hmx hby _ hseq
 change CallsIn _ _ Tryz.prog 88 _ _ _ at cS
 refine (callsIn_wide.1 cS).mono ?_
 rintro e w' ⟨v, ss, rfl, hS, hrow, -, hb⟩
 obtain ⟨k1, k2⟩ := KeyL.of_perm hown hf hS
 have hl : (ss.mergeSort (fun x y : Int => decide (x ≤ y))).length = ss.length := (List.mergeSort_perm _ _).length_eq
 refine ⟨v, _, rfl, k1, by omega, ?_, Fr.of_below hb⟩
 rw [hl]
 exact Row.of_own (ownsRow_base_a hrow (by simp))
end
section
open Go.RowKit
abbrev zS : Value := .slice none 0 0
theorem zeroS (w : World) : (zeroValue 27).run Tryz.prog w = .ok zS w := Tryz.zeroValue27 w
theorem undS : Tryz.prog.underlying 147 = some (.map 3 27) := Tryz.underlying147
end
section
open Go.RowKit Go.Maps
theorem MapZ.lenS {w : World} {b n : Nat} {f : Int → Option Value} (h : MapZ w b n f) {zs : List Int} (hz : KeyL f zs) {t e : TypeId} (ht : Tryz.prog.underlying t = some (.map 3 e)) (ty : TypeId) : (Builtin.len_ #[t] ty #[.map (some b)]).run Tryz.prog w = .ok (.int .i64 zs.length) w ∧ zs.length ≤ n := by
 obtain ⟨D, hown, hf⟩ := h
 obtain ⟨k1, k2⟩ := KeyL.of_perm hown hf (List.Perm.refl (intKeys D))
 have e : zs.length = Maps.size D := by
  rw [hz.uniq k1, (List.mergeSort_perm _ _).length_eq]
  obtain ⟨es, hD, -⟩ := hown.entries keyZ
  rw [hD]
  show (es.map _).length = _
  rw [List.length_map]
  rfl
 have hs := hown.size_le
 rw [e]
 exact ⟨hown.len ht ty, hs⟩
structure SrtW (w : World) (p b n : Nat) (f : Int → Option Value) : Prop where
 blk : Blk w p 149 #[.map (some b)]
 map : MapZ w b n f
section
variable {w w' : World} {p b n : Nat} {f : Int → Option Value}
theorem SrtW.ne (h : SrtW w p b n f) : b ≠ p := fun e => by
 have h1 := h.blk
 obtain ⟨D, ⟨es, clock, hb, _⟩, _⟩ := h.map
 unfold Blk at h1
 rw [← e, hb] at h1
 cases h1
theorem SrtW.keep (h : SrtW w p b n f) {F : List Nat} (fr : Fr F w w') (hp : p ∉ F) (hb : b ∉ F) : SrtW w' p b n f := ⟨h.blk.keep fr hp, h.map.keep fr hb⟩
theorem SrtW.keep_nil (h : SrtW w p b n f) (fr : Fr [] w w') : SrtW w' p b n f := h.keep fr (by simp) (by simp)
theorem SrtW.c0 (h : SrtW w p b n f) : w.cell? ⟨p, 0, none⟩ = some (.map (some b)) := h.blk.cell 0
theorem SrtW.noTy (h : SrtW w p b n f) (e : TypeId) : ∀ i ∈ [b], ∀ cs fz, w.heap[i]? ≠ some (.cells cs e fz) := fun i hi cs fz hc => by
 obtain ⟨D, ⟨es, clock, hb, _⟩, _⟩ := h.map
 rw [List.mem_singleton.1 hi, hb] at hc
 cases hc
theorem neqMapS (b : Nat) (w : World) : (binOp .neq 147 (.map (some b)) (.map none)).run Tryz.prog w = .ok (.bool true) w := by kernel_rfl
set_option maxRecDepth 100000
theorem srtNew_any (w : World) : Calls Tryz.prog 61 #[] w fun e w' => e = .returned (.pointer (some ⟨w.heap.size + 1, 0, none⟩)) ∧ SrtW w' (w.heap.size + 1) w.heap.size 0 (fun _ => none) ∧ Fr [] w w' ∧ w'.heap.size = w.heap.size + 2 := by
 have hmm := @run_makeMap Tryz.prog
 have m1 := MapZ.made w
 have f1 : Fr [] w (w.alloc (.map #[] 0)) := (Fr.refl _ _).alloc _
 have k2 := Blk.new (w.alloc (.map #[] 0)) 149 #[.map (some w.heap.size)]
 have f2 : Fr [] (w.alloc (.map #[] 0)) ((w.alloc (.map #[] 0)).alloc (.cells #[.map (some w.heap.size)] 149)) := (Fr.refl _ _).alloc _
 have HF := Lib.hid (And.intro m1 (And.intro f1 (And.intro k2 f2)))
 clear m1 f1 k2 f2
 go_enter Tryz.func61, Tryz.ntmps61
 go_wp2_with fail
 obtain ⟨m1, f1, k2, f2⟩ := HF.out
 go_ret
 have e1 : (w.alloc (.map #[] 0)).heap.size = w.heap.size + 1 := by simp
 rw [e1] at k2
 exact ⟨rfl, ⟨k2, m1.keep_nil f2⟩, f1.trans_nil f2, by simp⟩
theorem srtSet_any (h : SrtW w p b n f) (hn : n < maxLen) (k : Int) (hk : wfZ k) (v : Value) (hv : v.cells = #[v]) : Calls Tryz.prog 60 #[.pointer (some ⟨p, 0, none⟩), .int .i64 k, v] w fun e w' => e = .returned (.tuple #[]) ∧ SrtW w' p b (n + 1) (fput f k v) ∧ Fr [b] w w' := by
 have c0 := h.c0
 have nq := neqMapS b
 have hm := h.map
 have HH := Lib.hid h
 clear h
 go_enter Tryz.func60, Tryz.ntmps60
 go_wp2_with (refine wpList_putZ rfl rfl undS rfl hm hn k rfl hk v rfl ?_; intro w1 m1 f1 z1)
 have HM := Lib.hid (And.intro m1 f1)
 clear m1 f1 z1 hm c0
 go_wp2_with fail
 go_returns
 exact ⟨rfl, ⟨HH.out.blk.keep HM.out.2 (fun hm => HH.out.ne (List.mem_singleton.1 hm).symm), HM.out.1⟩, HM.out.2⟩
theorem srtGet_any (h : SrtW w p b n f) (k : Int) (hk : wfZ k) : Calls Tryz.prog 57 #[.pointer (some ⟨p, 0, none⟩), .int .i64 k] w fun e w' => e = .returned (.tuple #[(f k).getD zS, .bool (f k).isSome]) ∧ w = w' := by
 have c0 := h.c0
 have hm := h.map
 clear h
 go_enter Tryz.func57, Tryz.ntmps57
 go_wp2_with (refine wpList_lookOkZ rfl rfl undS (zeroS _) rfl hm k rfl hk ?_)
 go_ret2
 exact ⟨rfl, rfl⟩
theorem srtLen_any (h : SrtW w p b n f) {zs : List Int} (hz : KeyL f zs) : Calls Tryz.prog 47 #[.pointer (some ⟨p, 0, none⟩)] w fun e w' => e = .returned (.int .i64 zs.length) ∧ w = w' := by
 have c0 := h.c0
 have hl := (h.map.lenS hz undS 3).1
 clear h
 go_enter Tryz.func47, Tryz.ntmps47
 go_wp2_with fail
 go_ret
 exact ⟨rfl, rfl⟩
theorem srtClear_any (h : SrtW w p b n f) : Calls Tryz.prog 56 #[.pointer (some ⟨p, 0, none⟩)] w fun e w' => e = .returned (.tuple #[]) ∧ SrtW w' p b 0 (fun _ => none) ∧ Fr [b] w w' := by
 have c0 := h.c0
 have hm := h.map
 have HH := Lib.hid h
 clear h
 go_enter Tryz.func56, Tryz.ntmps56
 go_wp2_with (refine wpList_clearZ rfl rfl undS rfl hm ?_; intro w6 m6 f6 z6)
 have HM := Lib.hid (And.intro m6 f6)
 clear m6 f6 z6 hm c0
 go_wp2_with fail
 go_returns
 exact ⟨rfl, ⟨HH.out.blk.keep HM.out.2 (fun hm => HH.out.ne (List.mem_singleton.1 hm).symm), HM.out.1⟩, HM.out.2⟩
theorem srtAll_any (P : Option Addr) (w : World) : Calls Tryz.prog 48 #[.pointer P] w fun e w' => e = .returned (.func (.func 87) #[] #[.pointer (some ⟨w.heap.size, 0, none⟩)]) ∧ w' = w.alloc (.cells #[.pointer P] 97) := by
 go_enter Tryz.func48, Tryz.ntmps48
 go_wp2_with fail
 go_ret
 exact ⟨rfl, rfl⟩
end
end
section
open Go.RowKit Go.Shelf
theorem fr_grown {A C : World} (f : Fr [] A C) : A.grownBy C none := ⟨f.os, f.tape, f.output, f.size, fun k hk _ => f.same k hk (by simp)⟩
theorem grown_frR {A C : World} {r : Option Nat} (h : A.grownBy C r) : Fr r.toList A C := ⟨h.os, h.tape, h.output, h.size, fun k hk hn => h.block k hk (by cases r <;> simp_all)⟩
theorem keepsO_of_fr {F : List Nat} {A C : World} (f : Fr F A C) (hF : ∀ k ∈ F, ∀ o, A.heap[k]? = some o → o.isCells = true) : KeepsOthers A C :=
 ⟨f.size, fun k o hk hc => by
  rw [f.same k (Array.getElem?_eq_some_iff.1 hk).1 (fun hm => by rw [hF k hm o hk] at hc; cases hc)]
  exact hk⟩
end
section
open Go.RowKit Go.Shelf
attribute [local go_sem] Oper.semAt_some
set_option maxRecDepth 100000
abbrev PairF (f : Int → Option Value) := { p : Int × Value // wfZ p.1 ∧ f p.1 = some p.2 }
def encP (f : Int → Option Value) (x : PairF f) : Array Value := #[.int .i64 x.1.1, x.1.2]
theorem KeyL.val {f : Int → Option Value} {zs : List Int} (h : KeyL f zs) {x : Int} (hx : x ∈ zs) : wfZ x ∧ ∃ v, f x = some v := by
 obtain ⟨h1, h2⟩ := (h.2 x).1 hx
 exact ⟨h1, Option.isSome_iff_exists.1 h2⟩
noncomputable def pairsF {f : Int → Option Value} {zs : List Int} (h : KeyL f zs) : List (PairF f) := zs.attach.map fun x => ⟨(x.1, (h.val x.2).2.choose), (h.val x.2).1, (h.val x.2).2.choose_spec⟩
theorem pairsF_len {f : Int → Option Value} {zs : List Int} (h : KeyL f zs) : (pairsF h).length = zs.length := by simp [pairsF]
theorem pairsF_at {f : Int → Option Value} {zs : List Int} (h : KeyL f zs) {k : Nat} (hk : k < zs.length) : ∃ x : PairF f, (pairsF h)[k]? = some x ∧ x.1.1 = zs[k] := by
 have hk' : k < (pairsF h).length := by rw [pairsF_len]; exact hk
 refine ⟨(pairsF h)[k], List.getElem?_eq_getElem hk', ?_⟩
 simp [pairsF]
theorem pairsF_keys {f : Int → Option Value} {zs : List Int} (h : KeyL f zs) : (pairsF h).map (·.1.1) = zs := by
 apply List.ext_getElem
 ·simp [pairsF_len]
 ·intro i h1 h2
  obtain ⟨x, e1, e2⟩ := pairsF_at h h2
  rw [List.getElem_map]
  have : (pairsF h)[i]'(by simpa using h1) = x := by
   have h3 : i < (pairsF h).length := by simpa using h1
   rw [List.getElem?_eq_getElem h3] at e1
   exact Option.some.inj e1
  rw [this, e2]
end
section
open Go.RowKit
set_option maxRecDepth 100000
structure CaP where
 p : Nat
 g : Nat
 s : Nat
 b : Nat
 c : Nat
def DirV (w : World) (f : Int → Option Value) (d : Int → Option (List UInt8)) : Prop := ∀ x, (f x = none ∧ d x = none) ∨ ∃ v l, f x = some v ∧ d x = some l ∧ BlkB w v l ∧ 0 ≤ x ∧ x < 4096
structure CaW (w : World) (P : CaP) (O : List Nat) (M : CaM) : Prop where
 blk : Blk w P.c 133 #[.pointer (some ⟨P.p, 0, none⟩), .pointer (some ⟨P.g, 0, none⟩), .pointer (some ⟨P.s, 0, none⟩), .bool false]
 dsk : Dsk w P.p O M.D
 jr : Jr w P.g P.p M.J
 srt : ∃ f, SrtW w P.s P.b 4096 f ∧ DirV w f M.dirty
 nO : P.c ∉ O ∧ P.g ∉ O ∧ P.s ∉ O ∧ P.b ∉ O
def CaP.own (P : CaP) (O : List Nat) : List Nat := P.c :: P.g :: P.b :: O
section
variable {w w' w1 w2 : World} {P : CaP} {O : List Nat} {M M' : CaM} {D' : DkM} {F : List Nat}
theorem DirV.keepT {f : Int → Option Value} {d : Int → Option (List UInt8)} (h : DirV w f d) (fr : Fr F w w') (h8 : NoTy w F 5) : DirV w' f d := fun x => by
 rcases h x with h | ⟨v, l, h1, h2, h3, h4⟩
 ·exact .inl h
 ·exact .inr ⟨v, l, h1, h2, h3.keepT fr h8, h4⟩
theorem SrtW.noTyB {p b n : Nat} {f : Int → Option Value} (h : SrtW w p b n f) (e : TypeId) : NoTy w [b] e := h.noTy e
theorem CaW.keep (h : CaW w P O M) (f : Fr F w w') (hc : P.c ∉ F) (hg : P.g ∉ F) (hs : P.s ∉ F) (hb : P.b ∉ F) (hO : ∀ i ∈ O, i ∉ F) (h8 : NoTy w F 5) : CaW w' P O M := by
 obtain ⟨v, h1, h2⟩ := h.srt
 exact ⟨h.blk.keep f hc, h.dsk.keep f hO h8, h.jr.keep f hg, ⟨v, h1.keep f hs hb, h2.keepT f h8⟩, h.nO⟩
theorem CaW.keep_nil (h : CaW w P O M) (f : Fr [] w w') : CaW w' P O M := h.keep f (by simp) (by simp) (by simp) (by simp) (fun i _ => by simp) (NoTy.nil _ _)
theorem CaW.lts (h : CaW w P O M) : P.c < w.heap.size ∧ P.g < w.heap.size ∧ P.s < w.heap.size ∧ P.b < w.heap.size ∧ ∀ i ∈ O, i < w.heap.size := by
 obtain ⟨v, h1, -⟩ := h.srt
 obtain ⟨X, hX⟩ := h.dsk
 exact ⟨h.blk.lt, h.jr.lt, h1.blk.lt, h1.map.lt, hX.lt⟩
theorem CaW.ne (h : CaW w P O M) : P.c ≠ P.g ∧ P.c ≠ P.s ∧ P.c ≠ P.b ∧ P.g ≠ P.s ∧ P.g ≠ P.b ∧ P.s ≠ P.b := by
 obtain ⟨v, h1, -⟩ := h.srt
 have a := h.blk
 have b := h.jr
 have c := h1.blk
 have d : ∀ e cs fz, w.heap[P.b]? ≠ some (.cells cs e fz) := fun e cs fz => h1.noTy e P.b (List.mem_singleton.2 rfl) cs fz
 unfold Jr at b
 unfold Blk at a b c
 refine ⟨fun e => ?_, fun e => ?_, fun e => ?_, fun e => ?_, fun e => ?_, fun e => ?_⟩
 ·rw [e, b] at a; exact absurd a (by intro h; cases h)
 ·rw [e, c] at a; exact absurd a (by intro h; cases h)
 ·rw [e] at a; exact d _ _ _ a
 ·rw [e, c] at b; exact absurd b (by intro h; cases h)
 ·rw [e] at b; exact d _ _ _ b
 ·rw [e] at c; exact d _ _ _ c
def AftC (w : World) (P : CaP) (O : List Nat) (M' : CaM) (w' : World) : Prop := ∃ O', CaW w' P O' M' ∧ (∀ i ∈ O', i ∈ O ∨ w.heap.size ≤ i) ∧ Fr (P.own O) w w'
theorem AftC.same (h : CaW w' P O M) (f : Fr [] w w') : AftC w P O M w' := ⟨O, h, fun i hi => .inl hi, f.nil⟩
theorem AftC.fr (h : AftC w P O M w') : Fr (P.own O) w w' := by obtain ⟨O', -, -, f⟩ := h; exact f
theorem AftC.pre (f : Fr [] w w1) (h : AftC w1 P O M w2) : AftC w P O M w2 := by
 obtain ⟨O', h1, h2, h3⟩ := h
 refine ⟨O', h1, fun i hi => ?_, f.nil.trans h3 (fun i hi => .inl hi)⟩
 rcases h2 i hi with h | h
 ·exact .inl h
 ·exact .inr (Nat.le_trans f.size h)
theorem AftC.keep_nil (h : AftC w P O M w1) (f : Fr [] w1 w2) : AftC w P O M w2 := by
 obtain ⟨O', h1, h2, h3⟩ := h
 exact ⟨O', h1.keep_nil f, h2, h3.trans_nil f⟩
theorem AftC.trans (h : CaW w P O M) {O1 : List Nat} (ho : ∀ i ∈ O1, i ∈ O ∨ w.heap.size ≤ i) (f : Fr (P.own O) w w1) (h2 : AftC w1 P O1 M' w2) : AftC w P O M' w2 := by
 obtain ⟨O2, k1, k2, k3⟩ := h2
 refine ⟨O2, k1, fun i hi => ?_, f.trans k3 (fun i hi => ?_)⟩
 ·rcases k2 i hi with h | h
  ·exact ho i h
  ·exact .inr (Nat.le_trans f.size h)
 ·unfold CaP.own at hi ⊢
  simp only [List.mem_cons] at hi ⊢
  rcases hi with h | h | h | h
  ·exact .inl (.inl h)
  ·exact .inl (.inr (.inl h))
  ·exact .inl (.inr (.inr (.inl h)))
  ·rcases ho i h with h | h
   ·exact .inl (.inr (.inr (.inr h)))
   ·exact .inr h
theorem CaW.no8 (h : CaW w P O M) : NoTy w (P.own O) 5 := fun i hi cs fz => by
 unfold CaP.own at hi
 simp only [List.mem_cons] at hi
 rcases hi with rfl | rfl | rfl | hi
 ·have := h.blk
  unfold Blk at this
  rw [this]; intro e; cases e
 ·have := h.jr
  unfold Jr Blk at this
  rw [this]; intro e; cases e
 ·obtain ⟨v, h1, -⟩ := h.srt
  exact h1.noTy _ _ (List.mem_singleton.2 rfl) cs fz
 ·exact h.dsk.no8s i hi cs fz
theorem CaW.disk (h : CaW w P O M) (ha : AftD w P.p O D' w') : AftC w P O { M with D := D' } w' := by
 obtain ⟨O', k1, k2, k3⟩ := ha
 obtain ⟨v, h1, h2⟩ := h.srt
 obtain ⟨n1, n2, n3, n4⟩ := h.nO
 obtain ⟨l1, l2, l3, l4, -⟩ := h.lts
 have key : ∀ i, i < w.heap.size → i ∉ O → i ∉ O' := fun i hi hn hm => by
  rcases k2 i hm with h | h
  ·exact hn h
  ·omega
 exact ⟨O', ⟨h.blk.keep k3 n1, k1, h.jr.keep k3 n2, ⟨v, h1.keep k3 n3 n4, h2.keepT k3 h.dsk.no8s⟩, key _ l1 n1, key _ l2 n2, key _ l3 n3, key _ l4 n4⟩, k2, (Fr.refl (P.own O) w).trans k3 (fun i hi => .inl (by unfold CaP.own; simp [hi]))⟩
theorem CaW.journal (h : CaW w P O M) {r : Int × DkM × JrM} {e : Ending} (ha : JopC w P.p P.g O r e w') : e = .returned (.int .i64 r.1) ∧ AftC w P O { M with D := r.2.1, J := r.2.2 } w' := by
 obtain ⟨he, O', k1, k2, k4, k3⟩ := ha
 obtain ⟨v, h1, h2⟩ := h.srt
 obtain ⟨n1, n2, n3, n4⟩ := h.nO
 obtain ⟨l1, l2, l3, l4, -⟩ := h.lts
 obtain ⟨e1, e2, e3, e4, e5, e6⟩ := h.ne
 have key : ∀ i, i < w.heap.size → i ∉ O → i ∉ O' := fun i hi hn hm => by
  rcases k2 i hm with h | h
  ·exact hn h
  ·omega
 have key2 : ∀ i, i ≠ P.g → i ∉ O → i ∉ P.g :: O := fun i hi hn hm => by
  rcases List.mem_cons.1 hm with h | h
  ·exact hi h
  ·exact hn h
 have h8 : NoTy w (P.g :: O) 5 := fun i hi cs fz => h.no8 i (by unfold CaP.own; simp only [List.mem_cons] at hi ⊢; rcases hi with h | h; exact .inr (.inl h); exact .inr (.inr (.inr h))) cs fz
 exact ⟨he, O', ⟨h.blk.keep k3 (key2 _ e1 n1), k1, k4, ⟨v, h1.keep k3 (key2 _ (Ne.symm e4) n3) (key2 _ (Ne.symm e5) n4), h2.keepT k3 h8⟩, key _ l1 n1, key _ l2 n2, key _ l3 n3, key _ l4 n4⟩, k2, (Fr.refl (P.own O) w).trans k3 (fun i hi => .inl (by unfold CaP.own; simp only [List.mem_cons] at hi ⊢; rcases hi with h | h; exact .inr (.inl h); exact .inr (.inr (.inr h))))⟩
end
def FnS (w : World) (v : Value) (R : Ending → World → Prop) : Prop := ∃ f B C, v = .func (.func f) B C ∧ (∀ args w', (callFunc f args).run Tryz.prog w' = .ok (.enter f args) w') ∧ Calls Tryz.prog f (B ++ C) w R
end
section
open Go.RowKit
set_option maxRecDepth 100000
section
variable {w w' : World} {P : CaP} {O : List Nat} {M : CaM}
theorem CaW.c0 (h : CaW w P O M) : w.cell? ⟨P.c, 0, none⟩ = some (.pointer (some ⟨P.p, 0, none⟩)) := h.blk.cell 0
theorem CaW.c1 (h : CaW w P O M) : w.cell? ⟨P.c, 1, none⟩ = some (.pointer (some ⟨P.g, 0, none⟩)) := h.blk.cell 1
theorem CaW.c2 (h : CaW w P O M) : w.cell? ⟨P.c, 2, none⟩ = some (.pointer (some ⟨P.s, 0, none⟩)) := h.blk.cell 2
theorem CaW.c3 (h : CaW w P O M) : w.cell? ⟨P.c, 3, none⟩ = some (.bool false) := h.blk.cell 3
theorem caState_any (h : CaW w P O M) : Calls Tryz.prog 100 #[.pointer (some ⟨P.c, 0, none⟩)] w fun e w' => e = .returned (.int .i64 0) ∧ w = w' := by
 have c1 := h.c1
 have c3 := h.c3
 clear h
 go_enter Tryz.func100, Tryz.ntmps100
 go_wp2_with fail
 go_ret
 exact ⟨rfl, rfl⟩
set_option maxHeartbeats 1000000 in
theorem caRun_any {c : Nat} {A : Option Addr} {n cap : Nat} {fs : List Value} (hr : Row w 0 47 1 (.slice A n cap) n fs) (hn : n ≤ 4398046511104) (F : List Nat) (hA : ∀ g, (Value.slice A n cap).ownBlock = some g → g ∉ F) (PP : Nat → World → Prop) (Q : Int → World → Prop)
  (hs : Calls Tryz.prog 100 #[.pointer (some ⟨c, 0, none⟩)] w fun e w' => e = .returned (.int .i64 0) ∧ w = w') (h0 : PP 0 w) (hF : ∀ k w', PP k w' → Fr F w w')
  (hstep : ∀ k (hk : k < fs.length) w', PP k w' → FnS w' fs[k] fun e w'' => (e = .returned (.int .i64 0) ∧ PP (k + 1) w'') ∨ ∃ z, z ≠ 0 ∧ z ≠ 102 ∧ e = .returned (.int .i64 z) ∧ w''.cell? ⟨c, 3, none⟩ = some (.bool false) ∧ w''.frozen? ⟨c, 3, none⟩ = false ∧ Q z (w''.setCell ⟨c, 3, none⟩ (.bool false))) :
  Calls Tryz.prog 94 #[.pointer (some ⟨c, 0, none⟩), .slice A n cap] w fun e w' => (e = .returned (.int .i64 0) ∧ PP n w') ∨ ∃ z, e = .returned (.int .i64 z) ∧ Q z w' := by
 have hfl : fs.length = n := by have := hr.1; omega
 have HR := Lib.hid (And.intro hr hA)
 have HS := Lib.hid hstep
 have HF := Lib.hid hF
 clear hr hA hF hstep
 go_enter Tryz.func94, Tryz.ntmps94
 go_wp2_with (go_at_call 100; refine hs.mono ?_; rintro e w' ⟨rfl, rfl⟩)
 go_loopw [16] (fun i wr => ∃ k : Nat, k ≤ n ∧ i = .int .i64 k ∧ PP k wr) (fun i _ => n - (intOf i).toNat)
 case atStart => exact ⟨0, by omega, rfl, h0⟩
 case round =>
  clear h0 hs
  obtain ⟨k, hkn, rfl, hp⟩ := hrel
  by_cases hlt : k < n
  ·have d0 : (k : Int) < n := by omega
   have hkf : k < fs.length := by omega
   have rr := HR.out.1.keep (HF.out k wr hp) HR.out.2
   obtain ⟨g, cg, e⟩ := rr.hdD (by omega)
   cases e
   obtain ⟨g', o', e', hcs⟩ := rr.rdD.1 (by intro h0; rw [h0] at hkf; simp at hkf)
   cases e'
   have ck := hcs k _ (List.getElem?_eq_getElem hkf)
   rw [Nat.zero_add] at ck
   obtain ⟨f, B, C, hv, hcf, hc⟩ := HS.out k hkf wr hp
   rw [hv] at ck
   clear rr hcs hv hp
   go_wp2_with fail
   refine hc.mono ?_
   clear hc ck
   rintro e w5 (⟨rfl, hp⟩ | ⟨z, hz0, hz2, rfl, c3, f3, hq⟩)
   ·have HP := Lib.hid hp
    clear hp hcf
    go_wp2_with fail
    exact ⟨⟨k + 1, by omega, by go_num, HP.out⟩, by simp [intOf]; omega⟩
   ·have dz : (z == 0) = false := by simpa using hz0
    have d2 : (z == 102) = false := by simpa using hz2
    have HQ := Lib.hid hq
    clear hq hcf
    go_wp2_with fail
    go_ret
    exact .inr ⟨z, rfl, HQ.out⟩
  ·obtain rfl : k = n := by omega
   have d0 : ¬ ((k : Int) < k) := by omega
   have HP := Lib.hid hp
   clear hp
   go_wp2_with fail
   go_ret
   exact .inl ⟨rfl, HP.out⟩
def rdE (M : CaM) (x : Int) : Int := match M.dirty x with
 | some _ => 0
 | none => M.D.readE x
set_option maxHeartbeats 1000000 in
theorem caRead_any (h : CaW w P O M) (x : Int) (hx : wfZ x) : Calls Tryz.prog 59 #[.pointer (some ⟨P.c, 0, none⟩), .int .i64 x] w (ReadC w (rdM M x) (rdE M x)) := by
 have cs := caState_any h
 have c0 := h.c0
 have c2 := h.c2
 obtain ⟨f, hsr, hdv⟩ := h.srt
 have cg := srtGet_any hsr x hx
 have cr := dkRead_any h.dsk x
 rcases hdv x with ⟨hf, hd⟩ | ⟨v, l, hf, hd, hb, -, -⟩
 ·have HR := Lib.hid (show rdM M x = M.D.readR x ∧ rdE M x = M.D.readE x from ⟨by rw [rdM, hd], by rw [rdE, hd]⟩)
  rw [HR.out.1, HR.out.2]
  obtain ⟨z, hz⟩ : ∃ z, M.D.readE x = z := ⟨_, rfl⟩
  obtain ⟨l, hl⟩ : ∃ l, M.D.readR x = l := ⟨_, rfl⟩
  rw [hz, hl] at cr ⊢
  rw [hf] at cg
  simp only [Option.getD_none, Option.isSome_none] at cg
  clear h hsr hdv hf hd hz hl HR
  go_enter Tryz.func59, Tryz.ntmps59
  go_wp2_with (first | (go_at_call 100; refine cs.mono ?_; rintro e w' ⟨rfl, rfl⟩) | (go_at_call 57; refine cg.mono ?_; rintro e w' ⟨rfl, rfl⟩))
  refine cr.mono ?_
  rintro e w5 ⟨v5, rfl, r5, f5⟩
  have HF := Lib.hid (And.intro r5 f5)
  clear cr cg cs r5 f5
  go_wp2_with fail
  go_ret2
  exact ⟨v5, rfl, HF.out⟩
 ·have HR := Lib.hid (show rdM M x = l ∧ rdE M x = 0 from ⟨by rw [rdM, hd], by rw [rdE, hd]⟩)
  rw [HR.out.1, HR.out.2]
  rw [hf] at cg
  simp only [Option.getD_some, Option.isSome_some] at cg
  have hl512 := hb.1
  obtain ⟨Av, cv, rfl, -⟩ := hb.2.shape
  have cc := clone_any Av l 512 cv w hb.1 hb.2.rdD.1 hb.2.rdD.2.2 (by omega)
  clear h hsr hdv hf hd HR cr hb
  go_enter Tryz.func59, Tryz.ntmps59
  go_wp2_with (first | (go_at_call 100; refine cs.mono ?_; rintro e w' ⟨rfl, rfl⟩) | (go_at_call 57; refine cg.mono ?_; rintro e w' ⟨rfl, rfl⟩))
  refine cc.mono ?_
  rintro e w5 ⟨v5, rfl, r5, f5⟩
  have HF := Lib.hid (And.intro r5 f5)
  clear cc cg cs r5 f5
  go_wp2_with fail
  go_ret2
  exact ⟨v5, rfl, by rw [hl512]; exact HF.out.1, HF.out.2⟩
end
end
section
set_option maxRecDepth 100000
def lkL (L : List (Int × List UInt8)) (x : Int) : Option (List UInt8) := (L.find? fun p => p.1 == x).map (·.2)
def atL : List (Int × List UInt8) → Int → Nat
 | [], _ => 0
 | p :: r, x => if p.1 < x then atL r x + 1 else 0
def insL (L : List (Int × List UInt8)) (x : Int) (b : List UInt8) : List (Int × List UInt8) :=
 if (L[atL L x]?).map (·.1) = some x then L.set (atL L x) (x, b) else L.take (atL L x) ++ (x, b) :: L.drop (atL L x)
def UpL (L : List (Int × List UInt8)) : Prop := L.Pairwise (fun a b => a.1 < b.1)
theorem lkL_cons (p : Int × List UInt8) (r : List (Int × List UInt8)) (x : Int) : lkL (p :: r) x = if p.1 = x then some p.2 else lkL r x := by
 unfold lkL
 rw [List.find?_cons]
 by_cases h : p.1 = x
 ·rw [if_pos h, beq_iff_eq.2 h]; rfl
 ·rw [if_neg h, beq_eq_false_iff_ne.2 h]
theorem insL_cons (p : Int × List UInt8) (r : List (Int × List UInt8)) (x : Int) (b : List UInt8) : insL (p :: r) x b = if p.1 < x then p :: insL r x b else if p.1 = x then (x, b) :: r else (x, b) :: p :: r := by
 by_cases h : p.1 < x
 ·have e : atL (p :: r) x = atL r x + 1 := by rw [atL, if_pos h]
  rw [if_pos h, insL, insL, e, List.getElem?_cons_succ]
  split
  ·rfl
  ·rfl
 ·have e : atL (p :: r) x = 0 := by rw [atL, if_neg h]
  rw [if_neg h, insL, e, List.getElem?_cons_zero]
  by_cases h2 : p.1 = x
  ·rw [if_pos (by simp [h2]), if_pos h2]; rfl
  ·rw [if_neg (by simp [h2]), if_neg h2]; rfl
theorem insL_nil (x : Int) (b : List UInt8) : insL [] x b = [(x, b)] := rfl
theorem insL_up {x : Int} {b : List UInt8} : ∀ (L : List (Int × List UInt8)), UpL L → UpL (insL L x b) ∧ (∀ p ∈ insL L x b, p ∈ L ∨ p = (x, b)) ∧ (insL L x b).length ≤ L.length + 1
 | [], _ => ⟨by simp [insL_nil, UpL], by simp [insL_nil], by simp [insL_nil]⟩
 | p :: r, h => by
  obtain ⟨h1, h2⟩ := List.pairwise_cons.1 h
  obtain ⟨i1, i2, i3⟩ := insL_up (x := x) (b := b) r h2
  rw [insL_cons]
  by_cases hp : p.1 < x
  ·rw [if_pos hp]
   refine ⟨List.pairwise_cons.2 ⟨fun q hq => ?_, i1⟩, fun q hq => ?_, by simpa using i3⟩
   ·rcases i2 q hq with h | h
    ·exact h1 q h
    ·rw [h]; exact hp
   ·rcases List.mem_cons.1 hq with h | h
    ·exact .inl (h ▸ List.mem_cons_self)
    ·rcases i2 q h with h | h
     ·exact .inl (List.mem_cons_of_mem _ h)
     ·exact .inr h
  ·rw [if_neg hp]
   by_cases he : p.1 = x
   ·rw [if_pos he]
    refine ⟨List.pairwise_cons.2 ⟨fun q hq => ?_, h2⟩, fun q hq => ?_, by simp⟩
    ·have := h1 q hq; rw [he] at this; exact this
    ·rcases List.mem_cons.1 hq with h | h
     ·exact .inr h
     ·exact .inl (List.mem_cons_of_mem _ h)
   ·rw [if_neg he]
    refine ⟨List.pairwise_cons.2 ⟨fun q hq => ?_, h⟩, fun q hq => ?_, by simp⟩
    ·rcases List.mem_cons.1 hq with e | e
     ·rw [e]; show x < p.1; omega
     ·have := h1 q e; show x < q.1; omega
    ·rcases List.mem_cons.1 hq with h | h
     ·exact .inr h
     ·exact .inl h
theorem lkL_ins {x : Int} {b : List UInt8} : ∀ (L : List (Int × List UInt8)) (y : Int), UpL L → lkL (insL L x b) y = if y = x then some b else lkL L y
 | [], y, _ => by
  rw [insL_nil, lkL_cons]
  by_cases h : x = y
  ·rw [if_pos h, if_pos h.symm]
  ·rw [if_neg h, if_neg (Ne.symm h)]
 | p :: r, y, h => by
  obtain ⟨h1, h2⟩ := List.pairwise_cons.1 h
  have ih := lkL_ins (x := x) (b := b) r y h2
  rw [insL_cons]
  by_cases hp : p.1 < x
  ·rw [if_pos hp, lkL_cons, lkL_cons, ih]
   by_cases hy : p.1 = y
   ·rw [if_pos hy, if_pos hy, if_neg (by omega)]
   ·rw [if_neg hy, if_neg hy]
  ·rw [if_neg hp]
   by_cases he : p.1 = x
   ·rw [if_pos he, lkL_cons, lkL_cons]
    dsimp only
    by_cases hy : x = y
    ·rw [if_pos hy, if_pos hy.symm]
    ·rw [if_neg hy, if_neg (Ne.symm hy), if_neg (by omega)]
   ·rw [if_neg he, lkL_cons]
    dsimp only
    by_cases hy : x = y
    ·rw [if_pos hy, if_pos hy.symm]
    ·rw [if_neg hy, if_neg (Ne.symm hy)]
theorem lkL_mem {L : List (Int × List UInt8)} {x : Int} {l : List UInt8} (h : lkL L x = some l) : (x, l) ∈ L := by
 unfold lkL at h
 obtain ⟨p, hp, rfl⟩ := Option.map_eq_some_iff.1 h
 have h1 := List.mem_of_find?_eq_some hp
 have h2 := List.find?_some hp
 rw [beq_iff_eq] at h2
 rw [← h2]; exact h1
theorem lkL_of_mem : ∀ {L : List (Int × List UInt8)}, UpL L → ∀ {x : Int} {l : List UInt8}, (x, l) ∈ L → lkL L x = some l
 | [], _, _, _, h => by cases h
 | p :: r, h, x, l, hm => by
  obtain ⟨h1, h2⟩ := List.pairwise_cons.1 h
  rw [lkL_cons]
  rcases List.mem_cons.1 hm with e | e
  ·rw [← e, if_pos rfl]
  ·have := h1 _ e
   rw [if_neg (by dsimp only at this; omega)]
   exact lkL_of_mem h2 e
theorem lkL_some_iff {L : List (Int × List UInt8)} {x : Int} : (lkL L x).isSome = true ↔ x ∈ L.map (·.1) := by
 rw [List.mem_map]
 constructor
 ·intro h
  obtain ⟨l, hl⟩ := Option.isSome_iff_exists.1 h
  exact ⟨_, lkL_mem hl, rfl⟩
 ·rintro ⟨p, hp, rfl⟩
  induction L with
  | nil => cases hp
  | cons q r ih =>
   rw [lkL_cons]
   split
   ·rfl
   ·rename_i hne
    rcases List.mem_cons.1 hp with e | e
    ·exact absurd (by rw [e]) hne
    ·exact ih e
theorem upL_keys {L : List (Int × List UInt8)} (h : UpL L) : (L.map (·.1)).Pairwise (fun x y => x < y) := by
 rw [List.pairwise_map]; exact h
end
section
set_option maxRecDepth 100000
def leafH (b : List UInt8) : List UInt8 := shaSum (0 :: b)
def nodeH (k : UInt8) (b : List UInt8) : List UInt8 := shaSum (1 :: k :: b)
def rootH (n : Nat) (k : UInt8) (b : List UInt8) : List UInt8 := shaSum (2 :: UInt8.ofNat n :: UInt8.ofNat (n / 256) :: UInt8.ofNat (n / 65536) :: UInt8.ofNat (n / 16777216) :: nodeH k b)
def zL : List UInt8 := List.replicate 512 0
def tL : List UInt8 := List.replicate 512 116
def nodeB (hs : List (List UInt8)) : List UInt8 := hs.flatten ++ List.replicate (512 - 32 * hs.length) 0
theorem roots_differ : rootH 13 0 (nodeB (List.replicate 12 (leafH zL) ++ [leafH tL])) ≠ rootH 13 0 (nodeB (List.replicate 13 (leafH zL))) := by decide +kernel
end
end Go.Proofs.YtbanogfljpkbkaaGreatDoor
