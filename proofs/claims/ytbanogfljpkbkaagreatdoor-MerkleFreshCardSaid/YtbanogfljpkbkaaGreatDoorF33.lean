/-
  Texts of this claim, one behind the other: CacP, CacQ, CacL, CacA, CacB.
-/
import Derived.Test.YtbanogfljpkbkaaGreatDoorF32
import Derived.Test.YtbanogfljpkbkaaGreatDoorF6
set_option linter.unusedSimpArgs false
set_option linter.unusedVariables false
set_option linter.unnecessarySimpa false
namespace Go.Proofs.YtbanogfljpkbkaaGreatDoor
section
open Go.RowKit
set_option maxRecDepth 100000
structure CaM where
 D : DkM
 J : JrM
 dirty : Int → Option (List UInt8)
def updD (d : Int → Option (List UInt8)) (r : Int × List UInt8) : Int → Option (List UInt8) := fun x => if x = r.1 then some r.2 else d x
def putD (d : Int → Option (List UInt8)) (rs : List (Int × List UInt8)) : Int → Option (List UInt8) := rs.foldl updD d
def keysZ (d : Int → Option (List UInt8)) : List Int := ((List.range 4096).map fun i : Nat => (i : Int)).filter fun x => (d x).isSome
def wrD (d : Int → Option (List UInt8)) (zs : List Int) : List Stp := zs.map fun x => .wr x ((d x).getD [])
def chkM (M : CaM) : CaM := ⟨(resM (runS M.D ([.fl] ++ wrD M.dirty (keysZ M.dirty) ++ [.fl])).2 M.J).2.1, (resM (runS M.D ([.fl] ++ wrD M.dirty (keysZ M.dirty) ++ [.fl])).2 M.J).2.2, fun _ => none⟩
def chkC (M : CaM) : CaM := if M.J.used = 0 ∧ M.J.begun = true then M else chkM M
def roomM (M : CaM) (n : Nat) : CaM := if (n : Int) ≤ M.J.room ∨ M.J.most < n then M else chkC M
def comE (M : CaM) (rs : List (Int × List UInt8)) : Int := (appM (roomM M rs.length).D (roomM M rs.length).J rs).1
def comM (M : CaM) (rs : List (Int × List UInt8)) : CaM := if comE M rs = 0 then ⟨(appM (roomM M rs.length).D (roomM M rs.length).J rs).2.1, (appM (roomM M rs.length).D (roomM M rs.length).J rs).2.2, putD (roomM M rs.length).dirty rs⟩ else roomM M rs.length
def rdM (M : CaM) (x : Int) : List UInt8 := match M.dirty x with
 | some l => l
 | none => M.D.readR x
structure CaG (N : Nat) (M : CaM) : Prop where
 on : On M.D N
 n4 : N ≤ 4096
 c : 16 ≤ M.J.count ∧ M.J.count ≤ 256
 f : 0 ≤ M.J.first ∧ M.J.first + M.J.count ≤ N
 u : 0 ≤ M.J.used ∧ M.J.used + 1 ≤ M.J.count
 bad : M.J.bad = false
 m0 : M.J.num ≠ 0
 m64 : M.J.num < 9223372036854775808
 d : ∀ x l, M.dirty x = some l → 0 ≤ x ∧ x < N ∧ (x < M.J.first ∨ M.J.first + M.J.count ≤ x) ∧ l.length = 512
 e : M.J.used = 0 → M.J.begun = true → ∀ x, M.dirty x = none
section
variable {N : Nat} {M : CaM} {rs : List (Int × List UInt8)}
theorem CaG.jok (G : CaG N M) : M.J.ok := by
 have := G.n4
 have h1 := G.c
 have h2 := G.f
 have h3 := G.u
 have h4 := G.m64
 exact ⟨h1, by omega, by omega, by omega⟩
theorem keysZ_mem {d : Int → Option (List UInt8)} {x : Int} : x ∈ keysZ d ↔ 0 ≤ x ∧ x < 4096 ∧ (d x).isSome = true := by
 unfold keysZ
 rw [List.mem_filter, List.mem_map]
 constructor
 ·rintro ⟨⟨i, hi, rfl⟩, h⟩
  have := List.mem_range.1 hi
  exact ⟨by omega, by omega, h⟩
 ·rintro ⟨h0, h1, h⟩
  exact ⟨⟨x.toNat, List.mem_range.2 (by omega), by omega⟩, h⟩
theorem keysZ_sorted (d : Int → Option (List UInt8)) : (keysZ d).Pairwise (fun x y => x < y) := by
 unfold keysZ
 apply List.Pairwise.filter
 rw [List.pairwise_map]
 exact (List.pairwise_lt_range (n := 4096)).imp (fun h => by omega)
theorem keysZ_nodup (d : Int → Option (List UInt8)) : (keysZ d).Nodup := (keysZ_sorted d).imp (fun h => by omega)
theorem keysZ_le (d : Int → Option (List UInt8)) : (keysZ d).length ≤ 4096 := by
 unfold keysZ
 refine Nat.le_trans (List.length_filter_le _ _) ?_
 rw [List.length_map, List.length_range]
 exact Nat.le_refl _
theorem runS_wrD {d : Int → Option (List UInt8)} : ∀ (zs : List Int) (D : DkM), On D N → zs.Nodup → (∀ x ∈ zs, 0 ≤ x ∧ x < N ∧ ((d x).getD []).length = 512) →
  (runS D (wrD d zs)).1 = 0 ∧ On (runS D (wrD d zs)).2 N ∧ (∀ y, (runS D (wrD d zs)).2.readR y = if y ∈ zs then (d y).getD [] else D.readR y)
 | [], D, h, _, _ => ⟨rfl, h, fun y => by rw [if_neg (by simp)]; rfl⟩
 | x :: r, D, h, hn, hz => by
  obtain ⟨h0, h1, h2⟩ := hz x List.mem_cons_self
  obtain ⟨e1, e2⟩ := h.write (b := (d x).getD []) h0 h1 h2
  obtain ⟨hx, hr⟩ := List.nodup_cons.1 hn
  obtain ⟨k1, k2, k3⟩ := runS_wrD r (D.wr x ((d x).getD [])) (h.wr x _) hr (fun y hy => hz y (List.mem_cons_of_mem _ hy))
  have hs : runS D (wrD d (x :: r)) = runS (D.wr x ((d x).getD [])) (wrD d r) := by
   show runS D (.wr x ((d x).getD []) :: wrD d r) = _
   rw [runS, Stp.E, Stp.D, e1, e2, if_pos rfl]
  rw [hs]
  refine ⟨k1, k2, fun y => ?_⟩
  rw [k3, h.wr_read h0 h1]
  by_cases hy : y ∈ r
  ·rw [if_pos hy, if_pos (List.mem_cons_of_mem _ hy)]
  ·rw [if_neg hy]
   by_cases e : y = x
   ·subst e; rw [if_pos rfl, if_pos List.mem_cons_self]
   ·rw [if_neg e, if_neg (by simp [e, hy])]
theorem CaG.home (G : CaG N M) : (runS M.D ([.fl] ++ wrD M.dirty (keysZ M.dirty) ++ [.fl])).1 = 0 ∧ On (runS M.D ([.fl] ++ wrD M.dirty (keysZ M.dirty) ++ [.fl])).2 N ∧ (∀ y, (runS M.D ([.fl] ++ wrD M.dirty (keysZ M.dirty) ++ [.fl])).2.readR y = rdM M y) ∧ ∀ y, (runS M.D ([.fl] ++ wrD M.dirty (keysZ M.dirty) ++ [.fl])).2.uns y = [] := by
 obtain ⟨f1, f2, f3⟩ := G.on.flush
 obtain ⟨k1, k2, k3⟩ := runS_wrD (d := M.dirty) (keysZ M.dirty) M.D.flush1 f3 (keysZ_nodup _) (fun x hx => by
  obtain ⟨l, hl⟩ := Option.isSome_iff_exists.1 (keysZ_mem.1 hx).2.2
  obtain ⟨a, b, -, c⟩ := G.d x l hl
  exact ⟨a, b, by rw [hl]; exact c⟩)
 obtain ⟨g1, g2, g3⟩ := k2.flush
 have h1 : runS M.D ([.fl] ++ wrD M.dirty (keysZ M.dirty) ++ [.fl]) = (0, (runS M.D.flush1 (wrD M.dirty (keysZ M.dirty))).2.flush1) := by
  show runS M.D (.fl :: (wrD M.dirty (keysZ M.dirty) ++ [.fl])) = _
  rw [runS, Stp.E, f1, if_pos rfl, Stp.D, f2, runS_app _ _ _ k1, runS, Stp.E, g1, if_pos rfl, Stp.D, g2]
  rfl
 rw [h1]
 refine ⟨rfl, g3, fun y => ?_, fun y => rfl⟩
 show (runS M.D.flush1 (wrD M.dirty (keysZ M.dirty))).2.flush1.readR y = _
 rw [k2.flush_read, k3, G.on.flush_read, rdM]
 cases hd : M.dirty y with
 | none => rw [if_neg (fun h => by have := (keysZ_mem.1 h).2.2; rw [hd] at this; cases this)]
 | some l =>
  obtain ⟨a, b, -, c⟩ := G.d y l hd
  have := G.n4
  rw [if_pos (keysZ_mem.2 ⟨a, by omega, by rw [hd]; rfl⟩)]
  rfl
theorem CaG.chk (G : CaG N M) (hm : M.J.num + 600 < 9223372036854775808) : (resM (runS M.D ([.fl] ++ wrD M.dirty (keysZ M.dirty) ++ [.fl])).2 M.J).1 = 0 ∧ CaG N (chkM M) ∧ (chkM M).J = { M.J with num := M.J.next, used := 0, begun := true } ∧ (∀ x, (chkM M).D.readR x = if x = M.J.first then markB M.J.next else rdM M x) ∧ (∀ x, (chkM M).D.sureR x = (chkM M).D.readR x) ∧ (∀ x, (chkM M).D.uns x = []) ∧ (chkM M).J.num ≤ M.J.num + 256 := by
 obtain ⟨h1, h2, h3, h4⟩ := G.home
 have hc := G.c
 have hf := G.f
 have hnx : M.J.next ≠ 0 ∧ M.J.next ≤ M.J.num + 256 := by
  have h0 := G.m0
  have hmd : (M.J.num + M.J.count.toNat) % 18446744073709551616 = M.J.num + M.J.count.toNat := Nat.mod_eq_of_lt (by omega)
  by_cases hb : M.J.begun = true
  ·rw [JrM.next, if_pos hb]; exact ⟨h0, by omega⟩
  ·rw [JrM.next, if_neg hb, if_neg h0, hmd, if_neg (by omega)]
   omega
 obtain ⟨D3, hD3⟩ : ∃ D, (runS M.D ([.fl] ++ wrD M.dirty (keysZ M.dirty) ++ [.fl])).2 = D := ⟨_, rfl⟩
 have hM : chkM M = ⟨(resM D3 M.J).2.1, (resM D3 M.J).2.2, fun _ => none⟩ := by rw [chkM, hD3]
 rw [hD3] at h2 h3 h4 ⊢
 obtain ⟨k1, k2, k3, k4⟩ := mkE_ok h2 (x := M.J.first) (by omega) (by omega) hnx.1
 have hr : resM D3 M.J = (0, (mkE D3 M.J.first M.J.next).2, { M.J with num := M.J.next, used := 0, begun := true }) := by
  unfold resM
  rw [if_neg (by rw [G.bad]; simp), k1, if_pos rfl]
 have hmk : (mkE D3 M.J.first M.J.next).2.uns = fun _ => [] := by
  obtain ⟨e1, e2⟩ := h2.write (x := M.J.first) (b := markB M.J.next) (by omega) (by omega) (markB_len _)
  obtain ⟨f1, f2, f3⟩ := (h2.wr M.J.first (markB M.J.next)).flush
  rw [mkE, if_neg hnx.1, runS, Stp.E, e1, if_pos rfl, Stp.D, e2, runS, Stp.E, f1, if_pos rfl, Stp.D, f2]
  rfl
 rw [hM, hr]
 refine ⟨rfl, ⟨k2, G.n4, hc, hf, ⟨Int.le_refl _, by show (0 : Int) + 1 ≤ M.J.count; omega⟩, G.bad, hnx.1, by show M.J.next < 9223372036854775808; omega, fun x l h => (by cases h), fun _ _ x => rfl⟩, rfl, fun x => ?_, fun x => ?_, fun x => congrFun hmk x, hnx.2⟩
 ·show (mkE D3 M.J.first M.J.next).2.readR x = _
  rw [k3, h3]
 ·show (mkE D3 M.J.first M.J.next).2.sureR x = (mkE D3 M.J.first M.J.next).2.readR x
  rw [k4, k3]
theorem CaG.chkC (G : CaG N M) (hm : M.J.num + 600 < 9223372036854775808) : CaG N (chkC M) ∧ (chkC M).J.used = 0 ∧ (chkC M).J.begun = true ∧ (∀ x, (chkC M).dirty x = none) ∧ (chkC M).J.first = M.J.first ∧ (chkC M).J.count = M.J.count ∧ (∀ x, x ≠ M.J.first → rdM (chkC M) x = rdM M x) ∧ (chkC M).J.num ≤ M.J.num + 256 ∧ ∀ x, ((chkC M).D.uns x).length ≤ (M.D.uns x).length := by
 obtain ⟨-, c1, c2, c3, c4, c5, c6⟩ := G.chk hm
 unfold Go.Proofs.YtbanogfljpkbkaaGreatDoor.chkC
 split
 ·rename_i h
  exact ⟨G, h.1, h.2, G.e h.1 h.2, rfl, rfl, fun x _ => rfl, by omega, fun x => Nat.le_refl _⟩
 ·refine ⟨c1, by rw [c2], by rw [c2], fun x => rfl, by rw [c2], by rw [c2], fun x hx => ?_, c6, fun x => by rw [c5]; exact Nat.zero_le _⟩
  show (chkM M).D.readR x = _
  rw [c3, if_neg hx]
theorem CaG.room (G : CaG N M) (hm : M.J.num + 600 < 9223372036854775808) (n : Nat) : CaG N (roomM M n) ∧ (roomM M n).J.first = M.J.first ∧ (roomM M n).J.count = M.J.count ∧ (∀ x, x ≠ M.J.first → rdM (roomM M n) x = rdM M x) ∧ (roomM M n).J.num ≤ M.J.num + 256 ∧ ∀ x, ((roomM M n).D.uns x).length ≤ (M.D.uns x).length := by
 unfold roomM
 split
 ·exact ⟨G, rfl, rfl, fun x _ => rfl, by omega, fun x => Nat.le_refl _⟩
 ·obtain ⟨h1, h2, h3, h4, h5, h6, h7, h8, h9⟩ := G.chkC hm
  exact ⟨h1, h5, h6, h7, h8, h9⟩
theorem putD_some {d : Int → Option (List UInt8)} : ∀ (rs : List (Int × List UInt8)) (d : Int → Option (List UInt8)) {x : Int} {l : List UInt8}, putD d rs x = some l → d x = some l ∨ (x, l) ∈ rs
 | [], d, x, l, h => .inl h
 | r :: t, d, x, l, h => by
  rcases putD_some (d := d) t (updD d r) (x := x) (l := l) h with h | h
  ·unfold updD at h
   split at h
   ·rename_i e
    cases h
    subst e
    exact .inr List.mem_cons_self
   ·exact .inl h
  ·exact .inr (List.mem_cons_of_mem _ h)
theorem CaG.app (G : CaG N M) (hm : M.J.num + 600 < 9223372036854775808) : 0 ≤ (appM M.D M.J rs).1 ∧ (appM M.D M.J rs).1 ≤ 3 ∧ ((appM M.D M.J rs).1 ≠ 0 → (appM M.D M.J rs).2 = (M.D, M.J)) ∧
  ((appM M.D M.J rs).1 = 0 → (∀ r ∈ rs, r.2.length = 512) ∧ rs.length ≤ 64 ∧ CaG N ⟨(appM M.D M.J rs).2.1, (appM M.D M.J rs).2.2, putD M.dirty rs⟩ ∧ (appM M.D M.J rs).2.2.first = M.J.first ∧ (appM M.D M.J rs).2.2.count = M.J.count ∧ (appM M.D M.J rs).2.2.num ≤ M.J.num + 1 ∧
   (∀ y, y < M.J.first + 1 ∨ M.J.first + M.J.count ≤ y → (appM M.D M.J rs).2.1.readR y = M.D.readR y) ∧ ∀ r ∈ rs, 0 ≤ r.1 ∧ r.1 < N) := by
 have hlen := G.on.len
 have hc := G.c
 have hf := G.f
 have hu := G.u
 unfold appM
 rw [if_neg (by rw [G.bad]; simp)]
 by_cases h1 : rcOk M.J.num rs
 ·rw [if_neg (by simp [h1])]
  by_cases h2 : jMay M.D.sure.length M.J rs = false
  ·rw [if_pos h2]
   exact ⟨by simp, by simp, fun _ => rfl, fun h => by cases h⟩
  ·rw [if_neg h2]
   by_cases h3 : M.J.most < rs.length
   ·rw [if_pos h3]
    exact ⟨by simp, by simp, fun _ => rfl, fun h => by cases h⟩
   ·rw [if_neg h3]
    by_cases h4 : M.J.room < rs.length
    ·rw [if_pos h4]
     exact ⟨by simp, by simp, fun _ => rfl, fun h => by cases h⟩
    ·rw [if_neg h4]
     have h1l : 1 ≤ rs.length := by
      have := h1.2.2.2
      simp only [rightF, Bool.and_eq_true, decide_eq_true_eq] at this
      rw [rcP_len] at this
      omega
     have hroom : (rs.length : Int) ≤ M.J.count - 3 - M.J.used := by
      have hr : M.J.room = if M.J.bad = true ∨ M.J.begun = false then 0 else max (min (M.J.count - 3 - M.J.used) 64) 0 := rfl
      split at hr <;> omega
     have hbl := blk_len2 M.J.num rs (doneB M.J.num (blkL M.J.num rs).flatten)
     obtain ⟨k1, k2, k3, -⟩ := runS_appS (blkL M.J.num rs) (doneB M.J.num (blkL M.J.num rs).flatten) M.D N (M.J.first + 1 + M.J.used) G.on (by omega) (by rw [blkL_len]; omega) (blk_512 h1) (doneB_len _ _)
     obtain ⟨R, hR⟩ : ∃ R, runS M.D (appS (M.J.first + 1 + M.J.used) (blkL M.J.num rs) (doneB M.J.num (blkL M.J.num rs).flatten)) = R := ⟨_, rfl⟩
     rw [hR] at k1 k2 k3 ⊢
     have hmay : ∀ r ∈ rs, 0 ≤ r.1 ∧ r.1 < N ∧ (r.1 < M.J.first ∨ M.J.first + M.J.count ≤ r.1) := by
      have : jMay M.D.sure.length M.J rs = true := by simpa using h2
      rw [jMay, List.all_eq_true] at this
      intro r hr
      have := this r hr
      rw [jMay1, hlen] at this
      simp only [Bool.and_eq_true, Bool.not_eq_true', Bool.and_eq_false_iff, decide_eq_true_eq, decide_eq_false_iff_not] at this
      omega
     dsimp only
     rw [if_pos k1]
     refine ⟨by rw [k1]; decide, by rw [k1]; decide, fun h => absurd k1 h, fun _ => ⟨h1.2.2.1, h1.2.1, ⟨k2, G.n4, hc, hf, ?_, G.bad, ?_, ?_, ?_, ?_⟩, rfl, rfl, ?_, fun y hy => ?_, fun r hr => ⟨(hmay r hr).1, (hmay r hr).2.1⟩⟩⟩
     ·show 0 ≤ M.J.used + ((rs.length + 2 : Nat) : Int) ∧ M.J.used + ((rs.length + 2 : Nat) : Int) + 1 ≤ M.J.count
      omega
     ·show (M.J.num + 1) % 18446744073709551616 ≠ 0
      omega
     ·show (M.J.num + 1) % 18446744073709551616 < _
      omega
     ·intro x l hx
      rcases putD_some (d := M.dirty) rs M.dirty hx with h | h
      ·exact G.d x l h
      ·have := hmay _ h
       exact ⟨this.1, this.2.1, this.2.2, h1.2.2.1 _ h⟩
     ·intro h
      exact absurd h (by show ¬ M.J.used + ((rs.length + 2 : Nat) : Int) = 0; omega)
     ·show (M.J.num + 1) % 18446744073709551616 ≤ _
      omega
     ·rw [k3, if_neg (by rw [hbl]; omega)]
 ·rw [if_pos h1]
  exact ⟨by simp, by simp, fun _ => rfl, fun h => by cases h⟩
end
end
section
open Go.RowKit
set_option maxRecDepth 100000
def rdU (f : Int → List UInt8) (rs : List (Int × List UInt8)) : Int → List UInt8 := rs.foldl (fun f r x => if x = r.1 then r.2 else f x) f
theorem rdU_congr : ∀ (rs : List (Int × List UInt8)) (f g : Int → List UInt8) (x : Int), f x = g x → rdU f rs x = rdU g rs x
 | [], f, g, x, h => h
 | r :: t, f, g, x, h => by
  show rdU (fun x => if x = r.1 then r.2 else f x) t x = rdU (fun x => if x = r.1 then r.2 else g x) t x
  exact rdU_congr t _ _ x (by show (if x = r.1 then r.2 else f x) = (if x = r.1 then r.2 else g x); rw [h])
theorem rd_put (R : Int → List UInt8) : ∀ (rs : List (Int × List UInt8)) (d : Int → Option (List UInt8)) (x : Int), (match putD d rs x with | some l => l | none => R x) = rdU (fun x => match d x with | some l => l | none => R x) rs x
 | [], d, x => rfl
 | r :: t, d, x => by
  have ih := rd_put R t (updD d r) x
  show (match putD (updD d r) t x with | some l => l | none => R x) = _
  rw [ih]
  show _ = rdU (fun x => if x = r.1 then r.2 else match d x with | some l => l | none => R x) t x
  refine rdU_congr t _ _ x ?_
  show (match (if x = r.1 then some r.2 else d x) with | some l => l | none => R x) = if x = r.1 then r.2 else match d x with | some l => l | none => R x
  by_cases e : x = r.1
  ·simp [e]
  ·simp [e]
section
variable {N : Nat} {M : CaM} {rs : List (Int × List UInt8)}
theorem CaG.com (G : CaG N M) (hm : M.J.num + 1200 < 9223372036854775808) : 0 ≤ comE M rs ∧ comE M rs ≤ 3 ∧ CaG N (comM M rs) ∧ (comM M rs).J.first = M.J.first ∧ (comM M rs).J.count = M.J.count ∧ (comM M rs).J.num ≤ M.J.num + 257 ∧ (∀ x, ((comM M rs).D.uns x).length ≤ (M.D.uns x).length + 67) ∧
  (comE M rs = 0 → (∀ r ∈ rs, r.2.length = 512) ∧ rs.length ≤ 64 ∧ (∀ r ∈ rs, 0 ≤ r.1 ∧ r.1 < N) ∧ ∀ x, x < M.J.first ∨ M.J.first + M.J.count ≤ x → rdM (comM M rs) x = rdU (rdM M) rs x) ∧
  (comE M rs ≠ 0 → ∀ x, x < M.J.first ∨ M.J.first + M.J.count ≤ x → rdM (comM M rs) x = rdM M x) := by
 have hc := G.c
 obtain ⟨h1, h2, h3, h4, h5, h6⟩ := G.room (by omega) rs.length
 have ha := h1.app (rs := rs) (by omega)
 have hun : ∀ x, ((appM (roomM M rs.length).D (roomM M rs.length).J rs).2.1.uns x).length ≤ (M.D.uns x).length + 67 := fun x => by
  have := appM_uns (roomM M rs.length).D (roomM M rs.length).J rs x
  have := h6 x
  omega
 obtain ⟨a1, a2, a3, a4⟩ := ha
 refine ⟨a1, a2, ?_⟩
 by_cases hz : comE M rs = 0
 ·obtain ⟨b1, b2, b3, b4, b5, b6, b7, b8⟩ := a4 hz
  have hM : comM M rs = ⟨(appM (roomM M rs.length).D (roomM M rs.length).J rs).2.1, (appM (roomM M rs.length).D (roomM M rs.length).J rs).2.2, putD (roomM M rs.length).dirty rs⟩ := if_pos hz
  rw [hM]
  refine ⟨b3, b4.trans h2, b5.trans h3, by show (appM _ _ rs).2.2.num ≤ _; omega, hun, fun _ => ⟨b1, b2, b8, fun x hx => ?_⟩, fun h => absurd hz h⟩
  show (match putD (roomM M rs.length).dirty rs x with | some l => l | none => (appM (roomM M rs.length).D (roomM M rs.length).J rs).2.1.readR x) = _
  rw [b7 x (by rw [h2, h3]; omega)]
  have := rd_put (roomM M rs.length).D.readR rs (roomM M rs.length).dirty x
  rw [this]
  exact rdU_congr rs _ _ x (h4 x (by omega))
 ·have hM : comM M rs = roomM M rs.length := if_neg hz
  rw [hM]
  exact ⟨h1, h2, h3, by omega, fun x => by have := h6 x; omega, fun h => absurd h hz, fun _ x hx => h4 x (by omega)⟩
end
end
section
open Go.RowKit
set_option maxRecDepth 100000
theorem app_gen {D : DkM} {J : JrM} {N : Nat} {rs : List (Int × List UInt8)} (h : On D N) (hb : J.bad = false) (hr : rcOk J.num rs) (hm : J.num + 1 < 18446744073709551616) (hj : jMay N J rs = true) (h1 : (rs.length : Int) ≤ J.most) (h2 : (rs.length : Int) ≤ J.room)
  (h0 : 0 ≤ J.first + 1 + J.used) (hN : J.first + 1 + J.used + rs.length + 2 ≤ N) :
  ∃ E, appM D J rs = (0, E, { J with used := J.used + ((rs.length + 2 : Nat) : Int), num := J.num + 1 }) ∧ On E N ∧
   (∀ y, E.readR y = if J.first + 1 + J.used ≤ y ∧ y < J.first + 1 + J.used + (blkL J.num rs ++ [doneB J.num (blkL J.num rs).flatten]).length then (blkL J.num rs ++ [doneB J.num (blkL J.num rs).flatten]).getD (y - (J.first + 1 + J.used)).toNat [] else D.readR y) ∧
   ∀ x, (E.uns x).length ≤ (D.uns x).length + 67 := by
 obtain ⟨k1, k2, k3, -⟩ := runS_appS (blkL J.num rs) (doneB J.num (blkL J.num rs).flatten) D N (J.first + 1 + J.used) h h0 (by rw [blkL_len]; omega) (blk_512 hr) (doneB_len _ _)
 have hu := appM_uns D J rs
 have ha : appM D J rs = (0, (runS D (appS (J.first + 1 + J.used) (blkL J.num rs) (doneB J.num (blkL J.num rs).flatten))).2, { J with used := J.used + ((rs.length + 2 : Nat) : Int), num := J.num + 1 }) := by
  unfold appM
  rw [if_neg (by rw [hb]; simp), if_neg (by simp [hr]), h.len, if_neg (by rw [hj]; simp), if_neg (by omega), if_neg (by omega), k1, if_pos rfl, Nat.mod_eq_of_lt hm]
 exact ⟨_, ha, k2, k3, fun x => by have := hu x; rwa [ha] at this⟩
end
section
open Go.RowKit
set_option maxRecDepth 100000
structure CaP where
 p : Nat
 g : Nat
 s : Nat
 b : Nat
 c : Nat
def DirV (w : World) (f : Int → Option Value) (d : Int → Option (List UInt8)) : Prop := ∀ x, (f x = none ∧ d x = none) ∨ ∃ v l, f x = some v ∧ d x = some l ∧ BlkB w v l ∧ 0 ≤ x ∧ x < 4096
structure CaW (w : World) (P : CaP) (O : List Nat) (M : CaM) : Prop where
 blk : Blk w P.c 133 #[.pointer (some ⟨P.p, 0, none⟩), .pointer (some ⟨P.g, 0, none⟩), .pointer (some ⟨P.s, 0, none⟩), .bool false]
 dsk : Dsk w P.p O M.D
 jr : Jr w P.g P.p M.J
 srt : ∃ f, SrtW w P.s P.b 4096 f ∧ DirV w f M.dirty
 nO : P.c ∉ O ∧ P.g ∉ O ∧ P.s ∉ O ∧ P.b ∉ O
def CaP.own (P : CaP) (O : List Nat) : List Nat := P.c :: P.g :: P.b :: O
section
variable {w w' w1 w2 : World} {P : CaP} {O : List Nat} {M M' : CaM} {D' : DkM} {F : List Nat}
theorem DirV.keepT {f : Int → Option Value} {d : Int → Option (List UInt8)} (h : DirV w f d) (fr : Fr F w w') (h8 : NoTy w F 5) : DirV w' f d := fun x => by
 rcases h x with h | ⟨v, l, h1, h2, h3, h4⟩
 ·exact .inl h
 ·exact .inr ⟨v, l, h1, h2, h3.keepT fr h8, h4⟩
theorem SrtW.noTyB {p b n : Nat} {f : Int → Option Value} (h : SrtW w p b n f) (e : TypeId) : NoTy w [b] e := h.noTy e
theorem CaW.keep (h : CaW w P O M) (f : Fr F w w') (hc : P.c ∉ F) (hg : P.g ∉ F) (hs : P.s ∉ F) (hb : P.b ∉ F) (hO : ∀ i ∈ O, i ∉ F) (h8 : NoTy w F 5) : CaW w' P O M := by
 obtain ⟨v, h1, h2⟩ := h.srt
 exact ⟨h.blk.keep f hc, h.dsk.keep f hO h8, h.jr.keep f hg, ⟨v, h1.keep f hs hb, h2.keepT f h8⟩, h.nO⟩
theorem CaW.keep_nil (h : CaW w P O M) (f : Fr [] w w') : CaW w' P O M := h.keep f (by simp) (by simp) (by simp) (by simp) (fun i _ => by simp) (NoTy.nil _ _)
theorem CaW.lts (h : CaW w P O M) : P.c < w.heap.size ∧ P.g < w.heap.size ∧ P.s < w.heap.size ∧ P.b < w.heap.size ∧ ∀ i ∈ O, i < w.heap.size := by
 obtain ⟨v, h1, -⟩ := h.srt
 obtain ⟨X, hX⟩ := h.dsk
 exact ⟨h.blk.lt, h.jr.lt, h1.blk.lt, h1.map.lt, hX.lt⟩
theorem CaW.ne (h : CaW w P O M) : P.c ≠ P.g ∧ P.c ≠ P.s ∧ P.c ≠ P.b ∧ P.g ≠ P.s ∧ P.g ≠ P.b ∧ P.s ≠ P.b := by
 obtain ⟨v, h1, -⟩ := h.srt
 have a := h.blk
 have b := h.jr
 have c := h1.blk
 have d : ∀ e cs fz, w.heap[P.b]? ≠ some (.cells cs e fz) := fun e cs fz => h1.noTy e P.b (List.mem_singleton.2 rfl) cs fz
 unfold Jr at b
 unfold Blk at a b c
 refine ⟨fun e => ?_, fun e => ?_, fun e => ?_, fun e => ?_, fun e => ?_, fun e => ?_⟩
 ·rw [e, b] at a; exact absurd a (by intro h; cases h)
 ·rw [e, c] at a; exact absurd a (by intro h; cases h)
 ·rw [e] at a; exact d _ _ _ a
 ·rw [e, c] at b; exact absurd b (by intro h; cases h)
 ·rw [e] at b; exact d _ _ _ b
 ·rw [e] at c; exact d _ _ _ c
def AftC (w : World) (P : CaP) (O : List Nat) (M' : CaM) (w' : World) : Prop := ∃ O', CaW w' P O' M' ∧ (∀ i ∈ O', i ∈ O ∨ w.heap.size ≤ i) ∧ Fr (P.own O) w w'
theorem AftC.same (h : CaW w' P O M) (f : Fr [] w w') : AftC w P O M w' := ⟨O, h, fun i hi => .inl hi, f.nil⟩
theorem AftC.fr (h : AftC w P O M w') : Fr (P.own O) w w' := by obtain ⟨O', -, -, f⟩ := h; exact f
theorem AftC.pre (f : Fr [] w w1) (h : AftC w1 P O M w2) : AftC w P O M w2 := by
 obtain ⟨O', h1, h2, h3⟩ := h
 refine ⟨O', h1, fun i hi => ?_, f.nil.trans h3 (fun i hi => .inl hi)⟩
 rcases h2 i hi with h | h
 ·exact .inl h
 ·exact .inr (Nat.le_trans f.size h)
theorem AftC.keep_nil (h : AftC w P O M w1) (f : Fr [] w1 w2) : AftC w P O M w2 := by
 obtain ⟨O', h1, h2, h3⟩ := h
 exact ⟨O', h1.keep_nil f, h2, h3.trans_nil f⟩
theorem AftC.trans (h : CaW w P O M) {O1 : List Nat} (ho : ∀ i ∈ O1, i ∈ O ∨ w.heap.size ≤ i) (f : Fr (P.own O) w w1) (h2 : AftC w1 P O1 M' w2) : AftC w P O M' w2 := by
 obtain ⟨O2, k1, k2, k3⟩ := h2
 refine ⟨O2, k1, fun i hi => ?_, f.trans k3 (fun i hi => ?_)⟩
 ·rcases k2 i hi with h | h
  ·exact ho i h
  ·exact .inr (Nat.le_trans f.size h)
 ·unfold CaP.own at hi ⊢
  simp only [List.mem_cons] at hi ⊢
  rcases hi with h | h | h | h
  ·exact .inl (.inl h)
  ·exact .inl (.inr (.inl h))
  ·exact .inl (.inr (.inr (.inl h)))
  ·rcases ho i h with h | h
   ·exact .inl (.inr (.inr (.inr h)))
   ·exact .inr h
theorem CaW.no8 (h : CaW w P O M) : NoTy w (P.own O) 5 := fun i hi cs fz => by
 unfold CaP.own at hi
 simp only [List.mem_cons] at hi
 rcases hi with rfl | rfl | rfl | hi
 ·have := h.blk
  unfold Blk at this
  rw [this]; intro e; cases e
 ·have := h.jr
  unfold Jr Blk at this
  rw [this]; intro e; cases e
 ·obtain ⟨v, h1, -⟩ := h.srt
  exact h1.noTy _ _ (List.mem_singleton.2 rfl) cs fz
 ·exact h.dsk.no8s i hi cs fz
theorem CaW.disk (h : CaW w P O M) (ha : AftD w P.p O D' w') : AftC w P O { M with D := D' } w' := by
 obtain ⟨O', k1, k2, k3⟩ := ha
 obtain ⟨v, h1, h2⟩ := h.srt
 obtain ⟨n1, n2, n3, n4⟩ := h.nO
 obtain ⟨l1, l2, l3, l4, -⟩ := h.lts
 have key : ∀ i, i < w.heap.size → i ∉ O → i ∉ O' := fun i hi hn hm => by
  rcases k2 i hm with h | h
  ·exact hn h
  ·omega
 exact ⟨O', ⟨h.blk.keep k3 n1, k1, h.jr.keep k3 n2, ⟨v, h1.keep k3 n3 n4, h2.keepT k3 h.dsk.no8s⟩, key _ l1 n1, key _ l2 n2, key _ l3 n3, key _ l4 n4⟩, k2, (Fr.refl (P.own O) w).trans k3 (fun i hi => .inl (by unfold CaP.own; simp [hi]))⟩
theorem CaW.journal (h : CaW w P O M) {r : Int × DkM × JrM} {e : Ending} (ha : JopC w P.p P.g O r e w') : e = .returned (.int .i64 r.1) ∧ AftC w P O { M with D := r.2.1, J := r.2.2 } w' := by
 obtain ⟨he, O', k1, k2, k4, k3⟩ := ha
 obtain ⟨v, h1, h2⟩ := h.srt
 obtain ⟨n1, n2, n3, n4⟩ := h.nO
 obtain ⟨l1, l2, l3, l4, -⟩ := h.lts
 obtain ⟨e1, e2, e3, e4, e5, e6⟩ := h.ne
 have key : ∀ i, i < w.heap.size → i ∉ O → i ∉ O' := fun i hi hn hm => by
  rcases k2 i hm with h | h
  ·exact hn h
  ·omega
 have key2 : ∀ i, i ≠ P.g → i ∉ O → i ∉ P.g :: O := fun i hi hn hm => by
  rcases List.mem_cons.1 hm with h | h
  ·exact hi h
  ·exact hn h
 have h8 : NoTy w (P.g :: O) 5 := fun i hi cs fz => h.no8 i (by unfold CaP.own; simp only [List.mem_cons] at hi ⊢; rcases hi with h | h; exact .inr (.inl h); exact .inr (.inr (.inr h))) cs fz
 exact ⟨he, O', ⟨h.blk.keep k3 (key2 _ e1 n1), k1, k4, ⟨v, h1.keep k3 (key2 _ (Ne.symm e4) n3) (key2 _ (Ne.symm e5) n4), h2.keepT k3 h8⟩, key _ l1 n1, key _ l2 n2, key _ l3 n3, key _ l4 n4⟩, k2, (Fr.refl (P.own O) w).trans k3 (fun i hi => .inl (by unfold CaP.own; simp only [List.mem_cons] at hi ⊢; rcases hi with h | h; exact .inr (.inl h); exact .inr (.inr (.inr h))))⟩
end
def FnS (w : World) (v : Value) (R : Ending → World → Prop) : Prop := ∃ f B C, v = .func (.func f) B C ∧ (∀ args w', (callFunc f args).run Tryz.prog w' = .ok (.enter f args) w') ∧ Calls Tryz.prog f (B ++ C) w R
end
section
open Go.RowKit
set_option maxRecDepth 100000
section
variable {w w' : World} {P : CaP} {O : List Nat} {M : CaM}
theorem CaW.c0 (h : CaW w P O M) : w.cell? ⟨P.c, 0, none⟩ = some (.pointer (some ⟨P.p, 0, none⟩)) := h.blk.cell 0
theorem CaW.c1 (h : CaW w P O M) : w.cell? ⟨P.c, 1, none⟩ = some (.pointer (some ⟨P.g, 0, none⟩)) := h.blk.cell 1
theorem CaW.c2 (h : CaW w P O M) : w.cell? ⟨P.c, 2, none⟩ = some (.pointer (some ⟨P.s, 0, none⟩)) := h.blk.cell 2
theorem CaW.c3 (h : CaW w P O M) : w.cell? ⟨P.c, 3, none⟩ = some (.bool false) := h.blk.cell 3
theorem caState_any (h : CaW w P O M) : Calls Tryz.prog 100 #[.pointer (some ⟨P.c, 0, none⟩)] w fun e w' => e = .returned (.int .i64 0) ∧ w = w' := by
 have c1 := h.c1
 have c3 := h.c3
 clear h
 go_enter Tryz.func100, Tryz.ntmps100
 go_wp2_with fail
 go_ret
 exact ⟨rfl, rfl⟩
set_option maxHeartbeats 1000000 in
theorem caRun_any {c : Nat} {A : Option Addr} {n cap : Nat} {fs : List Value} (hr : Row w 0 47 1 (.slice A n cap) n fs) (hn : n ≤ 4398046511104) (F : List Nat) (hA : ∀ g, (Value.slice A n cap).ownBlock = some g → g ∉ F) (PP : Nat → World → Prop) (Q : Int → World → Prop)
  (hs : Calls Tryz.prog 100 #[.pointer (some ⟨c, 0, none⟩)] w fun e w' => e = .returned (.int .i64 0) ∧ w = w') (h0 : PP 0 w) (hF : ∀ k w', PP k w' → Fr F w w')
  (hstep : ∀ k (hk : k < fs.length) w', PP k w' → FnS w' fs[k] fun e w'' => (e = .returned (.int .i64 0) ∧ PP (k + 1) w'') ∨ ∃ z, z ≠ 0 ∧ z ≠ 102 ∧ e = .returned (.int .i64 z) ∧ w''.cell? ⟨c, 3, none⟩ = some (.bool false) ∧ w''.frozen? ⟨c, 3, none⟩ = false ∧ Q z (w''.setCell ⟨c, 3, none⟩ (.bool false))) :
  Calls Tryz.prog 94 #[.pointer (some ⟨c, 0, none⟩), .slice A n cap] w fun e w' => (e = .returned (.int .i64 0) ∧ PP n w') ∨ ∃ z, e = .returned (.int .i64 z) ∧ Q z w' := by
 have hfl : fs.length = n := by have := hr.1; omega
 have HR := Lib.hid (And.intro hr hA)
 have HS := Lib.hid hstep
 have HF := Lib.hid hF
 clear hr hA hF hstep
 go_enter Tryz.func94, Tryz.ntmps94
 go_wp2_with (go_at_call 100; refine hs.mono ?_; rintro e w' ⟨rfl, rfl⟩)
 go_loopw [16] (fun i wr => ∃ k : Nat, k ≤ n ∧ i = .int .i64 k ∧ PP k wr) (fun i _ => n - (intOf i).toNat)
 case atStart => exact ⟨0, by omega, rfl, h0⟩
 case round =>
  clear h0 hs
  obtain ⟨k, hkn, rfl, hp⟩ := hrel
  by_cases hlt : k < n
  ·have d0 : (k : Int) < n := by omega
   have hkf : k < fs.length := by omega
   have rr := HR.out.1.keep (HF.out k wr hp) HR.out.2
   obtain ⟨g, cg, e⟩ := rr.hdD (by omega)
   cases e
   obtain ⟨g', o', e', hcs⟩ := rr.rdD.1 (by intro h0; rw [h0] at hkf; simp at hkf)
   cases e'
   have ck := hcs k _ (List.getElem?_eq_getElem hkf)
   rw [Nat.zero_add] at ck
   obtain ⟨f, B, C, hv, hcf, hc⟩ := HS.out k hkf wr hp
   rw [hv] at ck
   clear rr hcs hv hp
   go_wp2_with fail
   refine hc.mono ?_
   clear hc ck
   rintro e w5 (⟨rfl, hp⟩ | ⟨z, hz0, hz2, rfl, c3, f3, hq⟩)
   ·have HP := Lib.hid hp
    clear hp hcf
    go_wp2_with fail
    exact ⟨⟨k + 1, by omega, by go_num, HP.out⟩, by simp [intOf]; omega⟩
   ·have dz : (z == 0) = false := by simpa using hz0
    have d2 : (z == 102) = false := by simpa using hz2
    have HQ := Lib.hid hq
    clear hq hcf
    go_wp2_with fail
    go_ret
    exact .inr ⟨z, rfl, HQ.out⟩
  ·obtain rfl : k = n := by omega
   have d0 : ¬ ((k : Int) < k) := by omega
   have HP := Lib.hid hp
   clear hp
   go_wp2_with fail
   go_ret
   exact .inl ⟨rfl, HP.out⟩
def rdE (M : CaM) (x : Int) : Int := match M.dirty x with
 | some _ => 0
 | none => M.D.readE x
set_option maxHeartbeats 1000000 in
theorem caRead_any (h : CaW w P O M) (x : Int) (hx : wfZ x) : Calls Tryz.prog 59 #[.pointer (some ⟨P.c, 0, none⟩), .int .i64 x] w (ReadC w (rdM M x) (rdE M x)) := by
 have cs := caState_any h
 have c0 := h.c0
 have c2 := h.c2
 obtain ⟨f, hsr, hdv⟩ := h.srt
 have cg := srtGet_any hsr x hx
 have cr := dkRead_any h.dsk x
 rcases hdv x with ⟨hf, hd⟩ | ⟨v, l, hf, hd, hb, -, -⟩
 ·have HR := Lib.hid (show rdM M x = M.D.readR x ∧ rdE M x = M.D.readE x from ⟨by rw [rdM, hd], by rw [rdE, hd]⟩)
  rw [HR.out.1, HR.out.2]
  obtain ⟨z, hz⟩ : ∃ z, M.D.readE x = z := ⟨_, rfl⟩
  obtain ⟨l, hl⟩ : ∃ l, M.D.readR x = l := ⟨_, rfl⟩
  rw [hz, hl] at cr ⊢
  rw [hf] at cg
  simp only [Option.getD_none, Option.isSome_none] at cg
  clear h hsr hdv hf hd hz hl HR
  go_enter Tryz.func59, Tryz.ntmps59
  go_wp2_with (first | (go_at_call 100; refine cs.mono ?_; rintro e w' ⟨rfl, rfl⟩) | (go_at_call 57; refine cg.mono ?_; rintro e w' ⟨rfl, rfl⟩))
  refine cr.mono ?_
  rintro e w5 ⟨v5, rfl, r5, f5⟩
  have HF := Lib.hid (And.intro r5 f5)
  clear cr cg cs r5 f5
  go_wp2_with fail
  go_ret2
  exact ⟨v5, rfl, HF.out⟩
 ·have HR := Lib.hid (show rdM M x = l ∧ rdE M x = 0 from ⟨by rw [rdM, hd], by rw [rdE, hd]⟩)
  rw [HR.out.1, HR.out.2]
  rw [hf] at cg
  simp only [Option.getD_some, Option.isSome_some] at cg
  have hl512 := hb.1
  obtain ⟨Av, cv, rfl, -⟩ := hb.2.shape
  have cc := clone_any Av l 512 cv w hb.1 hb.2.rdD.1 hb.2.rdD.2.2 (by omega)
  clear h hsr hdv hf hd HR cr hb
  go_enter Tryz.func59, Tryz.ntmps59
  go_wp2_with (first | (go_at_call 100; refine cs.mono ?_; rintro e w' ⟨rfl, rfl⟩) | (go_at_call 57; refine cg.mono ?_; rintro e w' ⟨rfl, rfl⟩))
  refine cc.mono ?_
  rintro e w5 ⟨v5, rfl, r5, f5⟩
  have HF := Lib.hid (And.intro r5 f5)
  clear cc cg cs r5 f5
  go_wp2_with fail
  go_ret2
  exact ⟨v5, rfl, by rw [hl512]; exact HF.out.1, HF.out.2⟩
end
end
end Go.Proofs.YtbanogfljpkbkaaGreatDoor
