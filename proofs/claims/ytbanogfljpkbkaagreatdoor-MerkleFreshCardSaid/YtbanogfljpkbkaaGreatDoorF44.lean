/-
  Texts of this claim, one behind the other: XdE, XjZ, XjA, XjB.
-/
import Derived.Test.YtbanogfljpkbkaaGreatDoorF43
import Derived.Test.YtbanogfljpkbkaaGreatDoorF16
import Derived.Test.YtbanogfljpkbkaaGreatDoorF17
import Derived.Test.YtbanogfljpkbkaaGreatDoorF22
import Derived.Test.YtbanogfljpkbkaaGreatDoorF31
import Derived.Test.YtbanogfljpkbkaaGreatDoorF27
import Derived.Test.YtbanogfljpkbkaaGreatDoorF42
set_option linter.unusedSimpArgs false
set_option linter.unusedVariables false
set_option linter.unnecessarySimpa false
namespace Go.Proofs.YtbanogfljpkbkaaGreatDoor
section
open Go.RowKit
set_option maxRecDepth 100000
def DkM.flK (D : DkM) (k : Nat) : DkM := { D with sure := (List.range D.sure.length).map fun j : Nat => if j < k then some (D.hasR j) else D.sure.getD j none, uns := fun x => if x < (k : Int) then [] else D.uns x }
theorem DkM.sureR_nat (D : DkM) {j : Nat} (hj : j < D.sure.length) : D.sureR j = (D.sure.getD j none).getD zB512 := by
 rw [DkM.sureR, DkM.is_iff.2 ⟨by omega, by omega⟩, if_pos rfl, Int.toNat_natCast]
theorem DkM.flK_len (D : DkM) (k : Nat) : (D.flK k).sure.length = D.sure.length := by simp [DkM.flK]
theorem DkM.flK_sureR (D : DkM) (k : Nat) {j : Nat} (hj : j < D.sure.length) : (D.flK k).sureR j = if j < k then D.hasR j else D.sureR j := by
 rw [DkM.sureR_nat _ (by rw [D.flK_len]; exact hj), DkM.sureR_nat D hj]
 simp only [DkM.flK, List.getD_eq_getElem?_getD, List.getElem?_map, List.getElem?_range hj, Option.map_some, Option.getD_some]
 split <;> rfl
theorem DkM.flK_uns (D : DkM) (k : Nat) (x : Int) : (D.flK k).uns x = if x < (k : Int) then [] else D.uns x := rfl
theorem DkM.flK_hasR (D : DkM) {k : Nat} (hk : k < D.sure.length) : (D.flK k).hasR k = D.hasR k := by
 rw [DkM.hasR, D.flK_uns, if_neg (by omega), D.flK_sureR k hk, if_neg (by omega)]; rfl
theorem DkM.flush1_sureR (D : DkM) {j : Nat} (hj : j < D.sure.length) : D.flush1.sureR j = D.hasR j := by
 have hl : D.flush1.sure.length = D.sure.length := D.flushL_len _
 rw [DkM.sureR_nat _ (by rw [hl]; exact hj), DkM.hasR]
 simp only [DkM.flush1, DkM.flushL, List.getD_eq_getElem?_getD, List.getElem?_map, List.getElem?_range hj, Option.map_some, Option.getD_some, DkM.fl, Bool.false_eq_true, if_false]
 cases (D.uns j).getLast? with
 | none => dsimp only; rw [DkM.sureR_nat D hj, List.getD_eq_getElem?_getD]
 | some b => rfl
section
variable {w w' : World} {p : Nat} {O : List Nat} {D D' : DkM} {X : XdX}
theorem XdkX.out (h : XdkX w p O D X) {x : Int} (hx : x < 0 ∨ (D.sure.length : Int) ≤ x) : D.uns x = [] := by
 by_cases e : D.uns x = []
 ·exact e
 ·have := DkM.is_iff.1 (h.rng x e); omega
set_option maxHeartbeats 2000000 in
theorem xdFlush_any (h : Xdk w p O D) : Calls Tryz.prog 115 #[.pointer (some ⟨p, 0, none⟩)] w fun e w' => e = .returned (.int .i64 D.flushE) ∧ AftX w p O D.flush w' := by
 have ho := xdOff_any h
 cases hf : D.off
 ·rw [hf] at ho
  have HE := Lib.hid (show D.flushE = 0 by rw [DkM.flushE, hf]; rfl)
  have HW := Lib.hid (show D.flush = D.flush1.dec by rw [DkM.flush, hf]; rfl)
  have HOF := Lib.hid hf
  obtain ⟨X, h⟩ := h
  have c0 := h.c0
  obtain ⟨n, hn⟩ : ∃ n, D.sure.length = n := ⟨_, rfl⟩
  have hn1 := h.n1.2
  rw [hn] at c0 hn1
  have HN := Lib.hid hn
  have HH := Lib.hid h
  clear h hf hn
  go_enter Tryz.func115, Tryz.ntmps115
  go_wp2_with fail
  refine ho.mono ?_
  rintro e w1 ⟨rfl, rfl⟩
  go_wp2_with fail
  go_loopw [3] (fun i wr => ∃ k : Nat, k ≤ n ∧ i = .int .i64 k ∧ AftX w p O (D.flK k) wr) (fun i _ => n - (intOf i).toNat)
  case atStart =>
   refine ⟨0, by omega, rfl, AftX.same (Xdk.eq ⟨X, HH.out⟩ (D.flK_len 0) (fun j hj => by rw [D.flK_sureR 0 hj, if_neg (by omega)]) (funext fun x => ?_) rfl)⟩
   rw [D.flK_uns]
   split
   ·exact (HH.out.out (.inl (by omega))).symm
   ·rfl
  case round =>
   clear c0 ho
   obtain ⟨k, hkn, rfl, O1, ⟨X1, h1⟩, hO1, F1⟩ := hrel
   have c0 := h1.c0
   rw [D.flK_len, HN.out] at c0
   by_cases hlt : k < n
   ·have d0 : (k : Int) < n := by omega
    have hkl : k < (D.flK k).sure.length := by rw [D.flK_len, HN.out]; exact hlt
    obtain ⟨R, hR⟩ : ∃ R, D.hasR k = R := ⟨_, rfl⟩
    obtain ⟨S, hS⟩ : ∃ S : ByteArray, (⟨R.toArray⟩ : ByteArray) = S := ⟨_, rfl⟩
    have HS := Lib.hid (show strV R = .string S from congrArg Value.string hS)
    have HR := Lib.hid hR
    have H1 := Lib.hid h1
    have HA := Lib.hid (And.intro hO1 F1)
    clear h1 hO1 F1 hR hS
    go_upto_region 6 with fail
    obtain ⟨wD, hwD⟩ : ∃ wD, wr.drew = wD := ⟨_, rfl⟩
    have fD : Fr [] wr wD := by rw [← hwD]; exact (Fr.refl [] wr).drew
    have cD := fD.cell (by simp) c0
    have cH := xdHas_any ⟨X1, H1.out.keep_nil fD⟩ hkl
    rw [D.flK_hasR (by rw [HN.out]; exact hlt), HR.out, HS.out] at cH
    have FD := Lib.hid fD
    refine wp_region_held_drew (S := fun w' => w'.cell? ⟨p, 0, none⟩ = some (.slice (some ⟨X1.g, 0, none⟩) n X1.c)) (by kernel_rfl) (by rw [hwD]; exact cD) (fun hHeld => ?_)
    rw [hwD] at hHeld ⊢
    clear hwD fD cD c0 hkl
    refine tw 0 15 hHeld ?_
    refine tw 1 16 hHeld ?_
    refine tw 2 17 hHeld ?_
    refine tw 3 18 hHeld ?_
    refine tw 4 19 hHeld ?_
    refine tw 5 20 hHeld ?_
    refine tw 6 21 hHeld ?_
    refine tc 7 (fun K hK => ?_)
    go_simp
    refine cH.mono ?_
    rintro e wE ⟨rfl, fE⟩
    have cE := fE.cell (by simp) hHeld
    refine hK.out _ _ cE (fun hHx => ?_)
    clear hK hHeld cH cE
    have hHeld := hHx
    clear hHx
    try simp only [Act.put, p1, p2, p3]
    refine tw 8 23 hHeld ?_
    refine tc 9 (fun K hK => ?_)
    go_simp
    refine hK.out _ _ hHeld (fun hHx => ?_)
    clear hK hHx
    try simp only [Act.put, p1, p2, p3]
    have fE2 := FD.out.trans_nil fE
    have hE := H1.out.keep_nil fE2
    have hlX := hE.len
    rw [D.flK_len, HN.out] at hlX
    obtain ⟨q0, z0, r0⟩ := hE.row.setE (k * 2) (by rw [D.flK_len, HN.out]; omega) (.string S)
    obtain ⟨q1, z1, -⟩ := hE.row.setE (k * 2 + 1) (by rw [D.flK_len, HN.out]; omega) (.slice none 0 0)
    obtain ⟨-, -, r1⟩ := r0.setE (k * 2 + 1) (by rw [D.flK_len, HN.out]; omega) (.slice none 0 0)
    rw [← HS.out, pcells_set0 X1.ps k (by omega), pcells_set1 _ k (by rw [List.length_set]; omega), List.getElem_set_self, List.set_set, HS.out] at r1
    rw [List.getElem?_eq_getElem (by rw [pcells_len]; omega)] at q0 q1
    obtain ⟨o0, ho0⟩ : ∃ o, (pcells X1.ps)[k * 2]'(by rw [pcells_len]; omega) = o := ⟨_, rfl⟩
    obtain ⟨o1, ho1⟩ : ∃ o, (pcells X1.ps)[k * 2 + 1]'(by rw [pcells_len]; omega) = o := ⟨_, rfl⟩
    rw [ho0] at q0
    rw [ho1] at q1
    have fS : Fr [X1.g] wE ((wE.setCell ⟨X1.g, k * 2, none⟩ (.string S)).setCell ⟨X1.g, k * 2 + 1, none⟩ (.slice none 0 0)) := ((Fr.refl [X1.g] wE).setCell (.inl (by simp)) (.string S)).setCell (.inl (by simp)) (.slice none 0 0)
    have hP := hE.put (i := k) (s := R) (L := []) (v := .slice none 0 0) (D' := D.flK (k + 1)) (by rw [D.flK_len, HN.out]; exact hlt) (by rw [D.flK_len, D.flK_len]) (fun j hj => by
      rw [D.flK_len] at hj
      rw [D.flK_sureR _ hj, D.flK_sureR _ hj]
      by_cases e : j = k
      ·subst e; rw [if_pos (by omega), if_pos rfl, HR.out]
      ·rw [if_neg e]
       by_cases h : j < k
       ·rw [if_pos (by omega), if_pos h]
       ·rw [if_neg (by omega), if_neg h])
     (fun y => by
      rw [D.flK_uns, D.flK_uns]
      by_cases e : y = (k : Int)
      ·subst e; rw [if_pos (by omega), if_pos rfl]
      ·rw [if_neg e]
       by_cases h : y < (k : Int)
       ·rw [if_pos (by omega), if_pos h]
       ·rw [if_neg (by omega), if_neg h])
     ⟨by rw [← HR.out]; exact DkM.hasR_len HH.out.ss HH.out.su (by rw [HN.out]; exact hlt), fun _ h => by cases h⟩ rfl fS r1 (Row.nil _ _ _ _)
    have HP := Lib.hid (show AftX w p O (D.flK (k + 1)) _ from ⟨_, ⟨_, hP⟩, fun i hi => HA.out.1 i (mem_nilO hi), (HA.out.2.trans_nil fE2).trans fS (fun i hi => HA.out.1 i (by rw [List.mem_singleton.1 hi]; exact hE.gO))⟩)
    have cS := fS.cell (p := ⟨p, 0, none⟩) (by simpa using hE.pg) hHeld
    clear hP fS r0 r1 ho0 ho1 hE fE2 fE hlX
    refine tc 10 (fun K hK => ?_)
    go_simp
    refine hK.out _ _ cS (fun hHx => ?_)
    clear hK hHx hHeld cS q0 q1 z0 z1
    refine wpAnyH_done (by kernel_rfl) ?_ _
    go_wp2_with fail
    exact ⟨⟨k + 1, by omega, by go_num, HP.out⟩, by simp [intOf]; omega⟩
   ·obtain rfl : k = n := by omega
    have d0 : ¬ ((k : Int) < k) := by omega
    have hE : XdkX wr p O1 D.flush1 X1 := h1.eq (by rw [D.flK_len]; exact D.flushL_len _) (fun j hj => by
      rw [D.flK_len] at hj
      rw [D.flush1_sureR hj, D.flK_sureR _ hj, if_pos (by rw [← HN.out]; exact hj)]) (funext fun x => by
      rw [D.flK_uns]
      split
      ·rfl
      ·exact (HH.out.out (.inr (by rw [HN.out]; omega))).symm) rfl
    have cd := xdDid_any ⟨X1, hE⟩ HOF.out
    have HA := Lib.hid (And.intro hO1 F1)
    clear h1 hE hO1 F1
    go_wp2_with fail
    refine cd.mono ?_
    rintro e w9 ⟨rfl, ha⟩
    go_wp2_with fail
    go_ret
    exact ⟨by rw [HE.out]; rfl, by rw [HW.out]; exact ha.trans HA.out.2 HA.out.1⟩
 ·rw [hf] at ho
  have HE := Lib.hid (show D.flushE = 102 by rw [DkM.flushE, hf]; rfl)
  have HW := Lib.hid (show D.flush = D by rw [DkM.flush, hf]; rfl)
  have HH := Lib.hid h
  clear h hf
  go_enter Tryz.func115, Tryz.ntmps115
  go_wp2_with fail
  refine ho.mono ?_
  rintro e w1 ⟨rfl, rfl⟩
  go_wp2_with fail
  go_ret
  exact ⟨by rw [HE.out]; rfl, by rw [HW.out]; exact AftX.same HH.out⟩
end
end
section
open Go.RowKit
set_option maxRecDepth 100000
set_option maxHeartbeats 2000000 in
theorem xrcParts_zero (w : World) (A : Option Addr) (c : Nat) (hr : Rd w A (bvs zB512)) (hc : 512 ≤ c) :
  Calls Tryz.prog 179 #[.slice A 512 c] w fun e w' => e = .returned (.tuple #[.int .u64 0, .slice none 0 0, .int .u64 0, .int .i64 110]) ∧ Fr [] w w' := by
 obtain ⟨ga, oa, rfl⟩ : ∃ ga oa, A = some ⟨ga, oa, none⟩ := by
  obtain ⟨g', o', e', -⟩ := hr (by intro h0; have := congrArg List.length h0; rw [bvs_length, zB512_len, List.length_nil] at this; omega)
  exact ⟨g', o', e'⟩
 have vals : ∀ a k, k ≤ 8 → a + k ≤ 512 → ∀ (w' : World) (cc : Nat), Fr [] w w' → Calls Tryz.prog 178 #[.slice (some ⟨ga, oa + a, none⟩) k cc] w' fun e w'' => e = .returned (.int .u64 (leN ((zB512.drop a).take k) : Nat)) ∧ w' = w'' := fun a k hk hak w' cc f =>
  xrcValue_any _ _ k cc w' (by rw [List.length_take, List.length_drop, zB512_len]; omega) (by
   have := ((hr.keep_nil f).drop a).take k
   rw [← bvs_drop, ← bvs_take] at this
   simpa [addr_add] using this) hk
 have VV0 := Lib.hid (by have := vals 4 8 (by omega) (by omega); rwa [show leN ((zB512.drop 4).take 8) = 0 by decide] at this)
 have VV1 := Lib.hid (by have := vals 12 2 (by omega) (by omega); rwa [show leN ((zB512.drop 12).take 2) = 0 by decide] at this)
 have VV2 := Lib.hid (by have := vals 14 8 (by omega) (by omega); rwa [show leN ((zB512.drop 14).take 8) = 0 by decide] at this)
 have K12 : (12 : Int) ≤ c := by omega
 have K14 : (14 : Int) ≤ c := by omega
 have K22 : (22 : Int) ≤ c := by omega
 have N4 : ¬ (c = 4) := by omega
 have N12 : ¬ (c = 12) := by omega
 have N14 : ¬ (c = 14) := by omega
 clear hr vals
 go_enter Tryz.func179, Tryz.ntmps179
 go_upto_region 3 with fail
 have fz := (Fr.refl [] w).drew
 obtain ⟨w1, hw1⟩ : ∃ w1, w.drew = w1 := ⟨_, rfl⟩
 rw [hw1] at fz
 refine wp_region_held_drew (S := fun w' => Fr [] w w') (by kernel_rfl) (by rw [hw1]; exact fz) (fun hHeld => ?_)
 rw [hw1] at hHeld ⊢
 clear hw1 fz
 refine tw 0 14 hHeld ?_
 refine tw 1 15 hHeld ?_
 refine tw 3 17 hHeld ?_
 refine tw 4 18 hHeld ?_
 refine tw 7 21 hHeld ?_
 refine tw 8 22 hHeld ?_
 refine tc 2 (fun K hK => ?_)
 go_simp
 refine (VV0.out _ _ hHeld).mono ?_
 rintro e w' ⟨rfl, rfl⟩
 refine hK.out _ _ hHeld (fun hHn => ?_)
 clear hHn
 clear hK K
 try simp only [Act.put, p1, p2, p3]
 refine tc 5 (fun K hK => ?_)
 go_simp
 refine (VV1.out _ _ hHeld).mono ?_
 rintro e w' ⟨rfl, rfl⟩
 refine hK.out _ _ hHeld (fun hHn => ?_)
 clear hHn
 clear hK K
 try simp only [Act.put, p1, p2, p3]
 refine tw 6 20 hHeld ?_
 refine tc 9 (fun K hK => ?_)
 go_simp
 refine (VV2.out _ _ hHeld).mono ?_
 rintro e w' ⟨rfl, rfl⟩
 refine hK.out _ _ hHeld (fun hHn => ?_)
 clear hHn
 clear hK K
 try simp only [Act.put, p1, p2, p3]
 refine tw 10 6 hHeld ?_
 refine tw 11 7 hHeld ?_
 refine tw 12 8 hHeld ?_
 refine wpAnyH_done (by kernel_rfl) ?_ _
 go_wp2_with fail
 go_loopw [9, 10] (fun v i wr => v = .slice none 0 0 ∧ i = .int .i64 0 ∧ Fr [] w wr) (fun _ _ _ => 0)
 case atStart => exact ⟨rfl, rfl, hHeld⟩
 case round =>
  clear hHeld
  obtain ⟨rfl, rfl, F⟩ := hrel
  have HFF := Lib.hid F
  clear F
  go_upto_region 9 with fail
  obtain ⟨w2, hw2⟩ : ∃ w2, wr.drew = w2 := ⟨_, rfl⟩
  have Fd := HFF.out.drew
  rw [hw2] at Fd
  refine wp_region_held_drew (S := fun w' => Fr [] w2 w') (by kernel_rfl) (by rw [hw2]; exact Fr.refl _ _) (fun hHeld => ?_)
  rw [hw2] at hHeld ⊢
  clear hw2
  refine tw 0 46 hHeld ?_
  refine tw 1 47 hHeld ?_
  refine tw 2 48 hHeld ?_
  refine tu 3 49 hHeld ?_
  refine tu 4 50 hHeld ?_
  refine tu 5 51 hHeld ?_
  refine tw 6 52 hHeld ?_
  refine tw 7 53 hHeld ?_
  refine tu 8 54 hHeld ?_
  refine tu 9 55 hHeld ?_
  refine tu 10 56 hHeld ?_
  refine tu 11 57 hHeld ?_
  refine tw 12 58 hHeld ?_
  refine tw 13 59 hHeld ?_
  refine tu 14 60 hHeld ?_
  refine tu 15 61 hHeld ?_
  refine tu 16 62 hHeld ?_
  refine tu 17 63 hHeld ?_
  refine tu 18 64 hHeld ?_
  refine tu 19 65 hHeld ?_
  refine tu 20 66 hHeld ?_
  refine tu 21 67 hHeld ?_
  refine tu 22 68 hHeld ?_
  refine tu 23 69 hHeld ?_
  refine tw 24 70 hHeld ?_
  refine tw 25 71 hHeld ?_
  refine tu 26 72 hHeld ?_
  refine tu 27 73 hHeld ?_
  refine tu 28 74 hHeld ?_
  refine tu 29 75 hHeld ?_
  refine tu 30 76 hHeld ?_
  refine tu 31 77 hHeld ?_
  refine tu 32 78 hHeld ?_
  refine tu 33 79 hHeld ?_
  refine tw 34 80 hHeld ?_
  refine wpAnyH_done (by kernel_rfl) ?_ _
  go_wp2_with fail
  (try simp only [Exit.inBlock, Exit.then]); refine bodyPost_ret (results_tmp4 rfl _ _ _) rfl ?_
  exact ⟨rfl, Fd.trans_nil hHeld⟩
set_option maxHeartbeats 2000000 in
theorem xrcParse_zero (w : World) (A : Option Addr) (m n c : Nat) (vs : List Value) (bs : List (List UInt8)) (hn : bs.length = n) (hr : BRd w A vs bs) (h0 : 0 < n) (hz : ∀ b ∈ bs, b = zB512) :
  Calls Tryz.prog 123 #[.int .u64 m, .slice A n c] w fun e w' => e = .returned (.tuple #[.slice none 0 0, .int .i64 0, .int .i64 110]) ∧ Fr [] w w' := by
 have d0 : ((n : Int) == 0) = false := by rw [beq_eq_false_iff_ne]; omega
 have hv0 : vs.length = n := by rw [hr.len, hn]
 have hb0 : 0 < bs.length := by omega
 have hv1 : 0 < vs.length := by omega
 obtain ⟨g, o, rfl, hcell⟩ := hr.rd (by intro h; rw [h] at hv1; simp at hv1)
 have c0 := hcell 0 _ (List.getElem?_eq_getElem hv1)
 rw [Nat.add_zero] at c0
 obtain ⟨A0, cap0, hv00, hr0, hn0, hc0⟩ := hr.each 0 hv1 hb0
 have eb : bs[0] = zB512 := hz _ (List.getElem_mem hb0)
 rw [eb] at hv00 hr0 hn0 hc0
 rw [zB512_len] at hv00 hn0 hc0
 rw [hv00] at c0
 have cc := xrcParts_zero w A0 cap0 hr0 (by omega)
 have hpos : (0 : Int) < n := by omega
 have hposN : 0 < n := h0
 clear hr hcell hv00 hr0 eb hz hn hv0 hb0 hv1
 go_enter Tryz.func123, Tryz.ntmps123
 go_wp2_with fail
 refine cc.mono ?_
 rintro e w1 ⟨rfl, f1⟩
 have HF := Lib.hid f1
 clear cc f1
 go_wp2_with fail
 refine bodyPost_ret (results_tmp3 rfl _ _ _) rfl ?_
 exact ⟨rfl, HF.out⟩
end
section
open Go.RowKit
set_option maxRecDepth 100000
section
variable {w w' : World} {p : Nat} {O : List Nat} {D : DkM}
set_option maxHeartbeats 1000000 in
theorem xjRight_yes (h : Xdk w p O D) (x y : Int) (hr : jRight D x y = true) : Calls Tryz.prog 66 #[.pointer (some ⟨p, 0, none⟩), .int .i64 x, .int .i64 y] w fun e w' => e = .returned (.bool true) ∧ w = w' := by
 obtain ⟨X, hX⟩ := h
 have c0 := hX.c0
 have hn := hX.n1
 obtain ⟨n, hn'⟩ : ∃ n, D.sure.length = n := ⟨_, rfl⟩
 have hb2 := hr
 simp only [jRight, Bool.and_eq_true, decide_eq_true_eq] at hb2
 rw [hn'] at c0 hn hb2
 obtain ⟨h1, h2, h3, h4⟩ := hb2
 clear hX hr hn'
 go_enter Tryz.func66, Tryz.ntmps66
 go_wp2_with fail
 go_returns
 exact ⟨rfl, rfl⟩
theorem jRight_on {N : Nat} (h : On D N) {x y : Int} : jRight D x y = (decide (16 ≤ y) && (decide (y ≤ 256) && (decide (0 ≤ x) && decide (x ≤ (N : Int) - y)))) := by rw [jRight, h.len]
set_option maxHeartbeats 1000000 in
theorem xjMark_yes {N : Nat} (h : Xdk w p O D) (on : On D N) (x : Int) (hx : 0 ≤ x ∧ x < N) (n : Nat) (hn : n < 18446744073709551616) (h0 : n ≠ 0) (hu : (D.uns x).length ≤ 4398046511104) :
  Calls Tryz.prog 67 #[.pointer (some ⟨p, 0, none⟩), .int .i64 x, .int .u64 (n : Int)] w fun e w' => e = .returned (.int .i64 0) ∧ AftX w p O (mkE D x n).2 w' := by
 have cm := xrcMark_any w n hn
 unfold MarkC at cm
 rw [if_neg h0, if_neg h0, show (n != 0) = true from by simpa using h0, show errG true 1 = 0 from rfl] at cm
 have hml : (markB n).length = 512 := markB_len n
 obtain ⟨hE1, hE2⟩ := on.write hx.1 hx.2 hml
 have hF := (on.wr x (markB n)).flush
 have HM := Lib.hid (show (mkE D x n).2 = (D.wr x (markB n)).flush from by
  rw [mkE, if_neg h0]
  show (if D.writeE x (markB n).length = 0 then runS (D.write x (markB n)) [.fl] else _).2 = _
  rw [if_pos hE1, hE2]
  show (if (D.wr x (markB n)).flushE = 0 then _ else _ : Int × DkM).2 = _
  rw [if_pos hF.1]; rfl)
 obtain ⟨b, hb⟩ : ∃ b, markB n = b := ⟨_, rfl⟩
 rw [hb] at cm hml hE1 hE2 hF HM
 rw [hml] at hE1
 have HE := Lib.hid (And.intro hE1 (And.intro hE2 hF))
 have HH := Lib.hid (And.intro h hu)
 clear hE1 hE2 hF hb h
 go_enter Tryz.func67, Tryz.ntmps67
 go_wp2_with fail
 refine cm.mono ?_
 rintro e w1 ⟨v, rfl, r, f⟩
 obtain ⟨A, c, rfl, -, -, -, -, -⟩ := r.shape
 have cw := xdWrite_any (HH.out.1.keep_nil f) x A 512 c b hml r.rdD.1 r.rdD.2.2 HH.out.2
 rw [HE.out.1, HE.out.2.1] at cw
 have HF := Lib.hid f
 clear r cm f
 go_wp2_with fail
 refine cw.mono ?_
 rintro e w2 ⟨rfl, O', hd, ho, f2⟩
 have cf := xdFlush_any hd
 rw [HE.out.2.2.1] at cf
 have H2 := Lib.hid (And.intro ho f2)
 clear cw hd ho f2
 go_wp2_with fail
 refine cf.mono ?_
 rintro e w3 ⟨rfl, ha⟩
 have H3 := Lib.hid ha
 clear ha cf
 go_wp2_with fail
 go_ret
 rw [HM.out]
 exact ⟨rfl, ((AftX.trans H2.out.2 H2.out.1 H3.out).pre HF.out)⟩
set_option maxHeartbeats 1000000 in
theorem xjInit_yes {N : Nat} (h : Xdk w p O D) (on : On D N) (x y : Int) (hr : jRight D x y = true) (hu : (D.uns x).length ≤ 4398046511104) :
  Calls Tryz.prog 32 #[.pointer (some ⟨p, 0, none⟩), .int .i64 x, .int .i64 y] w fun e w' => e = .returned (.int .i64 0) ∧ AftX w p O (mkE D x 1).2 w' := by
 have cr := xjRight_yes h x y hr
 have hb2 := hr
 rw [jRight_on on] at hb2
 simp only [Bool.and_eq_true, decide_eq_true_eq] at hb2
 have cm := xjMark_yes h on x (by omega) 1 (by omega) (by omega) hu
 clear h hr hb2 hu
 go_enter Tryz.func32, Tryz.ntmps32
 go_wp2_with (go_at_call 66; refine cr.mono ?_; rintro e w' ⟨rfl, rfl⟩)
 refine cm.mono ?_
 rintro e w1 ⟨rfl, ha⟩
 have HA := Lib.hid ha
 clear ha cm
 go_wp2_with fail
 go_ret
 exact ⟨rfl, HA.out⟩
end
end
section
open Go.RowKit
set_option maxRecDepth 100000
def XJr (w : World) (g p : Nat) (J : JrM) : Prop := Blk w g 177 #[.pointer (some ⟨p, 0, none⟩), .int .i64 J.first, .int .i64 J.count, .int .u64 (J.num : Int), .int .i64 J.used, .bool J.begun, .bool J.bad]
section
variable {w w' : World} {p g : Nat} {O : List Nat} {D : DkM} {J : JrM}
theorem XJr.keep (h : XJr w g p J) {F : List Nat} (f : Fr F w w') (hF : g ∉ F) : XJr w' g p J := Blk.keep h f hF
theorem XJr.keep_nil (h : XJr w g p J) (f : Fr [] w w') : XJr w' g p J := h.keep f (by simp)
def XOpC (w : World) (p : Nat) (D : DkM) (x y : Int) (m : Nat) (e : Ending) (w' : World) : Prop :=
 ∃ g, e = .returned (.tuple #[.pointer (some ⟨g, 0, none⟩), .slice none 0 0, .int .i64 0]) ∧ w.heap.size ≤ g ∧ XJr w' g p (openJ x y m 0) ∧ Fr [] w w'
set_option maxHeartbeats 400000 in
theorem xjOpen_none {N : Nat} (h : Xdk w p O D) (on : On D N) (x y : Int) (hr : jRight D x y = true) {m : Nat} (hm : rmV (D.readR x) = some m) (hz : ∀ b ∈ areaK D (openJ x y 0 0) (y.toNat - 1), b = zB512) :
  Calls Tryz.prog 72 #[.pointer (some ⟨p, 0, none⟩), .int .i64 x, .int .i64 y] w (XOpC w p D x y m) := by
 have cr := xjRight_yes h x y hr
 have hb2 := hr
 rw [jRight_on on] at hb2
 simp only [Bool.and_eq_true, decide_eq_true_eq] at hb2
 have hn4 : N ≤ 4096 := by obtain ⟨X, hX⟩ := h; have := hX.n1.2; rw [on.len] at this; exact this
 have hRE : ∀ z : Int, 0 ≤ z → z < N → D.readE z = 0 ∧ (D.readR z).length = 512 := fun z h0 h1 => by
  have his : D.is z = true := on.is.2 ⟨h0, h1⟩
  refine ⟨by rw [DkM.readE, his, on.off]; rfl, ?_⟩
  obtain ⟨X, hX⟩ := h
  rw [DkM.readR_has his on.off]
  obtain ⟨i, rfl⟩ : ∃ i : Nat, z = i := ⟨z.toNat, by omega⟩
  exact DkM.hasR_len hX.ss hX.su (by rw [on.len]; omega)
 have c0 := xdRead_any h x
 rw [(hRE x (by omega) (by omega)).1] at c0
 have hl0 := (hRE x (by omega) (by omega)).2
 have hm64 := rmV_lt hm
 have HM := Lib.hid (And.intro hm hz)
 have HH := Lib.hid h
 have HRE := Lib.hid hRE
 obtain ⟨Y, rfl⟩ : ∃ Y : Nat, y = Y := ⟨y.toNat, by omega⟩
 obtain ⟨l, hl⟩ : ∃ l, D.readR x = l := ⟨_, rfl⟩
 rw [hl] at hl0 c0
 have HL := Lib.hid hl
 have hY : 16 ≤ Y ∧ Y ≤ 256 := by omega
 have hx : 0 ≤ x ∧ x + Y ≤ 4096 ∧ x + Y ≤ N := by omega
 clear h hr hb2 hRE hm hz hl
 go_enter Tryz.func72, Tryz.ntmps72
 go_wp2_with (go_at_call 66; refine cr.mono ?_; rintro e w' ⟨rfl, rfl⟩)
 refine c0.mono ?_
 rintro e w1 ⟨v, rfl, r1, f1⟩
 obtain ⟨A, c, rfl, hnc, -, -, -, -⟩ := r1.shape
 obtain ⟨n1, hn1⟩ : ∃ n1, l.length = n1 := ⟨_, rfl⟩
 rw [hn1] at r1 hnc hl0 ⊢
 subst hl0
 have cm := xrcReadMark_any w1 A l 512 c hn1 r1.rdD.1 r1.rdD.2.2 hnc
 unfold RmC at cm
 rw [← HL.out, HM.out.1, show errG (some m).isSome 110 = 0 from rfl, show (some m).getD 0 = m from rfl] at cm
 have HF1 := Lib.hid f1
 clear r1 f1 c0
 go_wp2_with fail
 refine cm.mono ?_
 rintro e w2 ⟨rfl, f2⟩
 have HF2 := Lib.hid (HF1.out.trans_nil f2)
 have HMM := Lib.hid hm64
 clear f2 cm HF1 hn1 cr hn4 hm64
 go_wp2_with fail
 obtain ⟨ar, har⟩ : ∃ ar, areaK D (openJ x Y 0 0) = ar := ⟨_, rfl⟩
 have HAR := Lib.hid har
 have ar0 : ar 0 = [] := by rw [← har]; rfl
 clear har
 go_loopw [12, 13] (fun v i wr => ∃ k : Nat, 1 ≤ k ∧ k ≤ Y ∧ i = .int .i64 k ∧ Fr [] w2 wr ∧ ∃ vs, BRow wr w2.heap.size v vs (ar (k - 1))) (fun _ i _ => Y - (intOf i).toNat)
 case atStart => exact ⟨1, by omega, by omega, rfl, Fr.refl _ _, [], by rw [show ar (1 - 1) = [] from ar0]; exact BRow.nil _ _⟩
 case round =>
  obtain ⟨w3, hw3⟩ : ∃ w3, w3 = wr := ⟨_, rfl⟩
  subst hw3
  obtain ⟨k, hk1, hkY, rfl, fr, vs, R⟩ := hrel
  have rr := R.row
  have hal : (ar (k - 1)).length = k - 1 := by rw [← HAR.out]; exact areaK_len _ _ _
  rw [hal] at rr
  obtain ⟨Av, cv, rfl, hcv, -, -, -, -⟩ := rr.shape
  by_cases hlt : k < Y
  ·have d0 : (k : Int) < Y := by omega
   have cr := xdRead_any (HH.out.keep_nil (HF2.out.trans_nil fr)) (x + k)
   rw [(HRE.out (x + k) (by omega) (by omega)).1] at cr
   obtain ⟨b, hb⟩ : ∃ b, D.readR (x + k) = b := ⟨_, rfl⟩
   have hb5 : b.length = 512 := by rw [← hb]; exact (HRE.out (x + k) (by omega) (by omega)).2
   rw [hb] at cr
   have HB := Lib.hid (show ar k = ar (k - 1) ++ [b] from by
    obtain ⟨q, rfl⟩ : ∃ q, k = q + 1 := ⟨k - 1, by omega⟩
    rw [← HAR.out, areaK_succ, Nat.add_sub_cancel, ← hb]
    congr 3
    show x + 1 + ((q : Nat) : Int) = _
    omega)
   have e1 : IntKind.i64.wrap (x + (k : Int)) = x + k := IntWalk.i64_in _ (by omega)
   have HR := Lib.hid (And.intro R fr)
   have HAL := Lib.hid hal
   clear R fr hb hal
   obtain ⟨q, hq⟩ : ∃ q, k - 1 = q := ⟨_, rfl⟩
   rw [hq] at rr hcv ⊢
   go_wp2_with fail
   refine cr.mono ?_
   rintro e w4 ⟨vb, rfl, r4, f4⟩
   rw [hb5] at r4
   obtain ⟨Ab, cb, rfl, hcb, -, -, -, -⟩ := r4.shape
   have r9 := rr.keep_nil f4
   have h34 := f4.size
   have h23 := HR.out.2.size
   have H4 := Lib.hid (And.intro r4 f4)
   have HB5 := Lib.hid hb5
   clear cr rr r4 f4 hb5
   go_wp2_with (at_builtin; refine wpList_app rfl rfl slBB w2.heap.size _ q vs rfl (r9.alloc _) _ 1 1 [_] rfl rfl (Rd.one _ _ _) (by intro u hu; rw [List.mem_singleton.1 hu]; rfl) (fun h => by cases h) (by omega) (by simp; omega) ?_; intro v7 wx q1 q2 q3 q4)
   obtain ⟨R, fr⟩ := HR.out
   obtain ⟨r4, f4⟩ := H4.out
   have fa : Fr [] w4 (w4.alloc (.cells #[.slice Ab 512 cb] 27)) := (Fr.refl [] w4).alloc _
   replace q2 : Fr (Value.slice Av q cv).ownBlock.toList (w4.alloc (.cells #[.slice Ab 512 cb] 27)) wx := q2
   have hal := HAL.out
   rw [hq] at R hal
   have R9x := ((R.keep_nil f4).keep_nil fa).snoc (b := b) (by rw [HB5.out]; exact (r4.keep_nil fa).mono (by omega)) q2 (by rw [hal]; exact q1)
   refine ⟨⟨k + 1, by omega, by omega, by go_num, (fr.trans_nil (f4.trans_nil fa)).trans q2 (fun g hg => .inr (r9.lt g (mem_own.1 hg)).1), vs ++ [.slice Ab 512 cb], ?_⟩, by simp [intOf]; omega⟩
   rw [Nat.add_sub_cancel, HB.out, hq]
   exact R9x
  ·obtain rfl : k = Y := by omega
   have d0 : ¬ ((k : Int) < k) := by omega
   have hz := HM.out.2
   rw [show ((k : Nat) : Int).toNat - 1 = k - 1 by omega, HAR.out] at hz
   obtain ⟨bs, hbs⟩ : ∃ bs, ar (k - 1) = bs := ⟨_, rfl⟩
   rw [hbs] at R hz hal
   obtain ⟨q, hq⟩ : ∃ q, k - 1 = q := ⟨_, rfl⟩
   rw [hq] at rr hcv hal ⊢
   have kj := Blk.new w3 177 #[.pointer (some ⟨p, 0, none⟩), .int .i64 x, .int .i64 k, .int .u64 (m : Int), .int .i64 0, .bool false, .bool false]
   have fj : Fr [] w3 (w3.alloc (.cells #[.pointer (some ⟨p, 0, none⟩), .int .i64 x, .int .i64 k, .int .u64 (m : Int), .int .i64 0, .bool false, .bool false] 177)) := (Fr.refl _ _).alloc _
   obtain ⟨w4, hw4⟩ : ∃ z, w3.alloc (.cells #[.pointer (some ⟨p, 0, none⟩), .int .i64 x, .int .i64 k, .int .u64 (m : Int), .int .i64 0, .bool false, .bool false] 177) = z := ⟨_, rfl⟩
   have HW4 := Lib.hid hw4
   rw [hw4] at kj fj
   obtain ⟨g, hg⟩ : ∃ g, w3.heap.size = g := ⟨_, rfl⟩
   rw [hg] at kj
   have hm64 := HMM.out
   obtain ⟨wD, hwD⟩ : ∃ wD, w4.drew = wD := ⟨_, rfl⟩
   have fD : Fr [] w4 wD := by rw [← hwD]; exact (Fr.refl [] _).drew
   have f3D := fj.trans_nil fD
   have cp := xrcParse_zero wD (if cv = 0 then Av else Av.map (·.add 0)) m q cv vs bs hal (by have := (R.brd.keep_nil f3D).cut 0 cv (by rw [R.vlen, hal]; exact hcv); simpa using this) (by omega) hz
   obtain ⟨A', hA'⟩ : ∃ A', (if cv = 0 then Av else Av.map (·.add 0)) = A' := ⟨_, rfl⟩
   rw [hA'] at cp
   have HA' := Lib.hid hA'
   have hSD : wD.cell? ⟨g, 3, none⟩ = some (.int .u64 (m : Int)) ∧ wD.cell? ⟨g, 4, none⟩ = some (.int .i64 0) := ⟨fD.cell (by simp) (kj.cell 3), fD.cell (by simp) (kj.cell 4)⟩
   have HK := Lib.hid (And.intro kj (And.intro (fr.trans_nil f3D) fD))
   have HG := Lib.hid hg
   have HS := Lib.hid fr.size
   clear R fr hz hbs kj fj fD f3D hw4 hal rr hA' ar0
   go_wp2_with fail
   rw [HW4.out]
   clear HW4
   go_loopw [17] (fun v wr => v = .slice none 0 0 ∧ wr = w4) (fun _ _ => 0)
   case atStart => exact ⟨rfl, rfl⟩
   case round =>
    obtain ⟨rfl, rfl⟩ := hrel
    go_upto_region 19 with fail
    refine wp_region_held_drew (S := fun w' => w'.cell? ⟨g, 3, none⟩ = some (.int .u64 (m : Int)) ∧ w'.cell? ⟨g, 4, none⟩ = some (.int .i64 0)) (by kernel_rfl) (by rw [hwD]; exact hSD) (fun hHeld => ?_)
    rw [hwD] at hHeld ⊢
    clear hSD hwD
    refine tw 0 69 hHeld ?_
    refine tw 1 70 hHeld ?_
    refine tw 2 71 hHeld ?_
    refine tw 3 72 hHeld ?_
    refine tw 4 73 hHeld ?_
    refine tw 5 74 hHeld ?_
    refine tw 6 75 hHeld ?_
    refine tw 7 76 hHeld ?_
    refine tw 8 77 hHeld ?_
    refine tw 9 78 hHeld ?_ (v := .slice A' q cv) (hy := (fun w _ => (hy_sliceL (s := 1) Tryz.underlying42 (by kernel_rfl) rfl rfl 0 rfl (by omega)).trans (by rw [Nat.mul_one, HA'.out]; rfl)))
    refine tc 10 (fun K hK => ?_)
    go_simp
    refine cp.mono ?_
    rintro e w5 ⟨rfl, f5⟩
    have hHx : w5.cell? ⟨g, 3, none⟩ = some (.int .u64 (m : Int)) ∧ w5.cell? ⟨g, 4, none⟩ = some (.int .i64 0) := ⟨f5.cell (by simp) hHeld.1, f5.cell (by simp) hHeld.2⟩
    refine hK.out _ _ hHx (fun hHy => ?_)
    clear hK cp hHeld hHy
    have hHeld := hHx
    clear hHx
    try simp only [Act.put, p1, p2, p3]
    refine tw 11 68 hHeld ?_
    refine tw 12 80 hHeld ?_
    refine tw 13 81 hHeld ?_
    refine tw 14 82 hHeld ?_
    refine tw 15 18 hHeld ?_
    refine tw 16 19 hHeld ?_
    refine tw 17 20 hHeld ?_
    refine wpAnyH_done (by kernel_rfl) ?_ _
    have HF5 := Lib.hid f5
    clear hHeld f5
    go_wp2_with fail
    refine bodyPost_ret (results_tmp3 rfl _ _ _) rfl ?_
    exact ⟨g, rfl, by have := HF2.out.size; have := HG.out; have := HS.out; omega, HK.out.1.keep_nil (HK.out.2.2.trans_nil HF5.out), (HF2.out.trans_nil HK.out.2.1).trans_nil HF5.out⟩
def XcOC (w : World) (p : Nat) (x y : Int) (m : Nat) (e : Ending) (w' : World) : Prop :=
 ∃ c g, e = .returned (.tuple #[.pointer (some ⟨c, 0, none⟩), .int .i64 0]) ∧ Blk w' c 139 #[.pointer (some ⟨p, 0, none⟩), .pointer (some ⟨g, 0, none⟩), .slice none 0 0, .bool false] ∧ XJr w' g p (openJ x y m 0) ∧ w.heap.size ≤ c ∧ w.heap.size ≤ g ∧ Fr [] w w'
set_option maxHeartbeats 1000000 in
theorem xcOpen_none {N : Nat} (h : Xdk w p O D) (on : On D N) (x y : Int) (hr : jRight D x y = true) {m : Nat} (hm : rmV (D.readR x) = some m) (hz : ∀ b ∈ areaK D (openJ x y 0 0) (y.toNat - 1), b = zB512) :
  Calls Tryz.prog 36 #[.pointer (some ⟨p, 0, none⟩), .int .i64 x, .int .i64 y] w (XcOC w p x y m) := by
 have co := xjOpen_none h on x y hr hm hz
 clear h on hr hm hz
 go_enter Tryz.func36, Tryz.ntmps36
 go_wp2_with fail
 refine co.mono ?_
 rintro e w1 ⟨g, rfl, hg, hj, f1⟩
 have kc := Blk.new w1 139 #[.pointer (some ⟨p, 0, none⟩), .pointer (some ⟨g, 0, none⟩), .slice none 0 0, .bool false]
 have fc : Fr [] w1 (w1.alloc (.cells #[.pointer (some ⟨p, 0, none⟩), .pointer (some ⟨g, 0, none⟩), .slice none 0 0, .bool false] 139)) := (Fr.refl _ _).alloc _
 obtain ⟨w2, hw2⟩ : ∃ z, w1.alloc (.cells #[.pointer (some ⟨p, 0, none⟩), .pointer (some ⟨g, 0, none⟩), .slice none 0 0, .bool false] 139) = z := ⟨_, rfl⟩
 rw [hw2] at kc fc
 have HW := Lib.hid hw2
 have HF := Lib.hid (And.intro hj (And.intro f1 (And.intro fc hg)))
 have HK := Lib.hid kc
 clear co hj f1 fc hw2 kc hg
 go_wp2_with fail
 rw [HW.out]
 go_loopw [12] (fun i wr => i = .int .i64 0 ∧ wr = w2) (fun _ _ => 0)
 case atStart => exact ⟨rfl, rfl⟩
 case round =>
  obtain ⟨rfl, rfl⟩ := hrel
  go_wp2_with fail
  go_ret2
  obtain ⟨hj, f1, fc, hg⟩ := HF.out
  exact ⟨w1.heap.size, g, rfl, HK.out, hj.keep_nil fc, f1.size, hg, f1.trans_nil fc⟩
end
end
end Go.Proofs.YtbanogfljpkbkaaGreatDoor
