/-
  Texts of this claim, one behind the other: RecQ, RecR, RecS, RecT, RecU, JnD.
-/
import Derived.Test.YtamifdfkgbaobaaGreatDoorM13
import Derived.IntWalk
/-
  Layer 13 (record): Parse.
-/
set_option linter.unusedSimpArgs false
set_option linter.unusedVariables false
set_option linter.unnecessarySimpa false
namespace Go.Proofs.YtamifdfkgbaobaaGreatDoor
open Go.RowKit

theorem and_one (t k : Nat) (h : t < 18446744073709551616) : bits .and .u64 ((t : Int) / 2 ^ k) 1 = ((t / 2 ^ k % 2 : Nat) : Int) := by
  have e : (t : Int) / 2 ^ k = ((t / 2 ^ k : Nat) : Int) := by push_cast; rfl
  have h2 : t / 2 ^ k < 18446744073709551616 := Nat.lt_of_le_of_lt (Nat.div_le_self _ _) h
  rw [e, show (1 : Int) = ((1 : Nat) : Int) from rfl, bits_and_u64_nat _ 1 h2 (by omega), Nat.and_one_is_mod]
theorem all5_iff (bs : List (List UInt8)) : all5 bs = true ↔ ∀ b ∈ bs, b.length = 512 := by
  rw [all5, List.all_eq_true]
  simp

set_option maxRecDepth 100000 in
set_option maxHeartbeats 8000000 in
theorem rcParse_any (w : World) (A : Option Addr) (m n c : Nat) (vs : List Value) (bs : List (List UInt8)) (hm : m < 18446744073709551616) (hn : bs.length = n) (hr : BRd w A vs bs) (hA : A = none → n = 0) (hc : n ≤ c) (hn2 : n ≤ 140737488355328) (hK : KG w) :
    Calls Tryz.prog 54 #[.int .u64 m, .slice A n c] w (TrC w m bs) := by
  have HN := Lib.hid hn
  by_cases h0 : n = 0
  · subst h0
    have hb : bs = [] := List.length_eq_zero_iff.1 hn
    subst hb
    clear hn
    go_enter Tryz.func54, Tryz.ntmps54
    have HV := Lib.hid (show trV m [] = none from (trV_none (plV_none fun h => by have := h.1; cases this)))
    go_wp2_with fail
    go_ret3
    exact TrC.no HV.out (Fr.refl _ _)
  · have d0 : ((n : Int) == 0) = false := by rw [beq_eq_false_iff_ne]; omega
    have hv0 : vs.length = n := by rw [hr.len, hn]
    obtain ⟨b0, bs', hbs⟩ : ∃ b0 bs', bs = b0 :: bs' := by
      cases bs with
      | nil => simp at hn; omega
      | cons x r => exact ⟨x, r, rfl⟩
    obtain ⟨v0, vs', hvs⟩ : ∃ v0 vs', vs = v0 :: vs' := by
      cases vs with
      | nil => simp at hv0; omega
      | cons x r => exact ⟨x, r, rfl⟩
    obtain ⟨g, o, rfl, hcell⟩ := hr.rd (by rw [hvs]; simp)
    have c0 := hcell 0 v0 (by rw [hvs]; rfl)
    rw [Nat.add_zero] at c0
    have hs0 := hr.each 0 (by rw [hvs]; simp) (by rw [hbs]; simp)
    obtain ⟨A0, cap0, hv00, hr0, hn0, hc0⟩ := hs0
    have ev : vs[0]'(by rw [hvs]; simp) = v0 := by simp [hvs]
    have eb : bs[0]'(by rw [hbs]; simp) = b0 := by simp [hbs]
    rw [ev, eb] at hv00
    rw [eb] at hr0 hn0 hc0
    rw [hv00] at c0
    have HH := Lib.hid (show bs.headD [] = b0 by rw [hbs]; rfl)
    obtain ⟨l0, hl0⟩ : ∃ l0, b0.length = l0 := ⟨_, rfl⟩
    rw [hl0] at c0 hn0 hc0
    have cc := rcRead_any w A0 b0 l0 cap0 hl0 hr0 hn0
    have HL0 := Lib.hid hl0
    have hpos : (0 : Int) < n := by omega
    clear ev eb hv00 hr0 hn0 hl0 hbs hvs h0 hv0
    go_enter Tryz.func54, Tryz.ntmps54
    cases hp : plV b0 with
    | none =>
      have hV : trV m bs = none := trV_none (by rw [HH.out]; exact hp)
      have HV0 := Lib.hid hV
      go_wp2_with fail
      refine cc.mono ?_
      intro e w1 hE
      obtain ⟨v, rfl, r, f⟩ := PartC.of_none hp hE
      obtain ⟨A8, cap8, rfl, -, -, -, -, -⟩ := r.shape
      clear cc hE hV hp
      have HV := Lib.hid (show trV m bs = none from HV0.out)
      go_wp2_with fail
      go_ret3
      exact TrC.no HV.out f
    | some x =>
      obtain ⟨m', L, t⟩ := x
      obtain ⟨hl5, hL1, hL64, hm', ht, hLx⟩ := plV_b hp
      have HP := Lib.hid (show plV (bs.headD []) = some (m', L, t) by rw [HH.out]; exact hp)
      obtain ⟨N, hN⟩ : ∃ N, L.length = N := ⟨_, rfl⟩
      have HLN := Lib.hid hN
      rw [hN] at hL1 hL64
      go_wp2_with fail
      refine cc.mono ?_
      intro e w1 hE
      obtain ⟨v, rfl, r, f⟩ := PartC.of_some hp hE
      rw [hN] at r
      clear cc hE hp hN
      obtain ⟨A8, cap8, rfl, -, -, -, -, -⟩ := r.shape
      by_cases hmm : m' = m
      · replace hmm := hmm.symm
        subst hmm
        by_cases hlast : n ≤ N + 1
        · have K1 : (n : Int) ≤ N + 1 := by omega
          have HV := Lib.hid (show trV m bs = none from (trV_no HP.out fun h => by have := h.2.1; rw [HLN.out, HN.out] at this; omega))
          go_wp2_with fail
          go_ret3
          exact TrC.no HV.out f
        · have K1 : ¬ ((n : Int) ≤ N + 1) := by omega
          have hlb : N + 1 < bs.length := by rw [HN.out]; omega
          have hlv : N + 1 < vs.length := by rw [hr.len]; exact hlb
          obtain ⟨Al, cl, hvl, rdl, nill, capl⟩ := hr.each (N + 1) hlv hlb
          have cell9 := hcell (N + 1) vs[N + 1] (List.getElem?_eq_getElem hlv)
          rw [hvl] at cell9
          obtain ⟨bl, hbl⟩ : ∃ bl, bs[N + 1] = bl := ⟨_, rfl⟩
          rw [hbl] at cell9 rdl nill capl
          obtain ⟨nl, hnl⟩ : ∃ nl, bl.length = nl := ⟨_, rfl⟩
          rw [hnl] at cell9 nill capl
          have HNL := Lib.hid hnl
          have HBL := Lib.hid (show bs.getD (N + 1) [] = bl by simp [hlb, hbl])
          clear hvl hbl hnl
          have KC : (N : Int) + 1 ≤ c := by omega
          have KZ : (0 : Int) ≤ (N : Int) + 1 := by omega
          have hrt := hr.take (N + 1)
          have hnt : (bs.take (N + 1)).length = N + 1 := by rw [List.length_take, HN.out]; omega
          have HNT := Lib.hid hnt
          clear hnt hcell
          go_upto_region 8 with fail
          have Fd := f.drew
          have Rd9 := r.keep_nil ((Fr.refl [] w1).drew)
          obtain ⟨w2, hw2⟩ : ∃ w2, w1.drew = w2 := ⟨_, rfl⟩
          rw [hw2] at Fd Rd9
          have hS : Fr [] w2 w2 := Fr.refl _ _
          refine wp_region_held_drew (S := fun w' => Fr [] w2 w') (by kernel_rfl) (by rw [hw2]; exact hS) (fun hHeld => ?_)
          rw [hw2] at hHeld ⊢
          clear hw2 r f hS
          have CL := Lib.hid (fun (w' : World) (hS : Fr [] w2 w') => ((Fd.trans_nil hS).cell (by simp) cell9 : w'.cell? ⟨g, o + (N + 1), none⟩ = some (.slice Al nl cl)))
          clear cell9
          refine take_w 0 (some 46) (v := ?_) rfl rfl (by kernel_rfl) (by kernel_rfl) (by kernel_rfl) (fun _ _ _ h => h) (by rfl) ?_ hHeld ?_
          rotate_left
          · (intro w hSw; (try dsimp only at hSw); go_simp; try with_reducible rfl)
          simp only [Act.put, List.setIfInBounds_toArray, List.set_cons_zero, List.set_cons_succ]
          refine take_w 1 (some 47) (v := ?_) rfl rfl (by kernel_rfl) (by kernel_rfl) (by kernel_rfl) (fun _ _ _ h => h) (by rfl) ?_ hHeld ?_
          rotate_left
          · (intro w hSw; (try dsimp only at hSw); go_simp; try with_reducible rfl)
          simp only [Act.put, List.setIfInBounds_toArray, List.set_cons_zero, List.set_cons_succ]
          refine take_w 2 (some 48) (v := ?_) rfl rfl (by kernel_rfl) (by kernel_rfl) (by kernel_rfl) (fun _ _ _ h => h) (by rfl) ?_ hHeld ?_
          rotate_left
          · (intro w hSw; (try dsimp only at hSw); go_simp; try with_reducible rfl)
          simp only [Act.put, List.setIfInBounds_toArray, List.set_cons_zero, List.set_cons_succ]
          refine take_w 3 (some 49) (v := ?_) rfl rfl (by kernel_rfl) (by kernel_rfl) (by kernel_rfl) (fun _ _ _ h => h) (by rfl) ?_ hHeld ?_
          rotate_left
          · (intro w hSw; (try dsimp only at hSw); go_simp; try with_reducible rfl)
          simp only [Act.put, List.setIfInBounds_toArray, List.set_cons_zero, List.set_cons_succ]
          have cc := containsBB_any (some ⟨g, o, none⟩) (vs.take (N + 1)) (bs.take (N + 1)) (N + 1) c w2 HNT.out (hrt.keep_nil Fd) (by omega)
          cases ha : all5 (bs.take (N + 1))
          · rw [ha] at cc
            have HA := Lib.hid ha
            clear ha
            refine take_c 4 rfl (by kernel_rfl) (by rfl) (fun K hK => ?_)
            go_simp
            refine (cc).mono ?_
            rintro e w' ⟨rfl, rfl⟩
            refine hK.out _ _ hHeld (fun hHn => ?_)
            clear hHn
            clear hK K
            try simp only [Act.put, List.setIfInBounds_toArray, List.set_cons_zero, List.set_cons_succ]
            refine take_w 5 (some 51) (v := ?_) rfl rfl (by kernel_rfl) (by kernel_rfl) (by kernel_rfl) (fun _ _ _ h => h) (by rfl) ?_ hHeld ?_
            rotate_left
            · (intro w hSw; (try dsimp only at hSw); go_simp; try with_reducible rfl)
            simp only [Act.put, List.setIfInBounds_toArray, List.set_cons_zero, List.set_cons_succ]
            refine take_u 6 (some 52) rfl rfl (by kernel_rfl) (by kernel_rfl) (by kernel_rfl) (fun _ _ _ h => h) (by rfl) hHeld ?_
            simp only [Act.put, List.setIfInBounds_toArray, List.set_cons_zero, List.set_cons_succ]
            refine take_u 7 (some 53) rfl rfl (by kernel_rfl) (by kernel_rfl) (by kernel_rfl) (fun _ _ _ h => h) (by rfl) hHeld ?_
            simp only [Act.put, List.setIfInBounds_toArray, List.set_cons_zero, List.set_cons_succ]
            refine take_u 8 (some 54) rfl rfl (by kernel_rfl) (by kernel_rfl) (by kernel_rfl) (fun _ _ _ h => h) (by rfl) hHeld ?_
            simp only [Act.put, List.setIfInBounds_toArray, List.set_cons_zero, List.set_cons_succ]
            refine take_u 9 (some 55) rfl rfl (by kernel_rfl) (by kernel_rfl) (by kernel_rfl) (fun _ _ _ h => h) (by rfl) hHeld ?_
            simp only [Act.put, List.setIfInBounds_toArray, List.set_cons_zero, List.set_cons_succ]
            refine take_u 10 (some 56) rfl rfl (by kernel_rfl) (by kernel_rfl) (by kernel_rfl) (fun _ _ _ h => h) (by rfl) hHeld ?_
            simp only [Act.put, List.setIfInBounds_toArray, List.set_cons_zero, List.set_cons_succ]
            refine take_u 11 (some 57) rfl rfl (by kernel_rfl) (by kernel_rfl) (by kernel_rfl) (fun _ _ _ h => h) (by rfl) hHeld ?_
            simp only [Act.put, List.setIfInBounds_toArray, List.set_cons_zero, List.set_cons_succ]
            refine take_u 12 (some 58) rfl rfl (by kernel_rfl) (by kernel_rfl) (by kernel_rfl) (fun _ _ _ h => h) (by rfl) hHeld ?_
            simp only [Act.put, List.setIfInBounds_toArray, List.set_cons_zero, List.set_cons_succ]
            refine take_u 13 (some 59) rfl rfl (by kernel_rfl) (by kernel_rfl) (by kernel_rfl) (fun _ _ _ h => h) (by rfl) hHeld ?_
            simp only [Act.put, List.setIfInBounds_toArray, List.set_cons_zero, List.set_cons_succ]
            refine take_u 14 (some 60) rfl rfl (by kernel_rfl) (by kernel_rfl) (by kernel_rfl) (fun _ _ _ h => h) (by rfl) hHeld ?_
            simp only [Act.put, List.setIfInBounds_toArray, List.set_cons_zero, List.set_cons_succ]
            refine take_u 15 (some 61) rfl rfl (by kernel_rfl) (by kernel_rfl) (by kernel_rfl) (fun _ _ _ h => h) (by rfl) hHeld ?_
            simp only [Act.put, List.setIfInBounds_toArray, List.set_cons_zero, List.set_cons_succ]
            refine take_u 16 (some 62) rfl rfl (by kernel_rfl) (by kernel_rfl) (by kernel_rfl) (fun _ _ _ h => h) (by rfl) hHeld ?_
            simp only [Act.put, List.setIfInBounds_toArray, List.set_cons_zero, List.set_cons_succ]
            refine take_w 17 (some 63) (v := ?_) rfl rfl (by kernel_rfl) (by kernel_rfl) (by kernel_rfl) (fun _ _ _ h => h) (by rfl) ?_ hHeld ?_
            rotate_left
            · (intro w hSw; (try dsimp only at hSw); go_simp; try with_reducible rfl)
            simp only [Act.put, List.setIfInBounds_toArray, List.set_cons_zero, List.set_cons_succ]
            refine wpAnyH_done (by kernel_rfl) ?_ _
            have HV := Lib.hid (show trV m bs = none from (trV_no HP.out fun h => by have h3 := (all5_iff _).2 h.2.2.1; rw [HLN.out, HA.out] at h3; cases h3))
            go_wp2_with fail
            go_ret3
            exact TrC.no HV.out (Fd.trans_nil hHeld)
          · rw [ha] at cc
            have HA := Lib.hid ha
            clear ha
            refine take_c 4 rfl (by kernel_rfl) (by rfl) (fun K hK => ?_)
            go_simp
            refine (cc).mono ?_
            rintro e w' ⟨rfl, rfl⟩
            refine hK.out _ _ hHeld (fun hHn => ?_)
            clear hHn
            clear hK K
            try simp only [Act.put, List.setIfInBounds_toArray, List.set_cons_zero, List.set_cons_succ]
            refine take_w 5 (some 51) (v := ?_) rfl rfl (by kernel_rfl) (by kernel_rfl) (by kernel_rfl) (fun _ _ _ h => h) (by rfl) ?_ hHeld ?_
            rotate_left
            · (intro w hSw; (try dsimp only at hSw); go_simp; try with_reducible rfl)
            simp only [Act.put, List.setIfInBounds_toArray, List.set_cons_zero, List.set_cons_succ]
            refine take_w 6 (some 52) (v := ?_) rfl rfl (by kernel_rfl) (by kernel_rfl) (by kernel_rfl) (fun _ _ _ h => h) (by rfl) ?_ hHeld ?_
            rotate_left
            · (intro w hSw; (try dsimp only at hSw); go_simp; try with_reducible rfl)
            simp only [Act.put, List.setIfInBounds_toArray, List.set_cons_zero, List.set_cons_succ]
            refine take_w 7 (some 53) (v := ?_) rfl rfl (by kernel_rfl) (by kernel_rfl) (by kernel_rfl) (fun _ _ _ h => h) (by rfl) ?_ hHeld ?_
            rotate_left
            · (intro w hSw; (try dsimp only at hSw); go_simp; try with_reducible rfl)
            simp only [Act.put, List.setIfInBounds_toArray, List.set_cons_zero, List.set_cons_succ]
            refine take_w 8 (some 54) (v := ?_) rfl rfl (by kernel_rfl) (by kernel_rfl) (by kernel_rfl) (fun _ _ _ h => h) (by rfl) ?_ hHeld ?_
            rotate_left
            · (intro w hSw; (try dsimp only at hSw); go_simp; try with_reducible rfl)
            simp only [Act.put, List.setIfInBounds_toArray, List.set_cons_zero, List.set_cons_succ]
            refine take_w 9 (some 55) (v := .slice Al nl cl) rfl rfl (by kernel_rfl) (by kernel_rfl) (by kernel_rfl) (fun _ _ _ h => h) (by rfl) (fun w' hSw => by have E := CL.out w' hSw; go_simp) hHeld ?_
            try simp only [Act.put, List.setIfInBounds_toArray, List.set_cons_zero, List.set_cons_succ]
            refine take_w 10 (some 56) (v := ?_) rfl rfl (by kernel_rfl) (by kernel_rfl) (by kernel_rfl) (fun _ _ _ h => h) (by rfl) ?_ hHeld ?_
            rotate_left
            · (intro w hSw; (try dsimp only at hSw); go_simp; try with_reducible rfl)
            simp only [Act.put, List.setIfInBounds_toArray, List.set_cons_zero, List.set_cons_succ]
            refine take_w 11 (some 57) (v := ?_) rfl rfl (by kernel_rfl) (by kernel_rfl) (by kernel_rfl) (fun _ _ _ h => h) (by rfl) ?_ hHeld ?_
            rotate_left
            · (intro w hSw; (try dsimp only at hSw); go_simp; try with_reducible rfl)
            simp only [Act.put, List.setIfInBounds_toArray, List.set_cons_zero, List.set_cons_succ]
            refine take_w 12 (some 58) (v := ?_) rfl rfl (by kernel_rfl) (by kernel_rfl) (by kernel_rfl) (fun _ _ _ h => h) (by rfl) ?_ hHeld ?_
            rotate_left
            · (intro w hSw; (try dsimp only at hSw); go_simp; try with_reducible rfl)
            simp only [Act.put, List.setIfInBounds_toArray, List.set_cons_zero, List.set_cons_succ]
            refine take_w 13 (some 59) (v := ?_) rfl rfl (by kernel_rfl) (by kernel_rfl) (by kernel_rfl) (fun _ _ _ h => h) (by rfl) ?_ hHeld ?_
            rotate_left
            · (intro w hSw; (try dsimp only at hSw); go_simp; try with_reducible rfl)
            simp only [Act.put, List.setIfInBounds_toArray, List.set_cons_zero, List.set_cons_succ]
            have hfl := flat512 ((all5_iff _).1 HA.out)
            have cs := rcSeal_any (w := w2) (n := N + 1) (c := c) (bs := bs.take (N + 1)) hm HNT.out (hrt.keep_nil Fd) (by rw [hfl, HNT.out]; omega) (by omega) (hK.keep Fd)
            obtain ⟨q, hq⟩ : ∃ q, doneB m (bs.take (N + 1)).flatten = q := ⟨_, rfl⟩
            have hql : q.length = 512 := by rw [← hq, doneB_len]
            rw [hq] at cs
            have HQ := Lib.hid (fun _ : Unit => hq)
            have HQL := Lib.hid hql
            clear hq hql hfl
            refine take_c 14 rfl (by kernel_rfl) (by rfl) (fun K hK => ?_)
            go_simp
            refine cs.mono ?_
            clear cs
            rintro e w3 ⟨r, rfl, r3, f3⟩
            obtain ⟨A3, cap3, rfl, -, -, -, -, -⟩ := r3.shape
            refine hK.out _ _ (hHeld.trans_nil f3) (fun hHx => ?_)
            clear hHeld
            have hHeld := hHx
            clear hHx
            clear hK K
            try simp only [Act.put, List.setIfInBounds_toArray, List.set_cons_zero, List.set_cons_succ]
            have F3 := Fd.trans_nil f3
            have Rd3 := Rd9.keep_nil f3
            have cc := bytesEq_any Al A3 bl q nl cl 512 cap3 w3 HNL.out (rdl.keep_nil F3) nill HQL.out r3.rd.1 r3.rd.2.2
            clear Fd f3 Rd9 r3
            cases heq : (bl == q)
            · rw [heq] at cc
              have HEQ := Lib.hid heq
              clear heq
              refine take_c 15 rfl (by kernel_rfl) (by rfl) (fun K hK => ?_)
              go_simp
              refine (cc).mono ?_
              rintro e w' ⟨rfl, rfl⟩
              refine hK.out _ _ hHeld (fun hHn => ?_)
              clear hHn
              clear hK K
              try simp only [Act.put, List.setIfInBounds_toArray, List.set_cons_zero, List.set_cons_succ]
              refine take_w 16 (some 62) (v := ?_) rfl rfl (by kernel_rfl) (by kernel_rfl) (by kernel_rfl) (fun _ _ _ h => h) (by rfl) ?_ hHeld ?_
              rotate_left
              · (intro w hSw; (try dsimp only at hSw); go_simp; try with_reducible rfl)
              simp only [Act.put, List.setIfInBounds_toArray, List.set_cons_zero, List.set_cons_succ]
              refine take_w 17 (some 63) (v := ?_) rfl rfl (by kernel_rfl) (by kernel_rfl) (by kernel_rfl) (fun _ _ _ h => h) (by rfl) ?_ hHeld ?_
              rotate_left
              · (intro w hSw; (try dsimp only at hSw); go_simp; try with_reducible rfl)
              simp only [Act.put, List.setIfInBounds_toArray, List.set_cons_zero, List.set_cons_succ]
              refine wpAnyH_done (by kernel_rfl) ?_ _
              have HV := Lib.hid (show trV m bs = none from (trV_no HP.out fun h => by have h3 := h.2.2.2.1; rw [HLN.out, HBL.out, HQ.out ()] at h3; have h4 := HEQ.out; rw [h3] at h4; simp at h4))
              go_wp2_with fail
              go_ret3
              exact TrC.no HV.out F3
            · rw [heq] at cc
              have HEQ := Lib.hid (eq_of_beq heq)
              clear heq
              refine take_c 15 rfl (by kernel_rfl) (by rfl) (fun K hK => ?_)
              go_simp
              refine (cc).mono ?_
              rintro e w' ⟨rfl, rfl⟩
              refine hK.out _ _ hHeld (fun hHn => ?_)
              clear hHn
              clear hK K
              try simp only [Act.put, List.setIfInBounds_toArray, List.set_cons_zero, List.set_cons_succ]
              refine take_w 16 (some 62) (v := ?_) rfl rfl (by kernel_rfl) (by kernel_rfl) (by kernel_rfl) (fun _ _ _ h => h) (by rfl) ?_ hHeld ?_
              rotate_left
              · (intro w hSw; (try dsimp only at hSw); go_simp; try with_reducible rfl)
              simp only [Act.put, List.setIfInBounds_toArray, List.set_cons_zero, List.set_cons_succ]
              refine take_w 17 (some 63) (v := ?_) rfl rfl (by kernel_rfl) (by kernel_rfl) (by kernel_rfl) (fun _ _ _ h => h) (by rfl) ?_ hHeld ?_
              rotate_left
              · (intro w hSw; (try dsimp only at hSw); go_simp; try with_reducible rfl)
              simp only [Act.put, List.setIfInBounds_toArray, List.set_cons_zero, List.set_cons_succ]
              refine wpAnyH_done (by kernel_rfl) ?_ _
              go_wp2_with fail
              go_loopw [13, 66] (fun v i wr => ∃ k : Nat, k ≤ N ∧ i = .int .i64 k ∧ Row wr w.heap.size 3 1 (.slice A8 N cap8) N (zvs L) ∧ (∃ ps, RRow wr w.heap.size v ps ((List.range k).map (trE t L bs))) ∧ (∀ i, i < k → trQ t bs i) ∧ Fr [] w wr) (fun _ i _ => N - (intOf i).toNat)
              case atStart => exact ⟨0, Nat.zero_le _, rfl, Rd3, ⟨[], RRow.nil _ _⟩, fun i h => absurd h (by omega), F3⟩
              case round =>
                clear F3 Rd3
                obtain ⟨k, hk, rfl, R8, ⟨ps, R13⟩, hall, F⟩ := hrel
                by_cases hlt : k < N
                · have hkb : 1 + k < bs.length := by rw [HN.out]; omega
                  have hkv : 1 + k < vs.length := by rw [hr.len]; exact hkb
                  obtain ⟨g', o', e', hc⟩ := hr.rd (by intro h; rw [h] at hkv; simp at hkv)
                  cases e'
                  obtain ⟨Ak, ck, hv, rdk, nilk, capk⟩ := hr.each (1 + k) hkv hkb
                  have cell := F.cell (by simp) (hc (1 + k) vs[1 + k] (List.getElem?_eq_getElem hkv))
                  have h5 : bs[1 + k].length = 512 := (all5_iff _).1 HA.out _ (List.mem_of_getElem? (i := 1 + k) (by rw [List.getElem?_take_of_lt (by omega)]; exact List.getElem?_eq_getElem hkb))
                  have hbg : bs.getD (1 + k) [] = bs[1 + k] := by simp [hkb]
                  rw [hv, h5] at cell
                  rw [h5] at nilk capk
                  obtain ⟨b, hb⟩ : ∃ b, bs[1 + k] = b := ⟨_, rfl⟩
                  rw [hb] at h5 hbg rdk
                  replace rdk := rdk.keep_nil F
                  have hkl : k < L.length := by rw [HLN.out]; exact hlt
                  obtain ⟨g2, o2, rfl, hc2⟩ := zint_at R8.rd.1 hkl
                  have c2 := hc2 k hkl
                  have hxd : L.getD k 0 = L[k] := by simp [hkl]
                  obtain ⟨x, hx⟩ : ∃ x, L[k] = x := ⟨_, rfl⟩
                  rw [hx] at c2 hxd
                  have H5 := Lib.hid h5
                  have HXD := Lib.hid hxd
                  have HBG := Lib.hid hbg
                  have HLK := Lib.hid (show ((List.range k).map (trE t L bs)).length = k by simp)
                  have HSUC := Lib.hid (show (List.range (k + 1)).map (trE t L bs) = (List.range k).map (trE t L bs) ++ [(x, trB t k b)] by rw [List.range_succ, List.map_append, List.map_singleton, trE, hxd, hbg])
                  have HQK := Lib.hid (show trQ t bs k ↔ decide (t / 2 ^ k % 2 = 1) = likeB (trB t k b) by unfold trQ; rw [hbg])
                  have HALL := Lib.hid (fun h : trQ t bs k => (fun i hi => if e : i = k then by subst e; exact h else hall i (by omega) : ∀ i, i < k + 1 → trQ t bs i))
                  have AND := and_one t k ht
                  clear hv h5 hbg hb hc hc2 hx hxd hall hkb hkv hkl
                  by_cases hbit : t / 2 ^ k % 2 = 1
                  · have d1 : (bits .and .u64 ((t : Int) / 2 ^ k) 1 == 1) = true := by rw [AND, hbit]; rfl
                    have HTR := Lib.hid (show trB t k b = turnB b by rw [trB, if_pos hbit])
                    have HBIT := Lib.hid (show decide (t / 2 ^ k % 2 = 1) = true by rw [hbit]; rfl)
                    clear AND hbit
                    go_wp2_with fail
                    refine (clone_any Ak b 512 ck wr H5.out rdk nilk (by omega)).mono ?_
                    rintro e w4 ⟨v4, rfl, r4, f4⟩
                    obtain ⟨A4, c4, rfl, hc4, -, -, -, -⟩ := r4.shape
                    go_wp2_with fail
                    have F4 := F.trans_nil f4
                    refine (rcTurn_any A4 b 512 c4 w4 H5.out r4.rd.1 r4.rd.2.2 (by omega) (by omega)).mono ?_
                    rintro e w5 ⟨v5, rfl, r5, f5⟩
                    obtain ⟨A5, c5, rfl, hc5, -, -, -, -⟩ := r5.shape
                    have F5 := F4.trans_nil f5
                    replace r5 := r5.mono F4.size
                    rw [← HTR.out] at r5
                    have HB5 := Lib.hid (show (trB t k b).length = 512 by rw [trB_len, H5.out])
                    replace R8 := (R8.keep_nil f4).keep_nil f5
                    replace R13 := (R13.keep_nil f4).keep_nil f5
                    clear f4 f5 r4 F4 F
                    go_wp2_with fail
                    have cc := rcLike_any A5 (trB t k b) 512 c5 w5 HB5.out r5.rd.1 r5.rd.2.2 (by omega) hc5
                    cases hlk : likeB (trB t k b)
                    · rw [hlk] at cc
                      have HQN := Lib.hid (show ¬ trQ t bs k by rw [HQK.out, hlk, HBIT.out]; decide)
                      refine cc.mono ?_
                      clear cc hlk
                      rintro e w6 ⟨rfl, rfl⟩
                      have HV := Lib.hid (show trV m bs = none from (trV_no HP.out fun h => HQN.out (h.2.2.2.2 k (by rw [HLN.out]; exact hlt))))
                      go_wp2_with fail
                      go_ret3
                      exact TrC.no HV.out F5
                    · rw [hlk] at cc
                      have HQY := Lib.hid (HALL.out (by rw [HQK.out, hlk, HBIT.out]))
                      refine cc.mono ?_
                      clear cc hlk HALL
                      rintro e w6 ⟨rfl, rfl⟩
                      have r13 := R13.row
                      rw [HLK.out] at r13
                      obtain ⟨A13, c13, rfl, -, -, -, -, -⟩ := r13.shape
                      go_wp2_with (at_builtin; refine wpList_app rfl rfl slR w.heap.size _ k (rcells ps) rfl (r13.alloc _) _ 1 1 [.int .i64 x, .slice A5 512 c5] rfl rfl (Rd.of_blk (Blk.new w5 49 #[.int .i64 x, .slice A5 512 c5]) 0 _ (fun j u hu => by rw [Nat.zero_add]; simpa using hu)) (by intro u hu; simp at hu; rcases hu with rfl | rfl <;> rfl) (fun h => by cases h) (by omega) (by have := F5.size; simp; omega) ?_; intro v7 w7 q1 q2 q3 q4)
                      have fa : Fr [] w5 (w5.alloc (.cells #[.int .i64 x, .slice A5 512 c5] 49)) := (Fr.refl [] w5).alloc _
                      have R14 := (R13.keep_nil fa).snoc (x := x) (r5.keep_nil fa |> fun h => (by rw [HB5.out]; exact h : Row _ w.heap.size 5 1 (.slice A5 512 c5) (trB t k b).length (bvs (trB t k b)))) q2 (by rw [HLK.out]; exact q1)
                      rw [← HSUC.out] at R14
                      exact ⟨⟨k + 1, by omega, by go_num, (R8.keep_nil fa).keep q2 (fun g hg hm => (R8.keep_nil fa).ne_rowR (r13.keep_nil fa) (by decide) g hg (mem_own.1 hm)), ⟨_, R14⟩, HQY.out, (F5.alloc _).trans q2 (fun i hi => .inr (r13.lt i (mem_own.1 hi)).1)⟩, by simp [intOf]; omega⟩
                  · have d1 : (bits .and .u64 ((t : Int) / 2 ^ k) 1 == 1) = false := by rw [AND, beq_eq_false_iff_ne]; omega
                    have HTR := Lib.hid (show trB t k b = b by rw [trB, if_neg hbit])
                    have HBIT := Lib.hid (show decide (t / 2 ^ k % 2 = 1) = false by rw [decide_eq_false hbit])
                    clear AND hbit
                    go_wp2_with fail
                    refine (clone_any Ak b 512 ck wr H5.out rdk nilk (by omega)).mono ?_
                    rintro e w5 ⟨v4, rfl, r4, f4⟩
                    obtain ⟨A5, c5, rfl, hc5, -, -, -, -⟩ := r4.shape
                    go_wp2_with fail
                    have F5 := F.trans_nil f4
                    have r5 := r4.mono F.size
                    rw [← HTR.out] at r5
                    have HB5 := Lib.hid (show (trB t k b).length = 512 by rw [trB_len, H5.out])
                    replace R8 := R8.keep_nil f4
                    replace R13 := R13.keep_nil f4
                    clear f4 r4 F
                    have cc := rcLike_any A5 (trB t k b) 512 c5 w5 HB5.out r5.rd.1 r5.rd.2.2 (by omega) hc5
                    cases hlk : likeB (trB t k b)
                    · rw [hlk] at cc
                      have HQY := Lib.hid (HALL.out (by rw [HQK.out, hlk, HBIT.out]))
                      refine cc.mono ?_
                      clear cc hlk HALL
                      rintro e w6 ⟨rfl, rfl⟩
                      have r13 := R13.row
                      rw [HLK.out] at r13
                      obtain ⟨A13, c13, rfl, -, -, -, -, -⟩ := r13.shape
                      go_wp2_with (at_builtin; refine wpList_app rfl rfl slR w.heap.size _ k (rcells ps) rfl (r13.alloc _) _ 1 1 [.int .i64 x, .slice A5 512 c5] rfl rfl (Rd.of_blk (Blk.new w5 49 #[.int .i64 x, .slice A5 512 c5]) 0 _ (fun j u hu => by rw [Nat.zero_add]; simpa using hu)) (by intro u hu; simp at hu; rcases hu with rfl | rfl <;> rfl) (fun h => by cases h) (by omega) (by have := F5.size; simp; omega) ?_; intro v7 w7 q1 q2 q3 q4)
                      have fa : Fr [] w5 (w5.alloc (.cells #[.int .i64 x, .slice A5 512 c5] 49)) := (Fr.refl [] w5).alloc _
                      have R14 := (R13.keep_nil fa).snoc (x := x) (r5.keep_nil fa |> fun h => (by rw [HB5.out]; exact h : Row _ w.heap.size 5 1 (.slice A5 512 c5) (trB t k b).length (bvs (trB t k b)))) q2 (by rw [HLK.out]; exact q1)
                      rw [← HSUC.out] at R14
                      exact ⟨⟨k + 1, by omega, by go_num, (R8.keep_nil fa).keep q2 (fun g hg hm => (R8.keep_nil fa).ne_rowR (r13.keep_nil fa) (by decide) g hg (mem_own.1 hm)), ⟨_, R14⟩, HQY.out, (F5.alloc _).trans q2 (fun i hi => .inr (r13.lt i (mem_own.1 hi)).1)⟩, by simp [intOf]; omega⟩
                    · rw [hlk] at cc
                      have HQN := Lib.hid (show ¬ trQ t bs k by rw [HQK.out, hlk, HBIT.out]; decide)
                      refine cc.mono ?_
                      clear cc hlk
                      rintro e w6 ⟨rfl, rfl⟩
                      have HV := Lib.hid (show trV m bs = none from (trV_no HP.out fun h => HQN.out (h.2.2.2.2 k (by rw [HLN.out]; exact hlt))))
                      go_wp2_with fail
                      go_ret3
                      exact TrC.no HV.out F5
                · obtain rfl : k = N := by omega
                  have HV := Lib.hid (show trV m bs = some ((List.range k).map (trE t L bs)) by
                    rw [trV_some HP.out, HLN.out]
                    unfold trOk
                    rw [HLN.out, HBL.out, HQ.out (), HEQ.out]
                    exact ⟨rfl, by rw [HN.out]; omega, (all5_iff _).1 HA.out, rfl, hall⟩)
                  have HLK := Lib.hid (show ((List.range k).map (trE t L bs)).length = k by simp)
                  clear hall
                  go_wp2_with fail
                  go_ret3
                  exact TrC.yes (k := 0) HV.out (by rw [HLK.out]; omega) R13 F
      · have K1 : ((m' : Int) != m) = true := by simp only [bne_iff_ne]; omega
        have HMM := Lib.hid hmm
        clear hmm
        have HV := Lib.hid (show trV m bs = none from (trV_no HP.out fun h => HMM.out h.1))
        go_wp2_with fail
        go_ret3
        exact TrC.no HV.out f
end Go.Proofs.YtamifdfkgbaobaaGreatDoor
/-
  Layer 13 (record): plain laws: what was written is parsed, whatever stands behind; fewer blocks are none; another number's are none; another last block is none.
-/
set_option linter.unusedSimpArgs false
set_option linter.unusedVariables false
set_option linter.unnecessarySimpa false
namespace Go.Proofs.YtamifdfkgbaobaaGreatDoor
open Go.RowKit

theorem cut_at {a b c : List UInt8} {i n : Nat} (h : a.length = i) (h2 : b.length = n) : ((a ++ (b ++ c)).drop i).take n = b := by
  rw [List.drop_left' h, List.take_left' h2]
theorem getD_app (a b : List (List UInt8)) (i : Nat) (h : i < a.length) : (a ++ b).getD i [] = a.getD i [] := by
  rw [List.getD_eq_getElem?_getD, List.getElem?_append_left h, ← List.getD_eq_getElem?_getD]
theorem getD_mid (a b : List (List UInt8)) (d : List UInt8) (i : Nat) (h : a.length = i) : (a ++ d :: b).getD i [] = d := by
  rw [List.getD_eq_getElem?_getD, List.getElem?_append_right (by omega), h, Nat.sub_self]; rfl
theorem intsN_cons (l : List UInt8) (n : Nat) : intsN l (n + 1) = ((leN (l.take 4) : Nat) : Int) :: intsN (l.drop 4) n := by
  rw [intsN, List.range_succ_eq_map, List.map_cons, List.map_map, intsN]
  congr 1
  apply List.map_congr_left
  intro i _
  simp only [Function.comp, List.drop_drop]
  rw [show 4 * i.succ = 4 + 4 * i by omega]
theorem intsN_enc : ∀ (L : List Int) (r : List UInt8), (∀ x ∈ L, 0 ≤ x ∧ x < 4096) → intsN (encI L ++ r) L.length = L
  | [], r, _ => rfl
  | x :: L, r, h => by
    have hx := h x (by simp)
    rw [List.length_cons, intsN_cons, show encI (x :: L) ++ r = leB 4 x.toNat ++ (encI L ++ r) by rw [encI, List.flatMap_cons, List.append_assoc]; rfl]
    rw [List.take_left' (leB_length _ _), List.drop_left' (leB_length _ _), intsN_enc L r (fun y hy => h y (by simp [hy])), leN_leB13 4 _ (by omega)]
    congr 1
    omega
theorem planB_eq (n : Nat) (L : List Int) (t : Nat) : planB n L t = planM ++ (leB 8 n ++ (leB 2 L.length ++ (leB 8 t ++ (encI L ++ List.replicate (512 - (planR n L t).length) 0)))) := by
  rw [planB, pad512]
  conv => lhs; lhs; rw [planR]
  simp only [List.append_assoc]
theorem plV_planB {n t : Nat} {L : List Int} (h0 : n ≠ 0) (hn : n < 18446744073709551616) (hr : rightF L = true) (h64 : L.length ≤ 64) (ht : t < 2 ^ L.length) : plV (planB n L t) = some (n, L, t) := by
  have hl := planB_len n L t h64
  have hL := right_in hr
  have htt : t < 18446744073709551616 := Nat.lt_of_lt_of_le ht (Nat.le_trans (Nat.pow_le_pow_right (by omega) h64) (by decide : 2 ^ 64 ≤ 18446744073709551616))
  have eN : plN (planB n L t) = n := by
    rw [plN, planB_eq, cut_at (i := 4) (a := planM) rfl (leB_length _ _), leN_leB13 8 n (by omega)]
  have eC : plC (planB n L t) = L.length := by
    rw [plC, planB_eq, ← List.append_assoc, cut_at (by rw [List.length_append, leB_length]; rfl) (leB_length _ _), leN_leB13 2 _ (by omega)]
  have eT : plT (planB n L t) = t := by
    rw [plT, planB_eq, ← List.append_assoc, ← List.append_assoc, cut_at (by simp only [List.length_append, leB_length]; rfl) (leB_length _ _), leN_leB13 8 _ (by omega)]
  have d22 : (planB n L t).drop 22 = encI L ++ List.replicate (512 - (planR n L t).length) 0 := by
    rw [planB_eq, ← List.append_assoc, ← List.append_assoc, ← List.append_assoc, List.drop_left' (by simp only [List.length_append, leB_length]; rfl)]
  have eL : plL (planB n L t) = L := by rw [plL, eC, d22, intsN_enc L _ hL]
  rw [plV_some hl, eN, eL, eT]
  unfold plOk
  rw [eC, eT, eN, eL]
  refine ⟨h64, .inr (Nat.div_eq_of_lt ht), ?_, ?_, h0, hr⟩
  · rw [← List.drop_drop, d22, List.drop_left' (encI_len L), allZ_iff13, List.length_replicate]
  · rw [planB_eq, List.take_left' (show planM.length = 4 from rfl)]

theorem tnT_bit (bs : List (List UInt8)) : ∀ k i, i < k → decide (tnT bs k / 2 ^ i % 2 = 1) = likeB (bs.getD i [])
  | 0, i, h => absurd h (by omega)
  | k + 1, i, h => by
    have hlt := tnT_lt bs k
    have ih := tnT_bit bs k i
    simp only [← Nat.testBit_eq_decide_div_mod_eq] at ih ⊢
    rw [tnT]
    by_cases e : i = k
    · subst e
      cases hl : likeB (bs.getD i [])
      · rw [if_neg (by decide)]; exact Nat.testBit_lt_two_pow hlt
      · rw [if_pos rfl, Nat.add_comm, Nat.testBit_two_pow_add_eq, Nat.testBit_lt_two_pow hlt]; rfl
    · have hik : i < k := by omega
      split
      · rw [Nat.add_comm, Nat.testBit_two_pow_add_gt hik]; exact ih hik
      · exact ih hik
theorem turn_turn (b : List UInt8) : turnB (turnB b) = b := by
  cases b with
  | nil => rfl
  | cons x r => simp only [turnB, UInt8.xor_assoc, UInt8.xor_self, UInt8.xor_zero]
theorem trB_tnB {t i : Nat} {b : List UInt8} (h : decide (t / 2 ^ i % 2 = 1) = likeB b) : trB t i (tnB b) = b := by
  unfold trB tnB
  cases hl : likeB b
  · rw [hl] at h
    rw [if_neg (by simpa using h), if_neg (by decide)]
  · rw [hl] at h
    rw [if_pos (by simpa using h), if_pos rfl, turn_turn]

theorem blk_at {n : Nat} {rs : List (Int × List UInt8)} (x : List (List UInt8)) (i : Nat) (h : i < rs.length) : (blkL n rs ++ x).getD (1 + i) [] = tnB (rs.getD i (0, [])).2 := by
  have h1 : i < (rcD rs).length := by rw [rcD_len]; exact h
  rw [blkL, List.cons_append, Nat.add_comm, List.getD_cons_succ, getD_app _ _ _ h1]
  simp [rcD, h]
theorem blk_head {n : Nat} {rs : List (Int × List UInt8)} (h : rcOk n rs) (hn : n < 18446744073709551616) (x : List (List UInt8)) : plV ((blkL n rs ++ x).headD []) = some (n, rcP rs, rcT rs rs.length) := by
  rw [blkL, List.cons_append, List.headD_cons]
  exact plV_planB h.1 hn h.2.2.2 (by rw [rcP_len]; exact h.2.1) (by rw [rcP_len]; exact tnT_lt _ _)
theorem blk_512 {n : Nat} {rs : List (Int × List UInt8)} (h : rcOk n rs) : ∀ b ∈ blkL n rs, b.length = 512 := by
  intro b hb
  rw [blkL] at hb
  rcases List.mem_cons.1 hb with rfl | hb
  · exact planB_len _ _ _ (by rw [rcP_len]; exact h.2.1)
  · simp only [rcD, List.mem_map] at hb
    obtain ⟨r, hr, rfl⟩ := hb
    rw [tnB_len]
    exact h.2.2.1 r hr
/-- What was written is parsed, whatever stands behind. -/
theorem trV_blk {n : Nat} {rs : List (Int × List UInt8)} (h : rcOk n rs) (hn : n < 18446744073709551616) (x : List (List UInt8)) : trV n (blkL n rs ++ [doneB n (blkL n rs).flatten] ++ x) = some rs := by
  have hh : plV ((blkL n rs ++ [doneB n (blkL n rs).flatten] ++ x).headD []) = some (n, rcP rs, rcT rs rs.length) := by
    rw [List.append_assoc]; exact blk_head h hn _
  have htk : (blkL n rs ++ [doneB n (blkL n rs).flatten] ++ x).take ((rcP rs).length + 1) = blkL n rs := by
    rw [List.append_assoc, List.take_left' (by rw [blkL_len, rcP_len])]
  have hbit : ∀ i (hi : i < rs.length), decide (rcT rs rs.length / 2 ^ i % 2 = 1) = likeB (rs.getD i (0, [])).2 := fun i hi => by
    rw [rcT, tnT_bit _ _ _ hi]
    simp [hi]
  rw [trV_some hh]
  · congr 1
    rw [rcP_len]
    apply List.ext_getElem
    · simp
    · intro i h1 h2
      have e : rs.getD i (0, []) = rs[i] := by simp [h2]
      rw [List.getElem_map, List.getElem_range, trE, List.append_assoc, blk_at _ i h2, trB_tnB (hbit i h2), e]
      have : (rcP rs).getD i 0 = rs[i].1 := by simp [rcP, h2]
      rw [this]
  · refine ⟨rfl, by rw [rcP_len]; simp [blkL_len], ?_, ?_, fun i hi => ?_⟩
    · rw [htk]; exact blk_512 h
    · rw [htk, List.append_assoc, List.singleton_append, getD_mid _ _ _ _ (by rw [blkL_len, rcP_len])]
    · rw [rcP_len] at hi
      unfold trQ
      rw [List.append_assoc, blk_at _ i hi, trB_tnB (hbit i hi), hbit i hi]
/-- Another number's are none. -/
theorem trV_other {n m : Nat} {rs : List (Int × List UInt8)} (h : rcOk n rs) (hn : n < 18446744073709551616) (hm : n ≠ m) (x : List (List UInt8)) : trV m (blkL n rs ++ x) = none :=
  trV_no (blk_head h hn x) fun k => hm k.1
/-- Fewer are none. -/
theorem trV_cut {n k : Nat} {rs : List (Int × List UInt8)} (h : rcOk n rs) (hn : n < 18446744073709551616) (hk : k < rs.length + 2) (x : List (List UInt8)) : trV n ((blkL n rs ++ x).take k) = none := by
  cases k with
  | zero => rw [List.take_zero]; exact trV_none (plV_none fun h => by have := h.1; cases this)
  | succ k =>
    have hh : plV (((blkL n rs ++ x).take (k + 1)).headD []) = some (n, rcP rs, rcT rs rs.length) := by
      have := blk_head h hn x
      rw [blkL, List.cons_append] at this ⊢
      exact this
    exact trV_no hh fun j => by
      have := j.2.1
      rw [rcP_len, List.length_take] at this
      omega
/-- Another last block is none. -/
theorem trV_last {n : Nat} {rs : List (Int × List UInt8)} (h : rcOk n rs) (hn : n < 18446744073709551616) {d : List UInt8} (hd : d ≠ doneB n (blkL n rs).flatten) : trV n (blkL n rs ++ [d]) = none :=
  trV_no (blk_head h hn _) fun j => by
    have := j.2.2.2.1
    rw [rcP_len, getD_mid _ _ _ _ (blkL_len _ _), List.take_left' (blkL_len _ _)] at this
    exact hd this

theorem mark_num (n : Nat) (h : n < 18446744073709551616) : numR (markB n) = n := by
  rw [numR_512 (markB_len n), markB, pad512, markR, List.append_assoc, List.append_assoc, cut_at (i := 4) (a := markM) rfl (leB_length _ _), leN_leB13 8 n (by omega)]
theorem rmV_mark {n : Nat} (h0 : n ≠ 0) (h : n < 18446744073709551616) : rmV (markB n) = some n := by
  rw [rmV, mark_num n h, if_pos ⟨h0, rfl⟩]
end Go.Proofs.YtamifdfkgbaobaaGreatDoor
/-
  Layer 13's laws: what every program must do (lives).
-/
set_option linter.unusedSimpArgs false
set_option linter.unusedVariables false
set_option linter.unnecessarySimpa false
namespace Go.Proofs.YtamifdfkgbaobaaGreatDoor
open Go.RowKit

theorem BlkC.of_some {w w' : World} {n : Nat} {rs : List (Int × List UInt8)} {bs : List (List UInt8)} {e : Ending} (h : blkV n rs = some bs) (k : BlkC w n rs e w') :
    ∃ v vs, e = .returned (.tuple #[v, .int .i64 0]) ∧ BRow w' w.heap.size v vs bs ∧ Fr [] w w' := by
  unfold BlkC at k
  rw [h] at k
  exact k
theorem BlkC.of_none {w w' : World} {n : Nat} {rs : List (Int × List UInt8)} {e : Ending} (h : blkV n rs = none) (k : BlkC w n rs e w') :
    ∃ v vs, e = .returned (.tuple #[v, .int .i64 1]) ∧ BRow w' w.heap.size v vs [] ∧ Fr [] w w' := by
  unfold BlkC at k
  rw [h] at k
  exact k
theorem TrC.of_some {w w' : World} {n : Nat} {bs : List (List UInt8)} {rs : List (Int × List UInt8)} {e : Ending} (h : trV n bs = some rs) (k : TrC w n bs e w') :
    ∃ v ps, e = .returned (.tuple #[v, .int .i64 ((rs.length + 2 : Nat) : Int), .int .i64 0]) ∧ RRow w' w.heap.size v ps rs ∧ Fr [] w w' := by
  unfold TrC trN at k
  rw [h] at k
  exact k
theorem TrC.of_none {w w' : World} {n : Nat} {bs : List (List UInt8)} {e : Ending} (h : trV n bs = none) (k : TrC w n bs e w') :
    ∃ v, e = .returned (.tuple #[v, .int .i64 0, .int .i64 110]) ∧ (∃ A c, v = .slice A 0 c) ∧ Fr [] w w' := by
  unfold TrC trN at k
  rw [h] at k
  obtain ⟨v, ps, h1, h2, h3⟩ := k
  obtain ⟨A, c, rfl, -⟩ := h2.row.shape
  exact ⟨_, h1, ⟨A, c, rfl⟩, h3⟩
/-- What was written, as an argument. -/
theorem BRow.arg {w : World} {B n : Nat} {v : Value} {vs : List Value} {bs : List (List UInt8)} (h : BRow w B v vs bs) (hn : bs.length = n) : ∃ A c, v = .slice A n c ∧ n ≤ c ∧ BRd w A vs bs ∧ (A = none → n = 0) := by
  have hr := h.row
  rw [hn] at hr
  obtain ⟨A, c, rfl, hc, -, -, -, -⟩ := hr.shape
  exact ⟨A, c, rfl, hc, h.brd, hr.rd.2.2⟩

theorem slBy : SlT Tryz.prog 41 5 1 1 (.int .u8 0) := slB
def rs13 : List (Int × List UInt8) := [(3, List.replicate 512 0)]
theorem rs13_ok (n : Nat) (h : n ≠ 0) : rcOk n rs13 := by
  refine ⟨h, by decide, ?_, by decide⟩
  intro r hr
  rw [rs13, List.mem_singleton] at hr
  subst hr
  exact List.length_replicate
theorem zeros_row (n : Nat) : bvs (List.replicate n 0) = List.replicate n (Value.int .u8 0) := by rw [bvs, List.map_replicate]; rfl

end Go.Proofs.YtamifdfkgbaobaaGreatDoor
/-
  Layer 13 (record): the reference's Parse.
-/
set_option linter.unusedSimpArgs false
set_option linter.unusedVariables false
set_option linter.unnecessarySimpa false
namespace Go.Proofs.YtamifdfkgbaobaaGreatDoor
open Go.RowKit

theorem RRow.keepF {w w' : World} {B : Nat} {v : Value} {ps : List (Int × Value)} {rs : List (Int × List UInt8)} (h : RRow w B v ps rs) {F : List Nat} (f : Fr F w w') (h1 : ∀ g, v.ownBlock = some g → g ∉ F) (h2 : ∀ p ∈ ps, ∀ g, p.2.ownBlock = some g → g ∉ F) : RRow w' B v ps rs :=
  ⟨h.row.keep f h1, h.len, fun i hi hi' => ⟨(h.each i hi hi').1, (h.each i hi hi').2.keep f (h2 _ (List.getElem_mem hi))⟩⟩
theorem RRow.lt {w : World} {B : Nat} {v : Value} {ps : List (Int × Value)} {rs : List (Int × List UInt8)} (h : RRow w B v ps rs) : ∀ p ∈ ps, ∀ g, p.2.ownBlock = some g → B ≤ g ∧ g < w.heap.size := by
  intro p hp g hg
  obtain ⟨i, hi, rfl⟩ := List.getElem_of_mem hp
  exact (h.each i hi (by rw [← h.len]; exact hi)).2.lt g hg
/-- None of the redos' bytes lie there. -/
def Off (ps : List (Int × Value)) (v : Value) : Prop := ∀ p ∈ ps, ∀ g, p.2.ownBlock = some g → v.ownBlock ≠ some g
end Go.Proofs.YtamifdfkgbaobaaGreatDoor
/-
  Layer 13's laws: blocks that are the same, redos that are the same.
-/
set_option linter.unusedSimpArgs false
set_option linter.unusedVariables false
set_option linter.unnecessarySimpa false
namespace Go.Proofs.YtamifdfkgbaobaaGreatDoor
open Go.RowKit

/-- Redos that are read. -/
def RdX (w : World) (A : Option Addr) (rs : List (Int × List UInt8)) : Prop :=
  ∀ i (h : i < rs.length), ∃ g o v, A = some ⟨g, o, none⟩ ∧ w.cell? ⟨g, o + i * 2, none⟩ = some (.int .i64 rs[i].1) ∧ w.cell? ⟨g, o + i * 2 + 1, none⟩ = some v ∧ SlB w v rs[i].2
theorem RdX.keep_nil {w w' : World} {A : Option Addr} {rs : List (Int × List UInt8)} (h : RdX w A rs) (f : Fr [] w w') : RdX w' A rs := fun i hi => by
  obtain ⟨g, o, v, e, h1, h2, h3⟩ := h i hi
  exact ⟨g, o, v, e, f.cell (by simp) h1, f.cell (by simp) h2, h3.keep_nil f⟩
theorem RdR.rdx {w : World} {A : Option Addr} {n c : Nat} {rs : List (Int × List UInt8)} (h : RdR w A n c rs) : RdX w A rs := fun i hi => by
  obtain ⟨g, o, e, hg, hc⟩ := h.cell (by rw [← h.len]; omega)
  obtain ⟨_, h2, v, h3, h4, _⟩ := hc i hi
  exact ⟨g, o, v, e, h2, h3, h4⟩
theorem RRow.rdx {w : World} {B n c : Nat} {A : Option Addr} {ps : List (Int × Value)} {rs : List (Int × List UInt8)} (h : RRow w B (.slice A n c) ps rs) : RdX w A rs := fun i hi => by
  have hi2 : i < ps.length := by rw [h.len]; exact hi
  obtain ⟨g, o, e, hc⟩ := h.row.rd.1 (by intro h0; have := congrArg List.length h0; rw [rcells_len, List.length_nil] at this; omega)
  obtain ⟨p1, p2⟩ := rcells_at ps i hi2
  obtain ⟨e1, r1⟩ := h.each i hi2 hi
  rw [e1] at p1
  exact ⟨g, o, _, e, hc _ _ p1, by rw [Nat.add_assoc]; exact hc _ _ p2, r1.slb⟩

/-- One of them is another. -/
theorem rowsetk {w : World} {B g n c : Nat} {e : TypeId} {xs : List Value} (h : Row w B e 1 (.slice (some ⟨g, 0, none⟩) n c) n xs) (k : Nat) (hk : k < n) (y : Value) :
    w.cell? ⟨g, k, none⟩ = xs[k]? ∧ w.frozen? ⟨g, k, none⟩ = false ∧ Row (w.setCell ⟨g, k, none⟩ y) B e 1 (.slice (some ⟨g, 0, none⟩) n c) n (xs.set k y) := by
  rcases h.2 with ⟨e, _⟩ | ⟨g', cap, cur, fz, e, hb, hg, hf, hnc, hcm, hcs, ht⟩
  · cases e
  · cases e
    rw [Nat.mul_one] at ht
    refine ⟨?_, ?_, ?_⟩
    · rw [cell_of_row w g k _ _ _ hg, ← ht, List.getElem?_take_of_lt hk, Array.getElem?_toList]
    · have := hf k (by omega)
      simp only [World.frozen?, hg]
      simpa using this
    · refine ⟨by rw [List.length_set]; exact h.1, .inr ⟨g, c, cur.setIfInBounds k y, fz, rfl, hb, ?_, by simpa using hf, hnc, hcm, by simpa using hcs, ?_⟩⟩
      · simp [World.setCell, Array.getElem?_modify, hg]
      · rw [Nat.mul_one, Array.toList_setIfInBounds, List.take_set, ht]
theorem BRow.setk {w : World} {B g n c : Nat} {y : Value} {vs : List Value} {d : List UInt8} {bs : List (List UInt8)} (h : BRow w B (.slice (some ⟨g, 0, none⟩) n c) vs bs) (k : Nat) (hk : k < n) (hy : Row w B 5 1 y d.length (bvs d)) :
    BRow (w.setCell ⟨g, k, none⟩ y) B (.slice (some ⟨g, 0, none⟩) n c) (vs.set k y) (bs.set k d) := by
  have hn : n = bs.length := h.row.rd.2.1
  have hrow := h.row
  have kp : ∀ {z : Value} {l : List UInt8}, Row w B 5 1 z l.length (bvs l) → Row (w.setCell ⟨g, k, none⟩ y) B 5 1 z l.length (bvs l) := fun hx =>
    hx.keep ((Fr.refl [g] w).setCell (.inl (by simp)) y) (fun g' hg hm => hx.ne_rowR hrow (by decide) g' hg (by rw [List.mem_singleton.1 hm]; rfl))
  subst hn
  refine ⟨by rw [List.length_set]; exact (rowsetk hrow k hk y).2.2, fun i h1 h2 => ?_⟩
  rw [List.length_set] at h1 h2
  by_cases e : k = i
  · subst e
    simp only [List.getElem_set_self]
    exact kp hy
  · simp only [List.getElem_set_ne e]
    exact kp (h.each i h1 h2)
end Go.Proofs.YtamifdfkgbaobaaGreatDoor
/-
  Layer 14: which blocks may be a transaction's.
-/
set_option linter.unusedSimpArgs false
set_option linter.unusedVariables false
set_option linter.unnecessarySimpa false
namespace Go.Proofs.YtamifdfkgbaobaaGreatDoor
open Go.RowKit
set_option maxRecDepth 100000

/-- May this block be a transaction's? -/
def jMay1 (n : Int) (J : JrM) (x : Int) : Bool := decide (0 ≤ x) && (decide (x < n) && !(decide (J.first ≤ x) && decide (x < J.first + J.count)))
def jMay (n : Int) (J : JrM) (rs : List (Int × List UInt8)) : Bool := rs.all fun r => jMay1 n J r.1
theorem jMay_bad {n : Int} {J : JrM} {rs : List (Int × List UInt8)} {k : Nat} (hk : k < rs.length) (h : jMay1 n J rs[k].1 = false) : jMay n J rs = false := by
  rw [jMay, List.all_eq_false]
  exact ⟨rs[k], List.getElem_mem hk, by simp [h]⟩
theorem jMay_succ {n : Int} {J : JrM} {rs : List (Int × List UInt8)} {k : Nat} (hk : k < rs.length) (h : jMay n J (rs.take k) = true) (h1 : jMay1 n J rs[k].1 = true) : jMay n J (rs.take (k + 1)) = true := by
  rw [jMay, List.take_add_one, List.getElem?_eq_getElem hk, List.all_append]
  rw [jMay] at h
  simp [h, h1]
section
variable {w w' : World} {g p : Nat} {O : List Nat} {J : JrM} {D : DkM}
set_option maxHeartbeats 1000000 in
theorem jnMay_any (h : Dsk w p O D) (hj : Jr w g p J) (ok : J.ok) {A : Option Addr} {n c : Nat} {rs : List (Int × List UInt8)} (hr : RdX w A rs) (hl : rs.length = n) (hn : n ≤ 140737488355328) :
    Calls Tryz.prog 55 #[.pointer (some ⟨g, 0, none⟩), .slice A n c] w fun e w' => e = .returned (.bool (jMay D.sure.length J rs)) ∧ Fr [] w w' := by
  obtain ⟨m, hm⟩ : ∃ m, D.sure.length = m := ⟨_, rfl⟩
  have hD := Lib.hid h
  have hl1 : ∀ w1, Fr [] w w1 → Calls Tryz.prog 49 #[.pointer (some ⟨p, 0, none⟩)] w1 fun e w' => e = .returned (.int .i64 m) ∧ w1 = w' := fun w1 f => by rw [← hm]; exact dkLen_any (h.keep_nil f)
  have HL := Lib.hid hl1
  rw [hm]
  have HJ := Lib.hid hj
  have HR := Lib.hid hr
  have hc := ok.c
  have hf := ok.f
  have e1 : IntKind.i64.wrap (J.first + J.count) = J.first + J.count := IntWalk.i64_in _ (by omega)
  clear h hj hr hm hl1
  go_enter Tryz.func55, Tryz.ntmps55
  go_wp2_with fail
  go_loopw [9] (fun i wr => ∃ k : Nat, k ≤ n ∧ i = .int .i64 k ∧ Fr [] w wr ∧ jMay m J (rs.take k) = true) (fun i _ => n - (intOf i).toNat)
  case atStart => exact ⟨0, by omega, rfl, Fr.refl _ _, rfl⟩
  case round =>
    obtain ⟨k, hkn, rfl, fr, ht⟩ := hrel
    by_cases hlt : k < n
    · have d0 : (k : Int) < n := by omega
      have hk : k < rs.length := by omega
      obtain ⟨gr, o, v, rfl, c0, c1, sb⟩ := (HR.out.keep_nil fr) k hk
      obtain ⟨x, hx⟩ : ∃ x, rs[k].1 = x := ⟨_, rfl⟩
      obtain ⟨Av, cv, rfl, -⟩ := sb
      obtain ⟨lv, hlv⟩ : ∃ lv, rs[k].2.length = lv := ⟨_, rfl⟩
      rw [hx] at c0
      rw [hlv] at c1
      have HX := Lib.hid hx
      have HT := Lib.hid ht
      have fA : Fr [] w (wr.alloc (.cells #[.int .i64 x, .slice Av lv cv] 49)) := fr.trans_nil ((Fr.refl _ _).alloc _)
      have HFA := Lib.hid fA
      have ka := Blk.new wr 49 #[.int .i64 x, .slice Av lv cv]
      have j0 : (wr.alloc (.cells #[.int .i64 x, .slice Av lv cv] 49)).cell? ⟨g, 0, none⟩ = some (.pointer (some ⟨p, 0, none⟩)) := Blk.cell (HJ.out.keep_nil fA) 0
      have j1 : (wr.alloc (.cells #[.int .i64 x, .slice Av lv cv] 49)).cell? ⟨g, 1, none⟩ = some (.int .i64 J.first) := Blk.cell (HJ.out.keep_nil fA) 1
      have j2 : (wr.alloc (.cells #[.int .i64 x, .slice Av lv cv] 49)).cell? ⟨g, 2, none⟩ = some (.int .i64 J.count) := Blk.cell (HJ.out.keep_nil fA) 2
      clear ht fr fA hx hlv
      go_upto_region 4 with fail
      obtain ⟨wA, hwA⟩ : ∃ y, wr.alloc (.cells #[.int .i64 x, .slice Av lv cv] 49) = y := ⟨_, rfl⟩
      obtain ⟨gA, hgA⟩ : ∃ y, wr.heap.size = y := ⟨_, rfl⟩
      rw [hwA] at HFA ka j0 j1 j2 ⊢
      rw [hgA] at ka ⊢
      have a0 : wA.cell? ⟨gA, 0, none⟩ = some (.int .i64 x) := ka.cell 0
      have cl : ∀ q, Calls Tryz.prog 49 #[.pointer (some ⟨p, 0, none⟩)] (wA.drewN q) fun e w' => e = .returned (.int .i64 m) ∧ wA.drewN q = w' := fun q => HL.out _ (HFA.out.drewN q)
      have CL := Lib.hid cl
      clear cl hwA hgA ka c0 c1
      by_cases h1 : x < 0
      · have HB := Lib.hid (show jMay1 m J rs[k].1 = false by rw [HX.out, jMay1, decide_eq_false (by omega), Bool.false_and])
        go_quiet ((go_at_call 49; exact Calls.quiet_of_same ((CL.out _).mono fun e w' h => ⟨h.1, h.2.symm⟩)))
        go_wp2_with fail
        go_ret
        exact ⟨by rw [jMay_bad hk HB.out]; rfl, HFA.out.drewN _⟩
      by_cases h2 : (m : Int) ≤ x
      · have HB := Lib.hid (show jMay1 m J rs[k].1 = false by rw [HX.out, jMay1, decide_eq_false (show ¬ x < (m : Int) by omega), Bool.false_and, Bool.and_false])
        go_quiet ((go_at_call 49; exact Calls.quiet_of_same ((CL.out _).mono fun e w' h => ⟨h.1, h.2.symm⟩)))
        go_wp2_with fail
        go_ret
        exact ⟨by rw [jMay_bad hk HB.out]; rfl, HFA.out.drewN _⟩
      have g1 : decide (0 ≤ x) = true := decide_eq_true (by omega)
      have g2 : decide (x < (m : Int)) = true := decide_eq_true (by omega)
      have HG := Lib.hid (And.intro g1 g2)
      clear g1 g2
      by_cases h3 : J.first ≤ x
      · by_cases h4 : x < J.first + J.count
        · have HB := Lib.hid (show jMay1 m J rs[k].1 = false by rw [HX.out, jMay1, HG.out.1, HG.out.2, decide_eq_true h3, decide_eq_true h4]; rfl)
          go_quiet ((go_at_call 49; exact Calls.quiet_of_same ((CL.out _).mono fun e w' h => ⟨h.1, h.2.symm⟩)))
          go_wp2_with fail
          go_ret
          exact ⟨by rw [jMay_bad hk HB.out]; rfl, HFA.out.drewN _⟩
        · have HB := Lib.hid (show jMay1 m J rs[k].1 = true by rw [HX.out, jMay1, HG.out.1, HG.out.2, decide_eq_true h3, decide_eq_false h4]; rfl)
          go_quiet ((go_at_call 49; exact Calls.quiet_of_same ((CL.out _).mono fun e w' h => ⟨h.1, h.2.symm⟩)))
          go_wp2_with fail
          exact ⟨⟨k + 1, by omega, by go_num, HFA.out.drewN _, jMay_succ hk HT.out HB.out⟩, by simp [intOf]; omega⟩
      · have HB := Lib.hid (show jMay1 m J rs[k].1 = true by rw [HX.out, jMay1, HG.out.1, HG.out.2, decide_eq_false h3]; rfl)
        go_quiet ((go_at_call 49; exact Calls.quiet_of_same ((CL.out _).mono fun e w' h => ⟨h.1, h.2.symm⟩)))
        go_wp2_with fail
        exact ⟨⟨k + 1, by omega, by go_num, HFA.out.drewN _, jMay_succ hk HT.out HB.out⟩, by simp [intOf]; omega⟩
    · obtain rfl : k = n := by omega
      have d0 : ¬ ((k : Int) < k) := by omega
      have HP := Lib.hid (And.intro fr ht)
      clear fr ht
      go_wp2_with fail
      go_ret
      have := HP.out.2
      rw [List.take_of_length_le (by omega)] at this
      exact ⟨by rw [this]; rfl, HP.out.1⟩
end
end Go.Proofs.YtamifdfkgbaobaaGreatDoor
