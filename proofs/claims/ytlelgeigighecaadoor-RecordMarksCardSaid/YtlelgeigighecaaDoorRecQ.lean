/-
  Layer 13 (record): Parse.
-/
import Derived.Test.YtlelgeigighecaaDoorRecP
set_option linter.unusedSimpArgs false
set_option linter.unusedVariables false
set_option linter.unnecessarySimpa false
namespace Go.Proofs.YtlelgeigighecaaDoor
open Go.RowKit

theorem and_one (t k : Nat) (h : t < 18446744073709551616) : bits .and .u64 ((t : Int) / 2 ^ k) 1 = ((t / 2 ^ k % 2 : Nat) : Int) := by
  have e : (t : Int) / 2 ^ k = ((t / 2 ^ k : Nat) : Int) := by push_cast; rfl
  have h2 : t / 2 ^ k < 18446744073709551616 := Nat.lt_of_le_of_lt (Nat.div_le_self _ _) h
  rw [e, show (1 : Int) = ((1 : Nat) : Int) from rfl, bits_and_u64_nat _ 1 h2 (by omega), Nat.and_one_is_mod]
theorem all5_iff (bs : List (List UInt8)) : all5 bs = true ↔ ∀ b ∈ bs, b.length = 512 := by
  rw [all5, List.all_eq_true]
  simp

set_option maxRecDepth 100000 in
set_option maxHeartbeats 8000000 in
theorem rcParse_any (w : World) (A : Option Addr) (m n c : Nat) (vs : List Value) (bs : List (List UInt8)) (hm : m < 18446744073709551616) (hn : bs.length = n) (hr : BRd w A vs bs) (hA : A = none → n = 0) (hc : n ≤ c) (hn2 : n ≤ 140737488355328) (hK : KG w) :
    Calls Tryd.prog 29 #[.int .u64 m, .slice A n c] w (TrC w m bs) := by
  have HN := Lib.hid hn
  by_cases h0 : n = 0
  · subst h0
    have hb : bs = [] := List.length_eq_zero_iff.1 hn
    subst hb
    clear hn
    go_enter Tryd.func29, Tryd.ntmps29
    have HV := Lib.hid (show trV m [] = none from (trV_none (plV_none fun h => by have := h.1; cases this)))
    go_wp2_with fail
    go_ret3
    exact TrC.no HV.out (Fr.refl _ _)
  · have d0 : ((n : Int) == 0) = false := by rw [beq_eq_false_iff_ne]; omega
    have hv0 : vs.length = n := by rw [hr.len, hn]
    obtain ⟨b0, bs', hbs⟩ : ∃ b0 bs', bs = b0 :: bs' := by
      cases bs with
      | nil => simp at hn; omega
      | cons x r => exact ⟨x, r, rfl⟩
    obtain ⟨v0, vs', hvs⟩ : ∃ v0 vs', vs = v0 :: vs' := by
      cases vs with
      | nil => simp at hv0; omega
      | cons x r => exact ⟨x, r, rfl⟩
    obtain ⟨g, o, rfl, hcell⟩ := hr.rd (by rw [hvs]; simp)
    have c0 := hcell 0 v0 (by rw [hvs]; rfl)
    rw [Nat.add_zero] at c0
    have hs0 := hr.each 0 (by rw [hvs]; simp) (by rw [hbs]; simp)
    obtain ⟨A0, cap0, hv00, hr0, hn0, hc0⟩ := hs0
    have ev : vs[0]'(by rw [hvs]; simp) = v0 := by simp [hvs]
    have eb : bs[0]'(by rw [hbs]; simp) = b0 := by simp [hbs]
    rw [ev, eb] at hv00
    rw [eb] at hr0 hn0 hc0
    rw [hv00] at c0
    have HH := Lib.hid (show bs.headD [] = b0 by rw [hbs]; rfl)
    obtain ⟨l0, hl0⟩ : ∃ l0, b0.length = l0 := ⟨_, rfl⟩
    rw [hl0] at c0 hn0 hc0
    have cc := rcRead_any w A0 b0 l0 cap0 hl0 hr0 hn0
    have HL0 := Lib.hid hl0
    have hpos : (0 : Int) < n := by omega
    clear ev eb hv00 hr0 hn0 hl0 hbs hvs h0 hv0
    go_enter Tryd.func29, Tryd.ntmps29
    cases hp : plV b0 with
    | none =>
      have hV : trV m bs = none := trV_none (by rw [HH.out]; exact hp)
      have HV0 := Lib.hid hV
      go_wp2_with fail
      refine cc.mono ?_
      intro e w1 hE
      obtain ⟨v, rfl, r, f⟩ := PartC.of_none hp hE
      obtain ⟨A8, cap8, rfl, -, -, -, -, -⟩ := r.shape
      clear cc hE hV hp
      have HV := Lib.hid (show trV m bs = none from HV0.out)
      go_wp2_with fail
      go_ret3
      exact TrC.no HV.out f
    | some x =>
      obtain ⟨m', L, t⟩ := x
      obtain ⟨hl5, hL1, hL64, hm', ht, hLx⟩ := plV_b hp
      have HP := Lib.hid (show plV (bs.headD []) = some (m', L, t) by rw [HH.out]; exact hp)
      obtain ⟨N, hN⟩ : ∃ N, L.length = N := ⟨_, rfl⟩
      have HLN := Lib.hid hN
      rw [hN] at hL1 hL64
      go_wp2_with fail
      refine cc.mono ?_
      intro e w1 hE
      obtain ⟨v, rfl, r, f⟩ := PartC.of_some hp hE
      rw [hN] at r
      clear cc hE hp hN
      obtain ⟨A8, cap8, rfl, -, -, -, -, -⟩ := r.shape
      by_cases hmm : m' = m
      · replace hmm := hmm.symm
        subst hmm
        by_cases hlast : n ≤ N + 1
        · have K1 : (n : Int) ≤ N + 1 := by omega
          have HV := Lib.hid (show trV m bs = none from (trV_no HP.out fun h => by have := h.2.1; rw [HLN.out, HN.out] at this; omega))
          go_wp2_with fail
          go_ret3
          exact TrC.no HV.out f
        · have K1 : ¬ ((n : Int) ≤ N + 1) := by omega
          have hlb : N + 1 < bs.length := by rw [HN.out]; omega
          have hlv : N + 1 < vs.length := by rw [hr.len]; exact hlb
          obtain ⟨Al, cl, hvl, rdl, nill, capl⟩ := hr.each (N + 1) hlv hlb
          have cell9 := hcell (N + 1) vs[N + 1] (List.getElem?_eq_getElem hlv)
          rw [hvl] at cell9
          obtain ⟨bl, hbl⟩ : ∃ bl, bs[N + 1] = bl := ⟨_, rfl⟩
          rw [hbl] at cell9 rdl nill capl
          obtain ⟨nl, hnl⟩ : ∃ nl, bl.length = nl := ⟨_, rfl⟩
          rw [hnl] at cell9 nill capl
          have HNL := Lib.hid hnl
          have HBL := Lib.hid (show bs.getD (N + 1) [] = bl by simp [hlb, hbl])
          clear hvl hbl hnl
          have KC : (N : Int) + 1 ≤ c := by omega
          have KZ : (0 : Int) ≤ (N : Int) + 1 := by omega
          have hrt := hr.take (N + 1)
          have hnt : (bs.take (N + 1)).length = N + 1 := by rw [List.length_take, HN.out]; omega
          have HNT := Lib.hid hnt
          clear hnt hcell
          go_upto_region 8 with fail
          have Fd := f.drew
          have Rd9 := r.keep_nil ((Fr.refl [] w1).drew)
          obtain ⟨w2, hw2⟩ : ∃ w2, w1.drew = w2 := ⟨_, rfl⟩
          rw [hw2] at Fd Rd9
          have hS : Fr [] w2 w2 := Fr.refl _ _
          refine wp_region_held_drew (S := fun w' => Fr [] w2 w') (by kernel_rfl) (by rw [hw2]; exact hS) (fun hHeld => ?_)
          rw [hw2] at hHeld ⊢
          clear hw2 r f hS
          have CL := Lib.hid (fun (w' : World) (hS : Fr [] w2 w') => ((Fd.trans_nil hS).cell (by simp) cell9 : w'.cell? ⟨g, o + (N + 1), none⟩ = some (.slice Al nl cl)))
          clear cell9
          refine take_w 0 (some 46) (v := ?_) rfl rfl (by kernel_rfl) (by kernel_rfl) (by kernel_rfl) (fun _ _ _ h => h) (by rfl) ?_ hHeld ?_
          rotate_left
          · (intro w hSw; (try dsimp only at hSw); go_simp; try with_reducible rfl)
          simp only [Act.put, List.setIfInBounds_toArray, List.set_cons_zero, List.set_cons_succ]
          refine take_w 1 (some 47) (v := ?_) rfl rfl (by kernel_rfl) (by kernel_rfl) (by kernel_rfl) (fun _ _ _ h => h) (by rfl) ?_ hHeld ?_
          rotate_left
          · (intro w hSw; (try dsimp only at hSw); go_simp; try with_reducible rfl)
          simp only [Act.put, List.setIfInBounds_toArray, List.set_cons_zero, List.set_cons_succ]
          refine take_w 2 (some 48) (v := ?_) rfl rfl (by kernel_rfl) (by kernel_rfl) (by kernel_rfl) (fun _ _ _ h => h) (by rfl) ?_ hHeld ?_
          rotate_left
          · (intro w hSw; (try dsimp only at hSw); go_simp; try with_reducible rfl)
          simp only [Act.put, List.setIfInBounds_toArray, List.set_cons_zero, List.set_cons_succ]
          refine take_w 3 (some 49) (v := ?_) rfl rfl (by kernel_rfl) (by kernel_rfl) (by kernel_rfl) (fun _ _ _ h => h) (by rfl) ?_ hHeld ?_
          rotate_left
          · (intro w hSw; (try dsimp only at hSw); go_simp; try with_reducible rfl)
          simp only [Act.put, List.setIfInBounds_toArray, List.set_cons_zero, List.set_cons_succ]
          have cc := containsBB_any (some ⟨g, o, none⟩) (vs.take (N + 1)) (bs.take (N + 1)) (N + 1) c w2 HNT.out (hrt.keep_nil Fd) (by omega)
          cases ha : all5 (bs.take (N + 1))
          · rw [ha] at cc
            have HA := Lib.hid ha
            clear ha
            refine take_c 4 rfl (by kernel_rfl) (by rfl) (fun K hK => ?_)
            go_simp
            refine (cc).mono ?_
            rintro e w' ⟨rfl, rfl⟩
            refine hK.out _ _ hHeld (fun hHn => ?_)
            clear hHn
            clear hK K
            try simp only [Act.put, List.setIfInBounds_toArray, List.set_cons_zero, List.set_cons_succ]
            refine take_w 5 (some 51) (v := ?_) rfl rfl (by kernel_rfl) (by kernel_rfl) (by kernel_rfl) (fun _ _ _ h => h) (by rfl) ?_ hHeld ?_
            rotate_left
            · (intro w hSw; (try dsimp only at hSw); go_simp; try with_reducible rfl)
            simp only [Act.put, List.setIfInBounds_toArray, List.set_cons_zero, List.set_cons_succ]
            refine take_u 6 (some 52) rfl rfl (by kernel_rfl) (by kernel_rfl) (by kernel_rfl) (fun _ _ _ h => h) (by rfl) hHeld ?_
            simp only [Act.put, List.setIfInBounds_toArray, List.set_cons_zero, List.set_cons_succ]
            refine take_u 7 (some 53) rfl rfl (by kernel_rfl) (by kernel_rfl) (by kernel_rfl) (fun _ _ _ h => h) (by rfl) hHeld ?_
            simp only [Act.put, List.setIfInBounds_toArray, List.set_cons_zero, List.set_cons_succ]
            refine take_u 8 (some 54) rfl rfl (by kernel_rfl) (by kernel_rfl) (by kernel_rfl) (fun _ _ _ h => h) (by rfl) hHeld ?_
            simp only [Act.put, List.setIfInBounds_toArray, List.set_cons_zero, List.set_cons_succ]
            refine take_u 9 (some 55) rfl rfl (by kernel_rfl) (by kernel_rfl) (by kernel_rfl) (fun _ _ _ h => h) (by rfl) hHeld ?_
            simp only [Act.put, List.setIfInBounds_toArray, List.set_cons_zero, List.set_cons_succ]
            refine take_u 10 (some 56) rfl rfl (by kernel_rfl) (by kernel_rfl) (by kernel_rfl) (fun _ _ _ h => h) (by rfl) hHeld ?_
            simp only [Act.put, List.setIfInBounds_toArray, List.set_cons_zero, List.set_cons_succ]
            refine take_u 11 (some 57) rfl rfl (by kernel_rfl) (by kernel_rfl) (by kernel_rfl) (fun _ _ _ h => h) (by rfl) hHeld ?_
            simp only [Act.put, List.setIfInBounds_toArray, List.set_cons_zero, List.set_cons_succ]
            refine take_u 12 (some 58) rfl rfl (by kernel_rfl) (by kernel_rfl) (by kernel_rfl) (fun _ _ _ h => h) (by rfl) hHeld ?_
            simp only [Act.put, List.setIfInBounds_toArray, List.set_cons_zero, List.set_cons_succ]
            refine take_u 13 (some 59) rfl rfl (by kernel_rfl) (by kernel_rfl) (by kernel_rfl) (fun _ _ _ h => h) (by rfl) hHeld ?_
            simp only [Act.put, List.setIfInBounds_toArray, List.set_cons_zero, List.set_cons_succ]
            refine take_u 14 (some 60) rfl rfl (by kernel_rfl) (by kernel_rfl) (by kernel_rfl) (fun _ _ _ h => h) (by rfl) hHeld ?_
            simp only [Act.put, List.setIfInBounds_toArray, List.set_cons_zero, List.set_cons_succ]
            refine take_u 15 (some 61) rfl rfl (by kernel_rfl) (by kernel_rfl) (by kernel_rfl) (fun _ _ _ h => h) (by rfl) hHeld ?_
            simp only [Act.put, List.setIfInBounds_toArray, List.set_cons_zero, List.set_cons_succ]
            refine take_u 16 (some 62) rfl rfl (by kernel_rfl) (by kernel_rfl) (by kernel_rfl) (fun _ _ _ h => h) (by rfl) hHeld ?_
            simp only [Act.put, List.setIfInBounds_toArray, List.set_cons_zero, List.set_cons_succ]
            refine take_w 17 (some 63) (v := ?_) rfl rfl (by kernel_rfl) (by kernel_rfl) (by kernel_rfl) (fun _ _ _ h => h) (by rfl) ?_ hHeld ?_
            rotate_left
            · (intro w hSw; (try dsimp only at hSw); go_simp; try with_reducible rfl)
            simp only [Act.put, List.setIfInBounds_toArray, List.set_cons_zero, List.set_cons_succ]
            refine wpAnyH_done (by kernel_rfl) ?_ _
            have HV := Lib.hid (show trV m bs = none from (trV_no HP.out fun h => by have h3 := (all5_iff _).2 h.2.2.1; rw [HLN.out, HA.out] at h3; cases h3))
            go_wp2_with fail
            go_ret3
            exact TrC.no HV.out (Fd.trans_nil hHeld)
          · rw [ha] at cc
            have HA := Lib.hid ha
            clear ha
            refine take_c 4 rfl (by kernel_rfl) (by rfl) (fun K hK => ?_)
            go_simp
            refine (cc).mono ?_
            rintro e w' ⟨rfl, rfl⟩
            refine hK.out _ _ hHeld (fun hHn => ?_)
            clear hHn
            clear hK K
            try simp only [Act.put, List.setIfInBounds_toArray, List.set_cons_zero, List.set_cons_succ]
            refine take_w 5 (some 51) (v := ?_) rfl rfl (by kernel_rfl) (by kernel_rfl) (by kernel_rfl) (fun _ _ _ h => h) (by rfl) ?_ hHeld ?_
            rotate_left
            · (intro w hSw; (try dsimp only at hSw); go_simp; try with_reducible rfl)
            simp only [Act.put, List.setIfInBounds_toArray, List.set_cons_zero, List.set_cons_succ]
            refine take_w 6 (some 52) (v := ?_) rfl rfl (by kernel_rfl) (by kernel_rfl) (by kernel_rfl) (fun _ _ _ h => h) (by rfl) ?_ hHeld ?_
            rotate_left
            · (intro w hSw; (try dsimp only at hSw); go_simp; try with_reducible rfl)
            simp only [Act.put, List.setIfInBounds_toArray, List.set_cons_zero, List.set_cons_succ]
            refine take_w 7 (some 53) (v := ?_) rfl rfl (by kernel_rfl) (by kernel_rfl) (by kernel_rfl) (fun _ _ _ h => h) (by rfl) ?_ hHeld ?_
            rotate_left
            · (intro w hSw; (try dsimp only at hSw); go_simp; try with_reducible rfl)
            simp only [Act.put, List.setIfInBounds_toArray, List.set_cons_zero, List.set_cons_succ]
            refine take_w 8 (some 54) (v := ?_) rfl rfl (by kernel_rfl) (by kernel_rfl) (by kernel_rfl) (fun _ _ _ h => h) (by rfl) ?_ hHeld ?_
            rotate_left
            · (intro w hSw; (try dsimp only at hSw); go_simp; try with_reducible rfl)
            simp only [Act.put, List.setIfInBounds_toArray, List.set_cons_zero, List.set_cons_succ]
            refine take_w 9 (some 55) (v := .slice Al nl cl) rfl rfl (by kernel_rfl) (by kernel_rfl) (by kernel_rfl) (fun _ _ _ h => h) (by rfl) (fun w' hSw => by have E := CL.out w' hSw; go_simp) hHeld ?_
            try simp only [Act.put, List.setIfInBounds_toArray, List.set_cons_zero, List.set_cons_succ]
            refine take_w 10 (some 56) (v := ?_) rfl rfl (by kernel_rfl) (by kernel_rfl) (by kernel_rfl) (fun _ _ _ h => h) (by rfl) ?_ hHeld ?_
            rotate_left
            · (intro w hSw; (try dsimp only at hSw); go_simp; try with_reducible rfl)
            simp only [Act.put, List.setIfInBounds_toArray, List.set_cons_zero, List.set_cons_succ]
            refine take_w 11 (some 57) (v := ?_) rfl rfl (by kernel_rfl) (by kernel_rfl) (by kernel_rfl) (fun _ _ _ h => h) (by rfl) ?_ hHeld ?_
            rotate_left
            · (intro w hSw; (try dsimp only at hSw); go_simp; try with_reducible rfl)
            simp only [Act.put, List.setIfInBounds_toArray, List.set_cons_zero, List.set_cons_succ]
            refine take_w 12 (some 58) (v := ?_) rfl rfl (by kernel_rfl) (by kernel_rfl) (by kernel_rfl) (fun _ _ _ h => h) (by rfl) ?_ hHeld ?_
            rotate_left
            · (intro w hSw; (try dsimp only at hSw); go_simp; try with_reducible rfl)
            simp only [Act.put, List.setIfInBounds_toArray, List.set_cons_zero, List.set_cons_succ]
            refine take_w 13 (some 59) (v := ?_) rfl rfl (by kernel_rfl) (by kernel_rfl) (by kernel_rfl) (fun _ _ _ h => h) (by rfl) ?_ hHeld ?_
            rotate_left
            · (intro w hSw; (try dsimp only at hSw); go_simp; try with_reducible rfl)
            simp only [Act.put, List.setIfInBounds_toArray, List.set_cons_zero, List.set_cons_succ]
            have hfl := flat512 ((all5_iff _).1 HA.out)
            have cs := rcSeal_any (w := w2) (n := N + 1) (c := c) (bs := bs.take (N + 1)) hm HNT.out (hrt.keep_nil Fd) (by rw [hfl, HNT.out]; omega) (by omega) (hK.keep Fd)
            obtain ⟨q, hq⟩ : ∃ q, doneB m (bs.take (N + 1)).flatten = q := ⟨_, rfl⟩
            have hql : q.length = 512 := by rw [← hq, doneB_len]
            rw [hq] at cs
            have HQ := Lib.hid (fun _ : Unit => hq)
            have HQL := Lib.hid hql
            clear hq hql hfl
            refine take_c 14 rfl (by kernel_rfl) (by rfl) (fun K hK => ?_)
            go_simp
            refine cs.mono ?_
            clear cs
            rintro e w3 ⟨r, rfl, r3, f3⟩
            obtain ⟨A3, cap3, rfl, -, -, -, -, -⟩ := r3.shape
            refine hK.out _ _ (hHeld.trans_nil f3) (fun hHx => ?_)
            clear hHeld
            have hHeld := hHx
            clear hHx
            clear hK K
            try simp only [Act.put, List.setIfInBounds_toArray, List.set_cons_zero, List.set_cons_succ]
            have F3 := Fd.trans_nil f3
            have Rd3 := Rd9.keep_nil f3
            have cc := bytesEq_any Al A3 bl q nl cl 512 cap3 w3 HNL.out (rdl.keep_nil F3) nill HQL.out r3.rd.1 r3.rd.2.2
            clear Fd f3 Rd9 r3
            cases heq : (bl == q)
            · rw [heq] at cc
              have HEQ := Lib.hid heq
              clear heq
              refine take_c 15 rfl (by kernel_rfl) (by rfl) (fun K hK => ?_)
              go_simp
              refine (cc).mono ?_
              rintro e w' ⟨rfl, rfl⟩
              refine hK.out _ _ hHeld (fun hHn => ?_)
              clear hHn
              clear hK K
              try simp only [Act.put, List.setIfInBounds_toArray, List.set_cons_zero, List.set_cons_succ]
              refine take_w 16 (some 62) (v := ?_) rfl rfl (by kernel_rfl) (by kernel_rfl) (by kernel_rfl) (fun _ _ _ h => h) (by rfl) ?_ hHeld ?_
              rotate_left
              · (intro w hSw; (try dsimp only at hSw); go_simp; try with_reducible rfl)
              simp only [Act.put, List.setIfInBounds_toArray, List.set_cons_zero, List.set_cons_succ]
              refine take_w 17 (some 63) (v := ?_) rfl rfl (by kernel_rfl) (by kernel_rfl) (by kernel_rfl) (fun _ _ _ h => h) (by rfl) ?_ hHeld ?_
              rotate_left
              · (intro w hSw; (try dsimp only at hSw); go_simp; try with_reducible rfl)
              simp only [Act.put, List.setIfInBounds_toArray, List.set_cons_zero, List.set_cons_succ]
              refine wpAnyH_done (by kernel_rfl) ?_ _
              have HV := Lib.hid (show trV m bs = none from (trV_no HP.out fun h => by have h3 := h.2.2.2.1; rw [HLN.out, HBL.out, HQ.out ()] at h3; have h4 := HEQ.out; rw [h3] at h4; simp at h4))
              go_wp2_with fail
              go_ret3
              exact TrC.no HV.out F3
            · rw [heq] at cc
              have HEQ := Lib.hid (eq_of_beq heq)
              clear heq
              refine take_c 15 rfl (by kernel_rfl) (by rfl) (fun K hK => ?_)
              go_simp
              refine (cc).mono ?_
              rintro e w' ⟨rfl, rfl⟩
              refine hK.out _ _ hHeld (fun hHn => ?_)
              clear hHn
              clear hK K
              try simp only [Act.put, List.setIfInBounds_toArray, List.set_cons_zero, List.set_cons_succ]
              refine take_w 16 (some 62) (v := ?_) rfl rfl (by kernel_rfl) (by kernel_rfl) (by kernel_rfl) (fun _ _ _ h => h) (by rfl) ?_ hHeld ?_
              rotate_left
              · (intro w hSw; (try dsimp only at hSw); go_simp; try with_reducible rfl)
              simp only [Act.put, List.setIfInBounds_toArray, List.set_cons_zero, List.set_cons_succ]
              refine take_w 17 (some 63) (v := ?_) rfl rfl (by kernel_rfl) (by kernel_rfl) (by kernel_rfl) (fun _ _ _ h => h) (by rfl) ?_ hHeld ?_
              rotate_left
              · (intro w hSw; (try dsimp only at hSw); go_simp; try with_reducible rfl)
              simp only [Act.put, List.setIfInBounds_toArray, List.set_cons_zero, List.set_cons_succ]
              refine wpAnyH_done (by kernel_rfl) ?_ _
              go_wp2_with fail
              go_loopw [13, 66] (fun v i wr => ∃ k : Nat, k ≤ N ∧ i = .int .i64 k ∧ Row wr w.heap.size 3 1 (.slice A8 N cap8) N (zvs L) ∧ (∃ ps, RRow wr w.heap.size v ps ((List.range k).map (trE t L bs))) ∧ (∀ i, i < k → trQ t bs i) ∧ Fr [] w wr) (fun _ i _ => N - (intOf i).toNat)
              case atStart => exact ⟨0, Nat.zero_le _, rfl, Rd3, ⟨[], RRow.nil _ _⟩, fun i h => absurd h (by omega), F3⟩
              case round =>
                clear F3 Rd3
                obtain ⟨k, hk, rfl, R8, ⟨ps, R13⟩, hall, F⟩ := hrel
                by_cases hlt : k < N
                · have hkb : 1 + k < bs.length := by rw [HN.out]; omega
                  have hkv : 1 + k < vs.length := by rw [hr.len]; exact hkb
                  obtain ⟨g', o', e', hc⟩ := hr.rd (by intro h; rw [h] at hkv; simp at hkv)
                  cases e'
                  obtain ⟨Ak, ck, hv, rdk, nilk, capk⟩ := hr.each (1 + k) hkv hkb
                  have cell := F.cell (by simp) (hc (1 + k) vs[1 + k] (List.getElem?_eq_getElem hkv))
                  have h5 : bs[1 + k].length = 512 := (all5_iff _).1 HA.out _ (List.mem_of_getElem? (i := 1 + k) (by rw [List.getElem?_take_of_lt (by omega)]; exact List.getElem?_eq_getElem hkb))
                  have hbg : bs.getD (1 + k) [] = bs[1 + k] := by simp [hkb]
                  rw [hv, h5] at cell
                  rw [h5] at nilk capk
                  obtain ⟨b, hb⟩ : ∃ b, bs[1 + k] = b := ⟨_, rfl⟩
                  rw [hb] at h5 hbg rdk
                  replace rdk := rdk.keep_nil F
                  have hkl : k < L.length := by rw [HLN.out]; exact hlt
                  obtain ⟨g2, o2, rfl, hc2⟩ := zint_at R8.rd.1 hkl
                  have c2 := hc2 k hkl
                  have hxd : L.getD k 0 = L[k] := by simp [hkl]
                  obtain ⟨x, hx⟩ : ∃ x, L[k] = x := ⟨_, rfl⟩
                  rw [hx] at c2 hxd
                  have H5 := Lib.hid h5
                  have HXD := Lib.hid hxd
                  have HBG := Lib.hid hbg
                  have HLK := Lib.hid (show ((List.range k).map (trE t L bs)).length = k by simp)
                  have HSUC := Lib.hid (show (List.range (k + 1)).map (trE t L bs) = (List.range k).map (trE t L bs) ++ [(x, trB t k b)] by rw [List.range_succ, List.map_append, List.map_singleton, trE, hxd, hbg])
                  have HQK := Lib.hid (show trQ t bs k ↔ decide (t / 2 ^ k % 2 = 1) = likeB (trB t k b) by unfold trQ; rw [hbg])
                  have HALL := Lib.hid (fun h : trQ t bs k => (fun i hi => if e : i = k then by subst e; exact h else hall i (by omega) : ∀ i, i < k + 1 → trQ t bs i))
                  have AND := and_one t k ht
                  clear hv h5 hbg hb hc hc2 hx hxd hall hkb hkv hkl
                  by_cases hbit : t / 2 ^ k % 2 = 1
                  · have d1 : (bits .and .u64 ((t : Int) / 2 ^ k) 1 == 1) = true := by rw [AND, hbit]; rfl
                    have HTR := Lib.hid (show trB t k b = turnB b by rw [trB, if_pos hbit])
                    have HBIT := Lib.hid (show decide (t / 2 ^ k % 2 = 1) = true by rw [hbit]; rfl)
                    clear AND hbit
                    go_wp2_with fail
                    refine (clone_any Ak b 512 ck wr H5.out rdk nilk (by omega)).mono ?_
                    rintro e w4 ⟨v4, rfl, r4, f4⟩
                    obtain ⟨A4, c4, rfl, hc4, -, -, -, -⟩ := r4.shape
                    go_wp2_with fail
                    have F4 := F.trans_nil f4
                    refine (rcTurn_any A4 b 512 c4 w4 H5.out r4.rd.1 r4.rd.2.2 (by omega) (by omega)).mono ?_
                    rintro e w5 ⟨v5, rfl, r5, f5⟩
                    obtain ⟨A5, c5, rfl, hc5, -, -, -, -⟩ := r5.shape
                    have F5 := F4.trans_nil f5
                    replace r5 := r5.mono F4.size
                    rw [← HTR.out] at r5
                    have HB5 := Lib.hid (show (trB t k b).length = 512 by rw [trB_len, H5.out])
                    replace R8 := (R8.keep_nil f4).keep_nil f5
                    replace R13 := (R13.keep_nil f4).keep_nil f5
                    clear f4 f5 r4 F4 F
                    go_wp2_with fail
                    have cc := rcLike_any A5 (trB t k b) 512 c5 w5 HB5.out r5.rd.1 r5.rd.2.2 (by omega) hc5
                    cases hlk : likeB (trB t k b)
                    · rw [hlk] at cc
                      have HQN := Lib.hid (show ¬ trQ t bs k by rw [HQK.out, hlk, HBIT.out]; decide)
                      refine cc.mono ?_
                      clear cc hlk
                      rintro e w6 ⟨rfl, rfl⟩
                      have HV := Lib.hid (show trV m bs = none from (trV_no HP.out fun h => HQN.out (h.2.2.2.2 k (by rw [HLN.out]; exact hlt))))
                      go_wp2_with fail
                      go_ret3
                      exact TrC.no HV.out F5
                    · rw [hlk] at cc
                      have HQY := Lib.hid (HALL.out (by rw [HQK.out, hlk, HBIT.out]))
                      refine cc.mono ?_
                      clear cc hlk HALL
                      rintro e w6 ⟨rfl, rfl⟩
                      have r13 := R13.row
                      rw [HLK.out] at r13
                      obtain ⟨A13, c13, rfl, -, -, -, -, -⟩ := r13.shape
                      go_wp2_with (at_builtin; refine wpList_app rfl rfl slR w.heap.size _ k (rcells ps) rfl (r13.alloc _) _ 1 1 [.int .i64 x, .slice A5 512 c5] rfl rfl (Rd.of_blk (Blk.new w5 85 #[.int .i64 x, .slice A5 512 c5]) 0 _ (fun j u hu => by rw [Nat.zero_add]; simpa using hu)) (by intro u hu; simp at hu; rcases hu with rfl | rfl <;> rfl) (fun h => by cases h) (by omega) (by have := F5.size; simp; omega) ?_; intro v7 w7 q1 q2 q3 q4)
                      have fa : Fr [] w5 (w5.alloc (.cells #[.int .i64 x, .slice A5 512 c5] 85)) := (Fr.refl [] w5).alloc _
                      have R14 := (R13.keep_nil fa).snoc (x := x) (r5.keep_nil fa |> fun h => (by rw [HB5.out]; exact h : Row _ w.heap.size 5 1 (.slice A5 512 c5) (trB t k b).length (bvs (trB t k b)))) q2 (by rw [HLK.out]; exact q1)
                      rw [← HSUC.out] at R14
                      exact ⟨⟨k + 1, by omega, by go_num, (R8.keep_nil fa).keep q2 (fun g hg hm => (R8.keep_nil fa).ne_rowR (r13.keep_nil fa) (by decide) g hg (mem_own.1 hm)), ⟨_, R14⟩, HQY.out, (F5.alloc _).trans q2 (fun i hi => .inr (r13.lt i (mem_own.1 hi)).1)⟩, by simp [intOf]; omega⟩
                  · have d1 : (bits .and .u64 ((t : Int) / 2 ^ k) 1 == 1) = false := by rw [AND, beq_eq_false_iff_ne]; omega
                    have HTR := Lib.hid (show trB t k b = b by rw [trB, if_neg hbit])
                    have HBIT := Lib.hid (show decide (t / 2 ^ k % 2 = 1) = false by rw [decide_eq_false hbit])
                    clear AND hbit
                    go_wp2_with fail
                    refine (clone_any Ak b 512 ck wr H5.out rdk nilk (by omega)).mono ?_
                    rintro e w5 ⟨v4, rfl, r4, f4⟩
                    obtain ⟨A5, c5, rfl, hc5, -, -, -, -⟩ := r4.shape
                    go_wp2_with fail
                    have F5 := F.trans_nil f4
                    have r5 := r4.mono F.size
                    rw [← HTR.out] at r5
                    have HB5 := Lib.hid (show (trB t k b).length = 512 by rw [trB_len, H5.out])
                    replace R8 := R8.keep_nil f4
                    replace R13 := R13.keep_nil f4
                    clear f4 r4 F
                    have cc := rcLike_any A5 (trB t k b) 512 c5 w5 HB5.out r5.rd.1 r5.rd.2.2 (by omega) hc5
                    cases hlk : likeB (trB t k b)
                    · rw [hlk] at cc
                      have HQY := Lib.hid (HALL.out (by rw [HQK.out, hlk, HBIT.out]))
                      refine cc.mono ?_
                      clear cc hlk HALL
                      rintro e w6 ⟨rfl, rfl⟩
                      have r13 := R13.row
                      rw [HLK.out] at r13
                      obtain ⟨A13, c13, rfl, -, -, -, -, -⟩ := r13.shape
                      go_wp2_with (at_builtin; refine wpList_app rfl rfl slR w.heap.size _ k (rcells ps) rfl (r13.alloc _) _ 1 1 [.int .i64 x, .slice A5 512 c5] rfl rfl (Rd.of_blk (Blk.new w5 85 #[.int .i64 x, .slice A5 512 c5]) 0 _ (fun j u hu => by rw [Nat.zero_add]; simpa using hu)) (by intro u hu; simp at hu; rcases hu with rfl | rfl <;> rfl) (fun h => by cases h) (by omega) (by have := F5.size; simp; omega) ?_; intro v7 w7 q1 q2 q3 q4)
                      have fa : Fr [] w5 (w5.alloc (.cells #[.int .i64 x, .slice A5 512 c5] 85)) := (Fr.refl [] w5).alloc _
                      have R14 := (R13.keep_nil fa).snoc (x := x) (r5.keep_nil fa |> fun h => (by rw [HB5.out]; exact h : Row _ w.heap.size 5 1 (.slice A5 512 c5) (trB t k b).length (bvs (trB t k b)))) q2 (by rw [HLK.out]; exact q1)
                      rw [← HSUC.out] at R14
                      exact ⟨⟨k + 1, by omega, by go_num, (R8.keep_nil fa).keep q2 (fun g hg hm => (R8.keep_nil fa).ne_rowR (r13.keep_nil fa) (by decide) g hg (mem_own.1 hm)), ⟨_, R14⟩, HQY.out, (F5.alloc _).trans q2 (fun i hi => .inr (r13.lt i (mem_own.1 hi)).1)⟩, by simp [intOf]; omega⟩
                    · rw [hlk] at cc
                      have HQN := Lib.hid (show ¬ trQ t bs k by rw [HQK.out, hlk, HBIT.out]; decide)
                      refine cc.mono ?_
                      clear cc hlk
                      rintro e w6 ⟨rfl, rfl⟩
                      have HV := Lib.hid (show trV m bs = none from (trV_no HP.out fun h => HQN.out (h.2.2.2.2 k (by rw [HLN.out]; exact hlt))))
                      go_wp2_with fail
                      go_ret3
                      exact TrC.no HV.out F5
                · obtain rfl : k = N := by omega
                  have HV := Lib.hid (show trV m bs = some ((List.range k).map (trE t L bs)) by
                    rw [trV_some HP.out, HLN.out]
                    unfold trOk
                    rw [HLN.out, HBL.out, HQ.out (), HEQ.out]
                    exact ⟨rfl, by rw [HN.out]; omega, (all5_iff _).1 HA.out, rfl, hall⟩)
                  have HLK := Lib.hid (show ((List.range k).map (trE t L bs)).length = k by simp)
                  clear hall
                  go_wp2_with fail
                  go_ret3
                  exact TrC.yes (k := 0) HV.out (by rw [HLK.out]; omega) R13 F
      · have K1 : ((m' : Int) != m) = true := by simp only [bne_iff_ne]; omega
        have HMM := Lib.hid hmm
        clear hmm
        have HV := Lib.hid (show trV m bs = none from (trV_no HP.out fun h => HMM.out h.1))
        go_wp2_with fail
        go_ret3
        exact TrC.no HV.out f
end Go.Proofs.YtlelgeigighecaaDoor
