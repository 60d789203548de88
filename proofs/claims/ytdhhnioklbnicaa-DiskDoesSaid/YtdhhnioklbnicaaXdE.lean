/-
  Layer 10, the reference's disk: Flush.
-/
import Derived.Test.YtdhhnioklbnicaaXdD
set_option linter.unusedSimpArgs false
set_option linter.unusedVariables false
set_option linter.unnecessarySimpa false
namespace Go.Proofs.Ytdhhnioklbnicaa
open Go.RowKit
set_option maxRecDepth 100000

/-- Behind k rounds of the reference's Flush. -/
def DkM.flK (D : DkM) (k : Nat) : DkM := { D with sure := (List.range D.sure.length).map fun j : Nat => if j < k then some (D.hasR j) else D.sure.getD j none, uns := fun x => if x < (k : Int) then [] else D.uns x }
theorem DkM.sureR_nat (D : DkM) {j : Nat} (hj : j < D.sure.length) : D.sureR j = (D.sure.getD j none).getD zB512 := by
  rw [DkM.sureR, DkM.is_iff.2 ⟨by omega, by omega⟩, if_pos rfl, Int.toNat_natCast]
theorem DkM.flK_len (D : DkM) (k : Nat) : (D.flK k).sure.length = D.sure.length := by simp [DkM.flK]
theorem DkM.flK_sureR (D : DkM) (k : Nat) {j : Nat} (hj : j < D.sure.length) : (D.flK k).sureR j = if j < k then D.hasR j else D.sureR j := by
  rw [DkM.sureR_nat _ (by rw [D.flK_len]; exact hj), DkM.sureR_nat D hj]
  simp only [DkM.flK, List.getD_eq_getElem?_getD, List.getElem?_map, List.getElem?_range hj, Option.map_some, Option.getD_some]
  split <;> rfl
theorem DkM.flK_uns (D : DkM) (k : Nat) (x : Int) : (D.flK k).uns x = if x < (k : Int) then [] else D.uns x := rfl
theorem DkM.flK_hasR (D : DkM) {k : Nat} (hk : k < D.sure.length) : (D.flK k).hasR k = D.hasR k := by
  rw [DkM.hasR, D.flK_uns, if_neg (by omega), D.flK_sureR k hk, if_neg (by omega)]; rfl
theorem DkM.flush1_sureR (D : DkM) {j : Nat} (hj : j < D.sure.length) : D.flush1.sureR j = D.hasR j := by
  have hl : D.flush1.sure.length = D.sure.length := D.flushL_len _
  rw [DkM.sureR_nat _ (by rw [hl]; exact hj), DkM.hasR]
  simp only [DkM.flush1, DkM.flushL, List.getD_eq_getElem?_getD, List.getElem?_map, List.getElem?_range hj, Option.map_some, Option.getD_some, DkM.fl, Bool.false_eq_true, if_false]
  cases (D.uns j).getLast? with
  | none => dsimp only; rw [DkM.sureR_nat D hj, List.getD_eq_getElem?_getD]
  | some b => rfl
section
variable {w w' : World} {p : Nat} {O : List Nat} {D D' : DkM} {X : XdX}
theorem XdkX.out (h : XdkX w p O D X) {x : Int} (hx : x < 0 ∨ (D.sure.length : Int) ≤ x) : D.uns x = [] := by
  by_cases e : D.uns x = []
  · exact e
  · have := DkM.is_iff.1 (h.rng x e); omega
set_option maxHeartbeats 2000000 in
theorem xdFlush_any (h : Xdk w p O D) : Calls Try.prog 49 #[.pointer (some ⟨p, 0, none⟩)] w fun e w' => e = .returned (.int .i64 D.flushE) ∧ AftX w p O D.flush w' := by
  have ho := xdOff_any h
  cases hf : D.off
  · rw [hf] at ho
    have HE := Lib.hid (show D.flushE = 0 by rw [DkM.flushE, hf]; rfl)
    have HW := Lib.hid (show D.flush = D.flush1.dec by rw [DkM.flush, hf]; rfl)
    have HOF := Lib.hid hf
    obtain ⟨X, h⟩ := h
    have c0 := h.c0
    obtain ⟨n, hn⟩ : ∃ n, D.sure.length = n := ⟨_, rfl⟩
    have hn1 := h.n1.2
    rw [hn] at c0 hn1
    have HN := Lib.hid hn
    have HH := Lib.hid h
    clear h hf hn
    go_enter Try.func49, Try.ntmps49
    go_wp2_with fail
    refine ho.mono ?_
    rintro e w1 ⟨rfl, rfl⟩
    go_wp2_with fail
    go_loopw [3] (fun i wr => ∃ k : Nat, k ≤ n ∧ i = .int .i64 k ∧ AftX w p O (D.flK k) wr) (fun i _ => n - (intOf i).toNat)
    case atStart =>
      refine ⟨0, by omega, rfl, AftX.same (Xdk.eq ⟨X, HH.out⟩ (D.flK_len 0) (fun j hj => by rw [D.flK_sureR 0 hj, if_neg (by omega)]) (funext fun x => ?_) rfl)⟩
      rw [D.flK_uns]
      split
      · exact (HH.out.out (.inl (by omega))).symm
      · rfl
    case round =>
      clear c0 ho
      obtain ⟨k, hkn, rfl, O1, ⟨X1, h1⟩, hO1, F1⟩ := hrel
      have c0 := h1.c0
      rw [D.flK_len, HN.out] at c0
      by_cases hlt : k < n
      · have d0 : (k : Int) < n := by omega
        have hkl : k < (D.flK k).sure.length := by rw [D.flK_len, HN.out]; exact hlt
        obtain ⟨R, hR⟩ : ∃ R, D.hasR k = R := ⟨_, rfl⟩
        obtain ⟨S, hS⟩ : ∃ S : ByteArray, (⟨R.toArray⟩ : ByteArray) = S := ⟨_, rfl⟩
        have HS := Lib.hid (show strV R = .string S from congrArg Value.string hS)
        have HR := Lib.hid hR
        have H1 := Lib.hid h1
        have HA := Lib.hid (And.intro hO1 F1)
        clear h1 hO1 F1 hR hS
        go_upto_region 6 with fail
        obtain ⟨wD, hwD⟩ : ∃ wD, wr.drew = wD := ⟨_, rfl⟩
        have fD : Fr [] wr wD := by rw [← hwD]; exact (Fr.refl [] wr).drew
        have cD := fD.cell (by simp) c0
        have cH := xdHas_any ⟨X1, H1.out.keep_nil fD⟩ hkl
        rw [D.flK_hasR (by rw [HN.out]; exact hlt), HR.out, HS.out] at cH
        have FD := Lib.hid fD
        refine wp_region_held_drew (S := fun w' => w'.cell? ⟨p, 0, none⟩ = some (.slice (some ⟨X1.g, 0, none⟩) n X1.c)) (by kernel_rfl) (by rw [hwD]; exact cD) (fun hHeld => ?_)
        rw [hwD] at hHeld ⊢
        clear hwD fD cD c0 hkl
        refine take_w 0 (some 15) (v := ?_) rfl rfl (by kernel_rfl) (by kernel_rfl) (by kernel_rfl) (fun _ _ _ h => h) (by rfl) ?_ hHeld ?_
        rotate_left
        · (intro w hSw; (try dsimp only at hSw); go_simp; try with_reducible rfl)
        simp only [Act.put, List.setIfInBounds_toArray, List.set_cons_zero, List.set_cons_succ]
        refine take_w 1 (some 16) (v := ?_) rfl rfl (by kernel_rfl) (by kernel_rfl) (by kernel_rfl) (fun _ _ _ h => h) (by rfl) ?_ hHeld ?_
        rotate_left
        · (intro w hSw; (try dsimp only at hSw); go_simp; try with_reducible rfl)
        simp only [Act.put, List.setIfInBounds_toArray, List.set_cons_zero, List.set_cons_succ]
        refine take_w 2 (some 17) (v := ?_) rfl rfl (by kernel_rfl) (by kernel_rfl) (by kernel_rfl) (fun _ _ _ h => h) (by rfl) ?_ hHeld ?_
        rotate_left
        · (intro w hSw; (try dsimp only at hSw); go_simp; try with_reducible rfl)
        simp only [Act.put, List.setIfInBounds_toArray, List.set_cons_zero, List.set_cons_succ]
        refine take_w 3 (some 18) (v := ?_) rfl rfl (by kernel_rfl) (by kernel_rfl) (by kernel_rfl) (fun _ _ _ h => h) (by rfl) ?_ hHeld ?_
        rotate_left
        · (intro w hSw; (try dsimp only at hSw); go_simp; try with_reducible rfl)
        simp only [Act.put, List.setIfInBounds_toArray, List.set_cons_zero, List.set_cons_succ]
        refine take_w 4 (some 19) (v := ?_) rfl rfl (by kernel_rfl) (by kernel_rfl) (by kernel_rfl) (fun _ _ _ h => h) (by rfl) ?_ hHeld ?_
        rotate_left
        · (intro w hSw; (try dsimp only at hSw); go_simp; try with_reducible rfl)
        simp only [Act.put, List.setIfInBounds_toArray, List.set_cons_zero, List.set_cons_succ]
        refine take_w 5 (some 20) (v := ?_) rfl rfl (by kernel_rfl) (by kernel_rfl) (by kernel_rfl) (fun _ _ _ h => h) (by rfl) ?_ hHeld ?_
        rotate_left
        · (intro w hSw; (try dsimp only at hSw); go_simp; try with_reducible rfl)
        simp only [Act.put, List.setIfInBounds_toArray, List.set_cons_zero, List.set_cons_succ]
        refine take_w 6 (some 21) (v := ?_) rfl rfl (by kernel_rfl) (by kernel_rfl) (by kernel_rfl) (fun _ _ _ h => h) (by rfl) ?_ hHeld ?_
        rotate_left
        · (intro w hSw; (try dsimp only at hSw); go_simp; try with_reducible rfl)
        simp only [Act.put, List.setIfInBounds_toArray, List.set_cons_zero, List.set_cons_succ]
        refine take_c 7 rfl (by kernel_rfl) (by rfl) (fun K hK => ?_)
        go_simp
        refine cH.mono ?_
        rintro e wE ⟨rfl, fE⟩
        have cE := fE.cell (by simp) hHeld
        refine hK.out _ _ cE (fun hHx => ?_)
        clear hK hHeld cH cE
        have hHeld := hHx
        clear hHx
        try simp only [Act.put, List.setIfInBounds_toArray, List.set_cons_zero, List.set_cons_succ]
        refine take_w 8 (some 23) (v := ?_) rfl rfl (by kernel_rfl) (by kernel_rfl) (by kernel_rfl) (fun _ _ _ h => h) (by rfl) ?_ hHeld ?_
        rotate_left
        · (intro w hSw; (try dsimp only at hSw); go_simp; try with_reducible rfl)
        simp only [Act.put, List.setIfInBounds_toArray, List.set_cons_zero, List.set_cons_succ]
        refine take_c 9 rfl (by kernel_rfl) (by rfl) (fun K hK => ?_)
        go_simp
        refine hK.out _ _ hHeld (fun hHx => ?_)
        clear hK hHx
        try simp only [Act.put, List.setIfInBounds_toArray, List.set_cons_zero, List.set_cons_succ]
        have fE2 := FD.out.trans_nil fE
        have hE := H1.out.keep_nil fE2
        have hlX := hE.len
        rw [D.flK_len, HN.out] at hlX
        obtain ⟨q0, z0, r0⟩ := hE.row.setE (k * 2) (by rw [D.flK_len, HN.out]; omega) (.string S)
        obtain ⟨q1, z1, -⟩ := hE.row.setE (k * 2 + 1) (by rw [D.flK_len, HN.out]; omega) (.slice none 0 0)
        obtain ⟨-, -, r1⟩ := r0.setE (k * 2 + 1) (by rw [D.flK_len, HN.out]; omega) (.slice none 0 0)
        rw [← HS.out, pcells_set0 X1.ps k (by omega), pcells_set1 _ k (by rw [List.length_set]; omega), List.getElem_set_self, List.set_set, HS.out] at r1
        rw [List.getElem?_eq_getElem (by rw [pcells_len]; omega)] at q0 q1
        obtain ⟨o0, ho0⟩ : ∃ o, (pcells X1.ps)[k * 2]'(by rw [pcells_len]; omega) = o := ⟨_, rfl⟩
        obtain ⟨o1, ho1⟩ : ∃ o, (pcells X1.ps)[k * 2 + 1]'(by rw [pcells_len]; omega) = o := ⟨_, rfl⟩
        rw [ho0] at q0
        rw [ho1] at q1
        have fS : Fr [X1.g] wE ((wE.setCell ⟨X1.g, k * 2, none⟩ (.string S)).setCell ⟨X1.g, k * 2 + 1, none⟩ (.slice none 0 0)) := ((Fr.refl [X1.g] wE).setCell (.inl (by simp)) (.string S)).setCell (.inl (by simp)) (.slice none 0 0)
        have hP := hE.put (i := k) (s := R) (L := []) (v := .slice none 0 0) (D' := D.flK (k + 1)) (by rw [D.flK_len, HN.out]; exact hlt) (by rw [D.flK_len, D.flK_len]) (fun j hj => by
            rw [D.flK_len] at hj
            rw [D.flK_sureR _ hj, D.flK_sureR _ hj]
            by_cases e : j = k
            · subst e; rw [if_pos (by omega), if_pos rfl, HR.out]
            · rw [if_neg e]
              by_cases h : j < k
              · rw [if_pos (by omega), if_pos h]
              · rw [if_neg (by omega), if_neg h])
          (fun y => by
            rw [D.flK_uns, D.flK_uns]
            by_cases e : y = (k : Int)
            · subst e; rw [if_pos (by omega), if_pos rfl]
            · rw [if_neg e]
              by_cases h : y < (k : Int)
              · rw [if_pos (by omega), if_pos h]
              · rw [if_neg (by omega), if_neg h])
          ⟨by rw [← HR.out]; exact DkM.hasR_len HH.out.ss HH.out.su (by rw [HN.out]; exact hlt), fun _ h => by cases h⟩ rfl fS r1 (Row.nil _ _ _ _)
        have HP := Lib.hid (show AftX w p O (D.flK (k + 1)) _ from ⟨_, ⟨_, hP⟩, fun i hi => HA.out.1 i (mem_nilO hi), (HA.out.2.trans_nil fE2).trans fS (fun i hi => HA.out.1 i (by rw [List.mem_singleton.1 hi]; exact hE.gO))⟩)
        have cS := fS.cell (p := ⟨p, 0, none⟩) (by simpa using hE.pg) hHeld
        clear hP fS r0 r1 ho0 ho1 hE fE2 fE hlX
        refine take_c 10 rfl (by kernel_rfl) (by rfl) (fun K hK => ?_)
        go_simp
        refine hK.out _ _ cS (fun hHx => ?_)
        clear hK hHx hHeld cS q0 q1 z0 z1
        refine wpAnyH_done (by kernel_rfl) ?_ _
        go_wp2_with fail
        exact ⟨⟨k + 1, by omega, by go_num, HP.out⟩, by simp [intOf]; omega⟩
      · obtain rfl : k = n := by omega
        have d0 : ¬ ((k : Int) < k) := by omega
        have hE : XdkX wr p O1 D.flush1 X1 := h1.eq (by rw [D.flK_len]; exact D.flushL_len _) (fun j hj => by
            rw [D.flK_len] at hj
            rw [D.flush1_sureR hj, D.flK_sureR _ hj, if_pos (by rw [← HN.out]; exact hj)]) (funext fun x => by
            rw [D.flK_uns]
            split
            · rfl
            · exact (HH.out.out (.inr (by rw [HN.out]; omega))).symm) rfl
        have cd := xdDid_any ⟨X1, hE⟩ HOF.out
        have HA := Lib.hid (And.intro hO1 F1)
        clear h1 hE hO1 F1
        go_wp2_with fail
        refine cd.mono ?_
        rintro e w9 ⟨rfl, ha⟩
        go_wp2_with fail
        go_ret
        exact ⟨by rw [HE.out]; rfl, by rw [HW.out]; exact ha.trans HA.out.2 HA.out.1⟩
  · rw [hf] at ho
    have HE := Lib.hid (show D.flushE = 102 by rw [DkM.flushE, hf]; rfl)
    have HW := Lib.hid (show D.flush = D by rw [DkM.flush, hf]; rfl)
    have HH := Lib.hid h
    clear h hf
    go_enter Try.func49, Try.ntmps49
    go_wp2_with fail
    refine ho.mono ?_
    rintro e w1 ⟨rfl, rfl⟩
    go_wp2_with fail
    go_ret
    exact ⟨by rw [HE.out]; rfl, by rw [HW.out]; exact AftX.same HH.out⟩
end
end Go.Proofs.Ytdhhnioklbnicaa
