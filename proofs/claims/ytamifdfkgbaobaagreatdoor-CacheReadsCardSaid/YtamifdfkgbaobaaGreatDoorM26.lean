/-
  Texts of this claim, one behind the other: CacRd.
-/
import Derived.Test.YtamifdfkgbaobaaGreatDoorM25
/-
  CacheReads: the walk.
-/
set_option linter.unusedSimpArgs false
set_option linter.unusedVariables false
set_option linter.unnecessarySimpa false
namespace Go.Proofs.YtamifdfkgbaobaaGreatDoor
open Go.RowKit
set_option maxRecDepth 100000

set_option maxHeartbeats 8000000 in
theorem caReads_any (W : World) (A : Option Addr) (n c : Nat) (l : List O15) (hA : ArgO15 W A n c l) (hK : KG W) : Calls Tryz.prog 5 #[.slice A n c] W fun e w' => e = .returned (.bool true) ∧ Fr [] W w' := by
  obtain ⟨s1, s2, s3, s4, s5, s6, s7, s8, s9⟩ := CaG.start (N := 40) (c := 16) (by omega) (by omega) (by omega)
  obtain ⟨D1, hD1⟩ : ∃ D1, (mkE (newD 40) 0 1).2 = D1 := ⟨_, rfl⟩
  have hi0 : initE (newD 40) 0 16 = (0, D1) := by rw [initE, if_pos s2]; exact Prod.ext s1 hD1
  rw [hD1] at s3 s4 s5 s6 s7 s8 s9
  have H0 : CaH 16 ⟨D1, openJ 0 16 1 0, fun _ => none⟩ 0 := ⟨s7, rfl, rfl, Nat.le_refl _, fun x => by have := s9 x; show (D1.uns x).length ≤ _; omega⟩
  have hz0 : ∀ x : Int, 16 ≤ x → x < 40 → rdM ⟨D1, openJ 0 16 1 0, fun _ => none⟩ x = zB512 := fun x h1 h2 => s8 x (by omega) (by omega)
  have S := Lib.hid (And.intro hi0 (And.intro s3 (And.intro s4 (And.intro s5 (And.intro s6 (And.intro H0 hz0))))))
  have HA := Lib.hid hA
  clear s1 s2 s3 s4 s5 s6 s7 s8 s9 hD1 hi0 H0 hA hz0
  have cn := dkNew_any W 40 (by omega)
  go_enter Tryz.func5, Tryz.ntmps5
  go_wp2_with fail
  refine cn.mono ?_
  intro e w1 hn
  obtain ⟨p, rfl, h1⟩ := LV.of_new (by omega) hn
  clear cn hn
  change LV W w1 p (newD 40) at h1
  go_wp2_with fail
  refine (lives15_any w1 (hK.keep h1.fr)).mono ?_
  rintro e w2 ⟨rfl, f2⟩
  replace h1 := h1.keep f2
  clear f2
  obtain ⟨O, hd, hO, hf⟩ := h1
  have ci := jnInit_any hd 0 16 (wfZ_of (by decide)) (hK.keep hf) (fun x => by show 0 + 2 ≤ _; omega)
  rw [S.out.1] at ci
  go_wp2_with fail
  refine ci.mono ?_
  rintro e w3 ⟨rfl, ha⟩
  have h2 : LV W w3 p D1 := LV.aft hO hf ha
  clear ci ha hd hO hf
  obtain ⟨O2, hd2, hO2, hf2⟩ := h2
  have co := caOpen_yes hd2 0 16 (wfZ_of (by decide)) (hK.keep hf2) S.out.2.1 S.out.2.2.1 S.out.2.2.2.1 (by rw [S.out.2.2.2.2.1]; exact Nat.zero_le _) (by rw [S.out.2.2.2.2.1]; intro r hr; cases hr) (by rw [S.out.2.2.2.2.1]; intro r hr; cases hr)
  rw [S.out.2.2.2.2.1] at co
  go_wp2_with fail
  refine co.mono ?_
  rintro e w4 ⟨P, hP, rfl, hcw, f3, p1, p2, p3, p4⟩
  have LL : LCa W w4 P ⟨D1, openJ 0 16 1 0, fun _ => none⟩ := LCa.made hO2 hf2 hcw f3 p1 p2 p3 p4
  have HP := Lib.hid hP
  clear hcw f3 p1 p2 p3 p4 hd2 hO2 hf2 co hP
  obtain ⟨Z2, hZ2⟩ : ∃ Z2, (List.replicate 24 (Value.string ByteArray.empty)).toArray = Z2 := ⟨_, rfl⟩
  have rms : (Instr.makeSlice 47 (.int .i64 24) (.int .i64 24)).run Tryz.prog w4 = .ok (.slice (some ⟨w4.heap.size, 0, none⟩) 24 24) (w4.alloc (.cells Z2 9)) := by
    rw [← hZ2]
    exact run_mk1 slStr15 rfl w4 .i64 .i64 24 (by omega)
  go_wp2_with fail
  have LB := LCb.made LL Z2
  rw [← hZ2, strA_nil] at LB
  rw [← hZ2, strA_nil]
  clear LL hZ2 rms
  obtain ⟨gh, hgh⟩ : ∃ gh, w4.heap.size = gh := ⟨_, rfl⟩
  rw [hgh] at LB ⊢
  obtain ⟨w5, hw5⟩ : ∃ y, w4.alloc (.cells (strA fun _ => []) 9) = y := ⟨_, rfl⟩
  rw [hw5] at LB ⊢
  clear hw5 hgh
  have hLB := Lib.hid LB
  clear LB
  obtain ⟨Z, hZ⟩ : ∃ Z, (List.replicate 512 (Value.int .u8 0)).toArray = Z := ⟨_, rfl⟩
  have rmk : ∀ W : World, (Instr.makeSlice 41 (.int .i64 512) (.int .i64 512)).run Tryz.prog W = .ok (.slice (some ⟨W.heap.size, 0, none⟩) 512 512) (W.alloc (.cells Z 5)) := fun W => by
    rw [← hZ]
    exact run_mk1 slB rfl W .i64 .i64 512 (by omega)
  have cvn : ∀ W W' : World, Fr [] (W.alloc (.cells Z 5)) W' → (convert 41 9 (.slice (some ⟨W.heap.size, 0, none⟩) 512 512)).run Tryz.prog W' = .ok (.string ⟨zB512.toArray⟩) W' := fun W W' f =>
    conv_str Tryz.underlying41 Tryz.underlying5 Tryz.underlying9 _ _ zB512 512 512 zB512_len ((Rd.of_blk (Blk.new W 5 Z) 0 _ (fun j u hu => by
      rw [zB512_vs] at hu
      rw [← hZ, Nat.zero_add, List.getElem?_toArray]
      exact hu)).keep_nil f) (fun h => by cases h)
  clear hZ
  go_loopw [8] (fun i wr => ∃ m : Nat, m ≤ 24 ∧ i = .int .i64 m ∧ LCb W wr P ⟨D1, openJ 0 16 1 0, fun _ => none⟩ gh (strA (fun x => if x < 16 + (m : Int) then zB512 else []))) (fun i _ => 24 - (intOf i).toNat)
  case atStart => exact ⟨0, by omega, rfl, by
    rw [strA_congr (g := fun _ => []) (fun x h1 h2 => if_neg (by omega))]
    exact hLB.out⟩
  case round =>
    clear hLB
    obtain ⟨m, hm, rfl, LL⟩ := hrel
    by_cases hmlt : m < 24
    · have dm : (m : Int) < 24 := by omega
      have fZ : Fr [] wr (wr.alloc (.cells Z 5)) := (Fr.refl [] wr).alloc _
      have L2 := LL.keep fZ
      have cv := cvn wr _ (Fr.refl _ _)
      have y1 := L2.blk.cell m
      rw [strA_at _ hmlt] at y1
      have y2 := L2.blk.frozen m
      have L3 := L2.set m (.string ⟨zB512.toArray⟩)
      have hcg : ∀ x : Int, 16 ≤ x → x < 40 → (if x = 16 + (m : Int) then zB512 else if x < 16 + (m : Int) then zB512 else []) = (if x < 16 + ((m + 1 : Nat) : Int) then zB512 else []) := fun x h1 h2 => by
        by_cases e : x = 16 + (m : Int)
        · rw [if_pos e, if_pos (by omega)]
        · rw [if_neg e]
          by_cases e2 : x < 16 + (m : Int)
          · rw [if_pos e2, if_pos (by omega)]
          · rw [if_neg e2, if_neg (by omega)]
      rw [strA_set, strA_congr hcg] at L3
      have H3 := Lib.hid L3
      clear cvn L2 LL L3 fZ hcg
      go_wp2_with fail
      exact ⟨⟨m + 1, by omega, by go_num, H3.out⟩, by simp [intOf]; omega⟩
    · have dm : ¬ ((m : Int) < 24) := by omega
      rw [strA_congr (g := rdM ⟨D1, openJ 0 16 1 0, fun _ => none⟩) (fun x h1 h2 => by rw [if_pos (by omega), S.out.2.2.2.2.2.2 x h1 h2])] at LL
      clear rmk cvn
      go_wp2_with fail
      have hLL := Lib.hid LL
      clear LL
      go_loopw [9] (fun i wr => ∃ k : Nat, k ≤ n ∧ k ≤ 60 ∧ i = .int .i64 k ∧ ∃ M, CaH 16 M k ∧ LCb W wr P M gh (strA (rdM M))) (fun i _ => n - (intOf i).toNat)
      case atStart => exact ⟨0, by omega, by omega, rfl, _, S.out.2.2.2.2.2.1, hLL.out⟩
      case round =>
        clear hLL dm
        obtain ⟨k, hkn, hk1, rfl, M, hH, LL⟩ := hrel
        have HH := Lib.hid hH
        clear hH
        by_cases hlt : k < n ∧ k < 60
        · obtain ⟨d0', d1'⟩ := hlt
          have d0 : (k : Int) < n := by omega
          have d1 : (k : Int) < 60 := by omega
          obtain ⟨⟨kd, Ak, mk, ck, qs, nn, kv⟩, gA, oA, rfl, hok, x0, x1⟩ := HA.out.cells (Fr.refl [] W) d0'
          have hrk := hok.r
          dsimp only at x0 x1 hrk
          have y0 := LL.fr.cell (by simp) x0
          have y1 := LL.fr.cell (by simp) x1
          have HX := Lib.hid (And.intro x1 hrk)
          clear hok x0 x1
          by_cases k1 : kd = 1
          · subst k1
            have cc := LL.com hK HH.out (by omega) hrk
            have hm2 : CaH 16 (comM M qs) (k + 1) := HH.out.com (by omega)
            have hyes := HH.out.com_yes (rs := qs) (by omega)
            have hno := HH.out.com_no (rs := qs) (by omega)
            obtain ⟨M2, hM2⟩ : ∃ M2, comM M qs = M2 := ⟨_, rfl⟩
            obtain ⟨ce, hce⟩ : ∃ ce, comE M qs = ce := ⟨_, rfl⟩
            rw [hM2, hce] at cc hyes hno
            rw [hM2] at hm2
            have H2 := Lib.hid hm2
            have YES := Lib.hid hyes
            have NO := Lib.hid hno
            clear LL hm2 hyes hno hM2 hce hrk
            go_wp2_with fail
            refine cc.mono ?_
            rintro e w6 ⟨rfl, LL⟩
            clear cc y0 y1
            by_cases ce0 : ce = 0
            · subst ce0
              go_wp2_with fail
              have hLI := Lib.hid LL
              clear LL
              go_loopw [10] (fun i wr => ∃ j : Nat, j ≤ mk ∧ i = .int .i64 j ∧ LCb W wr P M2 gh (strA (rdU (rdM M) (qs.take j)))) (fun i _ => mk - (intOf i).toNat)
              case atStart => exact ⟨0, by omega, rfl, by rw [List.take_zero]; exact hLI.out⟩
              case round =>
                clear hLI
                obtain ⟨j, hj, rfl, LL⟩ := hrel
                have hmk := HX.out.2.reach
                have y1 := LL.fr.cell (by simp) HX.out.1
                by_cases hjlt : j < mk
                · have dj : (j : Int) < mk := by omega
                  have hjl : j < qs.length := by rw [HX.out.2.len]; exact hjlt
                  obtain ⟨g2, o2, rfl, -, hc⟩ := HX.out.2.cell (by omega)
                  obtain ⟨-, z0, v, z1, sb, -⟩ := hc j hjl
                  have ht : qs.take (j + 1) = qs.take j ++ [qs[j]] := (List.take_append_getElem hjl).symm
                  have hx4 := (YES.out trivial).1 _ (List.getElem_mem hjl)
                  obtain ⟨⟨x, b⟩, hx⟩ : ∃ r, qs[j] = r := ⟨_, rfl⟩
                  rw [hx] at ht z0 sb hx4
                  dsimp only at z0 sb hx4
                  have z0' := LL.fr.cell (by simp) z0
                  have z1' := LL.fr.cell (by simp) z1
                  have cv := slb_str (sb.keep_nil LL.fr)
                  obtain ⟨Av, cw, rfl, -⟩ := sb
                  clear z0 z1 hc hx
                  by_cases h16 : 16 ≤ x
                  · obtain ⟨q, hq⟩ : ∃ q : Nat, x = 16 + (q : Int) := ⟨(x - 16).toNat, by omega⟩
                    subst hq
                    have hq24 : q < 24 := by omega
                    have dq : (q : Int) < 24 := by omega
                    have e1 : IntKind.i64.wrap (16 + (q : Int) - 16) = (q : Int) := by rw [show 16 + (q : Int) - 16 = (q : Int) by omega]; exact IntWalk.i64_in _ (by omega)
                    have u1 := LL.blk.cell q
                    rw [strA_at _ hq24] at u1
                    have u2 := LL.blk.frozen q
                    have L3 := LL.set q (.string ⟨b.toArray⟩)
                    have hcg : ∀ x' : Int, 16 ≤ x' → x' < 40 → (if x' = 16 + (q : Int) then b else rdU (rdM M) (qs.take j) x') = rdU (rdM M) (qs.take (j + 1)) x' := fun x' _ _ => by rw [ht, rdU_snoc]
                    rw [strA_set, strA_congr hcg] at L3
                    have H3 := Lib.hid L3
                    clear LL L3 hcg ht
                    go_wp2_with fail
                    exact ⟨⟨j + 1, by omega, by go_num, H3.out⟩, by simp [intOf]; omega⟩
                  · have e1 : IntKind.i64.wrap (x - 16) = x - 16 := IntWalk.i64_in _ (by omega)
                    have d3 : ¬ (x - 16 ≥ 0) := by omega
                    have d4 : ¬ (0 ≤ x - 16) := by omega
                    have hcg : ∀ x' : Int, 16 ≤ x' → x' < 40 → rdU (rdM M) (qs.take j) x' = rdU (rdM M) (qs.take (j + 1)) x' := fun x' _ _ => by rw [ht, rdU_snoc, if_neg (by dsimp only; omega)]
                    rw [strA_congr hcg] at LL
                    clear hcg ht cv
                    go_wp2_with fail
                    exact ⟨⟨j + 1, by omega, by go_num, LL⟩, by simp [intOf]; omega⟩
                · have dj : ¬ ((j : Int) < mk) := by omega
                  have hcg : ∀ x' : Int, 16 ≤ x' → x' < 40 → rdU (rdM M) (qs.take j) x' = rdM M2 x' := fun x' h1 _ => by
                    rw [(YES.out trivial).2 x' h1, List.take_of_length_le (by rw [HX.out.2.len]; omega)]
                  rw [strA_congr hcg] at LL
                  clear hcg
                  go_wp2_with fail
                  have hLR := Lib.hid LL
                  clear LL
                  go_loopw [12] (fun i wr => ∃ m : Nat, m ≤ 24 ∧ i = .int .i64 m ∧ LCb W wr P M2 gh (strA (rdM M2))) (fun i _ => 24 - (intOf i).toNat)
                  case atStart => exact ⟨0, by omega, rfl, hLR.out⟩
                  case round =>
                    clear hLR
                    obtain ⟨q, hq, rfl, LL⟩ := hrel
                    by_cases hqlt : q < 24
                    · have dq : (q : Int) < 24 := by omega
                      have e16 : IntKind.i64.wrap (16 + (q : Int)) = 16 + (q : Int) := IntWalk.i64_in _ (by omega)
                      obtain ⟨R, hR⟩ : ∃ R, rdM M2 (16 + (q : Int)) = R := ⟨_, rfl⟩
                      have sq := strA_at (rdM M2) hqlt
                      rw [hR] at sq
                      obtain ⟨O, hcw, -⟩ := id LL
                      have cr := caRead_any hcw (16 + (q : Int)) (wfZ_of (by omega))
                      rw [hR, H2.out.rdE (by omega) (by omega)] at cr
                      clear hcw hR
                      go_wp2_with fail
                      refine cr.mono ?_
                      rintro e w8 ⟨v8, rfl, r8, f8⟩
                      obtain ⟨A8, c8, rfl, -, -, -, -, -⟩ := r8.shape
                      have z8 := r8.rdD
                      replace LL := LL.keep f8
                      clear cr f8 r8
                      go_upto_region 37 with fail
                      obtain ⟨wD, hwD⟩ : ∃ wD, w8.drew = wD := ⟨_, rfl⟩
                      have fD : Fr [] w8 wD := by rw [← hwD]; exact (Fr.refl [] w8).drew
                      replace LL := LL.keep fD
                      have rd8 := z8.1.keep_nil fD
                      have ch := LL.blk.cell q
                      rw [sq] at ch
                      have mkS : ∀ w' : World, Fr [] wD w' → ((convert 41 9 (.slice A8 R.length c8)).run Tryz.prog w' = .ok (.string ⟨R.toArray⟩) w' ∧ w'.cell? ⟨gh, q, none⟩ = some (.string ⟨R.toArray⟩)) := fun w' f =>
                        ⟨conv_str Tryz.underlying41 Tryz.underlying5 Tryz.underlying9 w' _ R _ c8 rfl (rd8.keep_nil f) z8.2.2, f.cell (by simp) ch⟩
                      as_aux_lemma =>
                        refine wp_region_held_drew (S := fun w' => (convert 41 9 (.slice A8 R.length c8)).run Tryz.prog w' = .ok (.string ⟨R.toArray⟩) w' ∧ w'.cell? ⟨gh, q, none⟩ = some (.string ⟨R.toArray⟩)) (by kernel_rfl) (by rw [hwD]; exact mkS _ (Fr.refl _ _)) (fun hHeld => ?_)
                        rw [hwD] at hHeld ⊢
                        clear hwD fD mkS rd8 z8 ch sq
                        refine take_w 0 (some 156) (v := ?_) rfl rfl (by kernel_rfl) (by kernel_rfl) (by kernel_rfl) (fun _ _ _ h => h) (by rfl) ?_ hHeld ?_
                        rotate_left
                        · (intro w hSw; (try dsimp only at hSw); go_simp; try with_reducible rfl)
                        simp only [Act.put, List.setIfInBounds_toArray, List.set_cons_zero, List.set_cons_succ]
                        refine take_w 1 (some 157) (v := ?_) rfl rfl (by kernel_rfl) (by kernel_rfl) (by kernel_rfl) (fun _ _ _ h => h) (by rfl) ?_ hHeld ?_
                        rotate_left
                        · (intro w hSw; (try dsimp only at hSw); go_simp; try with_reducible rfl)
                        simp only [Act.put, List.setIfInBounds_toArray, List.set_cons_zero, List.set_cons_succ]
                        refine take_w 2 (some 158) (v := ?_) rfl rfl (by kernel_rfl) (by kernel_rfl) (by kernel_rfl) (fun _ _ _ h => h) (by rfl) ?_ hHeld ?_
                        rotate_left
                        · (intro w hSw; (try dsimp only at hSw); go_simp; try with_reducible rfl)
                        simp only [Act.put, List.setIfInBounds_toArray, List.set_cons_zero, List.set_cons_succ]
                        refine take_w 3 (some 159) (v := ?_) rfl rfl (by kernel_rfl) (by kernel_rfl) (by kernel_rfl) (fun _ _ _ h => h) (by rfl) ?_ hHeld ?_
                        rotate_left
                        · (intro w hSw; (try dsimp only at hSw); go_simp; try with_reducible rfl)
                        simp only [Act.put, List.setIfInBounds_toArray, List.set_cons_zero, List.set_cons_succ]
                        refine take_w 4 (some 160) (v := ?_) rfl rfl (by kernel_rfl) (by kernel_rfl) (by kernel_rfl) (fun _ _ _ h => h) (by rfl) ?_ hHeld ?_
                        rotate_left
                        · (intro w hSw; (try dsimp only at hSw); go_simp; try with_reducible rfl)
                        simp only [Act.put, List.setIfInBounds_toArray, List.set_cons_zero, List.set_cons_succ]
                        refine take_w 5 (some 161) (v := ?_) rfl rfl (by kernel_rfl) (by kernel_rfl) (by kernel_rfl) (fun _ _ _ h => h) (by rfl) ?_ hHeld ?_
                        rotate_left
                        · (intro w hSw; (try dsimp only at hSw); go_simp; try with_reducible rfl)
                        simp only [Act.put, List.setIfInBounds_toArray, List.set_cons_zero, List.set_cons_succ]
                        refine take_w 6 (some 162) (v := ?_) rfl rfl (by kernel_rfl) (by kernel_rfl) (by kernel_rfl) (fun _ _ _ h => h) (by rfl) ?_ hHeld ?_
                        rotate_left
                        · (intro w hSw; (try dsimp only at hSw); go_simp; try with_reducible rfl)
                        simp only [Act.put, List.setIfInBounds_toArray, List.set_cons_zero, List.set_cons_succ]
                        refine take_w 7 (some 163) (v := ?_) rfl rfl (by kernel_rfl) (by kernel_rfl) (by kernel_rfl) (fun _ _ _ h => h) (by rfl) ?_ hHeld ?_
                        rotate_left
                        · (intro w hSw; (try dsimp only at hSw); go_simp; try with_reducible rfl)
                        simp only [Act.put, List.setIfInBounds_toArray, List.set_cons_zero, List.set_cons_succ]
                        refine take_w 8 (some 164) (v := ?_) rfl rfl (by kernel_rfl) (by kernel_rfl) (by kernel_rfl) (fun _ _ _ h => h) (by rfl) ?_ hHeld ?_
                        rotate_left
                        · (intro w hSw; (try dsimp only at hSw); go_simp; try with_reducible rfl)
                        simp only [Act.put, List.setIfInBounds_toArray, List.set_cons_zero, List.set_cons_succ]
                        refine take_w 9 (some 165) (v := ?_) rfl rfl (by kernel_rfl) (by kernel_rfl) (by kernel_rfl) (fun _ _ _ h => h) (by rfl) ?_ hHeld ?_
                        rotate_left
                        · (intro w hSw; (try dsimp only at hSw); go_simp; try with_reducible rfl)
                        simp only [Act.put, List.setIfInBounds_toArray, List.set_cons_zero, List.set_cons_succ]
                        refine take_w 10 (some 166) (v := ?_) rfl rfl (by kernel_rfl) (by kernel_rfl) (by kernel_rfl) (fun _ _ _ h => h) (by rfl) ?_ hHeld ?_
                        rotate_left
                        · (intro w hSw; (try dsimp only at hSw); go_simp; try with_reducible rfl)
                        simp only [Act.put, List.setIfInBounds_toArray, List.set_cons_zero, List.set_cons_succ]
                        refine wpAnyH_done (by kernel_rfl) ?_ _
                        go_wp2_with fail
                        exact ⟨⟨q + 1, by omega, by go_num, LL⟩, by simp [intOf]; omega⟩
                    · have dq : ¬ ((q : Int) < 24) := by omega
                      go_wp2_with fail
                      exact ⟨⟨k + 1, by omega, by omega, by go_num, M2, H2.out, LL⟩, by simp [intOf]; omega⟩
            · have dce : (ce == 0) = false := by simpa using ce0
              rw [strA_congr (f := rdM M) (g := rdM M2) fun x h1 _ => (NO.out ce0 x h1).symm] at LL
              go_wp2_with fail
              have hLR := Lib.hid LL
              clear LL
              go_loopw [12] (fun i wr => ∃ m : Nat, m ≤ 24 ∧ i = .int .i64 m ∧ LCb W wr P M2 gh (strA (rdM M2))) (fun i _ => 24 - (intOf i).toNat)
              case atStart => exact ⟨0, by omega, rfl, hLR.out⟩
              case round =>
                clear hLR
                obtain ⟨q, hq, rfl, LL⟩ := hrel
                by_cases hqlt : q < 24
                · have dq : (q : Int) < 24 := by omega
                  have e16 : IntKind.i64.wrap (16 + (q : Int)) = 16 + (q : Int) := IntWalk.i64_in _ (by omega)
                  obtain ⟨R, hR⟩ : ∃ R, rdM M2 (16 + (q : Int)) = R := ⟨_, rfl⟩
                  have sq := strA_at (rdM M2) hqlt
                  rw [hR] at sq
                  obtain ⟨O, hcw, -⟩ := id LL
                  have cr := caRead_any hcw (16 + (q : Int)) (wfZ_of (by omega))
                  rw [hR, H2.out.rdE (by omega) (by omega)] at cr
                  clear hcw hR
                  go_wp2_with fail
                  refine cr.mono ?_
                  rintro e w8 ⟨v8, rfl, r8, f8⟩
                  obtain ⟨A8, c8, rfl, -, -, -, -, -⟩ := r8.shape
                  have z8 := r8.rdD
                  replace LL := LL.keep f8
                  clear cr f8 r8
                  go_upto_region 37 with fail
                  obtain ⟨wD, hwD⟩ : ∃ wD, w8.drew = wD := ⟨_, rfl⟩
                  have fD : Fr [] w8 wD := by rw [← hwD]; exact (Fr.refl [] w8).drew
                  replace LL := LL.keep fD
                  have rd8 := z8.1.keep_nil fD
                  have ch := LL.blk.cell q
                  rw [sq] at ch
                  have mkS : ∀ w' : World, Fr [] wD w' → ((convert 41 9 (.slice A8 R.length c8)).run Tryz.prog w' = .ok (.string ⟨R.toArray⟩) w' ∧ w'.cell? ⟨gh, q, none⟩ = some (.string ⟨R.toArray⟩)) := fun w' f =>
                    ⟨conv_str Tryz.underlying41 Tryz.underlying5 Tryz.underlying9 w' _ R _ c8 rfl (rd8.keep_nil f) z8.2.2, f.cell (by simp) ch⟩
                  as_aux_lemma =>
                    refine wp_region_held_drew (S := fun w' => (convert 41 9 (.slice A8 R.length c8)).run Tryz.prog w' = .ok (.string ⟨R.toArray⟩) w' ∧ w'.cell? ⟨gh, q, none⟩ = some (.string ⟨R.toArray⟩)) (by kernel_rfl) (by rw [hwD]; exact mkS _ (Fr.refl _ _)) (fun hHeld => ?_)
                    rw [hwD] at hHeld ⊢
                    clear hwD fD mkS rd8 z8 ch sq
                    refine take_w 0 (some 156) (v := ?_) rfl rfl (by kernel_rfl) (by kernel_rfl) (by kernel_rfl) (fun _ _ _ h => h) (by rfl) ?_ hHeld ?_
                    rotate_left
                    · (intro w hSw; (try dsimp only at hSw); go_simp; try with_reducible rfl)
                    simp only [Act.put, List.setIfInBounds_toArray, List.set_cons_zero, List.set_cons_succ]
                    refine take_w 1 (some 157) (v := ?_) rfl rfl (by kernel_rfl) (by kernel_rfl) (by kernel_rfl) (fun _ _ _ h => h) (by rfl) ?_ hHeld ?_
                    rotate_left
                    · (intro w hSw; (try dsimp only at hSw); go_simp; try with_reducible rfl)
                    simp only [Act.put, List.setIfInBounds_toArray, List.set_cons_zero, List.set_cons_succ]
                    refine take_w 2 (some 158) (v := ?_) rfl rfl (by kernel_rfl) (by kernel_rfl) (by kernel_rfl) (fun _ _ _ h => h) (by rfl) ?_ hHeld ?_
                    rotate_left
                    · (intro w hSw; (try dsimp only at hSw); go_simp; try with_reducible rfl)
                    simp only [Act.put, List.setIfInBounds_toArray, List.set_cons_zero, List.set_cons_succ]
                    refine take_w 3 (some 159) (v := ?_) rfl rfl (by kernel_rfl) (by kernel_rfl) (by kernel_rfl) (fun _ _ _ h => h) (by rfl) ?_ hHeld ?_
                    rotate_left
                    · (intro w hSw; (try dsimp only at hSw); go_simp; try with_reducible rfl)
                    simp only [Act.put, List.setIfInBounds_toArray, List.set_cons_zero, List.set_cons_succ]
                    refine take_w 4 (some 160) (v := ?_) rfl rfl (by kernel_rfl) (by kernel_rfl) (by kernel_rfl) (fun _ _ _ h => h) (by rfl) ?_ hHeld ?_
                    rotate_left
                    · (intro w hSw; (try dsimp only at hSw); go_simp; try with_reducible rfl)
                    simp only [Act.put, List.setIfInBounds_toArray, List.set_cons_zero, List.set_cons_succ]
                    refine take_w 5 (some 161) (v := ?_) rfl rfl (by kernel_rfl) (by kernel_rfl) (by kernel_rfl) (fun _ _ _ h => h) (by rfl) ?_ hHeld ?_
                    rotate_left
                    · (intro w hSw; (try dsimp only at hSw); go_simp; try with_reducible rfl)
                    simp only [Act.put, List.setIfInBounds_toArray, List.set_cons_zero, List.set_cons_succ]
                    refine take_w 6 (some 162) (v := ?_) rfl rfl (by kernel_rfl) (by kernel_rfl) (by kernel_rfl) (fun _ _ _ h => h) (by rfl) ?_ hHeld ?_
                    rotate_left
                    · (intro w hSw; (try dsimp only at hSw); go_simp; try with_reducible rfl)
                    simp only [Act.put, List.setIfInBounds_toArray, List.set_cons_zero, List.set_cons_succ]
                    refine take_w 7 (some 163) (v := ?_) rfl rfl (by kernel_rfl) (by kernel_rfl) (by kernel_rfl) (fun _ _ _ h => h) (by rfl) ?_ hHeld ?_
                    rotate_left
                    · (intro w hSw; (try dsimp only at hSw); go_simp; try with_reducible rfl)
                    simp only [Act.put, List.setIfInBounds_toArray, List.set_cons_zero, List.set_cons_succ]
                    refine take_w 8 (some 164) (v := ?_) rfl rfl (by kernel_rfl) (by kernel_rfl) (by kernel_rfl) (fun _ _ _ h => h) (by rfl) ?_ hHeld ?_
                    rotate_left
                    · (intro w hSw; (try dsimp only at hSw); go_simp; try with_reducible rfl)
                    simp only [Act.put, List.setIfInBounds_toArray, List.set_cons_zero, List.set_cons_succ]
                    refine take_w 9 (some 165) (v := ?_) rfl rfl (by kernel_rfl) (by kernel_rfl) (by kernel_rfl) (fun _ _ _ h => h) (by rfl) ?_ hHeld ?_
                    rotate_left
                    · (intro w hSw; (try dsimp only at hSw); go_simp; try with_reducible rfl)
                    simp only [Act.put, List.setIfInBounds_toArray, List.set_cons_zero, List.set_cons_succ]
                    refine take_w 10 (some 166) (v := ?_) rfl rfl (by kernel_rfl) (by kernel_rfl) (by kernel_rfl) (fun _ _ _ h => h) (by rfl) ?_ hHeld ?_
                    rotate_left
                    · (intro w hSw; (try dsimp only at hSw); go_simp; try with_reducible rfl)
                    simp only [Act.put, List.setIfInBounds_toArray, List.set_cons_zero, List.set_cons_succ]
                    refine wpAnyH_done (by kernel_rfl) ?_ _
                    go_wp2_with fail
                    exact ⟨⟨q + 1, by omega, by go_num, LL⟩, by simp [intOf]; omega⟩
                · have dq : ¬ ((q : Int) < 24) := by omega
                  go_wp2_with fail
                  exact ⟨⟨k + 1, by omega, by omega, by go_num, M2, H2.out, LL⟩, by simp [intOf]; omega⟩
          · have dk1 : (kd == 1) = false := by simpa using k1
            by_cases k3 : kd = 3
            · subst k3
              obtain ⟨hf, hr⟩ := HH.out.flush
              obtain ⟨M2, hM2⟩ : ∃ M2, ({ M with D := M.D.flush } : CaM) = M2 := ⟨_, rfl⟩
              have cf := LL.flush hK HH.out
              rw [hM2] at hf hr cf
              have H2 := Lib.hid hf
              have HR := Lib.hid (strA_congr (f := rdM M) (g := rdM M2) fun x _ _ => (hr x).symm)
              clear LL hM2 hf hr
              go_wp2_with fail
              refine cf.mono ?_
              rintro e w6 ⟨rfl, LL⟩
              rw [HR.out] at LL
              clear cf
              go_wp2_with fail
              have hLR := Lib.hid LL
              clear LL
              go_loopw [12] (fun i wr => ∃ m : Nat, m ≤ 24 ∧ i = .int .i64 m ∧ LCb W wr P M2 gh (strA (rdM M2))) (fun i _ => 24 - (intOf i).toNat)
              case atStart => exact ⟨0, by omega, rfl, hLR.out⟩
              case round =>
                clear hLR
                obtain ⟨q, hq, rfl, LL⟩ := hrel
                by_cases hqlt : q < 24
                · have dq : (q : Int) < 24 := by omega
                  have e16 : IntKind.i64.wrap (16 + (q : Int)) = 16 + (q : Int) := IntWalk.i64_in _ (by omega)
                  obtain ⟨R, hR⟩ : ∃ R, rdM M2 (16 + (q : Int)) = R := ⟨_, rfl⟩
                  have sq := strA_at (rdM M2) hqlt
                  rw [hR] at sq
                  obtain ⟨O, hcw, -⟩ := id LL
                  have cr := caRead_any hcw (16 + (q : Int)) (wfZ_of (by omega))
                  rw [hR, H2.out.rdE (by omega) (by omega)] at cr
                  clear hcw hR
                  go_wp2_with fail
                  refine cr.mono ?_
                  rintro e w8 ⟨v8, rfl, r8, f8⟩
                  obtain ⟨A8, c8, rfl, -, -, -, -, -⟩ := r8.shape
                  have z8 := r8.rdD
                  replace LL := LL.keep f8
                  clear cr f8 r8
                  go_upto_region 37 with fail
                  obtain ⟨wD, hwD⟩ : ∃ wD, w8.drew = wD := ⟨_, rfl⟩
                  have fD : Fr [] w8 wD := by rw [← hwD]; exact (Fr.refl [] w8).drew
                  replace LL := LL.keep fD
                  have rd8 := z8.1.keep_nil fD
                  have ch := LL.blk.cell q
                  rw [sq] at ch
                  have mkS : ∀ w' : World, Fr [] wD w' → ((convert 41 9 (.slice A8 R.length c8)).run Tryz.prog w' = .ok (.string ⟨R.toArray⟩) w' ∧ w'.cell? ⟨gh, q, none⟩ = some (.string ⟨R.toArray⟩)) := fun w' f =>
                    ⟨conv_str Tryz.underlying41 Tryz.underlying5 Tryz.underlying9 w' _ R _ c8 rfl (rd8.keep_nil f) z8.2.2, f.cell (by simp) ch⟩
                  as_aux_lemma =>
                    refine wp_region_held_drew (S := fun w' => (convert 41 9 (.slice A8 R.length c8)).run Tryz.prog w' = .ok (.string ⟨R.toArray⟩) w' ∧ w'.cell? ⟨gh, q, none⟩ = some (.string ⟨R.toArray⟩)) (by kernel_rfl) (by rw [hwD]; exact mkS _ (Fr.refl _ _)) (fun hHeld => ?_)
                    rw [hwD] at hHeld ⊢
                    clear hwD fD mkS rd8 z8 ch sq
                    refine take_w 0 (some 156) (v := ?_) rfl rfl (by kernel_rfl) (by kernel_rfl) (by kernel_rfl) (fun _ _ _ h => h) (by rfl) ?_ hHeld ?_
                    rotate_left
                    · (intro w hSw; (try dsimp only at hSw); go_simp; try with_reducible rfl)
                    simp only [Act.put, List.setIfInBounds_toArray, List.set_cons_zero, List.set_cons_succ]
                    refine take_w 1 (some 157) (v := ?_) rfl rfl (by kernel_rfl) (by kernel_rfl) (by kernel_rfl) (fun _ _ _ h => h) (by rfl) ?_ hHeld ?_
                    rotate_left
                    · (intro w hSw; (try dsimp only at hSw); go_simp; try with_reducible rfl)
                    simp only [Act.put, List.setIfInBounds_toArray, List.set_cons_zero, List.set_cons_succ]
                    refine take_w 2 (some 158) (v := ?_) rfl rfl (by kernel_rfl) (by kernel_rfl) (by kernel_rfl) (fun _ _ _ h => h) (by rfl) ?_ hHeld ?_
                    rotate_left
                    · (intro w hSw; (try dsimp only at hSw); go_simp; try with_reducible rfl)
                    simp only [Act.put, List.setIfInBounds_toArray, List.set_cons_zero, List.set_cons_succ]
                    refine take_w 3 (some 159) (v := ?_) rfl rfl (by kernel_rfl) (by kernel_rfl) (by kernel_rfl) (fun _ _ _ h => h) (by rfl) ?_ hHeld ?_
                    rotate_left
                    · (intro w hSw; (try dsimp only at hSw); go_simp; try with_reducible rfl)
                    simp only [Act.put, List.setIfInBounds_toArray, List.set_cons_zero, List.set_cons_succ]
                    refine take_w 4 (some 160) (v := ?_) rfl rfl (by kernel_rfl) (by kernel_rfl) (by kernel_rfl) (fun _ _ _ h => h) (by rfl) ?_ hHeld ?_
                    rotate_left
                    · (intro w hSw; (try dsimp only at hSw); go_simp; try with_reducible rfl)
                    simp only [Act.put, List.setIfInBounds_toArray, List.set_cons_zero, List.set_cons_succ]
                    refine take_w 5 (some 161) (v := ?_) rfl rfl (by kernel_rfl) (by kernel_rfl) (by kernel_rfl) (fun _ _ _ h => h) (by rfl) ?_ hHeld ?_
                    rotate_left
                    · (intro w hSw; (try dsimp only at hSw); go_simp; try with_reducible rfl)
                    simp only [Act.put, List.setIfInBounds_toArray, List.set_cons_zero, List.set_cons_succ]
                    refine take_w 6 (some 162) (v := ?_) rfl rfl (by kernel_rfl) (by kernel_rfl) (by kernel_rfl) (fun _ _ _ h => h) (by rfl) ?_ hHeld ?_
                    rotate_left
                    · (intro w hSw; (try dsimp only at hSw); go_simp; try with_reducible rfl)
                    simp only [Act.put, List.setIfInBounds_toArray, List.set_cons_zero, List.set_cons_succ]
                    refine take_w 7 (some 163) (v := ?_) rfl rfl (by kernel_rfl) (by kernel_rfl) (by kernel_rfl) (fun _ _ _ h => h) (by rfl) ?_ hHeld ?_
                    rotate_left
                    · (intro w hSw; (try dsimp only at hSw); go_simp; try with_reducible rfl)
                    simp only [Act.put, List.setIfInBounds_toArray, List.set_cons_zero, List.set_cons_succ]
                    refine take_w 8 (some 164) (v := ?_) rfl rfl (by kernel_rfl) (by kernel_rfl) (by kernel_rfl) (fun _ _ _ h => h) (by rfl) ?_ hHeld ?_
                    rotate_left
                    · (intro w hSw; (try dsimp only at hSw); go_simp; try with_reducible rfl)
                    simp only [Act.put, List.setIfInBounds_toArray, List.set_cons_zero, List.set_cons_succ]
                    refine take_w 9 (some 165) (v := ?_) rfl rfl (by kernel_rfl) (by kernel_rfl) (by kernel_rfl) (fun _ _ _ h => h) (by rfl) ?_ hHeld ?_
                    rotate_left
                    · (intro w hSw; (try dsimp only at hSw); go_simp; try with_reducible rfl)
                    simp only [Act.put, List.setIfInBounds_toArray, List.set_cons_zero, List.set_cons_succ]
                    refine take_w 10 (some 166) (v := ?_) rfl rfl (by kernel_rfl) (by kernel_rfl) (by kernel_rfl) (fun _ _ _ h => h) (by rfl) ?_ hHeld ?_
                    rotate_left
                    · (intro w hSw; (try dsimp only at hSw); go_simp; try with_reducible rfl)
                    simp only [Act.put, List.setIfInBounds_toArray, List.set_cons_zero, List.set_cons_succ]
                    refine wpAnyH_done (by kernel_rfl) ?_ _
                    go_wp2_with fail
                    exact ⟨⟨q + 1, by omega, by go_num, LL⟩, by simp [intOf]; omega⟩
                · have dq : ¬ ((q : Int) < 24) := by omega
                  go_wp2_with fail
                  exact ⟨⟨k + 1, by omega, by omega, by go_num, M2, H2.out, LL⟩, by simp [intOf]; omega⟩
            · have dk3 : (kd == 3) = false := by simpa using k3
              by_cases k4 : kd = 4
              · subst k4
                obtain ⟨hf, hu, hkz, hr⟩ := HH.out.check (by omega)
                have cf := LL.check hK HH.out (by omega)
                obtain ⟨M2, hM2⟩ : ∃ M2, chkC M = M2 := ⟨_, rfl⟩
                rw [hM2] at hf hu hkz hr cf
                have H2 := Lib.hid hf
                have HU := Lib.hid (And.intro hu hkz)
                have HR := Lib.hid (strA_congr (f := rdM M) (g := rdM M2) fun x h1 _ => (hr x h1).symm)
                clear LL hM2 hf hr hu hkz
                go_wp2_with fail
                refine cf.mono ?_
                rintro e w6 ⟨rfl, LL⟩
                rw [HR.out] at LL
                obtain ⟨O, hcw, -⟩ := id LL
                have cu := caUsed_any hcw
                rw [HU.out.1] at cu
                clear cf
                go_wp2_with fail
                refine cu.mono ?_
                rintro e w' ⟨rfl, rfl⟩
                obtain ⟨fv, hsr, hdv⟩ := hcw.srt
                have hkl := keyL_dirty hdv
                rw [HU.out.2] at hkl
                have cd := caDirty_at hcw.c2 hsr hkl (Nat.le_refl _)
                clear cu hcw hsr hdv hkl
                go_wp2_with fail
                refine cd.mono ?_
                rintro e w7 ⟨v7, rfl, r7, f7⟩
                obtain ⟨A7, c7, rfl, -⟩ := r7.shape
                replace LL := LL.keep f7
                clear cd r7 f7
                go_wp2_with fail
                have hLR := Lib.hid LL
                clear LL
                go_loopw [12] (fun i wr => ∃ m : Nat, m ≤ 24 ∧ i = .int .i64 m ∧ LCb W wr P M2 gh (strA (rdM M2))) (fun i _ => 24 - (intOf i).toNat)
                case atStart => exact ⟨0, by omega, rfl, hLR.out⟩
                case round =>
                  clear hLR
                  obtain ⟨q, hq, rfl, LL⟩ := hrel
                  by_cases hqlt : q < 24
                  · have dq : (q : Int) < 24 := by omega
                    have e16 : IntKind.i64.wrap (16 + (q : Int)) = 16 + (q : Int) := IntWalk.i64_in _ (by omega)
                    obtain ⟨R, hR⟩ : ∃ R, rdM M2 (16 + (q : Int)) = R := ⟨_, rfl⟩
                    have sq := strA_at (rdM M2) hqlt
                    rw [hR] at sq
                    obtain ⟨O, hcw, -⟩ := id LL
                    have cr := caRead_any hcw (16 + (q : Int)) (wfZ_of (by omega))
                    rw [hR, H2.out.rdE (by omega) (by omega)] at cr
                    clear hcw hR
                    go_wp2_with fail
                    refine cr.mono ?_
                    rintro e w8 ⟨v8, rfl, r8, f8⟩
                    obtain ⟨A8, c8, rfl, -, -, -, -, -⟩ := r8.shape
                    have z8 := r8.rdD
                    replace LL := LL.keep f8
                    clear cr f8 r8
                    go_upto_region 37 with fail
                    obtain ⟨wD, hwD⟩ : ∃ wD, w8.drew = wD := ⟨_, rfl⟩
                    have fD : Fr [] w8 wD := by rw [← hwD]; exact (Fr.refl [] w8).drew
                    replace LL := LL.keep fD
                    have rd8 := z8.1.keep_nil fD
                    have ch := LL.blk.cell q
                    rw [sq] at ch
                    have mkS : ∀ w' : World, Fr [] wD w' → ((convert 41 9 (.slice A8 R.length c8)).run Tryz.prog w' = .ok (.string ⟨R.toArray⟩) w' ∧ w'.cell? ⟨gh, q, none⟩ = some (.string ⟨R.toArray⟩)) := fun w' f =>
                      ⟨conv_str Tryz.underlying41 Tryz.underlying5 Tryz.underlying9 w' _ R _ c8 rfl (rd8.keep_nil f) z8.2.2, f.cell (by simp) ch⟩
                    as_aux_lemma =>
                      refine wp_region_held_drew (S := fun w' => (convert 41 9 (.slice A8 R.length c8)).run Tryz.prog w' = .ok (.string ⟨R.toArray⟩) w' ∧ w'.cell? ⟨gh, q, none⟩ = some (.string ⟨R.toArray⟩)) (by kernel_rfl) (by rw [hwD]; exact mkS _ (Fr.refl _ _)) (fun hHeld => ?_)
                      rw [hwD] at hHeld ⊢
                      clear hwD fD mkS rd8 z8 ch sq
                      refine take_w 0 (some 156) (v := ?_) rfl rfl (by kernel_rfl) (by kernel_rfl) (by kernel_rfl) (fun _ _ _ h => h) (by rfl) ?_ hHeld ?_
                      rotate_left
                      · (intro w hSw; (try dsimp only at hSw); go_simp; try with_reducible rfl)
                      simp only [Act.put, List.setIfInBounds_toArray, List.set_cons_zero, List.set_cons_succ]
                      refine take_w 1 (some 157) (v := ?_) rfl rfl (by kernel_rfl) (by kernel_rfl) (by kernel_rfl) (fun _ _ _ h => h) (by rfl) ?_ hHeld ?_
                      rotate_left
                      · (intro w hSw; (try dsimp only at hSw); go_simp; try with_reducible rfl)
                      simp only [Act.put, List.setIfInBounds_toArray, List.set_cons_zero, List.set_cons_succ]
                      refine take_w 2 (some 158) (v := ?_) rfl rfl (by kernel_rfl) (by kernel_rfl) (by kernel_rfl) (fun _ _ _ h => h) (by rfl) ?_ hHeld ?_
                      rotate_left
                      · (intro w hSw; (try dsimp only at hSw); go_simp; try with_reducible rfl)
                      simp only [Act.put, List.setIfInBounds_toArray, List.set_cons_zero, List.set_cons_succ]
                      refine take_w 3 (some 159) (v := ?_) rfl rfl (by kernel_rfl) (by kernel_rfl) (by kernel_rfl) (fun _ _ _ h => h) (by rfl) ?_ hHeld ?_
                      rotate_left
                      · (intro w hSw; (try dsimp only at hSw); go_simp; try with_reducible rfl)
                      simp only [Act.put, List.setIfInBounds_toArray, List.set_cons_zero, List.set_cons_succ]
                      refine take_w 4 (some 160) (v := ?_) rfl rfl (by kernel_rfl) (by kernel_rfl) (by kernel_rfl) (fun _ _ _ h => h) (by rfl) ?_ hHeld ?_
                      rotate_left
                      · (intro w hSw; (try dsimp only at hSw); go_simp; try with_reducible rfl)
                      simp only [Act.put, List.setIfInBounds_toArray, List.set_cons_zero, List.set_cons_succ]
                      refine take_w 5 (some 161) (v := ?_) rfl rfl (by kernel_rfl) (by kernel_rfl) (by kernel_rfl) (fun _ _ _ h => h) (by rfl) ?_ hHeld ?_
                      rotate_left
                      · (intro w hSw; (try dsimp only at hSw); go_simp; try with_reducible rfl)
                      simp only [Act.put, List.setIfInBounds_toArray, List.set_cons_zero, List.set_cons_succ]
                      refine take_w 6 (some 162) (v := ?_) rfl rfl (by kernel_rfl) (by kernel_rfl) (by kernel_rfl) (fun _ _ _ h => h) (by rfl) ?_ hHeld ?_
                      rotate_left
                      · (intro w hSw; (try dsimp only at hSw); go_simp; try with_reducible rfl)
                      simp only [Act.put, List.setIfInBounds_toArray, List.set_cons_zero, List.set_cons_succ]
                      refine take_w 7 (some 163) (v := ?_) rfl rfl (by kernel_rfl) (by kernel_rfl) (by kernel_rfl) (fun _ _ _ h => h) (by rfl) ?_ hHeld ?_
                      rotate_left
                      · (intro w hSw; (try dsimp only at hSw); go_simp; try with_reducible rfl)
                      simp only [Act.put, List.setIfInBounds_toArray, List.set_cons_zero, List.set_cons_succ]
                      refine take_w 8 (some 164) (v := ?_) rfl rfl (by kernel_rfl) (by kernel_rfl) (by kernel_rfl) (fun _ _ _ h => h) (by rfl) ?_ hHeld ?_
                      rotate_left
                      · (intro w hSw; (try dsimp only at hSw); go_simp; try with_reducible rfl)
                      simp only [Act.put, List.setIfInBounds_toArray, List.set_cons_zero, List.set_cons_succ]
                      refine take_w 9 (some 165) (v := ?_) rfl rfl (by kernel_rfl) (by kernel_rfl) (by kernel_rfl) (fun _ _ _ h => h) (by rfl) ?_ hHeld ?_
                      rotate_left
                      · (intro w hSw; (try dsimp only at hSw); go_simp; try with_reducible rfl)
                      simp only [Act.put, List.setIfInBounds_toArray, List.set_cons_zero, List.set_cons_succ]
                      refine take_w 10 (some 166) (v := ?_) rfl rfl (by kernel_rfl) (by kernel_rfl) (by kernel_rfl) (fun _ _ _ h => h) (by rfl) ?_ hHeld ?_
                      rotate_left
                      · (intro w hSw; (try dsimp only at hSw); go_simp; try with_reducible rfl)
                      simp only [Act.put, List.setIfInBounds_toArray, List.set_cons_zero, List.set_cons_succ]
                      refine wpAnyH_done (by kernel_rfl) ?_ _
                      go_wp2_with fail
                      exact ⟨⟨q + 1, by omega, by go_num, LL⟩, by simp [intOf]; omega⟩
                  · have dq : ¬ ((q : Int) < 24) := by omega
                    go_wp2_with fail
                    exact ⟨⟨k + 1, by omega, by omega, by go_num, M2, H2.out, LL⟩, by simp [intOf]; omega⟩
              · have dk4 : (kd == 4) = false := by simpa using k4
                by_cases k5 : kd = 5
                · subst k5
                  obtain ⟨hf, hr⟩ := HH.out.clean16 (by omega)
                  have cf := LL.clean hK HH.out (by omega)
                  obtain ⟨M2, hM2⟩ : ∃ M2, cleanM M = M2 := ⟨_, rfl⟩
                  rw [hM2] at hf hr cf
                  have H2 := Lib.hid hf
                  have HR := Lib.hid (strA_congr (f := rdM M) (g := rdM M2) fun x h1 _ => (hr x h1).symm)
                  clear LL hM2 hf hr
                  go_wp2_with fail
                  refine cf.mono ?_
                  rintro e w6 ⟨rfl, LL⟩
                  rw [HR.out] at LL
                  clear cf
                  go_wp2_with fail
                  have hLR := Lib.hid LL
                  clear LL
                  go_loopw [12] (fun i wr => ∃ m : Nat, m ≤ 24 ∧ i = .int .i64 m ∧ LCb W wr P M2 gh (strA (rdM M2))) (fun i _ => 24 - (intOf i).toNat)
                  case atStart => exact ⟨0, by omega, rfl, hLR.out⟩
                  case round =>
                    clear hLR
                    obtain ⟨q, hq, rfl, LL⟩ := hrel
                    by_cases hqlt : q < 24
                    · have dq : (q : Int) < 24 := by omega
                      have e16 : IntKind.i64.wrap (16 + (q : Int)) = 16 + (q : Int) := IntWalk.i64_in _ (by omega)
                      obtain ⟨R, hR⟩ : ∃ R, rdM M2 (16 + (q : Int)) = R := ⟨_, rfl⟩
                      have sq := strA_at (rdM M2) hqlt
                      rw [hR] at sq
                      obtain ⟨O, hcw, -⟩ := id LL
                      have cr := caRead_any hcw (16 + (q : Int)) (wfZ_of (by omega))
                      rw [hR, H2.out.rdE (by omega) (by omega)] at cr
                      clear hcw hR
                      go_wp2_with fail
                      refine cr.mono ?_
                      rintro e w8 ⟨v8, rfl, r8, f8⟩
                      obtain ⟨A8, c8, rfl, -, -, -, -, -⟩ := r8.shape
                      have z8 := r8.rdD
                      replace LL := LL.keep f8
                      clear cr f8 r8
                      go_upto_region 37 with fail
                      obtain ⟨wD, hwD⟩ : ∃ wD, w8.drew = wD := ⟨_, rfl⟩
                      have fD : Fr [] w8 wD := by rw [← hwD]; exact (Fr.refl [] w8).drew
                      replace LL := LL.keep fD
                      have rd8 := z8.1.keep_nil fD
                      have ch := LL.blk.cell q
                      rw [sq] at ch
                      have mkS : ∀ w' : World, Fr [] wD w' → ((convert 41 9 (.slice A8 R.length c8)).run Tryz.prog w' = .ok (.string ⟨R.toArray⟩) w' ∧ w'.cell? ⟨gh, q, none⟩ = some (.string ⟨R.toArray⟩)) := fun w' f =>
                        ⟨conv_str Tryz.underlying41 Tryz.underlying5 Tryz.underlying9 w' _ R _ c8 rfl (rd8.keep_nil f) z8.2.2, f.cell (by simp) ch⟩
                      as_aux_lemma =>
                        refine wp_region_held_drew (S := fun w' => (convert 41 9 (.slice A8 R.length c8)).run Tryz.prog w' = .ok (.string ⟨R.toArray⟩) w' ∧ w'.cell? ⟨gh, q, none⟩ = some (.string ⟨R.toArray⟩)) (by kernel_rfl) (by rw [hwD]; exact mkS _ (Fr.refl _ _)) (fun hHeld => ?_)
                        rw [hwD] at hHeld ⊢
                        clear hwD fD mkS rd8 z8 ch sq
                        refine take_w 0 (some 156) (v := ?_) rfl rfl (by kernel_rfl) (by kernel_rfl) (by kernel_rfl) (fun _ _ _ h => h) (by rfl) ?_ hHeld ?_
                        rotate_left
                        · (intro w hSw; (try dsimp only at hSw); go_simp; try with_reducible rfl)
                        simp only [Act.put, List.setIfInBounds_toArray, List.set_cons_zero, List.set_cons_succ]
                        refine take_w 1 (some 157) (v := ?_) rfl rfl (by kernel_rfl) (by kernel_rfl) (by kernel_rfl) (fun _ _ _ h => h) (by rfl) ?_ hHeld ?_
                        rotate_left
                        · (intro w hSw; (try dsimp only at hSw); go_simp; try with_reducible rfl)
                        simp only [Act.put, List.setIfInBounds_toArray, List.set_cons_zero, List.set_cons_succ]
                        refine take_w 2 (some 158) (v := ?_) rfl rfl (by kernel_rfl) (by kernel_rfl) (by kernel_rfl) (fun _ _ _ h => h) (by rfl) ?_ hHeld ?_
                        rotate_left
                        · (intro w hSw; (try dsimp only at hSw); go_simp; try with_reducible rfl)
                        simp only [Act.put, List.setIfInBounds_toArray, List.set_cons_zero, List.set_cons_succ]
                        refine take_w 3 (some 159) (v := ?_) rfl rfl (by kernel_rfl) (by kernel_rfl) (by kernel_rfl) (fun _ _ _ h => h) (by rfl) ?_ hHeld ?_
                        rotate_left
                        · (intro w hSw; (try dsimp only at hSw); go_simp; try with_reducible rfl)
                        simp only [Act.put, List.setIfInBounds_toArray, List.set_cons_zero, List.set_cons_succ]
                        refine take_w 4 (some 160) (v := ?_) rfl rfl (by kernel_rfl) (by kernel_rfl) (by kernel_rfl) (fun _ _ _ h => h) (by rfl) ?_ hHeld ?_
                        rotate_left
                        · (intro w hSw; (try dsimp only at hSw); go_simp; try with_reducible rfl)
                        simp only [Act.put, List.setIfInBounds_toArray, List.set_cons_zero, List.set_cons_succ]
                        refine take_w 5 (some 161) (v := ?_) rfl rfl (by kernel_rfl) (by kernel_rfl) (by kernel_rfl) (fun _ _ _ h => h) (by rfl) ?_ hHeld ?_
                        rotate_left
                        · (intro w hSw; (try dsimp only at hSw); go_simp; try with_reducible rfl)
                        simp only [Act.put, List.setIfInBounds_toArray, List.set_cons_zero, List.set_cons_succ]
                        refine take_w 6 (some 162) (v := ?_) rfl rfl (by kernel_rfl) (by kernel_rfl) (by kernel_rfl) (fun _ _ _ h => h) (by rfl) ?_ hHeld ?_
                        rotate_left
                        · (intro w hSw; (try dsimp only at hSw); go_simp; try with_reducible rfl)
                        simp only [Act.put, List.setIfInBounds_toArray, List.set_cons_zero, List.set_cons_succ]
                        refine take_w 7 (some 163) (v := ?_) rfl rfl (by kernel_rfl) (by kernel_rfl) (by kernel_rfl) (fun _ _ _ h => h) (by rfl) ?_ hHeld ?_
                        rotate_left
                        · (intro w hSw; (try dsimp only at hSw); go_simp; try with_reducible rfl)
                        simp only [Act.put, List.setIfInBounds_toArray, List.set_cons_zero, List.set_cons_succ]
                        refine take_w 8 (some 164) (v := ?_) rfl rfl (by kernel_rfl) (by kernel_rfl) (by kernel_rfl) (fun _ _ _ h => h) (by rfl) ?_ hHeld ?_
                        rotate_left
                        · (intro w hSw; (try dsimp only at hSw); go_simp; try with_reducible rfl)
                        simp only [Act.put, List.setIfInBounds_toArray, List.set_cons_zero, List.set_cons_succ]
                        refine take_w 9 (some 165) (v := ?_) rfl rfl (by kernel_rfl) (by kernel_rfl) (by kernel_rfl) (fun _ _ _ h => h) (by rfl) ?_ hHeld ?_
                        rotate_left
                        · (intro w hSw; (try dsimp only at hSw); go_simp; try with_reducible rfl)
                        simp only [Act.put, List.setIfInBounds_toArray, List.set_cons_zero, List.set_cons_succ]
                        refine take_w 10 (some 166) (v := ?_) rfl rfl (by kernel_rfl) (by kernel_rfl) (by kernel_rfl) (fun _ _ _ h => h) (by rfl) ?_ hHeld ?_
                        rotate_left
                        · (intro w hSw; (try dsimp only at hSw); go_simp; try with_reducible rfl)
                        simp only [Act.put, List.setIfInBounds_toArray, List.set_cons_zero, List.set_cons_succ]
                        refine wpAnyH_done (by kernel_rfl) ?_ _
                        go_wp2_with fail
                        exact ⟨⟨q + 1, by omega, by go_num, LL⟩, by simp [intOf]; omega⟩
                    · have dq : ¬ ((q : Int) < 24) := by omega
                      go_wp2_with fail
                      exact ⟨⟨k + 1, by omega, by omega, by go_num, M2, H2.out, LL⟩, by simp [intOf]; omega⟩
                · have dk5 : (kd == 5) = false := by simpa using k5
                  have H2 := Lib.hid (HH.out.le (show k ≤ k + 1 by omega))
                  go_wp2_with fail
                  have hLR := Lib.hid LL
                  clear LL
                  go_loopw [12] (fun i wr => ∃ m : Nat, m ≤ 24 ∧ i = .int .i64 m ∧ LCb W wr P M gh (strA (rdM M))) (fun i _ => 24 - (intOf i).toNat)
                  case atStart => exact ⟨0, by omega, rfl, hLR.out⟩
                  case round =>
                    clear hLR
                    obtain ⟨q, hq, rfl, LL⟩ := hrel
                    by_cases hqlt : q < 24
                    · have dq : (q : Int) < 24 := by omega
                      have e16 : IntKind.i64.wrap (16 + (q : Int)) = 16 + (q : Int) := IntWalk.i64_in _ (by omega)
                      obtain ⟨R, hR⟩ : ∃ R, rdM M (16 + (q : Int)) = R := ⟨_, rfl⟩
                      have sq := strA_at (rdM M) hqlt
                      rw [hR] at sq
                      obtain ⟨O, hcw, -⟩ := id LL
                      have cr := caRead_any hcw (16 + (q : Int)) (wfZ_of (by omega))
                      rw [hR, H2.out.rdE (by omega) (by omega)] at cr
                      clear hcw hR
                      go_wp2_with fail
                      refine cr.mono ?_
                      rintro e w8 ⟨v8, rfl, r8, f8⟩
                      obtain ⟨A8, c8, rfl, -, -, -, -, -⟩ := r8.shape
                      have z8 := r8.rdD
                      replace LL := LL.keep f8
                      clear cr f8 r8
                      go_upto_region 37 with fail
                      obtain ⟨wD, hwD⟩ : ∃ wD, w8.drew = wD := ⟨_, rfl⟩
                      have fD : Fr [] w8 wD := by rw [← hwD]; exact (Fr.refl [] w8).drew
                      replace LL := LL.keep fD
                      have rd8 := z8.1.keep_nil fD
                      have ch := LL.blk.cell q
                      rw [sq] at ch
                      have mkS : ∀ w' : World, Fr [] wD w' → ((convert 41 9 (.slice A8 R.length c8)).run Tryz.prog w' = .ok (.string ⟨R.toArray⟩) w' ∧ w'.cell? ⟨gh, q, none⟩ = some (.string ⟨R.toArray⟩)) := fun w' f =>
                        ⟨conv_str Tryz.underlying41 Tryz.underlying5 Tryz.underlying9 w' _ R _ c8 rfl (rd8.keep_nil f) z8.2.2, f.cell (by simp) ch⟩
                      as_aux_lemma =>
                        refine wp_region_held_drew (S := fun w' => (convert 41 9 (.slice A8 R.length c8)).run Tryz.prog w' = .ok (.string ⟨R.toArray⟩) w' ∧ w'.cell? ⟨gh, q, none⟩ = some (.string ⟨R.toArray⟩)) (by kernel_rfl) (by rw [hwD]; exact mkS _ (Fr.refl _ _)) (fun hHeld => ?_)
                        rw [hwD] at hHeld ⊢
                        clear hwD fD mkS rd8 z8 ch sq
                        refine take_w 0 (some 156) (v := ?_) rfl rfl (by kernel_rfl) (by kernel_rfl) (by kernel_rfl) (fun _ _ _ h => h) (by rfl) ?_ hHeld ?_
                        rotate_left
                        · (intro w hSw; (try dsimp only at hSw); go_simp; try with_reducible rfl)
                        simp only [Act.put, List.setIfInBounds_toArray, List.set_cons_zero, List.set_cons_succ]
                        refine take_w 1 (some 157) (v := ?_) rfl rfl (by kernel_rfl) (by kernel_rfl) (by kernel_rfl) (fun _ _ _ h => h) (by rfl) ?_ hHeld ?_
                        rotate_left
                        · (intro w hSw; (try dsimp only at hSw); go_simp; try with_reducible rfl)
                        simp only [Act.put, List.setIfInBounds_toArray, List.set_cons_zero, List.set_cons_succ]
                        refine take_w 2 (some 158) (v := ?_) rfl rfl (by kernel_rfl) (by kernel_rfl) (by kernel_rfl) (fun _ _ _ h => h) (by rfl) ?_ hHeld ?_
                        rotate_left
                        · (intro w hSw; (try dsimp only at hSw); go_simp; try with_reducible rfl)
                        simp only [Act.put, List.setIfInBounds_toArray, List.set_cons_zero, List.set_cons_succ]
                        refine take_w 3 (some 159) (v := ?_) rfl rfl (by kernel_rfl) (by kernel_rfl) (by kernel_rfl) (fun _ _ _ h => h) (by rfl) ?_ hHeld ?_
                        rotate_left
                        · (intro w hSw; (try dsimp only at hSw); go_simp; try with_reducible rfl)
                        simp only [Act.put, List.setIfInBounds_toArray, List.set_cons_zero, List.set_cons_succ]
                        refine take_w 4 (some 160) (v := ?_) rfl rfl (by kernel_rfl) (by kernel_rfl) (by kernel_rfl) (fun _ _ _ h => h) (by rfl) ?_ hHeld ?_
                        rotate_left
                        · (intro w hSw; (try dsimp only at hSw); go_simp; try with_reducible rfl)
                        simp only [Act.put, List.setIfInBounds_toArray, List.set_cons_zero, List.set_cons_succ]
                        refine take_w 5 (some 161) (v := ?_) rfl rfl (by kernel_rfl) (by kernel_rfl) (by kernel_rfl) (fun _ _ _ h => h) (by rfl) ?_ hHeld ?_
                        rotate_left
                        · (intro w hSw; (try dsimp only at hSw); go_simp; try with_reducible rfl)
                        simp only [Act.put, List.setIfInBounds_toArray, List.set_cons_zero, List.set_cons_succ]
                        refine take_w 6 (some 162) (v := ?_) rfl rfl (by kernel_rfl) (by kernel_rfl) (by kernel_rfl) (fun _ _ _ h => h) (by rfl) ?_ hHeld ?_
                        rotate_left
                        · (intro w hSw; (try dsimp only at hSw); go_simp; try with_reducible rfl)
                        simp only [Act.put, List.setIfInBounds_toArray, List.set_cons_zero, List.set_cons_succ]
                        refine take_w 7 (some 163) (v := ?_) rfl rfl (by kernel_rfl) (by kernel_rfl) (by kernel_rfl) (fun _ _ _ h => h) (by rfl) ?_ hHeld ?_
                        rotate_left
                        · (intro w hSw; (try dsimp only at hSw); go_simp; try with_reducible rfl)
                        simp only [Act.put, List.setIfInBounds_toArray, List.set_cons_zero, List.set_cons_succ]
                        refine take_w 8 (some 164) (v := ?_) rfl rfl (by kernel_rfl) (by kernel_rfl) (by kernel_rfl) (fun _ _ _ h => h) (by rfl) ?_ hHeld ?_
                        rotate_left
                        · (intro w hSw; (try dsimp only at hSw); go_simp; try with_reducible rfl)
                        simp only [Act.put, List.setIfInBounds_toArray, List.set_cons_zero, List.set_cons_succ]
                        refine take_w 9 (some 165) (v := ?_) rfl rfl (by kernel_rfl) (by kernel_rfl) (by kernel_rfl) (fun _ _ _ h => h) (by rfl) ?_ hHeld ?_
                        rotate_left
                        · (intro w hSw; (try dsimp only at hSw); go_simp; try with_reducible rfl)
                        simp only [Act.put, List.setIfInBounds_toArray, List.set_cons_zero, List.set_cons_succ]
                        refine take_w 10 (some 166) (v := ?_) rfl rfl (by kernel_rfl) (by kernel_rfl) (by kernel_rfl) (fun _ _ _ h => h) (by rfl) ?_ hHeld ?_
                        rotate_left
                        · (intro w hSw; (try dsimp only at hSw); go_simp; try with_reducible rfl)
                        simp only [Act.put, List.setIfInBounds_toArray, List.set_cons_zero, List.set_cons_succ]
                        refine wpAnyH_done (by kernel_rfl) ?_ _
                        go_wp2_with fail
                        exact ⟨⟨q + 1, by omega, by go_num, LL⟩, by simp [intOf]; omega⟩
                    · have dq : ¬ ((q : Int) < 24) := by omega
                      go_wp2_with fail
                      exact ⟨⟨k + 1, by omega, by omega, by go_num, M, H2.out, LL⟩, by simp [intOf]; omega⟩
        · by_cases hk1' : k < n
          · have d0 : (k : Int) < n := by omega
            have d1 : ¬ (k : Int) < 60 := by omega
            go_wp2_with fail
            go_ret
            exact ⟨rfl, LL.fr⟩
          · have d0 : ¬ (k : Int) < n := by omega
            go_wp2_with fail
            go_ret
            exact ⟨rfl, LL.fr⟩
end Go.Proofs.YtamifdfkgbaobaaGreatDoor
