/-
  Texts of this claim, one behind the other: JnCh, RowL, JnNb.
-/
import Derived.Test.YtiknmcdighkclaaDoorM18
import Derived.Test.YtiknmcdighkclaaDoorRows
import Derived.ProofKit
import Derived.LaidMore
import Derived.OpenShut
import Derived.Stop.Joined
/-
  JournalChain: the walk.
-/
set_option linter.unusedSimpArgs false
set_option linter.unusedVariables false
set_option linter.unnecessarySimpa false
namespace Go.Proofs.YtiknmcdighkclaaDoor
open Go.RowKit
set_option maxRecDepth 100000

set_option maxHeartbeats 8000000 in
theorem jnChain_any (W : World) (A : Option Addr) (n c : Nat) (l : List O14) (hA : ArgO14 W A n c l) (hK : KG W) : Calls Tryd.prog 3 #[.slice A n c] W fun e w' => e = .returned (.bool true) ∧ Fr [] W w' := by
  obtain ⟨s1, s2, s3, s4, s5, s6, s7, s8⟩ := JInv.start
  obtain ⟨D1, hD1⟩ : ∃ D1, (mkE (newD 60) 0 1).2 = D1 := ⟨_, rfl⟩
  have hi0 : initE (newD 60) 0 30 = (0, D1) := by rw [initE, if_pos s2]; exact Prod.ext s1 hD1
  have hu1 : ∀ x, (D1.uns x).length ≤ 2 := fun x => by have := mkE_uns (newD 60) 0 1 x; rw [hD1] at this; have e : ((newD 60).uns x).length = 0 := rfl; omega
  have hu2 : ∀ x, ((resM D1 (openJ 0 30 1 0)).2.1.uns x).length ≤ 4 := fun x => by have := resM_uns D1 (openJ 0 30 1 0) x; have := hu1 x; omega
  rw [hD1] at s3 s4 s5 s6 s7 s8
  have S := Lib.hid (And.intro s3 (And.intro s4 (And.intro s5 (And.intro s6 (And.intro s7 (And.intro s8 (And.intro hi0 (And.intro hu1 hu2))))))))
  have HA := Lib.hid hA
  have hl := hA.len
  clear s1 s2 s3 s4 s5 s6 s7 s8 hD1 hi0 hu1 hu2 hA
  have cn := dkNew_any W 60 (by omega)
  go_enter Tryd.func3, Tryd.ntmps3
  go_wp2_with fail
  refine cn.mono ?_
  intro e w1 hn
  obtain ⟨p, rfl, h1⟩ := LV.of_new (by omega) hn
  clear cn hn
  change LV W w1 p (newD 60) at h1
  go_wp2_with fail
  refine (lives14_any w1 (hK.keep h1.fr)).mono ?_
  rintro e w2 ⟨rfl, f2⟩
  replace h1 := h1.keep f2
  clear f2
  obtain ⟨O, hd, hO, hf⟩ := h1
  have ci := jnInit_any hd 0 30 (wfZ_of (by decide)) (hK.keep hf) (fun x => by show 0 + 2 ≤ _; omega)
  rw [S.out.2.2.2.2.2.2.1] at ci
  go_wp2_with fail
  refine ci.mono ?_
  rintro e w3 ⟨rfl, ha⟩
  have h2 : LV W w3 p D1 := LV.aft hO hf ha
  clear ci ha hd hO hf
  obtain ⟨O2, hd2, hO2, hf2⟩ := h2
  have co := jnOpen_any hd2 0 30 (wfZ_of (by decide)) (hK.keep hf2)
  go_wp2_with fail
  refine co.mono ?_
  intro e w4 ho
  obtain ⟨g, v, ps, rfl, hg, hrr, hj, f3⟩ := ho.yes S.out.1 S.out.2.1 S.out.2.2.1
  rw [S.out.2.2.2.1] at hrr hj
  obtain ⟨Av, cv, rfl, -⟩ := hrr.row.shape
  have LL : LJ W w4 p g D1 (openJ 0 30 1 0) := LJ.made hd2 hO2 hf2 f3 hj hg
  clear ho hrr hj f3 hd2 hO2 hf2 co hg
  have ce := LL.reset ⟨by decide, by decide, by decide, by decide⟩ hK (fun x => by have := S.out.2.2.2.2.2.2.2.1 x; omega)
  obtain ⟨⟨z, D0, J0⟩, hz⟩ : ∃ r, resM D1 (openJ 0 30 1 0) = r := ⟨_, rfl⟩
  have S2 := Lib.hid (show z = 0 ∧ JInv D0 J0 31 [] ∧ ∀ x, (D0.uns x).length ≤ 4 by
    have a := S.out.2.2.2.2.1; have b := S.out.2.2.2.2.2.1; have d := S.out.2.2.2.2.2.2.2.2
    rw [hz] at a b d
    exact ⟨a, b, d⟩)
  rw [hz] at ce
  have hz0 := S2.out.1
  subst hz0
  clear hz
  go_wp2_with fail
  refine ce.mono ?_
  clear ce LL
  rintro e w5 ⟨rfl, LL⟩
  replace LL : LC W w5 p g D0 J0 (.slice none 0 0) [] := LC.of LL
  have hLL := Lib.hid LL
  clear LL
  go_wp2_with fail
  go_loopw [8, 9, 10] (fun v nn i wr => ∃ k : Nat, k ≤ n ∧ k ≤ 100 ∧ i = .int .i64 k ∧ ∃ D J m t N, JInv D J m t ∧ m + t.length = N ∧ nn = .int .u64 (N : Int) ∧ N ≤ 31 + k ∧ (∀ x, (D.uns x).length ≤ 4 + 67 * k) ∧ LC W wr p g D J v t.flatten) (fun _ _ i _ => n - (intOf i).toNat)
  case atStart => exact ⟨0, by omega, by omega, rfl, D0, J0, 31, [], 31, S2.out.2.1, rfl, rfl, by omega, S2.out.2.2, hLL.out⟩
  case round =>
    clear hLL S2
    obtain ⟨k, hkn, hk1, rfl, D, J, m, t, N, hI, hN, rfl, hmt, hun, LL⟩ := hrel
    have HNN := Lib.hid hN
    have HI := Lib.hid (And.intro hI (And.intro hmt hun))
    have jok := Lib.hid hI.jok
    clear hN
    by_cases hlt : k < n ∧ k < 100
    · obtain ⟨d0', d1'⟩ := hlt
      have d0 : (k : Int) < n := by omega
      have d1 : (k : Int) < 100 := by omega
      have hkl : k < l.length := by omega
      obtain ⟨gA, oA, rfl, hgA, hc⟩ := HA.out.rd (by omega)
      obtain ⟨x0, x1⟩ := hc k hkl
      obtain ⟨kd, hkd⟩ : ∃ kd, l[k].kind = kd := ⟨_, rfl⟩
      have hrk := (HA.out.ok _ (List.getElem_mem hkl)).r
      obtain ⟨o, ho⟩ : ∃ o, l[k] = o := ⟨_, rfl⟩
      rw [ho] at x1 hrk
      rw [hkd] at x0
      obtain ⟨_, Ak, mk, ck, qs⟩ := o
      dsimp only at x1 hrk
      clear hc hkd ho
      have HX := Lib.hid (And.intro x0 (And.intro x1 hrk))
      have y0 := LL.fr.cell (by simp) x0
      have y1 := LL.fr.cell (by simp) x1
      by_cases k1 : kd = 1
      · subst k1
        have cr := jnRoom_any LL.jr jok.out
        obtain ⟨ro, hro⟩ : ∃ ro, J.room = ro := ⟨_, rfl⟩
        rw [hro] at cr
        go_wp2_with fail
        refine cr.mono ?_
        rintro e w6 ⟨rfl, f6⟩
        replace LL := LL.keep f6
        replace y1 := f6.cell (by simp) y1
        clear cr y0 f6
        have cu := jnUsed_any LL.jr
        obtain ⟨us, hus⟩ : ∃ us, J.used = us := ⟨_, rfl⟩
        rw [hus] at cu
        go_wp2_with fail
        refine cu.mono ?_
        rintro e w' ⟨rfl, rfl⟩
        have ca := LL.append jok.out hrk hK (fun x => by have := hun x; omega)
        obtain ⟨⟨z, D', J'⟩, hz⟩ : ∃ r, appM D J qs = r := ⟨_, rfl⟩
        have hun' : ∀ x, (D'.uns x).length ≤ 4 + 67 * (k + 1) := fun x => by have a := appM_uns D J qs x; rw [hz] at a; have := hun x; dsimp only at a; omega
        rw [hz] at ca
        have HUN := Lib.hid hun'
        have hqm := hrk.len
        have HUS := Lib.hid (And.intro hus hro)
        clear hun hun' cu hI
        go_wp2_with fail
        refine ca.mono ?_
        clear ca LL
        rintro e w7 ⟨rfl, LL⟩
        have y1 := LL.fr.cell (by simp) HX.out.2.1
        by_cases hz0 : z = 0
        · subst hz0
          have hap := HI.out.1.app (rs := qs) (by have := HNN.out; omega) (by rw [hz])
          rw [hz, hqm] at hap
          dsimp only at hap
          rw [HUS.out.1, HUS.out.2] at hap
          obtain ⟨a1, a2, a3⟩ := hap
          have b1 : ¬ ro < (mk : Int) := by omega
          have hou := jok.out.u
          rw [HUS.out.1] at hou
          have hm64 : mk ≤ 64 := by
            have hr : J.room = max (min (J.count - 3 - J.used) 64) 0 := by rw [JrM.room, HI.out.1.bad, HI.out.1.begun]; rfl
            have := HUS.out.2
            omega
          have e1 : IntKind.i64.wrap (us + (mk : Int)) = us + (mk : Int) := IntWalk.i64_in _ (by omega)
          have e2 : IntKind.i64.wrap (us + (mk : Int) + 2) = us + (mk : Int) + 2 := IntWalk.i64_in _ (by omega)
          have CU := Lib.hid (show ∀ q, Calls Tryd.prog 11 #[.pointer (some ⟨g, 0, none⟩)] (w7.drewN q) fun e w' => e = .returned (.int .i64 (us + (mk : Int) + 2)) ∧ w7.drewN q = w' from fun q => by
            have := jnUsed_any (LL.keep ((Fr.refl [] w7).drewN q)).jr
            rw [a2] at this
            rwa [show us + (mk : Int) + 2 = us + ((mk + 2 : Nat) : Int) by omega])
          obtain ⟨N1, hN1⟩ : ∃ N1, N + 1 = N1 := ⟨_, rfl⟩
          have e5 : IntKind.u64.wrap ((N : Int) + 1) = (N1 : Int) := by rw [show IntKind.u64.wrap ((N : Int) + 1) = ((N : Int) + 1) % 18446744073709551616 from rfl]; omega
          have HIN := Lib.hid (show JInv D' J' m (t ++ [qs]) ∧ N1 ≤ 31 + (k + 1) ∧ ∀ x, (D'.uns x).length ≤ 4 + 67 * (k + 1) from ⟨a3, by omega, HUN.out⟩)
          have HN1 := Lib.hid (show m + (t ++ [qs]).length = N1 by rw [List.length_append, List.length_singleton]; have := HNN.out; omega)
          have hfl : t.flatten.length ≤ 29 := Nat.le_trans (bsOf_le t m) HI.out.1.used_le
          obtain ⟨ps, rA, hpl, hpe⟩ := LL.acc
          obtain ⟨qps, hql, qrd, q1c, hqe⟩ := hrk.cellsD
          have qrd7 := qrd.keep_nil LL.fr
          have hLL := Lib.hid LL
          have HPE := Lib.hid (And.intro hpe hqe)
          have hsz := LL.fr.size
          have hqn := hrk.nil
          clear a1 a2 a3 LL hz hpe hqe hN1
          go_upto_region 17 with fail
          go_quiet ((go_at_call 11; exact Calls.quiet_of_same ((CU.out _).mono fun e w' h => ⟨h.1, h.2.symm⟩)))
          go_wp2_with (at_builtin; refine wpList_app rfl rfl slR W.heap.size _ t.flatten.length (rcells ps) rfl (rA.keep_nil ((Fr.refl [] w7).drewN _)) Ak mk ck (rcells qps) rfl (by rw [rcells_len, hql]) (qrd7.keep_nil ((Fr.refl [] w7).drewN _)) q1c hqn (by omega) (by simpa using hsz) ?_; intro v8 w8 q1 q2 q3 q4)
          have q2' : Fr u8.ownBlock.toList _ w8 := q2
          have LL := (hLL.out.keep ((Fr.refl [] w7).drewN _)).app (rA.keep_nil ((Fr.refl [] w7).drewN _)) hpl HPE.out.1 (hql.trans hqm.symm) HPE.out.2 (by rw [hqm]; exact q1) q2' q3
          rw [show t.flatten ++ qs = (t ++ [qs]).flatten by simp] at LL
          clear q1 q2 q3 q4 q2' rA qrd qrd7 q1c
          have cN := jnNumber_any LL.jr
          rw [HIN.out.1.num, HN1.out] at cN
          go_wp2_with fail
          refine cN.mono ?_
          rintro e w9 ⟨rfl, rfl⟩
          clear cN
          go_wp2_with fail
          exact ⟨⟨k + 1, by omega, by omega, by go_num, _, _, _, _, _, HIN.out.1, HN1.out, rfl, HIN.out.2.1, HIN.out.2.2, LL⟩, by simp [intOf]; omega⟩
        · have hno := HI.out.1.app_no (rs := qs) (by rw [hz]; exact hz0)
          rw [hz] at hno
          obtain ⟨rfl, rfl⟩ : D' = D ∧ J' = J := by cases hno; exact ⟨rfl, rfl⟩
          have dz : (z == 0) = false := by simpa using hz0
          have cu2 := jnUsed_any LL.jr
          rw [HUS.out.1] at cu2
          have HIN := Lib.hid (show JInv D' J' m t ∧ N ≤ 31 + (k + 1) ∧ ∀ x, (D'.uns x).length ≤ 4 + 67 * (k + 1) from ⟨HI.out.1, by omega, HUN.out⟩)
          have HN1 := HNN
          clear hno hz
          go_wp2_with fail
          refine cu2.mono ?_
          rintro e w' ⟨rfl, rfl⟩
          clear cu2
          have cN := jnNumber_any LL.jr
          rw [HIN.out.1.num, HN1.out] at cN
          go_wp2_with fail
          refine cN.mono ?_
          rintro e w9 ⟨rfl, rfl⟩
          clear cN
          go_wp2_with fail
          exact ⟨⟨k + 1, by omega, by omega, by go_num, _, _, _, _, _, HIN.out.1, HN1.out, rfl, HIN.out.2.1, HIN.out.2.2, LL⟩, by simp [intOf]; omega⟩
      · by_cases k2 : kd = 2
        · subst k2
          have hrs := HI.out.1.res
          have ce := LL.reset jok.out hK (fun x => by have := hun x; omega)
          obtain ⟨⟨z, D', J'⟩, hz⟩ : ∃ r, resM D J = r := ⟨_, rfl⟩
          have hun' : ∀ x, (D'.uns x).length ≤ 4 + 67 * (k + 1) := fun x => by have a := resM_uns D J x; rw [hz] at a; have := hun x; dsimp only at a; omega
          rw [hz] at ce hrs
          obtain ⟨hz0, hu0, hI2⟩ := hrs
          dsimp only at hz0 hu0 hI2
          subst hz0
          have HU0 := Lib.hid hu0
          have HIN := Lib.hid (show JInv D' J' (m + t.length) [] ∧ N ≤ 31 + (k + 1) ∧ ∀ x, (D'.uns x).length ≤ 4 + 67 * (k + 1) from ⟨hI2, by omega, hun'⟩)
          have HN1 := Lib.hid (show m + t.length + ([] : List (List (Int × List UInt8))).length = N from HNN.out)
          clear hz hun hun' hI hI2 hu0
          go_wp2_with fail
          refine ce.mono ?_
          clear ce LL
          rintro e w7 ⟨rfl, LL⟩
          replace LL : LC W w7 p g D' J' (.slice none 0 0) (([] : List (List (Int × List UInt8))).flatten) := LC.of LL.lj
          have cu := jnUsed_any LL.jr
          rw [HU0.out] at cu
          go_wp2_with fail
          refine cu.mono ?_
          rintro e w' ⟨rfl, rfl⟩
          clear cu
          have cN := jnNumber_any LL.jr
          rw [HIN.out.1.num, HN1.out] at cN
          go_wp2_with fail
          refine cN.mono ?_
          rintro e w9 ⟨rfl, rfl⟩
          clear cN
          go_wp2_with fail
          exact ⟨⟨k + 1, by omega, by omega, by go_num, _, _, _, _, _, HIN.out.1, HN1.out, rfl, HIN.out.2.1, HIN.out.2.2, LL⟩, by simp [intOf]; omega⟩
        · have dz1 : (kd == 1) = false := by simpa using k1
          have dz2 : (kd == 2) = false := by simpa using k2
          have HIN := Lib.hid (show JInv D J m t ∧ N ≤ 31 + (k + 1) ∧ ∀ x, (D.uns x).length ≤ 4 + 67 * (k + 1) from ⟨HI.out.1, by omega, fun x => by have := hun x; omega⟩)
          have HN1 := HNN
          have cN := jnNumber_any LL.jr
          rw [HIN.out.1.num, HN1.out] at cN
          go_wp2_with fail
          refine cN.mono ?_
          rintro e w9 ⟨rfl, rfl⟩
          clear cN
          go_wp2_with fail
          exact ⟨⟨k + 1, by omega, by omega, by go_num, _, _, _, _, _, HIN.out.1, HN1.out, rfl, HIN.out.2.1, HIN.out.2.2, LL⟩, by simp [intOf]; omega⟩
    · clear hun hI
      by_cases hk1' : k < n
      · have d0 : (k : Int) < n := by omega
        have d1 : ¬ (k : Int) < 100 := by omega
        have hJr := LL.jr
        have hfW := LL.fr
        have hacc := LL.acc
        obtain ⟨O, hd, -⟩ := LL
        have co := jnOpen_any hd 0 30 (wfZ_of (by decide)) (hK.keep hfW)
        go_wp2_with fail
        refine co.mono ?_
        intro e w6 ho
        obtain ⟨f1, f2, f3⟩ := HI.out.1.found
        obtain ⟨g2, v2, ps2, rfl, hg2, hrr, hj2, f6⟩ := ho.yes f1 HI.out.1.on.off f2
        rw [f3] at hrr hj2
        dsimp only at hrr hj2
        rw [HNN.out] at hj2
        have hul := HI.out.1.used_le
        obtain ⟨ul, hul2⟩ : ∃ ul, (bsOf m t).length = ul := ⟨_, rfl⟩
        have hju := HI.out.1.used
        rw [hul2] at hj2 hul hju
        have hn64 : N < 18446744073709551616 := by have := HI.out.1.n64; have := HNN.out; omega
        obtain ⟨A2, c2, rfl, -, -, -, -, -⟩ := hrr.row.shape
        obtain ⟨ps, rA, hpl, hpe⟩ := id hacc
        obtain ⟨A8, c8, rfl, -, -, -, -, -⟩ := rA.shape
        have hfl : t.flatten.length ≤ 29 := Nat.le_trans (bsOf_le t m) HI.out.1.used_le
        have cS := sameRedos_eq w6 A2 A8 _ c2 c8 t.flatten rfl hrr.rdx ((hacc.rdx hfW).keep_nil f6) (by omega)
        obtain ⟨K, hK8⟩ : ∃ K, t.flatten.length = K := ⟨_, rfl⟩
        rw [hK8] at cS ⊢
        have FW := Lib.hid (hfW.trans_nil f6)
        have okj : (openJ 0 30 N ul).ok := ⟨by show (16 : Int) ≤ 30 ∧ (30 : Int) ≤ 256; omega, by show (0 : Int) ≤ 0 ∧ (0 : Int) ≤ 4096; omega, hn64, by show (0 : Int) ≤ (ul : Int) ∧ (ul : Int) ≤ 256; omega⟩
        have b2 : ∀ w', Fr [] w6 w' → Calls Tryd.prog 15 #[.pointer (some ⟨g2, 0, none⟩)] w' fun e w'' => e = .returned (.bool false) ∧ w' = w'' := fun w' f => jnBegun_any (hj2.keep_nil f)
        have m2 : ∀ w', Fr [] w6 w' → Calls Tryd.prog 10 #[.pointer (some ⟨g2, 0, none⟩)] w' fun e w'' => e = .returned (.int .i64 0) ∧ Fr [] w' w'' := fun w' f => by
          have := jnRoom_any (hj2.keep_nil f) okj
          rwa [show (openJ 0 30 N ul).room = 0 by simp [JrM.room, openJ]] at this
        have n2 : ∀ w', Fr [] w6 w' → Calls Tryd.prog 13 #[.pointer (some ⟨g2, 0, none⟩)] w' fun e w'' => e = .returned (.int .u64 (N : Int)) ∧ w' = w'' := fun w' f => jnNumber_any (hj2.keep_nil f)
        have u2 : ∀ w', Fr [] w6 w' → Calls Tryd.prog 11 #[.pointer (some ⟨g2, 0, none⟩)] w' fun e w'' => e = .returned (.int .i64 (ul : Int)) ∧ w' = w'' := fun w' f => jnUsed_any (hj2.keep_nil f)
        have u1 : ∀ w', Fr [] w6 w' → Calls Tryd.prog 11 #[.pointer (some ⟨g, 0, none⟩)] w' fun e w'' => e = .returned (.int .i64 (ul : Int)) ∧ w' = w'' := fun w' f => by
          have := jnUsed_any ((hJr.keep_nil f6).keep_nil f)
          rwa [hju] at this
        have CC := Lib.hid (And.intro n2 (And.intro u2 (And.intro u1 (And.intro m2 b2))))
        clear b2 m2 n2 u2 u1 okj hj2 hrr rA hacc hpl hpe hd ho co hJr f1 f2 f3 hju hul2 hfW f6 hg2
        go_wp2_with fail
        refine cS.mono ?_
        rintro e w7 ⟨rfl, fc⟩
        clear cS
        go_wp2_with fail
        refine (CC.out.1 _ fc).mono ?_
        rintro e w' ⟨rfl, rfl⟩
        go_wp2_with fail
        refine (CC.out.2.1 _ fc).mono ?_
        rintro e w' ⟨rfl, rfl⟩
        go_wp2_with fail
        refine (CC.out.2.2.1 _ fc).mono ?_
        rintro e w' ⟨rfl, rfl⟩
        go_wp2_with fail
        refine (CC.out.2.2.2.1 _ fc).mono ?_
        rintro e w8 ⟨rfl, fq⟩
        replace fc := fc.trans_nil fq
        clear fq
        go_wp2_with fail
        refine (CC.out.2.2.2.2 _ fc).mono ?_
        rintro e w' ⟨rfl, rfl⟩
        go_wp2_with fail
        go_ret
        exact ⟨rfl, FW.out.trans_nil fc⟩
      · have d0 : ¬ (k : Int) < n := by omega
        have hJr := LL.jr
        have hfW := LL.fr
        have hacc := LL.acc
        obtain ⟨O, hd, -⟩ := LL
        have co := jnOpen_any hd 0 30 (wfZ_of (by decide)) (hK.keep hfW)
        go_wp2_with fail
        refine co.mono ?_
        intro e w6 ho
        obtain ⟨f1, f2, f3⟩ := HI.out.1.found
        obtain ⟨g2, v2, ps2, rfl, hg2, hrr, hj2, f6⟩ := ho.yes f1 HI.out.1.on.off f2
        rw [f3] at hrr hj2
        dsimp only at hrr hj2
        rw [HNN.out] at hj2
        have hul := HI.out.1.used_le
        obtain ⟨ul, hul2⟩ : ∃ ul, (bsOf m t).length = ul := ⟨_, rfl⟩
        have hju := HI.out.1.used
        rw [hul2] at hj2 hul hju
        have hn64 : N < 18446744073709551616 := by have := HI.out.1.n64; have := HNN.out; omega
        obtain ⟨A2, c2, rfl, -, -, -, -, -⟩ := hrr.row.shape
        obtain ⟨ps, rA, hpl, hpe⟩ := id hacc
        obtain ⟨A8, c8, rfl, -, -, -, -, -⟩ := rA.shape
        have hfl : t.flatten.length ≤ 29 := Nat.le_trans (bsOf_le t m) HI.out.1.used_le
        have cS := sameRedos_eq w6 A2 A8 _ c2 c8 t.flatten rfl hrr.rdx ((hacc.rdx hfW).keep_nil f6) (by omega)
        obtain ⟨K, hK8⟩ : ∃ K, t.flatten.length = K := ⟨_, rfl⟩
        rw [hK8] at cS ⊢
        have FW := Lib.hid (hfW.trans_nil f6)
        have okj : (openJ 0 30 N ul).ok := ⟨by show (16 : Int) ≤ 30 ∧ (30 : Int) ≤ 256; omega, by show (0 : Int) ≤ 0 ∧ (0 : Int) ≤ 4096; omega, hn64, by show (0 : Int) ≤ (ul : Int) ∧ (ul : Int) ≤ 256; omega⟩
        have b2 : ∀ w', Fr [] w6 w' → Calls Tryd.prog 15 #[.pointer (some ⟨g2, 0, none⟩)] w' fun e w'' => e = .returned (.bool false) ∧ w' = w'' := fun w' f => jnBegun_any (hj2.keep_nil f)
        have m2 : ∀ w', Fr [] w6 w' → Calls Tryd.prog 10 #[.pointer (some ⟨g2, 0, none⟩)] w' fun e w'' => e = .returned (.int .i64 0) ∧ Fr [] w' w'' := fun w' f => by
          have := jnRoom_any (hj2.keep_nil f) okj
          rwa [show (openJ 0 30 N ul).room = 0 by simp [JrM.room, openJ]] at this
        have n2 : ∀ w', Fr [] w6 w' → Calls Tryd.prog 13 #[.pointer (some ⟨g2, 0, none⟩)] w' fun e w'' => e = .returned (.int .u64 (N : Int)) ∧ w' = w'' := fun w' f => jnNumber_any (hj2.keep_nil f)
        have u2 : ∀ w', Fr [] w6 w' → Calls Tryd.prog 11 #[.pointer (some ⟨g2, 0, none⟩)] w' fun e w'' => e = .returned (.int .i64 (ul : Int)) ∧ w' = w'' := fun w' f => jnUsed_any (hj2.keep_nil f)
        have u1 : ∀ w', Fr [] w6 w' → Calls Tryd.prog 11 #[.pointer (some ⟨g, 0, none⟩)] w' fun e w'' => e = .returned (.int .i64 (ul : Int)) ∧ w' = w'' := fun w' f => by
          have := jnUsed_any ((hJr.keep_nil f6).keep_nil f)
          rwa [hju] at this
        have CC := Lib.hid (And.intro n2 (And.intro u2 (And.intro u1 (And.intro m2 b2))))
        clear b2 m2 n2 u2 u1 okj hj2 hrr rA hacc hpl hpe hd ho co hJr f1 f2 f3 hju hul2 hfW f6 hg2
        go_wp2_with fail
        refine cS.mono ?_
        rintro e w7 ⟨rfl, fc⟩
        clear cS
        go_wp2_with fail
        refine (CC.out.1 _ fc).mono ?_
        rintro e w' ⟨rfl, rfl⟩
        go_wp2_with fail
        refine (CC.out.2.1 _ fc).mono ?_
        rintro e w' ⟨rfl, rfl⟩
        go_wp2_with fail
        refine (CC.out.2.2.1 _ fc).mono ?_
        rintro e w' ⟨rfl, rfl⟩
        go_wp2_with fail
        refine (CC.out.2.2.2.1 _ fc).mono ?_
        rintro e w8 ⟨rfl, fq⟩
        replace fc := fc.trans_nil fq
        clear fq
        go_wp2_with fail
        refine (CC.out.2.2.2.2 _ fc).mono ?_
        rintro e w' ⟨rfl, rfl⟩
        go_wp2_with fail
        go_ret
        exact ⟨rfl, FW.out.trans_nil fc⟩
end Go.Proofs.YtiknmcdighkclaaDoor
/-
  What the listed variable (SHA-256's constants) gives the walks; the door's own heap meets the condition.
-/
set_option linter.unusedSimpArgs false
set_option linter.unusedVariables false
set_option linter.unnecessarySimpa false
namespace Go.Proofs.YtiknmcdighkclaaDoor
open Go.ChangeShapes Go.WideShapes Go.ChangeAt Go.RowKit

abbrev laidK {H : Type} : List (String × DataW H) := [("casket/sha.constants", Rows.laid_casket_sha_constants)]
theorem gConst : Tryd.prog.globalNamed "casket/sha.constants" = some 0 := by kernel_rfl
theorem tConst : (Tryd.prog.globals[0]?).map (·.type) = some 122 := by kernel_rfl
theorem laid_eq {H : Type} : (Rows.laid_casket_sha_constants : DataW H) = .agg (kC.map fun k => .lit (.int .u32 (uw k))) := by kernel_rfl

theorem door_met (os : Os) (args : Array Value) : laidMetH Tryd.prog laidK ((World.doorLaid Tryd.prog 400 os).forCall (fun _ _ => 0) ⟨#[], args, []⟩).memory :=
  laidMetH_of_parts3 (fuel := 8) (laidMet_of_run' 8 (by kernel_rfl) (by kernel_rfl)) (by kernel_rfl) (by kernel_rfl)

set_option maxRecDepth 100000 in
theorem kg_of_laid {W : World} (h : laidMetH Tryd.prog laidK W) : KG W := by
  rw [MakeChecks.laidMetH_plain _ _ _ (by kernel_rfl)] at h
  obtain ⟨ps, ⟨g0, t0, cs0, f0, p0, q0, hg0, ht0, hv0, hd0, _, _⟩, _, _⟩ := h
  obtain rfl := Option.some.inj (gConst.symm.trans hg0)
  obtain rfl := Option.some.inj (tConst.symm.trans ht0)
  obtain ⟨xs, m1, rfl, hx1, hlen, hn3, hel⟩ := DataW.trod_array Tryd.underlying122 hd0
  have c32 : Tryd.prog.cellsOf 112 = 1 := by kernel_rfl
  have c64 : Tryd.prog.cellsOf 122 = 64 := by kernel_rfl
  rw [c64] at hlen
  have hxs : xs.map (·.1) = kC.map fun k => .lit (.int .u32 (uw k)) := by
    have e := (Prod.mk.inj hx1).1
    rw [laid_eq] at e
    exact (DataW.agg.inj e).symm
  intro j u hu
  have hj : j < kC.length := by
    have := (List.getElem?_eq_some_iff.1 hu).1
    rwa [wvs_length] at this
  have hj64 : j < 64 := hj
  rw [wvs_at hj] at hu
  cases hu
  have h1 := hel j hj64
  rw [c32, Nat.mul_one] at h1
  have hl : j < cs0.toList.length := by rw [hlen]; exact hj64
  have h2 : (cs0.toList.drop j).take 1 = [cs0.toList[j]] := by rw [List.take_one, List.head?_drop, List.getElem?_eq_getElem hl]; rfl
  have hxl : j < xs.length := by rw [hn3]; exact hj64
  rw [h2, List.getElem?_eq_getElem hxl] at h1
  obtain ⟨z, e1, e2, _⟩ := DataW.trod_int Tryd.underlying112 h1
  have e3 : (xs.map (·.1))[j]? = some (.lit (.int .u32 (uw kC[j]))) := by rw [hxs, List.getElem?_map, List.getElem?_eq_getElem hj]; rfl
  rw [List.getElem?_map, List.getElem?_eq_getElem hxl, Option.map_some] at e3
  have e4 : z = uw kC[j] := by
    rw [e2] at e3
    simpa using e3
  have e5 : cs0.toList[j] = .int .u32 z := by simpa using e1
  have := World.var?_cell hg0 hv0 j
  rw [Nat.zero_add, this, ← Array.getElem?_toList, List.getElem?_eq_getElem hl, e5, e4]
  rfl
end Go.Proofs.YtiknmcdighkclaaDoor
/-
  JournalNobody: the walk.
-/
set_option linter.unusedSimpArgs false
set_option linter.unusedVariables false
set_option linter.unnecessarySimpa false
namespace Go.Proofs.YtiknmcdighkclaaDoor
open Go.RowKit
set_option maxRecDepth 100000

set_option maxHeartbeats 4000000 in
theorem jnNobody_any (w : World) (v : Value) (hK : KG w) : Calls Tryd.prog 4 #[v] w fun e w' => e = .returned (.bool true) ∧ Fr [] w w' := by
  go_enter Tryd.func4, Tryd.ntmps4
  go_wp2_with fail
  refine (lives14_any w hK).mono ?_
  rintro e w1 ⟨rfl, f1⟩
  go_wp2_with fail
  refine (jnAppend_nil _ _).mono ?_
  rintro e w2 ⟨rfl, f2⟩
  replace f1 := f1.trans_nil f2
  clear f2
  go_wp2_with (first
    | (go_at_call 10; refine (jnRoom_nil _).mono ?_; rintro e w' ⟨rfl, rfl⟩)
    | (go_at_call 16; refine (jnMost_nil _).mono ?_; rintro e w' ⟨rfl, rfl⟩)
    | (go_at_call 9; refine (jnReset_nil _).mono ?_; rintro e w' ⟨rfl, rfl⟩))
  refine (jnScrub_nil _).mono ?_
  rintro e w3 ⟨rfl, f3⟩
  replace f1 := f1.trans_nil f3
  clear f3
  go_wp2_with (first
    | (go_at_call 13; refine (jnNumber_nil _).mono ?_; rintro e w' ⟨rfl, rfl⟩)
    | (go_at_call 11; refine (jnUsed_nil _).mono ?_; rintro e w' ⟨rfl, rfl⟩)
    | (go_at_call 15; refine (jnBegun_nil _).mono ?_; rintro e w' ⟨rfl, rfl⟩))
  go_ret
  exact ⟨rfl, f1⟩
end Go.Proofs.YtiknmcdighkclaaDoor
