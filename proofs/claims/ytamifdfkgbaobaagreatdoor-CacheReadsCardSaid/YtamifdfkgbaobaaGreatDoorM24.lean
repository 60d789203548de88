/-
  Texts of this claim, one behind the other: CacCl.
-/
import Derived.Test.YtamifdfkgbaobaaGreatDoorM23
/-
  CacheCleans: the walk.
-/
set_option linter.unusedSimpArgs false
set_option linter.unusedVariables false
set_option linter.unnecessarySimpa false
namespace Go.Proofs.YtamifdfkgbaobaaGreatDoor
open Go.RowKit
set_option maxRecDepth 100000

section
variable {P : Program} {ops : Array Oper} {Q : Exit → Act → World → Prop} {S : World → Prop}
/-- Two operations may come up. -/
theorem take_c2 {md : Region.Mode} (i j : Nat) {oi oj : Oper} {fuel : Nat} {listed : Array Bool} {a : Act} {w : World} (hi : ops[i]? = some oi) (hj : ops[j]? = some oj) (hr : Region.ready md ops listed = [i, j])
    (hw : Region.wanted oi (yielded ops a.tmps) = true) (hv : Region.wanted oj (yielded ops a.tmps) = true)
    (h : ∀ K' : Act → World → Prop, Shut (∀ a w, S w → (S w → wpAnyH P md ops Q S fuel (listed.setIfInBounds i true) a w) → K' a w) → Oper.wp P oi a w K' Q)
    (g : ∀ K' : Act → World → Prop, Shut (∀ a w, S w → (S w → wpAnyH P md ops Q S fuel (listed.setIfInBounds j true) a w) → K' a w) → Oper.wp P oj a w K' Q) : wpAnyH P md ops Q S (fuel + 1) listed a w :=
  wpAnyH_ready hr (by simp) (AllReadyH.cons hi (fun K' hK => by rw [if_pos hw]; exact h K' hK) (AllReadyH.cons hj (fun K' hK => by rw [if_pos hv]; exact g K' hK) AllReadyH.nil))
end
/-- The cells of a call that came in. -/
theorem ArgO15.cells {w w' : World} {A : Option Addr} {n c : Nat} {l : List O15} (h : ArgO15 w A n c l) (f : Fr [] w w') {k : Nat} (hk : k < n) : ∃ (o : O15) (g b : Nat), A = some ⟨g, b, none⟩ ∧ o.ok w ∧
    w'.cell? ⟨g, b + k * 4, none⟩ = some (.int .i64 o.kind) ∧ w'.cell? ⟨g, b + k * 4 + 1, none⟩ = some (.slice o.A o.m o.c) := by
  have hkl : k < l.length := by rw [h.len]; exact hk
  obtain ⟨g, b, e, -, hc⟩ := h.rd (by omega)
  exact ⟨l[k], g, b, e, h.ok _ (List.getElem_mem hkl), f.cell (by simp) (hc k hkl 0 (by omega)), f.cell (by simp) (hc k hkl 1 (by omega))⟩
/-- What holds after k calls. -/
structure CaH (c : Int) (M : CaM) (k : Nat) : Prop where
  g : CaG 40 M
  f : M.J.first = 0
  c : M.J.count = c
  num : M.J.num ≤ 1 + 257 * k
  uns : ∀ x, (M.D.uns x).length ≤ 2 + 67 * k
theorem CaH.com {c : Int} {M : CaM} {k : Nat} {rs : List (Int × List UInt8)} (h : CaH c M k) (hk : k ≤ 200) : CaH c (comM M rs) (k + 1) := by
  have hn := h.num
  obtain ⟨-, -, h1, h2, h3, h4, h5, -⟩ := h.g.com (rs := rs) (by omega)
  exact ⟨h1, by rw [h2, h.f], by rw [h3, h.c], by omega, fun x => by have := h5 x; have := h.uns x; omega⟩
theorem CaH.le {c : Int} {M : CaM} {k k' : Nat} (h : CaH c M k) (hk : k ≤ k') : CaH c M k' := by
  have hn := h.num
  exact ⟨h.g, h.f, h.c, by omega, fun x => by have := h.uns x; omega⟩
theorem LCa.com {W w : World} {P : CaP} {M : CaM} {c : Int} {k : Nat} {A : Option Addr} {n cp : Nat} {rs : List (Int × List UInt8)} (h : LCa W w P M) (hK : KG W) (hH : CaH c M k) (hk : k ≤ 200) (hl : rs.length = n) (hr : RdR W A n cp rs) :
    Calls Tryz.prog 10 #[.pointer (some ⟨P.c, 0, none⟩), .slice A n cp] w fun e w' => e = .returned (.int .i64 (comE M rs)) ∧ LCa W w' P (comM M rs) := by
  have hW := kg_pos hK
  have hn := hH.num
  obtain ⟨O, h1, h2, h3, h4⟩ := h
  refine (caCommit_any h1 hH.g (by omega) (hK.keep h4) (fun hm => by have := h2 0 hm; omega) (fun x => by have := hH.uns x; omega) hl (fun w' f => hr.keep_nil (h4.trans f (fun i hi => .inr (h2 i hi))))).mono ?_
  rintro e w' ⟨he, ha⟩
  exact ⟨he, (LCa.aft h1 h2 h3 h4 ha).1⟩
theorem LCa.clean {W w : World} {P : CaP} {M : CaM} {c : Int} {k : Nat} (h : LCa W w P M) (hK : KG W) (hH : CaH c M k) (hk : k ≤ 200) :
    Calls Tryz.prog 11 #[.pointer (some ⟨P.c, 0, none⟩)] w fun e w' => e = .returned (.int .i64 0) ∧ LCa W w' P (cleanM M) := by
  have hn := hH.num
  have hf := h.fr
  exact (LCa.op (kg_pos hK) h (fun O h0 hz hlt => caClean_any h0 hH.g (by omega) (hK.keep hf) hz (fun x => by have := hH.uns x; omega))).mono fun e w' ⟨h1, h2, _⟩ => ⟨h1, h2⟩
theorem rdM_none {M : CaM} (h : ∀ x, M.dirty x = none) (x : Int) : rdM M x = M.D.readR x := by rw [rdM, h]
theorem rdE_none {M : CaM} {N : Nat} (h : ∀ x, M.dirty x = none) (ho : On M.D N) {x : Int} (h0 : 0 ≤ x) (h1 : x < N) : rdE M x = 0 := by
  rw [rdE, h]
  rw [DkM.readE, DkM.is_iff.2 ⟨h0, by rw [ho.len]; exact h1⟩, ho.off]; rfl
/-- What Clean leaves. -/
theorem CaH.clean {M : CaM} {k : Nat} (h : CaH 20 M k) (hk : k ≤ 200) : (cleanM M).J.used = 0 ∧ keysZ (cleanM M).dirty = [] ∧ (∀ x : Int, 0 < x → x < 20 → (cleanM M).D.sureR x = zB512) ∧ (∀ x, rdM (cleanM M) x = (cleanM M).D.sureR x) ∧ ∀ x : Int, 0 ≤ x → x < 40 → rdE (cleanM M) x = 0 := by
  have hn := h.num
  obtain ⟨-, -, g, h1, h2, h3, h4, -, h6, h7, h8, -⟩ := h.g.clean (by omega)
  refine ⟨h1, keysZ_nil h2, fun x hx hy => by rw [h8]; exact h7 x (by rw [h.f]; exact hx) (by rw [h.f, h.c]; omega), fun x => by rw [rdM_none h2, h8], fun x hx hy => rdE_none h2 g.on hx hy⟩

set_option maxHeartbeats 8000000 in
theorem caCleans_any (W : World) (A : Option Addr) (n c : Nat) (l : List O15) (hA : ArgO15 W A n c l) (hK : KG W) : Calls Tryz.prog 3 #[.slice A n c] W fun e w' => e = .returned (.bool true) ∧ Fr [] W w' := by
  obtain ⟨s1, s2, s3, s4, s5, s6, s7, s8, s9⟩ := CaG.start (N := 40) (c := 20) (by omega) (by omega) (by omega)
  obtain ⟨D1, hD1⟩ : ∃ D1, (mkE (newD 40) 0 1).2 = D1 := ⟨_, rfl⟩
  have hi0 : initE (newD 40) 0 20 = (0, D1) := by rw [initE, if_pos s2]; exact Prod.ext s1 hD1
  rw [hD1] at s3 s4 s5 s6 s7 s9
  have H0 : CaH 20 ⟨D1, openJ 0 20 1 0, fun _ => none⟩ 0 := ⟨s7, rfl, rfl, Nat.le_refl _, fun x => by have := s9 x; show (D1.uns x).length ≤ _; omega⟩
  have S := Lib.hid (And.intro hi0 (And.intro s3 (And.intro s4 (And.intro s5 (And.intro s6 H0)))))
  have HA := Lib.hid hA
  clear s1 s2 s3 s4 s5 s6 s7 s8 s9 hD1 hi0 H0 hA
  have cn := dkNew_any W 40 (by omega)
  go_enter Tryz.func3, Tryz.ntmps3
  go_wp2_with fail
  refine cn.mono ?_
  intro e w1 hn
  obtain ⟨p, rfl, h1⟩ := LV.of_new (by omega) hn
  clear cn hn
  change LV W w1 p (newD 40) at h1
  go_wp2_with fail
  refine (lives15_any w1 (hK.keep h1.fr)).mono ?_
  rintro e w2 ⟨rfl, f2⟩
  replace h1 := h1.keep f2
  clear f2
  obtain ⟨O, hd, hO, hf⟩ := h1
  have ci := jnInit_any hd 0 20 (wfZ_of (by decide)) (hK.keep hf) (fun x => by show 0 + 2 ≤ _; omega)
  rw [S.out.1] at ci
  go_wp2_with fail
  refine ci.mono ?_
  rintro e w3 ⟨rfl, ha⟩
  have h2 : LV W w3 p D1 := LV.aft hO hf ha
  clear ci ha hd hO hf
  obtain ⟨O2, hd2, hO2, hf2⟩ := h2
  have co := caOpen_yes hd2 0 20 (wfZ_of (by decide)) (hK.keep hf2) S.out.2.1 S.out.2.2.1 S.out.2.2.2.1 (by rw [S.out.2.2.2.2.1]; exact Nat.zero_le _) (by rw [S.out.2.2.2.2.1]; intro r hr; cases hr) (by rw [S.out.2.2.2.2.1]; intro r hr; cases hr)
  rw [S.out.2.2.2.2.1] at co
  go_wp2_with fail
  refine co.mono ?_
  rintro e w4 ⟨P, hP, rfl, hcw, f3, p1, p2, p3, p4⟩
  have LL : LCa W w4 P ⟨D1, openJ 0 20 1 0, fun _ => none⟩ := LCa.made hO2 hf2 hcw f3 p1 p2 p3 p4
  have HP := Lib.hid hP
  clear hcw f3 p1 p2 p3 p4 hd2 hO2 hf2 co hP
  go_wp2_with fail
  have hLL := Lib.hid LL
  clear LL
  go_loopw [7] (fun i wr => ∃ k : Nat, k ≤ n ∧ k ≤ 100 ∧ i = .int .i64 k ∧ ∃ M, CaH 20 M k ∧ LCa W wr P M) (fun i _ => n - (intOf i).toNat)
  case atStart => exact ⟨0, by omega, by omega, rfl, _, S.out.2.2.2.2.2, hLL.out⟩
  case round =>
    clear hLL
    obtain ⟨k, hkn, hk1, rfl, M, hH, LL⟩ := hrel
    have HH := Lib.hid hH
    clear hH
    by_cases hlt : k < n ∧ k < 100
    · obtain ⟨d0', d1'⟩ := hlt
      have d0 : (k : Int) < n := by omega
      have d1 : (k : Int) < 100 := by omega
      obtain ⟨⟨kd, Ak, mk, ck, qs, nn, kv⟩, gA, oA, rfl, hok, y0, y1⟩ := HA.out.cells LL.fr d0'
      have hrk := hok.r
      dsimp only at y0 y1 hrk
      clear hok
      by_cases k1 : kd = 1
      · subst k1
        have cc := LL.com hK HH.out (by omega) hrk.len hrk
        clear LL
        go_wp2_with fail
        refine cc.mono ?_
        rintro e w5 ⟨rfl, LL⟩
        clear cc y0 y1
        go_wp2_with fail
        exact ⟨⟨k + 1, by omega, by omega, by go_num, _, HH.out.com (by omega), LL⟩, by simp [intOf]; omega⟩
      · have dk : (kd == 1) = false := by simpa using k1
        go_wp2_with fail
        exact ⟨⟨k + 1, by omega, by omega, by go_num, _, HH.out.le (by omega), LL⟩, by simp [intOf]; omega⟩
    · by_cases hk1' : k < n
      · have d0 : (k : Int) < n := by omega
        have d1 : ¬ (k : Int) < 100 := by omega
        have cc := LL.clean hK HH.out (by omega)
        obtain ⟨z1, z2, z3, z4, z5⟩ := HH.out.clean (by omega)
        obtain ⟨C, hC⟩ : ∃ C, cleanM M = C := ⟨_, rfl⟩
        rw [hC] at cc z1 z2 z3 z4 z5
        have ZZ := Lib.hid (And.intro z3 (And.intro z4 z5))
        clear LL hC z3 z4 z5
        go_wp2_with fail
        refine cc.mono ?_
        rintro e w6 ⟨rfl, LL⟩
        obtain ⟨O, hcw, -⟩ := id LL
        have cu := caUsed_any hcw
        rw [z1] at cu
        clear cc z1
        go_wp2_with fail
        refine cu.mono ?_
        rintro e w' ⟨rfl, rfl⟩
        obtain ⟨fv, hsr, hdv⟩ := hcw.srt
        have hkl := keyL_dirty hdv
        rw [z2] at hkl
        have cd := caDirty_at hcw.c2 hsr hkl (Nat.le_refl _)
        clear cu z2 hcw hsr hdv hkl
        go_wp2_with fail
        refine cd.mono ?_
        rintro e w7 ⟨v7, rfl, r7, f7⟩
        obtain ⟨A7, c7, rfl, -⟩ := r7.shape
        replace LL := LL.keep f7
        clear cd r7 f7
        go_wp2_with fail
        have hLL := Lib.hid LL
        clear LL
        obtain ⟨Z, hZ⟩ : ∃ Z, (List.replicate 512 (Value.int .u8 0)).toArray = Z := ⟨_, rfl⟩
        have rmk : ∀ W : World, (Instr.makeSlice 41 (.int .i64 512) (.int .i64 512)).run Tryz.prog W = .ok (.slice (some ⟨W.heap.size, 0, none⟩) 512 512) (W.alloc (.cells Z 5)) := fun W => by
          rw [← hZ]
          exact run_mk1 slB rfl W .i64 .i64 512 (by omega)
        have cvn : ∀ W W' : World, Fr [] (W.alloc (.cells Z 5)) W' → (convert 41 9 (.slice (some ⟨W.heap.size, 0, none⟩) 512 512)).run Tryz.prog W' = .ok (.string ⟨zB512.toArray⟩) W' := fun W W' f =>
          conv_str Tryz.underlying41 Tryz.underlying5 Tryz.underlying9 _ _ zB512 512 512 zB512_len ((Rd.of_blk (Blk.new W 5 Z) 0 _ (fun j u hu => by
            rw [zB512_vs] at hu
            rw [← hZ, Nat.zero_add, List.getElem?_toArray]
            exact hu)).keep_nil f) (fun h => by cases h)
        clear hZ
        go_loopw [8] (fun i wr => ∃ m : Nat, 1 ≤ m ∧ m ≤ 20 ∧ i = .int .i64 m ∧ LCa W wr P C) (fun i _ => 20 - (intOf i).toNat)
        case atStart => exact ⟨1, by omega, by omega, rfl, hLL.out⟩
        case round =>
          clear hLL
          obtain ⟨m, hm1, hm2, rfl, LL⟩ := hrel
          by_cases hmlt : m < 20
          · have dm : (m : Int) < 20 := by omega
            go_upto_region 17 with fail
            obtain ⟨wD, hwD⟩ : ∃ wD, wr.drew = wD := ⟨_, rfl⟩
            have fD : Fr [] wr wD := by rw [← hwD]; exact (Fr.refl [] wr).drew
            replace LL := LL.keep fD
            obtain ⟨O, hcw, -⟩ := id LL
            have cs : ∀ w', Fr [] wD w' → Calls Tryz.prog 14 #[.pointer (some ⟨p, 0, none⟩), .int .i64 (m : Int)] w' (SureC w' zB512) := fun w' f => by
              have := dkSure_any (hcw.keep_nil f).dsk (m : Int)
              rwa [ZZ.out.1 m (by omega) dm, HP.out] at this
            have CS := Lib.hid cs
            have CV := Lib.hid cvn
            have FQ : Fr [] wD wD := Fr.refl _ _
            clear hcw cs cvn
            refine wp_region_held_drew (S := fun _ => True) (by kernel_rfl) trivial (fun hHeld => ?_)
            rw [hwD]
            clear hwD fD
            refine take_w 0 (some 83) (v := ?_) rfl rfl (by kernel_rfl) (by kernel_rfl) (by kernel_rfl) (fun _ _ _ h => h) (by rfl) ?_ hHeld ?_
            rotate_left
            · (intro w hSw; (try dsimp only at hSw); go_simp; try with_reducible rfl)
            simp only [Act.put, List.setIfInBounds_toArray, List.set_cons_zero, List.set_cons_succ]
            refine take_w 1 (some 84) (v := ?_) rfl rfl (by kernel_rfl) (by kernel_rfl) (by kernel_rfl) (fun _ _ _ h => h) (by rfl) ?_ hHeld ?_
            rotate_left
            · (intro w hSw; (try dsimp only at hSw); go_simp; try with_reducible rfl)
            simp only [Act.put, List.setIfInBounds_toArray, List.set_cons_zero, List.set_cons_succ]
            refine take_c2 2 4 rfl rfl (by kernel_rfl) (by rfl) (by rfl) (fun K hK => ?_) (fun K hK => ?_)
            · skip
              go_simp
              refine (CS.out _ FQ).mono ?_
              rintro e w8 ⟨v8, rfl, r8, f8⟩
              rw [zB512_len] at r8
              obtain ⟨A8, c8, rfl, -, -, -, -, -⟩ := r8.shape
              have z8 := r8.rdD
              have cv8 : ∀ w', Fr [] w8 w' → (convert 41 9 (.slice A8 512 c8)).run Tryz.prog w' = .ok (.string ⟨zB512.toArray⟩) w' := fun w' f => conv_str Tryz.underlying41 Tryz.underlying5 Tryz.underlying9 w' _ zB512 _ c8 zB512_len (z8.1.keep_nil f) z8.2.2
              have C8 := Lib.hid (And.intro (Fr.refl [] w8) cv8)
              try have CE := Lib.hid (And.intro (CE.out.1.trans_nil f8) CE.out.2)
              replace LL := LL.keep f8
              replace FQ := FQ.trans_nil f8
              refine hK.out _ _ trivial (fun hHx => ?_)
              clear hK hHx r8 f8 z8 cv8
              try simp only [Act.put, List.setIfInBounds_toArray, List.set_cons_zero, List.set_cons_succ]
              refine take_c2 3 4 rfl rfl (by kernel_rfl) (by rfl) (by rfl) (fun K hK => ?_) (fun K hK => ?_)
              · skip
                have cv := C8.out.2 w8 C8.out.1
                go_simp
                refine hK.out _ _ trivial (fun hHx => ?_)
                clear hK hHx cv
                try simp only [Act.put, List.setIfInBounds_toArray, List.set_cons_zero, List.set_cons_succ]
                refine take_c 4 rfl (by kernel_rfl) (by rfl) (fun K hK => ?_)
                go_simp
                refine hK.out _ _ trivial (fun hHx => ?_)
                clear hK hHx
                try simp only [Act.put, List.setIfInBounds_toArray, List.set_cons_zero, List.set_cons_succ]
                have fE : Fr [] w8 (w8.alloc (.cells Z 5)) := (Fr.refl [] w8).alloc _
                have CE := Lib.hid (And.intro (Fr.refl [] (w8.alloc (.cells Z 5))) (CV.out w8))
                try have C8 := Lib.hid (And.intro (C8.out.1.trans_nil fE) C8.out.2)
                replace LL := LL.keep fE
                replace FQ := FQ.trans_nil fE
                generalize w8.alloc (.cells Z 5) = wE at *
                clear fE
                refine take_c 5 rfl (by kernel_rfl) (by rfl) (fun K hK => ?_)
                have cv := CE.out.2 wE CE.out.1
                go_simp
                refine hK.out _ _ trivial (fun hHx => ?_)
                clear hK hHx cv
                try simp only [Act.put, List.setIfInBounds_toArray, List.set_cons_zero, List.set_cons_succ]
                refine take_w 6 (some 89) (v := ?_) rfl rfl (by kernel_rfl) (by kernel_rfl) (by kernel_rfl) (fun _ _ _ h => h) (by rfl) ?_ hHeld ?_
                rotate_left
                · (intro w hSw; (try dsimp only at hSw); go_simp; try with_reducible rfl)
                simp only [Act.put, List.setIfInBounds_toArray, List.set_cons_zero, List.set_cons_succ]
                refine wpAnyH_done (by kernel_rfl) ?_ _
                go_wp2_with fail
                exact ⟨⟨m + 1, by omega, by omega, by go_num, LL⟩, by simp [intOf]; omega⟩
              · skip
                go_simp
                refine hK.out _ _ trivial (fun hHx => ?_)
                clear hK hHx
                try simp only [Act.put, List.setIfInBounds_toArray, List.set_cons_zero, List.set_cons_succ]
                have fE : Fr [] w8 (w8.alloc (.cells Z 5)) := (Fr.refl [] w8).alloc _
                have CE := Lib.hid (And.intro (Fr.refl [] (w8.alloc (.cells Z 5))) (CV.out w8))
                try have C8 := Lib.hid (And.intro (C8.out.1.trans_nil fE) C8.out.2)
                replace LL := LL.keep fE
                replace FQ := FQ.trans_nil fE
                generalize w8.alloc (.cells Z 5) = wE at *
                clear fE
                refine take_c2 3 5 rfl rfl (by kernel_rfl) (by rfl) (by rfl) (fun K hK => ?_) (fun K hK => ?_)
                · skip
                  have cv := C8.out.2 wE C8.out.1
                  go_simp
                  refine hK.out _ _ trivial (fun hHx => ?_)
                  clear hK hHx cv
                  try simp only [Act.put, List.setIfInBounds_toArray, List.set_cons_zero, List.set_cons_succ]
                  refine take_c 5 rfl (by kernel_rfl) (by rfl) (fun K hK => ?_)
                  have cv := CE.out.2 wE CE.out.1
                  go_simp
                  refine hK.out _ _ trivial (fun hHx => ?_)
                  clear hK hHx cv
                  try simp only [Act.put, List.setIfInBounds_toArray, List.set_cons_zero, List.set_cons_succ]
                  refine take_w 6 (some 89) (v := ?_) rfl rfl (by kernel_rfl) (by kernel_rfl) (by kernel_rfl) (fun _ _ _ h => h) (by rfl) ?_ hHeld ?_
                  rotate_left
                  · (intro w hSw; (try dsimp only at hSw); go_simp; try with_reducible rfl)
                  simp only [Act.put, List.setIfInBounds_toArray, List.set_cons_zero, List.set_cons_succ]
                  refine wpAnyH_done (by kernel_rfl) ?_ _
                  go_wp2_with fail
                  exact ⟨⟨m + 1, by omega, by omega, by go_num, LL⟩, by simp [intOf]; omega⟩
                · skip
                  have cv := CE.out.2 wE CE.out.1
                  go_simp
                  refine hK.out _ _ trivial (fun hHx => ?_)
                  clear hK hHx cv
                  try simp only [Act.put, List.setIfInBounds_toArray, List.set_cons_zero, List.set_cons_succ]
                  refine take_c 3 rfl (by kernel_rfl) (by rfl) (fun K hK => ?_)
                  have cv := C8.out.2 wE C8.out.1
                  go_simp
                  refine hK.out _ _ trivial (fun hHx => ?_)
                  clear hK hHx cv
                  try simp only [Act.put, List.setIfInBounds_toArray, List.set_cons_zero, List.set_cons_succ]
                  refine take_w 6 (some 89) (v := ?_) rfl rfl (by kernel_rfl) (by kernel_rfl) (by kernel_rfl) (fun _ _ _ h => h) (by rfl) ?_ hHeld ?_
                  rotate_left
                  · (intro w hSw; (try dsimp only at hSw); go_simp; try with_reducible rfl)
                  simp only [Act.put, List.setIfInBounds_toArray, List.set_cons_zero, List.set_cons_succ]
                  refine wpAnyH_done (by kernel_rfl) ?_ _
                  go_wp2_with fail
                  exact ⟨⟨m + 1, by omega, by omega, by go_num, LL⟩, by simp [intOf]; omega⟩
            · skip
              go_simp
              refine hK.out _ _ trivial (fun hHx => ?_)
              clear hK hHx
              try simp only [Act.put, List.setIfInBounds_toArray, List.set_cons_zero, List.set_cons_succ]
              have fE : Fr [] wD (wD.alloc (.cells Z 5)) := (Fr.refl [] wD).alloc _
              have CE := Lib.hid (And.intro (Fr.refl [] (wD.alloc (.cells Z 5))) (CV.out wD))
              try have C8 := Lib.hid (And.intro (C8.out.1.trans_nil fE) C8.out.2)
              replace LL := LL.keep fE
              replace FQ := FQ.trans_nil fE
              generalize wD.alloc (.cells Z 5) = wE at *
              clear fE
              refine take_c2 2 5 rfl rfl (by kernel_rfl) (by rfl) (by rfl) (fun K hK => ?_) (fun K hK => ?_)
              · skip
                go_simp
                refine (CS.out _ FQ).mono ?_
                rintro e w8 ⟨v8, rfl, r8, f8⟩
                rw [zB512_len] at r8
                obtain ⟨A8, c8, rfl, -, -, -, -, -⟩ := r8.shape
                have z8 := r8.rdD
                have cv8 : ∀ w', Fr [] w8 w' → (convert 41 9 (.slice A8 512 c8)).run Tryz.prog w' = .ok (.string ⟨zB512.toArray⟩) w' := fun w' f => conv_str Tryz.underlying41 Tryz.underlying5 Tryz.underlying9 w' _ zB512 _ c8 zB512_len (z8.1.keep_nil f) z8.2.2
                have C8 := Lib.hid (And.intro (Fr.refl [] w8) cv8)
                try have CE := Lib.hid (And.intro (CE.out.1.trans_nil f8) CE.out.2)
                replace LL := LL.keep f8
                replace FQ := FQ.trans_nil f8
                refine hK.out _ _ trivial (fun hHx => ?_)
                clear hK hHx r8 f8 z8 cv8
                try simp only [Act.put, List.setIfInBounds_toArray, List.set_cons_zero, List.set_cons_succ]
                refine take_c2 3 5 rfl rfl (by kernel_rfl) (by rfl) (by rfl) (fun K hK => ?_) (fun K hK => ?_)
                · skip
                  have cv := C8.out.2 w8 C8.out.1
                  go_simp
                  refine hK.out _ _ trivial (fun hHx => ?_)
                  clear hK hHx cv
                  try simp only [Act.put, List.setIfInBounds_toArray, List.set_cons_zero, List.set_cons_succ]
                  refine take_c 5 rfl (by kernel_rfl) (by rfl) (fun K hK => ?_)
                  have cv := CE.out.2 w8 CE.out.1
                  go_simp
                  refine hK.out _ _ trivial (fun hHx => ?_)
                  clear hK hHx cv
                  try simp only [Act.put, List.setIfInBounds_toArray, List.set_cons_zero, List.set_cons_succ]
                  refine take_w 6 (some 89) (v := ?_) rfl rfl (by kernel_rfl) (by kernel_rfl) (by kernel_rfl) (fun _ _ _ h => h) (by rfl) ?_ hHeld ?_
                  rotate_left
                  · (intro w hSw; (try dsimp only at hSw); go_simp; try with_reducible rfl)
                  simp only [Act.put, List.setIfInBounds_toArray, List.set_cons_zero, List.set_cons_succ]
                  refine wpAnyH_done (by kernel_rfl) ?_ _
                  go_wp2_with fail
                  exact ⟨⟨m + 1, by omega, by omega, by go_num, LL⟩, by simp [intOf]; omega⟩
                · skip
                  have cv := CE.out.2 w8 CE.out.1
                  go_simp
                  refine hK.out _ _ trivial (fun hHx => ?_)
                  clear hK hHx cv
                  try simp only [Act.put, List.setIfInBounds_toArray, List.set_cons_zero, List.set_cons_succ]
                  refine take_c 3 rfl (by kernel_rfl) (by rfl) (fun K hK => ?_)
                  have cv := C8.out.2 w8 C8.out.1
                  go_simp
                  refine hK.out _ _ trivial (fun hHx => ?_)
                  clear hK hHx cv
                  try simp only [Act.put, List.setIfInBounds_toArray, List.set_cons_zero, List.set_cons_succ]
                  refine take_w 6 (some 89) (v := ?_) rfl rfl (by kernel_rfl) (by kernel_rfl) (by kernel_rfl) (fun _ _ _ h => h) (by rfl) ?_ hHeld ?_
                  rotate_left
                  · (intro w hSw; (try dsimp only at hSw); go_simp; try with_reducible rfl)
                  simp only [Act.put, List.setIfInBounds_toArray, List.set_cons_zero, List.set_cons_succ]
                  refine wpAnyH_done (by kernel_rfl) ?_ _
                  go_wp2_with fail
                  exact ⟨⟨m + 1, by omega, by omega, by go_num, LL⟩, by simp [intOf]; omega⟩
              · skip
                have cv := CE.out.2 wE CE.out.1
                go_simp
                refine hK.out _ _ trivial (fun hHx => ?_)
                clear hK hHx cv
                try simp only [Act.put, List.setIfInBounds_toArray, List.set_cons_zero, List.set_cons_succ]
                refine take_c 2 rfl (by kernel_rfl) (by rfl) (fun K hK => ?_)
                go_simp
                refine (CS.out _ FQ).mono ?_
                rintro e w8 ⟨v8, rfl, r8, f8⟩
                rw [zB512_len] at r8
                obtain ⟨A8, c8, rfl, -, -, -, -, -⟩ := r8.shape
                have z8 := r8.rdD
                have cv8 : ∀ w', Fr [] w8 w' → (convert 41 9 (.slice A8 512 c8)).run Tryz.prog w' = .ok (.string ⟨zB512.toArray⟩) w' := fun w' f => conv_str Tryz.underlying41 Tryz.underlying5 Tryz.underlying9 w' _ zB512 _ c8 zB512_len (z8.1.keep_nil f) z8.2.2
                have C8 := Lib.hid (And.intro (Fr.refl [] w8) cv8)
                try have CE := Lib.hid (And.intro (CE.out.1.trans_nil f8) CE.out.2)
                replace LL := LL.keep f8
                replace FQ := FQ.trans_nil f8
                refine hK.out _ _ trivial (fun hHx => ?_)
                clear hK hHx r8 f8 z8 cv8
                try simp only [Act.put, List.setIfInBounds_toArray, List.set_cons_zero, List.set_cons_succ]
                refine take_c 3 rfl (by kernel_rfl) (by rfl) (fun K hK => ?_)
                have cv := C8.out.2 w8 C8.out.1
                go_simp
                refine hK.out _ _ trivial (fun hHx => ?_)
                clear hK hHx cv
                try simp only [Act.put, List.setIfInBounds_toArray, List.set_cons_zero, List.set_cons_succ]
                refine take_w 6 (some 89) (v := ?_) rfl rfl (by kernel_rfl) (by kernel_rfl) (by kernel_rfl) (fun _ _ _ h => h) (by rfl) ?_ hHeld ?_
                rotate_left
                · (intro w hSw; (try dsimp only at hSw); go_simp; try with_reducible rfl)
                simp only [Act.put, List.setIfInBounds_toArray, List.set_cons_zero, List.set_cons_succ]
                refine wpAnyH_done (by kernel_rfl) ?_ _
                go_wp2_with fail
                exact ⟨⟨m + 1, by omega, by omega, by go_num, LL⟩, by simp [intOf]; omega⟩
          · have dm : ¬ ((m : Int) < 20) := by omega
            clear rmk cvn
            go_wp2_with fail
            have hLL := Lib.hid LL
            clear LL
            go_loopw [9] (fun i wr => ∃ m : Nat, 20 ≤ m ∧ m ≤ 40 ∧ i = .int .i64 m ∧ LCa W wr P C) (fun i _ => 40 - (intOf i).toNat)
            case atStart => exact ⟨20, by omega, by omega, rfl, hLL.out⟩
            case round =>
              clear hLL dm
              obtain ⟨q, hq1, hq2, rfl, LL⟩ := hrel
              by_cases hqlt : q < 40
              · have dq : (q : Int) < 40 := by omega
                obtain ⟨R, hR⟩ : ∃ R, C.D.sureR q = R := ⟨_, rfl⟩
                obtain ⟨O, hcw, -⟩ := id LL
                have cr := caRead_any hcw (q : Int) (wfZ_of (by omega))
                rw [ZZ.out.2.1 q, ZZ.out.2.2 q (by omega) dq, hR] at cr
                have HR := Lib.hid hR
                clear hcw hR
                go_wp2_with fail
                refine cr.mono ?_
                rintro e w8 ⟨v8, rfl, r8, f8⟩
                obtain ⟨A8, c8, rfl, -, -, -, -, -⟩ := r8.shape
                have z8 := r8.rdD
                replace LL := LL.keep f8
                clear cr f8 r8
                go_upto_region 23 with fail
                obtain ⟨wD, hwD⟩ : ∃ wD, w8.drew = wD := ⟨_, rfl⟩
                have fD : Fr [] w8 wD := by rw [← hwD]; exact (Fr.refl [] w8).drew
                replace LL := LL.keep fD
                have rd8 := z8.1.keep_nil fD
                obtain ⟨O, hcw, -⟩ := id LL
                have cs := dkSure_any hcw.dsk (q : Int)
                rw [HR.out, HP.out] at cs
                clear hcw
                have mkS : ∀ w' : World, Fr [] wD w' → ((convert 41 9 (.slice A8 R.length c8)).run Tryz.prog w' = .ok (.string ⟨R.toArray⟩) w' ∧ Fr [] wD w') := fun w' f =>
                  ⟨conv_str Tryz.underlying41 Tryz.underlying5 Tryz.underlying9 w' _ R _ c8 rfl (rd8.keep_nil f) z8.2.2, f⟩
                refine wp_region_held_drew (S := fun w' => (convert 41 9 (.slice A8 R.length c8)).run Tryz.prog w' = .ok (.string ⟨R.toArray⟩) w' ∧ Fr [] wD w') (by kernel_rfl) (by rw [hwD]; exact mkS _ (Fr.refl _ _)) (fun hHeld => ?_)
                rw [hwD] at hHeld ⊢
                have MK := Lib.hid mkS
                clear hwD fD mkS rd8 z8
                refine take_w 0 (some 100) (v := ?_) rfl rfl (by kernel_rfl) (by kernel_rfl) (by kernel_rfl) (fun _ _ _ h => h) (by rfl) ?_ hHeld ?_
                rotate_left
                · (intro w hSw; (try dsimp only at hSw); go_simp; try with_reducible rfl)
                simp only [Act.put, List.setIfInBounds_toArray, List.set_cons_zero, List.set_cons_succ]
                refine take_w 1 (some 101) (v := ?_) rfl rfl (by kernel_rfl) (by kernel_rfl) (by kernel_rfl) (fun _ _ _ h => h) (by rfl) ?_ hHeld ?_
                rotate_left
                · (intro w hSw; (try dsimp only at hSw); go_simp; try with_reducible rfl)
                simp only [Act.put, List.setIfInBounds_toArray, List.set_cons_zero, List.set_cons_succ]
                refine take_w 2 (some 102) (v := ?_) rfl rfl (by kernel_rfl) (by kernel_rfl) (by kernel_rfl) (fun _ _ _ h => h) (by rfl) ?_ hHeld ?_
                rotate_left
                · (intro w hSw; (try dsimp only at hSw); go_simp; try with_reducible rfl)
                simp only [Act.put, List.setIfInBounds_toArray, List.set_cons_zero, List.set_cons_succ]
                refine take_w 3 (some 103) (v := ?_) rfl rfl (by kernel_rfl) (by kernel_rfl) (by kernel_rfl) (fun _ _ _ h => h) (by rfl) ?_ hHeld ?_
                rotate_left
                · (intro w hSw; (try dsimp only at hSw); go_simp; try with_reducible rfl)
                simp only [Act.put, List.setIfInBounds_toArray, List.set_cons_zero, List.set_cons_succ]
                refine take_w 4 (some 104) (v := ?_) rfl rfl (by kernel_rfl) (by kernel_rfl) (by kernel_rfl) (fun _ _ _ h => h) (by rfl) ?_ hHeld ?_
                rotate_left
                · (intro w hSw; (try dsimp only at hSw); go_simp; try with_reducible rfl)
                simp only [Act.put, List.setIfInBounds_toArray, List.set_cons_zero, List.set_cons_succ]
                refine take_w 5 (some 105) (v := ?_) rfl rfl (by kernel_rfl) (by kernel_rfl) (by kernel_rfl) (fun _ _ _ h => h) (by rfl) ?_ hHeld ?_
                rotate_left
                · (intro w hSw; (try dsimp only at hSw); go_simp; try with_reducible rfl)
                simp only [Act.put, List.setIfInBounds_toArray, List.set_cons_zero, List.set_cons_succ]
                refine take_w 6 (some 106) (v := ?_) rfl rfl (by kernel_rfl) (by kernel_rfl) (by kernel_rfl) (fun _ _ _ h => h) (by rfl) ?_ hHeld ?_
                rotate_left
                · (intro w hSw; (try dsimp only at hSw); go_simp; try with_reducible rfl)
                simp only [Act.put, List.setIfInBounds_toArray, List.set_cons_zero, List.set_cons_succ]
                refine take_c 7 rfl (by kernel_rfl) (by rfl) (fun K hK => ?_)
                go_simp
                refine cs.mono ?_
                rintro e w9 ⟨v9, rfl, r9, f9⟩
                obtain ⟨A9, c9, rfl, -, -, -, -, -⟩ := r9.shape
                have cv9 : (convert 41 9 (.slice A9 R.length c9)).run Tryz.prog w9 = .ok (.string ⟨R.toArray⟩) w9 := conv_str Tryz.underlying41 Tryz.underlying5 Tryz.underlying9 w9 _ R _ c9 rfl r9.rdD.1 r9.rdD.2.2
                replace LL := LL.keep f9
                refine hK.out _ _ (MK.out _ f9) (fun hHx => ?_)
                clear hK hHeld r9 cs
                try simp only [Act.put, List.setIfInBounds_toArray, List.set_cons_zero, List.set_cons_succ]
                refine take_c 8 rfl (by kernel_rfl) (by rfl) (fun K hK => ?_)
                go_simp
                refine hK.out _ _ (MK.out _ f9) (fun hHeld => ?_)
                clear hK hHx cv9
                try simp only [Act.put, List.setIfInBounds_toArray, List.set_cons_zero, List.set_cons_succ]
                refine take_w 9 (some 109) (v := ?_) rfl rfl (by kernel_rfl) (by kernel_rfl) (by kernel_rfl) (fun _ _ _ h => h) (by rfl) ?_ hHeld ?_
                rotate_left
                · (intro w hSw; (try dsimp only at hSw); go_simp; try with_reducible rfl)
                simp only [Act.put, List.setIfInBounds_toArray, List.set_cons_zero, List.set_cons_succ]
                refine take_w 10 (some 110) (v := ?_) rfl rfl (by kernel_rfl) (by kernel_rfl) (by kernel_rfl) (fun _ _ _ h => h) (by rfl) ?_ hHeld ?_
                rotate_left
                · (intro w hSw; (try dsimp only at hSw); go_simp; try with_reducible rfl)
                simp only [Act.put, List.setIfInBounds_toArray, List.set_cons_zero, List.set_cons_succ]
                refine wpAnyH_done (by kernel_rfl) ?_ _
                go_wp2_with fail
                exact ⟨⟨q + 1, by omega, by omega, by go_num, LL⟩, by simp [intOf]; omega⟩
              · have dq : ¬ ((q : Int) < 40) := by omega
                go_wp2_with fail
                go_ret
                exact ⟨rfl, LL.fr⟩
      · have d0 : ¬ (k : Int) < n := by omega
        have cc := LL.clean hK HH.out (by omega)
        obtain ⟨z1, z2, z3, z4, z5⟩ := HH.out.clean (by omega)
        obtain ⟨C, hC⟩ : ∃ C, cleanM M = C := ⟨_, rfl⟩
        rw [hC] at cc z1 z2 z3 z4 z5
        have ZZ := Lib.hid (And.intro z3 (And.intro z4 z5))
        clear LL hC z3 z4 z5
        go_wp2_with fail
        refine cc.mono ?_
        rintro e w6 ⟨rfl, LL⟩
        obtain ⟨O, hcw, -⟩ := id LL
        have cu := caUsed_any hcw
        rw [z1] at cu
        clear cc z1
        go_wp2_with fail
        refine cu.mono ?_
        rintro e w' ⟨rfl, rfl⟩
        obtain ⟨fv, hsr, hdv⟩ := hcw.srt
        have hkl := keyL_dirty hdv
        rw [z2] at hkl
        have cd := caDirty_at hcw.c2 hsr hkl (Nat.le_refl _)
        clear cu z2 hcw hsr hdv hkl
        go_wp2_with fail
        refine cd.mono ?_
        rintro e w7 ⟨v7, rfl, r7, f7⟩
        obtain ⟨A7, c7, rfl, -⟩ := r7.shape
        replace LL := LL.keep f7
        clear cd r7 f7
        go_wp2_with fail
        have hLL := Lib.hid LL
        clear LL
        obtain ⟨Z, hZ⟩ : ∃ Z, (List.replicate 512 (Value.int .u8 0)).toArray = Z := ⟨_, rfl⟩
        have rmk : ∀ W : World, (Instr.makeSlice 41 (.int .i64 512) (.int .i64 512)).run Tryz.prog W = .ok (.slice (some ⟨W.heap.size, 0, none⟩) 512 512) (W.alloc (.cells Z 5)) := fun W => by
          rw [← hZ]
          exact run_mk1 slB rfl W .i64 .i64 512 (by omega)
        have cvn : ∀ W W' : World, Fr [] (W.alloc (.cells Z 5)) W' → (convert 41 9 (.slice (some ⟨W.heap.size, 0, none⟩) 512 512)).run Tryz.prog W' = .ok (.string ⟨zB512.toArray⟩) W' := fun W W' f =>
          conv_str Tryz.underlying41 Tryz.underlying5 Tryz.underlying9 _ _ zB512 512 512 zB512_len ((Rd.of_blk (Blk.new W 5 Z) 0 _ (fun j u hu => by
            rw [zB512_vs] at hu
            rw [← hZ, Nat.zero_add, List.getElem?_toArray]
            exact hu)).keep_nil f) (fun h => by cases h)
        clear hZ
        go_loopw [8] (fun i wr => ∃ m : Nat, 1 ≤ m ∧ m ≤ 20 ∧ i = .int .i64 m ∧ LCa W wr P C) (fun i _ => 20 - (intOf i).toNat)
        case atStart => exact ⟨1, by omega, by omega, rfl, hLL.out⟩
        case round =>
          clear hLL
          obtain ⟨m, hm1, hm2, rfl, LL⟩ := hrel
          by_cases hmlt : m < 20
          · have dm : (m : Int) < 20 := by omega
            go_upto_region 17 with fail
            obtain ⟨wD, hwD⟩ : ∃ wD, wr.drew = wD := ⟨_, rfl⟩
            have fD : Fr [] wr wD := by rw [← hwD]; exact (Fr.refl [] wr).drew
            replace LL := LL.keep fD
            obtain ⟨O, hcw, -⟩ := id LL
            have cs : ∀ w', Fr [] wD w' → Calls Tryz.prog 14 #[.pointer (some ⟨p, 0, none⟩), .int .i64 (m : Int)] w' (SureC w' zB512) := fun w' f => by
              have := dkSure_any (hcw.keep_nil f).dsk (m : Int)
              rwa [ZZ.out.1 m (by omega) dm, HP.out] at this
            have CS := Lib.hid cs
            have CV := Lib.hid cvn
            have FQ : Fr [] wD wD := Fr.refl _ _
            clear hcw cs cvn
            refine wp_region_held_drew (S := fun _ => True) (by kernel_rfl) trivial (fun hHeld => ?_)
            rw [hwD]
            clear hwD fD
            refine take_w 0 (some 83) (v := ?_) rfl rfl (by kernel_rfl) (by kernel_rfl) (by kernel_rfl) (fun _ _ _ h => h) (by rfl) ?_ hHeld ?_
            rotate_left
            · (intro w hSw; (try dsimp only at hSw); go_simp; try with_reducible rfl)
            simp only [Act.put, List.setIfInBounds_toArray, List.set_cons_zero, List.set_cons_succ]
            refine take_w 1 (some 84) (v := ?_) rfl rfl (by kernel_rfl) (by kernel_rfl) (by kernel_rfl) (fun _ _ _ h => h) (by rfl) ?_ hHeld ?_
            rotate_left
            · (intro w hSw; (try dsimp only at hSw); go_simp; try with_reducible rfl)
            simp only [Act.put, List.setIfInBounds_toArray, List.set_cons_zero, List.set_cons_succ]
            refine take_c2 2 4 rfl rfl (by kernel_rfl) (by rfl) (by rfl) (fun K hK => ?_) (fun K hK => ?_)
            · skip
              go_simp
              refine (CS.out _ FQ).mono ?_
              rintro e w8 ⟨v8, rfl, r8, f8⟩
              rw [zB512_len] at r8
              obtain ⟨A8, c8, rfl, -, -, -, -, -⟩ := r8.shape
              have z8 := r8.rdD
              have cv8 : ∀ w', Fr [] w8 w' → (convert 41 9 (.slice A8 512 c8)).run Tryz.prog w' = .ok (.string ⟨zB512.toArray⟩) w' := fun w' f => conv_str Tryz.underlying41 Tryz.underlying5 Tryz.underlying9 w' _ zB512 _ c8 zB512_len (z8.1.keep_nil f) z8.2.2
              have C8 := Lib.hid (And.intro (Fr.refl [] w8) cv8)
              try have CE := Lib.hid (And.intro (CE.out.1.trans_nil f8) CE.out.2)
              replace LL := LL.keep f8
              replace FQ := FQ.trans_nil f8
              refine hK.out _ _ trivial (fun hHx => ?_)
              clear hK hHx r8 f8 z8 cv8
              try simp only [Act.put, List.setIfInBounds_toArray, List.set_cons_zero, List.set_cons_succ]
              refine take_c2 3 4 rfl rfl (by kernel_rfl) (by rfl) (by rfl) (fun K hK => ?_) (fun K hK => ?_)
              · skip
                have cv := C8.out.2 w8 C8.out.1
                go_simp
                refine hK.out _ _ trivial (fun hHx => ?_)
                clear hK hHx cv
                try simp only [Act.put, List.setIfInBounds_toArray, List.set_cons_zero, List.set_cons_succ]
                refine take_c 4 rfl (by kernel_rfl) (by rfl) (fun K hK => ?_)
                go_simp
                refine hK.out _ _ trivial (fun hHx => ?_)
                clear hK hHx
                try simp only [Act.put, List.setIfInBounds_toArray, List.set_cons_zero, List.set_cons_succ]
                have fE : Fr [] w8 (w8.alloc (.cells Z 5)) := (Fr.refl [] w8).alloc _
                have CE := Lib.hid (And.intro (Fr.refl [] (w8.alloc (.cells Z 5))) (CV.out w8))
                try have C8 := Lib.hid (And.intro (C8.out.1.trans_nil fE) C8.out.2)
                replace LL := LL.keep fE
                replace FQ := FQ.trans_nil fE
                generalize w8.alloc (.cells Z 5) = wE at *
                clear fE
                refine take_c 5 rfl (by kernel_rfl) (by rfl) (fun K hK => ?_)
                have cv := CE.out.2 wE CE.out.1
                go_simp
                refine hK.out _ _ trivial (fun hHx => ?_)
                clear hK hHx cv
                try simp only [Act.put, List.setIfInBounds_toArray, List.set_cons_zero, List.set_cons_succ]
                refine take_w 6 (some 89) (v := ?_) rfl rfl (by kernel_rfl) (by kernel_rfl) (by kernel_rfl) (fun _ _ _ h => h) (by rfl) ?_ hHeld ?_
                rotate_left
                · (intro w hSw; (try dsimp only at hSw); go_simp; try with_reducible rfl)
                simp only [Act.put, List.setIfInBounds_toArray, List.set_cons_zero, List.set_cons_succ]
                refine wpAnyH_done (by kernel_rfl) ?_ _
                go_wp2_with fail
                exact ⟨⟨m + 1, by omega, by omega, by go_num, LL⟩, by simp [intOf]; omega⟩
              · skip
                go_simp
                refine hK.out _ _ trivial (fun hHx => ?_)
                clear hK hHx
                try simp only [Act.put, List.setIfInBounds_toArray, List.set_cons_zero, List.set_cons_succ]
                have fE : Fr [] w8 (w8.alloc (.cells Z 5)) := (Fr.refl [] w8).alloc _
                have CE := Lib.hid (And.intro (Fr.refl [] (w8.alloc (.cells Z 5))) (CV.out w8))
                try have C8 := Lib.hid (And.intro (C8.out.1.trans_nil fE) C8.out.2)
                replace LL := LL.keep fE
                replace FQ := FQ.trans_nil fE
                generalize w8.alloc (.cells Z 5) = wE at *
                clear fE
                refine take_c2 3 5 rfl rfl (by kernel_rfl) (by rfl) (by rfl) (fun K hK => ?_) (fun K hK => ?_)
                · skip
                  have cv := C8.out.2 wE C8.out.1
                  go_simp
                  refine hK.out _ _ trivial (fun hHx => ?_)
                  clear hK hHx cv
                  try simp only [Act.put, List.setIfInBounds_toArray, List.set_cons_zero, List.set_cons_succ]
                  refine take_c 5 rfl (by kernel_rfl) (by rfl) (fun K hK => ?_)
                  have cv := CE.out.2 wE CE.out.1
                  go_simp
                  refine hK.out _ _ trivial (fun hHx => ?_)
                  clear hK hHx cv
                  try simp only [Act.put, List.setIfInBounds_toArray, List.set_cons_zero, List.set_cons_succ]
                  refine take_w 6 (some 89) (v := ?_) rfl rfl (by kernel_rfl) (by kernel_rfl) (by kernel_rfl) (fun _ _ _ h => h) (by rfl) ?_ hHeld ?_
                  rotate_left
                  · (intro w hSw; (try dsimp only at hSw); go_simp; try with_reducible rfl)
                  simp only [Act.put, List.setIfInBounds_toArray, List.set_cons_zero, List.set_cons_succ]
                  refine wpAnyH_done (by kernel_rfl) ?_ _
                  go_wp2_with fail
                  exact ⟨⟨m + 1, by omega, by omega, by go_num, LL⟩, by simp [intOf]; omega⟩
                · skip
                  have cv := CE.out.2 wE CE.out.1
                  go_simp
                  refine hK.out _ _ trivial (fun hHx => ?_)
                  clear hK hHx cv
                  try simp only [Act.put, List.setIfInBounds_toArray, List.set_cons_zero, List.set_cons_succ]
                  refine take_c 3 rfl (by kernel_rfl) (by rfl) (fun K hK => ?_)
                  have cv := C8.out.2 wE C8.out.1
                  go_simp
                  refine hK.out _ _ trivial (fun hHx => ?_)
                  clear hK hHx cv
                  try simp only [Act.put, List.setIfInBounds_toArray, List.set_cons_zero, List.set_cons_succ]
                  refine take_w 6 (some 89) (v := ?_) rfl rfl (by kernel_rfl) (by kernel_rfl) (by kernel_rfl) (fun _ _ _ h => h) (by rfl) ?_ hHeld ?_
                  rotate_left
                  · (intro w hSw; (try dsimp only at hSw); go_simp; try with_reducible rfl)
                  simp only [Act.put, List.setIfInBounds_toArray, List.set_cons_zero, List.set_cons_succ]
                  refine wpAnyH_done (by kernel_rfl) ?_ _
                  go_wp2_with fail
                  exact ⟨⟨m + 1, by omega, by omega, by go_num, LL⟩, by simp [intOf]; omega⟩
            · skip
              go_simp
              refine hK.out _ _ trivial (fun hHx => ?_)
              clear hK hHx
              try simp only [Act.put, List.setIfInBounds_toArray, List.set_cons_zero, List.set_cons_succ]
              have fE : Fr [] wD (wD.alloc (.cells Z 5)) := (Fr.refl [] wD).alloc _
              have CE := Lib.hid (And.intro (Fr.refl [] (wD.alloc (.cells Z 5))) (CV.out wD))
              try have C8 := Lib.hid (And.intro (C8.out.1.trans_nil fE) C8.out.2)
              replace LL := LL.keep fE
              replace FQ := FQ.trans_nil fE
              generalize wD.alloc (.cells Z 5) = wE at *
              clear fE
              refine take_c2 2 5 rfl rfl (by kernel_rfl) (by rfl) (by rfl) (fun K hK => ?_) (fun K hK => ?_)
              · skip
                go_simp
                refine (CS.out _ FQ).mono ?_
                rintro e w8 ⟨v8, rfl, r8, f8⟩
                rw [zB512_len] at r8
                obtain ⟨A8, c8, rfl, -, -, -, -, -⟩ := r8.shape
                have z8 := r8.rdD
                have cv8 : ∀ w', Fr [] w8 w' → (convert 41 9 (.slice A8 512 c8)).run Tryz.prog w' = .ok (.string ⟨zB512.toArray⟩) w' := fun w' f => conv_str Tryz.underlying41 Tryz.underlying5 Tryz.underlying9 w' _ zB512 _ c8 zB512_len (z8.1.keep_nil f) z8.2.2
                have C8 := Lib.hid (And.intro (Fr.refl [] w8) cv8)
                try have CE := Lib.hid (And.intro (CE.out.1.trans_nil f8) CE.out.2)
                replace LL := LL.keep f8
                replace FQ := FQ.trans_nil f8
                refine hK.out _ _ trivial (fun hHx => ?_)
                clear hK hHx r8 f8 z8 cv8
                try simp only [Act.put, List.setIfInBounds_toArray, List.set_cons_zero, List.set_cons_succ]
                refine take_c2 3 5 rfl rfl (by kernel_rfl) (by rfl) (by rfl) (fun K hK => ?_) (fun K hK => ?_)
                · skip
                  have cv := C8.out.2 w8 C8.out.1
                  go_simp
                  refine hK.out _ _ trivial (fun hHx => ?_)
                  clear hK hHx cv
                  try simp only [Act.put, List.setIfInBounds_toArray, List.set_cons_zero, List.set_cons_succ]
                  refine take_c 5 rfl (by kernel_rfl) (by rfl) (fun K hK => ?_)
                  have cv := CE.out.2 w8 CE.out.1
                  go_simp
                  refine hK.out _ _ trivial (fun hHx => ?_)
                  clear hK hHx cv
                  try simp only [Act.put, List.setIfInBounds_toArray, List.set_cons_zero, List.set_cons_succ]
                  refine take_w 6 (some 89) (v := ?_) rfl rfl (by kernel_rfl) (by kernel_rfl) (by kernel_rfl) (fun _ _ _ h => h) (by rfl) ?_ hHeld ?_
                  rotate_left
                  · (intro w hSw; (try dsimp only at hSw); go_simp; try with_reducible rfl)
                  simp only [Act.put, List.setIfInBounds_toArray, List.set_cons_zero, List.set_cons_succ]
                  refine wpAnyH_done (by kernel_rfl) ?_ _
                  go_wp2_with fail
                  exact ⟨⟨m + 1, by omega, by omega, by go_num, LL⟩, by simp [intOf]; omega⟩
                · skip
                  have cv := CE.out.2 w8 CE.out.1
                  go_simp
                  refine hK.out _ _ trivial (fun hHx => ?_)
                  clear hK hHx cv
                  try simp only [Act.put, List.setIfInBounds_toArray, List.set_cons_zero, List.set_cons_succ]
                  refine take_c 3 rfl (by kernel_rfl) (by rfl) (fun K hK => ?_)
                  have cv := C8.out.2 w8 C8.out.1
                  go_simp
                  refine hK.out _ _ trivial (fun hHx => ?_)
                  clear hK hHx cv
                  try simp only [Act.put, List.setIfInBounds_toArray, List.set_cons_zero, List.set_cons_succ]
                  refine take_w 6 (some 89) (v := ?_) rfl rfl (by kernel_rfl) (by kernel_rfl) (by kernel_rfl) (fun _ _ _ h => h) (by rfl) ?_ hHeld ?_
                  rotate_left
                  · (intro w hSw; (try dsimp only at hSw); go_simp; try with_reducible rfl)
                  simp only [Act.put, List.setIfInBounds_toArray, List.set_cons_zero, List.set_cons_succ]
                  refine wpAnyH_done (by kernel_rfl) ?_ _
                  go_wp2_with fail
                  exact ⟨⟨m + 1, by omega, by omega, by go_num, LL⟩, by simp [intOf]; omega⟩
              · skip
                have cv := CE.out.2 wE CE.out.1
                go_simp
                refine hK.out _ _ trivial (fun hHx => ?_)
                clear hK hHx cv
                try simp only [Act.put, List.setIfInBounds_toArray, List.set_cons_zero, List.set_cons_succ]
                refine take_c 2 rfl (by kernel_rfl) (by rfl) (fun K hK => ?_)
                go_simp
                refine (CS.out _ FQ).mono ?_
                rintro e w8 ⟨v8, rfl, r8, f8⟩
                rw [zB512_len] at r8
                obtain ⟨A8, c8, rfl, -, -, -, -, -⟩ := r8.shape
                have z8 := r8.rdD
                have cv8 : ∀ w', Fr [] w8 w' → (convert 41 9 (.slice A8 512 c8)).run Tryz.prog w' = .ok (.string ⟨zB512.toArray⟩) w' := fun w' f => conv_str Tryz.underlying41 Tryz.underlying5 Tryz.underlying9 w' _ zB512 _ c8 zB512_len (z8.1.keep_nil f) z8.2.2
                have C8 := Lib.hid (And.intro (Fr.refl [] w8) cv8)
                try have CE := Lib.hid (And.intro (CE.out.1.trans_nil f8) CE.out.2)
                replace LL := LL.keep f8
                replace FQ := FQ.trans_nil f8
                refine hK.out _ _ trivial (fun hHx => ?_)
                clear hK hHx r8 f8 z8 cv8
                try simp only [Act.put, List.setIfInBounds_toArray, List.set_cons_zero, List.set_cons_succ]
                refine take_c 3 rfl (by kernel_rfl) (by rfl) (fun K hK => ?_)
                have cv := C8.out.2 w8 C8.out.1
                go_simp
                refine hK.out _ _ trivial (fun hHx => ?_)
                clear hK hHx cv
                try simp only [Act.put, List.setIfInBounds_toArray, List.set_cons_zero, List.set_cons_succ]
                refine take_w 6 (some 89) (v := ?_) rfl rfl (by kernel_rfl) (by kernel_rfl) (by kernel_rfl) (fun _ _ _ h => h) (by rfl) ?_ hHeld ?_
                rotate_left
                · (intro w hSw; (try dsimp only at hSw); go_simp; try with_reducible rfl)
                simp only [Act.put, List.setIfInBounds_toArray, List.set_cons_zero, List.set_cons_succ]
                refine wpAnyH_done (by kernel_rfl) ?_ _
                go_wp2_with fail
                exact ⟨⟨m + 1, by omega, by omega, by go_num, LL⟩, by simp [intOf]; omega⟩
          · have dm : ¬ ((m : Int) < 20) := by omega
            clear rmk cvn
            go_wp2_with fail
            have hLL := Lib.hid LL
            clear LL
            go_loopw [9] (fun i wr => ∃ m : Nat, 20 ≤ m ∧ m ≤ 40 ∧ i = .int .i64 m ∧ LCa W wr P C) (fun i _ => 40 - (intOf i).toNat)
            case atStart => exact ⟨20, by omega, by omega, rfl, hLL.out⟩
            case round =>
              clear hLL dm
              obtain ⟨q, hq1, hq2, rfl, LL⟩ := hrel
              by_cases hqlt : q < 40
              · have dq : (q : Int) < 40 := by omega
                obtain ⟨R, hR⟩ : ∃ R, C.D.sureR q = R := ⟨_, rfl⟩
                obtain ⟨O, hcw, -⟩ := id LL
                have cr := caRead_any hcw (q : Int) (wfZ_of (by omega))
                rw [ZZ.out.2.1 q, ZZ.out.2.2 q (by omega) dq, hR] at cr
                have HR := Lib.hid hR
                clear hcw hR
                go_wp2_with fail
                refine cr.mono ?_
                rintro e w8 ⟨v8, rfl, r8, f8⟩
                obtain ⟨A8, c8, rfl, -, -, -, -, -⟩ := r8.shape
                have z8 := r8.rdD
                replace LL := LL.keep f8
                clear cr f8 r8
                go_upto_region 23 with fail
                obtain ⟨wD, hwD⟩ : ∃ wD, w8.drew = wD := ⟨_, rfl⟩
                have fD : Fr [] w8 wD := by rw [← hwD]; exact (Fr.refl [] w8).drew
                replace LL := LL.keep fD
                have rd8 := z8.1.keep_nil fD
                obtain ⟨O, hcw, -⟩ := id LL
                have cs := dkSure_any hcw.dsk (q : Int)
                rw [HR.out, HP.out] at cs
                clear hcw
                have mkS : ∀ w' : World, Fr [] wD w' → ((convert 41 9 (.slice A8 R.length c8)).run Tryz.prog w' = .ok (.string ⟨R.toArray⟩) w' ∧ Fr [] wD w') := fun w' f =>
                  ⟨conv_str Tryz.underlying41 Tryz.underlying5 Tryz.underlying9 w' _ R _ c8 rfl (rd8.keep_nil f) z8.2.2, f⟩
                refine wp_region_held_drew (S := fun w' => (convert 41 9 (.slice A8 R.length c8)).run Tryz.prog w' = .ok (.string ⟨R.toArray⟩) w' ∧ Fr [] wD w') (by kernel_rfl) (by rw [hwD]; exact mkS _ (Fr.refl _ _)) (fun hHeld => ?_)
                rw [hwD] at hHeld ⊢
                have MK := Lib.hid mkS
                clear hwD fD mkS rd8 z8
                refine take_w 0 (some 100) (v := ?_) rfl rfl (by kernel_rfl) (by kernel_rfl) (by kernel_rfl) (fun _ _ _ h => h) (by rfl) ?_ hHeld ?_
                rotate_left
                · (intro w hSw; (try dsimp only at hSw); go_simp; try with_reducible rfl)
                simp only [Act.put, List.setIfInBounds_toArray, List.set_cons_zero, List.set_cons_succ]
                refine take_w 1 (some 101) (v := ?_) rfl rfl (by kernel_rfl) (by kernel_rfl) (by kernel_rfl) (fun _ _ _ h => h) (by rfl) ?_ hHeld ?_
                rotate_left
                · (intro w hSw; (try dsimp only at hSw); go_simp; try with_reducible rfl)
                simp only [Act.put, List.setIfInBounds_toArray, List.set_cons_zero, List.set_cons_succ]
                refine take_w 2 (some 102) (v := ?_) rfl rfl (by kernel_rfl) (by kernel_rfl) (by kernel_rfl) (fun _ _ _ h => h) (by rfl) ?_ hHeld ?_
                rotate_left
                · (intro w hSw; (try dsimp only at hSw); go_simp; try with_reducible rfl)
                simp only [Act.put, List.setIfInBounds_toArray, List.set_cons_zero, List.set_cons_succ]
                refine take_w 3 (some 103) (v := ?_) rfl rfl (by kernel_rfl) (by kernel_rfl) (by kernel_rfl) (fun _ _ _ h => h) (by rfl) ?_ hHeld ?_
                rotate_left
                · (intro w hSw; (try dsimp only at hSw); go_simp; try with_reducible rfl)
                simp only [Act.put, List.setIfInBounds_toArray, List.set_cons_zero, List.set_cons_succ]
                refine take_w 4 (some 104) (v := ?_) rfl rfl (by kernel_rfl) (by kernel_rfl) (by kernel_rfl) (fun _ _ _ h => h) (by rfl) ?_ hHeld ?_
                rotate_left
                · (intro w hSw; (try dsimp only at hSw); go_simp; try with_reducible rfl)
                simp only [Act.put, List.setIfInBounds_toArray, List.set_cons_zero, List.set_cons_succ]
                refine take_w 5 (some 105) (v := ?_) rfl rfl (by kernel_rfl) (by kernel_rfl) (by kernel_rfl) (fun _ _ _ h => h) (by rfl) ?_ hHeld ?_
                rotate_left
                · (intro w hSw; (try dsimp only at hSw); go_simp; try with_reducible rfl)
                simp only [Act.put, List.setIfInBounds_toArray, List.set_cons_zero, List.set_cons_succ]
                refine take_w 6 (some 106) (v := ?_) rfl rfl (by kernel_rfl) (by kernel_rfl) (by kernel_rfl) (fun _ _ _ h => h) (by rfl) ?_ hHeld ?_
                rotate_left
                · (intro w hSw; (try dsimp only at hSw); go_simp; try with_reducible rfl)
                simp only [Act.put, List.setIfInBounds_toArray, List.set_cons_zero, List.set_cons_succ]
                refine take_c 7 rfl (by kernel_rfl) (by rfl) (fun K hK => ?_)
                go_simp
                refine cs.mono ?_
                rintro e w9 ⟨v9, rfl, r9, f9⟩
                obtain ⟨A9, c9, rfl, -, -, -, -, -⟩ := r9.shape
                have cv9 : (convert 41 9 (.slice A9 R.length c9)).run Tryz.prog w9 = .ok (.string ⟨R.toArray⟩) w9 := conv_str Tryz.underlying41 Tryz.underlying5 Tryz.underlying9 w9 _ R _ c9 rfl r9.rdD.1 r9.rdD.2.2
                replace LL := LL.keep f9
                refine hK.out _ _ (MK.out _ f9) (fun hHx => ?_)
                clear hK hHeld r9 cs
                try simp only [Act.put, List.setIfInBounds_toArray, List.set_cons_zero, List.set_cons_succ]
                refine take_c 8 rfl (by kernel_rfl) (by rfl) (fun K hK => ?_)
                go_simp
                refine hK.out _ _ (MK.out _ f9) (fun hHeld => ?_)
                clear hK hHx cv9
                try simp only [Act.put, List.setIfInBounds_toArray, List.set_cons_zero, List.set_cons_succ]
                refine take_w 9 (some 109) (v := ?_) rfl rfl (by kernel_rfl) (by kernel_rfl) (by kernel_rfl) (fun _ _ _ h => h) (by rfl) ?_ hHeld ?_
                rotate_left
                · (intro w hSw; (try dsimp only at hSw); go_simp; try with_reducible rfl)
                simp only [Act.put, List.setIfInBounds_toArray, List.set_cons_zero, List.set_cons_succ]
                refine take_w 10 (some 110) (v := ?_) rfl rfl (by kernel_rfl) (by kernel_rfl) (by kernel_rfl) (fun _ _ _ h => h) (by rfl) ?_ hHeld ?_
                rotate_left
                · (intro w hSw; (try dsimp only at hSw); go_simp; try with_reducible rfl)
                simp only [Act.put, List.setIfInBounds_toArray, List.set_cons_zero, List.set_cons_succ]
                refine wpAnyH_done (by kernel_rfl) ?_ _
                go_wp2_with fail
                exact ⟨⟨q + 1, by omega, by omega, by go_num, LL⟩, by simp [intOf]; omega⟩
              · have dq : ¬ ((q : Int) < 40) := by omega
                go_wp2_with fail
                go_ret
                exact ⟨rfl, LL.fr⟩
end Go.Proofs.YtamifdfkgbaobaaGreatDoor
