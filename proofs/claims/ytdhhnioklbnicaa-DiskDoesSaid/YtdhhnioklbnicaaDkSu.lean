/-
  DiskSure: the walk.
-/
import Derived.Test.YtdhhnioklbnicaaDkSa
set_option linter.unusedSimpArgs false
set_option linter.unusedVariables false
set_option linter.unnecessarySimpa false
namespace Go.Proofs.Ytdhhnioklbnicaa
open Go.RowKit
set_option maxRecDepth 100000

/-- The cells of a call that came in. -/
theorem ArgO.cells {w w' : World} {A : Option Addr} {n c : Nat} {l : List O10} (h : ArgO w A n c l) (f : Fr [] w w') {k : Nat} (hk : k < n) : ∃ (o : O10) (g b : Nat), l[k]? = some o ∧ A = some ⟨g, b, none⟩ ∧ o.ok w ∧
    w'.cell? ⟨g, b + k * 5, none⟩ = some (.int .i64 o.kind) ∧ w'.cell? ⟨g, b + k * 5 + 1, none⟩ = some (.int .i64 o.n) ∧ w'.cell? ⟨g, b + k * 5 + 2, none⟩ = some (.slice o.A o.m o.c) ∧
    w'.cell? ⟨g, b + k * 5 + 3, none⟩ = some (.bool o.bad) ∧ w'.cell? ⟨g, b + k * 5 + 4, none⟩ = some (.slice o.B o.k o.d) := by
  have hkl : k < l.length := by rw [h.len]; exact hk
  obtain ⟨g, b, e, -, hc⟩ := h.rd (by omega)
  refine ⟨l[k], g, b, List.getElem?_eq_getElem hkl, e, h.ok _ (List.getElem_mem hkl), ?_, ?_, ?_, ?_, ?_⟩
  · exact f.cell (by simp) (hc k hkl 0 (by omega))
  · exact f.cell (by simp) (hc k hkl 1 (by omega))
  · exact f.cell (by simp) (hc k hkl 2 (by omega))
  · exact f.cell (by simp) (hc k hkl 3 (by omega))
  · exact f.cell (by simp) (hc k hkl 4 (by omega))
set_option maxHeartbeats 8000000 in
theorem diskSure_any (w : World) (A : Option Addr) (n c : Nat) (l : List O10) (ha : ArgO w A n c l) (z : Int) : Calls Try.prog 4 #[.slice A n c, .int .i64 z] w fun e w' => e = .returned (.bool true) ∧ Fr [] w w' := by
  have cn := dkNew_any w 6 (by omega)
  go_enter Try.func4, Try.ntmps4
  go_wp2_with fail
  refine cn.mono ?_
  intro e w1 hn
  obtain ⟨p, rfl, h1⟩ := LV.of_new (by omega) hn
  clear cn hn
  change LV w w1 p (newD 6) at h1
  go_wp2_with fail
  refine (lives_any w1).mono ?_
  rintro e w2 ⟨rfl, f2⟩
  replace h1 := h1.keep f2
  clear f2
  go_wp2_with fail
  go_loopw [7] (fun i wr => ∃ (k : Nat) (D : DkM), k ≤ n ∧ k ≤ 100 ∧ i = .int .i64 k ∧ LV w wr p D ∧ Fresh 6 k D) (fun i _ => n - (intOf i).toNat)
  case atStart => exact ⟨0, _, by omega, by omega, rfl, h1, Fresh.new 6⟩
  case round =>
    clear h1
    obtain ⟨k, D, hkn, hk1, rfl, h, hD⟩ := hrel
    by_cases hlt : k < n
    · have d0 : (k : Int) < n := by omega
      by_cases hl1 : k < 100
      · have d1 : (k : Int) < 100 := by omega
        obtain ⟨o, g, b, -, rfl, ok, c0, c1, c2, -, -⟩ := ha.cells h.fr hlt
        by_cases hkind : o.kind = 1
        · have dk : (o.kind == 1) = true := by simpa using hkind
          go_upto_region 8 with fail
          obtain ⟨wD, hwD⟩ : ∃ wD, wr.drew = wD := ⟨_, rfl⟩
          have fD : Fr [] wr wD := by rw [← hwD]; exact (Fr.refl [] wr).drew
          replace h := h.keep fD
          obtain ⟨x, hx⟩ : ∃ x, o.n = x := ⟨_, rfl⟩
          obtain ⟨B, hB⟩ : ∃ B, Value.slice o.A o.m o.c = B := ⟨_, rfl⟩
          have hblk := fun W (f : Fr [] w W) => dkBlock_any W o.A o.m o.c o.l ok.b.len (ok.b.rd.keep_nil f) (by have := ok.b.reach; omega)
          rw [hx] at c1
          have mkS : ∀ w' : World, Fr [] w w' → (w'.cell? ⟨g, b + k * 5 + 1, none⟩ = some (.int .i64 x) ∧ w'.cell? ⟨g, b + k * 5 + 2, none⟩ = some B ∧ Fr [] w w') := fun w' f => by
            obtain ⟨o', g', b', ho', e', -, -, k1, k2, -, -⟩ := ha.cells f hlt
            obtain ⟨o2, g2, b2, ho2, e2, -, -, m1, m2, -, -⟩ := ha.cells h.fr hlt
            rw [ho'] at ho2
            cases ho2
            cases e'
            cases e2
            have c1' := fD.cell (by simp) c1
            have c2' := fD.cell (by simp) c2
            rw [m1] at c1'
            rw [m2] at c2'
            rw [k1, k2, c1', c2', hB]
            exact ⟨rfl, rfl, f⟩
          refine wp_region_held_drew (S := fun w' => w'.cell? ⟨g, b + k * 5 + 1, none⟩ = some (.int .i64 x) ∧ w'.cell? ⟨g, b + k * 5 + 2, none⟩ = some B ∧ Fr [] w w') (by kernel_rfl) (by rw [hwD]; exact mkS _ h.fr) (fun hHeld => ?_)
          rw [hwD] at hHeld ⊢
          have MK := Lib.hid mkS
          have HBK := Lib.hid hblk
          have HBE := Lib.hid hB
          clear hwD fD mkS c0 c1 c2 hblk hB hx
          refine take_w 0 (some 46) (v := ?_) rfl rfl (by kernel_rfl) (by kernel_rfl) (by kernel_rfl) (fun _ _ _ h => h) (by rfl) ?_ hHeld ?_
          rotate_left
          · (intro w hSw; (try dsimp only at hSw); go_simp; try with_reducible rfl)
          simp only [Act.put, List.setIfInBounds_toArray, List.set_cons_zero, List.set_cons_succ]
          refine take_w 1 (some 47) (v := ?_) rfl rfl (by kernel_rfl) (by kernel_rfl) (by kernel_rfl) (fun _ _ _ h => h) (by rfl) ?_ hHeld ?_
          rotate_left
          · (intro w hSw; (try dsimp only at hSw); go_simp; try with_reducible rfl)
          simp only [Act.put, List.setIfInBounds_toArray, List.set_cons_zero, List.set_cons_succ]
          refine take_w 2 (some 48) (v := ?_) rfl rfl (by kernel_rfl) (by kernel_rfl) (by kernel_rfl) (fun _ _ _ h => h) (by rfl) ?_ hHeld ?_
          rotate_left
          · (intro w hSw; (try dsimp only at hSw); go_simp; try with_reducible rfl)
          simp only [Act.put, List.setIfInBounds_toArray, List.set_cons_zero, List.set_cons_succ]
          refine take_w 3 (some 49) (v := ?_) rfl rfl (by kernel_rfl) (by kernel_rfl) (by kernel_rfl) (fun _ _ _ h => h) (by rfl) ?_ hHeld ?_
          rotate_left
          · (intro w hSw; (try dsimp only at hSw); go_simp; try with_reducible rfl)
          simp only [Act.put, List.setIfInBounds_toArray, List.set_cons_zero, List.set_cons_succ]
          refine take_w 4 (some 50) (v := ?_) rfl rfl (by kernel_rfl) (by kernel_rfl) (by kernel_rfl) (fun _ _ _ h => h) (by rfl) ?_ hHeld ?_
          rotate_left
          · (intro w hSw; (try dsimp only at hSw); go_simp; try with_reducible rfl)
          simp only [Act.put, List.setIfInBounds_toArray, List.set_cons_zero, List.set_cons_succ]
          refine take_w 5 (some 51) (v := ?_) rfl rfl (by kernel_rfl) (by kernel_rfl) (by kernel_rfl) (fun _ _ _ h => h) (by rfl) ?_ hHeld ?_
          rotate_left
          · (intro w hSw; (try dsimp only at hSw); go_simp; try with_reducible rfl)
          simp only [Act.put, List.setIfInBounds_toArray, List.set_cons_zero, List.set_cons_succ]
          refine take_w 6 (some 52) (v := ?_) rfl rfl (by kernel_rfl) (by kernel_rfl) (by kernel_rfl) (fun _ _ _ h => h) (by rfl) ?_ hHeld ?_
          rotate_left
          · (intro w hSw; (try dsimp only at hSw); go_simp; try with_reducible rfl)
          simp only [Act.put, List.setIfInBounds_toArray, List.set_cons_zero, List.set_cons_succ]
          refine take_w 7 (some 53) (v := ?_) rfl rfl (by kernel_rfl) (by kernel_rfl) (by kernel_rfl) (fun _ _ _ h => h) (by rfl) ?_ hHeld ?_
          rotate_left
          · (intro w hSw; (try dsimp only at hSw); go_simp; try with_reducible rfl)
          simp only [Act.put, List.setIfInBounds_toArray, List.set_cons_zero, List.set_cons_succ]
          refine take_w 8 (some 54) (v := ?_) rfl rfl (by kernel_rfl) (by kernel_rfl) (by kernel_rfl) (fun _ _ _ h => h) (by rfl) ?_ hHeld ?_
          rotate_left
          · (intro w hSw; (try dsimp only at hSw); go_simp; try with_reducible rfl)
          simp only [Act.put, List.setIfInBounds_toArray, List.set_cons_zero, List.set_cons_succ]
          refine take_w 9 (some 55) (v := ?_) rfl rfl (by kernel_rfl) (by kernel_rfl) (by kernel_rfl) (fun _ _ _ h => h) (by rfl) ?_ hHeld ?_
          rotate_left
          · (intro w hSw; (try dsimp only at hSw); go_simp; try with_reducible rfl)
          simp only [Act.put, List.setIfInBounds_toArray, List.set_cons_zero, List.set_cons_succ]
          refine take_w 10 (some 56) (v := ?_) rfl rfl (by kernel_rfl) (by kernel_rfl) (by kernel_rfl) (fun _ _ _ h => h) (by rfl) ?_ hHeld ?_
          rotate_left
          · (intro w hSw; (try dsimp only at hSw); go_simp; try with_reducible rfl)
          simp only [Act.put, List.setIfInBounds_toArray, List.set_cons_zero, List.set_cons_succ]
          rw [← HBE.out]
          rw [← HBE.out] at MK
          refine take_c 11 rfl (by kernel_rfl) (by rfl) (fun K hK => ?_)
          go_simp
          refine (HBK.out _ h.fr).mono ?_
          rintro e wE ⟨vE, rfl, rE, fE⟩
          obtain ⟨gE, cE, rfl⟩ := rE.hdD (by decide)
          have h2 := h.keep fE
          refine hK.out _ _ (MK.out _ h2.fr) (fun hHx => ?_)
          clear hK
          try simp only [Act.put, List.setIfInBounds_toArray, List.set_cons_zero, List.set_cons_succ]
          refine take_c 12 rfl (by kernel_rfl) (by rfl) (fun K hK => ?_)
          go_simp
          refine (h2.write x (some ⟨gE, 0, none⟩) 512 cE (blkOf o.l) (blkOf_len _) rE.rdD.1 (fun h => by cases h) (by have := hD.uns x; omega)).mono ?_
          rintro e wF ⟨rfl, h3⟩
          refine hK.out _ _ (MK.out _ h3.fr) (fun hHy => ?_)
          clear hK
          try simp only [Act.put, List.setIfInBounds_toArray, List.set_cons_zero, List.set_cons_succ]
          refine wpAnyH_done (by kernel_rfl) ?_ _
          go_wp2_with fail
          exact ⟨⟨k + 1, _, by omega, by omega, by go_num, h3, hD.write x (blkOf o.l)⟩, by simp [intOf]; omega⟩
        · have dk : (o.kind == 1) = false := by simpa using hkind
          go_wp2_with fail
          exact ⟨⟨k + 1, D, by omega, by omega, by go_num, h, hD.mono (by omega)⟩, by simp [intOf]; omega⟩
      · have d1 : ¬ ((k : Int) < 100) := by omega
        go_wp2_with fail
        refine (h.fork2 (fun x => by have := hD.uns x; omega)).mono ?_
        rintro e w3 ⟨q, rfl, t⟩
        clear h
        go_wp2_with fail
        refine t.flush.mono ?_
        rintro e w4 ⟨rfl, t4⟩
        rw [DkM.flush_eq hD.calls] at t4
        rw [show D.flushE = 0 by rw [DkM.flushE, hD.off]; rfl]
        go_wp2_with fail
        refine t4.fst.unsure.mono ?_
        rw [show D.flOf.unsL = [] from DkM.unsL_nil (fun _ => rfl)]
        rintro e w5 ⟨⟨v5, rfl, r5, f5⟩, -⟩
        replace t4 := t4.keep f5
        obtain ⟨A5, c5, rfl, -, -, -, -, -⟩ := r5.shape
        clear t r5 f5
        go_wp2_with fail
        have hlen := hD.len
        have hoff := hD.off
        go_loopw [9] (fun i wr => ∃ m : Nat, m ≤ 6 ∧ i = .int .i64 m ∧ TW w wr p D.flOf q D) (fun i _ => 6 - (intOf i).toNat)
        case atStart => exact ⟨0, by omega, rfl, t4⟩
        case round =>
          clear t4
          obtain ⟨m, hm6, rfl, t⟩ := hrel
          by_cases hmlt : m < 6
          · have dm : (m : Int) < 6 := by omega
            have hx : D.is m = true := DkM.is_iff.2 ⟨by omega, by rw [hlen]; omega⟩
            have cr1 := t.fst.read m
            rw [D.flOf_readE m hx, D.flOf_readR m hx hoff] at cr1
            obtain ⟨R, hR⟩ : ∃ R, D.readR m = R := ⟨_, rfl⟩
            rw [hR] at cr1
            have HR := Lib.hid hR
            have HX := Lib.hid hx
            have HOF := Lib.hid hoff
            clear hx hR
            go_wp2_with fail
            refine cr1.mono ?_
            rintro e w6 ⟨⟨v6, rfl, r6, f6⟩, -⟩
            obtain ⟨A6, c6, rfl, -, -, -, -, -⟩ := r6.shape
            have z6 := r6.rdD
            replace t := t.keep f6
            clear cr1 f6
            have cr2 := t.snd.read m
            rw [DkM.readE_ok HX.out HOF.out, HR.out] at cr2
            go_wp2_with fail
            refine cr2.mono ?_
            rintro e w7 ⟨⟨v7, rfl, r7, f7⟩, -⟩
            obtain ⟨A7, c7, rfl, -, -, -, -, -⟩ := r7.shape
            have z7 := r7.rdD
            have rd6 := z6.1.keep_nil f7
            replace t := t.keep f7
            clear cr2 f7
            go_upto_region 17 with fail
            obtain ⟨wD, hwD⟩ : ∃ wD, w7.drew = wD := ⟨_, rfl⟩
            have fD : Fr [] w7 wD := by rw [← hwD]; exact (Fr.refl [] w7).drew
            replace t := t.keep fD
            replace rd6 := rd6.keep_nil fD
            have rd7 := z7.1.keep_nil fD
            have mkS : ∀ w' : World, Fr [] wD w' → ((convert 31 9 (.slice A6 R.length c6)).run Try.prog w' = .ok (.string ⟨R.toArray⟩) w' ∧ (convert 31 9 (.slice A7 R.length c7)).run Try.prog w' = .ok (.string ⟨R.toArray⟩) w' ∧ Fr [] wD w') := fun w' f =>
              ⟨conv_str Try.underlying31 Try.underlying5 Try.underlying9 w' _ R _ c6 rfl (rd6.keep_nil f) z6.2.2, conv_str Try.underlying31 Try.underlying5 Try.underlying9 w' _ R _ c7 rfl (rd7.keep_nil f) z7.2.2, f⟩
            refine wp_region_held_drew (S := fun w' => (convert 31 9 (.slice A6 R.length c6)).run Try.prog w' = .ok (.string ⟨R.toArray⟩) w' ∧ (convert 31 9 (.slice A7 R.length c7)).run Try.prog w' = .ok (.string ⟨R.toArray⟩) w' ∧ Fr [] wD w') (by kernel_rfl) (by rw [hwD]; exact mkS _ (Fr.refl _ _)) (fun hHeld => ?_)
            rw [hwD] at hHeld ⊢
            have MK := Lib.hid mkS
            have cs := t.fst.sure m
            rw [D.flOf_sureR m HX.out HOF.out, HR.out] at cs
            clear hwD fD mkS rd6 rd7 z6 z7 r6 r7
            refine take_w 0 (some 90) (v := ?_) rfl rfl (by kernel_rfl) (by kernel_rfl) (by kernel_rfl) (fun _ _ _ h => h) (by rfl) ?_ hHeld ?_
            rotate_left
            · (intro w hSw; (try dsimp only at hSw); go_simp; try with_reducible rfl)
            simp only [Act.put, List.setIfInBounds_toArray, List.set_cons_zero, List.set_cons_succ]
            refine take_w 1 (some 91) (v := ?_) rfl rfl (by kernel_rfl) (by kernel_rfl) (by kernel_rfl) (fun _ _ _ h => h) (by rfl) ?_ hHeld ?_
            rotate_left
            · (intro w hSw; (try dsimp only at hSw); go_simp; try with_reducible rfl)
            simp only [Act.put, List.setIfInBounds_toArray, List.set_cons_zero, List.set_cons_succ]
            refine take_w 2 (some 92) (v := ?_) rfl rfl (by kernel_rfl) (by kernel_rfl) (by kernel_rfl) (fun _ _ _ h => h) (by rfl) ?_ hHeld ?_
            rotate_left
            · (intro w hSw; (try dsimp only at hSw); go_simp; try with_reducible rfl)
            simp only [Act.put, List.setIfInBounds_toArray, List.set_cons_zero, List.set_cons_succ]
            refine take_w 3 (some 93) (v := ?_) rfl rfl (by kernel_rfl) (by kernel_rfl) (by kernel_rfl) (fun _ _ _ h => h) (by rfl) ?_ hHeld ?_
            rotate_left
            · (intro w hSw; (try dsimp only at hSw); go_simp; try with_reducible rfl)
            simp only [Act.put, List.setIfInBounds_toArray, List.set_cons_zero, List.set_cons_succ]
            refine take_w 4 (some 94) (v := ?_) rfl rfl (by kernel_rfl) (by kernel_rfl) (by kernel_rfl) (fun _ _ _ h => h) (by rfl) ?_ hHeld ?_
            rotate_left
            · (intro w hSw; (try dsimp only at hSw); go_simp; try with_reducible rfl)
            simp only [Act.put, List.setIfInBounds_toArray, List.set_cons_zero, List.set_cons_succ]
            refine take_w 5 (some 95) (v := ?_) rfl rfl (by kernel_rfl) (by kernel_rfl) (by kernel_rfl) (fun _ _ _ h => h) (by rfl) ?_ hHeld ?_
            rotate_left
            · (intro w hSw; (try dsimp only at hSw); go_simp; try with_reducible rfl)
            simp only [Act.put, List.setIfInBounds_toArray, List.set_cons_zero, List.set_cons_succ]
            refine take_w 6 (some 96) (v := ?_) rfl rfl (by kernel_rfl) (by kernel_rfl) (by kernel_rfl) (fun _ _ _ h => h) (by rfl) ?_ hHeld ?_
            rotate_left
            · (intro w hSw; (try dsimp only at hSw); go_simp; try with_reducible rfl)
            simp only [Act.put, List.setIfInBounds_toArray, List.set_cons_zero, List.set_cons_succ]
            refine take_w 7 (some 97) (v := ?_) rfl rfl (by kernel_rfl) (by kernel_rfl) (by kernel_rfl) (fun _ _ _ h => h) (by rfl) ?_ hHeld ?_
            rotate_left
            · (intro w hSw; (try dsimp only at hSw); go_simp; try with_reducible rfl)
            simp only [Act.put, List.setIfInBounds_toArray, List.set_cons_zero, List.set_cons_succ]
            refine take_w 8 (some 98) (v := ?_) rfl rfl (by kernel_rfl) (by kernel_rfl) (by kernel_rfl) (fun _ _ _ h => h) (by rfl) ?_ hHeld ?_
            rotate_left
            · (intro w hSw; (try dsimp only at hSw); go_simp; try with_reducible rfl)
            simp only [Act.put, List.setIfInBounds_toArray, List.set_cons_zero, List.set_cons_succ]
            refine take_w 9 (some 99) (v := ?_) rfl rfl (by kernel_rfl) (by kernel_rfl) (by kernel_rfl) (fun _ _ _ h => h) (by rfl) ?_ hHeld ?_
            rotate_left
            · (intro w hSw; (try dsimp only at hSw); go_simp; try with_reducible rfl)
            simp only [Act.put, List.setIfInBounds_toArray, List.set_cons_zero, List.set_cons_succ]
            refine take_w 10 (some 100) (v := ?_) rfl rfl (by kernel_rfl) (by kernel_rfl) (by kernel_rfl) (fun _ _ _ h => h) (by rfl) ?_ hHeld ?_
            rotate_left
            · (intro w hSw; (try dsimp only at hSw); go_simp; try with_reducible rfl)
            simp only [Act.put, List.setIfInBounds_toArray, List.set_cons_zero, List.set_cons_succ]
            refine take_w 11 (some 101) (v := ?_) rfl rfl (by kernel_rfl) (by kernel_rfl) (by kernel_rfl) (fun _ _ _ h => h) (by rfl) ?_ hHeld ?_
            rotate_left
            · (intro w hSw; (try dsimp only at hSw); go_simp; try with_reducible rfl)
            simp only [Act.put, List.setIfInBounds_toArray, List.set_cons_zero, List.set_cons_succ]
            refine take_w 12 (some 102) (v := ?_) rfl rfl (by kernel_rfl) (by kernel_rfl) (by kernel_rfl) (fun _ _ _ h => h) (by rfl) ?_ hHeld ?_
            rotate_left
            · (intro w hSw; (try dsimp only at hSw); go_simp; try with_reducible rfl)
            simp only [Act.put, List.setIfInBounds_toArray, List.set_cons_zero, List.set_cons_succ]
            refine take_w 13 (some 103) (v := ?_) rfl rfl (by kernel_rfl) (by kernel_rfl) (by kernel_rfl) (fun _ _ _ h => h) (by rfl) ?_ hHeld ?_
            rotate_left
            · (intro w hSw; (try dsimp only at hSw); go_simp; try with_reducible rfl)
            simp only [Act.put, List.setIfInBounds_toArray, List.set_cons_zero, List.set_cons_succ]
            refine take_w 14 (some 104) (v := ?_) rfl rfl (by kernel_rfl) (by kernel_rfl) (by kernel_rfl) (fun _ _ _ h => h) (by rfl) ?_ hHeld ?_
            rotate_left
            · (intro w hSw; (try dsimp only at hSw); go_simp; try with_reducible rfl)
            simp only [Act.put, List.setIfInBounds_toArray, List.set_cons_zero, List.set_cons_succ]
            refine take_w 15 (some 105) (v := ?_) rfl rfl (by kernel_rfl) (by kernel_rfl) (by kernel_rfl) (fun _ _ _ h => h) (by rfl) ?_ hHeld ?_
            rotate_left
            · (intro w hSw; (try dsimp only at hSw); go_simp; try with_reducible rfl)
            simp only [Act.put, List.setIfInBounds_toArray, List.set_cons_zero, List.set_cons_succ]
            refine take_w 16 (some 106) (v := ?_) rfl rfl (by kernel_rfl) (by kernel_rfl) (by kernel_rfl) (fun _ _ _ h => h) (by rfl) ?_ hHeld ?_
            rotate_left
            · (intro w hSw; (try dsimp only at hSw); go_simp; try with_reducible rfl)
            simp only [Act.put, List.setIfInBounds_toArray, List.set_cons_zero, List.set_cons_succ]
            refine take_w 17 (some 107) (v := ?_) rfl rfl (by kernel_rfl) (by kernel_rfl) (by kernel_rfl) (fun _ _ _ h => h) (by rfl) ?_ hHeld ?_
            rotate_left
            · (intro w hSw; (try dsimp only at hSw); go_simp; try with_reducible rfl)
            simp only [Act.put, List.setIfInBounds_toArray, List.set_cons_zero, List.set_cons_succ]
            refine take_c 18 rfl (by kernel_rfl) (by rfl) (fun K hK => ?_)
            go_simp
            refine cs.mono ?_
            rintro e w8 ⟨⟨v8, rfl, r8, f8⟩, -⟩
            obtain ⟨A8, c8, rfl, -, -, -, -, -⟩ := r8.shape
            have cv8 : (convert 31 9 (.slice A8 R.length c8)).run Try.prog w8 = .ok (.string ⟨R.toArray⟩) w8 := conv_str Try.underlying31 Try.underlying5 Try.underlying9 w8 _ R _ c8 rfl r8.rdD.1 r8.rdD.2.2
            replace t := t.keep f8
            refine hK.out _ _ (MK.out _ f8) (fun hHx => ?_)
            clear hK hHeld r8 cs
            try simp only [Act.put, List.setIfInBounds_toArray, List.set_cons_zero, List.set_cons_succ]
            refine take_c 19 rfl (by kernel_rfl) (by rfl) (fun K hK => ?_)
            go_simp
            refine hK.out _ _ (MK.out _ f8) (fun hHeld => ?_)
            clear hK hHx cv8
            try simp only [Act.put, List.setIfInBounds_toArray, List.set_cons_zero, List.set_cons_succ]
            refine take_w 20 (some 110) (v := ?_) rfl rfl (by kernel_rfl) (by kernel_rfl) (by kernel_rfl) (fun _ _ _ h => h) (by rfl) ?_ hHeld ?_
            rotate_left
            · (intro w hSw; (try dsimp only at hSw); go_simp; try with_reducible rfl)
            simp only [Act.put, List.setIfInBounds_toArray, List.set_cons_zero, List.set_cons_succ]
            refine take_w 21 (some 111) (v := ?_) rfl rfl (by kernel_rfl) (by kernel_rfl) (by kernel_rfl) (fun _ _ _ h => h) (by rfl) ?_ hHeld ?_
            rotate_left
            · (intro w hSw; (try dsimp only at hSw); go_simp; try with_reducible rfl)
            simp only [Act.put, List.setIfInBounds_toArray, List.set_cons_zero, List.set_cons_succ]
            refine wpAnyH_done (by kernel_rfl) ?_ _
            go_wp2_with fail
            exact ⟨⟨m + 1, by omega, by go_num, t⟩, by simp [intOf]; omega⟩
          · have dm : ¬ ((m : Int) < 6) := by omega
            go_wp2_with fail
            obtain ⟨hce, hf2, hu2⟩ := hD.crash
            have cc := t.swap.crash none 0 0 [] (KRd.nil _) (by omega)
            rw [hce] at cc
            have hr0 : (D.crash []).readR 0 = zB512 := hf2.readR hu2 (DkM.is_iff.2 ⟨by omega, by rw [hf2.len]; omega⟩)
            have hs6 : D.flOf.sureR 6 = [] := DkM.sureR_no (by rw [DkM.flOf_is, DkM.is, hlen]; rfl)
            have hs1 : D.flOf.sureR (-1) = [] := DkM.sureR_no (by rw [DkM.is]; rfl)
            refine cc.mono ?_
            rintro e w9 ⟨rfl, t9⟩
            have cr := t9.fst.read 0
            rw [hr0] at cr
            obtain ⟨E, hE⟩ : ∃ E, (D.crash []).readE 0 = E := ⟨_, rfl⟩
            rw [hE] at cr
            clear cc t hr0 hE
            go_wp2_with fail
            refine cr.mono ?_
            rintro e wa ⟨⟨va, rfl, ra, fa⟩, -⟩
            rw [zB512_len] at ra
            obtain ⟨Aa, ca, rfl, -, -, -, -, -⟩ := ra.shape
            have za := ra.rdD
            replace t9 := t9.keep fa
            clear cr fa
            go_upto_region 22 with fail
            obtain ⟨wD, hwD⟩ : ∃ wD, wa.drew = wD := ⟨_, rfl⟩
            have fD : Fr [] wa wD := by rw [← hwD]; exact (Fr.refl [] wa).drew
            replace t9 := t9.keep fD
            have rda := za.1.keep_nil fD
            obtain ⟨Z, hZ⟩ : ∃ Z, (List.replicate 512 (Value.int .u8 0)).toArray = Z := ⟨_, rfl⟩
            have rmk : ∀ W : World, (Instr.makeSlice 31 (.int .i64 512) (.int .i64 512)).run Try.prog W = .ok (.slice (some ⟨W.heap.size, 0, none⟩) 512 512) (W.alloc (.cells Z 5)) := fun W => by
              rw [← hZ]
              exact run_mk1 slB rfl W .i64 .i64 512 (by omega)
            have cvn : ∀ W : World, (convert 31 9 (.slice (some ⟨W.heap.size, 0, none⟩) 512 512)).run Try.prog (W.alloc (.cells Z 5)) = .ok (.string ⟨zB512.toArray⟩) (W.alloc (.cells Z 5)) := fun W =>
              conv_str Try.underlying31 Try.underlying5 Try.underlying9 _ _ zB512 512 512 zB512_len (Rd.of_blk (Blk.new W 5 Z) 0 _ (fun j u hu => by
                rw [zB512_vs] at hu
                rw [← hZ, Nat.zero_add, List.getElem?_toArray]
                exact hu)) (fun h => by cases h)
            have mkS : ∀ w' : World, Fr [] wD w' → ((convert 31 9 (.slice Aa 512 ca)).run Try.prog w' = .ok (.string ⟨zB512.toArray⟩) w' ∧ Fr [] wD w') := fun w' f =>
              ⟨conv_str Try.underlying31 Try.underlying5 Try.underlying9 w' _ zB512 512 ca zB512_len (rda.keep_nil f) za.2.2, f⟩
            obtain ⟨sz, hsz⟩ : ∃ sz, Value.string ⟨zB512.toArray⟩ = sz := ⟨_, rfl⟩
            refine wp_region_held_drew (S := fun w' => (convert 31 9 (.slice Aa 512 ca)).run Try.prog w' = .ok (.string ⟨zB512.toArray⟩) w' ∧ Fr [] wD w') (by kernel_rfl) (by rw [hwD]; exact mkS _ (Fr.refl _ _)) (fun hHeld => ?_)
            rw [hwD] at hHeld ⊢
            have MK := Lib.hid mkS
            clear hwD fD mkS rda za ra hZ hsz
            refine take_w 0 (some 120) (v := ?_) rfl rfl (by kernel_rfl) (by kernel_rfl) (by kernel_rfl) (fun _ _ _ h => h) (by rfl) ?_ hHeld ?_
            rotate_left
            · (intro w hSw; (try dsimp only at hSw); go_simp; try with_reducible rfl)
            simp only [Act.put, List.setIfInBounds_toArray, List.set_cons_zero, List.set_cons_succ]
            refine take_w 1 (some 121) (v := ?_) rfl rfl (by kernel_rfl) (by kernel_rfl) (by kernel_rfl) (fun _ _ _ h => h) (by rfl) ?_ hHeld ?_
            rotate_left
            · (intro w hSw; (try dsimp only at hSw); go_simp; try with_reducible rfl)
            simp only [Act.put, List.setIfInBounds_toArray, List.set_cons_zero, List.set_cons_succ]
            refine take_c 2 rfl (by kernel_rfl) (by rfl) (fun K hK => ?_)
            go_simp
            have fz : Fr [] wD (wD.alloc (.cells Z 5)) := (Fr.refl [] wD).alloc _
            refine hK.out _ _ (MK.out _ fz) (fun hHx => ?_)
            clear hK hHeld
            try simp only [Act.put, List.setIfInBounds_toArray, List.set_cons_zero, List.set_cons_succ]
            have cv := cvn wD
            replace t9 := t9.keep fz
            generalize wD.alloc (.cells Z 5) = wE at *
            refine take_c 3 rfl (by kernel_rfl) (by rfl) (fun K hK => ?_)
            go_simp
            refine hK.out _ _ (MK.out _ fz) (fun hHeld => ?_)
            clear hK hHx cv
            try simp only [Act.put, List.setIfInBounds_toArray, List.set_cons_zero, List.set_cons_succ]
            refine take_w 4 (some 124) (v := ?_) rfl rfl (by kernel_rfl) (by kernel_rfl) (by kernel_rfl) (fun _ _ _ h => h) (by rfl) ?_ hHeld ?_
            rotate_left
            · (intro w hSw; (try dsimp only at hSw); go_simp; try with_reducible rfl)
            simp only [Act.put, List.setIfInBounds_toArray, List.set_cons_zero, List.set_cons_succ]
            refine take_w 5 (some 125) (v := ?_) rfl rfl (by kernel_rfl) (by kernel_rfl) (by kernel_rfl) (fun _ _ _ h => h) (by rfl) ?_ hHeld ?_
            rotate_left
            · (intro w hSw; (try dsimp only at hSw); go_simp; try with_reducible rfl)
            simp only [Act.put, List.setIfInBounds_toArray, List.set_cons_zero, List.set_cons_succ]
            refine take_w 6 (some 126) (v := ?_) rfl rfl (by kernel_rfl) (by kernel_rfl) (by kernel_rfl) (fun _ _ _ h => h) (by rfl) ?_ hHeld ?_
            rotate_left
            · (intro w hSw; (try dsimp only at hSw); go_simp; try with_reducible rfl)
            simp only [Act.put, List.setIfInBounds_toArray, List.set_cons_zero, List.set_cons_succ]
            refine take_c 7 rfl (by kernel_rfl) (by rfl) (fun K hK => ?_)
            go_simp
            have cs6 := t9.snd.sure 6
            rw [hs6] at cs6
            refine cs6.mono ?_
            rintro e wF ⟨⟨vF, rfl, rF, fF⟩, -⟩
            obtain ⟨AF, cF, rfl, -, -, -, -, -⟩ := rF.shape
            replace t9 := t9.keep fF
            replace fz := fz.trans_nil fF
            refine hK.out _ _ (MK.out _ fz) (fun hHx => ?_)
            clear hK hHeld cs6 rF fF
            have hHeld := hHx
            clear hHx
            try simp only [Act.put, List.setIfInBounds_toArray, List.set_cons_zero, List.set_cons_succ]
            refine take_w 8 (some 128) (v := ?_) rfl rfl (by kernel_rfl) (by kernel_rfl) (by kernel_rfl) (fun _ _ _ h => h) (by rfl) ?_ hHeld ?_
            rotate_left
            · (intro w hSw; (try dsimp only at hSw); go_simp; try with_reducible rfl)
            simp only [Act.put, List.setIfInBounds_toArray, List.set_cons_zero, List.set_cons_succ]
            refine take_w 9 (some 129) (v := ?_) rfl rfl (by kernel_rfl) (by kernel_rfl) (by kernel_rfl) (fun _ _ _ h => h) (by rfl) ?_ hHeld ?_
            rotate_left
            · (intro w hSw; (try dsimp only at hSw); go_simp; try with_reducible rfl)
            simp only [Act.put, List.setIfInBounds_toArray, List.set_cons_zero, List.set_cons_succ]
            refine take_w 10 (some 130) (v := ?_) rfl rfl (by kernel_rfl) (by kernel_rfl) (by kernel_rfl) (fun _ _ _ h => h) (by rfl) ?_ hHeld ?_
            rotate_left
            · (intro w hSw; (try dsimp only at hSw); go_simp; try with_reducible rfl)
            simp only [Act.put, List.setIfInBounds_toArray, List.set_cons_zero, List.set_cons_succ]
            refine take_w 11 (some 131) (v := ?_) rfl rfl (by kernel_rfl) (by kernel_rfl) (by kernel_rfl) (fun _ _ _ h => h) (by rfl) ?_ hHeld ?_
            rotate_left
            · (intro w hSw; (try dsimp only at hSw); go_simp; try with_reducible rfl)
            simp only [Act.put, List.setIfInBounds_toArray, List.set_cons_zero, List.set_cons_succ]
            refine take_w 12 (some 132) (v := ?_) rfl rfl (by kernel_rfl) (by kernel_rfl) (by kernel_rfl) (fun _ _ _ h => h) (by rfl) ?_ hHeld ?_
            rotate_left
            · (intro w hSw; (try dsimp only at hSw); go_simp; try with_reducible rfl)
            simp only [Act.put, List.setIfInBounds_toArray, List.set_cons_zero, List.set_cons_succ]
            refine take_c 13 rfl (by kernel_rfl) (by rfl) (fun K hK => ?_)
            go_simp
            have cs1 := t9.snd.sure (-1)
            rw [hs1] at cs1
            refine cs1.mono ?_
            rintro e wG ⟨⟨vG, rfl, rG, fG⟩, -⟩
            obtain ⟨AG, cG, rfl, -, -, -, -, -⟩ := rG.shape
            replace t9 := t9.keep fG
            replace fz := fz.trans_nil fG
            refine hK.out _ _ (MK.out _ fz) (fun hHx => ?_)
            clear hK hHeld cs1 rG fG
            have hHeld := hHx
            clear hHx
            try simp only [Act.put, List.setIfInBounds_toArray, List.set_cons_zero, List.set_cons_succ]
            refine take_w 14 (some 134) (v := ?_) rfl rfl (by kernel_rfl) (by kernel_rfl) (by kernel_rfl) (fun _ _ _ h => h) (by rfl) ?_ hHeld ?_
            rotate_left
            · (intro w hSw; (try dsimp only at hSw); go_simp; try with_reducible rfl)
            simp only [Act.put, List.setIfInBounds_toArray, List.set_cons_zero, List.set_cons_succ]
            refine take_w 15 (some 135) (v := ?_) rfl rfl (by kernel_rfl) (by kernel_rfl) (by kernel_rfl) (fun _ _ _ h => h) (by rfl) ?_ hHeld ?_
            rotate_left
            · (intro w hSw; (try dsimp only at hSw); go_simp; try with_reducible rfl)
            simp only [Act.put, List.setIfInBounds_toArray, List.set_cons_zero, List.set_cons_succ]
            refine take_w 16 (some 136) (v := ?_) rfl rfl (by kernel_rfl) (by kernel_rfl) (by kernel_rfl) (fun _ _ _ h => h) (by rfl) ?_ hHeld ?_
            rotate_left
            · (intro w hSw; (try dsimp only at hSw); go_simp; try with_reducible rfl)
            simp only [Act.put, List.setIfInBounds_toArray, List.set_cons_zero, List.set_cons_succ]
            refine take_w 17 (some 4) (v := ?_) rfl rfl (by kernel_rfl) (by kernel_rfl) (by kernel_rfl) (fun _ _ _ h => h) (by rfl) ?_ hHeld ?_
            rotate_left
            · (intro w hSw; (try dsimp only at hSw); go_simp; try with_reducible rfl)
            simp only [Act.put, List.setIfInBounds_toArray, List.set_cons_zero, List.set_cons_succ]
            refine wpAnyH_done (by kernel_rfl) ?_ _
            go_wp2_with fail
            go_ret
            exact ⟨rfl, t9.fr⟩
    · have d0 : ¬ ((k : Int) < n) := by omega
      go_wp2_with fail
      refine (h.fork2 (fun x => by have := hD.uns x; omega)).mono ?_
      rintro e w3 ⟨q, rfl, t⟩
      clear h
      go_wp2_with fail
      refine t.flush.mono ?_
      rintro e w4 ⟨rfl, t4⟩
      rw [DkM.flush_eq hD.calls] at t4
      rw [show D.flushE = 0 by rw [DkM.flushE, hD.off]; rfl]
      go_wp2_with fail
      refine t4.fst.unsure.mono ?_
      rw [show D.flOf.unsL = [] from DkM.unsL_nil (fun _ => rfl)]
      rintro e w5 ⟨⟨v5, rfl, r5, f5⟩, -⟩
      replace t4 := t4.keep f5
      obtain ⟨A5, c5, rfl, -, -, -, -, -⟩ := r5.shape
      clear t r5 f5
      go_wp2_with fail
      have hlen := hD.len
      have hoff := hD.off
      go_loopw [9] (fun i wr => ∃ m : Nat, m ≤ 6 ∧ i = .int .i64 m ∧ TW w wr p D.flOf q D) (fun i _ => 6 - (intOf i).toNat)
      case atStart => exact ⟨0, by omega, rfl, t4⟩
      case round =>
        clear t4
        obtain ⟨m, hm6, rfl, t⟩ := hrel
        by_cases hmlt : m < 6
        · have dm : (m : Int) < 6 := by omega
          have hx : D.is m = true := DkM.is_iff.2 ⟨by omega, by rw [hlen]; omega⟩
          have cr1 := t.fst.read m
          rw [D.flOf_readE m hx, D.flOf_readR m hx hoff] at cr1
          obtain ⟨R, hR⟩ : ∃ R, D.readR m = R := ⟨_, rfl⟩
          rw [hR] at cr1
          have HR := Lib.hid hR
          have HX := Lib.hid hx
          have HOF := Lib.hid hoff
          clear hx hR
          go_wp2_with fail
          refine cr1.mono ?_
          rintro e w6 ⟨⟨v6, rfl, r6, f6⟩, -⟩
          obtain ⟨A6, c6, rfl, -, -, -, -, -⟩ := r6.shape
          have z6 := r6.rdD
          replace t := t.keep f6
          clear cr1 f6
          have cr2 := t.snd.read m
          rw [DkM.readE_ok HX.out HOF.out, HR.out] at cr2
          go_wp2_with fail
          refine cr2.mono ?_
          rintro e w7 ⟨⟨v7, rfl, r7, f7⟩, -⟩
          obtain ⟨A7, c7, rfl, -, -, -, -, -⟩ := r7.shape
          have z7 := r7.rdD
          have rd6 := z6.1.keep_nil f7
          replace t := t.keep f7
          clear cr2 f7
          go_upto_region 17 with fail
          obtain ⟨wD, hwD⟩ : ∃ wD, w7.drew = wD := ⟨_, rfl⟩
          have fD : Fr [] w7 wD := by rw [← hwD]; exact (Fr.refl [] w7).drew
          replace t := t.keep fD
          replace rd6 := rd6.keep_nil fD
          have rd7 := z7.1.keep_nil fD
          have mkS : ∀ w' : World, Fr [] wD w' → ((convert 31 9 (.slice A6 R.length c6)).run Try.prog w' = .ok (.string ⟨R.toArray⟩) w' ∧ (convert 31 9 (.slice A7 R.length c7)).run Try.prog w' = .ok (.string ⟨R.toArray⟩) w' ∧ Fr [] wD w') := fun w' f =>
            ⟨conv_str Try.underlying31 Try.underlying5 Try.underlying9 w' _ R _ c6 rfl (rd6.keep_nil f) z6.2.2, conv_str Try.underlying31 Try.underlying5 Try.underlying9 w' _ R _ c7 rfl (rd7.keep_nil f) z7.2.2, f⟩
          refine wp_region_held_drew (S := fun w' => (convert 31 9 (.slice A6 R.length c6)).run Try.prog w' = .ok (.string ⟨R.toArray⟩) w' ∧ (convert 31 9 (.slice A7 R.length c7)).run Try.prog w' = .ok (.string ⟨R.toArray⟩) w' ∧ Fr [] wD w') (by kernel_rfl) (by rw [hwD]; exact mkS _ (Fr.refl _ _)) (fun hHeld => ?_)
          rw [hwD] at hHeld ⊢
          have MK := Lib.hid mkS
          have cs := t.fst.sure m
          rw [D.flOf_sureR m HX.out HOF.out, HR.out] at cs
          clear hwD fD mkS rd6 rd7 z6 z7 r6 r7
          refine take_w 0 (some 90) (v := ?_) rfl rfl (by kernel_rfl) (by kernel_rfl) (by kernel_rfl) (fun _ _ _ h => h) (by rfl) ?_ hHeld ?_
          rotate_left
          · (intro w hSw; (try dsimp only at hSw); go_simp; try with_reducible rfl)
          simp only [Act.put, List.setIfInBounds_toArray, List.set_cons_zero, List.set_cons_succ]
          refine take_w 1 (some 91) (v := ?_) rfl rfl (by kernel_rfl) (by kernel_rfl) (by kernel_rfl) (fun _ _ _ h => h) (by rfl) ?_ hHeld ?_
          rotate_left
          · (intro w hSw; (try dsimp only at hSw); go_simp; try with_reducible rfl)
          simp only [Act.put, List.setIfInBounds_toArray, List.set_cons_zero, List.set_cons_succ]
          refine take_w 2 (some 92) (v := ?_) rfl rfl (by kernel_rfl) (by kernel_rfl) (by kernel_rfl) (fun _ _ _ h => h) (by rfl) ?_ hHeld ?_
          rotate_left
          · (intro w hSw; (try dsimp only at hSw); go_simp; try with_reducible rfl)
          simp only [Act.put, List.setIfInBounds_toArray, List.set_cons_zero, List.set_cons_succ]
          refine take_w 3 (some 93) (v := ?_) rfl rfl (by kernel_rfl) (by kernel_rfl) (by kernel_rfl) (fun _ _ _ h => h) (by rfl) ?_ hHeld ?_
          rotate_left
          · (intro w hSw; (try dsimp only at hSw); go_simp; try with_reducible rfl)
          simp only [Act.put, List.setIfInBounds_toArray, List.set_cons_zero, List.set_cons_succ]
          refine take_w 4 (some 94) (v := ?_) rfl rfl (by kernel_rfl) (by kernel_rfl) (by kernel_rfl) (fun _ _ _ h => h) (by rfl) ?_ hHeld ?_
          rotate_left
          · (intro w hSw; (try dsimp only at hSw); go_simp; try with_reducible rfl)
          simp only [Act.put, List.setIfInBounds_toArray, List.set_cons_zero, List.set_cons_succ]
          refine take_w 5 (some 95) (v := ?_) rfl rfl (by kernel_rfl) (by kernel_rfl) (by kernel_rfl) (fun _ _ _ h => h) (by rfl) ?_ hHeld ?_
          rotate_left
          · (intro w hSw; (try dsimp only at hSw); go_simp; try with_reducible rfl)
          simp only [Act.put, List.setIfInBounds_toArray, List.set_cons_zero, List.set_cons_succ]
          refine take_w 6 (some 96) (v := ?_) rfl rfl (by kernel_rfl) (by kernel_rfl) (by kernel_rfl) (fun _ _ _ h => h) (by rfl) ?_ hHeld ?_
          rotate_left
          · (intro w hSw; (try dsimp only at hSw); go_simp; try with_reducible rfl)
          simp only [Act.put, List.setIfInBounds_toArray, List.set_cons_zero, List.set_cons_succ]
          refine take_w 7 (some 97) (v := ?_) rfl rfl (by kernel_rfl) (by kernel_rfl) (by kernel_rfl) (fun _ _ _ h => h) (by rfl) ?_ hHeld ?_
          rotate_left
          · (intro w hSw; (try dsimp only at hSw); go_simp; try with_reducible rfl)
          simp only [Act.put, List.setIfInBounds_toArray, List.set_cons_zero, List.set_cons_succ]
          refine take_w 8 (some 98) (v := ?_) rfl rfl (by kernel_rfl) (by kernel_rfl) (by kernel_rfl) (fun _ _ _ h => h) (by rfl) ?_ hHeld ?_
          rotate_left
          · (intro w hSw; (try dsimp only at hSw); go_simp; try with_reducible rfl)
          simp only [Act.put, List.setIfInBounds_toArray, List.set_cons_zero, List.set_cons_succ]
          refine take_w 9 (some 99) (v := ?_) rfl rfl (by kernel_rfl) (by kernel_rfl) (by kernel_rfl) (fun _ _ _ h => h) (by rfl) ?_ hHeld ?_
          rotate_left
          · (intro w hSw; (try dsimp only at hSw); go_simp; try with_reducible rfl)
          simp only [Act.put, List.setIfInBounds_toArray, List.set_cons_zero, List.set_cons_succ]
          refine take_w 10 (some 100) (v := ?_) rfl rfl (by kernel_rfl) (by kernel_rfl) (by kernel_rfl) (fun _ _ _ h => h) (by rfl) ?_ hHeld ?_
          rotate_left
          · (intro w hSw; (try dsimp only at hSw); go_simp; try with_reducible rfl)
          simp only [Act.put, List.setIfInBounds_toArray, List.set_cons_zero, List.set_cons_succ]
          refine take_w 11 (some 101) (v := ?_) rfl rfl (by kernel_rfl) (by kernel_rfl) (by kernel_rfl) (fun _ _ _ h => h) (by rfl) ?_ hHeld ?_
          rotate_left
          · (intro w hSw; (try dsimp only at hSw); go_simp; try with_reducible rfl)
          simp only [Act.put, List.setIfInBounds_toArray, List.set_cons_zero, List.set_cons_succ]
          refine take_w 12 (some 102) (v := ?_) rfl rfl (by kernel_rfl) (by kernel_rfl) (by kernel_rfl) (fun _ _ _ h => h) (by rfl) ?_ hHeld ?_
          rotate_left
          · (intro w hSw; (try dsimp only at hSw); go_simp; try with_reducible rfl)
          simp only [Act.put, List.setIfInBounds_toArray, List.set_cons_zero, List.set_cons_succ]
          refine take_w 13 (some 103) (v := ?_) rfl rfl (by kernel_rfl) (by kernel_rfl) (by kernel_rfl) (fun _ _ _ h => h) (by rfl) ?_ hHeld ?_
          rotate_left
          · (intro w hSw; (try dsimp only at hSw); go_simp; try with_reducible rfl)
          simp only [Act.put, List.setIfInBounds_toArray, List.set_cons_zero, List.set_cons_succ]
          refine take_w 14 (some 104) (v := ?_) rfl rfl (by kernel_rfl) (by kernel_rfl) (by kernel_rfl) (fun _ _ _ h => h) (by rfl) ?_ hHeld ?_
          rotate_left
          · (intro w hSw; (try dsimp only at hSw); go_simp; try with_reducible rfl)
          simp only [Act.put, List.setIfInBounds_toArray, List.set_cons_zero, List.set_cons_succ]
          refine take_w 15 (some 105) (v := ?_) rfl rfl (by kernel_rfl) (by kernel_rfl) (by kernel_rfl) (fun _ _ _ h => h) (by rfl) ?_ hHeld ?_
          rotate_left
          · (intro w hSw; (try dsimp only at hSw); go_simp; try with_reducible rfl)
          simp only [Act.put, List.setIfInBounds_toArray, List.set_cons_zero, List.set_cons_succ]
          refine take_w 16 (some 106) (v := ?_) rfl rfl (by kernel_rfl) (by kernel_rfl) (by kernel_rfl) (fun _ _ _ h => h) (by rfl) ?_ hHeld ?_
          rotate_left
          · (intro w hSw; (try dsimp only at hSw); go_simp; try with_reducible rfl)
          simp only [Act.put, List.setIfInBounds_toArray, List.set_cons_zero, List.set_cons_succ]
          refine take_w 17 (some 107) (v := ?_) rfl rfl (by kernel_rfl) (by kernel_rfl) (by kernel_rfl) (fun _ _ _ h => h) (by rfl) ?_ hHeld ?_
          rotate_left
          · (intro w hSw; (try dsimp only at hSw); go_simp; try with_reducible rfl)
          simp only [Act.put, List.setIfInBounds_toArray, List.set_cons_zero, List.set_cons_succ]
          refine take_c 18 rfl (by kernel_rfl) (by rfl) (fun K hK => ?_)
          go_simp
          refine cs.mono ?_
          rintro e w8 ⟨⟨v8, rfl, r8, f8⟩, -⟩
          obtain ⟨A8, c8, rfl, -, -, -, -, -⟩ := r8.shape
          have cv8 : (convert 31 9 (.slice A8 R.length c8)).run Try.prog w8 = .ok (.string ⟨R.toArray⟩) w8 := conv_str Try.underlying31 Try.underlying5 Try.underlying9 w8 _ R _ c8 rfl r8.rdD.1 r8.rdD.2.2
          replace t := t.keep f8
          refine hK.out _ _ (MK.out _ f8) (fun hHx => ?_)
          clear hK hHeld r8 cs
          try simp only [Act.put, List.setIfInBounds_toArray, List.set_cons_zero, List.set_cons_succ]
          refine take_c 19 rfl (by kernel_rfl) (by rfl) (fun K hK => ?_)
          go_simp
          refine hK.out _ _ (MK.out _ f8) (fun hHeld => ?_)
          clear hK hHx cv8
          try simp only [Act.put, List.setIfInBounds_toArray, List.set_cons_zero, List.set_cons_succ]
          refine take_w 20 (some 110) (v := ?_) rfl rfl (by kernel_rfl) (by kernel_rfl) (by kernel_rfl) (fun _ _ _ h => h) (by rfl) ?_ hHeld ?_
          rotate_left
          · (intro w hSw; (try dsimp only at hSw); go_simp; try with_reducible rfl)
          simp only [Act.put, List.setIfInBounds_toArray, List.set_cons_zero, List.set_cons_succ]
          refine take_w 21 (some 111) (v := ?_) rfl rfl (by kernel_rfl) (by kernel_rfl) (by kernel_rfl) (fun _ _ _ h => h) (by rfl) ?_ hHeld ?_
          rotate_left
          · (intro w hSw; (try dsimp only at hSw); go_simp; try with_reducible rfl)
          simp only [Act.put, List.setIfInBounds_toArray, List.set_cons_zero, List.set_cons_succ]
          refine wpAnyH_done (by kernel_rfl) ?_ _
          go_wp2_with fail
          exact ⟨⟨m + 1, by omega, by go_num, t⟩, by simp [intOf]; omega⟩
        · have dm : ¬ ((m : Int) < 6) := by omega
          go_wp2_with fail
          obtain ⟨hce, hf2, hu2⟩ := hD.crash
          have cc := t.swap.crash none 0 0 [] (KRd.nil _) (by omega)
          rw [hce] at cc
          have hr0 : (D.crash []).readR 0 = zB512 := hf2.readR hu2 (DkM.is_iff.2 ⟨by omega, by rw [hf2.len]; omega⟩)
          have hs6 : D.flOf.sureR 6 = [] := DkM.sureR_no (by rw [DkM.flOf_is, DkM.is, hlen]; rfl)
          have hs1 : D.flOf.sureR (-1) = [] := DkM.sureR_no (by rw [DkM.is]; rfl)
          refine cc.mono ?_
          rintro e w9 ⟨rfl, t9⟩
          have cr := t9.fst.read 0
          rw [hr0] at cr
          obtain ⟨E, hE⟩ : ∃ E, (D.crash []).readE 0 = E := ⟨_, rfl⟩
          rw [hE] at cr
          clear cc t hr0 hE
          go_wp2_with fail
          refine cr.mono ?_
          rintro e wa ⟨⟨va, rfl, ra, fa⟩, -⟩
          rw [zB512_len] at ra
          obtain ⟨Aa, ca, rfl, -, -, -, -, -⟩ := ra.shape
          have za := ra.rdD
          replace t9 := t9.keep fa
          clear cr fa
          go_upto_region 22 with fail
          obtain ⟨wD, hwD⟩ : ∃ wD, wa.drew = wD := ⟨_, rfl⟩
          have fD : Fr [] wa wD := by rw [← hwD]; exact (Fr.refl [] wa).drew
          replace t9 := t9.keep fD
          have rda := za.1.keep_nil fD
          obtain ⟨Z, hZ⟩ : ∃ Z, (List.replicate 512 (Value.int .u8 0)).toArray = Z := ⟨_, rfl⟩
          have rmk : ∀ W : World, (Instr.makeSlice 31 (.int .i64 512) (.int .i64 512)).run Try.prog W = .ok (.slice (some ⟨W.heap.size, 0, none⟩) 512 512) (W.alloc (.cells Z 5)) := fun W => by
            rw [← hZ]
            exact run_mk1 slB rfl W .i64 .i64 512 (by omega)
          have cvn : ∀ W : World, (convert 31 9 (.slice (some ⟨W.heap.size, 0, none⟩) 512 512)).run Try.prog (W.alloc (.cells Z 5)) = .ok (.string ⟨zB512.toArray⟩) (W.alloc (.cells Z 5)) := fun W =>
            conv_str Try.underlying31 Try.underlying5 Try.underlying9 _ _ zB512 512 512 zB512_len (Rd.of_blk (Blk.new W 5 Z) 0 _ (fun j u hu => by
              rw [zB512_vs] at hu
              rw [← hZ, Nat.zero_add, List.getElem?_toArray]
              exact hu)) (fun h => by cases h)
          have mkS : ∀ w' : World, Fr [] wD w' → ((convert 31 9 (.slice Aa 512 ca)).run Try.prog w' = .ok (.string ⟨zB512.toArray⟩) w' ∧ Fr [] wD w') := fun w' f =>
            ⟨conv_str Try.underlying31 Try.underlying5 Try.underlying9 w' _ zB512 512 ca zB512_len (rda.keep_nil f) za.2.2, f⟩
          obtain ⟨sz, hsz⟩ : ∃ sz, Value.string ⟨zB512.toArray⟩ = sz := ⟨_, rfl⟩
          refine wp_region_held_drew (S := fun w' => (convert 31 9 (.slice Aa 512 ca)).run Try.prog w' = .ok (.string ⟨zB512.toArray⟩) w' ∧ Fr [] wD w') (by kernel_rfl) (by rw [hwD]; exact mkS _ (Fr.refl _ _)) (fun hHeld => ?_)
          rw [hwD] at hHeld ⊢
          have MK := Lib.hid mkS
          clear hwD fD mkS rda za ra hZ hsz
          refine take_w 0 (some 120) (v := ?_) rfl rfl (by kernel_rfl) (by kernel_rfl) (by kernel_rfl) (fun _ _ _ h => h) (by rfl) ?_ hHeld ?_
          rotate_left
          · (intro w hSw; (try dsimp only at hSw); go_simp; try with_reducible rfl)
          simp only [Act.put, List.setIfInBounds_toArray, List.set_cons_zero, List.set_cons_succ]
          refine take_w 1 (some 121) (v := ?_) rfl rfl (by kernel_rfl) (by kernel_rfl) (by kernel_rfl) (fun _ _ _ h => h) (by rfl) ?_ hHeld ?_
          rotate_left
          · (intro w hSw; (try dsimp only at hSw); go_simp; try with_reducible rfl)
          simp only [Act.put, List.setIfInBounds_toArray, List.set_cons_zero, List.set_cons_succ]
          refine take_c 2 rfl (by kernel_rfl) (by rfl) (fun K hK => ?_)
          go_simp
          have fz : Fr [] wD (wD.alloc (.cells Z 5)) := (Fr.refl [] wD).alloc _
          refine hK.out _ _ (MK.out _ fz) (fun hHx => ?_)
          clear hK hHeld
          try simp only [Act.put, List.setIfInBounds_toArray, List.set_cons_zero, List.set_cons_succ]
          have cv := cvn wD
          replace t9 := t9.keep fz
          generalize wD.alloc (.cells Z 5) = wE at *
          refine take_c 3 rfl (by kernel_rfl) (by rfl) (fun K hK => ?_)
          go_simp
          refine hK.out _ _ (MK.out _ fz) (fun hHeld => ?_)
          clear hK hHx cv
          try simp only [Act.put, List.setIfInBounds_toArray, List.set_cons_zero, List.set_cons_succ]
          refine take_w 4 (some 124) (v := ?_) rfl rfl (by kernel_rfl) (by kernel_rfl) (by kernel_rfl) (fun _ _ _ h => h) (by rfl) ?_ hHeld ?_
          rotate_left
          · (intro w hSw; (try dsimp only at hSw); go_simp; try with_reducible rfl)
          simp only [Act.put, List.setIfInBounds_toArray, List.set_cons_zero, List.set_cons_succ]
          refine take_w 5 (some 125) (v := ?_) rfl rfl (by kernel_rfl) (by kernel_rfl) (by kernel_rfl) (fun _ _ _ h => h) (by rfl) ?_ hHeld ?_
          rotate_left
          · (intro w hSw; (try dsimp only at hSw); go_simp; try with_reducible rfl)
          simp only [Act.put, List.setIfInBounds_toArray, List.set_cons_zero, List.set_cons_succ]
          refine take_w 6 (some 126) (v := ?_) rfl rfl (by kernel_rfl) (by kernel_rfl) (by kernel_rfl) (fun _ _ _ h => h) (by rfl) ?_ hHeld ?_
          rotate_left
          · (intro w hSw; (try dsimp only at hSw); go_simp; try with_reducible rfl)
          simp only [Act.put, List.setIfInBounds_toArray, List.set_cons_zero, List.set_cons_succ]
          refine take_c 7 rfl (by kernel_rfl) (by rfl) (fun K hK => ?_)
          go_simp
          have cs6 := t9.snd.sure 6
          rw [hs6] at cs6
          refine cs6.mono ?_
          rintro e wF ⟨⟨vF, rfl, rF, fF⟩, -⟩
          obtain ⟨AF, cF, rfl, -, -, -, -, -⟩ := rF.shape
          replace t9 := t9.keep fF
          replace fz := fz.trans_nil fF
          refine hK.out _ _ (MK.out _ fz) (fun hHx => ?_)
          clear hK hHeld cs6 rF fF
          have hHeld := hHx
          clear hHx
          try simp only [Act.put, List.setIfInBounds_toArray, List.set_cons_zero, List.set_cons_succ]
          refine take_w 8 (some 128) (v := ?_) rfl rfl (by kernel_rfl) (by kernel_rfl) (by kernel_rfl) (fun _ _ _ h => h) (by rfl) ?_ hHeld ?_
          rotate_left
          · (intro w hSw; (try dsimp only at hSw); go_simp; try with_reducible rfl)
          simp only [Act.put, List.setIfInBounds_toArray, List.set_cons_zero, List.set_cons_succ]
          refine take_w 9 (some 129) (v := ?_) rfl rfl (by kernel_rfl) (by kernel_rfl) (by kernel_rfl) (fun _ _ _ h => h) (by rfl) ?_ hHeld ?_
          rotate_left
          · (intro w hSw; (try dsimp only at hSw); go_simp; try with_reducible rfl)
          simp only [Act.put, List.setIfInBounds_toArray, List.set_cons_zero, List.set_cons_succ]
          refine take_w 10 (some 130) (v := ?_) rfl rfl (by kernel_rfl) (by kernel_rfl) (by kernel_rfl) (fun _ _ _ h => h) (by rfl) ?_ hHeld ?_
          rotate_left
          · (intro w hSw; (try dsimp only at hSw); go_simp; try with_reducible rfl)
          simp only [Act.put, List.setIfInBounds_toArray, List.set_cons_zero, List.set_cons_succ]
          refine take_w 11 (some 131) (v := ?_) rfl rfl (by kernel_rfl) (by kernel_rfl) (by kernel_rfl) (fun _ _ _ h => h) (by rfl) ?_ hHeld ?_
          rotate_left
          · (intro w hSw; (try dsimp only at hSw); go_simp; try with_reducible rfl)
          simp only [Act.put, List.setIfInBounds_toArray, List.set_cons_zero, List.set_cons_succ]
          refine take_w 12 (some 132) (v := ?_) rfl rfl (by kernel_rfl) (by kernel_rfl) (by kernel_rfl) (fun _ _ _ h => h) (by rfl) ?_ hHeld ?_
          rotate_left
          · (intro w hSw; (try dsimp only at hSw); go_simp; try with_reducible rfl)
          simp only [Act.put, List.setIfInBounds_toArray, List.set_cons_zero, List.set_cons_succ]
          refine take_c 13 rfl (by kernel_rfl) (by rfl) (fun K hK => ?_)
          go_simp
          have cs1 := t9.snd.sure (-1)
          rw [hs1] at cs1
          refine cs1.mono ?_
          rintro e wG ⟨⟨vG, rfl, rG, fG⟩, -⟩
          obtain ⟨AG, cG, rfl, -, -, -, -, -⟩ := rG.shape
          replace t9 := t9.keep fG
          replace fz := fz.trans_nil fG
          refine hK.out _ _ (MK.out _ fz) (fun hHx => ?_)
          clear hK hHeld cs1 rG fG
          have hHeld := hHx
          clear hHx
          try simp only [Act.put, List.setIfInBounds_toArray, List.set_cons_zero, List.set_cons_succ]
          refine take_w 14 (some 134) (v := ?_) rfl rfl (by kernel_rfl) (by kernel_rfl) (by kernel_rfl) (fun _ _ _ h => h) (by rfl) ?_ hHeld ?_
          rotate_left
          · (intro w hSw; (try dsimp only at hSw); go_simp; try with_reducible rfl)
          simp only [Act.put, List.setIfInBounds_toArray, List.set_cons_zero, List.set_cons_succ]
          refine take_w 15 (some 135) (v := ?_) rfl rfl (by kernel_rfl) (by kernel_rfl) (by kernel_rfl) (fun _ _ _ h => h) (by rfl) ?_ hHeld ?_
          rotate_left
          · (intro w hSw; (try dsimp only at hSw); go_simp; try with_reducible rfl)
          simp only [Act.put, List.setIfInBounds_toArray, List.set_cons_zero, List.set_cons_succ]
          refine take_w 16 (some 136) (v := ?_) rfl rfl (by kernel_rfl) (by kernel_rfl) (by kernel_rfl) (fun _ _ _ h => h) (by rfl) ?_ hHeld ?_
          rotate_left
          · (intro w hSw; (try dsimp only at hSw); go_simp; try with_reducible rfl)
          simp only [Act.put, List.setIfInBounds_toArray, List.set_cons_zero, List.set_cons_succ]
          refine take_w 17 (some 4) (v := ?_) rfl rfl (by kernel_rfl) (by kernel_rfl) (by kernel_rfl) (fun _ _ _ h => h) (by rfl) ?_ hHeld ?_
          rotate_left
          · (intro w hSw; (try dsimp only at hSw); go_simp; try with_reducible rfl)
          simp only [Act.put, List.setIfInBounds_toArray, List.set_cons_zero, List.set_cons_succ]
          refine wpAnyH_done (by kernel_rfl) ?_ _
          go_wp2_with fail
          go_ret
          exact ⟨rfl, t9.fr⟩
end Go.Proofs.Ytdhhnioklbnicaa
