/-
  SlotApart, the walk: slots and keys are told apart.
-/
import Derived.Test.YtmonedfafechcaaKeysM
set_option linter.unusedSimpArgs false
set_option linter.unusedVariables false
set_option linter.unnecessarySimpa false
namespace Go.Proofs.Ytmonedfafechcaa
open Go.RowKit

set_option maxRecDepth 100000 in
set_option maxHeartbeats 4000000 in
theorem slotAp_any (w : World) (s t : SlotM) {A : Option Addr} {n c : Nat} {es : List EpM} {tg : List UInt8} (hs : s.ok) (ht : t.ok) (hK : KOk w A n c es tg) :
    Calls Try.prog 11 #[.agg s.cells.toArray, .agg t.cells.toArray, .agg (keyC A n c tg).toArray] w fun e w' => e = .returned (.bool true) ∧ Fr [] w w' := by
  cases h1 : s.good
  · have HS := Lib.hid h1
    cases h2 : t.good
    · have HTT := Lib.hid h2
      clear h1 h2
      go_enter Try.func11, Try.ntmps11
      go_wp2_with
        (first
          | (refine wpList_boxS rfl rfl s.cells rfl ?_; intro w1 h1 f1 z1; have Z1 := Lib.hid z1; clear z1; obtain ⟨g1, hg1⟩ : ∃ g1, w.heap.size = g1 := ⟨_, rfl⟩; rw [hg1] at h1; rw [hg1]; have HG1 := Lib.hid hg1; clear hg1)
          | (refine wpList_boxS rfl rfl t.cells rfl ?_; intro w2 h2 f2 z2; have Z2 := Lib.hid z2; clear z2; obtain ⟨g2, hg2⟩ : ∃ g2, w1.heap.size = g2 := ⟨_, rfl⟩; rw [hg2] at h2; rw [hg2]; have HG2 := Lib.hid hg2; clear hg2)
          | (refine wpList_boxS rfl rfl (keyC A n c tg) rfl ?_; intro w3 h3 f3 z3; have Z3 := Lib.hid z3; clear z3; obtain ⟨g3, hg3⟩ : ∃ g3, w2.heap.size = g3 := ⟨_, rfl⟩; rw [hg3] at h3; rw [hg3]; have HG3 := Lib.hid hg3; clear hg3; have i1 := (h1.keep_nil f2).keep_nil f3; have i2 := h2.keep_nil f3; have F3 := (f1.trans_nil f2).trans_nil f3; clear h1 h2 f1 f2 f3)
          | (refine wpList_ldS stSlot rfl rfl g1 0 rfl s.cells (SlotM.len hs) i1.range0 ?_))
      refine (encSlot_any w3 s hs).mono ?_
      intro e w4 hE
      obtain ⟨A4, c4, rfl, r4, f4⟩ := hE.no HS.out
      have i1 := i1.keep_nil f4
      have i2 := i2.keep_nil f4
      have i3 := h3.keep_nil f4
      have F4 := F3.trans_nil f4
      clear hE h3 F3 f4
      go_wp2_with
        (first
          | (refine wpList_ldS stSlot rfl rfl g2 0 rfl t.cells (SlotM.len ht) i2.range0 ?_))
      refine (encSlot_any w4 t ht).mono ?_
      intro e w5 hE
      obtain ⟨A5, c5, rfl, r5, f5⟩ := hE.no HTT.out
      have i1 := i1.keep_nil f5
      have i2 := i2.keep_nil f5
      have i3 := i3.keep_nil f5
      have r4 := r4.keep_nil f5
      have F5 := F4.trans_nil f5
      clear hE F4 f5
      have n4 := r4.rd
      have n5 := r5.rd
      go_wp2_with fail
      try simp only [Act.put, List.setIfInBounds_toArray, List.set_cons_zero, List.set_cons_succ]
      refine wp_region_held_drew (S := fun w' => Fr [] w5 w') (by kernel_rfl) ((Fr.refl _ _).drew) (fun hHeld => ?_)
      refine take_c 0 rfl (by kernel_rfl) (by rfl) (fun K hK => ?_)
      go_simp
      refine (lives12_any _).mono ?_
      rintro e w6 ⟨rfl, f6⟩
      have F6 := hHeld.trans_nil f6
      refine hK.out _ _ F6 (fun hHeld => ?_)
      clear hK K
      try simp only [Act.put, List.setIfInBounds_toArray, List.set_cons_zero, List.set_cons_succ]
      refine take_w 1 (some 28) (v := ?_) rfl rfl (by kernel_rfl) (by kernel_rfl) (by kernel_rfl) (fun _ _ _ h => h) (by rfl) ?_ hHeld ?_
      rotate_left
      · (intro w hSw; (try dsimp only at hSw); go_simp; try with_reducible rfl)
      simp only [Act.put, List.setIfInBounds_toArray, List.set_cons_zero, List.set_cons_succ]
      refine take_w 2 (some 29) (v := ?_) rfl rfl (by kernel_rfl) (by kernel_rfl) (by kernel_rfl) (fun _ _ _ h => h) (by rfl) ?_ hHeld ?_
      rotate_left
      · (intro w hSw; (try dsimp only at hSw); go_simp; try with_reducible rfl)
      simp only [Act.put, List.setIfInBounds_toArray, List.set_cons_zero, List.set_cons_succ]
      refine take_w 3 (some 30) (v := ?_) rfl rfl (by kernel_rfl) (by kernel_rfl) (by kernel_rfl) (fun _ _ _ h => h) (by rfl) ?_ hHeld ?_
      rotate_left
      · (intro w hSw; (try dsimp only at hSw); go_simp; try with_reducible rfl)
      simp only [Act.put, List.setIfInBounds_toArray, List.set_cons_zero, List.set_cons_succ]
      refine take_w 4 (some 31) (v := ?_) rfl rfl (by kernel_rfl) (by kernel_rfl) (by kernel_rfl) (fun _ _ _ h => h) (by rfl) ?_ hHeld ?_
      rotate_left
      · (intro w hSw; (try dsimp only at hSw); go_simp; try with_reducible rfl)
      simp only [Act.put, List.setIfInBounds_toArray, List.set_cons_zero, List.set_cons_succ]
      refine take_w 5 (some 32) (v := ?_) rfl rfl (by kernel_rfl) (by kernel_rfl) (by kernel_rfl) (fun _ _ _ h => h) (by rfl) ?_ hHeld ?_
      rotate_left
      · (intro w hSw; (try dsimp only at hSw); go_simp; try with_reducible rfl)
      simp only [Act.put, List.setIfInBounds_toArray, List.set_cons_zero, List.set_cons_succ]
      refine take_u 6 (some 33) rfl rfl (by kernel_rfl) (by kernel_rfl) (by kernel_rfl) (fun _ _ _ h => h) (by rfl) hHeld ?_
      simp only [Act.put, List.setIfInBounds_toArray, List.set_cons_zero, List.set_cons_succ]
      refine take_u 7 (some 34) rfl rfl (by kernel_rfl) (by kernel_rfl) (by kernel_rfl) (fun _ _ _ h => h) (by rfl) hHeld ?_
      simp only [Act.put, List.setIfInBounds_toArray, List.set_cons_zero, List.set_cons_succ]
      refine take_w 8 (some 35) (v := ?_) rfl rfl (by kernel_rfl) (by kernel_rfl) (by kernel_rfl) (fun _ _ _ h => h) (by rfl) ?_ hHeld ?_
      rotate_left
      · (intro w hSw; (try dsimp only at hSw); go_simp; try with_reducible rfl)
      simp only [Act.put, List.setIfInBounds_toArray, List.set_cons_zero, List.set_cons_succ]
      refine take_w 9 (some 36) (v := ?_) rfl rfl (by kernel_rfl) (by kernel_rfl) (by kernel_rfl) (fun _ _ _ h => h) (by rfl) ?_ hHeld ?_
      rotate_left
      · (intro w hSw; (try dsimp only at hSw); go_simp; try with_reducible rfl)
      simp only [Act.put, List.setIfInBounds_toArray, List.set_cons_zero, List.set_cons_succ]
      refine take_u 10 (some 37) rfl rfl (by kernel_rfl) (by kernel_rfl) (by kernel_rfl) (fun _ _ _ h => h) (by rfl) hHeld ?_
      simp only [Act.put, List.setIfInBounds_toArray, List.set_cons_zero, List.set_cons_succ]
      refine take_u 11 (some 38) rfl rfl (by kernel_rfl) (by kernel_rfl) (by kernel_rfl) (fun _ _ _ h => h) (by rfl) hHeld ?_
      simp only [Act.put, List.setIfInBounds_toArray, List.set_cons_zero, List.set_cons_succ]
      refine take_u 12 (some 39) rfl rfl (by kernel_rfl) (by kernel_rfl) (by kernel_rfl) (fun _ _ _ h => h) (by rfl) hHeld ?_
      simp only [Act.put, List.setIfInBounds_toArray, List.set_cons_zero, List.set_cons_succ]
      refine take_u 13 (some 40) rfl rfl (by kernel_rfl) (by kernel_rfl) (by kernel_rfl) (fun _ _ _ h => h) (by rfl) hHeld ?_
      simp only [Act.put, List.setIfInBounds_toArray, List.set_cons_zero, List.set_cons_succ]
      refine take_u 14 (some 41) rfl rfl (by kernel_rfl) (by kernel_rfl) (by kernel_rfl) (fun _ _ _ h => h) (by rfl) hHeld ?_
      simp only [Act.put, List.setIfInBounds_toArray, List.set_cons_zero, List.set_cons_succ]
      refine take_u 15 (some 42) rfl rfl (by kernel_rfl) (by kernel_rfl) (by kernel_rfl) (fun _ _ _ h => h) (by rfl) hHeld ?_
      simp only [Act.put, List.setIfInBounds_toArray, List.set_cons_zero, List.set_cons_succ]
      refine take_u 16 (some 43) rfl rfl (by kernel_rfl) (by kernel_rfl) (by kernel_rfl) (fun _ _ _ h => h) (by rfl) hHeld ?_
      simp only [Act.put, List.setIfInBounds_toArray, List.set_cons_zero, List.set_cons_succ]
      refine take_u 17 (some 44) rfl rfl (by kernel_rfl) (by kernel_rfl) (by kernel_rfl) (fun _ _ _ h => h) (by rfl) hHeld ?_
      simp only [Act.put, List.setIfInBounds_toArray, List.set_cons_zero, List.set_cons_succ]
      refine take_u 18 (some 45) rfl rfl (by kernel_rfl) (by kernel_rfl) (by kernel_rfl) (fun _ _ _ h => h) (by rfl) hHeld ?_
      simp only [Act.put, List.setIfInBounds_toArray, List.set_cons_zero, List.set_cons_succ]
      refine take_w 19 (some 46) (v := ?_) rfl rfl (by kernel_rfl) (by kernel_rfl) (by kernel_rfl) (fun _ _ _ h => h) (by rfl) ?_ hHeld ?_
      rotate_left
      · (intro w hSw; (try dsimp only at hSw); go_simp; try with_reducible rfl)
      simp only [Act.put, List.setIfInBounds_toArray, List.set_cons_zero, List.set_cons_succ]
      refine take_w 20 (some 47) (v := ?_) rfl rfl (by kernel_rfl) (by kernel_rfl) (by kernel_rfl) (fun _ _ _ h => h) (by rfl) ?_ hHeld ?_
      rotate_left
      · (intro w hSw; (try dsimp only at hSw); go_simp; try with_reducible rfl)
      simp only [Act.put, List.setIfInBounds_toArray, List.set_cons_zero, List.set_cons_succ]
      refine wpAnyH_done (by kernel_rfl) ?_ _
      have K6 := (hK.keep_nil F5).keep_nil F6
      have i3 := i3.keep_nil F6
      have r4 := r4.keep_nil F6
      have F6 := F5.trans_nil F6
      clear i1 i2 hHeld n4 n5 F5
      cases hr : rightB es
      · have HR := Lib.hid hr
        clear hr
        go_wp2_with
          (first
            | (refine wpList_ldS stKeys rfl rfl g3 0 rfl (keyC A n c tg) (keyC_len _ _ _ hK.tg) i3.range0 ?_))
        have cc := encKeys_any w6 K6
        unfold EncK at cc
        rw [HR.out] at cc
        refine cc.mono ?_
        clear cc
        rintro e w7 ⟨v7, rfl, r7, f7⟩
        obtain ⟨A7, cap7, rfl, -, -, -, -, -⟩ := r7.shape
        go_wp2_with fail
        go_ret
        exact ⟨rfl, F6.trans_nil f7⟩
      · have HR := Lib.hid hr
        have hl7 : (keyBytes es tg).length = 512 := keyBytes_len hK.each hK.tg (by have := (right_fit hr hK.each).1; omega)
        have HL7 := Lib.hid hl7
        clear hr hl7
        go_wp2_with
          (first
            | (refine wpList_ldS stKeys rfl rfl g3 0 rfl (keyC A n c tg) (keyC_len _ _ _ hK.tg) i3.range0 ?_))
        have cc := encKeys_any w6 K6
        unfold EncK at cc
        rw [HR.out] at cc
        refine cc.mono ?_
        clear cc
        rintro e w7 ⟨v7, rfl, r7, f7⟩
        rw [if_pos rfl, if_pos rfl, HL7.out] at r7
        obtain ⟨A7, cap7, rfl, -, -, rd7, -, -⟩ := r7.shape
        have n7 := r7.rd.2.2
        have r4 := r4.keep_nil f7
        have F7 := F6.trans_nil f7
        clear r7 f7 F6 K6 i3
        go_wp2_with fail
        have cc := decSlot_any w7 A7 (keyBytes es tg) 512 cap7 HL7.out rd7 n7 (by omega)
        unfold DecS at cc
        rw [show decV (keyBytes es tg) = zeroS by rw [decV, keys_no_slot]; rfl, keys_no_slot] at cc
        refine cc.mono ?_
        clear cc
        rintro e w8 ⟨rfl, f8⟩
        have r4 := r4.keep_nil f8
        have F8 := F7.trans_nil f8
        clear f8 F7 rd7 n7
        go_wp2_with
          (first
            | (refine wpList_alS stSlot rfl rfl ?_; intro w9 h9 f9 z9; have Z9 := Lib.hid z9; clear z9; obtain ⟨g9, hg9⟩ : ∃ g9, w8.heap.size = g9 := ⟨_, rfl⟩; rw [hg9] at h9; rw [hg9]; have HG9 := Lib.hid hg9; clear hg9)
            | (refine wpList_stB stSlot rfl rfl g9 rfl zeroS.cells rfl (SlotM.len zeroS_ok) zeroS.ones zeroS.cells (SlotM.len zeroS_ok) h9 ?_; intro wa ha fa za; have ZA := Lib.hid za; clear za))
        have FF : Fr [] w8 wa := f9.trans fa (fun i hi => .inr (by have := HG9.out; simp at hi; omega))
        have r4 := r4.keep_nil FF
        have FA := F8.trans_nil FF
        clear f9 fa h9 ha FF F8
        go_ret
        exact ⟨rfl, FA⟩
    · have HTT := Lib.hid h2
      clear h1 h2
      go_enter Try.func11, Try.ntmps11
      go_wp2_with
        (first
          | (refine wpList_boxS rfl rfl s.cells rfl ?_; intro w1 h1 f1 z1; have Z1 := Lib.hid z1; clear z1; obtain ⟨g1, hg1⟩ : ∃ g1, w.heap.size = g1 := ⟨_, rfl⟩; rw [hg1] at h1; rw [hg1]; have HG1 := Lib.hid hg1; clear hg1)
          | (refine wpList_boxS rfl rfl t.cells rfl ?_; intro w2 h2 f2 z2; have Z2 := Lib.hid z2; clear z2; obtain ⟨g2, hg2⟩ : ∃ g2, w1.heap.size = g2 := ⟨_, rfl⟩; rw [hg2] at h2; rw [hg2]; have HG2 := Lib.hid hg2; clear hg2)
          | (refine wpList_boxS rfl rfl (keyC A n c tg) rfl ?_; intro w3 h3 f3 z3; have Z3 := Lib.hid z3; clear z3; obtain ⟨g3, hg3⟩ : ∃ g3, w2.heap.size = g3 := ⟨_, rfl⟩; rw [hg3] at h3; rw [hg3]; have HG3 := Lib.hid hg3; clear hg3; have i1 := (h1.keep_nil f2).keep_nil f3; have i2 := h2.keep_nil f3; have F3 := (f1.trans_nil f2).trans_nil f3; clear h1 h2 f1 f2 f3)
          | (refine wpList_ldS stSlot rfl rfl g1 0 rfl s.cells (SlotM.len hs) i1.range0 ?_))
      refine (encSlot_any w3 s hs).mono ?_
      intro e w4 hE
      obtain ⟨A4, c4, rfl, r4, f4⟩ := hE.no HS.out
      have i1 := i1.keep_nil f4
      have i2 := i2.keep_nil f4
      have i3 := h3.keep_nil f4
      have F4 := F3.trans_nil f4
      clear hE h3 F3 f4
      go_wp2_with
        (first
          | (refine wpList_ldS stSlot rfl rfl g2 0 rfl t.cells (SlotM.len ht) i2.range0 ?_))
      refine (encSlot_any w4 t ht).mono ?_
      intro e w5 hE
      obtain ⟨A5, c5, rfl, r5, f5⟩ := hE.yes HTT.out
      have i1 := i1.keep_nil f5
      have i2 := i2.keep_nil f5
      have i3 := i3.keep_nil f5
      have r4 := r4.keep_nil f5
      have F5 := F4.trans_nil f5
      clear hE F4 f5
      have n4 := r4.rd
      have n5 := r5.rd
      go_wp2_with fail
      try simp only [Act.put, List.setIfInBounds_toArray, List.set_cons_zero, List.set_cons_succ]
      refine wp_region_held_drew (S := fun w' => Fr [] w5 w') (by kernel_rfl) ((Fr.refl _ _).drew) (fun hHeld => ?_)
      refine take_c 0 rfl (by kernel_rfl) (by rfl) (fun K hK => ?_)
      go_simp
      refine (lives12_any _).mono ?_
      rintro e w6 ⟨rfl, f6⟩
      have F6 := hHeld.trans_nil f6
      refine hK.out _ _ F6 (fun hHeld => ?_)
      clear hK K
      try simp only [Act.put, List.setIfInBounds_toArray, List.set_cons_zero, List.set_cons_succ]
      refine take_w 1 (some 28) (v := ?_) rfl rfl (by kernel_rfl) (by kernel_rfl) (by kernel_rfl) (fun _ _ _ h => h) (by rfl) ?_ hHeld ?_
      rotate_left
      · (intro w hSw; (try dsimp only at hSw); go_simp; try with_reducible rfl)
      simp only [Act.put, List.setIfInBounds_toArray, List.set_cons_zero, List.set_cons_succ]
      refine take_w 2 (some 29) (v := ?_) rfl rfl (by kernel_rfl) (by kernel_rfl) (by kernel_rfl) (fun _ _ _ h => h) (by rfl) ?_ hHeld ?_
      rotate_left
      · (intro w hSw; (try dsimp only at hSw); go_simp; try with_reducible rfl)
      simp only [Act.put, List.setIfInBounds_toArray, List.set_cons_zero, List.set_cons_succ]
      refine take_w 3 (some 30) (v := ?_) rfl rfl (by kernel_rfl) (by kernel_rfl) (by kernel_rfl) (fun _ _ _ h => h) (by rfl) ?_ hHeld ?_
      rotate_left
      · (intro w hSw; (try dsimp only at hSw); go_simp; try with_reducible rfl)
      simp only [Act.put, List.setIfInBounds_toArray, List.set_cons_zero, List.set_cons_succ]
      refine take_w 4 (some 31) (v := ?_) rfl rfl (by kernel_rfl) (by kernel_rfl) (by kernel_rfl) (fun _ _ _ h => h) (by rfl) ?_ hHeld ?_
      rotate_left
      · (intro w hSw; (try dsimp only at hSw); go_simp; try with_reducible rfl)
      simp only [Act.put, List.setIfInBounds_toArray, List.set_cons_zero, List.set_cons_succ]
      refine take_w 5 (some 32) (v := ?_) rfl rfl (by kernel_rfl) (by kernel_rfl) (by kernel_rfl) (fun _ _ _ h => h) (by rfl) ?_ hHeld ?_
      rotate_left
      · (intro w hSw; (try dsimp only at hSw); go_simp; try with_reducible rfl)
      simp only [Act.put, List.setIfInBounds_toArray, List.set_cons_zero, List.set_cons_succ]
      refine take_u 6 (some 33) rfl rfl (by kernel_rfl) (by kernel_rfl) (by kernel_rfl) (fun _ _ _ h => h) (by rfl) hHeld ?_
      simp only [Act.put, List.setIfInBounds_toArray, List.set_cons_zero, List.set_cons_succ]
      refine take_u 7 (some 34) rfl rfl (by kernel_rfl) (by kernel_rfl) (by kernel_rfl) (fun _ _ _ h => h) (by rfl) hHeld ?_
      simp only [Act.put, List.setIfInBounds_toArray, List.set_cons_zero, List.set_cons_succ]
      refine take_w 8 (some 35) (v := ?_) rfl rfl (by kernel_rfl) (by kernel_rfl) (by kernel_rfl) (fun _ _ _ h => h) (by rfl) ?_ hHeld ?_
      rotate_left
      · (intro w hSw; (try dsimp only at hSw); go_simp; try with_reducible rfl)
      simp only [Act.put, List.setIfInBounds_toArray, List.set_cons_zero, List.set_cons_succ]
      refine take_w 9 (some 36) (v := ?_) rfl rfl (by kernel_rfl) (by kernel_rfl) (by kernel_rfl) (fun _ _ _ h => h) (by rfl) ?_ hHeld ?_
      rotate_left
      · (intro w hSw; (try dsimp only at hSw); go_simp; try with_reducible rfl)
      simp only [Act.put, List.setIfInBounds_toArray, List.set_cons_zero, List.set_cons_succ]
      refine take_u 10 (some 37) rfl rfl (by kernel_rfl) (by kernel_rfl) (by kernel_rfl) (fun _ _ _ h => h) (by rfl) hHeld ?_
      simp only [Act.put, List.setIfInBounds_toArray, List.set_cons_zero, List.set_cons_succ]
      refine take_u 11 (some 38) rfl rfl (by kernel_rfl) (by kernel_rfl) (by kernel_rfl) (fun _ _ _ h => h) (by rfl) hHeld ?_
      simp only [Act.put, List.setIfInBounds_toArray, List.set_cons_zero, List.set_cons_succ]
      refine take_u 12 (some 39) rfl rfl (by kernel_rfl) (by kernel_rfl) (by kernel_rfl) (fun _ _ _ h => h) (by rfl) hHeld ?_
      simp only [Act.put, List.setIfInBounds_toArray, List.set_cons_zero, List.set_cons_succ]
      refine take_u 13 (some 40) rfl rfl (by kernel_rfl) (by kernel_rfl) (by kernel_rfl) (fun _ _ _ h => h) (by rfl) hHeld ?_
      simp only [Act.put, List.setIfInBounds_toArray, List.set_cons_zero, List.set_cons_succ]
      refine take_u 14 (some 41) rfl rfl (by kernel_rfl) (by kernel_rfl) (by kernel_rfl) (fun _ _ _ h => h) (by rfl) hHeld ?_
      simp only [Act.put, List.setIfInBounds_toArray, List.set_cons_zero, List.set_cons_succ]
      refine take_u 15 (some 42) rfl rfl (by kernel_rfl) (by kernel_rfl) (by kernel_rfl) (fun _ _ _ h => h) (by rfl) hHeld ?_
      simp only [Act.put, List.setIfInBounds_toArray, List.set_cons_zero, List.set_cons_succ]
      refine take_u 16 (some 43) rfl rfl (by kernel_rfl) (by kernel_rfl) (by kernel_rfl) (fun _ _ _ h => h) (by rfl) hHeld ?_
      simp only [Act.put, List.setIfInBounds_toArray, List.set_cons_zero, List.set_cons_succ]
      refine take_u 17 (some 44) rfl rfl (by kernel_rfl) (by kernel_rfl) (by kernel_rfl) (fun _ _ _ h => h) (by rfl) hHeld ?_
      simp only [Act.put, List.setIfInBounds_toArray, List.set_cons_zero, List.set_cons_succ]
      refine take_u 18 (some 45) rfl rfl (by kernel_rfl) (by kernel_rfl) (by kernel_rfl) (fun _ _ _ h => h) (by rfl) hHeld ?_
      simp only [Act.put, List.setIfInBounds_toArray, List.set_cons_zero, List.set_cons_succ]
      refine take_w 19 (some 46) (v := ?_) rfl rfl (by kernel_rfl) (by kernel_rfl) (by kernel_rfl) (fun _ _ _ h => h) (by rfl) ?_ hHeld ?_
      rotate_left
      · (intro w hSw; (try dsimp only at hSw); go_simp; try with_reducible rfl)
      simp only [Act.put, List.setIfInBounds_toArray, List.set_cons_zero, List.set_cons_succ]
      refine take_w 20 (some 47) (v := ?_) rfl rfl (by kernel_rfl) (by kernel_rfl) (by kernel_rfl) (fun _ _ _ h => h) (by rfl) ?_ hHeld ?_
      rotate_left
      · (intro w hSw; (try dsimp only at hSw); go_simp; try with_reducible rfl)
      simp only [Act.put, List.setIfInBounds_toArray, List.set_cons_zero, List.set_cons_succ]
      refine wpAnyH_done (by kernel_rfl) ?_ _
      have K6 := (hK.keep_nil F5).keep_nil F6
      have i3 := i3.keep_nil F6
      have r4 := r4.keep_nil F6
      have F6 := F5.trans_nil F6
      clear i1 i2 hHeld n4 n5 F5
      cases hr : rightB es
      · have HR := Lib.hid hr
        clear hr
        go_wp2_with
          (first
            | (refine wpList_ldS stKeys rfl rfl g3 0 rfl (keyC A n c tg) (keyC_len _ _ _ hK.tg) i3.range0 ?_))
        have cc := encKeys_any w6 K6
        unfold EncK at cc
        rw [HR.out] at cc
        refine cc.mono ?_
        clear cc
        rintro e w7 ⟨v7, rfl, r7, f7⟩
        obtain ⟨A7, cap7, rfl, -, -, -, -, -⟩ := r7.shape
        go_wp2_with fail
        go_ret
        exact ⟨rfl, F6.trans_nil f7⟩
      · have HR := Lib.hid hr
        have hl7 : (keyBytes es tg).length = 512 := keyBytes_len hK.each hK.tg (by have := (right_fit hr hK.each).1; omega)
        have HL7 := Lib.hid hl7
        clear hr hl7
        go_wp2_with
          (first
            | (refine wpList_ldS stKeys rfl rfl g3 0 rfl (keyC A n c tg) (keyC_len _ _ _ hK.tg) i3.range0 ?_))
        have cc := encKeys_any w6 K6
        unfold EncK at cc
        rw [HR.out] at cc
        refine cc.mono ?_
        clear cc
        rintro e w7 ⟨v7, rfl, r7, f7⟩
        rw [if_pos rfl, if_pos rfl, HL7.out] at r7
        obtain ⟨A7, cap7, rfl, -, -, rd7, -, -⟩ := r7.shape
        have n7 := r7.rd.2.2
        have r4 := r4.keep_nil f7
        have F7 := F6.trans_nil f7
        clear r7 f7 F6 K6 i3
        go_wp2_with fail
        have cc := decSlot_any w7 A7 (keyBytes es tg) 512 cap7 HL7.out rd7 n7 (by omega)
        unfold DecS at cc
        rw [show decV (keyBytes es tg) = zeroS by rw [decV, keys_no_slot]; rfl, keys_no_slot] at cc
        refine cc.mono ?_
        clear cc
        rintro e w8 ⟨rfl, f8⟩
        have r4 := r4.keep_nil f8
        have F8 := F7.trans_nil f8
        clear f8 F7 rd7 n7
        go_wp2_with
          (first
            | (refine wpList_alS stSlot rfl rfl ?_; intro w9 h9 f9 z9; have Z9 := Lib.hid z9; clear z9; obtain ⟨g9, hg9⟩ : ∃ g9, w8.heap.size = g9 := ⟨_, rfl⟩; rw [hg9] at h9; rw [hg9]; have HG9 := Lib.hid hg9; clear hg9)
            | (refine wpList_stB stSlot rfl rfl g9 rfl zeroS.cells rfl (SlotM.len zeroS_ok) zeroS.ones zeroS.cells (SlotM.len zeroS_ok) h9 ?_; intro wa ha fa za; have ZA := Lib.hid za; clear za))
        have FF : Fr [] w8 wa := f9.trans fa (fun i hi => .inr (by have := HG9.out; simp at hi; omega))
        have r4 := r4.keep_nil FF
        have FA := F8.trans_nil FF
        clear f9 fa h9 ha FF F8
        go_ret
        exact ⟨rfl, FA⟩
  · have HS := Lib.hid h1
    cases h2 : t.good
    · have HTT := Lib.hid h2
      clear h1 h2
      go_enter Try.func11, Try.ntmps11
      go_wp2_with
        (first
          | (refine wpList_boxS rfl rfl s.cells rfl ?_; intro w1 h1 f1 z1; have Z1 := Lib.hid z1; clear z1; obtain ⟨g1, hg1⟩ : ∃ g1, w.heap.size = g1 := ⟨_, rfl⟩; rw [hg1] at h1; rw [hg1]; have HG1 := Lib.hid hg1; clear hg1)
          | (refine wpList_boxS rfl rfl t.cells rfl ?_; intro w2 h2 f2 z2; have Z2 := Lib.hid z2; clear z2; obtain ⟨g2, hg2⟩ : ∃ g2, w1.heap.size = g2 := ⟨_, rfl⟩; rw [hg2] at h2; rw [hg2]; have HG2 := Lib.hid hg2; clear hg2)
          | (refine wpList_boxS rfl rfl (keyC A n c tg) rfl ?_; intro w3 h3 f3 z3; have Z3 := Lib.hid z3; clear z3; obtain ⟨g3, hg3⟩ : ∃ g3, w2.heap.size = g3 := ⟨_, rfl⟩; rw [hg3] at h3; rw [hg3]; have HG3 := Lib.hid hg3; clear hg3; have i1 := (h1.keep_nil f2).keep_nil f3; have i2 := h2.keep_nil f3; have F3 := (f1.trans_nil f2).trans_nil f3; clear h1 h2 f1 f2 f3)
          | (refine wpList_ldS stSlot rfl rfl g1 0 rfl s.cells (SlotM.len hs) i1.range0 ?_))
      refine (encSlot_any w3 s hs).mono ?_
      intro e w4 hE
      obtain ⟨A4, c4, rfl, r4, f4⟩ := hE.yes HS.out
      have i1 := i1.keep_nil f4
      have i2 := i2.keep_nil f4
      have i3 := h3.keep_nil f4
      have F4 := F3.trans_nil f4
      clear hE h3 F3 f4
      go_wp2_with
        (first
          | (refine wpList_ldS stSlot rfl rfl g2 0 rfl t.cells (SlotM.len ht) i2.range0 ?_))
      refine (encSlot_any w4 t ht).mono ?_
      intro e w5 hE
      obtain ⟨A5, c5, rfl, r5, f5⟩ := hE.no HTT.out
      have i1 := i1.keep_nil f5
      have i2 := i2.keep_nil f5
      have i3 := i3.keep_nil f5
      have r4 := r4.keep_nil f5
      have F5 := F4.trans_nil f5
      clear hE F4 f5
      have n4 := r4.rd
      have n5 := r5.rd
      go_wp2_with fail
      try simp only [Act.put, List.setIfInBounds_toArray, List.set_cons_zero, List.set_cons_succ]
      refine wp_region_held_drew (S := fun w' => Fr [] w5 w') (by kernel_rfl) ((Fr.refl _ _).drew) (fun hHeld => ?_)
      refine take_c 0 rfl (by kernel_rfl) (by rfl) (fun K hK => ?_)
      go_simp
      refine (lives12_any _).mono ?_
      rintro e w6 ⟨rfl, f6⟩
      have F6 := hHeld.trans_nil f6
      refine hK.out _ _ F6 (fun hHeld => ?_)
      clear hK K
      try simp only [Act.put, List.setIfInBounds_toArray, List.set_cons_zero, List.set_cons_succ]
      refine take_w 1 (some 28) (v := ?_) rfl rfl (by kernel_rfl) (by kernel_rfl) (by kernel_rfl) (fun _ _ _ h => h) (by rfl) ?_ hHeld ?_
      rotate_left
      · (intro w hSw; (try dsimp only at hSw); go_simp; try with_reducible rfl)
      simp only [Act.put, List.setIfInBounds_toArray, List.set_cons_zero, List.set_cons_succ]
      refine take_w 2 (some 29) (v := ?_) rfl rfl (by kernel_rfl) (by kernel_rfl) (by kernel_rfl) (fun _ _ _ h => h) (by rfl) ?_ hHeld ?_
      rotate_left
      · (intro w hSw; (try dsimp only at hSw); go_simp; try with_reducible rfl)
      simp only [Act.put, List.setIfInBounds_toArray, List.set_cons_zero, List.set_cons_succ]
      refine take_w 3 (some 30) (v := ?_) rfl rfl (by kernel_rfl) (by kernel_rfl) (by kernel_rfl) (fun _ _ _ h => h) (by rfl) ?_ hHeld ?_
      rotate_left
      · (intro w hSw; (try dsimp only at hSw); go_simp; try with_reducible rfl)
      simp only [Act.put, List.setIfInBounds_toArray, List.set_cons_zero, List.set_cons_succ]
      refine take_w 4 (some 31) (v := ?_) rfl rfl (by kernel_rfl) (by kernel_rfl) (by kernel_rfl) (fun _ _ _ h => h) (by rfl) ?_ hHeld ?_
      rotate_left
      · (intro w hSw; (try dsimp only at hSw); go_simp; try with_reducible rfl)
      simp only [Act.put, List.setIfInBounds_toArray, List.set_cons_zero, List.set_cons_succ]
      refine take_w 5 (some 32) (v := ?_) rfl rfl (by kernel_rfl) (by kernel_rfl) (by kernel_rfl) (fun _ _ _ h => h) (by rfl) ?_ hHeld ?_
      rotate_left
      · (intro w hSw; (try dsimp only at hSw); go_simp; try with_reducible rfl)
      simp only [Act.put, List.setIfInBounds_toArray, List.set_cons_zero, List.set_cons_succ]
      refine take_w 6 (some 33) (v := ?_) rfl rfl (by kernel_rfl) (by kernel_rfl) (by kernel_rfl) (fun _ _ _ h => h) (by rfl) ?_ hHeld ?_
      rotate_left
      · (intro w hSw; (try dsimp only at hSw); go_simp; try with_reducible rfl)
      simp only [Act.put, List.setIfInBounds_toArray, List.set_cons_zero, List.set_cons_succ]
      refine take_w 7 (some 34) (v := ?_) rfl rfl (by kernel_rfl) (by kernel_rfl) (by kernel_rfl) (fun _ _ _ h => h) (by rfl) ?_ hHeld ?_
      rotate_left
      · (intro w hSw; (try dsimp only at hSw); go_simp; try with_reducible rfl)
      simp only [Act.put, List.setIfInBounds_toArray, List.set_cons_zero, List.set_cons_succ]
      refine take_w 8 (some 35) (v := ?_) rfl rfl (by kernel_rfl) (by kernel_rfl) (by kernel_rfl) (fun _ _ _ h => h) (by rfl) ?_ hHeld ?_
      rotate_left
      · (intro w hSw; (try dsimp only at hSw); go_simp; try with_reducible rfl)
      simp only [Act.put, List.setIfInBounds_toArray, List.set_cons_zero, List.set_cons_succ]
      refine take_w 9 (some 36) (v := ?_) rfl rfl (by kernel_rfl) (by kernel_rfl) (by kernel_rfl) (fun _ _ _ h => h) (by rfl) ?_ hHeld ?_
      rotate_left
      · (intro w hSw; (try dsimp only at hSw); go_simp; try with_reducible rfl)
      simp only [Act.put, List.setIfInBounds_toArray, List.set_cons_zero, List.set_cons_succ]
      refine take_u 10 (some 37) rfl rfl (by kernel_rfl) (by kernel_rfl) (by kernel_rfl) (fun _ _ _ h => h) (by rfl) hHeld ?_
      simp only [Act.put, List.setIfInBounds_toArray, List.set_cons_zero, List.set_cons_succ]
      refine take_u 11 (some 38) rfl rfl (by kernel_rfl) (by kernel_rfl) (by kernel_rfl) (fun _ _ _ h => h) (by rfl) hHeld ?_
      simp only [Act.put, List.setIfInBounds_toArray, List.set_cons_zero, List.set_cons_succ]
      refine take_u 12 (some 39) rfl rfl (by kernel_rfl) (by kernel_rfl) (by kernel_rfl) (fun _ _ _ h => h) (by rfl) hHeld ?_
      simp only [Act.put, List.setIfInBounds_toArray, List.set_cons_zero, List.set_cons_succ]
      refine take_u 13 (some 40) rfl rfl (by kernel_rfl) (by kernel_rfl) (by kernel_rfl) (fun _ _ _ h => h) (by rfl) hHeld ?_
      simp only [Act.put, List.setIfInBounds_toArray, List.set_cons_zero, List.set_cons_succ]
      refine take_u 14 (some 41) rfl rfl (by kernel_rfl) (by kernel_rfl) (by kernel_rfl) (fun _ _ _ h => h) (by rfl) hHeld ?_
      simp only [Act.put, List.setIfInBounds_toArray, List.set_cons_zero, List.set_cons_succ]
      refine take_u 15 (some 42) rfl rfl (by kernel_rfl) (by kernel_rfl) (by kernel_rfl) (fun _ _ _ h => h) (by rfl) hHeld ?_
      simp only [Act.put, List.setIfInBounds_toArray, List.set_cons_zero, List.set_cons_succ]
      refine take_u 16 (some 43) rfl rfl (by kernel_rfl) (by kernel_rfl) (by kernel_rfl) (fun _ _ _ h => h) (by rfl) hHeld ?_
      simp only [Act.put, List.setIfInBounds_toArray, List.set_cons_zero, List.set_cons_succ]
      refine take_u 17 (some 44) rfl rfl (by kernel_rfl) (by kernel_rfl) (by kernel_rfl) (fun _ _ _ h => h) (by rfl) hHeld ?_
      simp only [Act.put, List.setIfInBounds_toArray, List.set_cons_zero, List.set_cons_succ]
      refine take_u 18 (some 45) rfl rfl (by kernel_rfl) (by kernel_rfl) (by kernel_rfl) (fun _ _ _ h => h) (by rfl) hHeld ?_
      simp only [Act.put, List.setIfInBounds_toArray, List.set_cons_zero, List.set_cons_succ]
      refine take_w 19 (some 46) (v := ?_) rfl rfl (by kernel_rfl) (by kernel_rfl) (by kernel_rfl) (fun _ _ _ h => h) (by rfl) ?_ hHeld ?_
      rotate_left
      · (intro w hSw; (try dsimp only at hSw); go_simp; try with_reducible rfl)
      simp only [Act.put, List.setIfInBounds_toArray, List.set_cons_zero, List.set_cons_succ]
      refine take_w 20 (some 47) (v := ?_) rfl rfl (by kernel_rfl) (by kernel_rfl) (by kernel_rfl) (fun _ _ _ h => h) (by rfl) ?_ hHeld ?_
      rotate_left
      · (intro w hSw; (try dsimp only at hSw); go_simp; try with_reducible rfl)
      simp only [Act.put, List.setIfInBounds_toArray, List.set_cons_zero, List.set_cons_succ]
      refine wpAnyH_done (by kernel_rfl) ?_ _
      have K6 := (hK.keep_nil F5).keep_nil F6
      have i3 := i3.keep_nil F6
      have r4 := r4.keep_nil F6
      have F6 := F5.trans_nil F6
      clear i1 i2 hHeld n4 n5 F5
      cases hr : rightB es
      · have HR := Lib.hid hr
        clear hr
        go_wp2_with
          (first
            | (refine wpList_ldS stKeys rfl rfl g3 0 rfl (keyC A n c tg) (keyC_len _ _ _ hK.tg) i3.range0 ?_))
        have cc := encKeys_any w6 K6
        unfold EncK at cc
        rw [HR.out] at cc
        refine cc.mono ?_
        clear cc
        rintro e w7 ⟨v7, rfl, r7, f7⟩
        obtain ⟨A7, cap7, rfl, -, -, -, -, -⟩ := r7.shape
        go_wp2_with fail
        go_ret
        exact ⟨rfl, F6.trans_nil f7⟩
      · have HR := Lib.hid hr
        have hl7 : (keyBytes es tg).length = 512 := keyBytes_len hK.each hK.tg (by have := (right_fit hr hK.each).1; omega)
        have HL7 := Lib.hid hl7
        clear hr hl7
        go_wp2_with
          (first
            | (refine wpList_ldS stKeys rfl rfl g3 0 rfl (keyC A n c tg) (keyC_len _ _ _ hK.tg) i3.range0 ?_))
        have cc := encKeys_any w6 K6
        unfold EncK at cc
        rw [HR.out] at cc
        refine cc.mono ?_
        clear cc
        rintro e w7 ⟨v7, rfl, r7, f7⟩
        rw [if_pos rfl, if_pos rfl, HL7.out] at r7
        obtain ⟨A7, cap7, rfl, -, -, rd7, -, -⟩ := r7.shape
        have n7 := r7.rd.2.2
        have r4 := r4.keep_nil f7
        have F7 := F6.trans_nil f7
        clear r7 f7 F6 K6 i3
        go_wp2_with fail
        have cc := decSlot_any w7 A7 (keyBytes es tg) 512 cap7 HL7.out rd7 n7 (by omega)
        unfold DecS at cc
        rw [show decV (keyBytes es tg) = zeroS by rw [decV, keys_no_slot]; rfl, keys_no_slot] at cc
        refine cc.mono ?_
        clear cc
        rintro e w8 ⟨rfl, f8⟩
        have r4 := r4.keep_nil f8
        have F8 := F7.trans_nil f8
        clear f8 F7 rd7 n7
        go_wp2_with
          (first
            | (refine wpList_alS stSlot rfl rfl ?_; intro w9 h9 f9 z9; have Z9 := Lib.hid z9; clear z9; obtain ⟨g9, hg9⟩ : ∃ g9, w8.heap.size = g9 := ⟨_, rfl⟩; rw [hg9] at h9; rw [hg9]; have HG9 := Lib.hid hg9; clear hg9)
            | (refine wpList_stB stSlot rfl rfl g9 rfl zeroS.cells rfl (SlotM.len zeroS_ok) zeroS.ones zeroS.cells (SlotM.len zeroS_ok) h9 ?_; intro wa ha fa za; have ZA := Lib.hid za; clear za))
        have FF : Fr [] w8 wa := f9.trans fa (fun i hi => .inr (by have := HG9.out; simp at hi; omega))
        have r4 := r4.keep_nil FF
        have FA := F8.trans_nil FF
        clear f9 fa h9 ha FF F8
        obtain ⟨A4', c4', e4, -, -, rd4, -, -⟩ := r4.shape
        cases e4
        have n4 := r4.rd.2.2
        have cc := decKeys_any wa A4 s.bytes 512 c4 (SlotM.bytes_len hs) rd4 n4 (by omega)
        have hdk : decK s.bytes = ([], zT) := by rw [decK, slot_no_keys]; rfl
        unfold DecK at cc
        rw [hdk, slot_no_keys] at cc
        simp only [List.length_nil] at cc
        refine cc.mono ?_
        clear cc hdk
        rintro e wb ⟨Ab, cb, rfl, rb, fb⟩
        have FB := FA.trans_nil fb
        clear FA fb rd4 n4
        go_wp2_with
          (first
            | (refine wpList_alS stKeys rfl rfl ?_; intro wc hc fc zc; have ZC := Lib.hid zc; clear zc; obtain ⟨gc, hgc⟩ : ∃ gc, wb.heap.size = gc := ⟨_, rfl⟩; rw [hgc] at hc; rw [hgc]; have HGC := Lib.hid hgc; clear hgc)
            | (refine wpList_stB stKeys rfl rfl gc rfl (keyC Ab 0 cb zT) rfl (keyC_len _ _ _ zT_len) (keyC_ones _ _ _ _) (keyC none 0 0 zT) (keyC_len _ _ _ zT_len) hc ?_; intro wd hd fd zd; have ZD := Lib.hid zd; clear zd))
        have FD : Fr [] w wd := (FB.trans_nil fc).trans fd (fun i hi => .inr (by have := HGC.out; have := FB.size; simp at hi; omega))
        go_ret
        exact ⟨rfl, FD⟩
    · have HTT := Lib.hid h2
      have hb := slots_apart hs ht h1 h2
      clear h1 h2
      cases hq : s.eqB t
      · rw [hq] at hb
        have HQ := Lib.hid hq
        have HQB := Lib.hid hb
        clear hq hb
        go_enter Try.func11, Try.ntmps11
        go_wp2_with
          (first
            | (refine wpList_boxS rfl rfl s.cells rfl ?_; intro w1 h1 f1 z1; have Z1 := Lib.hid z1; clear z1; obtain ⟨g1, hg1⟩ : ∃ g1, w.heap.size = g1 := ⟨_, rfl⟩; rw [hg1] at h1; rw [hg1]; have HG1 := Lib.hid hg1; clear hg1)
            | (refine wpList_boxS rfl rfl t.cells rfl ?_; intro w2 h2 f2 z2; have Z2 := Lib.hid z2; clear z2; obtain ⟨g2, hg2⟩ : ∃ g2, w1.heap.size = g2 := ⟨_, rfl⟩; rw [hg2] at h2; rw [hg2]; have HG2 := Lib.hid hg2; clear hg2)
            | (refine wpList_boxS rfl rfl (keyC A n c tg) rfl ?_; intro w3 h3 f3 z3; have Z3 := Lib.hid z3; clear z3; obtain ⟨g3, hg3⟩ : ∃ g3, w2.heap.size = g3 := ⟨_, rfl⟩; rw [hg3] at h3; rw [hg3]; have HG3 := Lib.hid hg3; clear hg3; have i1 := (h1.keep_nil f2).keep_nil f3; have i2 := h2.keep_nil f3; have F3 := (f1.trans_nil f2).trans_nil f3; clear h1 h2 f1 f2 f3)
            | (refine wpList_ldS stSlot rfl rfl g1 0 rfl s.cells (SlotM.len hs) i1.range0 ?_))
        refine (encSlot_any w3 s hs).mono ?_
        intro e w4 hE
        obtain ⟨A4, c4, rfl, r4, f4⟩ := hE.yes HS.out
        have i1 := i1.keep_nil f4
        have i2 := i2.keep_nil f4
        have i3 := h3.keep_nil f4
        have F4 := F3.trans_nil f4
        clear hE h3 F3 f4
        go_wp2_with
          (first
            | (refine wpList_ldS stSlot rfl rfl g2 0 rfl t.cells (SlotM.len ht) i2.range0 ?_))
        refine (encSlot_any w4 t ht).mono ?_
        intro e w5 hE
        obtain ⟨A5, c5, rfl, r5, f5⟩ := hE.yes HTT.out
        have i1 := i1.keep_nil f5
        have i2 := i2.keep_nil f5
        have i3 := i3.keep_nil f5
        have r4 := r4.keep_nil f5
        have F5 := F4.trans_nil f5
        clear hE F4 f5
        have n4 := r4.rd
        have n5 := r5.rd
        go_wp2_with fail
        try simp only [Act.put, List.setIfInBounds_toArray, List.set_cons_zero, List.set_cons_succ]
        refine wp_region_held_drew (S := fun w' => Fr [] w5 w') (by kernel_rfl) ((Fr.refl _ _).drew) (fun hHeld => ?_)
        refine take_c 0 rfl (by kernel_rfl) (by rfl) (fun K hK => ?_)
        go_simp
        refine (lives12_any _).mono ?_
        rintro e w6 ⟨rfl, f6⟩
        have F6 := hHeld.trans_nil f6
        refine hK.out _ _ F6 (fun hHeld => ?_)
        clear hK K
        try simp only [Act.put, List.setIfInBounds_toArray, List.set_cons_zero, List.set_cons_succ]
        refine take_w 1 (some 28) (v := ?_) rfl rfl (by kernel_rfl) (by kernel_rfl) (by kernel_rfl) (fun _ _ _ h => h) (by rfl) ?_ hHeld ?_
        rotate_left
        · (intro w hSw; (try dsimp only at hSw); go_simp; try with_reducible rfl)
        simp only [Act.put, List.setIfInBounds_toArray, List.set_cons_zero, List.set_cons_succ]
        refine take_w 2 (some 29) (v := ?_) rfl rfl (by kernel_rfl) (by kernel_rfl) (by kernel_rfl) (fun _ _ _ h => h) (by rfl) ?_ hHeld ?_
        rotate_left
        · (intro w hSw; (try dsimp only at hSw); go_simp; try with_reducible rfl)
        simp only [Act.put, List.setIfInBounds_toArray, List.set_cons_zero, List.set_cons_succ]
        refine take_w 3 (some 30) (v := ?_) rfl rfl (by kernel_rfl) (by kernel_rfl) (by kernel_rfl) (fun _ _ _ h => h) (by rfl) ?_ hHeld ?_
        rotate_left
        · (intro w hSw; (try dsimp only at hSw); go_simp; try with_reducible rfl)
        simp only [Act.put, List.setIfInBounds_toArray, List.set_cons_zero, List.set_cons_succ]
        refine take_w 4 (some 31) (v := ?_) rfl rfl (by kernel_rfl) (by kernel_rfl) (by kernel_rfl) (fun _ _ _ h => h) (by rfl) ?_ hHeld ?_
        rotate_left
        · (intro w hSw; (try dsimp only at hSw); go_simp; try with_reducible rfl)
        simp only [Act.put, List.setIfInBounds_toArray, List.set_cons_zero, List.set_cons_succ]
        refine take_w 5 (some 32) (v := ?_) rfl rfl (by kernel_rfl) (by kernel_rfl) (by kernel_rfl) (fun _ _ _ h => h) (by rfl) ?_ hHeld ?_
        rotate_left
        · (intro w hSw; (try dsimp only at hSw); go_simp; try with_reducible rfl)
        simp only [Act.put, List.setIfInBounds_toArray, List.set_cons_zero, List.set_cons_succ]
        refine take_w 6 (some 33) (v := ?_) rfl rfl (by kernel_rfl) (by kernel_rfl) (by kernel_rfl) (fun _ _ _ h => h) (by rfl) ?_ hHeld ?_
        rotate_left
        · (intro w hSw; (try dsimp only at hSw); go_simp; try with_reducible rfl)
        simp only [Act.put, List.setIfInBounds_toArray, List.set_cons_zero, List.set_cons_succ]
        refine take_w 7 (some 34) (v := ?_) rfl rfl (by kernel_rfl) (by kernel_rfl) (by kernel_rfl) (fun _ _ _ h => h) (by rfl) ?_ hHeld ?_
        rotate_left
        · (intro w hSw; (try dsimp only at hSw); go_simp; try with_reducible rfl)
        simp only [Act.put, List.setIfInBounds_toArray, List.set_cons_zero, List.set_cons_succ]
        refine take_w 8 (some 35) (v := ?_) rfl rfl (by kernel_rfl) (by kernel_rfl) (by kernel_rfl) (fun _ _ _ h => h) (by rfl) ?_ hHeld ?_
        rotate_left
        · (intro w hSw; (try dsimp only at hSw); go_simp; try with_reducible rfl)
        simp only [Act.put, List.setIfInBounds_toArray, List.set_cons_zero, List.set_cons_succ]
        refine take_w 9 (some 36) (v := ?_) rfl rfl (by kernel_rfl) (by kernel_rfl) (by kernel_rfl) (fun _ _ _ h => h) (by rfl) ?_ hHeld ?_
        rotate_left
        · (intro w hSw; (try dsimp only at hSw); go_simp; try with_reducible rfl)
        simp only [Act.put, List.setIfInBounds_toArray, List.set_cons_zero, List.set_cons_succ]
        refine take_w 10 (some 37) (v := ?_) rfl rfl (by kernel_rfl) (by kernel_rfl) (by kernel_rfl) (fun _ _ _ h => h) (by rfl) ?_ hHeld ?_
        rotate_left
        · (intro w hSw; (try dsimp only at hSw); go_simp; try with_reducible rfl)
        simp only [Act.put, List.setIfInBounds_toArray, List.set_cons_zero, List.set_cons_succ]
        refine take_w 11 (some 38) (v := .string ⟨s.bytes.toArray⟩) rfl rfl (by kernel_rfl) (by kernel_rfl) (by kernel_rfl) (fun _ _ _ h => h) (by rfl) (fun w hSw => ?_) hHeld ?_
        · have E := strB w A4 s.bytes 512 c4 (SlotM.bytes_len hs) (n4.1.keep_nil hSw) n4.2.2
          go_simp
        try simp only [Act.put, List.setIfInBounds_toArray, List.set_cons_zero, List.set_cons_succ]
        refine take_w 12 (some 39) (v := ?_) rfl rfl (by kernel_rfl) (by kernel_rfl) (by kernel_rfl) (fun _ _ _ h => h) (by rfl) ?_ hHeld ?_
        rotate_left
        · (intro w hSw; (try dsimp only at hSw); go_simp; try with_reducible rfl)
        simp only [Act.put, List.setIfInBounds_toArray, List.set_cons_zero, List.set_cons_succ]
        refine take_w 13 (some 40) (v := .string ⟨t.bytes.toArray⟩) rfl rfl (by kernel_rfl) (by kernel_rfl) (by kernel_rfl) (fun _ _ _ h => h) (by rfl) (fun w hSw => ?_) hHeld ?_
        · have E := strB w A5 t.bytes 512 c5 (SlotM.bytes_len ht) (n5.1.keep_nil hSw) n5.2.2
          go_simp
        try simp only [Act.put, List.setIfInBounds_toArray, List.set_cons_zero, List.set_cons_succ]
        refine take_w 14 (some 41) (v := .bool false) rfl rfl (by kernel_rfl) (by kernel_rfl) (by kernel_rfl) (fun _ _ _ h => h) (by rfl) (fun w hSw => ?_) hHeld ?_
        · have E := HQB.out
          go_simp
        try simp only [Act.put, List.setIfInBounds_toArray, List.set_cons_zero, List.set_cons_succ]
        refine take_w 15 (some 42) (v := .agg s.cells.toArray) rfl rfl (by kernel_rfl) (by kernel_rfl) (by kernel_rfl) (fun _ _ _ h => h) (by rfl) (fun w hSw => hy_ld stSlot rfl g1 0 rfl s.cells (SlotM.len hs) (i1.keep_nil hSw).range0) hHeld ?_
        try simp only [Act.put, List.setIfInBounds_toArray, List.set_cons_zero, List.set_cons_succ]
        refine take_w 16 (some 43) (v := .agg t.cells.toArray) rfl rfl (by kernel_rfl) (by kernel_rfl) (by kernel_rfl) (fun _ _ _ h => h) (by rfl) (fun w hSw => hy_ld stSlot rfl g2 0 rfl t.cells (SlotM.len ht) (i2.keep_nil hSw).range0) hHeld ?_
        try simp only [Act.put, List.setIfInBounds_toArray, List.set_cons_zero, List.set_cons_succ]
        refine take_w 17 (some 44) (v := .bool false) rfl rfl (by kernel_rfl) (by kernel_rfl) (by kernel_rfl) (fun _ _ _ h => h) (by rfl) (fun w hSw => hy_eq stSlot rfl (.inl rfl) rfl rfl false ((slot_eq hs ht w).trans (by rw [HQ.out]))) hHeld ?_
        try simp only [Act.put, List.setIfInBounds_toArray, List.set_cons_zero, List.set_cons_succ]
        refine take_w 18 (some 45) (v := ?_) rfl rfl (by kernel_rfl) (by kernel_rfl) (by kernel_rfl) (fun _ _ _ h => h) (by rfl) ?_ hHeld ?_
        rotate_left
        · (intro w hSw; (try dsimp only at hSw); go_simp; try with_reducible rfl)
        simp only [Act.put, List.setIfInBounds_toArray, List.set_cons_zero, List.set_cons_succ]
        refine take_w 19 (some 46) (v := ?_) rfl rfl (by kernel_rfl) (by kernel_rfl) (by kernel_rfl) (fun _ _ _ h => h) (by rfl) ?_ hHeld ?_
        rotate_left
        · (intro w hSw; (try dsimp only at hSw); go_simp; try with_reducible rfl)
        simp only [Act.put, List.setIfInBounds_toArray, List.set_cons_zero, List.set_cons_succ]
        refine take_w 20 (some 47) (v := ?_) rfl rfl (by kernel_rfl) (by kernel_rfl) (by kernel_rfl) (fun _ _ _ h => h) (by rfl) ?_ hHeld ?_
        rotate_left
        · (intro w hSw; (try dsimp only at hSw); go_simp; try with_reducible rfl)
        simp only [Act.put, List.setIfInBounds_toArray, List.set_cons_zero, List.set_cons_succ]
        refine wpAnyH_done (by kernel_rfl) ?_ _
        have K6 := (hK.keep_nil F5).keep_nil F6
        have i3 := i3.keep_nil F6
        have r4 := r4.keep_nil F6
        have F6 := F5.trans_nil F6
        clear i1 i2 hHeld n4 n5 F5
        cases hr : rightB es
        · have HR := Lib.hid hr
          clear hr
          go_wp2_with
            (first
              | (refine wpList_ldS stKeys rfl rfl g3 0 rfl (keyC A n c tg) (keyC_len _ _ _ hK.tg) i3.range0 ?_))
          have cc := encKeys_any w6 K6
          unfold EncK at cc
          rw [HR.out] at cc
          refine cc.mono ?_
          clear cc
          rintro e w7 ⟨v7, rfl, r7, f7⟩
          obtain ⟨A7, cap7, rfl, -, -, -, -, -⟩ := r7.shape
          go_wp2_with fail
          go_ret
          exact ⟨rfl, F6.trans_nil f7⟩
        · have HR := Lib.hid hr
          have hl7 : (keyBytes es tg).length = 512 := keyBytes_len hK.each hK.tg (by have := (right_fit hr hK.each).1; omega)
          have HL7 := Lib.hid hl7
          clear hr hl7
          go_wp2_with
            (first
              | (refine wpList_ldS stKeys rfl rfl g3 0 rfl (keyC A n c tg) (keyC_len _ _ _ hK.tg) i3.range0 ?_))
          have cc := encKeys_any w6 K6
          unfold EncK at cc
          rw [HR.out] at cc
          refine cc.mono ?_
          clear cc
          rintro e w7 ⟨v7, rfl, r7, f7⟩
          rw [if_pos rfl, if_pos rfl, HL7.out] at r7
          obtain ⟨A7, cap7, rfl, -, -, rd7, -, -⟩ := r7.shape
          have n7 := r7.rd.2.2
          have r4 := r4.keep_nil f7
          have F7 := F6.trans_nil f7
          clear r7 f7 F6 K6 i3
          go_wp2_with fail
          have cc := decSlot_any w7 A7 (keyBytes es tg) 512 cap7 HL7.out rd7 n7 (by omega)
          unfold DecS at cc
          rw [show decV (keyBytes es tg) = zeroS by rw [decV, keys_no_slot]; rfl, keys_no_slot] at cc
          refine cc.mono ?_
          clear cc
          rintro e w8 ⟨rfl, f8⟩
          have r4 := r4.keep_nil f8
          have F8 := F7.trans_nil f8
          clear f8 F7 rd7 n7
          go_wp2_with
            (first
              | (refine wpList_alS stSlot rfl rfl ?_; intro w9 h9 f9 z9; have Z9 := Lib.hid z9; clear z9; obtain ⟨g9, hg9⟩ : ∃ g9, w8.heap.size = g9 := ⟨_, rfl⟩; rw [hg9] at h9; rw [hg9]; have HG9 := Lib.hid hg9; clear hg9)
              | (refine wpList_stB stSlot rfl rfl g9 rfl zeroS.cells rfl (SlotM.len zeroS_ok) zeroS.ones zeroS.cells (SlotM.len zeroS_ok) h9 ?_; intro wa ha fa za; have ZA := Lib.hid za; clear za))
          have FF : Fr [] w8 wa := f9.trans fa (fun i hi => .inr (by have := HG9.out; simp at hi; omega))
          have r4 := r4.keep_nil FF
          have FA := F8.trans_nil FF
          clear f9 fa h9 ha FF F8
          obtain ⟨A4', c4', e4, -, -, rd4, -, -⟩ := r4.shape
          cases e4
          have n4 := r4.rd.2.2
          have cc := decKeys_any wa A4 s.bytes 512 c4 (SlotM.bytes_len hs) rd4 n4 (by omega)
          have hdk : decK s.bytes = ([], zT) := by rw [decK, slot_no_keys]; rfl
          unfold DecK at cc
          rw [hdk, slot_no_keys] at cc
          simp only [List.length_nil] at cc
          refine cc.mono ?_
          clear cc hdk
          rintro e wb ⟨Ab, cb, rfl, rb, fb⟩
          have FB := FA.trans_nil fb
          clear FA fb rd4 n4
          go_wp2_with
            (first
              | (refine wpList_alS stKeys rfl rfl ?_; intro wc hc fc zc; have ZC := Lib.hid zc; clear zc; obtain ⟨gc, hgc⟩ : ∃ gc, wb.heap.size = gc := ⟨_, rfl⟩; rw [hgc] at hc; rw [hgc]; have HGC := Lib.hid hgc; clear hgc)
              | (refine wpList_stB stKeys rfl rfl gc rfl (keyC Ab 0 cb zT) rfl (keyC_len _ _ _ zT_len) (keyC_ones _ _ _ _) (keyC none 0 0 zT) (keyC_len _ _ _ zT_len) hc ?_; intro wd hd fd zd; have ZD := Lib.hid zd; clear zd))
          have FD : Fr [] w wd := (FB.trans_nil fc).trans fd (fun i hi => .inr (by have := HGC.out; have := FB.size; simp at hi; omega))
          go_ret
          exact ⟨rfl, FD⟩
      · rw [hq] at hb
        have HQ := Lib.hid hq
        have HQB := Lib.hid hb
        clear hq hb
        go_enter Try.func11, Try.ntmps11
        go_wp2_with
          (first
            | (refine wpList_boxS rfl rfl s.cells rfl ?_; intro w1 h1 f1 z1; have Z1 := Lib.hid z1; clear z1; obtain ⟨g1, hg1⟩ : ∃ g1, w.heap.size = g1 := ⟨_, rfl⟩; rw [hg1] at h1; rw [hg1]; have HG1 := Lib.hid hg1; clear hg1)
            | (refine wpList_boxS rfl rfl t.cells rfl ?_; intro w2 h2 f2 z2; have Z2 := Lib.hid z2; clear z2; obtain ⟨g2, hg2⟩ : ∃ g2, w1.heap.size = g2 := ⟨_, rfl⟩; rw [hg2] at h2; rw [hg2]; have HG2 := Lib.hid hg2; clear hg2)
            | (refine wpList_boxS rfl rfl (keyC A n c tg) rfl ?_; intro w3 h3 f3 z3; have Z3 := Lib.hid z3; clear z3; obtain ⟨g3, hg3⟩ : ∃ g3, w2.heap.size = g3 := ⟨_, rfl⟩; rw [hg3] at h3; rw [hg3]; have HG3 := Lib.hid hg3; clear hg3; have i1 := (h1.keep_nil f2).keep_nil f3; have i2 := h2.keep_nil f3; have F3 := (f1.trans_nil f2).trans_nil f3; clear h1 h2 f1 f2 f3)
            | (refine wpList_ldS stSlot rfl rfl g1 0 rfl s.cells (SlotM.len hs) i1.range0 ?_))
        refine (encSlot_any w3 s hs).mono ?_
        intro e w4 hE
        obtain ⟨A4, c4, rfl, r4, f4⟩ := hE.yes HS.out
        have i1 := i1.keep_nil f4
        have i2 := i2.keep_nil f4
        have i3 := h3.keep_nil f4
        have F4 := F3.trans_nil f4
        clear hE h3 F3 f4
        go_wp2_with
          (first
            | (refine wpList_ldS stSlot rfl rfl g2 0 rfl t.cells (SlotM.len ht) i2.range0 ?_))
        refine (encSlot_any w4 t ht).mono ?_
        intro e w5 hE
        obtain ⟨A5, c5, rfl, r5, f5⟩ := hE.yes HTT.out
        have i1 := i1.keep_nil f5
        have i2 := i2.keep_nil f5
        have i3 := i3.keep_nil f5
        have r4 := r4.keep_nil f5
        have F5 := F4.trans_nil f5
        clear hE F4 f5
        have n4 := r4.rd
        have n5 := r5.rd
        go_wp2_with fail
        try simp only [Act.put, List.setIfInBounds_toArray, List.set_cons_zero, List.set_cons_succ]
        refine wp_region_held_drew (S := fun w' => Fr [] w5 w') (by kernel_rfl) ((Fr.refl _ _).drew) (fun hHeld => ?_)
        refine take_c 0 rfl (by kernel_rfl) (by rfl) (fun K hK => ?_)
        go_simp
        refine (lives12_any _).mono ?_
        rintro e w6 ⟨rfl, f6⟩
        have F6 := hHeld.trans_nil f6
        refine hK.out _ _ F6 (fun hHeld => ?_)
        clear hK K
        try simp only [Act.put, List.setIfInBounds_toArray, List.set_cons_zero, List.set_cons_succ]
        refine take_w 1 (some 28) (v := ?_) rfl rfl (by kernel_rfl) (by kernel_rfl) (by kernel_rfl) (fun _ _ _ h => h) (by rfl) ?_ hHeld ?_
        rotate_left
        · (intro w hSw; (try dsimp only at hSw); go_simp; try with_reducible rfl)
        simp only [Act.put, List.setIfInBounds_toArray, List.set_cons_zero, List.set_cons_succ]
        refine take_w 2 (some 29) (v := ?_) rfl rfl (by kernel_rfl) (by kernel_rfl) (by kernel_rfl) (fun _ _ _ h => h) (by rfl) ?_ hHeld ?_
        rotate_left
        · (intro w hSw; (try dsimp only at hSw); go_simp; try with_reducible rfl)
        simp only [Act.put, List.setIfInBounds_toArray, List.set_cons_zero, List.set_cons_succ]
        refine take_w 3 (some 30) (v := ?_) rfl rfl (by kernel_rfl) (by kernel_rfl) (by kernel_rfl) (fun _ _ _ h => h) (by rfl) ?_ hHeld ?_
        rotate_left
        · (intro w hSw; (try dsimp only at hSw); go_simp; try with_reducible rfl)
        simp only [Act.put, List.setIfInBounds_toArray, List.set_cons_zero, List.set_cons_succ]
        refine take_w 4 (some 31) (v := ?_) rfl rfl (by kernel_rfl) (by kernel_rfl) (by kernel_rfl) (fun _ _ _ h => h) (by rfl) ?_ hHeld ?_
        rotate_left
        · (intro w hSw; (try dsimp only at hSw); go_simp; try with_reducible rfl)
        simp only [Act.put, List.setIfInBounds_toArray, List.set_cons_zero, List.set_cons_succ]
        refine take_w 5 (some 32) (v := ?_) rfl rfl (by kernel_rfl) (by kernel_rfl) (by kernel_rfl) (fun _ _ _ h => h) (by rfl) ?_ hHeld ?_
        rotate_left
        · (intro w hSw; (try dsimp only at hSw); go_simp; try with_reducible rfl)
        simp only [Act.put, List.setIfInBounds_toArray, List.set_cons_zero, List.set_cons_succ]
        refine take_w 6 (some 33) (v := ?_) rfl rfl (by kernel_rfl) (by kernel_rfl) (by kernel_rfl) (fun _ _ _ h => h) (by rfl) ?_ hHeld ?_
        rotate_left
        · (intro w hSw; (try dsimp only at hSw); go_simp; try with_reducible rfl)
        simp only [Act.put, List.setIfInBounds_toArray, List.set_cons_zero, List.set_cons_succ]
        refine take_w 7 (some 34) (v := ?_) rfl rfl (by kernel_rfl) (by kernel_rfl) (by kernel_rfl) (fun _ _ _ h => h) (by rfl) ?_ hHeld ?_
        rotate_left
        · (intro w hSw; (try dsimp only at hSw); go_simp; try with_reducible rfl)
        simp only [Act.put, List.setIfInBounds_toArray, List.set_cons_zero, List.set_cons_succ]
        refine take_w 8 (some 35) (v := ?_) rfl rfl (by kernel_rfl) (by kernel_rfl) (by kernel_rfl) (fun _ _ _ h => h) (by rfl) ?_ hHeld ?_
        rotate_left
        · (intro w hSw; (try dsimp only at hSw); go_simp; try with_reducible rfl)
        simp only [Act.put, List.setIfInBounds_toArray, List.set_cons_zero, List.set_cons_succ]
        refine take_w 9 (some 36) (v := ?_) rfl rfl (by kernel_rfl) (by kernel_rfl) (by kernel_rfl) (fun _ _ _ h => h) (by rfl) ?_ hHeld ?_
        rotate_left
        · (intro w hSw; (try dsimp only at hSw); go_simp; try with_reducible rfl)
        simp only [Act.put, List.setIfInBounds_toArray, List.set_cons_zero, List.set_cons_succ]
        refine take_w 10 (some 37) (v := ?_) rfl rfl (by kernel_rfl) (by kernel_rfl) (by kernel_rfl) (fun _ _ _ h => h) (by rfl) ?_ hHeld ?_
        rotate_left
        · (intro w hSw; (try dsimp only at hSw); go_simp; try with_reducible rfl)
        simp only [Act.put, List.setIfInBounds_toArray, List.set_cons_zero, List.set_cons_succ]
        refine take_w 11 (some 38) (v := .string ⟨s.bytes.toArray⟩) rfl rfl (by kernel_rfl) (by kernel_rfl) (by kernel_rfl) (fun _ _ _ h => h) (by rfl) (fun w hSw => ?_) hHeld ?_
        · have E := strB w A4 s.bytes 512 c4 (SlotM.bytes_len hs) (n4.1.keep_nil hSw) n4.2.2
          go_simp
        try simp only [Act.put, List.setIfInBounds_toArray, List.set_cons_zero, List.set_cons_succ]
        refine take_w 12 (some 39) (v := ?_) rfl rfl (by kernel_rfl) (by kernel_rfl) (by kernel_rfl) (fun _ _ _ h => h) (by rfl) ?_ hHeld ?_
        rotate_left
        · (intro w hSw; (try dsimp only at hSw); go_simp; try with_reducible rfl)
        simp only [Act.put, List.setIfInBounds_toArray, List.set_cons_zero, List.set_cons_succ]
        refine take_w 13 (some 40) (v := .string ⟨t.bytes.toArray⟩) rfl rfl (by kernel_rfl) (by kernel_rfl) (by kernel_rfl) (fun _ _ _ h => h) (by rfl) (fun w hSw => ?_) hHeld ?_
        · have E := strB w A5 t.bytes 512 c5 (SlotM.bytes_len ht) (n5.1.keep_nil hSw) n5.2.2
          go_simp
        try simp only [Act.put, List.setIfInBounds_toArray, List.set_cons_zero, List.set_cons_succ]
        refine take_w 14 (some 41) (v := .bool true) rfl rfl (by kernel_rfl) (by kernel_rfl) (by kernel_rfl) (fun _ _ _ h => h) (by rfl) (fun w hSw => ?_) hHeld ?_
        · have E := HQB.out
          go_simp
        try simp only [Act.put, List.setIfInBounds_toArray, List.set_cons_zero, List.set_cons_succ]
        refine take_w 15 (some 42) (v := .agg s.cells.toArray) rfl rfl (by kernel_rfl) (by kernel_rfl) (by kernel_rfl) (fun _ _ _ h => h) (by rfl) (fun w hSw => hy_ld stSlot rfl g1 0 rfl s.cells (SlotM.len hs) (i1.keep_nil hSw).range0) hHeld ?_
        try simp only [Act.put, List.setIfInBounds_toArray, List.set_cons_zero, List.set_cons_succ]
        refine take_w 16 (some 43) (v := .agg t.cells.toArray) rfl rfl (by kernel_rfl) (by kernel_rfl) (by kernel_rfl) (fun _ _ _ h => h) (by rfl) (fun w hSw => hy_ld stSlot rfl g2 0 rfl t.cells (SlotM.len ht) (i2.keep_nil hSw).range0) hHeld ?_
        try simp only [Act.put, List.setIfInBounds_toArray, List.set_cons_zero, List.set_cons_succ]
        refine take_w 17 (some 44) (v := .bool true) rfl rfl (by kernel_rfl) (by kernel_rfl) (by kernel_rfl) (fun _ _ _ h => h) (by rfl) (fun w hSw => hy_eq stSlot rfl (.inl rfl) rfl rfl true ((slot_eq hs ht w).trans (by rw [HQ.out]))) hHeld ?_
        try simp only [Act.put, List.setIfInBounds_toArray, List.set_cons_zero, List.set_cons_succ]
        refine take_w 18 (some 45) (v := ?_) rfl rfl (by kernel_rfl) (by kernel_rfl) (by kernel_rfl) (fun _ _ _ h => h) (by rfl) ?_ hHeld ?_
        rotate_left
        · (intro w hSw; (try dsimp only at hSw); go_simp; try with_reducible rfl)
        simp only [Act.put, List.setIfInBounds_toArray, List.set_cons_zero, List.set_cons_succ]
        refine take_w 19 (some 46) (v := ?_) rfl rfl (by kernel_rfl) (by kernel_rfl) (by kernel_rfl) (fun _ _ _ h => h) (by rfl) ?_ hHeld ?_
        rotate_left
        · (intro w hSw; (try dsimp only at hSw); go_simp; try with_reducible rfl)
        simp only [Act.put, List.setIfInBounds_toArray, List.set_cons_zero, List.set_cons_succ]
        refine take_w 20 (some 47) (v := ?_) rfl rfl (by kernel_rfl) (by kernel_rfl) (by kernel_rfl) (fun _ _ _ h => h) (by rfl) ?_ hHeld ?_
        rotate_left
        · (intro w hSw; (try dsimp only at hSw); go_simp; try with_reducible rfl)
        simp only [Act.put, List.setIfInBounds_toArray, List.set_cons_zero, List.set_cons_succ]
        refine wpAnyH_done (by kernel_rfl) ?_ _
        have K6 := (hK.keep_nil F5).keep_nil F6
        have i3 := i3.keep_nil F6
        have r4 := r4.keep_nil F6
        have F6 := F5.trans_nil F6
        clear i1 i2 hHeld n4 n5 F5
        cases hr : rightB es
        · have HR := Lib.hid hr
          clear hr
          go_wp2_with
            (first
              | (refine wpList_ldS stKeys rfl rfl g3 0 rfl (keyC A n c tg) (keyC_len _ _ _ hK.tg) i3.range0 ?_))
          have cc := encKeys_any w6 K6
          unfold EncK at cc
          rw [HR.out] at cc
          refine cc.mono ?_
          clear cc
          rintro e w7 ⟨v7, rfl, r7, f7⟩
          obtain ⟨A7, cap7, rfl, -, -, -, -, -⟩ := r7.shape
          go_wp2_with fail
          go_ret
          exact ⟨rfl, F6.trans_nil f7⟩
        · have HR := Lib.hid hr
          have hl7 : (keyBytes es tg).length = 512 := keyBytes_len hK.each hK.tg (by have := (right_fit hr hK.each).1; omega)
          have HL7 := Lib.hid hl7
          clear hr hl7
          go_wp2_with
            (first
              | (refine wpList_ldS stKeys rfl rfl g3 0 rfl (keyC A n c tg) (keyC_len _ _ _ hK.tg) i3.range0 ?_))
          have cc := encKeys_any w6 K6
          unfold EncK at cc
          rw [HR.out] at cc
          refine cc.mono ?_
          clear cc
          rintro e w7 ⟨v7, rfl, r7, f7⟩
          rw [if_pos rfl, if_pos rfl, HL7.out] at r7
          obtain ⟨A7, cap7, rfl, -, -, rd7, -, -⟩ := r7.shape
          have n7 := r7.rd.2.2
          have r4 := r4.keep_nil f7
          have F7 := F6.trans_nil f7
          clear r7 f7 F6 K6 i3
          go_wp2_with fail
          have cc := decSlot_any w7 A7 (keyBytes es tg) 512 cap7 HL7.out rd7 n7 (by omega)
          unfold DecS at cc
          rw [show decV (keyBytes es tg) = zeroS by rw [decV, keys_no_slot]; rfl, keys_no_slot] at cc
          refine cc.mono ?_
          clear cc
          rintro e w8 ⟨rfl, f8⟩
          have r4 := r4.keep_nil f8
          have F8 := F7.trans_nil f8
          clear f8 F7 rd7 n7
          go_wp2_with
            (first
              | (refine wpList_alS stSlot rfl rfl ?_; intro w9 h9 f9 z9; have Z9 := Lib.hid z9; clear z9; obtain ⟨g9, hg9⟩ : ∃ g9, w8.heap.size = g9 := ⟨_, rfl⟩; rw [hg9] at h9; rw [hg9]; have HG9 := Lib.hid hg9; clear hg9)
              | (refine wpList_stB stSlot rfl rfl g9 rfl zeroS.cells rfl (SlotM.len zeroS_ok) zeroS.ones zeroS.cells (SlotM.len zeroS_ok) h9 ?_; intro wa ha fa za; have ZA := Lib.hid za; clear za))
          have FF : Fr [] w8 wa := f9.trans fa (fun i hi => .inr (by have := HG9.out; simp at hi; omega))
          have r4 := r4.keep_nil FF
          have FA := F8.trans_nil FF
          clear f9 fa h9 ha FF F8
          obtain ⟨A4', c4', e4, -, -, rd4, -, -⟩ := r4.shape
          cases e4
          have n4 := r4.rd.2.2
          have cc := decKeys_any wa A4 s.bytes 512 c4 (SlotM.bytes_len hs) rd4 n4 (by omega)
          have hdk : decK s.bytes = ([], zT) := by rw [decK, slot_no_keys]; rfl
          unfold DecK at cc
          rw [hdk, slot_no_keys] at cc
          simp only [List.length_nil] at cc
          refine cc.mono ?_
          clear cc hdk
          rintro e wb ⟨Ab, cb, rfl, rb, fb⟩
          have FB := FA.trans_nil fb
          clear FA fb rd4 n4
          go_wp2_with
            (first
              | (refine wpList_alS stKeys rfl rfl ?_; intro wc hc fc zc; have ZC := Lib.hid zc; clear zc; obtain ⟨gc, hgc⟩ : ∃ gc, wb.heap.size = gc := ⟨_, rfl⟩; rw [hgc] at hc; rw [hgc]; have HGC := Lib.hid hgc; clear hgc)
              | (refine wpList_stB stKeys rfl rfl gc rfl (keyC Ab 0 cb zT) rfl (keyC_len _ _ _ zT_len) (keyC_ones _ _ _ _) (keyC none 0 0 zT) (keyC_len _ _ _ zT_len) hc ?_; intro wd hd fd zd; have ZD := Lib.hid zd; clear zd))
          have FD : Fr [] w wd := (FB.trans_nil fc).trans fd (fun i hi => .inr (by have := HGC.out; have := FB.size; simp at hi; omega))
          go_ret
          exact ⟨rfl, FD⟩
end Go.Proofs.Ytmonedfafechcaa
