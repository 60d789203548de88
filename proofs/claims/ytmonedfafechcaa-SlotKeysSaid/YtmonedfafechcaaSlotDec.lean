/-
  SlotDecodes, the walk: what any bytes are as a slot.
-/
import Derived.Test.YtmonedfafechcaaSlotEnc
set_option linter.unusedSimpArgs false
set_option linter.unusedVariables false
set_option linter.unnecessarySimpa false
namespace Go.Proofs.Ytmonedfafechcaa
open Go.RowKit

/-- What is decoded has just these bytes. -/
theorem enc_dec {l : List UInt8} {s : SlotM} (h : decS l = some s) : s.good = true ∧ s.bytes = l := by
  unfold decS at h
  split at h
  · rename_i hl
    split at h
    · rename_i hz
      cases h
      refine ⟨rfl, ?_⟩
      rw [SlotM.bytes, if_neg (by decide)]
      have := (allZ_iff l).1 hz
      rw [hl] at this
      exact this.symm
    · split at h
      · rename_i hc
        cases h
        exact ⟨rfl, (sOf_bytes hl).2 hc⟩
      · cases h
  · cases h

set_option maxRecDepth 100000 in
set_option maxHeartbeats 4000000 in
theorem slotDec_any (w : World) (A : Option Addr) (l : List UInt8) (n c : Nat) (hn : l.length = n) (hr : Rd w A (bvs l)) (hA : A = none → n = 0) (hl : n ≤ 140737488351232) :
    Calls Try.prog 9 #[.slice A n c] w fun e w' => e = .returned (.bool true) ∧ Fr [] w w' := by
  have HN := Lib.hid hn
  clear hn
  cases hd : (decS l).isSome
  · have HD := Lib.hid hd
    clear hd
    go_enter Try.func9, Try.ntmps9
    go_wp2_with (at_builtin; refine wpList_app rfl rfl slB w.heap.size (.slice (some ⟨w.heap.size, 0, none⟩) 0 0) 0 [] rfl (Row.new w #[] 5 1 0 (0, 0) (free_zero _) (by unfold maxLen; omega) rfl (Nat.le_refl _)) A n c (bvs l) rfl (by rw [bvs_length, HN.out]; omega) (hr.alloc _) (bvs_one l) hA (by omega) (by simp) ?_; intro v1 w1 q1 q2 q3 q4)
    have F1 : Fr [] w w1 := ((Fr.refl [] w).alloc _).trans q2 (fun i hi => .inr (by rw [own_mem.1 hi]; exact Nat.le_refl _))
    rw [Nat.zero_add, List.nil_append] at q1
    obtain ⟨A1, cap1, rfl, -, -, rd1, -, -⟩ := q1.shape
    have n1 := q1.rd.2.2
    clear q2 q3 q4
    have okv := decV_ok l
    go_wp2_with fail
    have cc := decSlot_any w1 A1 l n cap1 HN.out rd1 n1 (by omega)
    unfold DecS at cc
    rw [HD.out] at cc
    refine cc.mono ?_
    clear cc
    rintro e w2 ⟨rfl, f2⟩
    have F2 := F1.trans_nil f2
    clear rd1 n1 q1
    go_wp2_with
      (first
        | (refine wpList_alS stSlot rfl rfl ?_; intro w3 h3 f3 z3; have Z3 := Lib.hid z3; clear z3; obtain ⟨gx, hgx⟩ : ∃ gx, w2.heap.size = gx := ⟨_, rfl⟩; rw [hgx] at h3; rw [hgx]; have HGX := Lib.hid hgx; clear hgx)
        | (refine wpList_stB stSlot rfl rfl gx rfl (decV l).cells rfl (SlotM.len okv) (decV l).ones zeroS.cells (SlotM.len zeroS_ok) h3 ?_; intro w4 h4 f4 z4; have Z4 := Lib.hid z4; clear z4))
    have F4 : Fr [] w w4 := (F2.trans_nil f3).trans f4 (fun i hi => .inr (by have := HGX.out; have := F2.size; simp at hi; omega))
    have cc := xDecSlot_any w4 A l n c HN.out (hr.keep_nil F4) hA (by omega)
    unfold DecS at cc
    rw [HD.out] at cc
    refine cc.mono ?_
    clear cc
    rintro e w5 ⟨rfl, f5⟩
    have F5 := F4.trans_nil f5
    have h5 := h4.keep_nil f5
    clear h3 h4 f3 f4 F1 F2
    go_wp2_with
      (first
        | (refine wpList_alS stSlot rfl rfl ?_; intro w6 h6 f6 z6; have Z6 := Lib.hid z6; clear z6; obtain ⟨gy, hgy⟩ : ∃ gy, w5.heap.size = gy := ⟨_, rfl⟩; rw [hgy] at h6; rw [hgy]; have HGY := Lib.hid hgy; clear hgy)
        | (refine wpList_stB stSlot rfl rfl gy rfl (decV l).cells rfl (SlotM.len okv) (decV l).ones zeroS.cells (SlotM.len zeroS_ok) h6 ?_; intro w7 h7 f7 z7; have Z7 := Lib.hid z7; clear z7; have h8 := (h5.keep_nil f6).keep f7 (by have := HGY.out; have := h5.lt; simp; omega)))
    have F7 : Fr [] w w7 := (F5.trans_nil f6).trans f7 (fun i hi => .inr (by have := HGY.out; have := F5.size; simp at hi; omega))
    refine (lives12_any w7).mono ?_
    rintro e w9 ⟨rfl, f9⟩
    have h9 := h7.keep_nil f9
    have i9 := h8.keep_nil f9
    have F9 := F7.trans_nil f9
    clear h5 h6 h7 h8 f6 f7
    go_wp2_with
      (first
        | (refine wpList_ldS stSlot rfl rfl gx 0 rfl (decV l).cells (SlotM.len okv) i9.range0 ?_)
        | (refine wpList_ldS stSlot rfl rfl gy 0 rfl (decV l).cells (SlotM.len okv) h9.range0 ?_)
        | (refine wpList_eqS stSlot rfl rfl (.inr rfl) rfl rfl true ((slot_eq okv okv _).trans (by rw [(SlotM.eqB_iff _ _).2 rfl])) ?_))
    go_ret
    exact ⟨rfl, F9⟩
  · have HD := Lib.hid hd
    obtain ⟨s, hs⟩ := Option.isSome_iff_exists.1 hd
    have hv : decV l = s := by rw [decV, hs]; rfl
    obtain ⟨hg, hb⟩ := enc_dec hs
    have HG := Lib.hid (show (decV l).good = true by rw [hv]; exact hg)
    have HB := Lib.hid (show (decV l).bytes = l by rw [hv]; exact hb)
    clear hd hs hv hg hb
    go_enter Try.func9, Try.ntmps9
    go_wp2_with (at_builtin; refine wpList_app rfl rfl slB w.heap.size (.slice (some ⟨w.heap.size, 0, none⟩) 0 0) 0 [] rfl (Row.new w #[] 5 1 0 (0, 0) (free_zero _) (by unfold maxLen; omega) rfl (Nat.le_refl _)) A n c (bvs l) rfl (by rw [bvs_length, HN.out]; omega) (hr.alloc _) (bvs_one l) hA (by omega) (by simp) ?_; intro v1 w1 q1 q2 q3 q4)
    have F1 : Fr [] w w1 := ((Fr.refl [] w).alloc _).trans q2 (fun i hi => .inr (by rw [own_mem.1 hi]; exact Nat.le_refl _))
    rw [Nat.zero_add, List.nil_append] at q1
    obtain ⟨A1, cap1, rfl, -, -, rd1, -, -⟩ := q1.shape
    have n1 := q1.rd.2.2
    clear q2 q3 q4
    have okv := decV_ok l
    go_wp2_with fail
    have cc := decSlot_any w1 A1 l n cap1 HN.out rd1 n1 (by omega)
    unfold DecS at cc
    rw [HD.out] at cc
    refine cc.mono ?_
    clear cc
    rintro e w2 ⟨rfl, f2⟩
    have F2 := F1.trans_nil f2
    clear rd1 n1 q1
    go_wp2_with
      (first
        | (refine wpList_alS stSlot rfl rfl ?_; intro w3 h3 f3 z3; have Z3 := Lib.hid z3; clear z3; obtain ⟨gx, hgx⟩ : ∃ gx, w2.heap.size = gx := ⟨_, rfl⟩; rw [hgx] at h3; rw [hgx]; have HGX := Lib.hid hgx; clear hgx)
        | (refine wpList_stB stSlot rfl rfl gx rfl (decV l).cells rfl (SlotM.len okv) (decV l).ones zeroS.cells (SlotM.len zeroS_ok) h3 ?_; intro w4 h4 f4 z4; have Z4 := Lib.hid z4; clear z4))
    have F4 : Fr [] w w4 := (F2.trans_nil f3).trans f4 (fun i hi => .inr (by have := HGX.out; have := F2.size; simp at hi; omega))
    have cc := xDecSlot_any w4 A l n c HN.out (hr.keep_nil F4) hA (by omega)
    unfold DecS at cc
    rw [HD.out] at cc
    refine cc.mono ?_
    clear cc
    rintro e w5 ⟨rfl, f5⟩
    have F5 := F4.trans_nil f5
    have h5 := h4.keep_nil f5
    clear h3 h4 f3 f4 F1 F2
    go_wp2_with
      (first
        | (refine wpList_alS stSlot rfl rfl ?_; intro w6 h6 f6 z6; have Z6 := Lib.hid z6; clear z6; obtain ⟨gy, hgy⟩ : ∃ gy, w5.heap.size = gy := ⟨_, rfl⟩; rw [hgy] at h6; rw [hgy]; have HGY := Lib.hid hgy; clear hgy)
        | (refine wpList_stB stSlot rfl rfl gy rfl (decV l).cells rfl (SlotM.len okv) (decV l).ones zeroS.cells (SlotM.len zeroS_ok) h6 ?_; intro w7 h7 f7 z7; have Z7 := Lib.hid z7; clear z7; have h8 := (h5.keep_nil f6).keep f7 (by have := HGY.out; have := h5.lt; simp; omega)))
    have F7 : Fr [] w w7 := (F5.trans_nil f6).trans f7 (fun i hi => .inr (by have := HGY.out; have := F5.size; simp at hi; omega))
    refine (lives12_any w7).mono ?_
    rintro e w9 ⟨rfl, f9⟩
    have h9 := h7.keep_nil f9
    have i9 := h8.keep_nil f9
    have F9 := F7.trans_nil f9
    clear h5 h6 h7 h8 f6 f7
    go_wp2_with
      (first
        | (refine wpList_ldS stSlot rfl rfl gx 0 rfl (decV l).cells (SlotM.len okv) i9.range0 ?_)
        | (refine wpList_ldS stSlot rfl rfl gy 0 rfl (decV l).cells (SlotM.len okv) h9.range0 ?_)
        | (refine wpList_eqS stSlot rfl rfl (.inr rfl) rfl rfl true ((slot_eq okv okv _).trans (by rw [(SlotM.eqB_iff _ _).2 rfl])) ?_))
    refine (encSlot_any w9 _ okv).mono ?_
    intro e w10 hE
    obtain ⟨A2, c2, rfl, r2, f2⟩ := hE.yes HG.out
    have F10 := F9.trans_nil f2
    have E2 := r2.str
    rw [HB.out] at E2
    have E3 := strB w10 A l n c HN.out (hr.keep_nil F10) hA
    clear hE
    go_wp2_with fail
    go_ret
    exact ⟨rfl, F10⟩
end Go.Proofs.Ytmonedfafechcaa
