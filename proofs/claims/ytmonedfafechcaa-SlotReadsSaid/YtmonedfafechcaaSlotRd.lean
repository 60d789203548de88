/-
  SlotReads, the walk: what any bytes are as keys.
-/
import Derived.Test.YtmonedfafechcaaKeysL
import Derived.Test.YtmonedfafechcaaKeysM
set_option linter.unusedSimpArgs false
set_option linter.unusedVariables false
set_option linter.unnecessarySimpa false
namespace Go.Proofs.Ytmonedfafechcaa
open Go.RowKit

set_option maxRecDepth 100000 in
set_option maxHeartbeats 4000000 in
theorem slotRd_any (w : World) (A : Option Addr) (l : List UInt8) (n c : Nat) (hn : l.length = n) (hr : Rd w A (bvs l)) (hA : A = none → n = 0) (hl : n ≤ 140737488351232) :
    Calls Try.prog 10 #[.slice A n c] w fun e w' => e = .returned (.bool true) ∧ Fr [] w w' := by
  obtain ⟨es, tg, hk⟩ := decK_spec l
  obtain ⟨m, hm⟩ : ∃ m, es.length = m := ⟨_, rfl⟩
  have hm2 := hk.len
  rw [hm] at hm2
  have HM := Lib.hid hm
  have HN := Lib.hid hn
  have HE := Lib.hid hk.dec
  have HO := Lib.hid hk.each
  have HT := Lib.hid hk.tl
  clear hn hm
  cases hd : okK l
  · have HD := Lib.hid hd
    clear hd hk
    go_enter Try.func10, Try.ntmps10
    go_wp2_with (at_builtin; refine wpList_app rfl rfl slB w.heap.size (.slice (some ⟨w.heap.size, 0, none⟩) 0 0) 0 [] rfl (Row.new w #[] 5 1 0 (0, 0) (free_zero _) (by unfold maxLen; omega) rfl (Nat.le_refl _)) A n c (bvs l) rfl (by rw [bvs_length, HN.out]; omega) (hr.alloc _) (bvs_one l) hA (by omega) (by simp) ?_; intro v1 w1 q1 q2 q3 q4)
    have F1 : Fr [] w w1 := ((Fr.refl [] w).alloc _).trans q2 (fun i hi => .inr (by rw [own_mem.1 hi]; exact Nat.le_refl _))
    rw [Nat.zero_add, List.nil_append] at q1
    obtain ⟨A1, cap1, rfl, -, -, rd1, -, -⟩ := q1.shape
    have n1 := q1.rd.2.2
    clear q2 q3 q4
    go_wp2_with fail
    have cc := decKeys_any w1 A1 l n cap1 HN.out rd1 n1 (by omega)
    unfold DecK at cc
    rw [HE.out, HD.out] at cc
    simp only [HM.out] at cc
    refine cc.mono ?_
    clear cc
    rintro e w2 ⟨A2, c2, rfl, r2, f2⟩
    have F2 := F1.trans_nil f2
    have K2 := r2.kok HM.out HO.out HT.out (by omega)
    clear rd1 n1 q1 r2 f2 F1
    go_wp2_with
      (first
        | (refine wpList_alS stKeys rfl rfl ?_; intro w3 h3 f3 z3; have Z3 := Lib.hid z3; clear z3; obtain ⟨gx, hgx⟩ : ∃ gx, w2.heap.size = gx := ⟨_, rfl⟩; rw [hgx] at h3; rw [hgx]; have HGX := Lib.hid hgx; clear hgx)
        | (refine wpList_stB stKeys rfl rfl gx rfl (keyC A2 m c2 tg) rfl (keyC_len _ _ _ HT.out) (keyC_ones _ _ _ _) (keyC none 0 0 zT) (keyC_len _ _ _ zT_len) h3 ?_; intro w4 h4 f4 z4; have Z4 := Lib.hid z4; clear z4))
    have FF : Fr [] w2 w4 := f3.trans f4 (fun i hi => .inr (by have := HGX.out; simp at hi; omega))
    have F4 : Fr [] w w4 := F2.trans_nil FF
    have K4 := K2.keep_nil FF
    have cc := xDecKeys_any w4 A l n c HN.out (hr.keep_nil F4) hA (by omega)
    unfold DecK at cc
    rw [HE.out, HD.out] at cc
    simp only [HM.out] at cc
    refine cc.mono ?_
    clear cc
    rintro e w5 ⟨A5, c5, rfl, r5, f5⟩
    have F5 := F4.trans_nil f5
    have h5 := h4.keep_nil f5
    have K5 := K4.keep_nil f5
    have J5 := r5.kok HM.out HO.out HT.out (by omega)
    clear h3 h4 f3 f4 F2 FF K2 K4 F4 r5 f5
    go_wp2_with
      (first
        | (refine wpList_alS stKeys rfl rfl ?_; intro w6 h6 f6 z6; have Z6 := Lib.hid z6; clear z6; obtain ⟨gy, hgy⟩ : ∃ gy, w5.heap.size = gy := ⟨_, rfl⟩; rw [hgy] at h6; rw [hgy]; have HGY := Lib.hid hgy; clear hgy)
        | (refine wpList_stB stKeys rfl rfl gy rfl (keyC A5 m c5 tg) rfl (keyC_len _ _ _ HT.out) (keyC_ones _ _ _ _) (keyC none 0 0 zT) (keyC_len _ _ _ zT_len) h6 ?_; intro w7 h7 f7 z7; have Z7 := Lib.hid z7; clear z7))
    have FF : Fr [] w5 w7 := f6.trans f7 (fun i hi => .inr (by have := HGY.out; simp at hi; omega))
    have F7 := F5.trans_nil FF
    refine (lives12_any w7).mono ?_
    rintro e w9 ⟨rfl, f9⟩
    have h9 := h7.keep_nil f9
    have FF9 := FF.trans_nil f9
    have i9 := h5.keep_nil FF9
    have K9 := K5.keep_nil FF9
    have J9 := J5.keep_nil FF9
    have F9 := F7.trans_nil f9
    clear h5 h6 h7 K5 J5 f6 f7 FF FF9 F7 f9 F5
    go_wp2_with
      (first
        | (refine wpList_ldS stKeys rfl rfl gx 0 rfl (keyC A2 m c2 tg) (keyC_len _ _ _ HT.out) i9.range0 ?_)
        | (refine wpList_ldS stKeys rfl rfl gy 0 rfl (keyC A5 m c5 tg) (keyC_len _ _ _ HT.out) h9.range0 ?_))
    refine (same_yes w9 K9 J9).mono ?_
    rintro e w10 ⟨rfl, f10⟩
    have i10 := i9.keep_nil f10
    have K10 := K9.keep_nil f10
    have F10 := F9.trans_nil f10
    clear h9 i9 K9 J9 f10 F9
    go_wp2_with fail
    go_ret
    exact ⟨rfl, F10⟩
  · obtain ⟨y1, y2⟩ := hk.yes hd
    have HD := Lib.hid hd
    have HR := Lib.hid y1
    have HB := Lib.hid y2
    clear hd hk y1 y2
    go_enter Try.func10, Try.ntmps10
    go_wp2_with (at_builtin; refine wpList_app rfl rfl slB w.heap.size (.slice (some ⟨w.heap.size, 0, none⟩) 0 0) 0 [] rfl (Row.new w #[] 5 1 0 (0, 0) (free_zero _) (by unfold maxLen; omega) rfl (Nat.le_refl _)) A n c (bvs l) rfl (by rw [bvs_length, HN.out]; omega) (hr.alloc _) (bvs_one l) hA (by omega) (by simp) ?_; intro v1 w1 q1 q2 q3 q4)
    have F1 : Fr [] w w1 := ((Fr.refl [] w).alloc _).trans q2 (fun i hi => .inr (by rw [own_mem.1 hi]; exact Nat.le_refl _))
    rw [Nat.zero_add, List.nil_append] at q1
    obtain ⟨A1, cap1, rfl, -, -, rd1, -, -⟩ := q1.shape
    have n1 := q1.rd.2.2
    clear q2 q3 q4
    go_wp2_with fail
    have cc := decKeys_any w1 A1 l n cap1 HN.out rd1 n1 (by omega)
    unfold DecK at cc
    rw [HE.out, HD.out] at cc
    simp only [HM.out] at cc
    refine cc.mono ?_
    clear cc
    rintro e w2 ⟨A2, c2, rfl, r2, f2⟩
    have F2 := F1.trans_nil f2
    have K2 := r2.kok HM.out HO.out HT.out (by omega)
    clear rd1 n1 q1 r2 f2 F1
    go_wp2_with
      (first
        | (refine wpList_alS stKeys rfl rfl ?_; intro w3 h3 f3 z3; have Z3 := Lib.hid z3; clear z3; obtain ⟨gx, hgx⟩ : ∃ gx, w2.heap.size = gx := ⟨_, rfl⟩; rw [hgx] at h3; rw [hgx]; have HGX := Lib.hid hgx; clear hgx)
        | (refine wpList_stB stKeys rfl rfl gx rfl (keyC A2 m c2 tg) rfl (keyC_len _ _ _ HT.out) (keyC_ones _ _ _ _) (keyC none 0 0 zT) (keyC_len _ _ _ zT_len) h3 ?_; intro w4 h4 f4 z4; have Z4 := Lib.hid z4; clear z4))
    have FF : Fr [] w2 w4 := f3.trans f4 (fun i hi => .inr (by have := HGX.out; simp at hi; omega))
    have F4 : Fr [] w w4 := F2.trans_nil FF
    have K4 := K2.keep_nil FF
    have cc := xDecKeys_any w4 A l n c HN.out (hr.keep_nil F4) hA (by omega)
    unfold DecK at cc
    rw [HE.out, HD.out] at cc
    simp only [HM.out] at cc
    refine cc.mono ?_
    clear cc
    rintro e w5 ⟨A5, c5, rfl, r5, f5⟩
    have F5 := F4.trans_nil f5
    have h5 := h4.keep_nil f5
    have K5 := K4.keep_nil f5
    have J5 := r5.kok HM.out HO.out HT.out (by omega)
    clear h3 h4 f3 f4 F2 FF K2 K4 F4 r5 f5
    go_wp2_with
      (first
        | (refine wpList_alS stKeys rfl rfl ?_; intro w6 h6 f6 z6; have Z6 := Lib.hid z6; clear z6; obtain ⟨gy, hgy⟩ : ∃ gy, w5.heap.size = gy := ⟨_, rfl⟩; rw [hgy] at h6; rw [hgy]; have HGY := Lib.hid hgy; clear hgy)
        | (refine wpList_stB stKeys rfl rfl gy rfl (keyC A5 m c5 tg) rfl (keyC_len _ _ _ HT.out) (keyC_ones _ _ _ _) (keyC none 0 0 zT) (keyC_len _ _ _ zT_len) h6 ?_; intro w7 h7 f7 z7; have Z7 := Lib.hid z7; clear z7))
    have FF : Fr [] w5 w7 := f6.trans f7 (fun i hi => .inr (by have := HGY.out; simp at hi; omega))
    have F7 := F5.trans_nil FF
    refine (lives12_any w7).mono ?_
    rintro e w9 ⟨rfl, f9⟩
    have h9 := h7.keep_nil f9
    have FF9 := FF.trans_nil f9
    have i9 := h5.keep_nil FF9
    have K9 := K5.keep_nil FF9
    have J9 := J5.keep_nil FF9
    have F9 := F7.trans_nil f9
    clear h5 h6 h7 K5 J5 f6 f7 FF FF9 F7 f9 F5
    go_wp2_with
      (first
        | (refine wpList_ldS stKeys rfl rfl gx 0 rfl (keyC A2 m c2 tg) (keyC_len _ _ _ HT.out) i9.range0 ?_)
        | (refine wpList_ldS stKeys rfl rfl gy 0 rfl (keyC A5 m c5 tg) (keyC_len _ _ _ HT.out) h9.range0 ?_))
    refine (same_yes w9 K9 J9).mono ?_
    rintro e w10 ⟨rfl, f10⟩
    have i10 := i9.keep_nil f10
    have K10 := K9.keep_nil f10
    have F10 := F9.trans_nil f10
    clear h9 i9 K9 J9 f10 F9
    go_wp2_with
      (first
        | (refine wpList_ldS stKeys rfl rfl gx 0 rfl (keyC A2 m c2 tg) (keyC_len _ _ _ HT.out) i10.range0 ?_))
    have cc := encKeys_any w10 K10
    unfold EncK at cc
    rw [HR.out, HB.out] at cc
    refine cc.mono ?_
    clear cc
    rintro e w11 ⟨v11, rfl, r11, f11⟩
    rw [if_pos rfl, if_pos rfl] at r11
    have F11 := F10.trans_nil f11
    have E2 := r11.str
    have E3 := strB w11 A l n c HN.out (hr.keep_nil F11) hA
    obtain ⟨A11, cap11, rfl, -, -, -, -, -⟩ := r11.shape
    go_wp2_with fail
    go_ret
    exact ⟨rfl, F11⟩
end Go.Proofs.Ytmonedfafechcaa
