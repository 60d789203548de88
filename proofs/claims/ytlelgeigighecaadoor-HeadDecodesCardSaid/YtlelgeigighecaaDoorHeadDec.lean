/-
  HeadDecodes, the walk: what any bytes are as a header.
-/
import Derived.Test.YtlelgeigighecaaDoorHeadN
set_option linter.unusedSimpArgs false
set_option linter.unusedVariables false
set_option linter.unnecessarySimpa false
namespace Go.Proofs.YtlelgeigighecaaDoor
open Go.RowKit

set_option maxRecDepth 100000 in
set_option maxHeartbeats 4000000 in
theorem headDec_any (w : World) (A : Option Addr) (l : List UInt8) (n c : Nat) (hn : l.length = n) (hr : Rd w A (bvs l)) (hA : A = none → n = 0) (hc : n ≤ c) (hl : n ≤ 140737488351232) (hK : KG w) :
    Calls Tryd.prog 4 #[.slice A n c] w fun e w' => e = .returned (.bool true) ∧ Fr [] w w' := by
  have HN := Lib.hid hn
  clear hn
  cases hd : (decH l).isSome
  · have HD := Lib.hid hd
    clear hd
    go_enter Tryd.func4, Tryd.ntmps4
    go_wp2_with (at_builtin; refine wpList_app rfl rfl slB w.heap.size (.slice (some ⟨w.heap.size, 0, none⟩) 0 0) 0 [] rfl (Row.new w #[] 5 1 0 (0, 0) (free_zero _) (by unfold maxLen; omega) rfl (Nat.le_refl _)) A n c (bvs l) rfl (by rw [bvs_length, HN.out]; omega) (hr.alloc _) (bvs_one l) hA (by omega) (by simp) ?_; intro v1 w1 q1 q2 q3 q4)
    have F1 : Fr [] w w1 := ((Fr.refl [] w).alloc _).trans q2 (fun i hi => .inr (by rw [own_mem.1 hi]; exact Nat.le_refl _))
    rw [Nat.zero_add, List.nil_append] at q1
    obtain ⟨A1, cap1, rfl, hc1, -, rd1, -, -⟩ := q1.shape
    have n1 := q1.rd.2.2
    clear q2 q3 q4
    have okv := decHV_ok l
    go_wp2_with fail
    have cc := hDecode_any w1 A1 l n cap1 HN.out rd1 n1 hc1 (hK.keep F1)
    unfold DecH at cc
    rw [HD.out] at cc
    refine cc.mono ?_
    clear cc
    rintro e w2 ⟨rfl, f2⟩
    rw [show errG false 110 = 110 from rfl]
    have F2 := F1.trans_nil f2
    have q2 := q1.keep_nil f2
    clear rd1 q1
    go_wp2_with
      (first
        | (refine wpList_alS stHead rfl rfl ?_; intro w3 h3 f3 z3; have Z3 := Lib.hid z3; clear z3; obtain ⟨gx, hgx⟩ : ∃ gx, w2.heap.size = gx := ⟨_, rfl⟩; rw [hgx] at h3; rw [hgx]; have HGX := Lib.hid hgx; clear hgx)
        | (refine wpList_stB stHead rfl rfl gx rfl (decHV l).cells rfl (HeadM.len okv) (decHV l).ones zeroH.cells (HeadM.len zeroH_ok) h3 ?_; intro w4 h4 f4 z4; have Z4 := Lib.hid z4; clear z4))
    have f24 : Fr [] w2 w4 := f3.trans f4 (fun i hi => .inr (by have := HGX.out; simp at hi; omega))
    have F4 := F2.trans_nil f24
    have q4 := q2.keep_nil f24
    clear q2 F1 F2 f3 f4 h3
    have cc := xhDecode_any w4 A l n c HN.out (hr.keep_nil F4) hA hc
    unfold DecH at cc
    rw [HD.out] at cc
    refine cc.mono ?_
    clear cc
    rintro e w5 ⟨rfl, f5⟩
    rw [show errG false 110 = 110 from rfl]
    have F5 := F4.trans_nil f5
    have h5 := h4.keep_nil f5
    have q5 := q4.keep_nil f5
    clear h4 f24 F4 q4
    go_wp2_with
      (first
        | (refine wpList_alS stHead rfl rfl ?_; intro w6 h6 f6 z6; have Z6 := Lib.hid z6; clear z6; obtain ⟨gy, hgy⟩ : ∃ gy, w5.heap.size = gy := ⟨_, rfl⟩; rw [hgy] at h6; rw [hgy]; have HGY := Lib.hid hgy; clear hgy)
        | (refine wpList_stB stHead rfl rfl gy rfl (decHV l).cells rfl (HeadM.len okv) (decHV l).ones zeroH.cells (HeadM.len zeroH_ok) h6 ?_; intro w7 h7 f7 z7; have Z7 := Lib.hid z7; clear z7))
    have f57 : Fr [] w5 w7 := f6.trans f7 (fun i hi => .inr (by have := HGY.out; simp at hi; omega))
    have F7 := F5.trans_nil f57
    have h8 := h5.keep_nil f57
    have q7 := q5.keep_nil f57
    refine (lives11_any w7 (hK.keep F7)).mono ?_
    rintro e w9 ⟨rfl, f9⟩
    have h9 := h7.keep_nil f9
    have i9 := h8.keep_nil f9
    have F9 := F7.trans_nil f9
    have E1 := (q7.keep_nil f9).str
    have E2 := strB w9 A l n c HN.out (hr.keep_nil F9) hA
    clear h5 h6 h7 h8 f6 f7 f57 F5 F7 q5 q7
    go_wp2_with
      (first
        | (refine wpList_ldS stHead rfl rfl gx 0 rfl (decHV l).cells (HeadM.len okv) i9.range0 ?_)
        | (refine wpList_ldS stHead rfl rfl gy 0 rfl (decHV l).cells (HeadM.len okv) h9.range0 ?_)
        | (refine wpList_eqS stHead rfl rfl (.inr rfl) rfl rfl true ((head_eq okv okv _).trans (by rw [(HeadM.eqB_iff _ _).2 rfl])) ?_))
    go_ret
    exact ⟨rfl, F9⟩
  · have HD := Lib.hid hd
    obtain ⟨s, hs⟩ := Option.isSome_iff_exists.1 hd
    have hv : decHV l = s := by rw [decHV, hs]; rfl
    obtain ⟨ho, hg, hb⟩ := decH_some hs
    have HG := Lib.hid (show (decHV l).good = true by rw [hv]; exact hg)
    have HB := Lib.hid (show (decHV l).bytes = l by rw [hv]; exact hb)
    clear hd hs hv hg hb ho
    go_enter Tryd.func4, Tryd.ntmps4
    go_wp2_with (at_builtin; refine wpList_app rfl rfl slB w.heap.size (.slice (some ⟨w.heap.size, 0, none⟩) 0 0) 0 [] rfl (Row.new w #[] 5 1 0 (0, 0) (free_zero _) (by unfold maxLen; omega) rfl (Nat.le_refl _)) A n c (bvs l) rfl (by rw [bvs_length, HN.out]; omega) (hr.alloc _) (bvs_one l) hA (by omega) (by simp) ?_; intro v1 w1 q1 q2 q3 q4)
    have F1 : Fr [] w w1 := ((Fr.refl [] w).alloc _).trans q2 (fun i hi => .inr (by rw [own_mem.1 hi]; exact Nat.le_refl _))
    rw [Nat.zero_add, List.nil_append] at q1
    obtain ⟨A1, cap1, rfl, hc1, -, rd1, -, -⟩ := q1.shape
    have n1 := q1.rd.2.2
    clear q2 q3 q4
    have okv := decHV_ok l
    go_wp2_with fail
    have cc := hDecode_any w1 A1 l n cap1 HN.out rd1 n1 hc1 (hK.keep F1)
    unfold DecH at cc
    rw [HD.out] at cc
    refine cc.mono ?_
    clear cc
    rintro e w2 ⟨rfl, f2⟩
    rw [show errG true 110 = 0 from rfl]
    have F2 := F1.trans_nil f2
    have q2 := q1.keep_nil f2
    clear rd1 q1
    go_wp2_with
      (first
        | (refine wpList_alS stHead rfl rfl ?_; intro w3 h3 f3 z3; have Z3 := Lib.hid z3; clear z3; obtain ⟨gx, hgx⟩ : ∃ gx, w2.heap.size = gx := ⟨_, rfl⟩; rw [hgx] at h3; rw [hgx]; have HGX := Lib.hid hgx; clear hgx)
        | (refine wpList_stB stHead rfl rfl gx rfl (decHV l).cells rfl (HeadM.len okv) (decHV l).ones zeroH.cells (HeadM.len zeroH_ok) h3 ?_; intro w4 h4 f4 z4; have Z4 := Lib.hid z4; clear z4))
    have f24 : Fr [] w2 w4 := f3.trans f4 (fun i hi => .inr (by have := HGX.out; simp at hi; omega))
    have F4 := F2.trans_nil f24
    have q4 := q2.keep_nil f24
    clear q2 F1 F2 f3 f4 h3
    have cc := xhDecode_any w4 A l n c HN.out (hr.keep_nil F4) hA hc
    unfold DecH at cc
    rw [HD.out] at cc
    refine cc.mono ?_
    clear cc
    rintro e w5 ⟨rfl, f5⟩
    rw [show errG true 110 = 0 from rfl]
    have F5 := F4.trans_nil f5
    have h5 := h4.keep_nil f5
    have q5 := q4.keep_nil f5
    clear h4 f24 F4 q4
    go_wp2_with
      (first
        | (refine wpList_alS stHead rfl rfl ?_; intro w6 h6 f6 z6; have Z6 := Lib.hid z6; clear z6; obtain ⟨gy, hgy⟩ : ∃ gy, w5.heap.size = gy := ⟨_, rfl⟩; rw [hgy] at h6; rw [hgy]; have HGY := Lib.hid hgy; clear hgy)
        | (refine wpList_stB stHead rfl rfl gy rfl (decHV l).cells rfl (HeadM.len okv) (decHV l).ones zeroH.cells (HeadM.len zeroH_ok) h6 ?_; intro w7 h7 f7 z7; have Z7 := Lib.hid z7; clear z7))
    have f57 : Fr [] w5 w7 := f6.trans f7 (fun i hi => .inr (by have := HGY.out; simp at hi; omega))
    have F7 := F5.trans_nil f57
    have h8 := h5.keep_nil f57
    have q7 := q5.keep_nil f57
    refine (lives11_any w7 (hK.keep F7)).mono ?_
    rintro e w9 ⟨rfl, f9⟩
    have h9 := h7.keep_nil f9
    have i9 := h8.keep_nil f9
    have F9 := F7.trans_nil f9
    have E1 := (q7.keep_nil f9).str
    have E2 := strB w9 A l n c HN.out (hr.keep_nil F9) hA
    clear h5 h6 h7 h8 f6 f7 f57 F5 F7 q5 q7
    go_wp2_with
      (first
        | (refine wpList_ldS stHead rfl rfl gx 0 rfl (decHV l).cells (HeadM.len okv) i9.range0 ?_)
        | (refine wpList_ldS stHead rfl rfl gy 0 rfl (decHV l).cells (HeadM.len okv) h9.range0 ?_)
        | (refine wpList_eqS stHead rfl rfl (.inr rfl) rfl rfl true ((head_eq okv okv _).trans (by rw [(HeadM.eqB_iff _ _).2 rfl])) ?_))
    refine (hEncode_any w9 _ okv (hK.keep F9)).mono ?_
    intro e w10 hE
    obtain ⟨A2, c2, rfl, hc2, r2, f2⟩ := hE.yes HG.out
    have F10 := F9.trans_nil f2
    have E2 := r2.str
    rw [HB.out] at E2
    have E3 := strB w10 A l n c HN.out (hr.keep_nil F10) hA
    clear hE E1
    go_wp2_with fail
    go_ret
    exact ⟨rfl, F10⟩
end Go.Proofs.YtlelgeigighecaaDoor
