/-
  Layer 13 (record): the reference's Blocks.
-/
import Derived.Test.YtlelgeigighecaaDoorRecN
set_option linter.unusedSimpArgs false
set_option linter.unusedVariables false
set_option linter.unnecessarySimpa false
namespace Go.Proofs.YtlelgeigighecaaDoor
open Go.RowKit

theorem BRow.cons {w w' : World} {B : Nat} {v v' v'' r : Value} {vs : List Value} {d : List UInt8} {bs : List (List UInt8)} (h1 : Row w B 28 1 v 1 [r]) (hr : Row w B 5 1 r d.length (bvs d)) (h2 : BRow w B v' vs bs) (f : Fr v.ownBlock.toList w w') (hq : Row w' B 28 1 v'' (1 + bs.length) ([r] ++ vs)) : BRow w' B v'' (r :: vs) (d :: bs) := by
  have kp : ∀ {z : Value} {l : List UInt8}, Row w B 5 1 z l.length (bvs l) → Row w' B 5 1 z l.length (bvs l) := fun hx =>
    hx.keep f (fun g hg hm => hx.ne_rowR h1 (by decide) g hg (mem_own.1 hm))
  refine ⟨by rw [List.length_cons, Nat.add_comm]; exact hq, fun i h3 h4 => ?_⟩
  cases i with
  | zero => exact kp hr
  | succ i => exact kp (h2.each i (by simpa using h3) (by simpa using h4))
theorem BRow.one {w : World} {B : Nat} {v : Value} {vs : List Value} {bs : List (List UInt8)} (h : BRow w B v vs bs) : ∀ u ∈ vs, u.oneCell' = true := by
  intro u hu
  obtain ⟨i, hi, rfl⟩ := List.getElem_of_mem hu
  exact (h.each i hi (by rw [← h.vlen]; exact hi)).slb.one
theorem flat512 {bs : List (List UInt8)} (h : ∀ b ∈ bs, b.length = 512) : bs.flatten.length = 512 * bs.length := by
  induction bs with
  | nil => rfl
  | cons b bs ih =>
    rw [List.flatten_cons, List.length_append, h b (by simp), ih (fun x hx => h x (by simp [hx])), List.length_cons]
    omega
theorem blkL_512 {n : Nat} {rs : List (Int × List UInt8)} (h : ∀ r ∈ rs, r.2.length = 512) (hl : rs.length ≤ 64) : ∀ b ∈ blkL n rs, b.length = 512 := by
  intro b hb
  rcases List.mem_cons.1 hb with rfl | hb
  · exact planB_len _ _ _ (by rw [rcP_len]; exact hl)
  · obtain ⟨r, hr, rfl⟩ := List.mem_map.1 hb
    rw [tnB_len, h r hr]

set_option maxRecDepth 100000 in
set_option maxHeartbeats 4000000 in
theorem xrcBlocks_any (w : World) (A : Option Addr) (m n c : Nat) (rs : List (Int × List UInt8)) (hm : m < 18446744073709551616) (hr : RdR w A n c rs) :
    Calls Tryd.prog 26 #[.int .u64 m, .slice A n c] w (BlkC w m rs) := by
  have HRL := Lib.hid hr.len
  have hre := hr.reach
  have HPL := Lib.hid (show (rcP rs).length = n by rw [rcP_len, HRL.out])
  have HI := Lib.hid hr.in64
  go_enter Tryd.func26, Tryd.ntmps26
  go_wp2_with fail
  go_loopw [6, 7] (fun v6 i wr => ∃ k : Nat, k ≤ n ∧ i = .int .i64 k ∧ Row wr w.heap.size 3 1 v6 k (zvs (rcP (rs.take k))) ∧ (∀ i (h : i < rs.length), i < k → rs[i].2.length = 512) ∧ Fr [] w wr) (fun _ i _ => n - (intOf i).toNat)
  case atStart => exact ⟨0, Nat.zero_le _, rfl, Row.nil _ _ _ _, fun i h h2 => absurd h2 (by omega), Fr.refl _ _⟩
  case round =>
    obtain ⟨k, hk, rfl, R6, hall, F⟩ := hrel
    obtain ⟨A6, cap6, rfl, -, -, -, -, -⟩ := R6.shape
    by_cases hlt : k < n
    · have hkl : k < rs.length := by rw [HRL.out]; exact hlt
      obtain ⟨g, o, rfl, hg, hc⟩ := hr.cell (by omega)
      obtain ⟨hx64, c0w, v, c1w, ⟨Ab, cb, rfl, rdw, nilb, leb⟩, reachb⟩ := hc k hkl
      have c0 := F.cell (by simp) c0w
      have HPT := Lib.hid (rcP_take rs k hkl)
      have HALL := Lib.hid (fun h5 : rs[k].2.length = 512 => (fun i (h : i < rs.length) (h2 : i < k + 1) => if e : i = k then by subst e; exact h5 else hall i h (by omega) : ∀ i (h : i < rs.length), i < k + 1 → rs[i].2.length = 512))
      have HNO := Lib.hid (fun h5 : rs[k].2.length ≠ 512 => (blkV_none (n := m) fun h => h5 (h.2.2.1 _ (List.getElem_mem hkl)) : blkV m rs = none))
      generalize rs[k] = rk at *
      obtain ⟨x, b⟩ := rk
      dsimp only at *
      obtain ⟨nb, hnb⟩ : ∃ nb, b.length = nb := ⟨_, rfl⟩
      rw [hnb] at c1w nilb leb reachb HALL HNO
      clear hc hall rdw hnb
      have C1 := Lib.hid c1w
      clear c0w c1w
      by_cases h5 : nb = 512
      · subst h5
        replace HALL := Lib.hid (HALL.out rfl)
        clear HNO
        go_wp2_with (at_builtin; refine wpList_app rfl rfl slI13 w.heap.size _ k (zvs (rcP (rs.take k))) rfl (R6.alloc _) _ 1 1 [_] rfl rfl (Rd.one _ _ _) (by intro u hu; rw [List.mem_singleton.1 hu]; rfl) (fun h => by cases h) (by omega) (by have := F.size; simp; omega) ?_; intro v6 w7 q1 q2 q3 q4; have F7 : Fr [] w w7 := (F.alloc _).trans q2 (fun i hi => .inr (R6.lt i (mem_own.1 hi)).1); have c1 := F7.cell (by simp) C1.out)
        exact ⟨⟨k + 1, by omega, by go_num, by rw [HPT.out]; exact q1, HALL.out, F7⟩, by simp [intOf]; omega⟩
      · have HV := Lib.hid (HNO.out h5)
        have d5 : ((nb : Int) == 512) = false := by rw [beq_eq_false_iff_ne]; omega
        clear HALL
        go_wp2_with (at_builtin; refine wpList_app rfl rfl slI13 w.heap.size _ k (zvs (rcP (rs.take k))) rfl (R6.alloc _) _ 1 1 [_] rfl rfl (Rd.one _ _ _) (by intro u hu; rw [List.mem_singleton.1 hu]; rfl) (fun h => by cases h) (by omega) (by have := F.size; simp; omega) ?_; intro v6 w7 q1 q2 q3 q4; have F7 : Fr [] w w7 := (F.alloc _).trans q2 (fun i hi => .inr (R6.lt i (mem_own.1 hi)).1); have c1 := F7.cell (by simp) C1.out)
        go_ret2
        exact BlkC.no HV.out F7
    · obtain rfl : k = n := by omega
      rw [List.take_of_length_le (by rw [HRL.out]; exact Nat.le_refl _)] at R6
      have H512 := Lib.hid (show ∀ r ∈ rs, r.2.length = 512 from fun r hr => by
        obtain ⟨i, hi, rfl⟩ := List.getElem_of_mem hr
        exact hall i hi (by rw [← HRL.out]; exact hi))
      clear hall
      by_cases hm0 : m = 0
      · subst hm0
        have HV := Lib.hid (show blkV 0 rs = none from blkV_none fun h => h.1 rfl)
        go_wp2_with fail
        go_ret2
        exact BlkC.no HV.out F
      · have hmm : ((m : Int) == 0) = false := by rw [beq_eq_false_iff_ne]; omega
        have HM0 := Lib.hid hm0
        clear hm0
        by_cases hn : 64 < k
        · have HV := Lib.hid (show blkV m rs = none from blkV_none fun h => by have := h.2.1; have := HRL.out; omega)
          go_wp2_with fail
          go_ret2
          exact BlkC.no HV.out F
        · have hn64 : ¬ (64 < (k : Int)) := by omega
          go_wp2_with fail
          have cc := xrcRight_any A6 (rcP rs) k cap6 wr HPL.out R6.rd.1 (by omega)
          cases hrt : rightF (rcP rs)
          · rw [hrt] at cc
            have HV := Lib.hid (show blkV m rs = none from blkV_none fun h => by rw [h.2.2.2] at hrt; cases hrt)
            clear hrt
            refine cc.mono ?_
            clear cc
            rintro e w1 ⟨rfl, f1⟩
            go_wp2_with fail
            go_ret2
            exact BlkC.no HV.out (F.trans_nil f1)
          · rw [hrt] at cc
            have HR := Lib.hid hrt
            clear hrt
            refine cc.mono ?_
            clear cc
            rintro e w1 ⟨rfl, f1⟩
            replace R6 := R6.keep_nil f1
            replace F := F.trans_nil f1
            clear f1
            obtain ⟨N, hN⟩ : ∃ N, k = N := ⟨_, rfl⟩
            rw [hN] at R6 HPL HRL hn64 hr hre hn ⊢
            clear hN hlt hk
            go_wp2_with fail
            go_loopw [8, 9, 10] (fun v8 v9 i wr => ∃ k : Nat, k ≤ N ∧ i = .int .i64 k ∧ Row wr w.heap.size 3 1 (.slice A6 N cap6) N (zvs (rcP rs)) ∧ (∃ vs, BRow wr w.heap.size v9 vs (rcD (rs.take k))) ∧ v8 = .int .u64 (rcT rs k : Nat) ∧ Fr [] w wr) (fun _ _ i _ => N - (intOf i).toNat)
            case atStart => exact ⟨0, Nat.zero_le _, rfl, R6, ⟨[], BRow.nil _ _⟩, rfl, F⟩
            case round =>
              clear R6 F
              obtain ⟨k, hk, rfl, R6, ⟨vs, R9⟩, rfl, F⟩ := hrel
              have HL9 := Lib.hid (show (rcD (rs.take k)).length = k by rw [rcD_len, List.length_take, Nat.min_eq_left (by rw [HRL.out]; omega)])
              have r9s := R9.row
              rw [HL9.out] at r9s
              obtain ⟨A9, cap9, rfl, -, -, -, -, -⟩ := r9s.shape
              by_cases hlt : k < N
              · have hkl : k < rs.length := by rw [HRL.out]; exact hlt
                obtain ⟨g, o, rfl, hg, hc⟩ := hr.cell (by omega)
                obtain ⟨hx64, c0w, v, c1w, ⟨Ab, cb, rfl, rdw, nilb, leb⟩, reachb⟩ := hc k hkl
                have c1 := (F.alloc (.cells #[] 5)).cell (by simp) c1w
                have HDT := Lib.hid (rcD_take rs k hkl)
                have HTT := Lib.hid (rcT_succ rs k hkl)
                have h5 := H512.out _ (List.getElem_mem hkl)
                generalize rs[k] = rk at *
                obtain ⟨x, b⟩ := rk
                dsimp only at *
                rw [h5] at c1 nilb leb
                have HNB := Lib.hid h5
                clear hc h5 c0w c1w hx64 reachb r9s
                go_wp2_with (at_builtin; refine wpList_app rfl rfl slB w.heap.size (.slice (some ⟨wr.heap.size, 0, none⟩) 0 0) 0 [] rfl (Row.new wr #[] 5 1 0 (0, 0) (free_zero _) (by unfold maxLen; omega) rfl F.size) Ab 512 cb (bvs b) rfl (by have := HNB.out; rw [bvs_length]; omega) ((rdw.keep_nil F).alloc _) (bvs_one _) nilb (by omega) (by have := F.size; simp; omega) ?_; intro v8 w8 q1 q2 q3 q4)
                have f8 : Fr [] wr w8 := ((Fr.refl [] wr).alloc _).trans q2 (fun i hi => .inr (by rw [own_mem.1 hi]; exact Nat.le_refl _))
                rw [Nat.zero_add, List.nil_append] at q1
                have r8 := q1
                obtain ⟨A8, c8, rfl, hc8, -, -, -, -⟩ := r8.shape
                replace R6 := R6.keep_nil f8
                replace R9 := R9.keep_nil f8
                replace F := F.trans_nil f8
                clear q1 q2 q3 q4 f8 c1
                have cc := xrcLike_any A8 b 512 c8 w8 HNB.out r8.rd.1 r8.rd.2.2 (by omega) hc8
                cases hlk : likeB b
                · rw [hlk] at cc
                  refine cc.mono ?_
                  clear cc
                  rintro e w9 ⟨rfl, rfl⟩
                  have HTT2 := Lib.hid (show ((rcT rs (k + 1) : Nat) : Int) = ((rcT rs k : Nat) : Int) by rw [HTT.out, hlk]; rfl)
                  have HTN := Lib.hid (show b = tnB b by rw [tnB, hlk]; rfl)
                  clear hlk
                  have r9 : Row w8 w.heap.size 5 1 (.slice A8 512 c8) (tnB b).length (bvs (tnB b)) := by rw [← HTN.out, HNB.out]; exact r8
                  have r9d : Row w8 w.heap.size 28 1 (.slice A9 k cap9) k vs := by have := R9.row; rwa [HL9.out] at this
                  go_wp2_with (at_builtin; refine wpList_app rfl rfl slBB w.heap.size _ k vs rfl (r9d.alloc _) _ 1 1 [_] rfl rfl (Rd.one _ _ _) (by intro u hu; rw [List.mem_singleton.1 hu]; rfl) (fun h => by cases h) (by omega) (by have := F.size; simp; omega) ?_; intro v7 wx q1 q2 q3 q4)
                  have fa : Fr [] w8 (w8.alloc (.cells #[.slice A8 512 c8] 28)) := (Fr.refl [] w8).alloc _
                  have R7b := (R9.keep_nil fa).snoc (r9.keep_nil fa) q2 (by rw [HL9.out]; exact q1)
                  rw [← HDT.out] at R7b
                  exact ⟨⟨k + 1, by omega, by go_num, (R6.keep_nil fa).keep q2 (fun g hg hm => (R6.keep_nil fa).ne_rowR (r9d.keep_nil fa) (by decide) g hg (mem_own.1 hm)), ⟨_, R7b⟩, by rw [HTT2.out], (F.alloc _).trans q2 (fun i hi => .inr (r9d.lt i (mem_own.1 hi)).1)⟩, by simp [intOf]; omega⟩
                · rw [hlk] at cc
                  refine cc.mono ?_
                  clear cc
                  rintro e w9 ⟨rfl, rfl⟩
                  go_wp2_with fail
                  refine (xrcTurn_any A8 b 512 c8 w8 HNB.out r8.rd.1 r8.rd.2.2 (by omega) (by omega)).mono ?_
                  rintro e w9 ⟨v9, rfl, r9, f9⟩
                  obtain ⟨A10, c10, rfl, -, -, -, -, -⟩ := r9.shape
                  have HTT2 := Lib.hid (show ((rcT rs (k + 1) : Nat) : Int) = bits .or .u64 ((rcT rs k : Nat) : Int) (IntKind.u64.wrap (2 ^ k)) by rw [HTT.out, hlk, rcT_or _ _ (by omega)]; rfl)
                  have HTN := Lib.hid (show turnB b = tnB b by rw [tnB, hlk]; rfl)
                  clear hlk
                  replace R6 := R6.keep_nil f9
                  replace R9 := R9.keep_nil f9
                  replace r9 : Row w9 w.heap.size 5 1 (.slice A10 512 c10) (tnB b).length (bvs (tnB b)) := by rw [← HTN.out, turnB_len, HNB.out]; exact r9.mono F.size
                  replace F := F.trans_nil f9
                  have r9d : Row w9 w.heap.size 28 1 (.slice A9 k cap9) k vs := by have := R9.row; rwa [HL9.out] at this
                  go_wp2_with (at_builtin; refine wpList_app rfl rfl slBB w.heap.size _ k vs rfl (r9d.alloc _) _ 1 1 [_] rfl rfl (Rd.one _ _ _) (by intro u hu; rw [List.mem_singleton.1 hu]; rfl) (fun h => by cases h) (by omega) (by have := F.size; simp; omega) ?_; intro v7 wx q1 q2 q3 q4)
                  have fa : Fr [] w9 (w9.alloc (.cells #[.slice A10 512 c10] 28)) := (Fr.refl [] w9).alloc _
                  have R7b := (R9.keep_nil fa).snoc (r9.keep_nil fa) q2 (by rw [HL9.out]; exact q1)
                  rw [← HDT.out] at R7b
                  exact ⟨⟨k + 1, by omega, by go_num, (R6.keep_nil fa).keep q2 (fun g hg hm => (R6.keep_nil fa).ne_rowR (r9d.keep_nil fa) (by decide) g hg (mem_own.1 hm)), ⟨_, R7b⟩, by rw [HTT2.out], (F.alloc _).trans q2 (fun i hi => .inr (r9d.lt i (mem_own.1 hi)).1)⟩, by simp [intOf]; omega⟩
              · obtain rfl : k = N := by omega
                rw [List.take_of_length_le (by rw [HRL.out]; exact Nat.le_refl _)] at R9
                rw [show (rcD (rs.take k)).length = (rcD rs).length by rw [List.take_of_length_le (by rw [HRL.out]; exact Nat.le_refl _)]] at HL9
                go_wp2_with fail
                have cc := xrcplan_any (w := wr) (c := cap6) hm (rcT_lt rs k (by omega)) HPL.out R6.rd.1 (right_in HR.out) (by omega)
                refine cc.mono ?_
                clear cc
                rintro e w2 ⟨r, rfl, r2, f2⟩
                obtain ⟨A2, cap2, rfl, -, -, -, -, -⟩ := r2.shape
                replace R9 := R9.keep_nil f2
                replace r9s := r9s.keep_nil f2
                replace r2 : Row w2 w.heap.size 5 1 (.slice A2 512 cap2) (planB m (rcP rs) (rcT rs k)).length (bvs (planB m (rcP rs) (rcT rs k))) := by rw [planB_len _ _ _ (by rw [HPL.out]; omega)]; exact r2.mono F.size
                replace F := F.trans_nil f2
                clear R6 f2
                have rn := Row.new w2 #[.slice A2 512 cap2] 28 1 1 (0, 0) (free_zero _) (by unfold maxLen; omega) rfl F.size
                have fa : Fr [] w2 (w2.alloc (.cells #[.slice A2 512 cap2] 28)) := (Fr.refl [] w2).alloc _
                go_wp2_with (at_builtin; refine wpList_app rfl rfl slBB w.heap.size _ 1 _ rfl rn A9 k cap9 vs rfl (by have := r9s.1; omega) (r9s.keep_nil fa).rd.1 R9.one r9s.rd.2.2 (by omega) (by have := F.size; simp; omega) ?_; intro v7 wx q1 q2 q3 q4)
                have R12 := BRow.cons rn (r2.keep_nil fa) (R9.keep_nil fa) q2 (by rw [HL9.out]; exact q1)
                have F12 : Fr [] w wx := (F.alloc _).trans q2 (fun i hi => .inr (rn.lt i (mem_own.1 hi)).1)
                have hb8 : blkL m rs = planB m (rcP rs) (rcT rs k) :: rcD rs := by rw [blkL, HRL.out]
                rw [← hb8] at R12
                clear R9 r9s r2 rn fa q2 q3 q4 F hb8
                have r12 := R12.row
                rw [blkL_len, HRL.out] at r12
                obtain ⟨A12, cap12, rfl, -, -, -, -, -⟩ := r12.shape
                have HB5 := Lib.hid (blkL_512 (n := m) H512.out (by rw [HRL.out]; omega))
                have HBL := Lib.hid (show (blkL m rs).length = k + 1 by rw [blkL_len, HRL.out])
                obtain ⟨bs, hbs⟩ : ∃ bs, blkL m rs = bs := ⟨_, rfl⟩
                rw [hbs] at R12 HB5 HBL
                have HBS := Lib.hid hbs
                clear hbs q1
                obtain ⟨us, hus⟩ : ∃ us, Value.slice A2 512 cap2 :: vs = us := ⟨_, rfl⟩
                rw [hus] at R12 r12
                clear hus hlt hk
                have f12 : Fr [] wx wx := Fr.refl _ _
                go_wp2_with fail
                go_loopw [13, 14] (fun v13 i wr3 => ∃ j : Nat, j ≤ k + 1 ∧ i = .int .i64 j ∧ Row wr3 wx.heap.size 5 1 v13 (512 * j) (bvs (bs.take j).flatten) ∧ Fr [] wx wr3) (fun _ i _ => k + 1 - (intOf i).toNat)
                case atStart => exact ⟨0, Nat.zero_le _, rfl, Row.nil _ _ _ _, f12⟩
                case round =>
                  clear f12
                  obtain ⟨j, hj, rfl, R13, f⟩ := hrel
                  obtain ⟨A13, cap13, rfl, -, -, -, -, -⟩ := R13.shape
                  by_cases hlt : j < k + 1
                  · have hjb : j < bs.length := by rw [HBL.out]; exact hlt
                    have hjv : j < us.length := by rw [R12.vlen]; exact hjb
                    have R12w := R12.keep_nil f
                    obtain ⟨g12, o12, rfl, hc12⟩ := (r12.keep_nil f).rd.1 (by intro h; rw [h] at hjv; simp at hjv)
                    have ck := hc12 j us[j] (List.getElem?_eq_getElem hjv)
                    obtain ⟨Aj, cj, hv, hrd, hnil, -⟩ := (R12w.each j hjv hjb).slb
                    have hb5 := HB5.out _ (List.getElem_mem hjb)
                    have hft := flat_take_succ bs j hjb
                    rw [hv] at ck
                    obtain ⟨b, hbk⟩ : ∃ b, bs[j] = b := ⟨_, rfl⟩
                    rw [hbk] at ck hrd hnil hft hb5
                    rw [hb5] at ck hnil
                    have HFT := Lib.hid hft
                    have HB := Lib.hid hb5
                    clear hv hc12 hft hb5 hbk R12w
                    go_wp2_with (at_builtin; refine wpList_app rfl rfl slB wx.heap.size _ (512 * j) (bvs (bs.take j).flatten) rfl R13 Aj 512 cj (bvs b) rfl (by have := HB.out; rw [bvs_length]; omega) hrd (bvs_one _) hnil (by omega) f.size ?_; intro v8 w8 q1 q2 q3 q4)
                    rw [← bvs_append, ← HFT.out] at q1
                    exact ⟨⟨j + 1, by omega, by go_num, q1, f.trans q2 (fun i hi => .inr (R13.lt i (mem_own.1 hi)).1)⟩, by simp [intOf]; omega⟩
                  · obtain rfl : j = k + 1 := by omega
                    rw [List.take_of_length_le (by rw [HBL.out]; exact Nat.le_refl _)] at R13
                    have HFL := Lib.hid (show bs.flatten.length = 512 * (k + 1) by rw [flat512 HB5.out, HBL.out])
                    replace F12 := F12.trans_nil f
                    replace R12 := R12.keep_nil f
                    replace r12 := r12.keep_nil f
                    go_wp2_with fail
                    refine (xrcDone_any hm HFL.out R13.rd.1 R13.rd.2.2 (by omega)).mono ?_
                    rintro e w4 ⟨r, rfl, r4, f4⟩
                    obtain ⟨A4, cap4, rfl, -, -, -, -, -⟩ := r4.shape
                    replace R12 := R12.keep_nil f4
                    replace r12 := r12.keep_nil f4
                    replace r4 : Row w4 w.heap.size 5 1 (.slice A4 512 cap4) (doneB m bs.flatten).length (bvs (doneB m bs.flatten)) := by rw [doneB_len]; exact r4.mono F12.size
                    replace F12 := F12.trans_nil f4
                    clear f4 R13 f
                    obtain ⟨d, hd⟩ : ∃ d, doneB m bs.flatten = d := ⟨_, rfl⟩
                    rw [hd] at r4
                    have HV := Lib.hid (show blkV m rs = some (bs ++ [d]) by rw [← hd, ← HBS.out]; exact blkV_some ⟨HM0.out, by rw [HRL.out]; omega, H512.out, HR.out⟩)
                    clear hd
                    go_wp2_with (at_builtin; refine wpList_app rfl rfl slBB w.heap.size _ (k + 1) _ rfl (r12.alloc _) _ 1 1 [_] rfl rfl (Rd.one _ _ _) (by intro u hu; rw [List.mem_singleton.1 hu]; rfl) (fun h => by cases h) (by omega) (by have := F12.size; simp; omega) ?_; intro v7 wz q1 q2 q3 q4)
                    have fa : Fr [] w4 (w4.alloc (.cells #[.slice A4 512 cap4] 28)) := (Fr.refl [] w4).alloc _
                    have R9 := (R12.keep_nil fa).snoc (r4.keep_nil fa) q2 (by rw [HBL.out]; exact q1)
                    go_ret2
                    exact BlkC.yes HV.out R9 ((F12.alloc _).trans q2 (fun i hi => .inr (r12.lt i (mem_own.1 hi)).1))
end Go.Proofs.YtlelgeigighecaaDoor
