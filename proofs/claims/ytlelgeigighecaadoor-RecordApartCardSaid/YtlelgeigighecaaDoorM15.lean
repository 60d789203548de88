/-
  Texts of this claim, one behind the other: RecAp.
-/
import Derived.Test.YtlelgeigighecaaDoorM14
import Derived.StillTailTactics
/-
  RecordApart, the walk: a transaction is that of its number alone; one bit of the last block that is turned makes it none.
-/
set_option linter.unusedSimpArgs false
set_option linter.unusedVariables false
set_option linter.unnecessarySimpa false
namespace Go.Proofs.YtlelgeigighecaaDoor
open Go.RowKit

theorem mem_blk {m : Nat} {rs : List (Int × List UInt8)} (h : rcOk m rs) : ∀ b ∈ blkL m rs ++ [doneB m (blkL m rs).flatten], b.length = 512 := by
  intro b hb
  rcases List.mem_append.1 hb with hb | hb
  · exact blk_512 h b hb
  · rw [List.mem_singleton.1 hb, doneB_len]
theorem flip_ne (x : UInt8) (j : Nat) (h : j < 8) : x ^^^ UInt8.ofNat (2 ^ j) ≠ x := by
  intro e
  have h2 : UInt8.ofNat (2 ^ j) = 0 := by
    have := congrArg (x ^^^ ·) e
    simpa [← UInt8.xor_assoc] using this
  have h3 := congrArg UInt8.toNat h2
  rw [UInt8.toNat_ofNat'] at h3
  have : 2 ^ j < 256 := Nat.lt_of_lt_of_le (Nat.pow_lt_pow_right (by omega) h) (by decide)
  rw [Nat.mod_eq_of_lt this] at h3
  have := Nat.two_pow_pos j
  simp at h3

theorem xor_bit (x : UInt8) (r : Nat) (h : r < 8) : bits .xor .u8 (x.toNat : Int) (IntKind.u8.wrap (2 ^ r)) = ((x ^^^ UInt8.ofNat (2 ^ r)).toNat : Int) := by
  have e : (2 : Int) ^ r = ((2 ^ r : Nat) : Int) := by push_cast; rfl
  have h2 : 2 ^ r < 256 := Nat.lt_of_lt_of_le (Nat.pow_lt_pow_right (by omega) h) (by decide)
  have e2 : IntKind.u8.wrap ((2 ^ r : Nat) : Int) = ((2 ^ r : Nat) : Int) := IntWalk.u8_in _ ⟨Int.natCast_nonneg _, by have := h2; omega⟩
  rw [e, e2, u8_xor_nat _ _ x.toNat_lt h2, UInt8.toNat_xor, UInt8.toNat_ofNat', Nat.mod_eq_of_lt h2]
set_option maxRecDepth 100000 in
set_option maxHeartbeats 4000000 in
theorem recApart_any (w : World) (m : Nat) (A : Option Addr) (n c : Nat) (rs : List (Int × List UInt8)) (m' : Nat) (z1 z2 : Int)
    (hm : m < 18446744073709551616) (hr : RdR w A n c rs) (hm' : m' < 18446744073709551616) (hz1 : -9223372036854775808 ≤ z1 ∧ z1 ≤ 9223372036854775807) (hz2 : -9223372036854775808 ≤ z2 ∧ z2 ≤ 9223372036854775807) (hK : KG w) :
    Calls Tryd.prog 11 #[.int .u64 m, .slice A n c, .int .u64 m', .int .i64 z1, .int .i64 z2] w fun e w' => e = .returned (.bool true) ∧ Fr [] w w' := by
  have p1 := rcBlocks_any w A m n c rs hm hr hK
  cases hv : blkV m rs with
  | none =>
    have HV := Lib.hid hv
    clear hv
    go_enter Tryd.func11, Tryd.ntmps11
    go_wp2_with fail
    refine p1.mono ?_
    intro e w1 hE
    obtain ⟨v1, vs1, rfl, R1, f1⟩ := BlkC.of_none HV.out hE
    obtain ⟨A1, c1, rfl, hc1, D1, m1⟩ := R1.arg (n := 0) rfl
    clear hE p1
    go_wp2_with fail
    refine (lives13_any w1 (hK.keep f1)).mono ?_
    rintro e w3 ⟨rfl, f3⟩
    go_wp2_with fail
    go_ret
    exact ⟨rfl, f1.trans_nil f3⟩
  | some bs =>
    have hok : rcOk m rs := Classical.byContradiction fun h => by rw [blkV_none h] at hv; cases hv
    have hbs : blkL m rs ++ [doneB m (blkL m rs).flatten] = bs := by rw [blkV_some hok] at hv; exact Option.some.inj hv
    have hlen : bs.length = n + 2 := by rw [← hbs, List.length_append, blkL_len, hr.len]; rfl
    have h64 : n ≤ 64 := by rw [← hr.len]; exact hok.2.1
    have h512 : ∀ b ∈ bs, b.length = 512 := by rw [← hbs]; exact mem_blk hok
    have hpos : 1 ≤ n := by
      have := hok.2.2.2
      simp only [rightF, Bool.and_eq_true, decide_eq_true_eq, rcP_len, hr.len] at this
      exact this.2.2.1
    have hT1 : trV m bs = some rs := by rw [← hbs, ← List.append_nil (_ ++ [_])]; exact trV_blk hok hm []
    have hT2 : m' ≠ m → trV m' bs = none := fun h => by rw [← hbs]; exact trV_other hok hm (fun e => h e.symm) _
    have hT3 : ∀ d, d ≠ bs.getD (n + 1) [] → trV m (bs.set (n + 1) d) = none := fun d hd => by
      have hg : bs.getD (n + 1) [] = doneB m (blkL m rs).flatten := by rw [← hbs]; exact getD_mid _ _ _ _ (by rw [blkL_len, hr.len])
      rw [hg] at hd
      have e : bs.set (n + 1) d = blkL m rs ++ [d] := by
        rw [← hbs, List.set_append_right _ _ (by rw [blkL_len, hr.len]; omega), blkL_len, hr.len, Nat.sub_self]
        rfl
      rw [e]
      exact trV_last hok hm hd
    obtain ⟨M, hM⟩ : ∃ M, n + 2 = M := ⟨_, rfl⟩
    have hM2 : 3 ≤ M ∧ M ≤ 66 := by omega
    rw [hM] at hlen
    have HV := Lib.hid hv
    have HLEN := Lib.hid hlen
    have H512 := Lib.hid h512
    have HT1 := Lib.hid hT1
    have HT2 := Lib.hid hT2
    have HT3 := Lib.hid hT3
    have HM := Lib.hid hM
    have KM : ((n : Int) + 2) = M := by omega
    have KN0 : ((n : Int) == 0) = false := by rw [beq_eq_false_iff_ne]; omega
    clear hv hok hbs hlen hT1 hT2 hT3 hM h512
    obtain ⟨t, ht⟩ : ∃ t, z1.tmod (M : Int) = t := ⟨_, rfl⟩
    have ht1 : t < M := by rw [← ht]; exact Int.tmod_lt_of_pos _ (by omega)
    have ht2 : -(M : Int) < t := by rw [← ht]; exact Int.lt_tmod_of_pos _ (by omega)
    obtain ⟨s, hs⟩ : ∃ s, z2.tmod 4096 = s := ⟨_, rfl⟩
    have hs1 : s < 4096 := by rw [← hs]; exact Int.tmod_lt_of_pos _ (by omega)
    have hs2 : -4096 < s := by rw [← hs]; exact Int.lt_tmod_of_pos _ (by omega)
    have hM0 : ¬ ((M : Int) = 0) := by omega
    go_enter Tryd.func11, Tryd.ntmps11
    go_wp2_with fail
    refine p1.mono ?_
    intro e w1 hE
    obtain ⟨v1, vs1, rfl, R1, f1⟩ := BlkC.of_some HV.out hE
    obtain ⟨A1, c1, rfl, hc1, D1, m1⟩ := R1.arg HLEN.out
    clear hE p1 R1
    go_wp2_with fail
    refine (lives13_any w1 (hK.keep f1)).mono ?_
    rintro e w2 ⟨rfl, f2⟩
    have F2 := f1.trans_nil f2
    replace D1 := D1.keep_nil f2
    have hvl : vs1.length = M := by rw [D1.len, HLEN.out]
    have HVL := Lib.hid hvl
    clear f1 f2 hvl
    go_wp2_with fail
    go_loopw [13] (fun i wr => ∃ k : Nat, k ≤ M ∧ i = .int .i64 k ∧ Fr [] w2 wr) (fun i _ => M - (intOf i).toNat)
    case atStart => exact ⟨0, Nat.zero_le _, rfl, Fr.refl _ _⟩
    case round =>
      obtain ⟨k, hk, rfl, f3⟩ := hrel
      have F3 := F2.trans_nil f3
      replace D1 := D1.keep_nil f3
      by_cases hlt : k < M
      · have hkv : k < vs1.length := by rw [HVL.out]; exact hlt
        have hkb : k < bs.length := by rw [HLEN.out]; exact hlt
        obtain ⟨g, o, rfl, hc⟩ := D1.rd (by intro h; rw [h] at hkv; simp at hkv)
        obtain ⟨Ab, cb, e1, rd1, n1, l1⟩ := D1.each k hkv hkb
        have ca := hc k _ (List.getElem?_eq_getElem hkv)
        rw [e1, H512.out _ (List.getElem_mem hkb)] at ca
        clear hc e1 rd1 n1 l1 hkv hkb
        go_wp2_with fail
        exact ⟨⟨k + 1, by omega, by go_num, f3⟩, by simp [intOf]; omega⟩
      · obtain rfl : M = k := by omega
        obtain ⟨b, hb⟩ : ∃ b, decide (m' = m) = b := ⟨_, rfl⟩
        obtain ⟨x, hx⟩ : ∃ x, errG (trV m' bs).isSome 110 = x := ⟨_, rfl⟩
        have d1 : (x == 0) = b := by
          rw [← hx, ← hb]
          by_cases e : m' = m
          · rw [e, HT1.out, decide_eq_true rfl]; rfl
          · rw [HT2.out e, decide_eq_false e]; rfl
        have d2 : ((m' : Int) == m) = b := by
          rw [← hb]
          by_cases e : m' = m
          · rw [e, decide_eq_true rfl]; simp
          · rw [decide_eq_false e, beq_eq_false_iff_ne]; omega
        have pp := rcParse_any wr A1 m' M c1 vs1 bs hm' HLEN.out D1 m1 hc1 (by omega) (hK.keep F3)
        unfold TrC at pp
        rw [hx] at pp
        obtain ⟨T, hT⟩ : ∃ T, trN m' bs = T := ⟨_, rfl⟩
        rw [hT] at pp
        clear hb hx hT
        go_wp2_with fail
        refine pp.mono ?_
        rintro e w4 ⟨v4, ps4, rfl, r4, f4⟩
        have F4 := F3.trans_nil f4
        replace D1 := D1.keep_nil f4
        have fe : Fr [] w4 (w4.alloc (.cells #[] 28)) := (Fr.refl _ _).alloc _
        have D1e := D1.keep_nil fe
        clear pp r4 f3 f4 F3 F2
        by_cases h1 : t < 0
        · obtain ⟨kk, hkk⟩ : ∃ kk : Nat, t + M = kk := ⟨(t + M).toNat, by omega⟩
          have hkM : kk < M := by omega
          by_cases h2 : s < 0
          · obtain ⟨nn, hnn⟩ : ∃ nn : Nat, s + 4096 = nn := ⟨(s + 4096).toNat, by omega⟩
            have hn5 : nn < 4096 := by omega
            have hkvs : kk < vs1.length := by rw [D1.len, HLEN.out]; omega
            have hkbs : kk < bs.length := by rw [HLEN.out]; omega
            have KK := Lib.hid (And.intro hkvs hkbs)
            have b5 : (bs[kk]'KK.out.2).length = 512 := H512.out _ (List.getElem_mem KK.out.2)
            clear hkvs hkbs
            go_upto_region 23 with (at_builtin; refine wpList_app rfl rfl slBB w4.heap.size (.slice (some ⟨w4.heap.size, 0, none⟩) 0 0) 0 [] rfl (Row.new w4 #[] 28 1 0 (0, 0) (free_zero _) (by unfold maxLen; omega) rfl (Nat.le_refl _)) A1 M c1 vs1 rfl (by rw [HVL.out, Nat.mul_one]) D1e.rd D1.ones m1 (by omega) (by simp) ?_; intro v5 w5 q1 q2 q3 q4)
            have f45 : Fr [] w4 w5 := fe.trans q2 (fun i hi => .inr (by rw [own_mem.1 hi]; exact Nat.le_refl _))
            have R5 := q1
            rw [Nat.zero_add, List.nil_append] at R5
            obtain ⟨g5, c5, rfl⟩ := rowhd R5 (by omega)
            have hc5 : M ≤ c5 := by obtain ⟨A', c', e', hh, -⟩ := R5.shape; cases e'; exact hh
            have D5 := D1.keep_nil f45
            obtain ⟨g, o, rfl, hc⟩ := D5.rd (by intro h; have := KK.out.1; rw [h] at this; simp at this)
            obtain ⟨Ab, cb, e1, rd1, n1, l1⟩ := D5.each kk KK.out.1 KK.out.2
            have ca := hc kk _ (List.getElem?_eq_getElem KK.out.1)
            have hu : vs1[kk]? = some (vs1[kk]'KK.out.1) := List.getElem?_eq_getElem KK.out.1
            rw [e1, b5] at ca hu
            rw [b5] at n1 l1
            obtain ⟨b, hb⟩ : ∃ b, bs[kk]'KK.out.2 = b := ⟨_, rfl⟩
            rw [hb] at b5 rd1
            have fe5 : Fr [] w5 (w5.alloc (.cells #[] 5)) := (Fr.refl _ _).alloc _
            have ca5 := fe5.cell (by simp) ca
            have HB := Lib.hid hb
            have H5 := Lib.hid b5
            have HU := Lib.hid hu
            clear q1 q2 q3 q4 hc e1 hu b5 hb D5
            go_upto_region 24 with (at_builtin; refine wpList_app rfl rfl slB w5.heap.size (.slice (some ⟨w5.heap.size, 0, none⟩) 0 0) 0 [] rfl (Row.new w5 #[] 5 1 0 (0, 0) (free_zero _) (by unfold maxLen; omega) rfl (Nat.le_refl _)) Ab 512 cb (bvs b) rfl (by rw [bvs_length, H5.out]) (rd1.keep_nil fe5) (bvs_one _) n1 (by omega) (by simp) ?_; intro v6 w6 q1 q2 q3 q4; have f56 : Fr [] w5 w6 := fe5.trans q2 (fun i hi => .inr (by rw [own_mem.1 hi]; exact Nat.le_refl _)); have R6 := R5.keep_nil f56; have x6 := (rowsetk R6 kk hkM .nilFunc).1; have y6 := (rowsetk R6 kk hkM .nilFunc).2.1; rw [HU.out] at x6; rw [Nat.zero_add, List.nil_append] at q1; obtain ⟨g6, c6, rfl⟩ := rowhd q1 (by omega))
            have g56 : g5 < w5.heap.size := (R5.lt g5 rfl).2
            have g6b : w5.heap.size ≤ g6 := (q1.lt g6 rfl).1
            have R7 := (rowsetk R6 kk hkM (.slice (some ⟨g6, 0, none⟩) 512 c6)).2.2
            have B7 : Row (w6.setCell ⟨g5, kk, none⟩ (.slice (some ⟨g6, 0, none⟩) 512 c6)) w5.heap.size 5 1 (.slice (some ⟨g6, 0, none⟩) 512 c6) 512 (bvs b) := q1.keep ((Fr.refl [g5] w6).setCell (.inl (by simp)) _) (fun g' hg hm => by rw [List.mem_singleton.1 hm] at hg; have := own_mem.1 (mem_own.2 hg); omega)
            have f47 : Fr [] w4 (w6.setCell ⟨g5, kk, none⟩ (.slice (some ⟨g6, 0, none⟩) 512 c6)) := (f45.trans_nil f56).setCell (.inr (R5.lt g5 rfl).1) _
            obtain ⟨w7, hw7⟩ : ∃ w7, w6.setCell ⟨g5, kk, none⟩ (.slice (some ⟨g6, 0, none⟩) 512 c6) = w7 := ⟨_, rfl⟩
            rw [hw7] at R7 B7 f47 ⊢
            have F7 := F4.trans_nil f47
            obtain ⟨jj, hjj⟩ : ∃ jj, nn / 8 = jj := ⟨_, rfl⟩
            obtain ⟨rr, hrr⟩ : ∃ rr, nn % 8 = rr := ⟨_, rfl⟩
            have hj5 : jj < 512 := by omega
            have hr8 : rr < 8 := by omega
            have DV1 : (nn : Int).tdiv 8 = jj := by rw [← hjj]; exact (Int.ofNat_tdiv _ _).symm
            have DV2 : (nn : Int).tmod 8 = rr := by rw [← hrr]; exact (Int.ofNat_tmod _ _).symm
            have hjb : jj < b.length := by rw [H5.out]; exact hj5
            obtain ⟨x0, hx0⟩ : ∃ x0, b.getD jj 0 = x0 := ⟨_, rfl⟩
            have cy := (rowsetk R7 kk hkM .nilFunc).1
            rw [List.getElem?_set_self (by rw [HVL.out]; exact hkM)] at cy
            have cx := (rowsetk B7 jj hj5 .nilFunc).1
            have zx := (rowsetk B7 jj hj5 .nilFunc).2.1
            have hbx : (bvs b)[jj]? = some (.int .u8 (x0.toNat : Int)) := by rw [bvs, List.getElem?_map, List.getElem?_eq_getElem hjb, ← hx0, List.getD_eq_getElem?_getD, List.getElem?_eq_getElem hjb]; rfl
            rw [hbx] at cx
            have HX0 := Lib.hid hx0
            have HBX := Lib.hid hbx
            have UJ : IntKind.i64.wrap (jj : Int) = jj := IntWalk.i64_in _ (by omega)
            have KJ : (jj : Int) < 512 := by omega
            have UR : IntKind.i64.wrap (rr : Int) = rr := IntWalk.i64_in _ (by omega)
            have HJB := Lib.hid hjb
            clear q1 q2 q3 q4 R6 x6 y6 f45 f56 R5 hjj hrr hbx hx0 hjb ca ca5 fe5 rd1 n1 l1 fe D1e hw7
            have XV := xor_bit x0 rr hr8
            obtain ⟨y0, hy0⟩ : ∃ y0, x0 ^^^ UInt8.ofNat (2 ^ rr) = y0 := ⟨_, rfl⟩
            have hyne : y0 ≠ x0 := by rw [← hy0]; exact flip_ne x0 rr hr8
            rw [hy0] at XV
            have HYN := Lib.hid hyne
            clear hy0 hyne
            go_still_tail 19, (by kernel_rfl)
            have fz := (Fr.refl [] w7).drew
            obtain ⟨w8, hw8⟩ : ∃ w8, w7.drew = w8 := ⟨_, rfl⟩
            change wpList _ _ _ _ _ (World.drew w7)
            rw [hw8] at fz ⊢
            replace R7 := R7.keep_nil fz
            replace B7 := B7.keep_nil fz
            replace f47 := f47.trans_nil fz
            replace cx := (rowsetk B7 jj hj5 .nilFunc).1
            replace zx := (rowsetk B7 jj hj5 .nilFunc).2.1
            rw [HBX.out] at cx
            have B9 := (rowsetk B7 jj hj5 (.int .u8 (y0.toNat : Int))).2.2
            have R9 : Row (w8.setCell ⟨g6, jj, none⟩ (.int .u8 (y0.toNat : Int))) w4.heap.size 28 1 (.slice (some ⟨g5, 0, none⟩) M c5) M (vs1.set kk (.slice (some ⟨g6, 0, none⟩) 512 c6)) := R7.keep ((Fr.refl [g6] w8).setCell (.inl (by simp)) _) (fun g' hg hm => by rw [List.mem_singleton.1 hm] at hg; have := own_mem.1 (mem_own.2 hg); omega)
            have f49 : Fr [] w4 (w8.setCell ⟨g6, jj, none⟩ (.int .u8 (y0.toNat : Int))) := f47.setCell (.inr (by have := (R7.lt g5 rfl).1; show w4.heap.size ≤ g6; omega)) _
            clear hw8 fz R7 B7 f47 cy F7
            go_upto_region 25 with fail
            obtain ⟨w9, hw9⟩ : ∃ w9, w8.setCell ⟨g6, jj, none⟩ (.int .u8 (y0.toNat : Int)) = w9 := ⟨_, rfl⟩
            rw [hw9] at B9 R9 f49 ⊢
            have F9 := F4.trans_nil f49
            have hbs : (bvs b).set jj (.int .u8 (y0.toNat : Int)) = bvs (b.set jj y0) := by rw [bvs, bvs, List.map_set]; rfl
            have hl9 : (b.set jj y0).length = 512 := by rw [List.length_set, H5.out]
            rw [hbs] at B9
            have hne : b.set jj y0 ≠ b := fun e => HYN.out (by
              have h1 := HX0.out
              rw [← e, List.getD_eq_getElem?_getD, List.getElem?_set_self (by rw [H5.out]; exact hj5)] at h1
              exact h1)
            obtain ⟨b9, hb9⟩ : ∃ b9, b.set jj y0 = b9 := ⟨_, rfl⟩
            rw [hb9] at B9 hl9 hne
            have D9 : BRd w9 (some ⟨g5, 0, none⟩) (vs1.set kk (.slice (some ⟨g6, 0, none⟩) 512 c6)) (bs.set kk b9) := by
              refine ⟨R9.rd.1, by rw [List.length_set, List.length_set, HVL.out, HLEN.out], fun i h1 h2 => ?_⟩
              rw [List.length_set] at h1 h2
              by_cases e : kk = i
              · subst e
                rw [List.getElem_set_self]
                have e2 : (bs.set kk b9)[kk]'(by rw [List.length_set]; exact h2) = b9 := List.getElem_set_self _
                rw [e2]
                exact Row.slb (B := w5.heap.size) (by rw [hl9]; exact B9)
              · rw [List.getElem_set_ne e]
                have e2 : (bs.set kk b9)[i]'(by rw [List.length_set]; exact h2) = bs[i] := List.getElem_set_ne e _
                rw [e2]
                exact (D1.keep_nil f49).each i h1 h2
            have hlast : kk = n + 1 → trV m (bs.set kk b9) = none := fun e => by
              have h := HT3.out b9 (by
                rw [← e]
                have : bs.getD kk [] = b := by rw [List.getD_eq_getElem?_getD, List.getElem?_eq_getElem KK.out.2, HB.out]; rfl
                rw [this]
                exact hne)
              rw [← e] at h
              exact h
            have HL9 := Lib.hid (show (bs.set kk b9).length = M by rw [List.length_set, HLEN.out])
            have HLAST := Lib.hid hlast
            clear hw9 hbs hl9 hne hb9 R9 B9 D1 f49 hlast XV cx zx DV1 DV2 UJ UR
            have pp := rcParse_any w9 (some ⟨g5, 0, none⟩) m M c5 _ (bs.set kk b9) hm HL9.out D9 (fun h => by cases h) hc5 (by omega) (hK.keep F9)
            cases hT : trV m (bs.set kk b9) with
            | none =>
              have HTT := Lib.hid hT
              clear hT
              go_wp2_with fail
              refine pp.mono ?_
              intro e w10 hE
              obtain ⟨v10, rfl, ⟨A10, c10, rfl⟩, f10⟩ := TrC.of_none HTT.out hE
              clear hE pp D9
              go_wp2_with fail
              go_ret
              exact ⟨rfl, F9.trans_nil f10⟩
            | some r10 =>
              have HTT := Lib.hid hT
              have hk1 : kk < n + 1 := by
                have hMn := HM.out
                by_cases e : kk = n + 1
                · have := HLAST.out e; rw [this] at hT; cases hT
                · omega
              have hMn := HM.out
              have KL : (kk : Int) < (M : Int) - 1 := by omega
              clear hT hMn
              go_wp2_with fail
              refine pp.mono ?_
              intro e w10 hE
              obtain ⟨v10, ps10, rfl, r10', f10⟩ := TrC.of_some HTT.out hE
              clear hE pp D9
              go_wp2_with fail
              go_ret
              exact ⟨rfl, F9.trans_nil f10⟩
          · obtain ⟨nn, rfl⟩ : ∃ nn : Nat, s = nn := ⟨s.toNat, by omega⟩
            have hn5 : nn < 4096 := by omega
            have hkvs : kk < vs1.length := by rw [D1.len, HLEN.out]; omega
            have hkbs : kk < bs.length := by rw [HLEN.out]; omega
            have KK := Lib.hid (And.intro hkvs hkbs)
            have b5 : (bs[kk]'KK.out.2).length = 512 := H512.out _ (List.getElem_mem KK.out.2)
            clear hkvs hkbs
            go_upto_region 23 with (at_builtin; refine wpList_app rfl rfl slBB w4.heap.size (.slice (some ⟨w4.heap.size, 0, none⟩) 0 0) 0 [] rfl (Row.new w4 #[] 28 1 0 (0, 0) (free_zero _) (by unfold maxLen; omega) rfl (Nat.le_refl _)) A1 M c1 vs1 rfl (by rw [HVL.out, Nat.mul_one]) D1e.rd D1.ones m1 (by omega) (by simp) ?_; intro v5 w5 q1 q2 q3 q4)
            have f45 : Fr [] w4 w5 := fe.trans q2 (fun i hi => .inr (by rw [own_mem.1 hi]; exact Nat.le_refl _))
            have R5 := q1
            rw [Nat.zero_add, List.nil_append] at R5
            obtain ⟨g5, c5, rfl⟩ := rowhd R5 (by omega)
            have hc5 : M ≤ c5 := by obtain ⟨A', c', e', hh, -⟩ := R5.shape; cases e'; exact hh
            have D5 := D1.keep_nil f45
            obtain ⟨g, o, rfl, hc⟩ := D5.rd (by intro h; have := KK.out.1; rw [h] at this; simp at this)
            obtain ⟨Ab, cb, e1, rd1, n1, l1⟩ := D5.each kk KK.out.1 KK.out.2
            have ca := hc kk _ (List.getElem?_eq_getElem KK.out.1)
            have hu : vs1[kk]? = some (vs1[kk]'KK.out.1) := List.getElem?_eq_getElem KK.out.1
            rw [e1, b5] at ca hu
            rw [b5] at n1 l1
            obtain ⟨b, hb⟩ : ∃ b, bs[kk]'KK.out.2 = b := ⟨_, rfl⟩
            rw [hb] at b5 rd1
            have fe5 : Fr [] w5 (w5.alloc (.cells #[] 5)) := (Fr.refl _ _).alloc _
            have ca5 := fe5.cell (by simp) ca
            have HB := Lib.hid hb
            have H5 := Lib.hid b5
            have HU := Lib.hid hu
            clear q1 q2 q3 q4 hc e1 hu b5 hb D5
            go_upto_region 24 with (at_builtin; refine wpList_app rfl rfl slB w5.heap.size (.slice (some ⟨w5.heap.size, 0, none⟩) 0 0) 0 [] rfl (Row.new w5 #[] 5 1 0 (0, 0) (free_zero _) (by unfold maxLen; omega) rfl (Nat.le_refl _)) Ab 512 cb (bvs b) rfl (by rw [bvs_length, H5.out]) (rd1.keep_nil fe5) (bvs_one _) n1 (by omega) (by simp) ?_; intro v6 w6 q1 q2 q3 q4; have f56 : Fr [] w5 w6 := fe5.trans q2 (fun i hi => .inr (by rw [own_mem.1 hi]; exact Nat.le_refl _)); have R6 := R5.keep_nil f56; have x6 := (rowsetk R6 kk hkM .nilFunc).1; have y6 := (rowsetk R6 kk hkM .nilFunc).2.1; rw [HU.out] at x6; rw [Nat.zero_add, List.nil_append] at q1; obtain ⟨g6, c6, rfl⟩ := rowhd q1 (by omega))
            have g56 : g5 < w5.heap.size := (R5.lt g5 rfl).2
            have g6b : w5.heap.size ≤ g6 := (q1.lt g6 rfl).1
            have R7 := (rowsetk R6 kk hkM (.slice (some ⟨g6, 0, none⟩) 512 c6)).2.2
            have B7 : Row (w6.setCell ⟨g5, kk, none⟩ (.slice (some ⟨g6, 0, none⟩) 512 c6)) w5.heap.size 5 1 (.slice (some ⟨g6, 0, none⟩) 512 c6) 512 (bvs b) := q1.keep ((Fr.refl [g5] w6).setCell (.inl (by simp)) _) (fun g' hg hm => by rw [List.mem_singleton.1 hm] at hg; have := own_mem.1 (mem_own.2 hg); omega)
            have f47 : Fr [] w4 (w6.setCell ⟨g5, kk, none⟩ (.slice (some ⟨g6, 0, none⟩) 512 c6)) := (f45.trans_nil f56).setCell (.inr (R5.lt g5 rfl).1) _
            obtain ⟨w7, hw7⟩ : ∃ w7, w6.setCell ⟨g5, kk, none⟩ (.slice (some ⟨g6, 0, none⟩) 512 c6) = w7 := ⟨_, rfl⟩
            rw [hw7] at R7 B7 f47 ⊢
            have F7 := F4.trans_nil f47
            obtain ⟨jj, hjj⟩ : ∃ jj, nn / 8 = jj := ⟨_, rfl⟩
            obtain ⟨rr, hrr⟩ : ∃ rr, nn % 8 = rr := ⟨_, rfl⟩
            have hj5 : jj < 512 := by omega
            have hr8 : rr < 8 := by omega
            have DV1 : (nn : Int).tdiv 8 = jj := by rw [← hjj]; exact (Int.ofNat_tdiv _ _).symm
            have DV2 : (nn : Int).tmod 8 = rr := by rw [← hrr]; exact (Int.ofNat_tmod _ _).symm
            have hjb : jj < b.length := by rw [H5.out]; exact hj5
            obtain ⟨x0, hx0⟩ : ∃ x0, b.getD jj 0 = x0 := ⟨_, rfl⟩
            have cy := (rowsetk R7 kk hkM .nilFunc).1
            rw [List.getElem?_set_self (by rw [HVL.out]; exact hkM)] at cy
            have cx := (rowsetk B7 jj hj5 .nilFunc).1
            have zx := (rowsetk B7 jj hj5 .nilFunc).2.1
            have hbx : (bvs b)[jj]? = some (.int .u8 (x0.toNat : Int)) := by rw [bvs, List.getElem?_map, List.getElem?_eq_getElem hjb, ← hx0, List.getD_eq_getElem?_getD, List.getElem?_eq_getElem hjb]; rfl
            rw [hbx] at cx
            have HX0 := Lib.hid hx0
            have HBX := Lib.hid hbx
            have UJ : IntKind.i64.wrap (jj : Int) = jj := IntWalk.i64_in _ (by omega)
            have KJ : (jj : Int) < 512 := by omega
            have UR : IntKind.i64.wrap (rr : Int) = rr := IntWalk.i64_in _ (by omega)
            have HJB := Lib.hid hjb
            clear q1 q2 q3 q4 R6 x6 y6 f45 f56 R5 hjj hrr hbx hx0 hjb ca ca5 fe5 rd1 n1 l1 fe D1e hw7
            have XV := xor_bit x0 rr hr8
            obtain ⟨y0, hy0⟩ : ∃ y0, x0 ^^^ UInt8.ofNat (2 ^ rr) = y0 := ⟨_, rfl⟩
            have hyne : y0 ≠ x0 := by rw [← hy0]; exact flip_ne x0 rr hr8
            rw [hy0] at XV
            have HYN := Lib.hid hyne
            clear hy0 hyne
            go_still_tail 19, (by kernel_rfl)
            have fz := (Fr.refl [] w7).drew
            obtain ⟨w8, hw8⟩ : ∃ w8, w7.drew = w8 := ⟨_, rfl⟩
            change wpList _ _ _ _ _ (World.drew w7)
            rw [hw8] at fz ⊢
            replace R7 := R7.keep_nil fz
            replace B7 := B7.keep_nil fz
            replace f47 := f47.trans_nil fz
            replace cx := (rowsetk B7 jj hj5 .nilFunc).1
            replace zx := (rowsetk B7 jj hj5 .nilFunc).2.1
            rw [HBX.out] at cx
            have B9 := (rowsetk B7 jj hj5 (.int .u8 (y0.toNat : Int))).2.2
            have R9 : Row (w8.setCell ⟨g6, jj, none⟩ (.int .u8 (y0.toNat : Int))) w4.heap.size 28 1 (.slice (some ⟨g5, 0, none⟩) M c5) M (vs1.set kk (.slice (some ⟨g6, 0, none⟩) 512 c6)) := R7.keep ((Fr.refl [g6] w8).setCell (.inl (by simp)) _) (fun g' hg hm => by rw [List.mem_singleton.1 hm] at hg; have := own_mem.1 (mem_own.2 hg); omega)
            have f49 : Fr [] w4 (w8.setCell ⟨g6, jj, none⟩ (.int .u8 (y0.toNat : Int))) := f47.setCell (.inr (by have := (R7.lt g5 rfl).1; show w4.heap.size ≤ g6; omega)) _
            clear hw8 fz R7 B7 f47 cy F7
            go_upto_region 25 with fail
            obtain ⟨w9, hw9⟩ : ∃ w9, w8.setCell ⟨g6, jj, none⟩ (.int .u8 (y0.toNat : Int)) = w9 := ⟨_, rfl⟩
            rw [hw9] at B9 R9 f49 ⊢
            have F9 := F4.trans_nil f49
            have hbs : (bvs b).set jj (.int .u8 (y0.toNat : Int)) = bvs (b.set jj y0) := by rw [bvs, bvs, List.map_set]; rfl
            have hl9 : (b.set jj y0).length = 512 := by rw [List.length_set, H5.out]
            rw [hbs] at B9
            have hne : b.set jj y0 ≠ b := fun e => HYN.out (by
              have h1 := HX0.out
              rw [← e, List.getD_eq_getElem?_getD, List.getElem?_set_self (by rw [H5.out]; exact hj5)] at h1
              exact h1)
            obtain ⟨b9, hb9⟩ : ∃ b9, b.set jj y0 = b9 := ⟨_, rfl⟩
            rw [hb9] at B9 hl9 hne
            have D9 : BRd w9 (some ⟨g5, 0, none⟩) (vs1.set kk (.slice (some ⟨g6, 0, none⟩) 512 c6)) (bs.set kk b9) := by
              refine ⟨R9.rd.1, by rw [List.length_set, List.length_set, HVL.out, HLEN.out], fun i h1 h2 => ?_⟩
              rw [List.length_set] at h1 h2
              by_cases e : kk = i
              · subst e
                rw [List.getElem_set_self]
                have e2 : (bs.set kk b9)[kk]'(by rw [List.length_set]; exact h2) = b9 := List.getElem_set_self _
                rw [e2]
                exact Row.slb (B := w5.heap.size) (by rw [hl9]; exact B9)
              · rw [List.getElem_set_ne e]
                have e2 : (bs.set kk b9)[i]'(by rw [List.length_set]; exact h2) = bs[i] := List.getElem_set_ne e _
                rw [e2]
                exact (D1.keep_nil f49).each i h1 h2
            have hlast : kk = n + 1 → trV m (bs.set kk b9) = none := fun e => by
              have h := HT3.out b9 (by
                rw [← e]
                have : bs.getD kk [] = b := by rw [List.getD_eq_getElem?_getD, List.getElem?_eq_getElem KK.out.2, HB.out]; rfl
                rw [this]
                exact hne)
              rw [← e] at h
              exact h
            have HL9 := Lib.hid (show (bs.set kk b9).length = M by rw [List.length_set, HLEN.out])
            have HLAST := Lib.hid hlast
            clear hw9 hbs hl9 hne hb9 R9 B9 D1 f49 hlast XV cx zx DV1 DV2 UJ UR
            have pp := rcParse_any w9 (some ⟨g5, 0, none⟩) m M c5 _ (bs.set kk b9) hm HL9.out D9 (fun h => by cases h) hc5 (by omega) (hK.keep F9)
            cases hT : trV m (bs.set kk b9) with
            | none =>
              have HTT := Lib.hid hT
              clear hT
              go_wp2_with fail
              refine pp.mono ?_
              intro e w10 hE
              obtain ⟨v10, rfl, ⟨A10, c10, rfl⟩, f10⟩ := TrC.of_none HTT.out hE
              clear hE pp D9
              go_wp2_with fail
              go_ret
              exact ⟨rfl, F9.trans_nil f10⟩
            | some r10 =>
              have HTT := Lib.hid hT
              have hk1 : kk < n + 1 := by
                have hMn := HM.out
                by_cases e : kk = n + 1
                · have := HLAST.out e; rw [this] at hT; cases hT
                · omega
              have hMn := HM.out
              have KL : (kk : Int) < (M : Int) - 1 := by omega
              clear hT hMn
              go_wp2_with fail
              refine pp.mono ?_
              intro e w10 hE
              obtain ⟨v10, ps10, rfl, r10', f10⟩ := TrC.of_some HTT.out hE
              clear hE pp D9
              go_wp2_with fail
              go_ret
              exact ⟨rfl, F9.trans_nil f10⟩
        · obtain ⟨kk, rfl⟩ : ∃ kk : Nat, t = kk := ⟨t.toNat, by omega⟩
          have hkM : kk < M := by omega
          by_cases h2 : s < 0
          · obtain ⟨nn, hnn⟩ : ∃ nn : Nat, s + 4096 = nn := ⟨(s + 4096).toNat, by omega⟩
            have hn5 : nn < 4096 := by omega
            have hkvs : kk < vs1.length := by rw [D1.len, HLEN.out]; omega
            have hkbs : kk < bs.length := by rw [HLEN.out]; omega
            have KK := Lib.hid (And.intro hkvs hkbs)
            have b5 : (bs[kk]'KK.out.2).length = 512 := H512.out _ (List.getElem_mem KK.out.2)
            clear hkvs hkbs
            go_upto_region 23 with (at_builtin; refine wpList_app rfl rfl slBB w4.heap.size (.slice (some ⟨w4.heap.size, 0, none⟩) 0 0) 0 [] rfl (Row.new w4 #[] 28 1 0 (0, 0) (free_zero _) (by unfold maxLen; omega) rfl (Nat.le_refl _)) A1 M c1 vs1 rfl (by rw [HVL.out, Nat.mul_one]) D1e.rd D1.ones m1 (by omega) (by simp) ?_; intro v5 w5 q1 q2 q3 q4)
            have f45 : Fr [] w4 w5 := fe.trans q2 (fun i hi => .inr (by rw [own_mem.1 hi]; exact Nat.le_refl _))
            have R5 := q1
            rw [Nat.zero_add, List.nil_append] at R5
            obtain ⟨g5, c5, rfl⟩ := rowhd R5 (by omega)
            have hc5 : M ≤ c5 := by obtain ⟨A', c', e', hh, -⟩ := R5.shape; cases e'; exact hh
            have D5 := D1.keep_nil f45
            obtain ⟨g, o, rfl, hc⟩ := D5.rd (by intro h; have := KK.out.1; rw [h] at this; simp at this)
            obtain ⟨Ab, cb, e1, rd1, n1, l1⟩ := D5.each kk KK.out.1 KK.out.2
            have ca := hc kk _ (List.getElem?_eq_getElem KK.out.1)
            have hu : vs1[kk]? = some (vs1[kk]'KK.out.1) := List.getElem?_eq_getElem KK.out.1
            rw [e1, b5] at ca hu
            rw [b5] at n1 l1
            obtain ⟨b, hb⟩ : ∃ b, bs[kk]'KK.out.2 = b := ⟨_, rfl⟩
            rw [hb] at b5 rd1
            have fe5 : Fr [] w5 (w5.alloc (.cells #[] 5)) := (Fr.refl _ _).alloc _
            have ca5 := fe5.cell (by simp) ca
            have HB := Lib.hid hb
            have H5 := Lib.hid b5
            have HU := Lib.hid hu
            clear q1 q2 q3 q4 hc e1 hu b5 hb D5
            go_upto_region 24 with (at_builtin; refine wpList_app rfl rfl slB w5.heap.size (.slice (some ⟨w5.heap.size, 0, none⟩) 0 0) 0 [] rfl (Row.new w5 #[] 5 1 0 (0, 0) (free_zero _) (by unfold maxLen; omega) rfl (Nat.le_refl _)) Ab 512 cb (bvs b) rfl (by rw [bvs_length, H5.out]) (rd1.keep_nil fe5) (bvs_one _) n1 (by omega) (by simp) ?_; intro v6 w6 q1 q2 q3 q4; have f56 : Fr [] w5 w6 := fe5.trans q2 (fun i hi => .inr (by rw [own_mem.1 hi]; exact Nat.le_refl _)); have R6 := R5.keep_nil f56; have x6 := (rowsetk R6 kk hkM .nilFunc).1; have y6 := (rowsetk R6 kk hkM .nilFunc).2.1; rw [HU.out] at x6; rw [Nat.zero_add, List.nil_append] at q1; obtain ⟨g6, c6, rfl⟩ := rowhd q1 (by omega))
            have g56 : g5 < w5.heap.size := (R5.lt g5 rfl).2
            have g6b : w5.heap.size ≤ g6 := (q1.lt g6 rfl).1
            have R7 := (rowsetk R6 kk hkM (.slice (some ⟨g6, 0, none⟩) 512 c6)).2.2
            have B7 : Row (w6.setCell ⟨g5, kk, none⟩ (.slice (some ⟨g6, 0, none⟩) 512 c6)) w5.heap.size 5 1 (.slice (some ⟨g6, 0, none⟩) 512 c6) 512 (bvs b) := q1.keep ((Fr.refl [g5] w6).setCell (.inl (by simp)) _) (fun g' hg hm => by rw [List.mem_singleton.1 hm] at hg; have := own_mem.1 (mem_own.2 hg); omega)
            have f47 : Fr [] w4 (w6.setCell ⟨g5, kk, none⟩ (.slice (some ⟨g6, 0, none⟩) 512 c6)) := (f45.trans_nil f56).setCell (.inr (R5.lt g5 rfl).1) _
            obtain ⟨w7, hw7⟩ : ∃ w7, w6.setCell ⟨g5, kk, none⟩ (.slice (some ⟨g6, 0, none⟩) 512 c6) = w7 := ⟨_, rfl⟩
            rw [hw7] at R7 B7 f47 ⊢
            have F7 := F4.trans_nil f47
            obtain ⟨jj, hjj⟩ : ∃ jj, nn / 8 = jj := ⟨_, rfl⟩
            obtain ⟨rr, hrr⟩ : ∃ rr, nn % 8 = rr := ⟨_, rfl⟩
            have hj5 : jj < 512 := by omega
            have hr8 : rr < 8 := by omega
            have DV1 : (nn : Int).tdiv 8 = jj := by rw [← hjj]; exact (Int.ofNat_tdiv _ _).symm
            have DV2 : (nn : Int).tmod 8 = rr := by rw [← hrr]; exact (Int.ofNat_tmod _ _).symm
            have hjb : jj < b.length := by rw [H5.out]; exact hj5
            obtain ⟨x0, hx0⟩ : ∃ x0, b.getD jj 0 = x0 := ⟨_, rfl⟩
            have cy := (rowsetk R7 kk hkM .nilFunc).1
            rw [List.getElem?_set_self (by rw [HVL.out]; exact hkM)] at cy
            have cx := (rowsetk B7 jj hj5 .nilFunc).1
            have zx := (rowsetk B7 jj hj5 .nilFunc).2.1
            have hbx : (bvs b)[jj]? = some (.int .u8 (x0.toNat : Int)) := by rw [bvs, List.getElem?_map, List.getElem?_eq_getElem hjb, ← hx0, List.getD_eq_getElem?_getD, List.getElem?_eq_getElem hjb]; rfl
            rw [hbx] at cx
            have HX0 := Lib.hid hx0
            have HBX := Lib.hid hbx
            have UJ : IntKind.i64.wrap (jj : Int) = jj := IntWalk.i64_in _ (by omega)
            have KJ : (jj : Int) < 512 := by omega
            have UR : IntKind.i64.wrap (rr : Int) = rr := IntWalk.i64_in _ (by omega)
            have HJB := Lib.hid hjb
            clear q1 q2 q3 q4 R6 x6 y6 f45 f56 R5 hjj hrr hbx hx0 hjb ca ca5 fe5 rd1 n1 l1 fe D1e hw7
            have XV := xor_bit x0 rr hr8
            obtain ⟨y0, hy0⟩ : ∃ y0, x0 ^^^ UInt8.ofNat (2 ^ rr) = y0 := ⟨_, rfl⟩
            have hyne : y0 ≠ x0 := by rw [← hy0]; exact flip_ne x0 rr hr8
            rw [hy0] at XV
            have HYN := Lib.hid hyne
            clear hy0 hyne
            go_still_tail 19, (by kernel_rfl)
            have fz := (Fr.refl [] w7).drew
            obtain ⟨w8, hw8⟩ : ∃ w8, w7.drew = w8 := ⟨_, rfl⟩
            change wpList _ _ _ _ _ (World.drew w7)
            rw [hw8] at fz ⊢
            replace R7 := R7.keep_nil fz
            replace B7 := B7.keep_nil fz
            replace f47 := f47.trans_nil fz
            replace cx := (rowsetk B7 jj hj5 .nilFunc).1
            replace zx := (rowsetk B7 jj hj5 .nilFunc).2.1
            rw [HBX.out] at cx
            have B9 := (rowsetk B7 jj hj5 (.int .u8 (y0.toNat : Int))).2.2
            have R9 : Row (w8.setCell ⟨g6, jj, none⟩ (.int .u8 (y0.toNat : Int))) w4.heap.size 28 1 (.slice (some ⟨g5, 0, none⟩) M c5) M (vs1.set kk (.slice (some ⟨g6, 0, none⟩) 512 c6)) := R7.keep ((Fr.refl [g6] w8).setCell (.inl (by simp)) _) (fun g' hg hm => by rw [List.mem_singleton.1 hm] at hg; have := own_mem.1 (mem_own.2 hg); omega)
            have f49 : Fr [] w4 (w8.setCell ⟨g6, jj, none⟩ (.int .u8 (y0.toNat : Int))) := f47.setCell (.inr (by have := (R7.lt g5 rfl).1; show w4.heap.size ≤ g6; omega)) _
            clear hw8 fz R7 B7 f47 cy F7
            go_upto_region 25 with fail
            obtain ⟨w9, hw9⟩ : ∃ w9, w8.setCell ⟨g6, jj, none⟩ (.int .u8 (y0.toNat : Int)) = w9 := ⟨_, rfl⟩
            rw [hw9] at B9 R9 f49 ⊢
            have F9 := F4.trans_nil f49
            have hbs : (bvs b).set jj (.int .u8 (y0.toNat : Int)) = bvs (b.set jj y0) := by rw [bvs, bvs, List.map_set]; rfl
            have hl9 : (b.set jj y0).length = 512 := by rw [List.length_set, H5.out]
            rw [hbs] at B9
            have hne : b.set jj y0 ≠ b := fun e => HYN.out (by
              have h1 := HX0.out
              rw [← e, List.getD_eq_getElem?_getD, List.getElem?_set_self (by rw [H5.out]; exact hj5)] at h1
              exact h1)
            obtain ⟨b9, hb9⟩ : ∃ b9, b.set jj y0 = b9 := ⟨_, rfl⟩
            rw [hb9] at B9 hl9 hne
            have D9 : BRd w9 (some ⟨g5, 0, none⟩) (vs1.set kk (.slice (some ⟨g6, 0, none⟩) 512 c6)) (bs.set kk b9) := by
              refine ⟨R9.rd.1, by rw [List.length_set, List.length_set, HVL.out, HLEN.out], fun i h1 h2 => ?_⟩
              rw [List.length_set] at h1 h2
              by_cases e : kk = i
              · subst e
                rw [List.getElem_set_self]
                have e2 : (bs.set kk b9)[kk]'(by rw [List.length_set]; exact h2) = b9 := List.getElem_set_self _
                rw [e2]
                exact Row.slb (B := w5.heap.size) (by rw [hl9]; exact B9)
              · rw [List.getElem_set_ne e]
                have e2 : (bs.set kk b9)[i]'(by rw [List.length_set]; exact h2) = bs[i] := List.getElem_set_ne e _
                rw [e2]
                exact (D1.keep_nil f49).each i h1 h2
            have hlast : kk = n + 1 → trV m (bs.set kk b9) = none := fun e => by
              have h := HT3.out b9 (by
                rw [← e]
                have : bs.getD kk [] = b := by rw [List.getD_eq_getElem?_getD, List.getElem?_eq_getElem KK.out.2, HB.out]; rfl
                rw [this]
                exact hne)
              rw [← e] at h
              exact h
            have HL9 := Lib.hid (show (bs.set kk b9).length = M by rw [List.length_set, HLEN.out])
            have HLAST := Lib.hid hlast
            clear hw9 hbs hl9 hne hb9 R9 B9 D1 f49 hlast XV cx zx DV1 DV2 UJ UR
            have pp := rcParse_any w9 (some ⟨g5, 0, none⟩) m M c5 _ (bs.set kk b9) hm HL9.out D9 (fun h => by cases h) hc5 (by omega) (hK.keep F9)
            cases hT : trV m (bs.set kk b9) with
            | none =>
              have HTT := Lib.hid hT
              clear hT
              go_wp2_with fail
              refine pp.mono ?_
              intro e w10 hE
              obtain ⟨v10, rfl, ⟨A10, c10, rfl⟩, f10⟩ := TrC.of_none HTT.out hE
              clear hE pp D9
              go_wp2_with fail
              go_ret
              exact ⟨rfl, F9.trans_nil f10⟩
            | some r10 =>
              have HTT := Lib.hid hT
              have hk1 : kk < n + 1 := by
                have hMn := HM.out
                by_cases e : kk = n + 1
                · have := HLAST.out e; rw [this] at hT; cases hT
                · omega
              have hMn := HM.out
              have KL : (kk : Int) < (M : Int) - 1 := by omega
              clear hT hMn
              go_wp2_with fail
              refine pp.mono ?_
              intro e w10 hE
              obtain ⟨v10, ps10, rfl, r10', f10⟩ := TrC.of_some HTT.out hE
              clear hE pp D9
              go_wp2_with fail
              go_ret
              exact ⟨rfl, F9.trans_nil f10⟩
          · obtain ⟨nn, rfl⟩ : ∃ nn : Nat, s = nn := ⟨s.toNat, by omega⟩
            have hn5 : nn < 4096 := by omega
            have hkvs : kk < vs1.length := by rw [D1.len, HLEN.out]; omega
            have hkbs : kk < bs.length := by rw [HLEN.out]; omega
            have KK := Lib.hid (And.intro hkvs hkbs)
            have b5 : (bs[kk]'KK.out.2).length = 512 := H512.out _ (List.getElem_mem KK.out.2)
            clear hkvs hkbs
            go_upto_region 23 with (at_builtin; refine wpList_app rfl rfl slBB w4.heap.size (.slice (some ⟨w4.heap.size, 0, none⟩) 0 0) 0 [] rfl (Row.new w4 #[] 28 1 0 (0, 0) (free_zero _) (by unfold maxLen; omega) rfl (Nat.le_refl _)) A1 M c1 vs1 rfl (by rw [HVL.out, Nat.mul_one]) D1e.rd D1.ones m1 (by omega) (by simp) ?_; intro v5 w5 q1 q2 q3 q4)
            have f45 : Fr [] w4 w5 := fe.trans q2 (fun i hi => .inr (by rw [own_mem.1 hi]; exact Nat.le_refl _))
            have R5 := q1
            rw [Nat.zero_add, List.nil_append] at R5
            obtain ⟨g5, c5, rfl⟩ := rowhd R5 (by omega)
            have hc5 : M ≤ c5 := by obtain ⟨A', c', e', hh, -⟩ := R5.shape; cases e'; exact hh
            have D5 := D1.keep_nil f45
            obtain ⟨g, o, rfl, hc⟩ := D5.rd (by intro h; have := KK.out.1; rw [h] at this; simp at this)
            obtain ⟨Ab, cb, e1, rd1, n1, l1⟩ := D5.each kk KK.out.1 KK.out.2
            have ca := hc kk _ (List.getElem?_eq_getElem KK.out.1)
            have hu : vs1[kk]? = some (vs1[kk]'KK.out.1) := List.getElem?_eq_getElem KK.out.1
            rw [e1, b5] at ca hu
            rw [b5] at n1 l1
            obtain ⟨b, hb⟩ : ∃ b, bs[kk]'KK.out.2 = b := ⟨_, rfl⟩
            rw [hb] at b5 rd1
            have fe5 : Fr [] w5 (w5.alloc (.cells #[] 5)) := (Fr.refl _ _).alloc _
            have ca5 := fe5.cell (by simp) ca
            have HB := Lib.hid hb
            have H5 := Lib.hid b5
            have HU := Lib.hid hu
            clear q1 q2 q3 q4 hc e1 hu b5 hb D5
            go_upto_region 24 with (at_builtin; refine wpList_app rfl rfl slB w5.heap.size (.slice (some ⟨w5.heap.size, 0, none⟩) 0 0) 0 [] rfl (Row.new w5 #[] 5 1 0 (0, 0) (free_zero _) (by unfold maxLen; omega) rfl (Nat.le_refl _)) Ab 512 cb (bvs b) rfl (by rw [bvs_length, H5.out]) (rd1.keep_nil fe5) (bvs_one _) n1 (by omega) (by simp) ?_; intro v6 w6 q1 q2 q3 q4; have f56 : Fr [] w5 w6 := fe5.trans q2 (fun i hi => .inr (by rw [own_mem.1 hi]; exact Nat.le_refl _)); have R6 := R5.keep_nil f56; have x6 := (rowsetk R6 kk hkM .nilFunc).1; have y6 := (rowsetk R6 kk hkM .nilFunc).2.1; rw [HU.out] at x6; rw [Nat.zero_add, List.nil_append] at q1; obtain ⟨g6, c6, rfl⟩ := rowhd q1 (by omega))
            have g56 : g5 < w5.heap.size := (R5.lt g5 rfl).2
            have g6b : w5.heap.size ≤ g6 := (q1.lt g6 rfl).1
            have R7 := (rowsetk R6 kk hkM (.slice (some ⟨g6, 0, none⟩) 512 c6)).2.2
            have B7 : Row (w6.setCell ⟨g5, kk, none⟩ (.slice (some ⟨g6, 0, none⟩) 512 c6)) w5.heap.size 5 1 (.slice (some ⟨g6, 0, none⟩) 512 c6) 512 (bvs b) := q1.keep ((Fr.refl [g5] w6).setCell (.inl (by simp)) _) (fun g' hg hm => by rw [List.mem_singleton.1 hm] at hg; have := own_mem.1 (mem_own.2 hg); omega)
            have f47 : Fr [] w4 (w6.setCell ⟨g5, kk, none⟩ (.slice (some ⟨g6, 0, none⟩) 512 c6)) := (f45.trans_nil f56).setCell (.inr (R5.lt g5 rfl).1) _
            obtain ⟨w7, hw7⟩ : ∃ w7, w6.setCell ⟨g5, kk, none⟩ (.slice (some ⟨g6, 0, none⟩) 512 c6) = w7 := ⟨_, rfl⟩
            rw [hw7] at R7 B7 f47 ⊢
            have F7 := F4.trans_nil f47
            obtain ⟨jj, hjj⟩ : ∃ jj, nn / 8 = jj := ⟨_, rfl⟩
            obtain ⟨rr, hrr⟩ : ∃ rr, nn % 8 = rr := ⟨_, rfl⟩
            have hj5 : jj < 512 := by omega
            have hr8 : rr < 8 := by omega
            have DV1 : (nn : Int).tdiv 8 = jj := by rw [← hjj]; exact (Int.ofNat_tdiv _ _).symm
            have DV2 : (nn : Int).tmod 8 = rr := by rw [← hrr]; exact (Int.ofNat_tmod _ _).symm
            have hjb : jj < b.length := by rw [H5.out]; exact hj5
            obtain ⟨x0, hx0⟩ : ∃ x0, b.getD jj 0 = x0 := ⟨_, rfl⟩
            have cy := (rowsetk R7 kk hkM .nilFunc).1
            rw [List.getElem?_set_self (by rw [HVL.out]; exact hkM)] at cy
            have cx := (rowsetk B7 jj hj5 .nilFunc).1
            have zx := (rowsetk B7 jj hj5 .nilFunc).2.1
            have hbx : (bvs b)[jj]? = some (.int .u8 (x0.toNat : Int)) := by rw [bvs, List.getElem?_map, List.getElem?_eq_getElem hjb, ← hx0, List.getD_eq_getElem?_getD, List.getElem?_eq_getElem hjb]; rfl
            rw [hbx] at cx
            have HX0 := Lib.hid hx0
            have HBX := Lib.hid hbx
            have UJ : IntKind.i64.wrap (jj : Int) = jj := IntWalk.i64_in _ (by omega)
            have KJ : (jj : Int) < 512 := by omega
            have UR : IntKind.i64.wrap (rr : Int) = rr := IntWalk.i64_in _ (by omega)
            have HJB := Lib.hid hjb
            clear q1 q2 q3 q4 R6 x6 y6 f45 f56 R5 hjj hrr hbx hx0 hjb ca ca5 fe5 rd1 n1 l1 fe D1e hw7
            have XV := xor_bit x0 rr hr8
            obtain ⟨y0, hy0⟩ : ∃ y0, x0 ^^^ UInt8.ofNat (2 ^ rr) = y0 := ⟨_, rfl⟩
            have hyne : y0 ≠ x0 := by rw [← hy0]; exact flip_ne x0 rr hr8
            rw [hy0] at XV
            have HYN := Lib.hid hyne
            clear hy0 hyne
            go_still_tail 19, (by kernel_rfl)
            have fz := (Fr.refl [] w7).drew
            obtain ⟨w8, hw8⟩ : ∃ w8, w7.drew = w8 := ⟨_, rfl⟩
            change wpList _ _ _ _ _ (World.drew w7)
            rw [hw8] at fz ⊢
            replace R7 := R7.keep_nil fz
            replace B7 := B7.keep_nil fz
            replace f47 := f47.trans_nil fz
            replace cx := (rowsetk B7 jj hj5 .nilFunc).1
            replace zx := (rowsetk B7 jj hj5 .nilFunc).2.1
            rw [HBX.out] at cx
            have B9 := (rowsetk B7 jj hj5 (.int .u8 (y0.toNat : Int))).2.2
            have R9 : Row (w8.setCell ⟨g6, jj, none⟩ (.int .u8 (y0.toNat : Int))) w4.heap.size 28 1 (.slice (some ⟨g5, 0, none⟩) M c5) M (vs1.set kk (.slice (some ⟨g6, 0, none⟩) 512 c6)) := R7.keep ((Fr.refl [g6] w8).setCell (.inl (by simp)) _) (fun g' hg hm => by rw [List.mem_singleton.1 hm] at hg; have := own_mem.1 (mem_own.2 hg); omega)
            have f49 : Fr [] w4 (w8.setCell ⟨g6, jj, none⟩ (.int .u8 (y0.toNat : Int))) := f47.setCell (.inr (by have := (R7.lt g5 rfl).1; show w4.heap.size ≤ g6; omega)) _
            clear hw8 fz R7 B7 f47 cy F7
            go_upto_region 25 with fail
            obtain ⟨w9, hw9⟩ : ∃ w9, w8.setCell ⟨g6, jj, none⟩ (.int .u8 (y0.toNat : Int)) = w9 := ⟨_, rfl⟩
            rw [hw9] at B9 R9 f49 ⊢
            have F9 := F4.trans_nil f49
            have hbs : (bvs b).set jj (.int .u8 (y0.toNat : Int)) = bvs (b.set jj y0) := by rw [bvs, bvs, List.map_set]; rfl
            have hl9 : (b.set jj y0).length = 512 := by rw [List.length_set, H5.out]
            rw [hbs] at B9
            have hne : b.set jj y0 ≠ b := fun e => HYN.out (by
              have h1 := HX0.out
              rw [← e, List.getD_eq_getElem?_getD, List.getElem?_set_self (by rw [H5.out]; exact hj5)] at h1
              exact h1)
            obtain ⟨b9, hb9⟩ : ∃ b9, b.set jj y0 = b9 := ⟨_, rfl⟩
            rw [hb9] at B9 hl9 hne
            have D9 : BRd w9 (some ⟨g5, 0, none⟩) (vs1.set kk (.slice (some ⟨g6, 0, none⟩) 512 c6)) (bs.set kk b9) := by
              refine ⟨R9.rd.1, by rw [List.length_set, List.length_set, HVL.out, HLEN.out], fun i h1 h2 => ?_⟩
              rw [List.length_set] at h1 h2
              by_cases e : kk = i
              · subst e
                rw [List.getElem_set_self]
                have e2 : (bs.set kk b9)[kk]'(by rw [List.length_set]; exact h2) = b9 := List.getElem_set_self _
                rw [e2]
                exact Row.slb (B := w5.heap.size) (by rw [hl9]; exact B9)
              · rw [List.getElem_set_ne e]
                have e2 : (bs.set kk b9)[i]'(by rw [List.length_set]; exact h2) = bs[i] := List.getElem_set_ne e _
                rw [e2]
                exact (D1.keep_nil f49).each i h1 h2
            have hlast : kk = n + 1 → trV m (bs.set kk b9) = none := fun e => by
              have h := HT3.out b9 (by
                rw [← e]
                have : bs.getD kk [] = b := by rw [List.getD_eq_getElem?_getD, List.getElem?_eq_getElem KK.out.2, HB.out]; rfl
                rw [this]
                exact hne)
              rw [← e] at h
              exact h
            have HL9 := Lib.hid (show (bs.set kk b9).length = M by rw [List.length_set, HLEN.out])
            have HLAST := Lib.hid hlast
            clear hw9 hbs hl9 hne hb9 R9 B9 D1 f49 hlast XV cx zx DV1 DV2 UJ UR
            have pp := rcParse_any w9 (some ⟨g5, 0, none⟩) m M c5 _ (bs.set kk b9) hm HL9.out D9 (fun h => by cases h) hc5 (by omega) (hK.keep F9)
            cases hT : trV m (bs.set kk b9) with
            | none =>
              have HTT := Lib.hid hT
              clear hT
              go_wp2_with fail
              refine pp.mono ?_
              intro e w10 hE
              obtain ⟨v10, rfl, ⟨A10, c10, rfl⟩, f10⟩ := TrC.of_none HTT.out hE
              clear hE pp D9
              go_wp2_with fail
              go_ret
              exact ⟨rfl, F9.trans_nil f10⟩
            | some r10 =>
              have HTT := Lib.hid hT
              have hk1 : kk < n + 1 := by
                have hMn := HM.out
                by_cases e : kk = n + 1
                · have := HLAST.out e; rw [this] at hT; cases hT
                · omega
              have hMn := HM.out
              have KL : (kk : Int) < (M : Int) - 1 := by omega
              clear hT hMn
              go_wp2_with fail
              refine pp.mono ?_
              intro e w10 hE
              obtain ⟨v10, ps10, rfl, r10', f10⟩ := TrC.of_some HTT.out hE
              clear hE pp D9
              go_wp2_with fail
              go_ret
              exact ⟨rfl, F9.trans_nil f10⟩
end Go.Proofs.YtlelgeigighecaaDoor
