/-
  Texts of this claim, one behind the other: RecQ, RecR, RecS, RecT, RecU, DkB.
-/
import Derived.Test.YtbanogfljpkbkaaGreatDoorF17
import Derived.IntWalk
import Derived.Test.YtbanogfljpkbkaaGreatDoorF6
set_option linter.unusedSimpArgs false
set_option linter.unusedVariables false
set_option linter.unnecessarySimpa false
namespace Go.Proofs.YtbanogfljpkbkaaGreatDoor
section
open Go.RowKit
theorem and_one (t k : Nat) (h : t < 18446744073709551616) : bits .and .u64 ((t : Int) / 2 ^ k) 1 = ((t / 2 ^ k % 2 : Nat) : Int) := by
 have e : (t : Int) / 2 ^ k = ((t / 2 ^ k : Nat) : Int) := by push_cast; rfl
 have h2 : t / 2 ^ k < 18446744073709551616 := Nat.lt_of_le_of_lt (Nat.div_le_self _ _) h
 rw [e, show (1 : Int) = ((1 : Nat) : Int) from rfl, bits_and_u64_nat _ 1 h2 (by omega), Nat.and_one_is_mod]
theorem all5_iff (bs : List (List UInt8)) : all5 bs = true ↔ ∀ b ∈ bs, b.length = 512 := by
 rw [all5, List.all_eq_true]
 simp
set_option maxRecDepth 100000 in
set_option maxHeartbeats 8000000 in
theorem rcParse_any (w : World) (A : Option Addr) (m n c : Nat) (vs : List Value) (bs : List (List UInt8)) (hm : m < 18446744073709551616) (hn : bs.length = n) (hr : BRd w A vs bs) (hA : A = none → n = 0) (hc : n ≤ c) (hn2 : n ≤ 140737488355328) (hK : KG w) :
  Calls Tryz.prog 119 #[.int .u64 m, .slice A n c] w (TrC w m bs) := by
 have HN := Lib.hid hn
 by_cases h0 : n = 0
 ·subst h0
  have hb : bs = [] := List.length_eq_zero_iff.1 hn
  subst hb
  clear hn
  go_enter Tryz.func119, Tryz.ntmps119
  have HV := Lib.hid (show trV m [] = none from (trV_none (plV_none fun h => by have := h.1; cases this)))
  go_wp2_with fail
  go_ret3
  exact TrC.no HV.out (Fr.refl _ _)
 ·have d0 : ((n : Int) == 0) = false := by rw [beq_eq_false_iff_ne]; omega
  have hv0 : vs.length = n := by rw [hr.len, hn]
  obtain ⟨b0, bs', hbs⟩ : ∃ b0 bs', bs = b0 :: bs' := by
   cases bs with
   | nil => simp at hn; omega
   | cons x r => exact ⟨x, r, rfl⟩
  obtain ⟨v0, vs', hvs⟩ : ∃ v0 vs', vs = v0 :: vs' := by
   cases vs with
   | nil => simp at hv0; omega
   | cons x r => exact ⟨x, r, rfl⟩
  obtain ⟨g, o, rfl, hcell⟩ := hr.rd (by rw [hvs]; simp)
  have c0 := hcell 0 v0 (by rw [hvs]; rfl)
  rw [Nat.add_zero] at c0
  have hs0 := hr.each 0 (by rw [hvs]; simp) (by rw [hbs]; simp)
  obtain ⟨A0, cap0, hv00, hr0, hn0, hc0⟩ := hs0
  have ev : vs[0]'(by rw [hvs]; simp) = v0 := by simp [hvs]
  have eb : bs[0]'(by rw [hbs]; simp) = b0 := by simp [hbs]
  rw [ev, eb] at hv00
  rw [eb] at hr0 hn0 hc0
  rw [hv00] at c0
  have HH := Lib.hid (show bs.headD [] = b0 by rw [hbs]; rfl)
  obtain ⟨l0, hl0⟩ : ∃ l0, b0.length = l0 := ⟨_, rfl⟩
  rw [hl0] at c0 hn0 hc0
  have cc := rcRead_any w A0 b0 l0 cap0 hl0 hr0 hn0
  have HL0 := Lib.hid hl0
  have hpos : (0 : Int) < n := by omega
  clear ev eb hv00 hr0 hn0 hl0 hbs hvs h0 hv0
  go_enter Tryz.func119, Tryz.ntmps119
  cases hp : plV b0 with
  | none =>
   have hV : trV m bs = none := trV_none (by rw [HH.out]; exact hp)
   have HV0 := Lib.hid hV
   go_wp2_with fail
   refine cc.mono ?_
   intro e w1 hE
   obtain ⟨v, rfl, r, f⟩ := PartC.of_none hp hE
   obtain ⟨A8, cap8, rfl, -, -, -, -, -⟩ := r.shape
   clear cc hE hV hp
   have HV := Lib.hid (show trV m bs = none from HV0.out)
   go_wp2_with fail
   go_ret3
   exact TrC.no HV.out f
  | some x =>
   obtain ⟨m', L, t⟩ := x
   obtain ⟨hl5, hL1, hL64, hm', ht, hLx⟩ := plV_b hp
   have HP := Lib.hid (show plV (bs.headD []) = some (m', L, t) by rw [HH.out]; exact hp)
   obtain ⟨N, hN⟩ : ∃ N, L.length = N := ⟨_, rfl⟩
   have HLN := Lib.hid hN
   rw [hN] at hL1 hL64
   go_wp2_with fail
   refine cc.mono ?_
   intro e w1 hE
   obtain ⟨v, rfl, r, f⟩ := PartC.of_some hp hE
   rw [hN] at r
   clear cc hE hp hN
   obtain ⟨A8, cap8, rfl, -, -, -, -, -⟩ := r.shape
   by_cases hmm : m' = m
   ·replace hmm := hmm.symm
    subst hmm
    by_cases hlast : n ≤ N + 1
    ·have K1 : (n : Int) ≤ N + 1 := by omega
     have HV := Lib.hid (show trV m bs = none from (trV_no HP.out fun h => by have := h.2.1; rw [HLN.out, HN.out] at this; omega))
     go_wp2_with fail
     go_ret3
     exact TrC.no HV.out f
    ·have K1 : ¬ ((n : Int) ≤ N + 1) := by omega
     have hlb : N + 1 < bs.length := by rw [HN.out]; omega
     have hlv : N + 1 < vs.length := by rw [hr.len]; exact hlb
     obtain ⟨Al, cl, hvl, rdl, nill, capl⟩ := hr.each (N + 1) hlv hlb
     have cell9 := hcell (N + 1) vs[N + 1] (List.getElem?_eq_getElem hlv)
     rw [hvl] at cell9
     obtain ⟨bl, hbl⟩ : ∃ bl, bs[N + 1] = bl := ⟨_, rfl⟩
     rw [hbl] at cell9 rdl nill capl
     obtain ⟨nl, hnl⟩ : ∃ nl, bl.length = nl := ⟨_, rfl⟩
     rw [hnl] at cell9 nill capl
     have HNL := Lib.hid hnl
     have HBL := Lib.hid (show bs.getD (N + 1) [] = bl by simp [hlb, hbl])
     clear hvl hbl hnl
     have KC : (N : Int) + 1 ≤ c := by omega
     have KZ : (0 : Int) ≤ (N : Int) + 1 := by omega
     have hrt := hr.take (N + 1)
     have hnt : (bs.take (N + 1)).length = N + 1 := by rw [List.length_take, HN.out]; omega
     have HNT := Lib.hid hnt
     clear hnt hcell
     go_upto_region 8 with fail
     have Fd := f.drew
     have Rd9 := r.keep_nil ((Fr.refl [] w1).drew)
     obtain ⟨w2, hw2⟩ : ∃ w2, w1.drew = w2 := ⟨_, rfl⟩
     rw [hw2] at Fd Rd9
     have hS : Fr [] w2 w2 := Fr.refl _ _
     refine wp_region_held_drew (S := fun w' => Fr [] w2 w') (by kernel_rfl) (by rw [hw2]; exact hS) (fun hHeld => ?_)
     rw [hw2] at hHeld ⊢
     clear hw2 r f hS
     have CL := Lib.hid (fun (w' : World) (hS : Fr [] w2 w') => ((Fd.trans_nil hS).cell (by simp) cell9 : w'.cell? ⟨g, o + (N + 1), none⟩ = some (.slice Al nl cl)))
     clear cell9
     refine tw 0 46 hHeld ?_
     refine tw 1 47 hHeld ?_
     refine tw 2 48 hHeld ?_
     refine tw 3 49 hHeld ?_
     have cc := containsBB_any (some ⟨g, o, none⟩) (vs.take (N + 1)) (bs.take (N + 1)) (N + 1) c w2 HNT.out (hrt.keep_nil Fd) (by omega)
     cases ha : all5 (bs.take (N + 1))
     ·rw [ha] at cc
      have HA := Lib.hid ha
      clear ha
      refine tc 4 (fun K hK => ?_)
      go_simp
      refine (cc).mono ?_
      rintro e w' ⟨rfl, rfl⟩
      refine hK.out _ _ hHeld (fun hHn => ?_)
      clear hHn
      clear hK K
      try simp only [Act.put, p1, p2, p3]
      refine tw 5 51 hHeld ?_
      refine tu 6 52 hHeld ?_
      refine tu 7 53 hHeld ?_
      refine tu 8 54 hHeld ?_
      refine tu 9 55 hHeld ?_
      refine tu 10 56 hHeld ?_
      refine tu 11 57 hHeld ?_
      refine tu 12 58 hHeld ?_
      refine tu 13 59 hHeld ?_
      refine tu 14 60 hHeld ?_
      refine tu 15 61 hHeld ?_
      refine tu 16 62 hHeld ?_
      refine tw 17 63 hHeld ?_
      refine wpAnyH_done (by kernel_rfl) ?_ _
      have HV := Lib.hid (show trV m bs = none from (trV_no HP.out fun h => by have h3 := (all5_iff _).2 h.2.2.1; rw [HLN.out, HA.out] at h3; cases h3))
      go_wp2_with fail
      go_ret3
      exact TrC.no HV.out (Fd.trans_nil hHeld)
     ·rw [ha] at cc
      have HA := Lib.hid ha
      clear ha
      refine tc 4 (fun K hK => ?_)
      go_simp
      refine (cc).mono ?_
      rintro e w' ⟨rfl, rfl⟩
      refine hK.out _ _ hHeld (fun hHn => ?_)
      clear hHn
      clear hK K
      try simp only [Act.put, p1, p2, p3]
      refine tw 5 51 hHeld ?_
      refine tw 6 52 hHeld ?_
      refine tw 7 53 hHeld ?_
      refine tw 8 54 hHeld ?_
      refine tw 9 55 hHeld ?_ (v := .slice Al nl cl) (hy := (fun w' hSw => by have E := CL.out w' hSw; go_simp))
      refine tw 10 56 hHeld ?_
      refine tw 11 57 hHeld ?_
      refine tw 12 58 hHeld ?_
      refine tw 13 59 hHeld ?_
      have hfl := flat512 ((all5_iff _).1 HA.out)
      have cs := rcSeal_any (w := w2) (n := N + 1) (c := c) (bs := bs.take (N + 1)) hm HNT.out (hrt.keep_nil Fd) (by rw [hfl, HNT.out]; omega) (by omega) (hK.keep Fd)
      obtain ⟨q, hq⟩ : ∃ q, doneB m (bs.take (N + 1)).flatten = q := ⟨_, rfl⟩
      have hql : q.length = 512 := by rw [← hq, doneB_len]
      rw [hq] at cs
      have HQ := Lib.hid (fun _ : Unit => hq)
      have HQL := Lib.hid hql
      clear hq hql hfl
      refine tc 14 (fun K hK => ?_)
      go_simp
      refine cs.mono ?_
      clear cs
      rintro e w3 ⟨r, rfl, r3, f3⟩
      obtain ⟨A3, cap3, rfl, -, -, -, -, -⟩ := r3.shape
      refine hK.out _ _ (hHeld.trans_nil f3) (fun hHx => ?_)
      clear hHeld
      have hHeld := hHx
      clear hHx
      clear hK K
      try simp only [Act.put, p1, p2, p3]
      have F3 := Fd.trans_nil f3
      have Rd3 := Rd9.keep_nil f3
      have cc := bytesEq_any Al A3 bl q nl cl 512 cap3 w3 HNL.out (rdl.keep_nil F3) nill HQL.out r3.rd.1 r3.rd.2.2
      clear Fd f3 Rd9 r3
      cases heq : (bl == q)
      ·rw [heq] at cc
       have HEQ := Lib.hid heq
       clear heq
       refine tc 15 (fun K hK => ?_)
       go_simp
       refine (cc).mono ?_
       rintro e w' ⟨rfl, rfl⟩
       refine hK.out _ _ hHeld (fun hHn => ?_)
       clear hHn
       clear hK K
       try simp only [Act.put, p1, p2, p3]
       refine tw 16 62 hHeld ?_
       refine tw 17 63 hHeld ?_
       refine wpAnyH_done (by kernel_rfl) ?_ _
       have HV := Lib.hid (show trV m bs = none from (trV_no HP.out fun h => by have h3 := h.2.2.2.1; rw [HLN.out, HBL.out, HQ.out ()] at h3; have h4 := HEQ.out; rw [h3] at h4; simp at h4))
       go_wp2_with fail
       go_ret3
       exact TrC.no HV.out F3
      ·rw [heq] at cc
       have HEQ := Lib.hid (eq_of_beq heq)
       clear heq
       refine tc 15 (fun K hK => ?_)
       go_simp
       refine (cc).mono ?_
       rintro e w' ⟨rfl, rfl⟩
       refine hK.out _ _ hHeld (fun hHn => ?_)
       clear hHn
       clear hK K
       try simp only [Act.put, p1, p2, p3]
       refine tw 16 62 hHeld ?_
       refine tw 17 63 hHeld ?_
       refine wpAnyH_done (by kernel_rfl) ?_ _
       go_wp2_with fail
       go_loopw [13, 66] (fun v i wr => ∃ k : Nat, k ≤ N ∧ i = .int .i64 k ∧ Row wr w.heap.size 3 1 (.slice A8 N cap8) N (zvs L) ∧ (∃ ps, RRow wr w.heap.size v ps ((List.range k).map (trE t L bs))) ∧ (∀ i, i < k → trQ t bs i) ∧ Fr [] w wr) (fun _ i _ => N - (intOf i).toNat)
       case atStart => exact ⟨0, Nat.zero_le _, rfl, Rd3, ⟨[], RRow.nil _ _⟩, fun i h => absurd h (by omega), F3⟩
       case round =>
        clear F3 Rd3
        obtain ⟨k, hk, rfl, R8, ⟨ps, R13⟩, hall, F⟩ := hrel
        by_cases hlt : k < N
        ·have hkb : 1 + k < bs.length := by rw [HN.out]; omega
         have hkv : 1 + k < vs.length := by rw [hr.len]; exact hkb
         obtain ⟨g', o', e', hc⟩ := hr.rd (by intro h; rw [h] at hkv; simp at hkv)
         cases e'
         obtain ⟨Ak, ck, hv, rdk, nilk, capk⟩ := hr.each (1 + k) hkv hkb
         have cell := F.cell (by simp) (hc (1 + k) vs[1 + k] (List.getElem?_eq_getElem hkv))
         have h5 : bs[1 + k].length = 512 := (all5_iff _).1 HA.out _ (List.mem_of_getElem? (i := 1 + k) (by rw [List.getElem?_take_of_lt (by omega)]; exact List.getElem?_eq_getElem hkb))
         have hbg : bs.getD (1 + k) [] = bs[1 + k] := by simp [hkb]
         rw [hv, h5] at cell
         rw [h5] at nilk capk
         obtain ⟨b, hb⟩ : ∃ b, bs[1 + k] = b := ⟨_, rfl⟩
         rw [hb] at h5 hbg rdk
         replace rdk := rdk.keep_nil F
         have hkl : k < L.length := by rw [HLN.out]; exact hlt
         obtain ⟨g2, o2, rfl, hc2⟩ := zint_at R8.rd.1 hkl
         have c2 := hc2 k hkl
         have hxd : L.getD k 0 = L[k] := by simp [hkl]
         obtain ⟨x, hx⟩ : ∃ x, L[k] = x := ⟨_, rfl⟩
         rw [hx] at c2 hxd
         have H5 := Lib.hid h5
         have HXD := Lib.hid hxd
         have HBG := Lib.hid hbg
         have HLK := Lib.hid (show ((List.range k).map (trE t L bs)).length = k by simp)
         have HSUC := Lib.hid (show (List.range (k + 1)).map (trE t L bs) = (List.range k).map (trE t L bs) ++ [(x, trB t k b)] by rw [List.range_succ, List.map_append, List.map_singleton, trE, hxd, hbg])
         have HQK := Lib.hid (show trQ t bs k ↔ decide (t / 2 ^ k % 2 = 1) = likeB (trB t k b) by unfold trQ; rw [hbg])
         have HALL := Lib.hid (fun h : trQ t bs k => (fun i hi => if e : i = k then by subst e; exact h else hall i (by omega) : ∀ i, i < k + 1 → trQ t bs i))
         have AND := and_one t k ht
         clear hv h5 hbg hb hc hc2 hx hxd hall hkb hkv hkl
         by_cases hbit : t / 2 ^ k % 2 = 1
         ·have d1 : (bits .and .u64 ((t : Int) / 2 ^ k) 1 == 1) = true := by rw [AND, hbit]; rfl
          have HTR := Lib.hid (show trB t k b = turnB b by rw [trB, if_pos hbit])
          have HBIT := Lib.hid (show decide (t / 2 ^ k % 2 = 1) = true by rw [hbit]; rfl)
          clear AND hbit
          go_wp2_with fail
          refine (clone_any Ak b 512 ck wr H5.out rdk nilk (by omega)).mono ?_
          rintro e w4 ⟨v4, rfl, r4, f4⟩
          obtain ⟨A4, c4, rfl, hc4, -, -, -, -⟩ := r4.shape
          go_wp2_with fail
          have F4 := F.trans_nil f4
          refine (rcTurn_any A4 b 512 c4 w4 H5.out r4.rd.1 r4.rd.2.2 (by omega) (by omega)).mono ?_
          rintro e w5 ⟨v5, rfl, r5, f5⟩
          obtain ⟨A5, c5, rfl, hc5, -, -, -, -⟩ := r5.shape
          have F5 := F4.trans_nil f5
          replace r5 := r5.mono F4.size
          rw [← HTR.out] at r5
          have HB5 := Lib.hid (show (trB t k b).length = 512 by rw [trB_len, H5.out])
          replace R8 := (R8.keep_nil f4).keep_nil f5
          replace R13 := (R13.keep_nil f4).keep_nil f5
          clear f4 f5 r4 F4 F
          go_wp2_with fail
          have cc := rcLike_any A5 (trB t k b) 512 c5 w5 HB5.out r5.rd.1 r5.rd.2.2 (by omega) hc5
          cases hlk : likeB (trB t k b)
          ·rw [hlk] at cc
           have HQN := Lib.hid (show ¬ trQ t bs k by rw [HQK.out, hlk, HBIT.out]; decide)
           refine cc.mono ?_
           clear cc hlk
           rintro e w6 ⟨rfl, rfl⟩
           have HV := Lib.hid (show trV m bs = none from (trV_no HP.out fun h => HQN.out (h.2.2.2.2 k (by rw [HLN.out]; exact hlt))))
           go_wp2_with fail
           go_ret3
           exact TrC.no HV.out F5
          ·rw [hlk] at cc
           have HQY := Lib.hid (HALL.out (by rw [HQK.out, hlk, HBIT.out]))
           refine cc.mono ?_
           clear cc hlk HALL
           rintro e w6 ⟨rfl, rfl⟩
           have r13 := R13.row
           rw [HLK.out] at r13
           obtain ⟨A13, c13, rfl, -, -, -, -, -⟩ := r13.shape
           go_wp2_with (at_builtin; refine wpList_app rfl rfl slR w.heap.size _ k (rcells ps) rfl (r13.alloc _) _ 1 1 [.int .i64 x, .slice A5 512 c5] rfl rfl (Rd.of_blk (Blk.new w5 104 #[.int .i64 x, .slice A5 512 c5]) 0 _ (fun j u hu => by rw [Nat.zero_add]; simpa using hu)) (by intro u hu; simp at hu; rcases hu with rfl | rfl <;> rfl) (fun h => by cases h) (by omega) (by have := F5.size; simp; omega) ?_; intro v7 w7 q1 q2 q3 q4)
           have fa : Fr [] w5 (w5.alloc (.cells #[.int .i64 x, .slice A5 512 c5] 104)) := (Fr.refl [] w5).alloc _
           have R14 := (R13.keep_nil fa).snoc (x := x) (r5.keep_nil fa |> fun h => (by rw [HB5.out]; exact h : Row _ w.heap.size 5 1 (.slice A5 512 c5) (trB t k b).length (bvs (trB t k b)))) q2 (by rw [HLK.out]; exact q1)
           rw [← HSUC.out] at R14
           exact ⟨⟨k + 1, by omega, by go_num, (R8.keep_nil fa).keep q2 (fun g hg hm => (R8.keep_nil fa).ne_rowR (r13.keep_nil fa) (by decide) g hg (mem_own.1 hm)), ⟨_, R14⟩, HQY.out, (F5.alloc _).trans q2 (fun i hi => .inr (r13.lt i (mem_own.1 hi)).1)⟩, by simp [intOf]; omega⟩
         ·have d1 : (bits .and .u64 ((t : Int) / 2 ^ k) 1 == 1) = false := by rw [AND, beq_eq_false_iff_ne]; omega
          have HTR := Lib.hid (show trB t k b = b by rw [trB, if_neg hbit])
          have HBIT := Lib.hid (show decide (t / 2 ^ k % 2 = 1) = false by rw [decide_eq_false hbit])
          clear AND hbit
          go_wp2_with fail
          refine (clone_any Ak b 512 ck wr H5.out rdk nilk (by omega)).mono ?_
          rintro e w5 ⟨v4, rfl, r4, f4⟩
          obtain ⟨A5, c5, rfl, hc5, -, -, -, -⟩ := r4.shape
          go_wp2_with fail
          have F5 := F.trans_nil f4
          have r5 := r4.mono F.size
          rw [← HTR.out] at r5
          have HB5 := Lib.hid (show (trB t k b).length = 512 by rw [trB_len, H5.out])
          replace R8 := R8.keep_nil f4
          replace R13 := R13.keep_nil f4
          clear f4 r4 F
          have cc := rcLike_any A5 (trB t k b) 512 c5 w5 HB5.out r5.rd.1 r5.rd.2.2 (by omega) hc5
          cases hlk : likeB (trB t k b)
          ·rw [hlk] at cc
           have HQY := Lib.hid (HALL.out (by rw [HQK.out, hlk, HBIT.out]))
           refine cc.mono ?_
           clear cc hlk HALL
           rintro e w6 ⟨rfl, rfl⟩
           have r13 := R13.row
           rw [HLK.out] at r13
           obtain ⟨A13, c13, rfl, -, -, -, -, -⟩ := r13.shape
           go_wp2_with (at_builtin; refine wpList_app rfl rfl slR w.heap.size _ k (rcells ps) rfl (r13.alloc _) _ 1 1 [.int .i64 x, .slice A5 512 c5] rfl rfl (Rd.of_blk (Blk.new w5 104 #[.int .i64 x, .slice A5 512 c5]) 0 _ (fun j u hu => by rw [Nat.zero_add]; simpa using hu)) (by intro u hu; simp at hu; rcases hu with rfl | rfl <;> rfl) (fun h => by cases h) (by omega) (by have := F5.size; simp; omega) ?_; intro v7 w7 q1 q2 q3 q4)
           have fa : Fr [] w5 (w5.alloc (.cells #[.int .i64 x, .slice A5 512 c5] 104)) := (Fr.refl [] w5).alloc _
           have R14 := (R13.keep_nil fa).snoc (x := x) (r5.keep_nil fa |> fun h => (by rw [HB5.out]; exact h : Row _ w.heap.size 5 1 (.slice A5 512 c5) (trB t k b).length (bvs (trB t k b)))) q2 (by rw [HLK.out]; exact q1)
           rw [← HSUC.out] at R14
           exact ⟨⟨k + 1, by omega, by go_num, (R8.keep_nil fa).keep q2 (fun g hg hm => (R8.keep_nil fa).ne_rowR (r13.keep_nil fa) (by decide) g hg (mem_own.1 hm)), ⟨_, R14⟩, HQY.out, (F5.alloc _).trans q2 (fun i hi => .inr (r13.lt i (mem_own.1 hi)).1)⟩, by simp [intOf]; omega⟩
          ·rw [hlk] at cc
           have HQN := Lib.hid (show ¬ trQ t bs k by rw [HQK.out, hlk, HBIT.out]; decide)
           refine cc.mono ?_
           clear cc hlk
           rintro e w6 ⟨rfl, rfl⟩
           have HV := Lib.hid (show trV m bs = none from (trV_no HP.out fun h => HQN.out (h.2.2.2.2 k (by rw [HLN.out]; exact hlt))))
           go_wp2_with fail
           go_ret3
           exact TrC.no HV.out F5
        ·obtain rfl : k = N := by omega
         have HV := Lib.hid (show trV m bs = some ((List.range k).map (trE t L bs)) by
          rw [trV_some HP.out, HLN.out]
          unfold trOk
          rw [HLN.out, HBL.out, HQ.out (), HEQ.out]
          exact ⟨rfl, by rw [HN.out]; omega, (all5_iff _).1 HA.out, rfl, hall⟩)
         have HLK := Lib.hid (show ((List.range k).map (trE t L bs)).length = k by simp)
         clear hall
         go_wp2_with fail
         go_ret3
         exact TrC.yes (k := 0) HV.out (by rw [HLK.out]; omega) R13 F
   ·have K1 : ((m' : Int) != m) = true := by simp only [bne_iff_ne]; omega
    have HMM := Lib.hid hmm
    clear hmm
    have HV := Lib.hid (show trV m bs = none from (trV_no HP.out fun h => HMM.out h.1))
    go_wp2_with fail
    go_ret3
    exact TrC.no HV.out f
end
section
open Go.RowKit
theorem cut_at {a b c : List UInt8} {i n : Nat} (h : a.length = i) (h2 : b.length = n) : ((a ++ (b ++ c)).drop i).take n = b := by
 rw [List.drop_left' h, List.take_left' h2]
theorem getD_app (a b : List (List UInt8)) (i : Nat) (h : i < a.length) : (a ++ b).getD i [] = a.getD i [] := by
 rw [List.getD_eq_getElem?_getD, List.getElem?_append_left h, ← List.getD_eq_getElem?_getD]
theorem getD_mid (a b : List (List UInt8)) (d : List UInt8) (i : Nat) (h : a.length = i) : (a ++ d :: b).getD i [] = d := by
 rw [List.getD_eq_getElem?_getD, List.getElem?_append_right (by omega), h, Nat.sub_self]; rfl
theorem blk_512 {n : Nat} {rs : List (Int × List UInt8)} (h : rcOk n rs) : ∀ b ∈ blkL n rs, b.length = 512 := by
 intro b hb
 rw [blkL] at hb
 rcases List.mem_cons.1 hb with rfl | hb
 ·exact planB_len _ _ _ (by rw [rcP_len]; exact h.2.1)
 ·simp only [rcD, List.mem_map] at hb
  obtain ⟨r, hr, rfl⟩ := hb
  rw [tnB_len]
  exact h.2.2.1 r hr
theorem mark_num (n : Nat) (h : n < 18446744073709551616) : numR (markB n) = n := by
 rw [numR_512 (markB_len n), markB, pad512, markR, List.append_assoc, List.append_assoc, cut_at (i := 4) (a := markM) rfl (leB_length _ _), leN_leB13 8 n (by omega)]
theorem rmV_mark {n : Nat} (h0 : n ≠ 0) (h : n < 18446744073709551616) : rmV (markB n) = some n := by
 rw [rmV, mark_num n h, if_pos ⟨h0, rfl⟩]
end
section
open Go.RowKit
theorem BlkC.of_some {w w' : World} {n : Nat} {rs : List (Int × List UInt8)} {bs : List (List UInt8)} {e : Ending} (h : blkV n rs = some bs) (k : BlkC w n rs e w') :
  ∃ v vs, e = .returned (.tuple #[v, .int .i64 0]) ∧ BRow w' w.heap.size v vs bs ∧ Fr [] w w' := by
 unfold BlkC at k
 rw [h] at k
 exact k
theorem BlkC.of_none {w w' : World} {n : Nat} {rs : List (Int × List UInt8)} {e : Ending} (h : blkV n rs = none) (k : BlkC w n rs e w') :
  ∃ v vs, e = .returned (.tuple #[v, .int .i64 1]) ∧ BRow w' w.heap.size v vs [] ∧ Fr [] w w' := by
 unfold BlkC at k
 rw [h] at k
 exact k
theorem TrC.of_some {w w' : World} {n : Nat} {bs : List (List UInt8)} {rs : List (Int × List UInt8)} {e : Ending} (h : trV n bs = some rs) (k : TrC w n bs e w') :
  ∃ v ps, e = .returned (.tuple #[v, .int .i64 ((rs.length + 2 : Nat) : Int), .int .i64 0]) ∧ RRow w' w.heap.size v ps rs ∧ Fr [] w w' := by
 unfold TrC trN at k
 rw [h] at k
 exact k
theorem TrC.of_none {w w' : World} {n : Nat} {bs : List (List UInt8)} {e : Ending} (h : trV n bs = none) (k : TrC w n bs e w') :
  ∃ v, e = .returned (.tuple #[v, .int .i64 0, .int .i64 110]) ∧ (∃ A c, v = .slice A 0 c) ∧ Fr [] w w' := by
 unfold TrC trN at k
 rw [h] at k
 obtain ⟨v, ps, h1, h2, h3⟩ := k
 obtain ⟨A, c, rfl, -⟩ := h2.row.shape
 exact ⟨_, h1, ⟨A, c, rfl⟩, h3⟩
theorem BRow.arg {w : World} {B n : Nat} {v : Value} {vs : List Value} {bs : List (List UInt8)} (h : BRow w B v vs bs) (hn : bs.length = n) : ∃ A c, v = .slice A n c ∧ n ≤ c ∧ BRd w A vs bs ∧ (A = none → n = 0) := by
 have hr := h.row
 rw [hn] at hr
 obtain ⟨A, c, rfl, hc, -, -, -, -⟩ := hr.shape
 exact ⟨A, c, rfl, hc, h.brd, hr.rd.2.2⟩
theorem zeros_row (n : Nat) : bvs (List.replicate n 0) = List.replicate n (Value.int .u8 0) := by rw [bvs, List.map_replicate]; rfl
end
section
open Go.RowKit
theorem RRow.keepF {w w' : World} {B : Nat} {v : Value} {ps : List (Int × Value)} {rs : List (Int × List UInt8)} (h : RRow w B v ps rs) {F : List Nat} (f : Fr F w w') (h1 : ∀ g, v.ownBlock = some g → g ∉ F) (h2 : ∀ p ∈ ps, ∀ g, p.2.ownBlock = some g → g ∉ F) : RRow w' B v ps rs :=
 ⟨h.row.keep f h1, h.len, fun i hi hi' => ⟨(h.each i hi hi').1, (h.each i hi hi').2.keep f (h2 _ (List.getElem_mem hi))⟩⟩
theorem RRow.lt {w : World} {B : Nat} {v : Value} {ps : List (Int × Value)} {rs : List (Int × List UInt8)} (h : RRow w B v ps rs) : ∀ p ∈ ps, ∀ g, p.2.ownBlock = some g → B ≤ g ∧ g < w.heap.size := by
 intro p hp g hg
 obtain ⟨i, hi, rfl⟩ := List.getElem_of_mem hp
 exact (h.each i hi (by rw [← h.len]; exact hi)).2.lt g hg
set_option maxRecDepth 100000 in
set_option maxHeartbeats 8000000 in
end
section
open Go.RowKit
def RdX (w : World) (A : Option Addr) (rs : List (Int × List UInt8)) : Prop :=
 ∀ i (h : i < rs.length), ∃ g o v, A = some ⟨g, o, none⟩ ∧ w.cell? ⟨g, o + i * 2, none⟩ = some (.int .i64 rs[i].1) ∧ w.cell? ⟨g, o + i * 2 + 1, none⟩ = some v ∧ SlB w v rs[i].2
theorem RdX.keep_nil {w w' : World} {A : Option Addr} {rs : List (Int × List UInt8)} (h : RdX w A rs) (f : Fr [] w w') : RdX w' A rs := fun i hi => by
 obtain ⟨g, o, v, e, h1, h2, h3⟩ := h i hi
 exact ⟨g, o, v, e, f.cell (by simp) h1, f.cell (by simp) h2, h3.keep_nil f⟩
theorem RdR.rdx {w : World} {A : Option Addr} {n c : Nat} {rs : List (Int × List UInt8)} (h : RdR w A n c rs) : RdX w A rs := fun i hi => by
 obtain ⟨g, o, e, hg, hc⟩ := h.cell (by rw [← h.len]; omega)
 obtain ⟨_, h2, v, h3, h4, _⟩ := hc i hi
 exact ⟨g, o, v, e, h2, h3, h4⟩
theorem RRow.rdx {w : World} {B n c : Nat} {A : Option Addr} {ps : List (Int × Value)} {rs : List (Int × List UInt8)} (h : RRow w B (.slice A n c) ps rs) : RdX w A rs := fun i hi => by
 have hi2 : i < ps.length := by rw [h.len]; exact hi
 obtain ⟨g, o, e, hc⟩ := h.row.rd.1 (by intro h0; have := congrArg List.length h0; rw [rcells_len, List.length_nil] at this; omega)
 obtain ⟨p1, p2⟩ := rcells_at ps i hi2
 obtain ⟨e1, r1⟩ := h.each i hi2 hi
 rw [e1] at p1
 exact ⟨g, o, _, e, hc _ _ p1, by rw [Nat.add_assoc]; exact hc _ _ p2, r1.slb⟩
end
section
open Go.RowKit
def DkM.is (D : DkM) (x : Int) : Bool := decide (0 ≤ x) && decide (x < D.sure.length)
def DkM.off (D : DkM) : Bool := D.calls == 0
theorem DkM.is_iff {D : DkM} {x : Int} : D.is x = true ↔ 0 ≤ x ∧ x < D.sure.length := by simp [DkM.is]
def DkM.mayE (D : DkM) (x : Int) (n : Nat) : Int := if D.is x = false then 100 else if n ≠ 512 then 101 else 0
section
variable {w w' : World} {p : Nat} {O : List Nat} {D : DkM} {X : DkX}
theorem DskX.c0 (h : DskX w p O D X) : w.cell? ⟨p, 0, none⟩ = some (.slice (some ⟨X.g, 0, none⟩) D.sure.length X.c) := by have := h.blk.cell 0; simpa using this
theorem DskX.c1 (h : DskX w p O D X) : w.cell? ⟨p, 1, none⟩ = some (.map (some X.m)) := by have := h.blk.cell 1; simpa using this
theorem DskX.c2 (h : DskX w p O D X) : w.cell? ⟨p, 2, none⟩ = some (.int .i64 D.calls) := by have := h.blk.cell 2; simpa using this
theorem DskX.mp (h : DskX w p O D X) : X.m ≠ p := fun e => by
 have h1 := h.map.no_cell 0
 rw [e, h.c0] at h1
 cases h1
theorem DskX.mg (h : DskX w p O D X) : X.m ≠ X.g := fun e => by
 obtain ⟨g', o', e', hc⟩ := h.row.rdD.1 (by intro h0; have := congrArg List.length h0; have h1 := h.row.1; have := h.n1.1; rw [List.length_nil] at *; omega)
 cases e'
 have h1 := h.map.no_cell (0 + 0)
 rw [e] at h1
 have hl : 0 < X.vs.length := by have h1 := h.row.1; have := h.n1.1; omega
 rw [hc 0 X.vs[0] (List.getElem?_eq_getElem hl)] at h1
 cases h1
theorem DskX.pT (h : DskX w p O D X) (e : TypeId) (he : 118 ≠ e) : NoTy w [p] e := fun i hi cs fz hc => by
 rw [List.mem_singleton.1 hi] at hc
 have hb := h.blk
 unfold Blk at hb
 rw [hb] at hc
 injection hc with hc
 injection hc with _ hc
 exact he hc
theorem DskX.setp (h : DskX w p O D X) (f : Fr [p] w w') (c : Int) (hc : -1 ≤ c ∧ c ≤ 9223372036854775807) (hb : Blk w' p 118 #[.slice (some ⟨X.g, 0, none⟩) D.sure.length X.c, .map (some X.m), .int .i64 c]) :
  DskX w' p O { D with calls := c } X := by
 have n8 := h.pT 5 (by decide)
 have nb : ∀ {B s n : Nat} {v : Value} {xs : List Value}, Row w B 27 s v n xs → ∀ g, v.ownBlock = some g → g ∉ [p] := fun hr g hg hm => hr.ne_blk h.blk (by decide) (by rw [hg, List.mem_singleton.1 hm])
 refine ⟨h.pO, h.gO, h.mO, hb, h.n1, h.row.keep f (nb h.row), fun i a b => (h.su i a b).keepT f n8, h.map.keep f (by simpa using h.mp), h.iff, fun x v hx => ?_, h.rng, h.apart, fun i hi cs fz hc => ?_, fun i hi => Nat.lt_of_lt_of_le (h.lt i hi) f.size, hc⟩
 ·obtain ⟨h1, h2⟩ := h.un x v hx
  obtain ⟨us, h3, h4⟩ := id h1
  exact ⟨h1.keep f n8 (nb h3), h2⟩
 ·by_cases e : i = p
  ·subst e
   unfold Blk at hb
   rw [hb] at hc
   injection hc with hc
   injection hc with _ hc
   exact absurd hc (by decide)
  ·rw [f.same i (h.lt i hi) (by simpa using e)] at hc
   exact h.no8 i hi cs fz hc
theorem neqMapD (b : Nat) (w : World) : (binOp .neq 116 (.map (some b)) (.map none)).run Tryz.prog w = .ok (.bool true) w := by kernel_rfl
set_option maxRecDepth 100000
theorem dkMade_any (h : Dsk w p O D) : Calls Tryz.prog 116 #[.pointer (some ⟨p, 0, none⟩)] w fun e w' => e = .returned (.bool true) ∧ w = w' := by
 obtain ⟨X, h⟩ := h
 have c1 := h.c1
 have nm := neqMapD X.m w
 go_enter Tryz.func116, Tryz.ntmps116
 go_wp2_with fail
 go_ret
 exact ⟨rfl, rfl⟩
theorem dkOff_any (h : Dsk w p O D) : Calls Tryz.prog 151 #[.pointer (some ⟨p, 0, none⟩)] w fun e w' => e = .returned (.bool D.off) ∧ w = w' := by
 have hm := dkMade_any h
 obtain ⟨X, h⟩ := h
 have c2 := h.c2
 unfold DkM.off
 go_enter Tryz.func151, Tryz.ntmps151
 go_wp2_with fail
 refine hm.mono ?_
 rintro e w1 ⟨rfl, rfl⟩
 go_wp2_with fail
 go_ret
 exact ⟨rfl, rfl⟩
theorem dkLen_any (h : Dsk w p O D) : Calls Tryz.prog 107 #[.pointer (some ⟨p, 0, none⟩)] w fun e w' => e = .returned (.int .i64 D.sure.length) ∧ w = w' := by
 have hm := dkMade_any h
 obtain ⟨X, h⟩ := h
 have c0 := h.c0
 generalize D.sure.length = n at *
 go_enter Tryz.func107, Tryz.ntmps107
 go_wp2_with fail
 refine hm.mono ?_
 rintro e w1 ⟨rfl, rfl⟩
 go_wp2_with fail
 go_ret
 exact ⟨rfl, rfl⟩
theorem dkIs_any (h : Dsk w p O D) (x : Int) : Calls Tryz.prog 117 #[.pointer (some ⟨p, 0, none⟩), .int .i64 x] w fun e w' => e = .returned (.bool (D.is x)) ∧ w = w' := by
 have hl := dkLen_any h
 obtain ⟨n, hn⟩ : ∃ n, D.sure.length = n := ⟨_, rfl⟩
 rw [hn] at hl
 by_cases h0 : 0 ≤ x
 ·have HI := Lib.hid (show D.is x = decide (x < n) by rw [DkM.is, hn, decide_eq_true h0]; rfl)
  clear hn
  go_enter Tryz.func117, Tryz.ntmps117
  go_wp2_with fail
  refine hl.mono ?_
  rintro e w1 ⟨rfl, rfl⟩
  go_wp2_with fail
  go_ret
  exact ⟨by rw [HI.out]; rfl, rfl⟩
 ·have HI := Lib.hid (show D.is x = false by rw [DkM.is, decide_eq_false h0]; rfl)
  clear hn
  go_enter Tryz.func117, Tryz.ntmps117
  go_wp2_with fail
  go_ret
  exact ⟨by rw [HI.out]; rfl, rfl⟩
theorem dkMay_any (h : Dsk w p O D) (x : Int) (A : Option Addr) (n c : Nat) : Calls Tryz.prog 68 #[.pointer (some ⟨p, 0, none⟩), .int .i64 x, .slice A n c] w fun e w' => e = .returned (.int .i64 (D.mayE x n)) ∧ w = w' := by
 have hm := dkMade_any h
 have hi := dkIs_any h x
 cases hx : D.is x
 ·rw [hx] at hi
  have HM := Lib.hid (show D.mayE x n = 100 by unfold DkM.mayE; rw [hx]; rfl)
  clear hx
  go_enter Tryz.func68, Tryz.ntmps68
  go_wp2_with fail
  refine hm.mono ?_
  rintro e w1 ⟨rfl, rfl⟩
  go_wp2_with fail
  refine hi.mono ?_
  rintro e w1 ⟨rfl, rfl⟩
  go_wp2_with fail
  go_ret
  exact ⟨by rw [HM.out]; rfl, rfl⟩
 ·rw [hx] at hi
  by_cases hn : n = 512
  ·subst hn
   have HM := Lib.hid (show D.mayE x 512 = 0 by unfold DkM.mayE; rw [hx]; rfl)
   clear hx
   go_enter Tryz.func68, Tryz.ntmps68
   go_wp2_with fail
   refine hm.mono ?_
   rintro e w1 ⟨rfl, rfl⟩
   go_wp2_with fail
   refine hi.mono ?_
   rintro e w1 ⟨rfl, rfl⟩
   go_wp2_with fail
   go_ret
   exact ⟨by rw [HM.out]; rfl, rfl⟩
  ·have d : ((n : Int) != 512) = true := by simp only [bne_iff_ne]; omega
   have HM := Lib.hid (show D.mayE x n = 101 by unfold DkM.mayE; rw [hx, if_neg (by decide), if_pos hn])
   clear hn hx
   go_enter Tryz.func68, Tryz.ntmps68
   go_wp2_with fail
   refine hm.mono ?_
   rintro e w1 ⟨rfl, rfl⟩
   go_wp2_with fail
   refine hi.mono ?_
   rintro e w1 ⟨rfl, rfl⟩
   go_wp2_with fail
   go_ret
   exact ⟨by rw [HM.out]; rfl, rfl⟩
end
end
end Go.Proofs.YtbanogfljpkbkaaGreatDoor
