/-
  Contracts of layer 12: DecodeKeys.
-/
import Derived.Test.YtmonedfafechcaaKeysG
set_option linter.unusedSimpArgs false
set_option linter.unusedVariables false
set_option linter.unnecessarySimpa false
namespace Go.Proofs.Ytmonedfafechcaa
open Go.RowKit

def nK (l : List UInt8) : Nat := leN ((l.drop 4).take 1)
def esK (l : List UInt8) : List EpM := epsOf (l.drop 5) (nK l)
def tgK (l : List UInt8) : List UInt8 := (l.drop (5 + 68 * nK l)).take 32
def okK (l : List UInt8) : Bool := decide (l.length = 512) && (decide (nK l ≤ 2) && (allZ (l.drop (5 + 68 * nK l + 32)) && (decide (l.take 4 = markK) && rightB (esK l))))
def decK (l : List UInt8) : List EpM × List UInt8 := if okK l then (esK l, tgK l) else ([], zT)
def DecK (w : World) (l : List UInt8) (e : Ending) (w' : World) : Prop :=
  ∃ A c, e = .returned (.tuple #[.agg (keyC A (decK l).1.length c (decK l).2).toArray, .int .i64 (if okK l then 0 else 110)]) ∧
    Row w' w.heap.size 102 65 (.slice A (decK l).1.length c) (decK l).1.length (epsC (decK l).1) ∧ Fr [] w w'
theorem DecK.no {w w' : World} {l : List UInt8} (h : okK l = false) (hf : Fr [] w w') : DecK w l (.returned (.tuple #[.agg (keyC none 0 0 zT).toArray, .int .i64 110])) w' := by
  have e : decK l = ([], zT) := by rw [decK, h]; rfl
  exact ⟨none, 0, by rw [e, h]; rfl, by rw [e]; exact Row.nil _ _ _ _, hf⟩
theorem Row.kok {w : World} {B : Nat} {A : Option Addr} {n c : Nat} {es : List EpM} {tg : List UInt8} (h : Row w B 102 65 (.slice A n c) n (epsC es)) (hl : es.length = n) (he : ∀ e ∈ es, e.ok) (ht : tg.length = 32) (hn : n ≤ 140737488351232) : KOk w A n c es tg := by
  obtain ⟨A', c', e, -, -, hr, hb, -⟩ := h.shape
  cases e
  exact ⟨hl, hr, h.rd.2.2, he, ht, hn, fun g o e _ => (hb ⟨g, o, none⟩ e).2⟩
theorem set_ktg {A : Option Addr} {n c : Nat} {tg q : List UInt8} (h : tg.length = 32) (hq : q.length = 32) : ((keyC A n c tg).toArray.toList.take 1 ++ bvs q ++ (keyC A n c tg).toArray.toList.drop (1 + (bvs q).length)).toArray = (keyC A n c q).toArray := by
  have e1 : (keyC A n c tg).toArray.toList.take 1 = [.slice A n c] := rfl
  have e2 : (keyC A n c tg).toArray.toList.drop (1 + (bvs q).length) = [] := List.drop_of_length_le (by rw [bvs_length, hq]; show (keyC A n c tg).length ≤ _; rw [keyC_len _ _ _ h]; omega)
  rw [e1, e2, List.append_nil]
  rfl
theorem set_kes (A A' : Option Addr) (n n' c c' : Nat) (tg : List UInt8) : (keyC A n c tg).toArray.setIfInBounds 0 (.slice A' n' c') = (keyC A' n' c' tg).toArray := rfl

set_option maxRecDepth 100000 in
set_option maxHeartbeats 8000000 in
theorem decKeys_any (w : World) (A : Option Addr) (l : List UInt8) (n c : Nat) (hn : l.length = n) (hr : Rd w A (bvs l)) (hA : A = none → n = 0) (hl : n ≤ 140737488355328) :
    Calls Try.prog 41 #[.slice A n c] w (DecK w l) := by
  by_cases h512 : n = 512
  · subst h512
    have HN := Lib.hid hn
    go_enter Try.func41, Try.ntmps41
    go_wp2_with
      (first
        | (refine wpList_alS stKeys rfl rfl ?_; intro wb hb fb zb; have ZB := Lib.hid zb; clear zb)
        | (refine wpList_bld rfl rfl (.agg (keyC none 0 0 zT).toArray) ?_ ?_; exact keysZero _)
        | (refine wpList_stB stKeys rfl rfl w.heap.size rfl (keyC none 0 0 zT) rfl (keyC_len _ _ _ zT_len) (keyC_ones _ _ _ _) (keyC none 0 0 zT) (keyC_len _ _ _ zT_len) hb ?_; intro wc hc fc zc))
    refine (newReader_any A l 512 c wb HN.out (hr.keep_nil fb) hA (by omega)).mono ?_
    rintro e w4 ⟨p4, G4, rfl, x4, f4, z4, g4⟩
    have F4 := fb.trans_nil f4
    have o4 := hb.keep_nil f4
    have q4 := x4.lt
    have z0 := ZB.out
    go_wp2_with fail
    refine (rBytes_ok x4 4 (by rw [HN.out]; omega)).mono ?_
    rintro e w5 ⟨v5, rfl, r5, x5, f5⟩
    have E5 := r5.str
    have F5 := F4.trans f5 (fun i hi => .inr (by simp at hi; omega))
    have o5 := o4.keep f5 (by simp; omega)
    have s5 := f5.size
    clear r5 x4 o4 hb hn
    go_wp2_with
      (first
        | (refine wpList_bld rfl rfl (.agg (keyC none 0 0 zT).toArray) ?_ ?_; exact keysZero _)
        | (refine wpList_alS stKeys rfl rfl ?_; intro w6 h6 f6 z6; have Z6 := Lib.hid z6; clear z6; obtain ⟨gs, hgs⟩ : ∃ gs, w5.heap.size = gs := ⟨_, rfl⟩; rw [hgs] at h6; rw [hgs]; have HGS := Lib.hid hgs; clear hgs)
        | (refine wpList_stB stKeys rfl rfl gs rfl (keyC none 0 0 zT) rfl (keyC_len _ _ _ zT_len) (keyC_ones _ _ _ _) (keyC none 0 0 zT) (keyC_len _ _ _ zT_len) h6 ?_; intro w7 h7 f7 z7; have Z7 := Lib.hid z7; clear z7))
    have gw : w.heap.size < gs := by have := HGS.out; have := o5.lt; omega
    have gp : p4 < gs := by have := HGS.out; omega
    have gG : ∀ g ∈ G4, g < gs := fun g hg => by have := (g4 g hg).2.1; have := HGS.out; omega
    have F7 : Fr [] w w7 := (F5.trans_nil f6).trans f7 (fun i hi => .inr (by simp at hi; omega))
    have x7 := (x5.keep f6 (by simp) (by simp)).keep f7 (by simp; omega) (fun g hg => by have := gG g hg; simp; omega)
    have o7 := (o5.keep_nil f6).keep f7 (by simp; omega)
    clear f7 f6 h6 x5 o5 F5 f5 E5 f4 F4 fb
    have cc := rUint_ok x7 1 (by rw [List.length_drop, HN.out]; omega) rfl
    rw [show leN ((l.drop 4).take 1) = nK l from rfl, List.drop_drop] at cc
    have hy := leN_take_lt (l.drop 4) 1
    rw [show leN ((l.drop 4).take 1) = nK l from rfl] at hy
    have hy' : nK l < 256 := hy
    have hw : IntKind.i64.wrap (nK l : Int) = nK l := IntWalk.i64_in _ (by omega)
    clear hy
    refine cc.mono ?_
    clear cc
    rintro e w8 ⟨rfl, x8, f8⟩
    have F8 := F7.trans f8 (fun i hi => .inr (by simp at hi; omega))
    have o8 := o7.keep f8 (by simp; omega)
    have k8 := h7.keep f8 (by simp; omega)
    clear x7 o7 F7 f8 h7
    by_cases hy2 : (nK l : Int) ≤ 2
    · have hy3 : nK l ≤ 2 := by omega
      have l5 : (l.drop (4 + 1)).length = 507 := by rw [List.length_drop, HN.out]
      go_wp2_with fail
      refine (getE_ok x8 (nK l) (by rw [l5]; omega) (by omega) (fun g hg => by have := gG g hg; have := k8.lt; omega)).mono ?_
      rintro e w9 ⟨v9, rfl, r9, x9, f9⟩
      have hes : esK l = epsOf (l.drop (4 + 1)) (nK l) := rfl
      rw [← hes] at r9
      have F9 := F8.trans f9 (fun i hi => .inr (by simp at hi; omega))
      have o9 := o8.keep f9 (by simp; omega)
      have k9 := k8.keep f9 (by simp; omega)
      have s8 := k8.lt
      have s9 := f9.size
      rw [List.drop_drop] at x9
      obtain ⟨A9, cap9, rfl, -, -, -, -, -⟩ := r9.shape
      have e0 := k9.cell 0
      have z0 := k9.frozen 0
      rw [show (keyC none 0 0 zT).toArray[0]? = some (.slice none 0 0) from rfl] at e0
      clear x8 o8 k8 F8 f9
      go_upto_region 10 with fail
      have k0 : Blk (w9.setCell ⟨gs, 0, none⟩ (.slice A9 (nK l) cap9)) gs 68 (keyC A9 (nK l) cap9 zT).toArray := k9.set_ 0 _
      have f0 : Fr [gs] w9 (w9.setCell ⟨gs, 0, none⟩ (.slice A9 (nK l) cap9)) := (Fr.refl _ _).setCell (.inl (by simp)) _
      generalize w9.setCell ⟨gs, 0, none⟩ (.slice A9 (nK l) cap9) = w10 at *
      have x0 := x9.keep f0 (by simp; omega) (fun g hg => by have := gG g hg; simp; omega)
      have o0 := o9.keep f0 (by simp; omega)
      have r0 := r9.keep f0 (fun g hg => by have := r9.lt g hg; simp; omega)
      have F0 := F9.trans f0 (fun i hi => .inr (by simp at hi; omega))
      have s0 := f0.size
      clear x9 o9 k9 F9 f0 r9 e0 z0
      try simp only [Act.put, List.setIfInBounds_toArray, List.set_cons_zero, List.set_cons_succ]
      refine wp_region_held_drew (S := fun _ => True) (by kernel_rfl) trivial (fun hHeld => ?_)
      refine take_w 0 (some 28) (v := ?_) rfl rfl (by kernel_rfl) (by kernel_rfl) (by kernel_rfl) (fun _ _ _ h => h) (by rfl) ?_ hHeld ?_
      rotate_left
      · (intro w hSw; (try dsimp only at hSw); go_simp; try with_reducible rfl)
      simp only [Act.put, List.setIfInBounds_toArray, List.set_cons_zero, List.set_cons_succ]
      refine take_w 1 (some 29) (v := ?_) rfl rfl (by kernel_rfl) (by kernel_rfl) (by kernel_rfl) (fun _ _ _ h => h) (by rfl) ?_ hHeld ?_
      rotate_left
      · (intro w hSw; (try dsimp only at hSw); go_simp; try with_reducible rfl)
      simp only [Act.put, List.setIfInBounds_toArray, List.set_cons_zero, List.set_cons_succ]
      refine take_w 2 (some 30) (v := ?_) rfl rfl (by kernel_rfl) (by kernel_rfl) (by kernel_rfl) (fun _ _ _ h => h) (by rfl) ?_ hHeld ?_
      rotate_left
      · (intro w hSw; (try dsimp only at hSw); go_simp; try with_reducible rfl)
      simp only [Act.put, List.setIfInBounds_toArray, List.set_cons_zero, List.set_cons_succ]
      refine take_c 3 rfl (by kernel_rfl) (by rfl) (fun K hK => ?_)
      go_simp
      refine (rBytes_ok (x0.keep ((Fr.refl [] _).drew) (by simp) (by simp)) 32 (by rw [List.length_drop, HN.out]; omega)).mono ?_
      rintro e w7 ⟨v7, rfl, r7, x7, f7⟩
      have htg : tgK l = (l.drop (4 + 1 + 68 * nK l)).take 32 := rfl
      rw [← htg] at r7
      have lt32 : (tgK l).length = 32 := by rw [htg, List.length_take, List.length_drop, HN.out]; omega
      obtain ⟨A7, cap7, rfl, -, -, rd7, -, -⟩ := r7.shape
      have F7 := F0.drew.trans f7 (fun i hi => .inr (by simp at hi; omega))
      have k7 : Blk w7 gs 68 (keyC A9 (nK l) cap9 zT).toArray := (k0.keep_nil ((Fr.refl _ _).drew)).keep f7 (by simp; omega)
      have o7 := (o0.keep_nil ((Fr.refl _ _).drew)).keep f7 (by simp; omega)
      have r0' := (r0.keep_nil ((Fr.refl _ _).drew)).keep f7 (fun g hg => by have := r0.lt g hg; simp; omega)
      refine hK.out _ _ trivial (fun hHeld => ?_)
      clear hK K
      try simp only [Act.put, List.setIfInBounds_toArray, List.set_cons_zero, List.set_cons_succ]
      refine take_cd 4 (some 32) rfl rfl (by kernel_rfl) (by rfl) (fun K hK => wp_cp rfl Try.underlying22 (by kernel_rfl) _ _ 32 32 32 cap7 rfl rfl (bvs (tgK l)) (by rw [bvs_length, lt32]; rfl) rd7 (bvs_one _) gs 1 (fun _ => rfl) (keyC A9 (nK l) cap9 zT).toArray 68 (0, 0) k7 (free_zero _) (by rw [bvs_length, lt32, List.size_toArray, keyC_len _ _ _ zT_len]; omega) fun w8 c1 c2 => hK _ w8 trivial fun hHeld => ?_)
      clear hK K
      try simp only [Act.put, List.setIfInBounds_toArray, List.set_cons_zero, List.set_cons_succ]
      refine wpAnyH_done (by kernel_rfl) ?_ _
      have k8 : Blk w8 gs 68 _ := c1
      rw [set_ktg zT_len lt32] at k8
      have x8 := x7.keep c2 (by simp; omega) (fun g hg => by have := gG g hg; simp; omega)
      have o8 := o7.keep c2 (by simp; omega)
      have F8 := F7.trans c2 (fun i hi => .inr (by simp at hi; omega))
      have r8 := r0'.keep c2 (fun g hg => by have := r0'.lt g hg; simp; omega)
      rw [List.drop_drop] at x8
      have hok8 : ∀ e ∈ esK l, e.ok := fun e he => (epsOf_fit (l := l.drop (4 + 1)) (n := nK l) (by rw [l5]; omega) e he).ok
      have hle : (esK l).length = nK l := epsOf_length _ _
      have K8 : KOk w8 A9 (nK l) cap9 (esK l) (tgK l) := r8.kok hle hok8 lt32 (by omega)
      have x9 : Rdr 95 w8 p4 G4 (l.drop (5 + 68 * nK l + 32)) false := x8
      clear k7 o7 x7 F7 c1 c2 rd7 r7 x8 x0 o0 k0 F0 r0 r0' htg
      clear hes
      have h1 : decide (nK l ≤ 2) = true := by rw [decide_eq_true_iff]; exact hy3
      have h0 : decide (l.length = 512) = true := by rw [decide_eq_true_iff]; exact HN.out
      have ek : okK l = (allZ (l.drop (5 + 68 * nK l + 32)) && (decide (l.take 4 = markK) && rightB (esK l))) := by rw [okK, h0, h1]; rfl
      have EK := Lib.hid ek
      clear h0 h1 ek
      have cc := rDone_any x9
      cases hz8 : allZ (l.drop (5 + 68 * nK l + 32))
      · have hd : okK l = false := by rw [EK.out, hz8]; rfl
        have HD := Lib.hid hd
        rw [show doneE (l.drop (5 + 68 * nK l + 32)) false = 90 by simp [doneE, hz8]] at cc
        clear hd hz8
        go_wp2_with fail
        refine cc.mono ?_
        rintro e w9 ⟨rfl, rfl⟩
        go_wp2_with
          (first
            | (refine wpList_bld rfl rfl (.agg (keyC none 0 0 zT).toArray) ?_ ?_; exact keysZero _)
            | (refine wpList_stB stKeys rfl rfl w.heap.size rfl (keyC none 0 0 zT) rfl (keyC_len _ _ _ zT_len) (keyC_ones _ _ _ _) (keyC none 0 0 zT) (keyC_len _ _ _ zT_len) o8 ?_; intro wc hc fc zc))
        try simp only [Exit.inBlock, Exit.then]
        refine bodyPost_ret (results_cell2 stKeys rfl rfl (keyC_len _ _ _ zT_len) hc) rfl ?_
        exact DecK.no HD.out (F8.trans fc (fun i hi => .inr (by simp at hi; omega)))
      · rw [show doneE (l.drop (5 + 68 * nK l + 32)) false = 0 by simp [doneE, hz8]] at cc
        by_cases hm : l.take 4 = markK
        · rw [show (l.take 4).toArray = #[75, 69, 89, 83] by rw [hm]; rfl]
          have ek2 : okK l = rightB (esK l) := by rw [EK.out, hz8, show decide (l.take 4 = markK) = true by rw [decide_eq_true_iff]; exact hm]; rfl
          have EK2 := Lib.hid ek2
          clear hz8 hm ek2
          go_wp2_with fail
          refine cc.mono ?_
          clear cc
          rintro e w9 ⟨rfl, rfl⟩
          go_wp2_with
            (first
              | (refine wpList_ldS stKeys rfl rfl gs 0 rfl (keyC A9 (nK l) cap9 (tgK l)) (keyC_len _ _ _ lt32) k8.range0 ?_))
          have cc := right_any w8 K8
          cases hr8 : rightB (esK l)
          · have hd : okK l = false := by rw [EK2.out, hr8]
            have HD := Lib.hid hd
            rw [hr8] at cc
            clear hd hr8
            refine cc.mono ?_
            clear cc
            rintro e w9 ⟨rfl, f9⟩
            have o9 := o8.keep_nil f9
            have F9 := F8.trans_nil f9
            go_wp2_with
              (first
                | (refine wpList_bld rfl rfl (.agg (keyC none 0 0 zT).toArray) ?_ ?_; exact keysZero _)
                | (refine wpList_stB stKeys rfl rfl w.heap.size rfl (keyC none 0 0 zT) rfl (keyC_len _ _ _ zT_len) (keyC_ones _ _ _ _) (keyC none 0 0 zT) (keyC_len _ _ _ zT_len) o9 ?_; intro wc hc fc zc))
            try simp only [Exit.inBlock, Exit.then]
            refine bodyPost_ret (results_cell2 stKeys rfl rfl (keyC_len _ _ _ zT_len) hc) rfl ?_
            exact DecK.no HD.out (F9.trans fc (fun i hi => .inr (by simp at hi; omega)))
          · have hd : okK l = true := by rw [EK2.out, hr8]
            have HD := Lib.hid hd
            rw [hr8] at cc
            clear hd hr8
            refine cc.mono ?_
            clear cc
            rintro e w9 ⟨rfl, f9⟩
            have o9 := o8.keep_nil f9
            have k9 := k8.keep_nil f9
            have r9 := r8.keep_nil f9
            have F9 := F8.trans_nil f9
            go_wp2_with
              (first
                | (refine wpList_ldS stKeys rfl rfl gs 0 rfl (keyC A9 (nK l) cap9 (tgK l)) (keyC_len _ _ _ lt32) k9.range0 ?_)
                | (refine wpList_stB stKeys rfl rfl w.heap.size rfl (keyC A9 (nK l) cap9 (tgK l)) rfl (keyC_len _ _ _ lt32) (keyC_ones _ _ _ _) (keyC none 0 0 zT) (keyC_len _ _ _ zT_len) o9 ?_; intro wc hc fc zc))
            try simp only [Exit.inBlock, Exit.then]
            refine bodyPost_ret (results_cell2 stKeys rfl rfl (keyC_len _ _ _ lt32) hc) rfl ?_
            have e9 : decK l = (esK l, tgK l) := by rw [decK, HD.out]; rfl
            have rc := (r9.keep fc (fun g hg => by have := r8.lt g hg; simp; omega)).mono (B := w.heap.size) (by omega)
            refine ⟨A9, cap9, by rw [e9, HD.out, hle]; rfl, by rw [e9, hle]; exact rc, F9.trans fc (fun i hi => .inr (by simp at hi; omega))⟩
        · have hd : okK l = false := by rw [EK.out, show decide (l.take 4 = markK) = false by rw [decide_eq_false_iff_not]; exact hm]; simp
          have HD := Lib.hid hd
          have hmb : (l.take 4 == [75, 69, 89, 83]) = false := by rw [beq_eq_false_iff_ne]; exact hm
          clear hz8 hm hd
          go_wp2_with fail
          refine cc.mono ?_
          rintro e w9 ⟨rfl, rfl⟩
          go_wp2_with
            (first
              | (refine wpList_bld rfl rfl (.agg (keyC none 0 0 zT).toArray) ?_ ?_; exact keysZero _)
              | (refine wpList_stB stKeys rfl rfl w.heap.size rfl (keyC none 0 0 zT) rfl (keyC_len _ _ _ zT_len) (keyC_ones _ _ _ _) (keyC none 0 0 zT) (keyC_len _ _ _ zT_len) o8 ?_; intro wc hc fc zc))
          try simp only [Exit.inBlock, Exit.then]
          refine bodyPost_ret (results_cell2 stKeys rfl rfl (keyC_len _ _ _ zT_len) hc) rfl ?_
          exact DecK.no HD.out (F8.trans fc (fun i hi => .inr (by simp at hi; omega)))
    · have hd : okK l = false := by
        rw [okK, show decide (nK l ≤ 2) = false by rw [decide_eq_false_iff_not]; omega]; simp
      have HD := Lib.hid hd
      clear hd
      go_wp2_with
        (first
          | (refine wpList_bld rfl rfl (.agg (keyC none 0 0 zT).toArray) ?_ ?_; exact keysZero _)
          | (refine wpList_stB stKeys rfl rfl w.heap.size rfl (keyC none 0 0 zT) rfl (keyC_len _ _ _ zT_len) (keyC_ones _ _ _ _) (keyC none 0 0 zT) (keyC_len _ _ _ zT_len) o8 ?_; intro wc hc fc zc))
      try simp only [Exit.inBlock, Exit.then]
      refine bodyPost_ret (results_cell2 stKeys rfl rfl (keyC_len _ _ _ zT_len) hc) rfl ?_
      exact DecK.no HD.out (F8.trans fc (fun i hi => .inr (by simp at hi; omega)))
  · have hd : okK l = false := by
      rw [okK, show decide (l.length = 512) = false by rw [decide_eq_false_iff_not, hn]; exact h512]; simp
    have HD := Lib.hid hd
    clear hd
    have d : ((n : Int) == 512) = false := by rw [beq_eq_false_iff_ne]; omega
    go_enter Try.func41, Try.ntmps41
    go_wp2_with
      (first
        | (refine wpList_alS stKeys rfl rfl ?_; intro wb hb fb zb; have ZB := Lib.hid zb; clear zb)
        | (refine wpList_bld rfl rfl (.agg (keyC none 0 0 zT).toArray) ?_ ?_; exact keysZero _)
        | (refine wpList_stB stKeys rfl rfl w.heap.size rfl (keyC none 0 0 zT) rfl (keyC_len _ _ _ zT_len) (keyC_ones _ _ _ _) (keyC none 0 0 zT) (keyC_len _ _ _ zT_len) hb ?_; intro wc hc fc zc))
    try simp only [Exit.inBlock, Exit.then]
    refine bodyPost_ret (results_cell2 stKeys rfl rfl (keyC_len _ _ _ zT_len) hc) rfl ?_
    exact DecK.no HD.out (fb.trans fc (fun i hi => .inr (by simp at hi; omega)))
end Go.Proofs.Ytmonedfafechcaa
