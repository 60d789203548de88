/-
  SlotKeys, the walk: the block of any keys, and what their tag is of.
-/
import Derived.Test.YtmonedfafechcaaKeysL
import Derived.Test.YtmonedfafechcaaKeysM
import Derived.Test.YtmonedfafechcaaBld
set_option linter.unusedSimpArgs false
set_option linter.unusedVariables false
set_option linter.unnecessarySimpa false
namespace Go.Proofs.Ytmonedfafechcaa
open Go.RowKit

section
variable {P : Program} {ops : Array Oper} {Q : Exit → Act → World → Prop} {S : World → Prop}
/-- One of two may come up. -/
theorem take_2 {md : Region.Mode} (i j : Nat) (di dj : Option Tmp) {oi oj : Oper} {fuel : Nat} {listed : Array Bool} {tm : Array Value} {df : List _} {w : World} (hi : ops[i]? = some oi) (hj : ops[j]? = some oj) (hdi : oi.dst = di) (hdj : oj.dst = dj) (hr : Region.ready md ops listed = [i, j])
    (hwi : Region.wanted oi (yielded ops tm) = true) (hwj : Region.wanted oj (yielded ops tm) = true)
    (h1 : ∀ K' : Act → World → Prop, (∀ v w', S w' → (S w' → wpAnyH P md ops Q S fuel (listed.setIfInBounds i true) ((⟨tm, df⟩ : Act).put di v) w') → K' ((⟨tm, df⟩ : Act).put oi.dst v) w') → Oper.wp P oi ⟨tm, df⟩ w K' Q)
    (h2 : ∀ K' : Act → World → Prop, (∀ v w', S w' → (S w' → wpAnyH P md ops Q S fuel (listed.setIfInBounds j true) ((⟨tm, df⟩ : Act).put dj v) w') → K' ((⟨tm, df⟩ : Act).put oj.dst v) w') → Oper.wp P oj ⟨tm, df⟩ w K' Q) : wpAnyH P md ops Q S (fuel + 1) listed ⟨tm, df⟩ w :=
  wpAnyH_ready hr (by simp) (AllReadyH.cons hi (fun K' hK => by rw [if_pos hwi]; exact h1 K' fun v w' hS hW => hK.out _ _ hS (by rw [hdi]; exact hW))
    (AllReadyH.cons hj (fun K' hK => by rw [if_pos hwj]; exact h2 K' fun v w' hS hW => hK.out _ _ hS (by rw [hdj]; exact hW)) AllReadyH.nil))
theorem wp_bs0 {o : Oper} {a : Act} {w : World} {K : Act → World → Prop} {t : TypeId} {n : Nat} {z : List Value} {ts : TypeId} (hT : StT P t n z) (ht : P.underlying ts = some (.slice t)) (ho : o.op = .buildSlice ts 0 #[])
    (h : K (a.put o.dst (.slice (some ⟨w.heap.size, 0, none⟩) 0 0)) (w.alloc (.cells #[] t))) : o.wp P a w K Q := by
  obtain ⟨i, hi, hs⟩ := Option.map_eq_some_iff.1 hT.sz
  refine wp_val (.slice (some ⟨w.heap.size, 0, none⟩) 0 0) (w.alloc (.cells #[] t)) ?_ h
  unfold execOp
  simp only [ho, Sem.run_bind, Sem.run_pure, Result.andThen_ok]
  simp [Instr.buildSlice, run_underlying ht, sizeOf, typeInfo, hi, hs, newRow, Instr.fill]
  have e : ∀ f : Nat → Value, Array.map f (Array.range 0) = #[] := fun f => by apply Array.eq_empty_of_size_eq_zero; simp
  rw [e]
end

theorem epsC_ones (es : List EpM) : ∀ u ∈ epsC es, u.oneCell' = true := by
  intro u hu
  obtain ⟨e, _, he⟩ := List.mem_flatMap.1 hu
  exact e.ones u he
set_option maxRecDepth 100000 in
theorem keysBuild (w : World) {B : Option Addr} {n d : Nat} {tg : List UInt8} (ht : tg.length = 32) : (Instr.build 68 #[(0, .slice B n d), (1, .agg (bvs tg).toArray)]).run Try.prog w = .ok (.agg (keyC B n d tg).toArray) w := by
  refine build_fill stKeys Try.underlying68 (pl := #[(0, 1), (1, 32)]) w (by kernel_rfl) _ _ ?_
  refine fill_part (off := 0) (new := [.slice B n d]) rfl rfl (by show 1 ≤ (keyC none 0 0 zT).length; rw [keyC_len _ _ _ zT_len]; omega) ?_
  refine fill_part (off := 1) (new := bvs tg) (by rw [bvs_length, ht]; rfl) rfl (by rw [bvs_length, ht]; simp [keyC, zT, bvs]) ?_
  have e := set_ktg (A := B) (n := n) (c := d) (tg := zT) (q := tg) zT_len ht
  exact congrArg some e

set_option maxRecDepth 100000 in
set_option maxHeartbeats 4000000 in
theorem slotKy_any (w : World) {A : Option Addr} {n c : Nat} {es : List EpM} {tg : List UInt8} (hK : KOk w A n c es tg) (h72 : n * 72 ≤ 140737488351232) :
    Calls Try.prog 12 #[.agg (keyC A n c tg).toArray] w fun e w' => e = .returned (.bool true) ∧ Fr [] w w' := by
  go_enter Try.func12, Try.ntmps12
  go_upto_region 1 with
    (first
      | (refine wpList_boxS rfl rfl (keyC A n c tg) rfl ?_; intro w1 h1 f1 z1; have Z1 := Lib.hid z1; clear z1; obtain ⟨g1, hg1⟩ : ∃ g1, w.heap.size = g1 := ⟨_, rfl⟩; rw [hg1] at h1; rw [hg1]; have HG1 := Lib.hid hg1; clear hg1))
  have K1 := hK.keep_nil f1
  have hKK := hK
  clear hK
  have c0 := h1.cell 0
  rw [show (keyC A n c tg).toArray[0]? = some (.slice A n c) from rfl] at c0
  go_cut [3] (fun s3 wx => ∃ g3 B d, s3 = .pointer (some ⟨g3, 0, none⟩) ∧ Blk wx g3 68 (keyC B n d tg).toArray ∧ KOk wx B n d es tg ∧ Fr [] w1 wx)
  case first =>
    try simp only [Act.put, List.setIfInBounds_toArray, List.set_cons_zero, List.set_cons_succ]
    refine wp_region_held_drew (S := fun w' => Fr [] w1 w' ∧ w'.cell? ⟨g1, 0, none⟩ = some (.slice A n c)) (by kernel_rfl) ⟨(Fr.refl _ _).drew, c0⟩ (fun hHeld => ?_)
    refine take_w 1 (some 14) (v := ?_) rfl rfl (by kernel_rfl) (by kernel_rfl) (by kernel_rfl) (fun _ _ _ h => h) (by rfl) ?_ hHeld ?_
    rotate_left
    · (intro w hSw; (try dsimp only at hSw); go_simp; try with_reducible rfl)
    simp only [Act.put, List.setIfInBounds_toArray, List.set_cons_zero, List.set_cons_succ]
    refine take_w 2 (some 15) (v := ?_) rfl rfl (by kernel_rfl) (by kernel_rfl) (by kernel_rfl) (fun _ _ _ h => h) (by rfl) ?_ hHeld ?_
    rotate_left
    · (intro w hSw; (try dsimp only at hSw); go_simp; try with_reducible rfl)
    simp only [Act.put, List.setIfInBounds_toArray, List.set_cons_zero, List.set_cons_succ]
    refine take_w 4 (some 17) (v := ?_) rfl rfl (by kernel_rfl) (by kernel_rfl) (by kernel_rfl) (fun _ _ _ h => h) (by rfl) ?_ hHeld ?_
    rotate_left
    · (intro w hSw; (try dsimp only at hSw); go_simp; try with_reducible rfl)
    simp only [Act.put, List.setIfInBounds_toArray, List.set_cons_zero, List.set_cons_succ]
    refine take_w 5 (some 18) (v := .agg (bvs tg).toArray) rfl rfl (by kernel_rfl) (by kernel_rfl) (by kernel_rfl) (fun _ _ _ h => h) (by rfl) (fun w hSw => hy_ld stA32 rfl g1 1 rfl (bvs tg) (by rw [bvs_length, hKK.tg]) (keyRange (h1.keep_nil hSw.1))) hHeld ?_
    try simp only [Act.put, List.setIfInBounds_toArray, List.set_cons_zero, List.set_cons_succ]
    generalize w1.drew = w0 at *
    refine take_2 0 7 (some 13) (some 3) rfl rfl rfl rfl (by kernel_rfl) (by rfl) (by rfl) (fun K hK => ?_) (fun K hK => ?_)
    · skip
      refine wp_bs0 stEp Try.underlying66 rfl ?_
      have r0 : Row _ w1.heap.size 102 65 _ 0 [] := Row.new w0 #[] 102 65 0 (0, 0) (free_zero _) (by unfold maxLen; omega) rfl hHeld.1.size
      have fw2 : Fr [] w0 _ := (Fr.refl _ w0).alloc (.cells #[] 102)
      generalize (w0).alloc (.cells #[] 102) = w2 at *
      refine hK _ _ ⟨(hHeld.1.trans_nil fw2), (fw2.cell (by simp) hHeld.2)⟩ (fun hHn => ?_)
      clear hHeld
      have hHeld := hHn
      clear hHn
      clear hK K
      try simp only [Act.put, List.setIfInBounds_toArray, List.set_cons_zero, List.set_cons_succ]
      refine take_2 3 7 (some 16) (some 3) rfl rfl rfl rfl (by kernel_rfl) (by rfl) (by rfl) (fun K hK => ?_) (fun K hK => ?_)
      · skip
        have kw := K1.keep_nil hHeld.1
        refine wp_app rfl slEp w1.heap.size _ 0 [] rfl r0 A n c (epsC es) rfl (by rw [epsC_length es hKK.each, hKK.len]) kw.rd (epsC_ones es) kw.nil (by omega) hHeld.1.size (fun v3 w3 q1 q2 q3 q4 => ?_)
        have fw3 : Fr [] w1 w3 := hHeld.1.trans q2 (fun i hi => .inr (r0.lt i (mem_own.1 hi)).1)
        rw [Nat.zero_add, List.nil_append] at q1
        skip
        refine hK _ _ ⟨fw3, (fw3.cell (by simp) c0)⟩ (fun hHn => ?_)
        clear hHeld
        have hHeld := hHn
        clear hHn
        clear hK K
        try simp only [Act.put, List.setIfInBounds_toArray, List.set_cons_zero, List.set_cons_succ]
        have rq := q1
        obtain ⟨B, d, rfl, -, -, -, -, -⟩ := q1.shape
        refine take_w 6 (some 19) (v := .agg (keyC B n d tg).toArray) rfl rfl (by kernel_rfl) (by kernel_rfl) (by kernel_rfl) (fun _ _ _ h => h) (by rfl) (fun w hSw => ?_) hHeld ?_
        · refine hy_bld (ps' := #[(0, .slice B n d), (1, .agg (bvs tg).toArray)]) rfl (by kernel_rfl) _ ?_
          exact keysBuild w hKK.tg
        try simp only [Act.put, List.setIfInBounds_toArray, List.set_cons_zero, List.set_cons_succ]
        refine take_cd 7 (some 3) rfl rfl (by kernel_rfl) (by rfl) (fun K hK => ?_)
        refine wp_alS stKeys rfl (fun w4 hk fw4 zw4 => ?_)
        have lk := hHeld.1.size
        refine hK _ _ ⟨(hHeld.1.trans_nil fw4), (fw4.cell (by simp) hHeld.2)⟩ (fun hHn => ?_)
        clear hHeld
        have hHeld := hHn
        clear hHn
        clear hK K
        try simp only [Act.put, List.setIfInBounds_toArray, List.set_cons_zero, List.set_cons_succ]
        obtain ⟨gk, hgk⟩ : ∃ gk, (w3).heap.size = gk := ⟨_, rfl⟩
        rw [hgk] at hk lk
        rw [hgk]
        have HGK := Lib.hid hgk
        clear hgk
        have rq := rq.keep_nil fw4
        refine take_cd 8 none rfl rfl (by kernel_rfl) (by rfl) (fun K hK => ?_)
        refine wp_stB stKeys rfl gk rfl (keyC B n d tg) rfl (keyC_len _ _ _ hKK.tg) (keyC_ones _ _ _ _) (keyC none 0 0 zT) (keyC_len _ _ _ zT_len) hk (fun w6 h6 f6 z6 => ?_)
        have F6 : Fr [] w1 w6 := hHeld.1.trans f6 (fun i hi => .inr (by simp at hi; omega))
        refine hK _ _ ⟨F6, (F6.cell (by simp) c0)⟩ (fun hHn => ?_)
        clear hHeld
        have hHeld := hHn
        clear hHn
        clear hK K
        try simp only [Act.put, List.setIfInBounds_toArray, List.set_cons_zero, List.set_cons_succ]
        refine wpAnyH_done (by kernel_rfl) ?_ _
        have rz := rq.keep f6 (fun g hg hm => (rq.ne_blk hk (by decide)) (by rw [hg]; simp at hm; rw [hm]))
        go_wp2_with fail
        go_meet
        exact ⟨gk, B, d, rfl, h6, rz.kok hKK.len hKK.each hKK.tg hKK.reach, F6⟩
      · skip
        refine wp_alS stKeys rfl (fun w3 hk fw3 zw3 => ?_)
        have lk := hHeld.1.size
        refine hK _ _ ⟨(hHeld.1.trans_nil fw3), (fw3.cell (by simp) hHeld.2)⟩ (fun hHn => ?_)
        clear hHeld
        have hHeld := hHn
        clear hHn
        clear hK K
        try simp only [Act.put, List.setIfInBounds_toArray, List.set_cons_zero, List.set_cons_succ]
        obtain ⟨gk, hgk⟩ : ∃ gk, (w2).heap.size = gk := ⟨_, rfl⟩
        rw [hgk] at hk lk
        rw [hgk]
        have HGK := Lib.hid hgk
        clear hgk
        have r0 := r0.keep_nil fw3
        refine take_cd 3 (some 16) rfl rfl (by kernel_rfl) (by rfl) (fun K hK => ?_)
        have kw := K1.keep_nil hHeld.1
        refine wp_app rfl slEp w1.heap.size _ 0 [] rfl r0 A n c (epsC es) rfl (by rw [epsC_length es hKK.each, hKK.len]) kw.rd (epsC_ones es) kw.nil (by omega) hHeld.1.size (fun v3 w4 q1 q2 q3 q4 => ?_)
        have fw4 : Fr [] w1 w4 := hHeld.1.trans q2 (fun i hi => .inr (r0.lt i (mem_own.1 hi)).1)
        rw [Nat.zero_add, List.nil_append] at q1
        have hk := hk.keep q2 (fun hm => r0.ne_blk hk (by decide) (mem_own.1 hm))
        refine hK _ _ ⟨fw4, (fw4.cell (by simp) c0)⟩ (fun hHn => ?_)
        clear hHeld
        have hHeld := hHn
        clear hHn
        clear hK K
        try simp only [Act.put, List.setIfInBounds_toArray, List.set_cons_zero, List.set_cons_succ]
        have rq := q1
        obtain ⟨B, d, rfl, -, -, -, -, -⟩ := q1.shape
        refine take_w 6 (some 19) (v := .agg (keyC B n d tg).toArray) rfl rfl (by kernel_rfl) (by kernel_rfl) (by kernel_rfl) (fun _ _ _ h => h) (by rfl) (fun w hSw => ?_) hHeld ?_
        · refine hy_bld (ps' := #[(0, .slice B n d), (1, .agg (bvs tg).toArray)]) rfl (by kernel_rfl) _ ?_
          exact keysBuild w hKK.tg
        try simp only [Act.put, List.setIfInBounds_toArray, List.set_cons_zero, List.set_cons_succ]
        refine take_cd 8 none rfl rfl (by kernel_rfl) (by rfl) (fun K hK => ?_)
        refine wp_stB stKeys rfl gk rfl (keyC B n d tg) rfl (keyC_len _ _ _ hKK.tg) (keyC_ones _ _ _ _) (keyC none 0 0 zT) (keyC_len _ _ _ zT_len) hk (fun w6 h6 f6 z6 => ?_)
        have F6 : Fr [] w1 w6 := hHeld.1.trans f6 (fun i hi => .inr (by simp at hi; omega))
        refine hK _ _ ⟨F6, (F6.cell (by simp) c0)⟩ (fun hHn => ?_)
        clear hHeld
        have hHeld := hHn
        clear hHn
        clear hK K
        try simp only [Act.put, List.setIfInBounds_toArray, List.set_cons_zero, List.set_cons_succ]
        refine wpAnyH_done (by kernel_rfl) ?_ _
        have rz := rq.keep f6 (fun g hg hm => (rq.ne_blk hk (by decide)) (by rw [hg]; simp at hm; rw [hm]))
        go_wp2_with fail
        go_meet
        exact ⟨gk, B, d, rfl, h6, rz.kok hKK.len hKK.each hKK.tg hKK.reach, F6⟩
    · skip
      refine wp_alS stKeys rfl (fun w2 hk fw2 zw2 => ?_)
      have lk := hHeld.1.size
      refine hK _ _ ⟨(hHeld.1.trans_nil fw2), (fw2.cell (by simp) hHeld.2)⟩ (fun hHn => ?_)
      clear hHeld
      have hHeld := hHn
      clear hHn
      clear hK K
      try simp only [Act.put, List.setIfInBounds_toArray, List.set_cons_zero, List.set_cons_succ]
      obtain ⟨gk, hgk⟩ : ∃ gk, (w0).heap.size = gk := ⟨_, rfl⟩
      rw [hgk] at hk lk
      rw [hgk]
      have HGK := Lib.hid hgk
      clear hgk
      refine take_cd 0 (some 13) rfl rfl (by kernel_rfl) (by rfl) (fun K hK => ?_)
      refine wp_bs0 stEp Try.underlying66 rfl ?_
      have r0 : Row _ w1.heap.size 102 65 _ 0 [] := Row.new w2 #[] 102 65 0 (0, 0) (free_zero _) (by unfold maxLen; omega) rfl hHeld.1.size
      have fw3 : Fr [] w2 _ := (Fr.refl _ w2).alloc (.cells #[] 102)
      generalize (w2).alloc (.cells #[] 102) = w3 at *
      refine hK _ _ ⟨(hHeld.1.trans_nil fw3), (fw3.cell (by simp) hHeld.2)⟩ (fun hHn => ?_)
      clear hHeld
      have hHeld := hHn
      clear hHn
      clear hK K
      try simp only [Act.put, List.setIfInBounds_toArray, List.set_cons_zero, List.set_cons_succ]
      have hk := hk.keep_nil fw3
      refine take_cd 3 (some 16) rfl rfl (by kernel_rfl) (by rfl) (fun K hK => ?_)
      have kw := K1.keep_nil hHeld.1
      refine wp_app rfl slEp w1.heap.size _ 0 [] rfl r0 A n c (epsC es) rfl (by rw [epsC_length es hKK.each, hKK.len]) kw.rd (epsC_ones es) kw.nil (by omega) hHeld.1.size (fun v3 w4 q1 q2 q3 q4 => ?_)
      have fw4 : Fr [] w1 w4 := hHeld.1.trans q2 (fun i hi => .inr (r0.lt i (mem_own.1 hi)).1)
      rw [Nat.zero_add, List.nil_append] at q1
      have hk := hk.keep q2 (fun hm => r0.ne_blk hk (by decide) (mem_own.1 hm))
      refine hK _ _ ⟨fw4, (fw4.cell (by simp) c0)⟩ (fun hHn => ?_)
      clear hHeld
      have hHeld := hHn
      clear hHn
      clear hK K
      try simp only [Act.put, List.setIfInBounds_toArray, List.set_cons_zero, List.set_cons_succ]
      have rq := q1
      obtain ⟨B, d, rfl, -, -, -, -, -⟩ := q1.shape
      refine take_w 6 (some 19) (v := .agg (keyC B n d tg).toArray) rfl rfl (by kernel_rfl) (by kernel_rfl) (by kernel_rfl) (fun _ _ _ h => h) (by rfl) (fun w hSw => ?_) hHeld ?_
      · refine hy_bld (ps' := #[(0, .slice B n d), (1, .agg (bvs tg).toArray)]) rfl (by kernel_rfl) _ ?_
        exact keysBuild w hKK.tg
      try simp only [Act.put, List.setIfInBounds_toArray, List.set_cons_zero, List.set_cons_succ]
      refine take_cd 8 none rfl rfl (by kernel_rfl) (by rfl) (fun K hK => ?_)
      refine wp_stB stKeys rfl gk rfl (keyC B n d tg) rfl (keyC_len _ _ _ hKK.tg) (keyC_ones _ _ _ _) (keyC none 0 0 zT) (keyC_len _ _ _ zT_len) hk (fun w6 h6 f6 z6 => ?_)
      have F6 : Fr [] w1 w6 := hHeld.1.trans f6 (fun i hi => .inr (by simp at hi; omega))
      refine hK _ _ ⟨F6, (F6.cell (by simp) c0)⟩ (fun hHn => ?_)
      clear hHeld
      have hHeld := hHn
      clear hHn
      clear hK K
      try simp only [Act.put, List.setIfInBounds_toArray, List.set_cons_zero, List.set_cons_succ]
      refine wpAnyH_done (by kernel_rfl) ?_ _
      have rz := rq.keep f6 (fun g hg hm => (rq.ne_blk hk (by decide)) (by rw [hg]; simp at hm; rw [hm]))
      go_wp2_with fail
      go_meet
      exact ⟨gk, B, d, rfl, h6, rz.kok hKK.len hKK.each hKK.tg hKK.reach, F6⟩
  case rest =>
    obtain ⟨g3, B, d, rfl, h3, K3, f3⟩ := hcut
    have F3 := f1.trans_nil f3
    have i1 := h1.keep_nil f3
    have J3 := K1.keep_nil f3
    clear h1 K1 f1 f3 c0
    cases hr : rightB es
    · have HR := Lib.hid hr
      clear hr
      go_wp2_with
        (first
          | (refine wpList_ldS stKeys rfl rfl g3 0 rfl (keyC B n d tg) (keyC_len _ _ _ hKK.tg) h3.range0 ?_)
          | (refine wpList_ldS stKeys rfl rfl g1 0 rfl (keyC A n c tg) (keyC_len _ _ _ hKK.tg) i1.range0 ?_))
      have cc := encKeys_any _ K3
      unfold EncK at cc
      rw [HR.out] at cc
      simp only [Bool.false_eq_true, if_false, if_true] at cc
      try simp only [HL7.out] at cc
      refine cc.mono ?_
      clear cc
      rintro e w4 ⟨v4, rfl, r4, f4⟩
      have h3 := h3.keep_nil f4
      have i1 := i1.keep_nil f4
      have K4 := K3.keep_nil f4
      have J4 := J3.keep_nil f4
      have F4 := F3.trans_nil f4
      clear K3 J3 F3
      obtain ⟨A4, c4, rfl, -, -, -, -, -⟩ := r4.shape
      go_wp2_with
        (first
          | (refine wpList_ldS stKeys rfl rfl g3 0 rfl (keyC B n d tg) (keyC_len _ _ _ hKK.tg) h3.range0 ?_)
          | (refine wpList_ldS stKeys rfl rfl g1 0 rfl (keyC A n c tg) (keyC_len _ _ _ hKK.tg) i1.range0 ?_))
      have cc := xEncKeys_any _ J4
      unfold EncK at cc
      rw [HR.out] at cc
      simp only [Bool.false_eq_true, if_false, if_true] at cc
      try simp only [HL7.out] at cc
      refine cc.mono ?_
      clear cc
      rintro e w5 ⟨v5, rfl, r5, f5⟩
      have h3 := h3.keep_nil f5
      have i1 := i1.keep_nil f5
      have K5 := K4.keep_nil f5
      have J5 := J4.keep_nil f5
      have F5 := F4.trans_nil f5
      clear K4 J4 F4
      have r4 := r4.keep_nil f5
      obtain ⟨A5, c5, rfl, -, -, -, -, -⟩ := r5.shape
      go_wp2_with
        (first
          | (refine wpList_ldS stKeys rfl rfl g3 0 rfl (keyC B n d tg) (keyC_len _ _ _ hKK.tg) h3.range0 ?_)
          | (refine wpList_ldS stKeys rfl rfl g1 0 rfl (keyC A n c tg) (keyC_len _ _ _ hKK.tg) i1.range0 ?_))
      have cc := sealed_any _ K5
      unfold EncK at cc
      rw [HR.out] at cc
      simp only [Bool.false_eq_true, if_false, if_true] at cc
      try simp only [HL7.out] at cc
      refine cc.mono ?_
      clear cc
      rintro e w6 ⟨v6, rfl, r6, f6⟩
      have h3 := h3.keep_nil f6
      have i1 := i1.keep_nil f6
      have K6 := K5.keep_nil f6
      have J6 := J5.keep_nil f6
      have F6 := F5.trans_nil f6
      clear K5 J5 F5
      have r4 := r4.keep_nil f6
      have r5 := r5.keep_nil f6
      obtain ⟨A6, c6, rfl, -, -, -, -, -⟩ := r6.shape
      go_wp2_with
        (first
          | (refine wpList_ldS stKeys rfl rfl g3 0 rfl (keyC B n d tg) (keyC_len _ _ _ hKK.tg) h3.range0 ?_)
          | (refine wpList_ldS stKeys rfl rfl g1 0 rfl (keyC A n c tg) (keyC_len _ _ _ hKK.tg) i1.range0 ?_))
      have cc := xSealed_any _ J6
      unfold EncK at cc
      rw [HR.out] at cc
      simp only [Bool.false_eq_true, if_false, if_true] at cc
      try simp only [HL7.out] at cc
      refine cc.mono ?_
      clear cc
      rintro e w7 ⟨v7, rfl, r7, f7⟩
      have h3 := h3.keep_nil f7
      have i1 := i1.keep_nil f7
      have K7 := K6.keep_nil f7
      have J7 := J6.keep_nil f7
      have F7 := F6.trans_nil f7
      clear K6 J6 F6
      have r4 := r4.keep_nil f7
      have r5 := r5.keep_nil f7
      have r6 := r6.keep_nil f7
      obtain ⟨A7, c7, rfl, -, -, -, -, -⟩ := r7.shape
      go_wp2_with fail
      refine (lives12_any _).mono ?_
      rintro e w8 ⟨rfl, f8⟩
      have h3 := h3.keep_nil f8
      have i1 := i1.keep_nil f8
      have K8 := K7.keep_nil f8
      have J8 := J7.keep_nil f8
      have F8 := F7.trans_nil f8
      clear K7 J7 F7
      have r4 := r4.keep_nil f8
      have E4 := r4.str
      have E5 := (r5.keep_nil f8).str
      have E6 := (r6.keep_nil f8).str
      have E7 := (r7.keep_nil f8).str
      clear r5 r6 r7 f4 f5 f6 f7 f8
      go_wp2_with
        (first
          | (refine wpList_ldS stKeys rfl rfl g3 0 rfl (keyC B n d tg) (keyC_len _ _ _ hKK.tg) h3.range0 ?_)
          | (refine wpList_ldS stKeys rfl rfl g1 0 rfl (keyC A n c tg) (keyC_len _ _ _ hKK.tg) i1.range0 ?_))
      refine (same_yes w8 K8 J8).mono ?_
      rintro e w9 ⟨rfl, f9⟩
      go_wp2_with fail
      go_ret
      exact ⟨rfl, F8.trans_nil f9⟩
    · have HR := Lib.hid hr
      have okd := okK_enc hKK.each hKK.tg hr
      have HOK := Lib.hid okd.1
      have HDK := Lib.hid okd.2
      have hl7 : (keyBytes es tg).length = 512 := keyBytes_len hKK.each hKK.tg (by have := (right_fit hr hKK.each).1; omega)
      have HL7 := Lib.hid hl7
      have HN := Lib.hid hKK.len
      clear hr hl7 okd
      go_wp2_with
        (first
          | (refine wpList_ldS stKeys rfl rfl g3 0 rfl (keyC B n d tg) (keyC_len _ _ _ hKK.tg) h3.range0 ?_)
          | (refine wpList_ldS stKeys rfl rfl g1 0 rfl (keyC A n c tg) (keyC_len _ _ _ hKK.tg) i1.range0 ?_))
      have cc := encKeys_any _ K3
      unfold EncK at cc
      rw [HR.out] at cc
      simp only [Bool.false_eq_true, if_false, if_true] at cc
      try simp only [HL7.out] at cc
      refine cc.mono ?_
      clear cc
      rintro e w4 ⟨v4, rfl, r4, f4⟩
      have h3 := h3.keep_nil f4
      have i1 := i1.keep_nil f4
      have K4 := K3.keep_nil f4
      have J4 := J3.keep_nil f4
      have F4 := F3.trans_nil f4
      clear K3 J3 F3
      obtain ⟨A4, c4, rfl, -, -, -, -, -⟩ := r4.shape
      go_wp2_with
        (first
          | (refine wpList_ldS stKeys rfl rfl g3 0 rfl (keyC B n d tg) (keyC_len _ _ _ hKK.tg) h3.range0 ?_)
          | (refine wpList_ldS stKeys rfl rfl g1 0 rfl (keyC A n c tg) (keyC_len _ _ _ hKK.tg) i1.range0 ?_))
      have cc := xEncKeys_any _ J4
      unfold EncK at cc
      rw [HR.out] at cc
      simp only [Bool.false_eq_true, if_false, if_true] at cc
      try simp only [HL7.out] at cc
      refine cc.mono ?_
      clear cc
      rintro e w5 ⟨v5, rfl, r5, f5⟩
      have h3 := h3.keep_nil f5
      have i1 := i1.keep_nil f5
      have K5 := K4.keep_nil f5
      have J5 := J4.keep_nil f5
      have F5 := F4.trans_nil f5
      clear K4 J4 F4
      have r4 := r4.keep_nil f5
      obtain ⟨A5, c5, rfl, -, -, -, -, -⟩ := r5.shape
      go_wp2_with
        (first
          | (refine wpList_ldS stKeys rfl rfl g3 0 rfl (keyC B n d tg) (keyC_len _ _ _ hKK.tg) h3.range0 ?_)
          | (refine wpList_ldS stKeys rfl rfl g1 0 rfl (keyC A n c tg) (keyC_len _ _ _ hKK.tg) i1.range0 ?_))
      have cc := sealed_any _ K5
      unfold EncK at cc
      rw [HR.out] at cc
      simp only [Bool.false_eq_true, if_false, if_true] at cc
      try simp only [HL7.out] at cc
      refine cc.mono ?_
      clear cc
      rintro e w6 ⟨v6, rfl, r6, f6⟩
      have h3 := h3.keep_nil f6
      have i1 := i1.keep_nil f6
      have K6 := K5.keep_nil f6
      have J6 := J5.keep_nil f6
      have F6 := F5.trans_nil f6
      clear K5 J5 F5
      have r4 := r4.keep_nil f6
      have r5 := r5.keep_nil f6
      obtain ⟨A6, c6, rfl, -, -, -, -, -⟩ := r6.shape
      go_wp2_with
        (first
          | (refine wpList_ldS stKeys rfl rfl g3 0 rfl (keyC B n d tg) (keyC_len _ _ _ hKK.tg) h3.range0 ?_)
          | (refine wpList_ldS stKeys rfl rfl g1 0 rfl (keyC A n c tg) (keyC_len _ _ _ hKK.tg) i1.range0 ?_))
      have cc := xSealed_any _ J6
      unfold EncK at cc
      rw [HR.out] at cc
      simp only [Bool.false_eq_true, if_false, if_true] at cc
      try simp only [HL7.out] at cc
      refine cc.mono ?_
      clear cc
      rintro e w7 ⟨v7, rfl, r7, f7⟩
      have h3 := h3.keep_nil f7
      have i1 := i1.keep_nil f7
      have K7 := K6.keep_nil f7
      have J7 := J6.keep_nil f7
      have F7 := F6.trans_nil f7
      clear K6 J6 F6
      have r4 := r4.keep_nil f7
      have r5 := r5.keep_nil f7
      have r6 := r6.keep_nil f7
      obtain ⟨A7, c7, rfl, -, -, -, -, -⟩ := r7.shape
      go_wp2_with fail
      refine (lives12_any _).mono ?_
      rintro e w8 ⟨rfl, f8⟩
      have h3 := h3.keep_nil f8
      have i1 := i1.keep_nil f8
      have K8 := K7.keep_nil f8
      have J8 := J7.keep_nil f8
      have F8 := F7.trans_nil f8
      clear K7 J7 F7
      have r4 := r4.keep_nil f8
      have E4 := r4.str
      have E5 := (r5.keep_nil f8).str
      have E6 := (r6.keep_nil f8).str
      have E7 := (r7.keep_nil f8).str
      clear r5 r6 r7 f4 f5 f6 f7 f8
      have n4 := r4.rd
      go_wp2_with
        (first
          | (refine wpList_ldS stKeys rfl rfl g3 0 rfl (keyC B n d tg) (keyC_len _ _ _ hKK.tg) h3.range0 ?_)
          | (refine wpList_ldS stKeys rfl rfl g1 0 rfl (keyC A n c tg) (keyC_len _ _ _ hKK.tg) i1.range0 ?_))
      refine (same_yes w8 K8 J8).mono ?_
      rintro e w9 ⟨rfl, f9⟩
      have i9 := i1.keep_nil f9
      have J9 := J8.keep_nil f9
      have F9 := F8.trans_nil f9
      have rd4 := n4.1.keep_nil f9
      have nn4 := n4.2.2
      clear n4 r4 i1 J8 K8 F8 f9 E4 E5 E6 E7
      go_wp2_with fail
      have cc := decKeys_any w9 A4 (keyBytes es tg) 512 c4 HL7.out rd4 nn4 (by omega)
      unfold DecK at cc
      rw [HOK.out, HDK.out] at cc
      simp only [if_true, HN.out] at cc
      refine cc.mono ?_
      clear cc
      rintro e wa ⟨Aa, ca, rfl, ra, fa⟩
      have ia := i9.keep_nil fa
      have Ja := J9.keep_nil fa
      have Fa := F9.trans_nil fa
      have Ka := ra.kok hKK.len hKK.each hKK.tg hKK.reach
      clear i9 J9 F9 fa rd4 ra
      go_wp2_with
        (first
          | (refine wpList_alS stKeys rfl rfl ?_; intro wb hb fb zb; have ZB := Lib.hid zb; clear zb; obtain ⟨gb, hgb⟩ : ∃ gb, wa.heap.size = gb := ⟨_, rfl⟩; rw [hgb] at hb; rw [hgb]; have HGB := Lib.hid hgb; clear hgb)
          | (refine wpList_stB stKeys rfl rfl gb rfl (keyC Aa n ca tg) rfl (keyC_len _ _ _ hKK.tg) (keyC_ones _ _ _ _) (keyC none 0 0 zT) (keyC_len _ _ _ zT_len) hb ?_; intro wc hc fc zc; have ZC := Lib.hid zc; clear zc; have fd : Fr [] wa wc := fb.trans fc (fun i hi => .inr (by have := HGB.out; simp at hi; omega)); have ic := ia.keep_nil fd)
          | (refine wpList_ldS stKeys rfl rfl gb 0 rfl (keyC Aa n ca tg) (keyC_len _ _ _ hKK.tg) hc.range0 ?_)
          | (refine wpList_ldS stKeys rfl rfl g1 0 rfl (keyC A n c tg) (keyC_len _ _ _ hKK.tg) ic.range0 ?_))
      refine (same_yes wc (Ka.keep_nil fd) (Ja.keep_nil fd)).mono ?_
      rintro e wd ⟨rfl, fdd⟩
      go_wp2_with fail
      go_ret
      exact ⟨rfl, (Fa.trans_nil fd).trans_nil fdd⟩
end Go.Proofs.Ytmonedfafechcaa
