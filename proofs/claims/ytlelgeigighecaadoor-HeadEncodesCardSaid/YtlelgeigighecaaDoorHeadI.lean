/-
  Contracts of layer 11: the reference's Decode.
-/
import Derived.Test.YtlelgeigighecaaDoorHeadG
import Derived.Test.YtlelgeigighecaaDoorHeadF
set_option linter.unusedSimpArgs false
set_option linter.unusedVariables false
set_option linter.unnecessarySimpa false
namespace Go.Proofs.YtlelgeigighecaaDoor
open Go.RowKit

theorem leN1 (l : List UInt8) (i : Nat) (h : i < l.length) : leN ((l.drop i).take 1) = (l[i]).toNat := by
  rw [List.drop_eq_getElem_cons h, List.take_succ_cons, List.take_zero]
  show l[i].toNat + 256 * 0 = _
  omega
theorem cellN {w : World} {ga oa : Nat} {l : List UInt8} (hr : Rd w (some ⟨ga, oa, none⟩) (bvs l)) (i : Nat) (h : i < l.length) : w.cell? ⟨ga, oa + i, none⟩ = some (.int .u8 ((leN ((l.drop i).take 1) : Nat) : Int)) := by
  obtain ⟨g, o, e, hc⟩ := hr (by intro h0; have := congrArg List.length h0; rw [bvs_length, List.length_nil] at this; omega)
  cases e
  rw [leN1 l i h]
  exact hc i _ (by simp [bvs, h, bv])
theorem hdrB_iff {l : List UInt8} (hl : l.length = 512) : hdrB l ↔ (hdr l).bytes = l :=
  ⟨hdr_bytes hl, fun e => by have := hdrB_bytes (hdr_ok hl); rwa [e] at this⟩
theorem set_par {h : HeadM} (t m a : Int) : (h.cells.toArray.toList.take 5 ++ [Value.int .i64 t, .int .i64 m, .int .i64 a] ++ h.cells.toArray.toList.drop (5 + [Value.int .i64 t, .int .i64 m, .int .i64 a].length)).toArray = ({ h with tim := t, mem := m, lan := a } : HeadM).cells.toArray := rfl
theorem cell_nam {w : World} {g t : Nat} {h : HeadM} {T : TypeId} (hb : Blk w g T h.cells.toArray) (x : UInt8) : Blk (w.setCell ⟨g, 8 + t, none⟩ (bv x)) g T ({ h with nam := h.nam.set t x } : HeadM).cells.toArray := by
  have := hb.set_ (8 + t) (bv x)
  rw [List.setIfInBounds_toArray] at this
  have e : h.cells.set (8 + t) (bv x) = ({ h with nam := h.nam.set t x } : HeadM).cells := by
    rw [show 8 + t = t + 8 by omega]
    show _ :: _ :: _ :: _ :: _ :: _ :: _ :: _ :: (bvs h.nam).set t (bv x) = _
    rw [show (bvs h.nam).set t (bv x) = bvs (h.nam.set t x) by simp [bvs, List.map_set]]
    rfl
  rwa [e] at this
theorem nam_at {w : World} {g t : Nat} {h : HeadM} {T : TypeId} (hb : Blk w g T h.cells.toArray) (ht : t < h.nam.length) : w.cell? ⟨g, 8 + t, none⟩ = some (bv h.nam[t]) := by
  rw [hb.cell, List.getElem?_toArray, show 8 + t = t + 8 by omega]
  show (bvs h.nam)[t]? = _
  simp [bvs, ht]
set_option maxRecDepth 100000 in
theorem headFive (w : World) (a b c d e : Nat) : (Instr.build 27 #[(0, .int .u64 (a : Int)), (1, .int .i64 (b : Int)), (2, .int .i64 (c : Int)), (3, .int .i64 (d : Int)), (4, .int .i64 (e : Int))]).run Tryd.prog w = .ok (.agg (HeadM.cells ⟨a, b, c, d, e, 0, 0, 0, List.replicate 16 0⟩).toArray) w := by kernel_rfl
set_option maxRecDepth 100000 in
theorem parThree (w : World) (a b c : Nat) : (Instr.build 24 #[(0, .int .i64 (a : Int)), (1, .int .i64 (b : Int)), (2, .int .i64 (c : Int))]).run Tryd.prog w = .ok (.agg #[.int .i64 (a : Int), .int .i64 (b : Int), .int .i64 (c : Int)]) w := by kernel_rfl

set_option maxRecDepth 100000 in
set_option maxHeartbeats 4000000 in
theorem xhDecode_any (w : World) (A : Option Addr) (l : List UInt8) (n c : Nat) (hn : l.length = n) (hr : Rd w A (bvs l)) (hA : A = none → n = 0) (hc : n ≤ c) :
    Calls Tryd.prog 22 #[.slice A n c] w (DecH w l) := by
  by_cases h512 : n = 512
  · subst h512
    have HN := Lib.hid hn
    obtain ⟨ga, oa, rfl⟩ : ∃ ga oa, A = some ⟨ga, oa, none⟩ := by
      obtain ⟨g', o', e', -⟩ := hr (by intro h0; have := congrArg List.length h0; rw [bvs_length, hn, List.length_nil] at this; omega)
      exact ⟨g', o', e'⟩
    have HR := Lib.hid (fun _ : Unit => hr)
    obtain ⟨v0, hv0⟩ : ∃ v, leN ((l.drop 8).take 8) = v := ⟨_, rfl⟩
    obtain ⟨v1, hv1⟩ : ∃ v, leN ((l.drop 16).take 4) = v := ⟨_, rfl⟩
    obtain ⟨v2, hv2⟩ : ∃ v, leN ((l.drop 20).take 1) = v := ⟨_, rfl⟩
    obtain ⟨v3, hv3⟩ : ∃ v, leN ((l.drop 21).take 2) = v := ⟨_, rfl⟩
    obtain ⟨v4, hv4⟩ : ∃ v, leN ((l.drop 23).take 1) = v := ⟨_, rfl⟩
    obtain ⟨v5, hv5⟩ : ∃ v, leN ((l.drop 24).take 1) = v := ⟨_, rfl⟩
    obtain ⟨v6, hv6⟩ : ∃ v, leN ((l.drop 25).take 2) = v := ⟨_, rfl⟩
    obtain ⟨v7, hv7⟩ : ∃ v, leN ((l.drop 27).take 1) = v := ⟨_, rfl⟩
    have b1 : v1 < 4294967296 := by rw [← hv1]; exact leN_at_lt l 16 4
    have b2 : v2 < 256 := by rw [← hv2]; exact leN_at_lt l 20 1
    have b3 : v3 < 65536 := by rw [← hv3]; exact leN_at_lt l 21 2
    have b4 : v4 < 256 := by rw [← hv4]; exact leN_at_lt l 23 1
    have b5 : v5 < 256 := by rw [← hv5]; exact leN_at_lt l 24 1
    have b6 : v6 < 65536 := by rw [← hv6]; exact leN_at_lt l 25 2
    have b7 : v7 < 256 := by rw [← hv7]; exact leN_at_lt l 27 1
    have c20 := cellN hr 20 (by omega)
    have c23 := cellN hr 23 (by omega)
    have c24 := cellN hr 24 (by omega)
    have c27 := cellN hr 27 (by omega)
    rw [hv2] at c20
    rw [hv4] at c23
    rw [hv5] at c24
    rw [hv7] at c27
    have vals : ∀ a k, k ≤ 8 → a + k ≤ 512 → ∀ (w' : World) (cc : Nat), Fr [] w w' → Calls Tryd.prog 57 #[.slice (some ⟨ga, oa + a, none⟩) k cc] w' fun e w'' => e = .returned (.int .u64 (leN ((l.drop a).take k) : Nat)) ∧ w' = w'' := fun a k hk hak w' cc f =>
      xhValue_any _ _ k cc w' (by rw [List.length_take, List.length_drop, hn]; omega) (by
        have := ((hr.keep_nil f).drop a).take k
        rw [← bvs_drop, ← bvs_take] at this
        simpa [addr_add] using this) hk
    have VV0 := Lib.hid (by have := vals 8 8 (by omega) (by omega); rwa [hv0] at this)
    have VV1 := Lib.hid (by have := vals 16 4 (by omega) (by omega); rwa [hv1] at this)
    have VV3 := Lib.hid (by have := vals 21 2 (by omega) (by omega); rwa [hv3] at this)
    have VV6 := Lib.hid (by have := vals 25 2 (by omega) (by omega); rwa [hv6] at this)
    have hh : (⟨v0, v1, v2, v3, v4, v5, v6, v7, (l.drop 28).take 16⟩ : HeadM) = hdr l := by
      rw [hdr, ← hv0, ← hv1, ← hv2, ← hv3, ← hv4, ← hv5, ← hv6, ← hv7]
    have HH := Lib.hid hh
    have C1 : IntKind.i64.wrap (v1 : Int) = v1 := by rw [IntWalk.i64_in _ (by omega)]
    have C2 : IntKind.i64.wrap (v2 : Int) = v2 := by rw [IntWalk.i64_in _ (by omega)]
    have C4 : IntKind.i64.wrap (v4 : Int) = v4 := by rw [IntWalk.i64_in _ (by omega)]
    have C5 : IntKind.i64.wrap (v5 : Int) = v5 := by rw [IntWalk.i64_in _ (by omega)]
    have C7 : IntKind.i64.wrap (v7 : Int) = v7 := by rw [IntWalk.i64_in _ (by omega)]
    have C3 : IntKind.i64.wrap (v3 : Int) = v3 := by rw [IntWalk.i64_in _ (by omega)]
    have C6 : IntKind.i64.wrap (v6 : Int) = v6 := by rw [IntWalk.i64_in _ (by omega)]
    have K16 : (16 : Int) ≤ c := by omega
    have K20 : (20 : Int) ≤ c := by omega
    have K23 : (23 : Int) ≤ c := by omega
    have K27 : (27 : Int) ≤ c := by omega
    have N8 : ¬ (c = 8) := by omega
    have N16 : ¬ (c = 16) := by omega
    have N21 : ¬ (c = 21) := by omega
    have N25 : ¬ (c = 25) := by omega
    clear hn hr vals hh hv0 hv1 hv2 hv3 hv4 hv5 hv6 hv7
    go_enter Tryd.func22, Tryd.ntmps22
    go_wp2_with
      (first
        | (refine wpList_alS stHead (o := ⟨some 2, _, _, _, _, _⟩) rfl rfl ?_; intro wb hb fb zb; have ZB := Lib.hid zb; clear zb; obtain ⟨g0, hg0⟩ : ∃ g0, w.heap.size = g0 := ⟨_, rfl⟩; rw [hg0] at hb; rw [hg0]; have HG0 := Lib.hid hg0; clear hg0))
    go_upto_region 3 with fail
    go_cut [4] from 12 to 32 (fun s4 wx => ∃ g4, s4 = .pointer (some ⟨g4, 0, none⟩) ∧ Blk wx g4 27 (HeadM.cells ⟨v0, v1, v2, v3, v4, 0, 0, 0, List.replicate 16 0⟩).toArray ∧ Fr [] wb wx ∧ wb.heap.size ≤ g4)
    case first =>
      go_wp2_with fail
      have fz := fb.drew
      have fbz := (Fr.refl [] wb).drew
      obtain ⟨wz, hwz⟩ : ∃ wz, wb.drew = wz := ⟨_, rfl⟩
      rw [hwz] at fz fbz
      refine wp_region_held_drew (S := fun w' => Fr [] wz w') (by kernel_rfl) (by rw [← hwz]; exact Fr.refl _ _) (fun hHeld => ?_)
      rw [hwz] at hHeld ⊢
      clear hwz
      have c20 := fz.cell (by simp) c20
      have c23 := fz.cell (by simp) c23
      refine take_w 0 (some 12) (v := ?_) rfl rfl (by kernel_rfl) (by kernel_rfl) (by kernel_rfl) (fun _ _ _ h => h) (by rfl) ?_ hHeld ?_
      rotate_left
      · (intro w hSw; (try dsimp only at hSw); go_simp; try with_reducible rfl)
      simp only [Act.put, List.setIfInBounds_toArray, List.set_cons_zero, List.set_cons_succ]
      refine take_w 1 (some 13) (v := ?_) rfl rfl (by kernel_rfl) (by kernel_rfl) (by kernel_rfl) (fun _ _ _ h => h) (by rfl) ?_ hHeld ?_
      rotate_left
      · (intro w hSw; (try dsimp only at hSw); go_simp; try with_reducible rfl)
      simp only [Act.put, List.setIfInBounds_toArray, List.set_cons_zero, List.set_cons_succ]
      refine take_w 3 (some 15) (v := ?_) rfl rfl (by kernel_rfl) (by kernel_rfl) (by kernel_rfl) (fun _ _ _ h => h) (by rfl) ?_ hHeld ?_
      rotate_left
      · (intro w hSw; (try dsimp only at hSw); go_simp; try with_reducible rfl)
      simp only [Act.put, List.setIfInBounds_toArray, List.set_cons_zero, List.set_cons_succ]
      refine take_w 4 (some 16) (v := ?_) rfl rfl (by kernel_rfl) (by kernel_rfl) (by kernel_rfl) (fun _ _ _ h => h) (by rfl) ?_ hHeld ?_
      rotate_left
      · (intro w hSw; (try dsimp only at hSw); go_simp; try with_reducible rfl)
      simp only [Act.put, List.setIfInBounds_toArray, List.set_cons_zero, List.set_cons_succ]
      refine take_w 7 (some 19) (v := ?_) rfl rfl (by kernel_rfl) (by kernel_rfl) (by kernel_rfl) (fun _ _ _ h => h) (by rfl) ?_ hHeld ?_
      rotate_left
      · (intro w hSw; (try dsimp only at hSw); go_simp; try with_reducible rfl)
      simp only [Act.put, List.setIfInBounds_toArray, List.set_cons_zero, List.set_cons_succ]
      refine take_w 8 (some 20) (v := ?_) rfl rfl (by kernel_rfl) (by kernel_rfl) (by kernel_rfl) (fun _ _ _ h => h) (by rfl) ?_ hHeld ?_
      rotate_left
      · (intro w hSw; (try dsimp only at hSw); go_simp; try with_reducible rfl)
      simp only [Act.put, List.setIfInBounds_toArray, List.set_cons_zero, List.set_cons_succ]
      refine take_w 9 (some 21) (v := .int .u8 (v2 : Int)) rfl rfl (by kernel_rfl) (by kernel_rfl) (by kernel_rfl) (fun _ _ _ h => h) (by rfl) (fun w hSw => by have c := hSw.cell (by simp) c20; go_simp) hHeld ?_
      try simp only [Act.put, List.setIfInBounds_toArray, List.set_cons_zero, List.set_cons_succ]
      refine take_w 10 (some 22) (v := ?_) rfl rfl (by kernel_rfl) (by kernel_rfl) (by kernel_rfl) (fun _ _ _ h => h) (by rfl) ?_ hHeld ?_
      rotate_left
      · (intro w hSw; (try dsimp only at hSw); go_simp; try with_reducible rfl)
      simp only [Act.put, List.setIfInBounds_toArray, List.set_cons_zero, List.set_cons_succ]
      refine take_w 11 (some 23) (v := ?_) rfl rfl (by kernel_rfl) (by kernel_rfl) (by kernel_rfl) (fun _ _ _ h => h) (by rfl) ?_ hHeld ?_
      rotate_left
      · (intro w hSw; (try dsimp only at hSw); go_simp; try with_reducible rfl)
      simp only [Act.put, List.setIfInBounds_toArray, List.set_cons_zero, List.set_cons_succ]
      refine take_w 12 (some 24) (v := ?_) rfl rfl (by kernel_rfl) (by kernel_rfl) (by kernel_rfl) (fun _ _ _ h => h) (by rfl) ?_ hHeld ?_
      rotate_left
      · (intro w hSw; (try dsimp only at hSw); go_simp; try with_reducible rfl)
      simp only [Act.put, List.setIfInBounds_toArray, List.set_cons_zero, List.set_cons_succ]
      refine take_w 15 (some 27) (v := ?_) rfl rfl (by kernel_rfl) (by kernel_rfl) (by kernel_rfl) (fun _ _ _ h => h) (by rfl) ?_ hHeld ?_
      rotate_left
      · (intro w hSw; (try dsimp only at hSw); go_simp; try with_reducible rfl)
      simp only [Act.put, List.setIfInBounds_toArray, List.set_cons_zero, List.set_cons_succ]
      refine take_w 16 (some 28) (v := ?_) rfl rfl (by kernel_rfl) (by kernel_rfl) (by kernel_rfl) (fun _ _ _ h => h) (by rfl) ?_ hHeld ?_
      rotate_left
      · (intro w hSw; (try dsimp only at hSw); go_simp; try with_reducible rfl)
      simp only [Act.put, List.setIfInBounds_toArray, List.set_cons_zero, List.set_cons_succ]
      refine take_w 17 (some 29) (v := .int .u8 (v4 : Int)) rfl rfl (by kernel_rfl) (by kernel_rfl) (by kernel_rfl) (fun _ _ _ h => h) (by rfl) (fun w hSw => by have c := hSw.cell (by simp) c23; go_simp) hHeld ?_
      try simp only [Act.put, List.setIfInBounds_toArray, List.set_cons_zero, List.set_cons_succ]
      refine take_w 18 (some 30) (v := ?_) rfl rfl (by kernel_rfl) (by kernel_rfl) (by kernel_rfl) (fun _ _ _ h => h) (by rfl) ?_ hHeld ?_
      rotate_left
      · (intro w hSw; (try dsimp only at hSw); go_simp; try with_reducible rfl)
      simp only [Act.put, List.setIfInBounds_toArray, List.set_cons_zero, List.set_cons_succ]
      refine take_2c 2 20 rfl rfl (by kernel_rfl) (by rfl) (by rfl) (fun K hK => ?_) (fun K hK => ?_)
      ·
        go_simp
        refine (VV0.out _ _ (fz.trans_nil hHeld)).mono ?_
        rintro e w' ⟨rfl, hw'⟩
        rw [← hw']
        clear hw' w'
        refine hK.out _ _ hHeld (fun hHx => ?_)
        clear hHx
        clear hK K
        try simp only [Act.put, List.setIfInBounds_toArray, List.set_cons_zero, List.set_cons_succ]
        refine take_2c 5 20 rfl rfl (by kernel_rfl) (by rfl) (by rfl) (fun K hK => ?_) (fun K hK => ?_)
        ·
          go_simp
          refine (VV1.out _ _ (fz.trans_nil hHeld)).mono ?_
          rintro e w' ⟨rfl, hw'⟩
          rw [← hw']
          clear hw' w'
          refine hK.out _ _ hHeld (fun hHx => ?_)
          clear hHx
          clear hK K
          try simp only [Act.put, List.setIfInBounds_toArray, List.set_cons_zero, List.set_cons_succ]
          refine take_w 6 (some 18) (v := ?_) rfl rfl (by kernel_rfl) (by kernel_rfl) (by kernel_rfl) (fun _ _ _ h => h) (by rfl) ?_ hHeld ?_
          rotate_left
          · (intro w hSw; (try dsimp only at hSw); go_simp; try with_reducible rfl)
          simp only [Act.put, List.setIfInBounds_toArray, List.set_cons_zero, List.set_cons_succ]
          refine take_2c 13 20 rfl rfl (by kernel_rfl) (by rfl) (by rfl) (fun K hK => ?_) (fun K hK => ?_)
          ·
            go_simp
            refine (VV3.out _ _ (fz.trans_nil hHeld)).mono ?_
            rintro e w' ⟨rfl, hw'⟩
            rw [← hw']
            clear hw' w'
            refine hK.out _ _ hHeld (fun hHx => ?_)
            clear hHx
            clear hK K
            try simp only [Act.put, List.setIfInBounds_toArray, List.set_cons_zero, List.set_cons_succ]
            refine take_w 14 (some 26) (v := ?_) rfl rfl (by kernel_rfl) (by kernel_rfl) (by kernel_rfl) (fun _ _ _ h => h) (by rfl) ?_ hHeld ?_
            rotate_left
            · (intro w hSw; (try dsimp only at hSw); go_simp; try with_reducible rfl)
            simp only [Act.put, List.setIfInBounds_toArray, List.set_cons_zero, List.set_cons_succ]
            refine take_w 19 (some 31) (v := .agg (HeadM.cells ⟨v0, v1, v2, v3, v4, 0, 0, 0, List.replicate 16 0⟩).toArray) rfl rfl (by kernel_rfl) (by kernel_rfl) (by kernel_rfl) (fun _ _ _ h => h) (by rfl) (fun w hSw => hy_bld (ps' := #[(0, .int .u64 (v0 : Int)), (1, .int .i64 (v1 : Int)), (2, .int .i64 (v2 : Int)), (3, .int .i64 (v3 : Int)), (4, .int .i64 (v4 : Int))]) rfl (by kernel_rfl) _ (headFive w v0 v1 v2 v3 v4)) hHeld ?_
            try simp only [Act.put, List.setIfInBounds_toArray, List.set_cons_zero, List.set_cons_succ]
            refine take_c 20 rfl (by kernel_rfl) (by rfl) (fun K hK => ?_)
            refine wp_alS stHead rfl (fun wb hb fb zb => hK.out _ _ (hHeld.trans_nil fb) (fun hHx => ?_))
            clear hHeld
            have hHeld := hHx
            clear hHx
            clear hK K
            try simp only [Act.put, List.setIfInBounds_toArray, List.set_cons_zero, List.set_cons_succ]
            refine take_cd 21 none rfl rfl (by kernel_rfl) (by rfl) (fun K hK => ?_)
            refine wp_stB stHead rfl wz.heap.size rfl (HeadM.cells ⟨v0, v1, v2, v3, v4, 0, 0, 0, List.replicate 16 0⟩) rfl (by simp [HeadM.cells, bvs]) (HeadM.ones _) zeroH.cells (HeadM.len zeroH_ok) hb (fun w9 h9 f9 z9 => hK _ w9 (hHeld.trans f9 (fun i hi => .inr (by simp at hi; omega))) fun hHx => ?_)
            clear hHeld
            have hHeld := hHx
            clear hHx
            clear hK K
            try simp only [Act.put, List.setIfInBounds_toArray, List.set_cons_zero, List.set_cons_succ]
            refine wpAnyH_done (by kernel_rfl) ?_ _
            go_wp2_with fail
            go_meet
            exact ⟨wz.heap.size, rfl, h9, fbz.trans_nil hHeld, fbz.size⟩
          ·
            refine wp_alS stHead rfl (fun wb hb fb zb => hK.out _ _ (hHeld.trans_nil fb) (fun hHx => ?_))
            clear hHeld
            have hHeld := hHx
            clear hHx
            clear hK K
            try simp only [Act.put, List.setIfInBounds_toArray, List.set_cons_zero, List.set_cons_succ]
            refine take_c 13 rfl (by kernel_rfl) (by rfl) (fun K hK => ?_)
            go_simp
            refine (VV3.out _ _ (fz.trans_nil hHeld)).mono ?_
            rintro e w' ⟨rfl, hw'⟩
            rw [← hw']
            clear hw' w'
            refine hK.out _ _ hHeld (fun hHx => ?_)
            clear hHx
            clear hK K
            try simp only [Act.put, List.setIfInBounds_toArray, List.set_cons_zero, List.set_cons_succ]
            refine take_w 14 (some 26) (v := ?_) rfl rfl (by kernel_rfl) (by kernel_rfl) (by kernel_rfl) (fun _ _ _ h => h) (by rfl) ?_ hHeld ?_
            rotate_left
            · (intro w hSw; (try dsimp only at hSw); go_simp; try with_reducible rfl)
            simp only [Act.put, List.setIfInBounds_toArray, List.set_cons_zero, List.set_cons_succ]
            refine take_w 19 (some 31) (v := .agg (HeadM.cells ⟨v0, v1, v2, v3, v4, 0, 0, 0, List.replicate 16 0⟩).toArray) rfl rfl (by kernel_rfl) (by kernel_rfl) (by kernel_rfl) (fun _ _ _ h => h) (by rfl) (fun w hSw => hy_bld (ps' := #[(0, .int .u64 (v0 : Int)), (1, .int .i64 (v1 : Int)), (2, .int .i64 (v2 : Int)), (3, .int .i64 (v3 : Int)), (4, .int .i64 (v4 : Int))]) rfl (by kernel_rfl) _ (headFive w v0 v1 v2 v3 v4)) hHeld ?_
            try simp only [Act.put, List.setIfInBounds_toArray, List.set_cons_zero, List.set_cons_succ]
            refine take_cd 21 none rfl rfl (by kernel_rfl) (by rfl) (fun K hK => ?_)
            refine wp_stB stHead rfl wz.heap.size rfl (HeadM.cells ⟨v0, v1, v2, v3, v4, 0, 0, 0, List.replicate 16 0⟩) rfl (by simp [HeadM.cells, bvs]) (HeadM.ones _) zeroH.cells (HeadM.len zeroH_ok) hb (fun w9 h9 f9 z9 => hK _ w9 (hHeld.trans f9 (fun i hi => .inr (by simp at hi; omega))) fun hHx => ?_)
            clear hHeld
            have hHeld := hHx
            clear hHx
            clear hK K
            try simp only [Act.put, List.setIfInBounds_toArray, List.set_cons_zero, List.set_cons_succ]
            refine wpAnyH_done (by kernel_rfl) ?_ _
            go_wp2_with fail
            go_meet
            exact ⟨wz.heap.size, rfl, h9, fbz.trans_nil hHeld, fbz.size⟩
        ·
          refine wp_alS stHead rfl (fun wb hb fb zb => hK.out _ _ (hHeld.trans_nil fb) (fun hHx => ?_))
          clear hHeld
          have hHeld := hHx
          clear hHx
          clear hK K
          try simp only [Act.put, List.setIfInBounds_toArray, List.set_cons_zero, List.set_cons_succ]
          refine take_c 5 rfl (by kernel_rfl) (by rfl) (fun K hK => ?_)
          go_simp
          refine (VV1.out _ _ (fz.trans_nil hHeld)).mono ?_
          rintro e w' ⟨rfl, hw'⟩
          rw [← hw']
          clear hw' w'
          refine hK.out _ _ hHeld (fun hHx => ?_)
          clear hHx
          clear hK K
          try simp only [Act.put, List.setIfInBounds_toArray, List.set_cons_zero, List.set_cons_succ]
          refine take_w 6 (some 18) (v := ?_) rfl rfl (by kernel_rfl) (by kernel_rfl) (by kernel_rfl) (fun _ _ _ h => h) (by rfl) ?_ hHeld ?_
          rotate_left
          · (intro w hSw; (try dsimp only at hSw); go_simp; try with_reducible rfl)
          simp only [Act.put, List.setIfInBounds_toArray, List.set_cons_zero, List.set_cons_succ]
          refine take_c 13 rfl (by kernel_rfl) (by rfl) (fun K hK => ?_)
          go_simp
          refine (VV3.out _ _ (fz.trans_nil hHeld)).mono ?_
          rintro e w' ⟨rfl, hw'⟩
          rw [← hw']
          clear hw' w'
          refine hK.out _ _ hHeld (fun hHx => ?_)
          clear hHx
          clear hK K
          try simp only [Act.put, List.setIfInBounds_toArray, List.set_cons_zero, List.set_cons_succ]
          refine take_w 14 (some 26) (v := ?_) rfl rfl (by kernel_rfl) (by kernel_rfl) (by kernel_rfl) (fun _ _ _ h => h) (by rfl) ?_ hHeld ?_
          rotate_left
          · (intro w hSw; (try dsimp only at hSw); go_simp; try with_reducible rfl)
          simp only [Act.put, List.setIfInBounds_toArray, List.set_cons_zero, List.set_cons_succ]
          refine take_w 19 (some 31) (v := .agg (HeadM.cells ⟨v0, v1, v2, v3, v4, 0, 0, 0, List.replicate 16 0⟩).toArray) rfl rfl (by kernel_rfl) (by kernel_rfl) (by kernel_rfl) (fun _ _ _ h => h) (by rfl) (fun w hSw => hy_bld (ps' := #[(0, .int .u64 (v0 : Int)), (1, .int .i64 (v1 : Int)), (2, .int .i64 (v2 : Int)), (3, .int .i64 (v3 : Int)), (4, .int .i64 (v4 : Int))]) rfl (by kernel_rfl) _ (headFive w v0 v1 v2 v3 v4)) hHeld ?_
          try simp only [Act.put, List.setIfInBounds_toArray, List.set_cons_zero, List.set_cons_succ]
          refine take_cd 21 none rfl rfl (by kernel_rfl) (by rfl) (fun K hK => ?_)
          refine wp_stB stHead rfl wz.heap.size rfl (HeadM.cells ⟨v0, v1, v2, v3, v4, 0, 0, 0, List.replicate 16 0⟩) rfl (by simp [HeadM.cells, bvs]) (HeadM.ones _) zeroH.cells (HeadM.len zeroH_ok) hb (fun w9 h9 f9 z9 => hK _ w9 (hHeld.trans f9 (fun i hi => .inr (by simp at hi; omega))) fun hHx => ?_)
          clear hHeld
          have hHeld := hHx
          clear hHx
          clear hK K
          try simp only [Act.put, List.setIfInBounds_toArray, List.set_cons_zero, List.set_cons_succ]
          refine wpAnyH_done (by kernel_rfl) ?_ _
          go_wp2_with fail
          go_meet
          exact ⟨wz.heap.size, rfl, h9, fbz.trans_nil hHeld, fbz.size⟩
      ·
        refine wp_alS stHead rfl (fun wb hb fb zb => hK.out _ _ (hHeld.trans_nil fb) (fun hHx => ?_))
        clear hHeld
        have hHeld := hHx
        clear hHx
        clear hK K
        try simp only [Act.put, List.setIfInBounds_toArray, List.set_cons_zero, List.set_cons_succ]
        refine take_c 2 rfl (by kernel_rfl) (by rfl) (fun K hK => ?_)
        go_simp
        refine (VV0.out _ _ (fz.trans_nil hHeld)).mono ?_
        rintro e w' ⟨rfl, hw'⟩
        rw [← hw']
        clear hw' w'
        refine hK.out _ _ hHeld (fun hHx => ?_)
        clear hHx
        clear hK K
        try simp only [Act.put, List.setIfInBounds_toArray, List.set_cons_zero, List.set_cons_succ]
        refine take_c 5 rfl (by kernel_rfl) (by rfl) (fun K hK => ?_)
        go_simp
        refine (VV1.out _ _ (fz.trans_nil hHeld)).mono ?_
        rintro e w' ⟨rfl, hw'⟩
        rw [← hw']
        clear hw' w'
        refine hK.out _ _ hHeld (fun hHx => ?_)
        clear hHx
        clear hK K
        try simp only [Act.put, List.setIfInBounds_toArray, List.set_cons_zero, List.set_cons_succ]
        refine take_w 6 (some 18) (v := ?_) rfl rfl (by kernel_rfl) (by kernel_rfl) (by kernel_rfl) (fun _ _ _ h => h) (by rfl) ?_ hHeld ?_
        rotate_left
        · (intro w hSw; (try dsimp only at hSw); go_simp; try with_reducible rfl)
        simp only [Act.put, List.setIfInBounds_toArray, List.set_cons_zero, List.set_cons_succ]
        refine take_c 13 rfl (by kernel_rfl) (by rfl) (fun K hK => ?_)
        go_simp
        refine (VV3.out _ _ (fz.trans_nil hHeld)).mono ?_
        rintro e w' ⟨rfl, hw'⟩
        rw [← hw']
        clear hw' w'
        refine hK.out _ _ hHeld (fun hHx => ?_)
        clear hHx
        clear hK K
        try simp only [Act.put, List.setIfInBounds_toArray, List.set_cons_zero, List.set_cons_succ]
        refine take_w 14 (some 26) (v := ?_) rfl rfl (by kernel_rfl) (by kernel_rfl) (by kernel_rfl) (fun _ _ _ h => h) (by rfl) ?_ hHeld ?_
        rotate_left
        · (intro w hSw; (try dsimp only at hSw); go_simp; try with_reducible rfl)
        simp only [Act.put, List.setIfInBounds_toArray, List.set_cons_zero, List.set_cons_succ]
        refine take_w 19 (some 31) (v := .agg (HeadM.cells ⟨v0, v1, v2, v3, v4, 0, 0, 0, List.replicate 16 0⟩).toArray) rfl rfl (by kernel_rfl) (by kernel_rfl) (by kernel_rfl) (fun _ _ _ h => h) (by rfl) (fun w hSw => hy_bld (ps' := #[(0, .int .u64 (v0 : Int)), (1, .int .i64 (v1 : Int)), (2, .int .i64 (v2 : Int)), (3, .int .i64 (v3 : Int)), (4, .int .i64 (v4 : Int))]) rfl (by kernel_rfl) _ (headFive w v0 v1 v2 v3 v4)) hHeld ?_
        try simp only [Act.put, List.setIfInBounds_toArray, List.set_cons_zero, List.set_cons_succ]
        refine take_cd 21 none rfl rfl (by kernel_rfl) (by rfl) (fun K hK => ?_)
        refine wp_stB stHead rfl wz.heap.size rfl (HeadM.cells ⟨v0, v1, v2, v3, v4, 0, 0, 0, List.replicate 16 0⟩) rfl (by simp [HeadM.cells, bvs]) (HeadM.ones _) zeroH.cells (HeadM.len zeroH_ok) hb (fun w9 h9 f9 z9 => hK _ w9 (hHeld.trans f9 (fun i hi => .inr (by simp at hi; omega))) fun hHx => ?_)
        clear hHeld
        have hHeld := hHx
        clear hHx
        clear hK K
        try simp only [Act.put, List.setIfInBounds_toArray, List.set_cons_zero, List.set_cons_succ]
        refine wpAnyH_done (by kernel_rfl) ?_ _
        go_wp2_with fail
        go_meet
        exact ⟨wz.heap.size, rfl, h9, fbz.trans_nil hHeld, fbz.size⟩
    case rest =>
      obtain ⟨g4, rfl, h4, F4, hg4⟩ := hcut
      have o4 := hb.keep_nil F4
      have hbl := hb.lt
      have z0 := HG0.out
      have hga : ga < w.heap.size := World.block_lt_of_cell? w _ (cellN (HR.out ()) 24 (by rw [HN.out]; omega))
      have hg4' : w.heap.size < g4 := by omega
      have c24 := (fb.trans_nil F4).cell (by simp) c24
      have c27 := (fb.trans_nil F4).cell (by simp) c27
      clear c20 c23
      go_upto_region 4 with fail
      go_cut [] from 32 to 46 (fun wx => Blk wx g4 27 (HeadM.cells ⟨v0, v1, v2, v3, v4, v5, v6, v7, List.replicate 16 0⟩).toArray ∧ Fr [g4] wc wx)
      case first =>
        go_wp2_with fail
        have fz := (fb.trans_nil F4).drew
        have fcz := (Fr.refl [g4] wc).drew
        obtain ⟨wz, hwz⟩ : ∃ wz, wc.drew = wz := ⟨_, rfl⟩
        have h4z := h4.keep_nil ((Fr.refl [] wc).drew)
        rw [hwz] at fz fcz h4z
        have c24 := fcz.cell (by simp; omega) c24
        have c27 := fcz.cell (by simp; omega) c27
        refine wp_region_held_drew (S := fun w' => Fr [g4] wz w' ∧ Fr [] w w') (by kernel_rfl) (by rw [← hwz]; exact ⟨Fr.refl _ _, (fb.trans_nil F4).drew⟩) (fun hHeld => ?_)
        rw [hwz] at hHeld ⊢
        clear hwz
        refine take_w 0 (some 32) (v := ?_) rfl rfl (by kernel_rfl) (by kernel_rfl) (by kernel_rfl) (fun _ _ _ h => h) (by rfl) ?_ hHeld ?_
        rotate_left
        · (intro w hSw; (try dsimp only at hSw); go_simp; try with_reducible rfl)
        simp only [Act.put, List.setIfInBounds_toArray, List.set_cons_zero, List.set_cons_succ]
        refine take_w 1 (some 33) (v := ?_) rfl rfl (by kernel_rfl) (by kernel_rfl) (by kernel_rfl) (fun _ _ _ h => h) (by rfl) ?_ hHeld ?_
        rotate_left
        · (intro w hSw; (try dsimp only at hSw); go_simp; try with_reducible rfl)
        simp only [Act.put, List.setIfInBounds_toArray, List.set_cons_zero, List.set_cons_succ]
        refine take_w 4 (some 36) (v := ?_) rfl rfl (by kernel_rfl) (by kernel_rfl) (by kernel_rfl) (fun _ _ _ h => h) (by rfl) ?_ hHeld ?_
        rotate_left
        · (intro w hSw; (try dsimp only at hSw); go_simp; try with_reducible rfl)
        simp only [Act.put, List.setIfInBounds_toArray, List.set_cons_zero, List.set_cons_succ]
        refine take_w 5 (some 37) (v := ?_) rfl rfl (by kernel_rfl) (by kernel_rfl) (by kernel_rfl) (fun _ _ _ h => h) (by rfl) ?_ hHeld ?_
        rotate_left
        · (intro w hSw; (try dsimp only at hSw); go_simp; try with_reducible rfl)
        simp only [Act.put, List.setIfInBounds_toArray, List.set_cons_zero, List.set_cons_succ]
        refine take_w 8 (some 40) (v := ?_) rfl rfl (by kernel_rfl) (by kernel_rfl) (by kernel_rfl) (fun _ _ _ h => h) (by rfl) ?_ hHeld ?_
        rotate_left
        · (intro w hSw; (try dsimp only at hSw); go_simp; try with_reducible rfl)
        simp only [Act.put, List.setIfInBounds_toArray, List.set_cons_zero, List.set_cons_succ]
        refine take_w 9 (some 41) (v := ?_) rfl rfl (by kernel_rfl) (by kernel_rfl) (by kernel_rfl) (fun _ _ _ h => h) (by rfl) ?_ hHeld ?_
        rotate_left
        · (intro w hSw; (try dsimp only at hSw); go_simp; try with_reducible rfl)
        simp only [Act.put, List.setIfInBounds_toArray, List.set_cons_zero, List.set_cons_succ]
        refine take_w 2 (some 34) (v := .int .u8 (v5 : Int)) rfl rfl (by kernel_rfl) (by kernel_rfl) (by kernel_rfl) (fun _ _ _ h => h) (by rfl) (fun w hSw => by have c := hSw.1.cell (by simp; omega) c24; go_simp) hHeld ?_
        try simp only [Act.put, List.setIfInBounds_toArray, List.set_cons_zero, List.set_cons_succ]
        refine take_w 3 (some 35) (v := ?_) rfl rfl (by kernel_rfl) (by kernel_rfl) (by kernel_rfl) (fun _ _ _ h => h) (by rfl) ?_ hHeld ?_
        rotate_left
        · (intro w hSw; (try dsimp only at hSw); go_simp; try with_reducible rfl)
        simp only [Act.put, List.setIfInBounds_toArray, List.set_cons_zero, List.set_cons_succ]
        refine take_w 10 (some 42) (v := .int .u8 (v7 : Int)) rfl rfl (by kernel_rfl) (by kernel_rfl) (by kernel_rfl) (fun _ _ _ h => h) (by rfl) (fun w hSw => by have c := hSw.1.cell (by simp; omega) c27; go_simp) hHeld ?_
        try simp only [Act.put, List.setIfInBounds_toArray, List.set_cons_zero, List.set_cons_succ]
        refine take_w 11 (some 43) (v := ?_) rfl rfl (by kernel_rfl) (by kernel_rfl) (by kernel_rfl) (fun _ _ _ h => h) (by rfl) ?_ hHeld ?_
        rotate_left
        · (intro w hSw; (try dsimp only at hSw); go_simp; try with_reducible rfl)
        simp only [Act.put, List.setIfInBounds_toArray, List.set_cons_zero, List.set_cons_succ]
        refine take_c 6 rfl (by kernel_rfl) (by rfl) (fun K hK => ?_)
        go_simp
        refine (VV6.out _ _ hHeld.2).mono ?_
        rintro e w' ⟨rfl, hw'⟩
        rw [← hw']
        clear hw' w'
        refine hK.out _ _ hHeld (fun hHx => ?_)
        clear hHx
        clear hK K
        try simp only [Act.put, List.setIfInBounds_toArray, List.set_cons_zero, List.set_cons_succ]
        refine take_w 7 (some 39) (v := ?_) rfl rfl (by kernel_rfl) (by kernel_rfl) (by kernel_rfl) (fun _ _ _ h => h) (by rfl) ?_ hHeld ?_
        rotate_left
        · (intro w hSw; (try dsimp only at hSw); go_simp; try with_reducible rfl)
        simp only [Act.put, List.setIfInBounds_toArray, List.set_cons_zero, List.set_cons_succ]
        refine take_w 12 (some 44) (v := .agg #[.int .i64 (v5 : Int), .int .i64 (v6 : Int), .int .i64 (v7 : Int)]) rfl rfl (by kernel_rfl) (by kernel_rfl) (by kernel_rfl) (fun _ _ _ h => h) (by rfl) (fun w hSw => hy_bld (ps' := #[(0, .int .i64 (v5 : Int)), (1, .int .i64 (v6 : Int)), (2, .int .i64 (v7 : Int))]) rfl (by kernel_rfl) _ (parThree w v5 v6 v7)) hHeld ?_
        try simp only [Act.put, List.setIfInBounds_toArray, List.set_cons_zero, List.set_cons_succ]
        refine take_w 13 (some 45) (v := ?_) rfl rfl (by kernel_rfl) (by kernel_rfl) (by kernel_rfl) (fun _ _ _ h => h) (by rfl) ?_ hHeld ?_
        rotate_left
        · (intro w hSw; (try dsimp only at hSw); go_simp; try with_reducible rfl)
        simp only [Act.put, List.setIfInBounds_toArray, List.set_cons_zero, List.set_cons_succ]
        refine take_cd 14 none rfl rfl (by kernel_rfl) (by rfl) (fun K hK => ?_)
        refine wp_stS stPar rfl g4 5 rfl [.int .i64 (v5 : Int), .int .i64 (v6 : Int), .int .i64 (v7 : Int)] rfl rfl (by intro u hu; simp at hu; rcases hu with rfl | rfl | rfl <;> rfl) _ 27 (0, 0) h4z (free_zero _) (by simp [HeadM.cells, bvs]) (fun w9 h9 f9 z9 => hK _ w9 ⟨f9, hHeld.2.trans f9 (fun i hi => .inr (by simp at hi; omega))⟩ fun hHx => ?_)
        clear hHeld
        have hHeld := hHx
        clear hHx
        clear hK K
        try simp only [Act.put, List.setIfInBounds_toArray, List.set_cons_zero, List.set_cons_succ]
        refine wpAnyH_done (by kernel_rfl) ?_ _
        rw [set_par] at h9
        go_wp2_with fail
        go_meet
        exact ⟨h9, fcz.trans_same f9⟩
      case rest =>
        obtain ⟨h5, f5⟩ := hcut
        have F5 : Fr [] w wc := (fb.trans_nil F4).trans f5 (fun i hi => .inr (by simp at hi; omega))
        have o5 := o4.keep f5 (by simp; omega)
        have hcell : ∀ t, t < 16 → wc.cell? ⟨ga, oa + (28 + t), none⟩ = some (.int .u8 ((((l.drop 28).take 16).getD t 0).toNat : Int)) := fun t ht => by
          have c := F5.cell (by simp) (cellN (HR.out ()) (28 + t) (by rw [HN.out]; omega))
          rw [c, leN1 l (28 + t) (by rw [HN.out]; omega)]
          have e : ((l.drop 28).take 16)[t]? = some (l[28 + t]'(by rw [HN.out]; omega)) := by
            rw [List.getElem?_take, if_pos ht, List.getElem?_drop, List.getElem?_eq_getElem (by rw [HN.out]; omega)]
          simp [List.getD, e]
        obtain ⟨nm, hnm⟩ : ∃ nm, (l.drop 28).take 16 = nm := ⟨_, rfl⟩
        have hnl : nm.length = 16 := by rw [← hnm, List.length_take, List.length_drop, HN.out]; rfl
        have hhd := HH.out
        rw [hnm] at hcell hhd
        have HC := Lib.hid hcell
        have HNL := Lib.hid hnl
        have h5' : Blk wc g4 27 (HeadM.cells ⟨v0, v1, v2, v3, v4, v5, v6, v7, plb nm 0 16⟩).toArray := by rw [plb_zero]; exact h5
        have hok := hdr_ok HN.out
        obtain ⟨hd', hhd'⟩ : ∃ h, hdr l = h := ⟨_, rfl⟩
        rw [hhd'] at hhd hok
        have HHD := Lib.hid (fun _ : Unit => hhd')
        have HH2 := Lib.hid hhd
        clear h5 f5 h4 o4 F4 fb hb c24 c27 hcell hnm hnl hhd hhd' C1 C2 C3 C4 C5 C6 C7 K16 K20 K23 K27 N8 N16 N21 N25 VV0 VV1 VV3 VV6 HH
        go_wp2_with fail
        go_loopw [5] (fun i wi => ∃ t : Nat, t ≤ 16 ∧ i = .int .i64 t ∧ Blk wi g4 27 (HeadM.cells ⟨v0, v1, v2, v3, v4, v5, v6, v7, plb nm t 16⟩).toArray ∧ Fr [g4] wc wi) (fun i _ => 16 - (intOf i).toNat)
        case atStart => exact ⟨0, Nat.zero_le _, rfl, h5', Fr.refl _ _⟩
        case round =>
          clear h5'
          obtain ⟨t, ht, rfl, h6, f6⟩ := hrel
          by_cases hlt : t < 16
          · have c1 := f6.cell (p := ⟨ga, oa + (28 + t), none⟩) (by simp; omega) (HC.out t hlt)
            have pll := plb_len nm t 16 HNL.out ht
            obtain ⟨y, c2⟩ : ∃ y, _ = some y := ⟨_, nam_at h6 (t := t) (by show t < (plb nm t 16).length; omega)⟩
            have z2 := h6.frozen (8 + t)
            have hse := plb_set nm t 16 HNL.out hlt
            obtain ⟨x, hx⟩ : ∃ x, nm.getD t 0 = x := ⟨_, rfl⟩
            rw [hx] at c1 hse
            have HSE := Lib.hid hse
            clear hse hx pll
            go_wp2_with fail
            have h11 := cell_nam h6 (t := t) x
            rw [show (plb nm t 16).set t x = plb nm (t + 1) 16 from HSE.out] at h11
            exact ⟨⟨t + 1, by omega, by go_num, h11, f6.setCell (.inl (by simp)) _⟩, by simp [intOf]; omega⟩
          · obtain rfl : t = 16 := by omega
            rw [plb_all _ _ HNL.out, HH2.out] at h6
            have F6 : Fr [] w _ := F5.trans f6 (fun i hi => .inr (by simp at hi; omega))
            have o6 := o5.keep f6 (by simp; omega)
            clear f6 F5 o5
            go_wp2_with
              (first
                | (refine wpList_ldS stHead rfl rfl g4 0 rfl hd'.cells (HeadM.len hok) h6.range0 ?_))
            refine (xhEncode_any _ hd' hok).mono ?_
            rintro e w7 ⟨v, rfl, r7, f7⟩
            have F7 := F6.trans_nil f7
            have o7 := o6.keep_nil f7
            have h7 := h6.keep_nil f7
            clear F6 o6 h6 f7
            obtain ⟨A7, cap7, rfl, -, -, -, -, -⟩ := r7.shape
            have E7 := r7.str
            have E8 := strB w7 (some ⟨ga, oa, none⟩) l 512 c HN.out ((HR.out ()).keep_nil F7) (by simp)
            cases hg : hd'.good
            · have hd : decH l = none := decH_no (fun h => by have := h.2.2; rw [HHD.out (), hg] at this; cases this)
              have HD := Lib.hid hd
              clear hd E7 E8
              rw [show errG false 1 = 1 from rfl]
              go_wp2_with
                (first
                  | (refine wpList_bld rfl rfl (.agg zeroH.cells.toArray) ?_ ?_; exact headZero _)
                  | (refine wpList_stB stHead rfl rfl g0 rfl zeroH.cells rfl (HeadM.len zeroH_ok) zeroH.ones zeroH.cells (HeadM.len zeroH_ok) o7 ?_; intro wc hc fc zc))
              try simp only [Exit.inBlock, Exit.then]
              refine bodyPost_ret (results_cell2 stHead rfl rfl (HeadM.len zeroH_ok) hc) rfl ?_
              exact ⟨by simp only [decHV, HD.out]; rfl, F7.trans fc (fun i hi => .inr (by simp at hi; omega))⟩
            · rw [show errG true 1 = 0 from rfl]
              rw [hg] at E7 r7
              simp only [if_true] at E7 r7
              by_cases heq : hd'.bytes = l
              · have hd : decH l = some hd' := by rw [← HHD.out ()]; exact decH_yes HN.out ((hdrB_iff HN.out).2 (by rw [HHD.out ()]; exact heq)) (by rw [HHD.out ()]; exact hg)
                have HD := Lib.hid hd
                rw [heq] at E7
                clear hd heq r7
                go_wp2_with
                  (first
                    | (refine wpList_ldS stHead rfl rfl g4 0 rfl hd'.cells (HeadM.len hok) h7.range0 ?_)
                    | (refine wpList_stB stHead rfl rfl g0 rfl hd'.cells rfl (HeadM.len hok) hd'.ones zeroH.cells (HeadM.len zeroH_ok) o7 ?_; intro wc hc fc zc))
                try simp only [Exit.inBlock, Exit.then]
                refine bodyPost_ret (results_cell2 stHead rfl rfl (HeadM.len hok) hc) rfl ?_
                exact ⟨by simp only [decHV, HD.out]; rfl, F7.trans fc (fun i hi => .inr (by simp at hi; omega))⟩
              · have hd : decH l = none := decH_no (fun h => heq (by have := (hdrB_iff HN.out).1 h.2.1; rwa [HHD.out ()] at this))
                have HD := Lib.hid hd
                obtain ⟨q, hq⟩ : ∃ q, hd'.bytes = q := ⟨_, rfl⟩
                rw [hq] at E7 heq
                have hbe : (q == l) = false := by rw [beq_eq_false_iff_ne]; exact heq
                clear hd heq r7 hq
                go_wp2_with
                  (first
                    | (refine wpList_bld rfl rfl (.agg zeroH.cells.toArray) ?_ ?_; exact headZero _)
                    | (refine wpList_stB stHead rfl rfl g0 rfl zeroH.cells rfl (HeadM.len zeroH_ok) zeroH.ones zeroH.cells (HeadM.len zeroH_ok) o7 ?_; intro wc hc fc zc))
                try simp only [Exit.inBlock, Exit.then]
                refine bodyPost_ret (results_cell2 stHead rfl rfl (HeadM.len zeroH_ok) hc) rfl ?_
                exact ⟨by simp only [decHV, HD.out]; rfl, F7.trans fc (fun i hi => .inr (by simp at hi; omega))⟩
  · have hd : decH l = none := decH_no (fun h => h512 (by rw [← hn]; exact h.1))
    have HD := Lib.hid hd
    have d : ((n : Int) == 512) = false := by rw [beq_eq_false_iff_ne]; omega
    clear hd
    go_enter Tryd.func22, Tryd.ntmps22
    go_wp2_with
      (first
        | (refine wpList_alS stHead rfl rfl ?_; intro wb hb fb zb)
        | (refine wpList_bld rfl rfl (.agg zeroH.cells.toArray) ?_ ?_; exact headZero _)
        | (refine wpList_stB stHead rfl rfl w.heap.size rfl zeroH.cells rfl (HeadM.len zeroH_ok) zeroH.ones zeroH.cells (HeadM.len zeroH_ok) hb ?_; intro wc hc fc zc))
    try simp only [Exit.inBlock, Exit.then]
    refine bodyPost_ret (results_cell2 stHead rfl rfl (HeadM.len zeroH_ok) hc) rfl ?_
    exact ⟨by simp only [decHV, HD.out]; rfl, fb.trans fc (fun i hi => .inr (by simp at hi; omega))⟩
end Go.Proofs.YtlelgeigighecaaDoor
