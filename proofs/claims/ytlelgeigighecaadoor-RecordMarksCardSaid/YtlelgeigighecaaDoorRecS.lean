/-
  Layer 13's laws: what every program must do (lives).
-/
import Derived.Test.YtlelgeigighecaaDoorRecQ
import Derived.Test.YtlelgeigighecaaDoorRecR
set_option linter.unusedSimpArgs false
set_option linter.unusedVariables false
set_option linter.unnecessarySimpa false
namespace Go.Proofs.YtlelgeigighecaaDoor
open Go.RowKit

theorem BlkC.of_some {w w' : World} {n : Nat} {rs : List (Int × List UInt8)} {bs : List (List UInt8)} {e : Ending} (h : blkV n rs = some bs) (k : BlkC w n rs e w') :
    ∃ v vs, e = .returned (.tuple #[v, .int .i64 0]) ∧ BRow w' w.heap.size v vs bs ∧ Fr [] w w' := by
  unfold BlkC at k
  rw [h] at k
  exact k
theorem BlkC.of_none {w w' : World} {n : Nat} {rs : List (Int × List UInt8)} {e : Ending} (h : blkV n rs = none) (k : BlkC w n rs e w') :
    ∃ v vs, e = .returned (.tuple #[v, .int .i64 1]) ∧ BRow w' w.heap.size v vs [] ∧ Fr [] w w' := by
  unfold BlkC at k
  rw [h] at k
  exact k
theorem TrC.of_some {w w' : World} {n : Nat} {bs : List (List UInt8)} {rs : List (Int × List UInt8)} {e : Ending} (h : trV n bs = some rs) (k : TrC w n bs e w') :
    ∃ v ps, e = .returned (.tuple #[v, .int .i64 ((rs.length + 2 : Nat) : Int), .int .i64 0]) ∧ RRow w' w.heap.size v ps rs ∧ Fr [] w w' := by
  unfold TrC trN at k
  rw [h] at k
  exact k
theorem TrC.of_none {w w' : World} {n : Nat} {bs : List (List UInt8)} {e : Ending} (h : trV n bs = none) (k : TrC w n bs e w') :
    ∃ v, e = .returned (.tuple #[v, .int .i64 0, .int .i64 110]) ∧ (∃ A c, v = .slice A 0 c) ∧ Fr [] w w' := by
  unfold TrC trN at k
  rw [h] at k
  obtain ⟨v, ps, h1, h2, h3⟩ := k
  obtain ⟨A, c, rfl, -⟩ := h2.row.shape
  exact ⟨_, h1, ⟨A, c, rfl⟩, h3⟩
/-- What was written, as an argument. -/
theorem BRow.arg {w : World} {B n : Nat} {v : Value} {vs : List Value} {bs : List (List UInt8)} (h : BRow w B v vs bs) (hn : bs.length = n) : ∃ A c, v = .slice A n c ∧ n ≤ c ∧ BRd w A vs bs ∧ (A = none → n = 0) := by
  have hr := h.row
  rw [hn] at hr
  obtain ⟨A, c, rfl, hc, -, -, -, -⟩ := hr.shape
  exact ⟨A, c, rfl, hc, h.brd, hr.rd.2.2⟩

theorem slBy : SlT Tryd.prog 28 5 1 1 (.int .u8 0) := slB
def rs13 : List (Int × List UInt8) := [(3, List.replicate 512 0)]
theorem rs13_ok (n : Nat) (h : n ≠ 0) : rcOk n rs13 := by
  refine ⟨h, by decide, ?_, by decide⟩
  intro r hr
  rw [rs13, List.mem_singleton] at hr
  subst hr
  exact List.length_replicate
theorem zeros_row (n : Nat) : bvs (List.replicate n 0) = List.replicate n (Value.int .u8 0) := by rw [bvs, List.map_replicate]; rfl

set_option maxRecDepth 100000 in
set_option maxHeartbeats 4000000 in
theorem lives13_any (w : World) (hK : KG w) : Calls Tryd.prog 27 #[] w fun e w' => e = .returned (.bool true) ∧ Fr [] w w' := by
  go_enter Tryd.func27, Tryd.ntmps27
  go_wp2_with (first | (refine wpList_mk1 rfl rfl slB rfl .i64 .i64 _ _ 512 rfl rfl rfl rfl (by omega) ?_; intro w1 b1 r1 f1 z1))
  have Z1 := Lib.hid z1
  have B2 := Blk.new w1 85 #[.int .i64 3, .slice (some ⟨w.heap.size, 0, none⟩) 512 512]
  have f2 : Fr [] w1 (w1.alloc (.cells #[.int .i64 3, .slice (some ⟨w.heap.size, 0, none⟩) 512 512] 85)) := (Fr.refl _ _).alloc _
  rw [z1] at B2
  clear z1
  generalize w1.alloc (.cells #[.int .i64 3, .slice (some ⟨w.heap.size, 0, none⟩) 512 512] 85) = w2 at *
  have hR : RdR w2 (some ⟨w.heap.size + 1, 0, none⟩) 1 1 rs13 := by
    refine ⟨rfl, fun _ => ⟨_, _, rfl, B2.lt, fun i hi => ?_⟩, fun h => (by cases h), by omega, by omega⟩
    have hi0 : i = 0 := by simp [rs13] at hi; omega
    subst hi0
    have e1 : rs13[0].1 = 3 := rfl
    rw [e1]
    refine ⟨by unfold in64; omega, by have := B2.cell 0; simp at this; exact this, _, by have := B2.cell 1; simp at this; exact this, ⟨_, _, rfl, ?_, fun h => by (cases h), Nat.le_refl _⟩, by simp [rs13]⟩
    rw [show bvs rs13[0].2 = List.replicate 512 (Value.int .u8 0) from zeros_row 512]
    exact (r1.keep_nil f2).rd.1
  have F2 := f1.trans_nil f2
  have hV7 := blkV_some (rs13_ok 7 (by decide))
  obtain ⟨bs, hbs⟩ : ∃ bs, blkL 7 rs13 ++ [doneB 7 (blkL 7 rs13).flatten] = bs := ⟨_, rfl⟩
  have hT7 : trV 7 bs = some rs13 := by rw [← hbs, ← List.append_nil (_ ++ [_])]; exact trV_blk (rs13_ok 7 (by decide)) (by decide) []
  have hT8 : trV 8 bs = none := by rw [← hbs]; exact trV_other (rs13_ok 7 (by decide)) (by decide) (by decide) _
  have hL3 : bs.length = 3 := by rw [← hbs, List.length_append, blkL_len]; rfl
  obtain ⟨b0, br, hb0⟩ : ∃ b0 br, bs = b0 :: br := ⟨_, _, hbs.symm⟩
  have hb4 : b0.take 4 = planM := by
    have : b0 = planB 7 (rcP rs13) (rcT rs13 1) := by
      have := hbs.trans hb0
      rw [blkL, List.cons_append] at this
      exact (List.cons.inj this).1.symm
    rw [this, planB_eq, List.take_left' (show planM.length = 4 from rfl)]
  have hb5 : b0.length = 512 := by
    have : b0 = planB 7 (rcP rs13) (rcT rs13 1) := by
      have := hbs.trans hb0
      rw [blkL, List.cons_append] at this
      exact (List.cons.inj this).1.symm
    rw [this, planB_len _ _ _ (by decide)]
  rw [hbs] at hV7
  have HV7 := Lib.hid hV7
  have HT7 := Lib.hid hT7
  have HT8 := Lib.hid hT8
  have HL3 := Lib.hid hL3
  have HB0 := Lib.hid hb0
  have HB4 := Lib.hid hb4
  have HB5 := Lib.hid hb5
  clear hV7 hT7 hT8 hL3 hb0 hb4 hb5 hbs
  refine (rcBlocks_any w2 _ 7 1 1 rs13 (by decide) hR (hK.keep F2)).mono ?_
  intro e w3 hE
  obtain ⟨v3, vs, rfl, R3, f3⟩ := BlkC.of_some HV7.out hE
  obtain ⟨A3, c3, rfl, hc3, D3, n3⟩ := R3.arg HL3.out
  have F3 := F2.trans_nil f3
  clear hE hR B2 b1 r1 f1 f2 f3 F2
  go_wp2_with fail
  refine (rcParse_any w3 A3 7 3 c3 vs bs (by decide) HL3.out D3 n3 hc3 (by omega) (hK.keep F3)).mono ?_
  intro e w4 hE
  obtain ⟨v4, ps, rfl, R4, f4⟩ := TrC.of_some HT7.out hE
  have F4 := F3.trans_nil f4
  have r4 := R4.row
  rw [show rs13.length = 1 from rfl] at r4
  obtain ⟨g4, c4, rfl⟩ := rowhd r4 (by omega)
  have p4 := rcells_at ps 0 (by rw [R4.len]; decide)
  have q4 := (R4.each 0 (by rw [R4.len]; decide) (by decide)).1
  replace D3 := D3.keep_nil f4
  clear hE F3 f4
  go_wp2_with fail
  refine (rcMark_any w4 9 (by decide) (hK.keep F4)).mono ?_
  rintro e w5 ⟨v5, rfl, r5, f5⟩
  rw [if_neg (by decide), if_neg (by decide)] at r5
  obtain ⟨A5, c5, rfl, hc5, -, -, -, -⟩ := r5.shape
  have F5 := F4.trans_nil f5
  replace D3 := D3.keep_nil f5
  replace r4 := r4.keep_nil f5
  clear f5 F4
  have hm9 := rmV_mark (n := 9) (by decide) (by decide)
  obtain ⟨mk, hmk⟩ : ∃ mk, markB 9 = mk := ⟨_, rfl⟩
  have hml : mk.length = 512 := by rw [← hmk, markB_len]
  rw [hmk] at r5 hm9
  have HML := Lib.hid hml
  have HM9 := Lib.hid hm9
  clear hmk hml hm9
  go_wp2_with fail
  have cc := rcReadMark_any w5 A5 mk 512 c5 HML.out r5.rd.1 r5.rd.2.2 (by omega) (hK.keep F5)
  unfold RmC at cc
  rw [HM9.out] at cc
  refine cc.mono ?_
  clear cc
  rintro e w6 ⟨rfl, f6⟩
  have F6 := F5.trans_nil f6
  replace D3 := D3.keep_nil f6
  replace r4 := r4.keep_nil f6
  clear f6 F5 r5
  go_wp2_with fail
  refine (rcParse_any w6 A3 8 3 c3 vs bs (by decide) HL3.out D3 n3 hc3 (by omega) (hK.keep F6)).mono ?_
  intro e w7 hE
  obtain ⟨v7, rfl, ⟨A7, c7, rfl⟩, f7⟩ := TrC.of_none HT8.out hE
  have F7 := F6.trans_nil f7
  replace D3 := D3.keep_nil f7
  replace r4 := r4.keep_nil f7
  have hv0 : 0 < vs.length := by rw [D3.len, HL3.out]; omega
  obtain ⟨g3, o3, rfl, hc⟩ := D3.rd (by intro h; rw [h] at hv0; simp at hv0)
  obtain ⟨Ab, cb, hv, rdb, nilb, capb⟩ := D3.each 0 hv0 (by rw [HL3.out]; omega)
  have cell := hc 0 vs[0] (List.getElem?_eq_getElem hv0)
  have e0 : bs[0]'(by rw [HL3.out]; omega) = b0 := by simp [HB0.out]
  rw [e0] at hv rdb nilb capb
  rw [HB5.out] at hv nilb capb
  rw [hv, Nat.add_zero] at cell
  have E4 := strB w7 Ab (b0.take 4) 4 cb (by rw [List.length_take, HB5.out]; rfl) (by rw [bvs_take]; exact rdb.take 4) (fun h => absurd (nilb h) (by omega))
  rw [HB4.out] at E4
  unfold planM at E4
  have K4 : (4 : Int) ≤ cb := by omega
  obtain ⟨g4', o4', e4, hc4⟩ := r4.rd.1 (by intro h; have := congrArg List.length h; rw [rcells_len, R4.len] at this; simp [rs13] at this)
  cases e4
  have x4 := hc4 0 _ p4.1
  rw [q4, show rs13[0].1 = 3 from rfl] at x4
  simp only [Nat.add_zero] at x4
  clear hE f7 F6 D3 hc hv e0 p4 q4 R4 hc4 r4 R3 hv0
  go_wp2_with fail
  go_ret
  exact ⟨rfl, F7⟩
end Go.Proofs.YtlelgeigighecaaDoor
