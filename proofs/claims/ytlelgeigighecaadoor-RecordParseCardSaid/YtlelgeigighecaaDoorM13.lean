/-
  Texts of this claim, one behind the other: RecS, RecT.
-/
import Derived.Test.YtlelgeigighecaaDoorM12
import Derived.IntWalk
/-
  Layer 13's laws: what every program must do (lives).
-/
set_option linter.unusedSimpArgs false
set_option linter.unusedVariables false
set_option linter.unnecessarySimpa false
namespace Go.Proofs.YtlelgeigighecaaDoor
open Go.RowKit

theorem BlkC.of_some {w w' : World} {n : Nat} {rs : List (Int × List UInt8)} {bs : List (List UInt8)} {e : Ending} (h : blkV n rs = some bs) (k : BlkC w n rs e w') :
    ∃ v vs, e = .returned (.tuple #[v, .int .i64 0]) ∧ BRow w' w.heap.size v vs bs ∧ Fr [] w w' := by
  unfold BlkC at k
  rw [h] at k
  exact k
theorem BlkC.of_none {w w' : World} {n : Nat} {rs : List (Int × List UInt8)} {e : Ending} (h : blkV n rs = none) (k : BlkC w n rs e w') :
    ∃ v vs, e = .returned (.tuple #[v, .int .i64 1]) ∧ BRow w' w.heap.size v vs [] ∧ Fr [] w w' := by
  unfold BlkC at k
  rw [h] at k
  exact k
theorem TrC.of_some {w w' : World} {n : Nat} {bs : List (List UInt8)} {rs : List (Int × List UInt8)} {e : Ending} (h : trV n bs = some rs) (k : TrC w n bs e w') :
    ∃ v ps, e = .returned (.tuple #[v, .int .i64 ((rs.length + 2 : Nat) : Int), .int .i64 0]) ∧ RRow w' w.heap.size v ps rs ∧ Fr [] w w' := by
  unfold TrC trN at k
  rw [h] at k
  exact k
theorem TrC.of_none {w w' : World} {n : Nat} {bs : List (List UInt8)} {e : Ending} (h : trV n bs = none) (k : TrC w n bs e w') :
    ∃ v, e = .returned (.tuple #[v, .int .i64 0, .int .i64 110]) ∧ (∃ A c, v = .slice A 0 c) ∧ Fr [] w w' := by
  unfold TrC trN at k
  rw [h] at k
  obtain ⟨v, ps, h1, h2, h3⟩ := k
  obtain ⟨A, c, rfl, -⟩ := h2.row.shape
  exact ⟨_, h1, ⟨A, c, rfl⟩, h3⟩
/-- What was written, as an argument. -/
theorem BRow.arg {w : World} {B n : Nat} {v : Value} {vs : List Value} {bs : List (List UInt8)} (h : BRow w B v vs bs) (hn : bs.length = n) : ∃ A c, v = .slice A n c ∧ n ≤ c ∧ BRd w A vs bs ∧ (A = none → n = 0) := by
  have hr := h.row
  rw [hn] at hr
  obtain ⟨A, c, rfl, hc, -, -, -, -⟩ := hr.shape
  exact ⟨A, c, rfl, hc, h.brd, hr.rd.2.2⟩

theorem slBy : SlT Tryd.prog 28 5 1 1 (.int .u8 0) := slB
def rs13 : List (Int × List UInt8) := [(3, List.replicate 512 0)]
theorem rs13_ok (n : Nat) (h : n ≠ 0) : rcOk n rs13 := by
  refine ⟨h, by decide, ?_, by decide⟩
  intro r hr
  rw [rs13, List.mem_singleton] at hr
  subst hr
  exact List.length_replicate
theorem zeros_row (n : Nat) : bvs (List.replicate n 0) = List.replicate n (Value.int .u8 0) := by rw [bvs, List.map_replicate]; rfl

set_option maxRecDepth 100000 in
set_option maxHeartbeats 4000000 in
theorem lives13_any (w : World) (hK : KG w) : Calls Tryd.prog 27 #[] w fun e w' => e = .returned (.bool true) ∧ Fr [] w w' := by
  go_enter Tryd.func27, Tryd.ntmps27
  go_wp2_with (first | (refine wpList_mk1 rfl rfl slB rfl .i64 .i64 _ _ 512 rfl rfl rfl rfl (by omega) ?_; intro w1 b1 r1 f1 z1))
  have Z1 := Lib.hid z1
  have B2 := Blk.new w1 85 #[.int .i64 3, .slice (some ⟨w.heap.size, 0, none⟩) 512 512]
  have f2 : Fr [] w1 (w1.alloc (.cells #[.int .i64 3, .slice (some ⟨w.heap.size, 0, none⟩) 512 512] 85)) := (Fr.refl _ _).alloc _
  rw [z1] at B2
  clear z1
  generalize w1.alloc (.cells #[.int .i64 3, .slice (some ⟨w.heap.size, 0, none⟩) 512 512] 85) = w2 at *
  have hR : RdR w2 (some ⟨w.heap.size + 1, 0, none⟩) 1 1 rs13 := by
    refine ⟨rfl, fun _ => ⟨_, _, rfl, B2.lt, fun i hi => ?_⟩, fun h => (by cases h), by omega, by omega⟩
    have hi0 : i = 0 := by simp [rs13] at hi; omega
    subst hi0
    have e1 : rs13[0].1 = 3 := rfl
    rw [e1]
    refine ⟨by unfold in64; omega, by have := B2.cell 0; simp at this; exact this, _, by have := B2.cell 1; simp at this; exact this, ⟨_, _, rfl, ?_, fun h => by (cases h), Nat.le_refl _⟩, by simp [rs13]⟩
    rw [show bvs rs13[0].2 = List.replicate 512 (Value.int .u8 0) from zeros_row 512]
    exact (r1.keep_nil f2).rd.1
  have F2 := f1.trans_nil f2
  have hV7 := blkV_some (rs13_ok 7 (by decide))
  obtain ⟨bs, hbs⟩ : ∃ bs, blkL 7 rs13 ++ [doneB 7 (blkL 7 rs13).flatten] = bs := ⟨_, rfl⟩
  have hT7 : trV 7 bs = some rs13 := by rw [← hbs, ← List.append_nil (_ ++ [_])]; exact trV_blk (rs13_ok 7 (by decide)) (by decide) []
  have hT8 : trV 8 bs = none := by rw [← hbs]; exact trV_other (rs13_ok 7 (by decide)) (by decide) (by decide) _
  have hL3 : bs.length = 3 := by rw [← hbs, List.length_append, blkL_len]; rfl
  obtain ⟨b0, br, hb0⟩ : ∃ b0 br, bs = b0 :: br := ⟨_, _, hbs.symm⟩
  have hb4 : b0.take 4 = planM := by
    have : b0 = planB 7 (rcP rs13) (rcT rs13 1) := by
      have := hbs.trans hb0
      rw [blkL, List.cons_append] at this
      exact (List.cons.inj this).1.symm
    rw [this, planB_eq, List.take_left' (show planM.length = 4 from rfl)]
  have hb5 : b0.length = 512 := by
    have : b0 = planB 7 (rcP rs13) (rcT rs13 1) := by
      have := hbs.trans hb0
      rw [blkL, List.cons_append] at this
      exact (List.cons.inj this).1.symm
    rw [this, planB_len _ _ _ (by decide)]
  rw [hbs] at hV7
  have HV7 := Lib.hid hV7
  have HT7 := Lib.hid hT7
  have HT8 := Lib.hid hT8
  have HL3 := Lib.hid hL3
  have HB0 := Lib.hid hb0
  have HB4 := Lib.hid hb4
  have HB5 := Lib.hid hb5
  clear hV7 hT7 hT8 hL3 hb0 hb4 hb5 hbs
  refine (rcBlocks_any w2 _ 7 1 1 rs13 (by decide) hR (hK.keep F2)).mono ?_
  intro e w3 hE
  obtain ⟨v3, vs, rfl, R3, f3⟩ := BlkC.of_some HV7.out hE
  obtain ⟨A3, c3, rfl, hc3, D3, n3⟩ := R3.arg HL3.out
  have F3 := F2.trans_nil f3
  clear hE hR B2 b1 r1 f1 f2 f3 F2
  go_wp2_with fail
  refine (rcParse_any w3 A3 7 3 c3 vs bs (by decide) HL3.out D3 n3 hc3 (by omega) (hK.keep F3)).mono ?_
  intro e w4 hE
  obtain ⟨v4, ps, rfl, R4, f4⟩ := TrC.of_some HT7.out hE
  have F4 := F3.trans_nil f4
  have r4 := R4.row
  rw [show rs13.length = 1 from rfl] at r4
  obtain ⟨g4, c4, rfl⟩ := rowhd r4 (by omega)
  have p4 := rcells_at ps 0 (by rw [R4.len]; decide)
  have q4 := (R4.each 0 (by rw [R4.len]; decide) (by decide)).1
  replace D3 := D3.keep_nil f4
  clear hE F3 f4
  go_wp2_with fail
  refine (rcMark_any w4 9 (by decide) (hK.keep F4)).mono ?_
  rintro e w5 ⟨v5, rfl, r5, f5⟩
  rw [if_neg (by decide), if_neg (by decide)] at r5
  obtain ⟨A5, c5, rfl, hc5, -, -, -, -⟩ := r5.shape
  have F5 := F4.trans_nil f5
  replace D3 := D3.keep_nil f5
  replace r4 := r4.keep_nil f5
  clear f5 F4
  have hm9 := rmV_mark (n := 9) (by decide) (by decide)
  obtain ⟨mk, hmk⟩ : ∃ mk, markB 9 = mk := ⟨_, rfl⟩
  have hml : mk.length = 512 := by rw [← hmk, markB_len]
  rw [hmk] at r5 hm9
  have HML := Lib.hid hml
  have HM9 := Lib.hid hm9
  clear hmk hml hm9
  go_wp2_with fail
  have cc := rcReadMark_any w5 A5 mk 512 c5 HML.out r5.rd.1 r5.rd.2.2 (by omega) (hK.keep F5)
  unfold RmC at cc
  rw [HM9.out] at cc
  refine cc.mono ?_
  clear cc
  rintro e w6 ⟨rfl, f6⟩
  have F6 := F5.trans_nil f6
  replace D3 := D3.keep_nil f6
  replace r4 := r4.keep_nil f6
  clear f6 F5 r5
  go_wp2_with fail
  refine (rcParse_any w6 A3 8 3 c3 vs bs (by decide) HL3.out D3 n3 hc3 (by omega) (hK.keep F6)).mono ?_
  intro e w7 hE
  obtain ⟨v7, rfl, ⟨A7, c7, rfl⟩, f7⟩ := TrC.of_none HT8.out hE
  have F7 := F6.trans_nil f7
  replace D3 := D3.keep_nil f7
  replace r4 := r4.keep_nil f7
  have hv0 : 0 < vs.length := by rw [D3.len, HL3.out]; omega
  obtain ⟨g3, o3, rfl, hc⟩ := D3.rd (by intro h; rw [h] at hv0; simp at hv0)
  obtain ⟨Ab, cb, hv, rdb, nilb, capb⟩ := D3.each 0 hv0 (by rw [HL3.out]; omega)
  have cell := hc 0 vs[0] (List.getElem?_eq_getElem hv0)
  have e0 : bs[0]'(by rw [HL3.out]; omega) = b0 := by simp [HB0.out]
  rw [e0] at hv rdb nilb capb
  rw [HB5.out] at hv nilb capb
  rw [hv, Nat.add_zero] at cell
  have E4 := strB w7 Ab (b0.take 4) 4 cb (by rw [List.length_take, HB5.out]; rfl) (by rw [bvs_take]; exact rdb.take 4) (fun h => absurd (nilb h) (by omega))
  rw [HB4.out] at E4
  unfold planM at E4
  have K4 : (4 : Int) ≤ cb := by omega
  obtain ⟨g4', o4', e4, hc4⟩ := r4.rd.1 (by intro h; have := congrArg List.length h; rw [rcells_len, R4.len] at this; simp [rs13] at this)
  cases e4
  have x4 := hc4 0 _ p4.1
  rw [q4, show rs13[0].1 = 3 from rfl] at x4
  simp only [Nat.add_zero] at x4
  clear hE f7 F6 D3 hc hv e0 p4 q4 R4 hc4 r4 R3 hv0
  go_wp2_with fail
  go_ret
  exact ⟨rfl, F7⟩
end Go.Proofs.YtlelgeigighecaaDoor
/-
  Layer 13 (record): the reference's Parse.
-/
set_option linter.unusedSimpArgs false
set_option linter.unusedVariables false
set_option linter.unnecessarySimpa false
namespace Go.Proofs.YtlelgeigighecaaDoor
open Go.RowKit

theorem RRow.keepF {w w' : World} {B : Nat} {v : Value} {ps : List (Int × Value)} {rs : List (Int × List UInt8)} (h : RRow w B v ps rs) {F : List Nat} (f : Fr F w w') (h1 : ∀ g, v.ownBlock = some g → g ∉ F) (h2 : ∀ p ∈ ps, ∀ g, p.2.ownBlock = some g → g ∉ F) : RRow w' B v ps rs :=
  ⟨h.row.keep f h1, h.len, fun i hi hi' => ⟨(h.each i hi hi').1, (h.each i hi hi').2.keep f (h2 _ (List.getElem_mem hi))⟩⟩
theorem RRow.lt {w : World} {B : Nat} {v : Value} {ps : List (Int × Value)} {rs : List (Int × List UInt8)} (h : RRow w B v ps rs) : ∀ p ∈ ps, ∀ g, p.2.ownBlock = some g → B ≤ g ∧ g < w.heap.size := by
  intro p hp g hg
  obtain ⟨i, hi, rfl⟩ := List.getElem_of_mem hp
  exact (h.each i hi (by rw [← h.len]; exact hi)).2.lt g hg
/-- None of the redos' bytes lie there. -/
def Off (ps : List (Int × Value)) (v : Value) : Prop := ∀ p ∈ ps, ∀ g, p.2.ownBlock = some g → v.ownBlock ≠ some g
set_option maxRecDepth 100000 in
set_option maxHeartbeats 8000000 in
theorem xrcParse_any (w : World) (A : Option Addr) (m n c : Nat) (vs : List Value) (bs : List (List UInt8)) (hm : m < 18446744073709551616) (hn : bs.length = n) (hr : BRd w A vs bs) (hA : A = none → n = 0) (hc : n ≤ c) (hn2 : n ≤ 140737488355328) :
    Calls Tryd.prog 31 #[.int .u64 m, .slice A n c] w (TrC w m bs) := by
  have HN := Lib.hid hn
  by_cases h0 : n = 0
  · subst h0
    have hb : bs = [] := List.length_eq_zero_iff.1 hn
    subst hb
    clear hn
    go_enter Tryd.func31, Tryd.ntmps31
    have HV := Lib.hid (show trV m [] = none from (trV_none (plV_none fun h => by have := h.1; cases this)))
    go_wp2_with fail
    go_ret3
    exact TrC.no HV.out (Fr.refl _ _)
  · have d0 : ((n : Int) == 0) = false := by rw [beq_eq_false_iff_ne]; omega
    have hv0 : vs.length = n := by rw [hr.len, hn]
    obtain ⟨b0, bs', hbs⟩ : ∃ b0 bs', bs = b0 :: bs' := by
      cases bs with
      | nil => simp at hn; omega
      | cons x r => exact ⟨x, r, rfl⟩
    obtain ⟨v0, vs', hvs⟩ : ∃ v0 vs', vs = v0 :: vs' := by
      cases vs with
      | nil => simp at hv0; omega
      | cons x r => exact ⟨x, r, rfl⟩
    obtain ⟨g, o, rfl, hcell⟩ := hr.rd (by rw [hvs]; simp)
    have c0 := hcell 0 v0 (by rw [hvs]; rfl)
    rw [Nat.add_zero] at c0
    have hs0 := hr.each 0 (by rw [hvs]; simp) (by rw [hbs]; simp)
    obtain ⟨A0, cap0, hv00, hr0, hn0, hc0⟩ := hs0
    have ev : vs[0]'(by rw [hvs]; simp) = v0 := by simp [hvs]
    have eb : bs[0]'(by rw [hbs]; simp) = b0 := by simp [hbs]
    rw [ev, eb] at hv00
    rw [eb] at hr0 hn0 hc0
    rw [hv00] at c0
    have HH := Lib.hid (show bs.headD [] = b0 by rw [hbs]; rfl)
    have HB1 := Lib.hid (show bs.take 1 = [b0] by rw [hbs]; rfl)
    obtain ⟨l0, hl0⟩ : ∃ l0, b0.length = l0 := ⟨_, rfl⟩
    rw [hl0] at c0 hn0 hc0
    have cc := xrcParts_any w A0 b0 l0 cap0 hl0 hr0 hn0 hc0
    have HL0 := Lib.hid hl0
    have hpos : (0 : Int) < n := by omega
    clear ev eb hv00 hl0 hbs hvs h0 hv0
    go_enter Tryd.func31, Tryd.ntmps31
    cases hp : plV b0 with
    | none =>
      have hV : trV m bs = none := trV_none (by rw [HH.out]; exact hp)
      have HV0 := Lib.hid hV
      go_wp2_with fail
      refine cc.mono ?_
      intro e w1 hE
      obtain ⟨v, rfl, r, f⟩ := PartC.of_none hp hE
      obtain ⟨A8, cap8, rfl, -, -, -, -, -⟩ := r.shape
      clear cc hE hV hp
      have HV := Lib.hid (show trV m bs = none from HV0.out)
      go_wp2_with fail
      go_ret3
      exact TrC.no HV.out f
    | some x =>
      obtain ⟨m', L, t⟩ := x
      obtain ⟨hl5, hL1, hL64, hm', ht, hLx⟩ := plV_b hp
      have HP := Lib.hid (show plV (bs.headD []) = some (m', L, t) by rw [HH.out]; exact hp)
      obtain ⟨N, hN⟩ : ∃ N, L.length = N := ⟨_, rfl⟩
      have HLN := Lib.hid hN
      have HL5 := Lib.hid hl5
      rw [hN] at hL1 hL64
      obtain rfl : 512 = l0 := by rw [← hl5, HL0.out]
      clear hl5
      go_wp2_with fail
      refine cc.mono ?_
      intro e w1 hE
      obtain ⟨v, rfl, r, f⟩ := PartC.of_some hp hE
      rw [hN] at r
      clear cc hE hp hN
      obtain ⟨A8, cap8, rfl, -, -, -, -, -⟩ := r.shape
      by_cases hmm : m' = m
      · replace hmm := hmm.symm
        subst hmm
        by_cases hlast : n < N + 2
        · have K1 : (n : Int) < N + 2 := by omega
          have HV := Lib.hid (show trV m bs = none from (trV_no HP.out fun h => by have := h.2.1; rw [HLN.out, HN.out] at this; omega))
          go_wp2_with fail
          go_ret3
          exact TrC.no HV.out f
        · have K1 : ¬ ((n : Int) < N + 2) := by omega
          have hlb : N + 1 < bs.length := by rw [HN.out]; omega
          have hlv : N + 1 < vs.length := by rw [hr.len]; exact hlb
          obtain ⟨Al, cl, hvl, rdl, nill, capl⟩ := hr.each (N + 1) hlv hlb
          have cell9 := hcell (N + 1) vs[N + 1] (List.getElem?_eq_getElem hlv)
          rw [hvl] at cell9
          obtain ⟨bl, hbl⟩ : ∃ bl, bs[N + 1] = bl := ⟨_, rfl⟩
          rw [hbl] at cell9 rdl nill capl
          obtain ⟨nl, hnl⟩ : ∃ nl, bl.length = nl := ⟨_, rfl⟩
          rw [hnl] at cell9 nill capl
          have HNL := Lib.hid hnl
          have HBL := Lib.hid (show bs.getD (N + 1) [] = bl by simp [hlb, hbl])
          clear hvl hbl hnl hcell
          have rd0 := hr0.keep_nil f
          have c1 := (f.alloc (.cells #[] 5)).cell (by simp) c0
          go_wp2_with (at_builtin; refine wpList_app rfl rfl slB w.heap.size (.slice (some ⟨w1.heap.size, 0, none⟩) 0 0) 0 [] rfl (Row.new w1 #[] 5 1 0 (0, 0) (free_zero _) (by unfold maxLen; omega) rfl f.size) A0 512 cap0 (bvs b0) rfl (by rw [bvs_length, HL5.out]) (rd0.alloc _) (bvs_one _) hn0 (by omega) (by have := f.size; simp; omega) ?_; intro v1 w2 q1 q2 q3 q4)
          have F2 : Fr [] w w2 := (f.alloc _).trans q2 (fun i hi => .inr (by rw [own_mem.1 hi]; exact f.size))
          have r2 := (r.alloc (.cells #[] 5)).keep q2 (fun g hg hm => by have := r.lt g hg; have := own_mem.1 hm; omega)
          rw [Nat.zero_add, List.nil_append] at q1
          obtain ⟨A2, cap2, rfl, -, -, -, -, -⟩ := q1.shape
          clear q2 q3 q4 rd0 hr0 hn0 hc0 r f c0 c1
          go_wp2_with fail
          go_loopw [11, 12, 13] (fun v11 v12 i wr => ∃ k : Nat, k ≤ N ∧ i = .int .i64 k ∧ Row wr w.heap.size 3 1 (.slice A8 N cap8) N (zvs L) ∧ (∃ ps, RRow wr w.heap.size v11 ps ((List.range k).map (trE t L bs)) ∧ Off ps v12) ∧ Row wr w.heap.size 5 1 v12 (512 * (k + 1)) (bvs (bs.take (k + 1)).flatten) ∧ all5 (bs.take (k + 1)) = true ∧ (∀ i, i < k → trQ t bs i) ∧ Fr [] w wr) (fun _ _ i _ => N - (intOf i).toNat)
          case atStart => exact ⟨0, Nat.zero_le _, rfl, r2, ⟨[], RRow.nil _ _, fun p hp => by cases hp⟩, by rw [HB1.out]; simpa using q1, by rw [HB1.out]; simp [all5, HL5.out], fun i h => absurd h (by omega), F2⟩
          case round =>
            clear q1 r2 F2
            obtain ⟨k, hk, rfl, R8, ⟨ps, R13, OFF⟩, R12, hall5, hall, F⟩ := hrel
            by_cases hlt : k < N
            · have hkb : 1 + k < bs.length := by rw [HN.out]; omega
              have hkv : 1 + k < vs.length := by rw [hr.len]; exact hkb
              obtain ⟨g', o', e', hc⟩ := hr.rd (by intro h; rw [h] at hkv; simp at hkv)
              cases e'
              obtain ⟨Ak, ck, hv, rdk, nilk, capk⟩ := hr.each (1 + k) hkv hkb
              have cell := F.cell (by simp) (hc (1 + k) vs[1 + k] (List.getElem?_eq_getElem hkv))
              have hbg : bs.getD (1 + k) [] = bs[1 + k] := by simp [hkb]
              have hft := flat_take_succ bs (1 + k) hkb
              have h5t : all5 (bs.take (1 + k + 1)) = (all5 (bs.take (1 + k)) && (bs[1 + k].length == 512)) := by unfold all5; rw [List.take_succ_eq_append_getElem hkb, List.all_append]; simp only [List.all_cons, List.all_nil, Bool.and_true]
              have hin : bs[1 + k] ∈ bs.take (N + 1) := List.mem_of_getElem? (i := 1 + k) (by rw [List.getElem?_take_of_lt (by omega)]; exact List.getElem?_eq_getElem hkb)
              rw [hv] at cell
              obtain ⟨b, hb⟩ : ∃ b, bs[1 + k] = b := ⟨_, rfl⟩
              rw [hb] at hbg rdk nilk capk cell hft h5t hin
              obtain ⟨nb, hnb⟩ : ∃ nb, b.length = nb := ⟨_, rfl⟩
              rw [hnb] at nilk capk cell h5t
              have hkl : k < L.length := by rw [HLN.out]; exact hlt
              have hxd : L.getD k 0 = L[k] := by simp [hkl]
              obtain ⟨x, hx⟩ : ∃ x, L[k] = x := ⟨_, rfl⟩
              rw [hx] at hxd
              have HXX := Lib.hid (fun (wx : World) (rx : Row wx w.heap.size 3 1 (.slice A8 N cap8) N (zvs L)) => (by
                obtain ⟨g2, o2, e2, hc2⟩ := zint_at rx.rd.1 hkl
                have c2 := hc2 k hkl
                rw [hx] at c2
                exact ⟨g2, o2, e2, c2⟩ : ∃ g2 o2, A8 = some ⟨g2, o2, none⟩ ∧ wx.cell? ⟨g2, o2 + k, none⟩ = some (.int .i64 x)))
              by_cases h5 : nb = 512
              · subst h5
                have H5 := Lib.hid hnb
                have HXD := Lib.hid hxd
                have HBG := Lib.hid hbg
                have HLK := Lib.hid (show ((List.range k).map (trE t L bs)).length = k by simp)
                have HSUC := Lib.hid (show (List.range (k + 1)).map (trE t L bs) = (List.range k).map (trE t L bs) ++ [(x, trB t k b)] by rw [List.range_succ, List.map_append, List.map_singleton, trE, hxd, hbg])
                have HQK := Lib.hid (show trQ t bs k ↔ decide (t / 2 ^ k % 2 = 1) = likeB (trB t k b) by unfold trQ; rw [hbg])
                have HALL := Lib.hid (fun h : trQ t bs k => (fun i hi => if e : i = k then by subst e; exact h else hall i (by omega) : ∀ i, i < k + 1 → trQ t bs i))
                have HFT := Lib.hid (show (bs.take (k + 1 + 1)).flatten = (bs.take (k + 1)).flatten ++ b by rw [Nat.add_comm 1 k] at hft; exact hft)
                have HA5 := Lib.hid (show all5 (bs.take (k + 1 + 1)) = true by rw [Nat.add_comm 1 k] at h5t; rw [h5t, hall5]; rfl)
                have HB5 := Lib.hid (show (trB t k b).length = 512 by rw [trB_len, hnb])
                have AND : ((t : Int) / 2 ^ k).tmod 2 = ((t / 2 ^ k % 2 : Nat) : Int) := by rw [show (t : Int) / 2 ^ k = ((t / 2 ^ k : Nat) : Int) by push_cast; rfl]; exact (Int.ofNat_tmod _ _).symm
                obtain ⟨A12, c12, rfl, -, -, -, -, -⟩ := R12.shape
                clear hv hbg hb hc hxd hall hall5 hkb hkv hkl hft h5t hin hx hnb
                go_upto_region 15 with (at_builtin; refine wpList_app rfl rfl slB w.heap.size _ (512 * (k + 1)) (bvs (bs.take (k + 1)).flatten) rfl R12 Ak 512 ck (bvs b) rfl (by rw [bvs_length, H5.out]) (rdk.keep_nil F) (bvs_one _) nilk (by omega) F.size ?_; intro v2 w2 q1 q2 q3 q4)
                have F2 := F.trans q2 (fun i hi => .inr (R12.lt i (mem_own.1 hi)).1)
                replace R8 := R8.keep q2 (fun g hg hm => R8.ne_rowR R12 (by decide) g hg (mem_own.1 hm))
                have OFF2 : Off ps v2 := fun p hp g hg h2 => by
                  rcases q3 g h2 with h | h
                  · exact OFF p hp g hg h
                  · have := R13.lt p hp g hg; omega
                replace R13 := R13.keepF q2 (fun g hg hm => R13.row.ne_rowR R12 (by decide) g hg (mem_own.1 hm)) (fun p hp g hg hm => OFF p hp g hg (mem_own.1 hm))
                rw [show 512 * (k + 1) + 512 = 512 * (k + 1 + 1) by omega, ← bvs_append, ← HFT.out] at q1
                clear R12 OFF
                obtain ⟨A12, c12, rfl, -, -, -, -, -⟩ := q1.shape
                have R12 := q1
                have rdk2 := rdk.keep_nil F2
                clear q1 q2 q3 q4 F rdk cell
                by_cases hbit : t / 2 ^ k % 2 = 1
                · have d1 : (((t : Int) / 2 ^ k).tmod 2 == 1) = true := by rw [AND, hbit]; rfl
                  have HTR := Lib.hid (show trB t k b = turnB b by rw [trB, if_pos hbit])
                  have HBIT := Lib.hid (show decide (t / 2 ^ k % 2 = 1) = true by rw [hbit]; rfl)
                  clear AND hbit
                  go_wp2_with fail
                  refine (xrcTurn_any Ak b 512 ck w2 H5.out rdk2 nilk (by omega) (by omega)).mono ?_
                  rintro e w5 ⟨v5, rfl, r5, f5⟩
                  obtain ⟨A5, c5, rfl, hc5, -, -, -, -⟩ := r5.shape
                  have F5 := F2.trans_nil f5
                  rw [← HTR.out] at r5
                  have rd5 := r5.rd.1
                  have nil5 := r5.rd.2.2
                  have cap5 := hc5
                  have OFF := OFF2
                  replace R8 := R8.keep_nil f5
                  replace R13 := R13.keep_nil f5
                  replace R12 := R12.keep_nil f5
                  clear F2 OFF2 rdk2 f5 r5 hc5
                  go_wp2_with fail
                  have cc := xrcLike_any A5 (trB t k b) 512 c5 w5 HB5.out rd5 nil5 (by omega) cap5
                  cases hlk : likeB (trB t k b)
                  · rw [hlk] at cc
                    have HQN := Lib.hid (show ¬ trQ t bs k by rw [HQK.out, hlk, HBIT.out]; decide)
                    refine cc.mono ?_
                    clear cc hlk
                    rintro e w6 ⟨rfl, rfl⟩
                    have HV := Lib.hid (show trV m bs = none from (trV_no HP.out fun h => HQN.out (h.2.2.2.2 k (by rw [HLN.out]; exact hlt))))
                    go_wp2_with fail
                    go_ret3
                    exact TrC.no HV.out F5
                  · rw [hlk] at cc
                    have HQY := Lib.hid (HALL.out (by rw [HQK.out, hlk, HBIT.out]))
                    refine cc.mono ?_
                    clear cc hlk HALL
                    rintro e w6 ⟨rfl, rfl⟩
                    have r13 := R13.row
                    rw [HLK.out] at r13
                    obtain ⟨A13, c13, rfl, -, -, -, -, -⟩ := r13.shape
                    obtain ⟨g2, o2, rfl, c2⟩ := HXX.out w5 R8
                    go_upto_region 20 with fail
                    have g2l : g2 < w5.heap.size := World.block_lt_of_cell? w5 _ c2
                    have fz := (Fr.refl [] w5).drew
                    obtain ⟨w6, hw6⟩ : ∃ w6, w5.drew = w6 := ⟨_, rfl⟩
                    rw [hw6] at fz
                    replace c2 := fz.cell (by simp) c2
                    refine wp_region_held_drew (S := fun w' => w'.cell? ⟨g2, o2 + k, none⟩ = some (.int .i64 x)) (by kernel_rfl) (by rw [hw6]; exact c2) (fun hHeld => ?_)
                    rw [hw6] at hHeld ⊢
                    replace R8 := R8.keep_nil fz
                    replace R13 := R13.keep_nil fz
                    replace r13 := r13.keep_nil fz
                    replace R12 := R12.keep_nil fz
                    replace rd5 := rd5.keep_nil fz
                    replace F5 := F5.trans_nil fz
                    replace g2l := Nat.lt_of_lt_of_le g2l fz.size
                    clear hw6 fz c2
                    refine take_w 0 (some 77) (v := ?_) rfl rfl (by kernel_rfl) (by kernel_rfl) (by kernel_rfl) (fun _ _ _ h => h) (by rfl) ?_ hHeld ?_
                    rotate_left
                    · (intro w hSw; (try dsimp only at hSw); go_simp; try with_reducible rfl)
                    simp only [Act.put, List.setIfInBounds_toArray, List.set_cons_zero, List.set_cons_succ]
                    refine take_w 1 (some 78) (v := ?_) rfl rfl (by kernel_rfl) (by kernel_rfl) (by kernel_rfl) (fun _ _ _ h => h) (by rfl) ?_ hHeld ?_
                    rotate_left
                    · (intro w hSw; (try dsimp only at hSw); go_simp; try with_reducible rfl)
                    simp only [Act.put, List.setIfInBounds_toArray, List.set_cons_zero, List.set_cons_succ]
                    refine take_w 2 (some 79) (v := ?_) rfl rfl (by kernel_rfl) (by kernel_rfl) (by kernel_rfl) (fun _ _ _ h => h) (by rfl) ?_ hHeld ?_
                    rotate_left
                    · (intro w hSw; (try dsimp only at hSw); go_simp; try with_reducible rfl)
                    simp only [Act.put, List.setIfInBounds_toArray, List.set_cons_zero, List.set_cons_succ]
                    refine take_w 3 (some 80) (v := ?_) rfl rfl (by kernel_rfl) (by kernel_rfl) (by kernel_rfl) (fun _ _ _ h => h) (by rfl) ?_ hHeld ?_
                    rotate_left
                    · (intro w hSw; (try dsimp only at hSw); go_simp; try with_reducible rfl)
                    simp only [Act.put, List.setIfInBounds_toArray, List.set_cons_zero, List.set_cons_succ]
                    refine take_w 4 (some 81) (v := ?_) rfl rfl (by kernel_rfl) (by kernel_rfl) (by kernel_rfl) (fun _ _ _ h => h) (by rfl) ?_ hHeld ?_
                    rotate_left
                    · (intro w hSw; (try dsimp only at hSw); go_simp; try with_reducible rfl)
                    simp only [Act.put, List.setIfInBounds_toArray, List.set_cons_zero, List.set_cons_succ]
                    refine take_w 6 (some 83) (v := ?_) rfl rfl (by kernel_rfl) (by kernel_rfl) (by kernel_rfl) (fun _ _ _ h => h) (by rfl) ?_ hHeld ?_
                    rotate_left
                    · (intro w hSw; (try dsimp only at hSw); go_simp; try with_reducible rfl)
                    simp only [Act.put, List.setIfInBounds_toArray, List.set_cons_zero, List.set_cons_succ]
                    refine take_c 5 rfl (by kernel_rfl) (by rfl) (fun K hK => ?_)
                    go_simp
                    have fe : Fr [] w6 (w6.alloc (.cells #[] 5)) := (Fr.refl _ _).alloc _
                    refine hK.out _ _ (fe.cell (by simp) hHeld) (fun hHx => ?_)
                    clear hHeld
                    have hHeld := hHx
                    clear hHx
                    clear hK K
                    try simp only [Act.put, List.setIfInBounds_toArray, List.set_cons_zero, List.set_cons_succ]
                    have RE := Row.new w6 #[] 5 1 0 (0, 0) (free_zero _) (by unfold maxLen; omega) rfl F5.size
                    have sE : (w6.alloc (.cells #[] 5)).heap.size = w6.heap.size + 1 := by simp
                    obtain ⟨wE, hwE⟩ : ∃ wE, w6.alloc (.cells #[] 5) = wE := ⟨_, rfl⟩
                    obtain ⟨gE, hgE⟩ : ∃ gE, w6.heap.size = gE := ⟨_, rfl⟩
                    have lt12 : ∀ g, (Value.slice A12 (512 * (k + 1 + 1)) c12).ownBlock = some g → g < gE := fun g hg => by rw [← hgE]; exact (R12.lt g hg).2
                    have ltps : ∀ p ∈ ps, ∀ g, p.2.ownBlock = some g → g < gE := fun p hp g hg => by rw [← hgE]; exact (R13.lt p hp g hg).2
                    have lt13 : ∀ g, (Value.slice A13 k c13).ownBlock = some g → g < gE := fun g hg => by rw [← hgE]; exact (r13.lt g hg).2
                    have lt8 : ∀ g, (Value.slice (some ⟨g2, o2, none⟩) N cap8).ownBlock = some g → g < gE := fun g hg => by rw [← hgE]; exact (R8.lt g hg).2
                    rw [hwE] at fe hHeld RE sE ⊢
                    rw [hgE] at RE sE g2l ⊢
                    have gEw : w.heap.size ≤ gE := by rw [← hgE]; exact F5.size
                    replace R8 := R8.keep_nil fe
                    replace R13 := R13.keep_nil fe
                    replace R12 := R12.keep_nil fe
                    replace rd5 := rd5.keep_nil fe
                    replace F5 := F5.trans_nil fe
                    clear hwE hgE fe r13
                    refine take_c 7 rfl (by kernel_rfl) (by rfl) (fun K hK => ?_)
                    refine wp_app rfl slB w.heap.size (.slice (some ⟨gE, 0, none⟩) 0 0) 0 [] rfl RE A5 512 c5 (bvs (trB t k b)) rfl (by rw [bvs_length, HB5.out]) rd5 (bvs_one _) nil5 (by omega) F5.size (fun va wa q1 q2 q3 q4 => hK.out _ _ (q2.cell (by rw [own_mem]; show g2 ≠ gE; omega) hHeld) (fun hHx => ?_))
                    clear hHeld
                    have hHeld := hHx
                    clear hHx
                    clear hK K
                    try simp only [Act.put, List.setIfInBounds_toArray, List.set_cons_zero, List.set_cons_succ]
                    have oE : ∀ g, g < gE → g ∉ (Value.slice (some ⟨gE, 0, none⟩) 0 0).ownBlock.toList := fun g hg hm => by have := own_mem.1 hm; omega
                    replace R8 := R8.keep q2 (fun g hg => oE g (lt8 g hg))
                    replace R13 := R13.keepF q2 (fun g hg => oE g (lt13 g hg)) (fun p hp g hg => oE g (ltps p hp g hg))
                    replace R12 := R12.keep q2 (fun g hg => oE g (lt12 g hg))
                    replace F5 := F5.trans q2 (fun i hi => .inr (by rw [own_mem.1 hi]; exact gEw))
                    rw [Nat.zero_add, List.nil_append] at q1
                    have offa : ∀ g, va.ownBlock = some g → gE ≤ g := fun g hg => by
                      rcases q3 g hg with h | h
                      · rw [own_mem.1 (mem_own.2 h)]; exact Nat.le_refl _
                      · omega
                    obtain ⟨Aa, ca, rfl, -, -, -, -, -⟩ := q1.shape
                    clear q2 q3 q4 RE rd5 oE
                    have r13 := R13.row
                    rw [HLK.out] at r13
                    refine take_w 8 (some 85) (v := ?_) rfl rfl (by kernel_rfl) (by kernel_rfl) (by kernel_rfl) (fun _ _ _ h => h) (by rfl) ?_ hHeld ?_
                    rotate_left
                    · (intro w hSw; (try dsimp only at hSw); go_simp; try with_reducible rfl)
                    simp only [Act.put, List.setIfInBounds_toArray, List.set_cons_zero, List.set_cons_succ]
                    refine take_c 9 rfl (by kernel_rfl) (by rfl) (fun K hK => ?_)
                    go_simp
                    have fb : Fr [] wa (wa.alloc (.cells #[.int .i64 x, .slice Aa 512 ca] 85)) := (Fr.refl _ _).alloc _
                    have RD := Rd.of_blk (Blk.new wa 85 #[.int .i64 x, .slice Aa 512 ca]) 0 [.int .i64 x, .slice Aa 512 ca] (fun j u hu => by rw [Nat.zero_add]; simpa using hu)
                    refine hK.out _ _ (fb.cell (by simp) hHeld) (fun hHx => ?_)
                    clear hHeld
                    have hHeld := hHx
                    clear hHx
                    clear hK K
                    try simp only [Act.put, List.setIfInBounds_toArray, List.set_cons_zero, List.set_cons_succ]
                    obtain ⟨wb, hwb⟩ : ∃ wb, wa.alloc (.cells #[.int .i64 x, .slice Aa 512 ca] 85) = wb := ⟨_, rfl⟩
                    rw [hwb] at fb RD hHeld ⊢
                    replace R8 := R8.keep_nil fb
                    replace R13 := R13.keep_nil fb
                    replace r13 := r13.keep_nil fb
                    replace R12 := R12.keep_nil fb
                    replace q1 := q1.keep_nil fb
                    replace F5 := F5.trans_nil fb
                    clear hwb fb
                    refine take_c 10 rfl (by kernel_rfl) (by rfl) (fun K hK => ?_)
                    refine wp_app rfl slR w.heap.size (.slice A13 k c13) k (rcells ps) rfl r13 _ 1 1 [.int .i64 x, .slice Aa 512 ca] rfl rfl RD (by intro u hu; simp at hu; rcases hu with rfl | rfl <;> rfl) (fun h => by cases h) (by omega) F5.size (fun v7 w7 p1 p2 p3 p4 => hK.out _ _ (p2.cell (fun hm => R8.ne_rowR r13 (by decide) g2 rfl (mem_own.1 hm)) hHeld) (fun hHx => ?_))
                    clear hHeld
                    have hHeld := hHx
                    clear hHx
                    clear hK K
                    try simp only [Act.put, List.setIfInBounds_toArray, List.set_cons_zero, List.set_cons_succ]
                    have R14 := R13.snoc (x := x) (by rw [HB5.out]; exact q1 : Row wb w.heap.size 5 1 (.slice Aa 512 ca) (trB t k b).length (bvs (trB t k b))) p2 (by rw [HLK.out]; exact p1)
                    rw [← HSUC.out] at R14
                    replace R8 := R8.keep p2 (fun g hg hm => R8.ne_rowR r13 (by decide) g hg (mem_own.1 hm))
                    replace R12 := R12.keep p2 (fun g hg hm => R12.ne_rowR r13 (by decide) g hg (mem_own.1 hm))
                    replace F5 := F5.trans p2 (fun i hi => .inr (r13.lt i (mem_own.1 hi)).1)
                    have OFF3 : Off (ps ++ [(x, Value.slice Aa 512 ca)]) (Value.slice A12 (512 * (k + 1 + 1)) c12) := fun p hp g hg h2 => by
                      rcases List.mem_append.1 hp with hp | hp
                      · exact OFF p hp g hg h2
                      · rw [List.mem_singleton.1 hp] at hg
                        have := offa g hg
                        have := lt12 g h2
                        omega
                    clear p1 p2 p3 p4 r13 R13 OFF q1 RD
                    refine take_w 11 (some 11) (v := ?_) rfl rfl (by kernel_rfl) (by kernel_rfl) (by kernel_rfl) (fun _ _ _ h => h) (by rfl) ?_ hHeld ?_
                    rotate_left
                    · (intro w hSw; (try dsimp only at hSw); go_simp; try with_reducible rfl)
                    simp only [Act.put, List.setIfInBounds_toArray, List.set_cons_zero, List.set_cons_succ]
                    refine wpAnyH_done (by kernel_rfl) ?_ _
                    go_wp2_with fail
                    exact ⟨⟨k + 1, by omega, by go_num, R8, ⟨_, R14, OFF3⟩, R12, HA5.out, HQY.out, F5⟩, by simp [intOf]; omega⟩
                · have d1 : (((t : Int) / 2 ^ k).tmod 2 == 1) = false := by rw [AND, beq_eq_false_iff_ne]; omega
                  have HTR := Lib.hid (show trB t k b = b by rw [trB, if_neg hbit])
                  have HBIT := Lib.hid (show decide (t / 2 ^ k % 2 = 1) = false by rw [decide_eq_false hbit])
                  clear AND hbit
                  go_wp2_with fail
                  obtain ⟨A5, hA5⟩ : ∃ A5, A5 = Ak := ⟨_, rfl⟩
                  obtain ⟨c5, hc5⟩ : ∃ c5, c5 = ck := ⟨_, rfl⟩
                  subst hA5 hc5
                  have rd5 := rdk2
                  rw [← HTR.out] at rd5
                  have nil5 := nilk
                  have cap5 := capk
                  have F5 := F2
                  have OFF := OFF2
                  obtain ⟨w5, hw5⟩ : ∃ w5, w5 = w2 := ⟨_, rfl⟩
                  subst hw5
                  clear F2 OFF2 rdk2
                  have cc := xrcLike_any A5 (trB t k b) 512 c5 w5 HB5.out rd5 nil5 (by omega) cap5
                  cases hlk : likeB (trB t k b)
                  · rw [hlk] at cc
                    have HQY := Lib.hid (HALL.out (by rw [HQK.out, hlk, HBIT.out]))
                    refine cc.mono ?_
                    clear cc hlk HALL
                    rintro e w6 ⟨rfl, rfl⟩
                    have r13 := R13.row
                    rw [HLK.out] at r13
                    obtain ⟨A13, c13, rfl, -, -, -, -, -⟩ := r13.shape
                    obtain ⟨g2, o2, rfl, c2⟩ := HXX.out w5 R8
                    go_upto_region 20 with fail
                    have g2l : g2 < w5.heap.size := World.block_lt_of_cell? w5 _ c2
                    have fz := (Fr.refl [] w5).drew
                    obtain ⟨w6, hw6⟩ : ∃ w6, w5.drew = w6 := ⟨_, rfl⟩
                    rw [hw6] at fz
                    replace c2 := fz.cell (by simp) c2
                    refine wp_region_held_drew (S := fun w' => w'.cell? ⟨g2, o2 + k, none⟩ = some (.int .i64 x)) (by kernel_rfl) (by rw [hw6]; exact c2) (fun hHeld => ?_)
                    rw [hw6] at hHeld ⊢
                    replace R8 := R8.keep_nil fz
                    replace R13 := R13.keep_nil fz
                    replace r13 := r13.keep_nil fz
                    replace R12 := R12.keep_nil fz
                    replace rd5 := rd5.keep_nil fz
                    replace F5 := F5.trans_nil fz
                    replace g2l := Nat.lt_of_lt_of_le g2l fz.size
                    clear hw6 fz c2
                    refine take_w 0 (some 77) (v := ?_) rfl rfl (by kernel_rfl) (by kernel_rfl) (by kernel_rfl) (fun _ _ _ h => h) (by rfl) ?_ hHeld ?_
                    rotate_left
                    · (intro w hSw; (try dsimp only at hSw); go_simp; try with_reducible rfl)
                    simp only [Act.put, List.setIfInBounds_toArray, List.set_cons_zero, List.set_cons_succ]
                    refine take_w 1 (some 78) (v := ?_) rfl rfl (by kernel_rfl) (by kernel_rfl) (by kernel_rfl) (fun _ _ _ h => h) (by rfl) ?_ hHeld ?_
                    rotate_left
                    · (intro w hSw; (try dsimp only at hSw); go_simp; try with_reducible rfl)
                    simp only [Act.put, List.setIfInBounds_toArray, List.set_cons_zero, List.set_cons_succ]
                    refine take_w 2 (some 79) (v := ?_) rfl rfl (by kernel_rfl) (by kernel_rfl) (by kernel_rfl) (fun _ _ _ h => h) (by rfl) ?_ hHeld ?_
                    rotate_left
                    · (intro w hSw; (try dsimp only at hSw); go_simp; try with_reducible rfl)
                    simp only [Act.put, List.setIfInBounds_toArray, List.set_cons_zero, List.set_cons_succ]
                    refine take_w 3 (some 80) (v := ?_) rfl rfl (by kernel_rfl) (by kernel_rfl) (by kernel_rfl) (fun _ _ _ h => h) (by rfl) ?_ hHeld ?_
                    rotate_left
                    · (intro w hSw; (try dsimp only at hSw); go_simp; try with_reducible rfl)
                    simp only [Act.put, List.setIfInBounds_toArray, List.set_cons_zero, List.set_cons_succ]
                    refine take_w 4 (some 81) (v := ?_) rfl rfl (by kernel_rfl) (by kernel_rfl) (by kernel_rfl) (fun _ _ _ h => h) (by rfl) ?_ hHeld ?_
                    rotate_left
                    · (intro w hSw; (try dsimp only at hSw); go_simp; try with_reducible rfl)
                    simp only [Act.put, List.setIfInBounds_toArray, List.set_cons_zero, List.set_cons_succ]
                    refine take_w 6 (some 83) (v := ?_) rfl rfl (by kernel_rfl) (by kernel_rfl) (by kernel_rfl) (fun _ _ _ h => h) (by rfl) ?_ hHeld ?_
                    rotate_left
                    · (intro w hSw; (try dsimp only at hSw); go_simp; try with_reducible rfl)
                    simp only [Act.put, List.setIfInBounds_toArray, List.set_cons_zero, List.set_cons_succ]
                    refine take_c 5 rfl (by kernel_rfl) (by rfl) (fun K hK => ?_)
                    go_simp
                    have fe : Fr [] w6 (w6.alloc (.cells #[] 5)) := (Fr.refl _ _).alloc _
                    refine hK.out _ _ (fe.cell (by simp) hHeld) (fun hHx => ?_)
                    clear hHeld
                    have hHeld := hHx
                    clear hHx
                    clear hK K
                    try simp only [Act.put, List.setIfInBounds_toArray, List.set_cons_zero, List.set_cons_succ]
                    have RE := Row.new w6 #[] 5 1 0 (0, 0) (free_zero _) (by unfold maxLen; omega) rfl F5.size
                    have sE : (w6.alloc (.cells #[] 5)).heap.size = w6.heap.size + 1 := by simp
                    obtain ⟨wE, hwE⟩ : ∃ wE, w6.alloc (.cells #[] 5) = wE := ⟨_, rfl⟩
                    obtain ⟨gE, hgE⟩ : ∃ gE, w6.heap.size = gE := ⟨_, rfl⟩
                    have lt12 : ∀ g, (Value.slice A12 (512 * (k + 1 + 1)) c12).ownBlock = some g → g < gE := fun g hg => by rw [← hgE]; exact (R12.lt g hg).2
                    have ltps : ∀ p ∈ ps, ∀ g, p.2.ownBlock = some g → g < gE := fun p hp g hg => by rw [← hgE]; exact (R13.lt p hp g hg).2
                    have lt13 : ∀ g, (Value.slice A13 k c13).ownBlock = some g → g < gE := fun g hg => by rw [← hgE]; exact (r13.lt g hg).2
                    have lt8 : ∀ g, (Value.slice (some ⟨g2, o2, none⟩) N cap8).ownBlock = some g → g < gE := fun g hg => by rw [← hgE]; exact (R8.lt g hg).2
                    rw [hwE] at fe hHeld RE sE ⊢
                    rw [hgE] at RE sE g2l ⊢
                    have gEw : w.heap.size ≤ gE := by rw [← hgE]; exact F5.size
                    replace R8 := R8.keep_nil fe
                    replace R13 := R13.keep_nil fe
                    replace R12 := R12.keep_nil fe
                    replace rd5 := rd5.keep_nil fe
                    replace F5 := F5.trans_nil fe
                    clear hwE hgE fe r13
                    refine take_c 7 rfl (by kernel_rfl) (by rfl) (fun K hK => ?_)
                    refine wp_app rfl slB w.heap.size (.slice (some ⟨gE, 0, none⟩) 0 0) 0 [] rfl RE A5 512 c5 (bvs (trB t k b)) rfl (by rw [bvs_length, HB5.out]) rd5 (bvs_one _) nil5 (by omega) F5.size (fun va wa q1 q2 q3 q4 => hK.out _ _ (q2.cell (by rw [own_mem]; show g2 ≠ gE; omega) hHeld) (fun hHx => ?_))
                    clear hHeld
                    have hHeld := hHx
                    clear hHx
                    clear hK K
                    try simp only [Act.put, List.setIfInBounds_toArray, List.set_cons_zero, List.set_cons_succ]
                    have oE : ∀ g, g < gE → g ∉ (Value.slice (some ⟨gE, 0, none⟩) 0 0).ownBlock.toList := fun g hg hm => by have := own_mem.1 hm; omega
                    replace R8 := R8.keep q2 (fun g hg => oE g (lt8 g hg))
                    replace R13 := R13.keepF q2 (fun g hg => oE g (lt13 g hg)) (fun p hp g hg => oE g (ltps p hp g hg))
                    replace R12 := R12.keep q2 (fun g hg => oE g (lt12 g hg))
                    replace F5 := F5.trans q2 (fun i hi => .inr (by rw [own_mem.1 hi]; exact gEw))
                    rw [Nat.zero_add, List.nil_append] at q1
                    have offa : ∀ g, va.ownBlock = some g → gE ≤ g := fun g hg => by
                      rcases q3 g hg with h | h
                      · rw [own_mem.1 (mem_own.2 h)]; exact Nat.le_refl _
                      · omega
                    obtain ⟨Aa, ca, rfl, -, -, -, -, -⟩ := q1.shape
                    clear q2 q3 q4 RE rd5 oE
                    have r13 := R13.row
                    rw [HLK.out] at r13
                    refine take_w 8 (some 85) (v := ?_) rfl rfl (by kernel_rfl) (by kernel_rfl) (by kernel_rfl) (fun _ _ _ h => h) (by rfl) ?_ hHeld ?_
                    rotate_left
                    · (intro w hSw; (try dsimp only at hSw); go_simp; try with_reducible rfl)
                    simp only [Act.put, List.setIfInBounds_toArray, List.set_cons_zero, List.set_cons_succ]
                    refine take_c 9 rfl (by kernel_rfl) (by rfl) (fun K hK => ?_)
                    go_simp
                    have fb : Fr [] wa (wa.alloc (.cells #[.int .i64 x, .slice Aa 512 ca] 85)) := (Fr.refl _ _).alloc _
                    have RD := Rd.of_blk (Blk.new wa 85 #[.int .i64 x, .slice Aa 512 ca]) 0 [.int .i64 x, .slice Aa 512 ca] (fun j u hu => by rw [Nat.zero_add]; simpa using hu)
                    refine hK.out _ _ (fb.cell (by simp) hHeld) (fun hHx => ?_)
                    clear hHeld
                    have hHeld := hHx
                    clear hHx
                    clear hK K
                    try simp only [Act.put, List.setIfInBounds_toArray, List.set_cons_zero, List.set_cons_succ]
                    obtain ⟨wb, hwb⟩ : ∃ wb, wa.alloc (.cells #[.int .i64 x, .slice Aa 512 ca] 85) = wb := ⟨_, rfl⟩
                    rw [hwb] at fb RD hHeld ⊢
                    replace R8 := R8.keep_nil fb
                    replace R13 := R13.keep_nil fb
                    replace r13 := r13.keep_nil fb
                    replace R12 := R12.keep_nil fb
                    replace q1 := q1.keep_nil fb
                    replace F5 := F5.trans_nil fb
                    clear hwb fb
                    refine take_c 10 rfl (by kernel_rfl) (by rfl) (fun K hK => ?_)
                    refine wp_app rfl slR w.heap.size (.slice A13 k c13) k (rcells ps) rfl r13 _ 1 1 [.int .i64 x, .slice Aa 512 ca] rfl rfl RD (by intro u hu; simp at hu; rcases hu with rfl | rfl <;> rfl) (fun h => by cases h) (by omega) F5.size (fun v7 w7 p1 p2 p3 p4 => hK.out _ _ (p2.cell (fun hm => R8.ne_rowR r13 (by decide) g2 rfl (mem_own.1 hm)) hHeld) (fun hHx => ?_))
                    clear hHeld
                    have hHeld := hHx
                    clear hHx
                    clear hK K
                    try simp only [Act.put, List.setIfInBounds_toArray, List.set_cons_zero, List.set_cons_succ]
                    have R14 := R13.snoc (x := x) (by rw [HB5.out]; exact q1 : Row wb w.heap.size 5 1 (.slice Aa 512 ca) (trB t k b).length (bvs (trB t k b))) p2 (by rw [HLK.out]; exact p1)
                    rw [← HSUC.out] at R14
                    replace R8 := R8.keep p2 (fun g hg hm => R8.ne_rowR r13 (by decide) g hg (mem_own.1 hm))
                    replace R12 := R12.keep p2 (fun g hg hm => R12.ne_rowR r13 (by decide) g hg (mem_own.1 hm))
                    replace F5 := F5.trans p2 (fun i hi => .inr (r13.lt i (mem_own.1 hi)).1)
                    have OFF3 : Off (ps ++ [(x, Value.slice Aa 512 ca)]) (Value.slice A12 (512 * (k + 1 + 1)) c12) := fun p hp g hg h2 => by
                      rcases List.mem_append.1 hp with hp | hp
                      · exact OFF p hp g hg h2
                      · rw [List.mem_singleton.1 hp] at hg
                        have := offa g hg
                        have := lt12 g h2
                        omega
                    clear p1 p2 p3 p4 r13 R13 OFF q1 RD
                    refine take_w 11 (some 11) (v := ?_) rfl rfl (by kernel_rfl) (by kernel_rfl) (by kernel_rfl) (fun _ _ _ h => h) (by rfl) ?_ hHeld ?_
                    rotate_left
                    · (intro w hSw; (try dsimp only at hSw); go_simp; try with_reducible rfl)
                    simp only [Act.put, List.setIfInBounds_toArray, List.set_cons_zero, List.set_cons_succ]
                    refine wpAnyH_done (by kernel_rfl) ?_ _
                    go_wp2_with fail
                    exact ⟨⟨k + 1, by omega, by go_num, R8, ⟨_, R14, OFF3⟩, R12, HA5.out, HQY.out, F5⟩, by simp [intOf]; omega⟩
                  · rw [hlk] at cc
                    have HQN := Lib.hid (show ¬ trQ t bs k by rw [HQK.out, hlk, HBIT.out]; decide)
                    refine cc.mono ?_
                    clear cc hlk
                    rintro e w6 ⟨rfl, rfl⟩
                    have HV := Lib.hid (show trV m bs = none from (trV_no HP.out fun h => HQN.out (h.2.2.2.2 k (by rw [HLN.out]; exact hlt))))
                    go_wp2_with fail
                    go_ret3
                    exact TrC.no HV.out F5
              · have d5 : ((nb : Int) != 512) = true := by simp only [bne_iff_ne]; omega
                have HIN := Lib.hid (show ¬ ∀ b ∈ bs.take (N + 1), b.length = 512 from fun h => h5 (by rw [← hnb]; exact h b hin))
                clear hv hbg hb hc hxd hall hall5 hkb hkv hkl hft h5t hin hx hnb
                have HV := Lib.hid (show trV m bs = none from (trV_no HP.out fun h => HIN.out (by have h3 := h.2.2.1; rw [HLN.out] at h3; exact h3)))
                go_wp2_with fail
                go_ret3
                exact TrC.no HV.out F
            · obtain rfl : k = N := by omega
              have HLK := Lib.hid (show ((List.range k).map (trE t L bs)).length = k by simp)
              have HALL := Lib.hid hall
              have HA5 := Lib.hid hall5
              have hfl := flat512 ((all5_iff _).1 hall5)
              have hnt : (bs.take (k + 1)).length = k + 1 := by rw [List.length_take, HN.out]; omega
              rw [hnt] at hfl
              obtain ⟨fl, hfll⟩ : ∃ fl, (bs.take (k + 1)).flatten = fl := ⟨_, rfl⟩
              rw [hfll] at hfl R12
              obtain ⟨q, hq⟩ : ∃ q, doneB m fl = q := ⟨_, rfl⟩
              have hql : q.length = 512 := by rw [← hq, doneB_len]
              obtain ⟨A12, c12, rfl, -, -, -, -, -⟩ := R12.shape
              have HFL := Lib.hid hfl
              have HFLL := Lib.hid (fun _ : Unit => hfll)
              have HQ := Lib.hid (fun _ : Unit => hq)
              have HQL := Lib.hid hql
              clear hall hall5 hfl hnt hfll hql
              have UK : IntKind.i64.wrap ((k : Int) + 1) = (k : Int) + 1 := IntWalk.i64_in _ (by omega)
              have KZ : (0 : Int) ≤ (k : Int) + 1 := by omega
              have KN : (k : Int) + 1 < n := by omega
              have KT : ((k : Int) + 1).toNat = k + 1 := by omega
              go_upto_region 21 with fail
              have fz := (Fr.refl [] wr).drew
              obtain ⟨w3, hw3⟩ : ∃ w3, wr.drew = w3 := ⟨_, rfl⟩
              rw [hw3] at fz
              have hS : Fr [] w3 w3 := Fr.refl _ _
              refine wp_region_held_drew (S := fun w' => Fr [] w3 w') (by kernel_rfl) (by rw [hw3]; exact hS) (fun hHeld => ?_)
              rw [hw3] at hHeld ⊢
              have F3 := F.trans_nil fz
              replace R13 := R13.keep_nil fz
              replace R12 := R12.keep_nil fz
              clear hw3 fz hS F R8
              have CL := Lib.hid (fun (w' : World) (hS : Fr [] w3 w') => ((F3.trans_nil hS).cell (by simp) cell9 : w'.cell? ⟨g, o + (k + 1), none⟩ = some (.slice Al nl cl)))
              have SL := Lib.hid (fun (w' : World) (hS : Fr [] w3 w') => strB w' Al bl nl cl HNL.out (rdl.keep_nil (F3.trans_nil hS)) nill)
              clear cell9
              refine take_w 0 (some 88) (v := ?_) rfl rfl (by kernel_rfl) (by kernel_rfl) (by kernel_rfl) (fun _ _ _ h => h) (by rfl) ?_ hHeld ?_
              rotate_left
              · (intro w hSw; (try dsimp only at hSw); go_simp; try with_reducible rfl)
              simp only [Act.put, List.setIfInBounds_toArray, List.set_cons_zero, List.set_cons_succ]
              refine take_w 1 (some 89) (v := ?_) rfl rfl (by kernel_rfl) (by kernel_rfl) (by kernel_rfl) (fun _ _ _ h => h) (by rfl) ?_ hHeld ?_
              rotate_left
              · (intro w hSw; (try dsimp only at hSw); go_simp; try with_reducible rfl)
              simp only [Act.put, List.setIfInBounds_toArray, List.set_cons_zero, List.set_cons_succ]
              refine take_w 2 (some 90) (v := ?_) rfl rfl (by kernel_rfl) (by kernel_rfl) (by kernel_rfl) (fun _ _ _ h => h) (by rfl) ?_ hHeld ?_
              rotate_left
              · (intro w hSw; (try dsimp only at hSw); go_simp; try with_reducible rfl)
              simp only [Act.put, List.setIfInBounds_toArray, List.set_cons_zero, List.set_cons_succ]
              refine take_w 3 (some 91) (v := ?_) rfl rfl (by kernel_rfl) (by kernel_rfl) (by kernel_rfl) (fun _ _ _ h => h) (by rfl) ?_ hHeld ?_
              rotate_left
              · (intro w hSw; (try dsimp only at hSw); go_simp; try with_reducible rfl)
              simp only [Act.put, List.setIfInBounds_toArray, List.set_cons_zero, List.set_cons_succ]
              refine take_w 4 (some 92) (v := ?_) rfl rfl (by kernel_rfl) (by kernel_rfl) (by kernel_rfl) (fun _ _ _ h => h) (by rfl) ?_ hHeld ?_
              rotate_left
              · (intro w hSw; (try dsimp only at hSw); go_simp; try with_reducible rfl)
              simp only [Act.put, List.setIfInBounds_toArray, List.set_cons_zero, List.set_cons_succ]
              refine take_w 5 (some 93) (v := .slice Al nl cl) rfl rfl (by kernel_rfl) (by kernel_rfl) (by kernel_rfl) (fun _ _ _ h => h) (by rfl) (fun w' hSw => by have E := CL.out w' hSw; go_simp) hHeld ?_
              try simp only [Act.put, List.setIfInBounds_toArray, List.set_cons_zero, List.set_cons_succ]
              refine take_w 6 (some 94) (v := .string ⟨bl.toArray⟩) rfl rfl (by kernel_rfl) (by kernel_rfl) (by kernel_rfl) (fun _ _ _ h => h) (by rfl) (fun w' hSw => by have E := SL.out w' hSw; go_simp) hHeld ?_
              try simp only [Act.put, List.setIfInBounds_toArray, List.set_cons_zero, List.set_cons_succ]
              refine take_w 7 (some 95) (v := ?_) rfl rfl (by kernel_rfl) (by kernel_rfl) (by kernel_rfl) (fun _ _ _ h => h) (by rfl) ?_ hHeld ?_
              rotate_left
              · (intro w hSw; (try dsimp only at hSw); go_simp; try with_reducible rfl)
              simp only [Act.put, List.setIfInBounds_toArray, List.set_cons_zero, List.set_cons_succ]
              refine take_w 8 (some 96) (v := ?_) rfl rfl (by kernel_rfl) (by kernel_rfl) (by kernel_rfl) (fun _ _ _ h => h) (by rfl) ?_ hHeld ?_
              rotate_left
              · (intro w hSw; (try dsimp only at hSw); go_simp; try with_reducible rfl)
              simp only [Act.put, List.setIfInBounds_toArray, List.set_cons_zero, List.set_cons_succ]
              have cc := xrcDone_any (w := w3) (m := m) (A := A12) (c := c12) hm HFL.out R12.rd.1 R12.rd.2.2 (by omega)
              rw [hq] at cc
              clear hq
              refine take_c 9 rfl (by kernel_rfl) (by rfl) (fun K hK => ?_)
              go_simp
              refine cc.mono ?_
              clear cc
              rintro e w4 ⟨r, rfl, r4, f4⟩
              obtain ⟨A4, cap4, rfl, -, -, -, -, -⟩ := r4.shape
              refine hK.out _ _ (hHeld.trans_nil f4) (fun hHx => ?_)
              clear hHeld
              have hHeld := hHx
              clear hHx
              clear hK K
              try simp only [Act.put, List.setIfInBounds_toArray, List.set_cons_zero, List.set_cons_succ]
              have F4 := F3.trans_nil f4
              replace R13 := R13.keep_nil f4
              have E4 := r4.str
              clear f4 r4 F3 R12
              refine take_c 10 rfl (by kernel_rfl) (by rfl) (fun K hK => ?_)
              go_simp
              refine hK.out _ _ hHeld (fun hHx => ?_)
              clear hHx
              clear hK K
              try simp only [Act.put, List.setIfInBounds_toArray, List.set_cons_zero, List.set_cons_succ]
              clear E4
              by_cases hbq : bl = q
              · subst hbq
                refine take_w 11 (some 99) (v := ?_) rfl rfl (by kernel_rfl) (by kernel_rfl) (by kernel_rfl) (fun _ _ _ h => h) (by rfl) ?_ hHeld ?_
                rotate_left
                · (intro w hSw; (try dsimp only at hSw); go_simp; try with_reducible rfl)
                simp only [Act.put, List.setIfInBounds_toArray, List.set_cons_zero, List.set_cons_succ]
                have HV := Lib.hid (show trV m bs = some ((List.range k).map (trE t L bs)) by
                  rw [trV_some HP.out, HLN.out]
                  unfold trOk
                  rw [HLN.out, HBL.out]
                  exact ⟨rfl, by rw [HN.out]; omega, (all5_iff _).1 HA5.out, by rw [HFLL.out ()]; exact (HQ.out ()).symm, HALL.out⟩)
                refine wpAnyH_done (by kernel_rfl) ?_ _
                go_wp2_with fail
                go_ret3
                exact TrC.yes (k := 0) HV.out (by rw [HLK.out]; omega) R13 F4
              · have hbe : (bl == q) = false := by rw [beq_eq_false_iff_ne]; exact hbq
                have HBQ := Lib.hid hbq
                clear hbq
                refine take_w 11 (some 99) (v := ?_) rfl rfl (by kernel_rfl) (by kernel_rfl) (by kernel_rfl) (fun _ _ _ h => h) (by rfl) ?_ hHeld ?_
                rotate_left
                · (intro w hSw; (try dsimp only at hSw); go_simp; try with_reducible rfl)
                simp only [Act.put, List.setIfInBounds_toArray, List.set_cons_zero, List.set_cons_succ]
                refine wpAnyH_done (by kernel_rfl) ?_ _
                have HV := Lib.hid (show trV m bs = none from (trV_no HP.out fun h => HBQ.out (by have h3 := h.2.2.2.1; rw [HLN.out, HBL.out, HFLL.out (), HQ.out ()] at h3; exact h3)))
                go_wp2_with fail
                go_ret3
                exact TrC.no HV.out F4
      · have K1 : ((m' : Int) != m) = true := by simp only [bne_iff_ne]; omega
        have HMM := Lib.hid hmm
        clear hmm
        have HV := Lib.hid (show trV m bs = none from (trV_no HP.out fun h => HMM.out h.1))
        go_wp2_with fail
        go_ret3
        exact TrC.no HV.out f
end Go.Proofs.YtlelgeigighecaaDoor
