/-
  Layer 11's laws: same, one; Choose and its reference.
-/
import Derived.Test.YtlelgeigighecaaDoorHeadK
import Derived.Test.YtlelgeigighecaaDoorHeadH
import Derived.Test.YtlelgeigighecaaDoorHeadI
set_option linter.unusedSimpArgs false
set_option linter.unusedVariables false
set_option linter.unnecessarySimpa false
namespace Go.Proofs.YtlelgeigighecaaDoor
open Go.RowKit

def oneH : HeadM := ⟨1, 100, 2, 16, 4, 1, 8, 1, List.replicate 16 0⟩
theorem oneH_ok : oneH.ok := ⟨by decide, ⟨by decide, by decide⟩, ⟨by decide, by decide⟩, ⟨by decide, by decide⟩, ⟨by decide, by decide⟩, ⟨by decide, by decide⟩, ⟨by decide, by decide⟩, ⟨by decide, by decide⟩, rfl⟩
theorem oneH_good : oneH.good = true := by decide
theorem zeroH_bad : zeroH.good = false := by decide
set_option maxRecDepth 100000 in
theorem parOne (w : World) : (Instr.build 24 #[(0, .int .i64 1), (1, .int .i64 8), (2, .int .i64 1)]).run Tryd.prog w = .ok (.agg #[.int .i64 1, .int .i64 8, .int .i64 1]) w := by kernel_rfl
set_option maxRecDepth 100000 in
theorem headOne (w : World) : (Instr.build 27 #[(0, .int .u64 1), (1, .int .i64 100), (2, .int .i64 2), (3, .int .i64 16), (4, .int .i64 4), (5, .agg #[.int .i64 1, .int .i64 8, .int .i64 1])]).run Tryd.prog w = .ok (.agg oneH.cells.toArray) w := by kernel_rfl
set_option maxRecDepth 100000 in
theorem one11_any (w : World) : Calls Tryd.prog 47 #[] w fun e w' => e = .returned (.agg oneH.cells.toArray) ∧ Fr [] w w' := by
  go_enter Tryd.func47, Tryd.ntmps47
  go_wp2_with
    (first
      | (refine wpList_alS stHead rfl rfl ?_; intro wb hb fb zb)
      | (refine wpList_bldK (o := ⟨some 1, _, _, _, _, _⟩) rfl rfl #[(0, .int .i64 1), (1, .int .i64 8), (2, .int .i64 1)] (by kernel_rfl) (.agg #[.int .i64 1, .int .i64 8, .int .i64 1]) (parOne _) ?_)
      | (refine wpList_bldK (o := ⟨some 2, _, _, _, _, _⟩) rfl rfl #[(0, .int .u64 1), (1, .int .i64 100), (2, .int .i64 2), (3, .int .i64 16), (4, .int .i64 4), (5, .agg #[.int .i64 1, .int .i64 8, .int .i64 1])] (by kernel_rfl) (.agg oneH.cells.toArray) (headOne _) ?_)
      | (refine wpList_stB stHead rfl rfl w.heap.size rfl oneH.cells rfl (HeadM.len oneH_ok) oneH.ones zeroH.cells (HeadM.len zeroH_ok) hb ?_; intro wc hc fc zc))
  try simp only [Exit.inBlock, Exit.then]
  refine bodyPost_ret (results_cell stHead rfl rfl (HeadM.len oneH_ok) hc) rfl ?_
  exact ⟨rfl, fb.trans fc (fun i hi => .inr (by simp at hi; omega))⟩

theorem results_cell3 {P : Program} {w : World} {t : TypeId} {n : Nat} {z : List Value} (hT : StT P t n z) {fn : Func} {p q r : Tmp} (hr : fn.results = #[.cell p t, .tmp q, .tmp r]) {tmps : Array Value} {g : Nat} {cs : List Value} (hv : tmps.getD p undef = .pointer (some ⟨g, 0, none⟩)) (hn : cs.length = n) (hb : Blk w g t cs.toArray) :
    (results fn tmps).run P w = .ok (.tuple #[.agg cs.toArray, tmps.getD q undef, tmps.getD r undef]) w := by
  have hl := run_loadB hT hn hb
  have ha : (asAddr (.pointer (some ⟨g, 0, none⟩))).run P w = .ok ⟨g, 0, none⟩ w := rfl
  have hv' : tmps[p]?.getD undef = .pointer (some ⟨g, 0, none⟩) := by simpa using hv
  simp [results, hr, hv', ha, hl]

/-- Which of two counts. -/
def chM (a b : List UInt8) : HeadM × Int × Int :=
  if (decH b).isSome && (!(decH a).isSome || decide ((decHV a).gen < (decHV b).gen)) then (decHV b, 1, 0) else (decHV a, 0, errG (decH a).isSome 110)
theorem chM_ok (a b : List UInt8) : (chM a b).1.ok := by
  unfold chM
  split
  · exact decHV_ok b
  · exact decHV_ok a
def ChH (w : World) (a b : List UInt8) (e : Ending) (w' : World) : Prop :=
  e = .returned (.tuple #[.agg (chM a b).1.cells.toArray, .int .i64 (chM a b).2.1, .int .i64 (chM a b).2.2]) ∧ Fr [] w w'

set_option maxRecDepth 100000 in
set_option maxHeartbeats 4000000 in
theorem hChoose_any (w : World) (A B : Option Addr) (l q : List UInt8) (n m c d : Nat) (hn : l.length = n) (hr : Rd w A (bvs l)) (hA : A = none → n = 0) (hc : n ≤ c) (hm : q.length = m) (hs : Rd w B (bvs q)) (hB : B = none → m = 0) (hd : m ≤ d) (hK : KG w) :
    Calls Tryd.prog 23 #[.slice A n c, .slice B m d] w (ChH w l q) := by
  have okA := decHV_ok l
  have okB := decHV_ok q
  cases db : (decH q).isSome
  · have DB := Lib.hid db
    have hx : chM l q = (decHV l, 0, errG (decH l).isSome 110) := by simp [chM, db]
    cases da : (decH l).isSome
    · have DA := Lib.hid da
      have HC := Lib.hid (show chM l q = (decHV l, 0, 110) by rw [hx, da]; rfl)
      clear da db hx
      go_enter Tryd.func23, Tryd.ntmps23
      go_wp2_with
        (first
          | (refine wpList_alS stHead (o := ⟨some 4, _, _, _, _, _⟩) rfl rfl ?_; intro w0 h0 f0 z0; have Z0 := Lib.hid z0; clear z0; obtain ⟨g0, hg0⟩ : ∃ g, w.heap.size = g := ⟨_, rfl⟩; rw [hg0] at h0; rw [hg0]; have HG0 := Lib.hid hg0; clear hg0))
      refine (hDecode_any w0 A l n c hn (hr.keep_nil f0) hA hc (hK.keep f0)).mono ?_
      rintro e w1 ⟨rfl, f1⟩
      rw [DA.out]
      have F1 := f0.trans_nil f1
      have i0 := h0.keep_nil f1
      clear f0 f1 h0
      go_upto_region 2 with
        (first
          | (refine wpList_alS stHead (o := ⟨some 7, _, _, _, _, _⟩) rfl rfl ?_; intro w2 h2 f2 z2; have Z2 := Lib.hid z2; clear z2; obtain ⟨g7, hg7⟩ : ∃ g, w1.heap.size = g := ⟨_, rfl⟩; rw [hg7] at h2; rw [hg7]; have HG7 := Lib.hid hg7; clear hg7)
          | (refine wpList_stB stHead rfl rfl g7 rfl (decHV l).cells rfl (HeadM.len okA) (decHV l).ones zeroH.cells (HeadM.len zeroH_ok) h2 ?_; intro w3 h3 f3 z3; have Z3 := Lib.hid z3; clear z3))
      have g07 : g0 < g7 := by have := HG7.out; have := i0.lt; omega
      have F3 : Fr [] w w3 := (F1.trans_nil f2).trans f3 (fun i hi => .inr (by have := HG0.out; simp at hi; omega))
      have i3 := (i0.keep_nil f2).keep f3 (by simp; omega)
      clear F1 f2 f3 h2 i0
      go_wp2_with fail
      refine (hDecode_any w3 B q m d hm (hs.keep_nil F3) hB hd (hK.keep F3)).mono ?_
      rintro e w4 ⟨rfl, f4⟩
      rw [DB.out]
      have F4 := F3.trans_nil f4
      have i4 := i3.keep_nil f4
      have h4 := h3.keep_nil f4
      clear F3 f4 h3 i3
      go_upto_region 3 with
        (first
          | (refine wpList_alS stHead (o := ⟨some 9, _, _, _, _, _⟩) rfl rfl ?_; intro w5 h5 f5 z5; have Z5 := Lib.hid z5; clear z5; obtain ⟨g9, hg9⟩ : ∃ g, w4.heap.size = g := ⟨_, rfl⟩; rw [hg9] at h5; rw [hg9]; have HG9 := Lib.hid hg9; clear hg9)
          | (refine wpList_stB stHead rfl rfl g9 rfl (decHV q).cells rfl (HeadM.len okB) (decHV q).ones zeroH.cells (HeadM.len zeroH_ok) h5 ?_; intro w6 h6 f6 z6; have Z6 := Lib.hid z6; clear z6))
      have g79 : g7 < g9 := by have := HG9.out; have := h4.lt; omega
      have F6 : Fr [] w w6 := (F4.trans_nil f5).trans f6 (fun i hi => .inr (by have := HG0.out; simp at hi; omega))
      have i6 := (i4.keep_nil f5).keep f6 (by simp; omega)
      have h7 := (h4.keep_nil f5).keep f6 (by simp; omega)
      clear F4 f5 f6 h5 i4 h4
      have c7 := (head_cells h7).1
      have c9 := (head_cells h6).1
      rw [show errG false 110 = 110 from rfl]
      go_wp2_with
        (first
          | (refine wpList_ldS stHead rfl rfl g7 0 rfl (decHV l).cells (HeadM.len okA) h7.range0 ?_)
          | (refine wpList_stB stHead rfl rfl g0 rfl (decHV l).cells rfl (HeadM.len okA) (decHV l).ones zeroH.cells (HeadM.len zeroH_ok) i6 ?_; intro wc hc fc zc))
      try simp only [Exit.inBlock, Exit.then]
      refine bodyPost_ret (results_cell3 stHead rfl rfl (HeadM.len okA) hc) rfl ?_
      exact ⟨by rw [HC.out]; rfl, F6.trans fc (fun i hi => .inr (by have := HG0.out; simp at hi; omega))⟩
    · have DA := Lib.hid da
      have HC := Lib.hid (show chM l q = (decHV l, 0, 0) by rw [hx, da]; rfl)
      clear da db hx
      go_enter Tryd.func23, Tryd.ntmps23
      go_wp2_with
        (first
          | (refine wpList_alS stHead (o := ⟨some 4, _, _, _, _, _⟩) rfl rfl ?_; intro w0 h0 f0 z0; have Z0 := Lib.hid z0; clear z0; obtain ⟨g0, hg0⟩ : ∃ g, w.heap.size = g := ⟨_, rfl⟩; rw [hg0] at h0; rw [hg0]; have HG0 := Lib.hid hg0; clear hg0))
      refine (hDecode_any w0 A l n c hn (hr.keep_nil f0) hA hc (hK.keep f0)).mono ?_
      rintro e w1 ⟨rfl, f1⟩
      rw [DA.out]
      have F1 := f0.trans_nil f1
      have i0 := h0.keep_nil f1
      clear f0 f1 h0
      go_upto_region 2 with
        (first
          | (refine wpList_alS stHead (o := ⟨some 7, _, _, _, _, _⟩) rfl rfl ?_; intro w2 h2 f2 z2; have Z2 := Lib.hid z2; clear z2; obtain ⟨g7, hg7⟩ : ∃ g, w1.heap.size = g := ⟨_, rfl⟩; rw [hg7] at h2; rw [hg7]; have HG7 := Lib.hid hg7; clear hg7)
          | (refine wpList_stB stHead rfl rfl g7 rfl (decHV l).cells rfl (HeadM.len okA) (decHV l).ones zeroH.cells (HeadM.len zeroH_ok) h2 ?_; intro w3 h3 f3 z3; have Z3 := Lib.hid z3; clear z3))
      have g07 : g0 < g7 := by have := HG7.out; have := i0.lt; omega
      have F3 : Fr [] w w3 := (F1.trans_nil f2).trans f3 (fun i hi => .inr (by have := HG0.out; simp at hi; omega))
      have i3 := (i0.keep_nil f2).keep f3 (by simp; omega)
      clear F1 f2 f3 h2 i0
      go_wp2_with fail
      refine (hDecode_any w3 B q m d hm (hs.keep_nil F3) hB hd (hK.keep F3)).mono ?_
      rintro e w4 ⟨rfl, f4⟩
      rw [DB.out]
      have F4 := F3.trans_nil f4
      have i4 := i3.keep_nil f4
      have h4 := h3.keep_nil f4
      clear F3 f4 h3 i3
      go_upto_region 3 with
        (first
          | (refine wpList_alS stHead (o := ⟨some 9, _, _, _, _, _⟩) rfl rfl ?_; intro w5 h5 f5 z5; have Z5 := Lib.hid z5; clear z5; obtain ⟨g9, hg9⟩ : ∃ g, w4.heap.size = g := ⟨_, rfl⟩; rw [hg9] at h5; rw [hg9]; have HG9 := Lib.hid hg9; clear hg9)
          | (refine wpList_stB stHead rfl rfl g9 rfl (decHV q).cells rfl (HeadM.len okB) (decHV q).ones zeroH.cells (HeadM.len zeroH_ok) h5 ?_; intro w6 h6 f6 z6; have Z6 := Lib.hid z6; clear z6))
      have g79 : g7 < g9 := by have := HG9.out; have := h4.lt; omega
      have F6 : Fr [] w w6 := (F4.trans_nil f5).trans f6 (fun i hi => .inr (by have := HG0.out; simp at hi; omega))
      have i6 := (i4.keep_nil f5).keep f6 (by simp; omega)
      have h7 := (h4.keep_nil f5).keep f6 (by simp; omega)
      clear F4 f5 f6 h5 i4 h4
      have c7 := (head_cells h7).1
      have c9 := (head_cells h6).1
      rw [show errG true 110 = 0 from rfl, show errG false 110 = 110 from rfl]
      go_wp2_with
        (first
          | (refine wpList_ldS stHead rfl rfl g7 0 rfl (decHV l).cells (HeadM.len okA) h7.range0 ?_)
          | (refine wpList_stB stHead rfl rfl g0 rfl (decHV l).cells rfl (HeadM.len okA) (decHV l).ones zeroH.cells (HeadM.len zeroH_ok) i6 ?_; intro wc hc fc zc))
      try simp only [Exit.inBlock, Exit.then]
      refine bodyPost_ret (results_cell3 stHead rfl rfl (HeadM.len okA) hc) rfl ?_
      exact ⟨by rw [HC.out]; rfl, F6.trans fc (fun i hi => .inr (by have := HG0.out; simp at hi; omega))⟩
  · have DB := Lib.hid db
    cases da : (decH l).isSome
    · have DA := Lib.hid da
      have HC := Lib.hid (show chM l q = (decHV q, 1, 0) by simp [chM, da, db])
      clear da db
      go_enter Tryd.func23, Tryd.ntmps23
      go_wp2_with
        (first
          | (refine wpList_alS stHead (o := ⟨some 4, _, _, _, _, _⟩) rfl rfl ?_; intro w0 h0 f0 z0; have Z0 := Lib.hid z0; clear z0; obtain ⟨g0, hg0⟩ : ∃ g, w.heap.size = g := ⟨_, rfl⟩; rw [hg0] at h0; rw [hg0]; have HG0 := Lib.hid hg0; clear hg0))
      refine (hDecode_any w0 A l n c hn (hr.keep_nil f0) hA hc (hK.keep f0)).mono ?_
      rintro e w1 ⟨rfl, f1⟩
      rw [DA.out]
      have F1 := f0.trans_nil f1
      have i0 := h0.keep_nil f1
      clear f0 f1 h0
      go_upto_region 2 with
        (first
          | (refine wpList_alS stHead (o := ⟨some 7, _, _, _, _, _⟩) rfl rfl ?_; intro w2 h2 f2 z2; have Z2 := Lib.hid z2; clear z2; obtain ⟨g7, hg7⟩ : ∃ g, w1.heap.size = g := ⟨_, rfl⟩; rw [hg7] at h2; rw [hg7]; have HG7 := Lib.hid hg7; clear hg7)
          | (refine wpList_stB stHead rfl rfl g7 rfl (decHV l).cells rfl (HeadM.len okA) (decHV l).ones zeroH.cells (HeadM.len zeroH_ok) h2 ?_; intro w3 h3 f3 z3; have Z3 := Lib.hid z3; clear z3))
      have g07 : g0 < g7 := by have := HG7.out; have := i0.lt; omega
      have F3 : Fr [] w w3 := (F1.trans_nil f2).trans f3 (fun i hi => .inr (by have := HG0.out; simp at hi; omega))
      have i3 := (i0.keep_nil f2).keep f3 (by simp; omega)
      clear F1 f2 f3 h2 i0
      go_wp2_with fail
      refine (hDecode_any w3 B q m d hm (hs.keep_nil F3) hB hd (hK.keep F3)).mono ?_
      rintro e w4 ⟨rfl, f4⟩
      rw [DB.out]
      have F4 := F3.trans_nil f4
      have i4 := i3.keep_nil f4
      have h4 := h3.keep_nil f4
      clear F3 f4 h3 i3
      go_upto_region 3 with
        (first
          | (refine wpList_alS stHead (o := ⟨some 9, _, _, _, _, _⟩) rfl rfl ?_; intro w5 h5 f5 z5; have Z5 := Lib.hid z5; clear z5; obtain ⟨g9, hg9⟩ : ∃ g, w4.heap.size = g := ⟨_, rfl⟩; rw [hg9] at h5; rw [hg9]; have HG9 := Lib.hid hg9; clear hg9)
          | (refine wpList_stB stHead rfl rfl g9 rfl (decHV q).cells rfl (HeadM.len okB) (decHV q).ones zeroH.cells (HeadM.len zeroH_ok) h5 ?_; intro w6 h6 f6 z6; have Z6 := Lib.hid z6; clear z6))
      have g79 : g7 < g9 := by have := HG9.out; have := h4.lt; omega
      have F6 : Fr [] w w6 := (F4.trans_nil f5).trans f6 (fun i hi => .inr (by have := HG0.out; simp at hi; omega))
      have i6 := (i4.keep_nil f5).keep f6 (by simp; omega)
      have h7 := (h4.keep_nil f5).keep f6 (by simp; omega)
      clear F4 f5 f6 h5 i4 h4
      have c7 := (head_cells h7).1
      have c9 := (head_cells h6).1
      rw [show errG true 110 = 0 from rfl, show errG false 110 = 110 from rfl]
      go_wp2_with
        (first
          | (refine wpList_ldS stHead rfl rfl g9 0 rfl (decHV q).cells (HeadM.len okB) h6.range0 ?_)
          | (refine wpList_stB stHead rfl rfl g0 rfl (decHV q).cells rfl (HeadM.len okB) (decHV q).ones zeroH.cells (HeadM.len zeroH_ok) i6 ?_; intro wc hc fc zc))
      try simp only [Exit.inBlock, Exit.then]
      refine bodyPost_ret (results_cell3 stHead rfl rfl (HeadM.len okB) hc) rfl ?_
      exact ⟨by rw [HC.out]; rfl, F6.trans fc (fun i hi => .inr (by have := HG0.out; simp at hi; omega))⟩
    · have DA := Lib.hid da
      by_cases hgt : (decHV l).gen < (decHV q).gen
      · have HC := Lib.hid (show chM l q = (decHV q, 1, 0) by simp [chM, da, db, hgt])
        clear da db
        have K1 : ((decHV l).gen : Int) < ((decHV q).gen : Int) := by omega
        go_enter Tryd.func23, Tryd.ntmps23
        go_wp2_with
          (first
            | (refine wpList_alS stHead (o := ⟨some 4, _, _, _, _, _⟩) rfl rfl ?_; intro w0 h0 f0 z0; have Z0 := Lib.hid z0; clear z0; obtain ⟨g0, hg0⟩ : ∃ g, w.heap.size = g := ⟨_, rfl⟩; rw [hg0] at h0; rw [hg0]; have HG0 := Lib.hid hg0; clear hg0))
        refine (hDecode_any w0 A l n c hn (hr.keep_nil f0) hA hc (hK.keep f0)).mono ?_
        rintro e w1 ⟨rfl, f1⟩
        rw [DA.out]
        have F1 := f0.trans_nil f1
        have i0 := h0.keep_nil f1
        clear f0 f1 h0
        go_upto_region 2 with
          (first
            | (refine wpList_alS stHead (o := ⟨some 7, _, _, _, _, _⟩) rfl rfl ?_; intro w2 h2 f2 z2; have Z2 := Lib.hid z2; clear z2; obtain ⟨g7, hg7⟩ : ∃ g, w1.heap.size = g := ⟨_, rfl⟩; rw [hg7] at h2; rw [hg7]; have HG7 := Lib.hid hg7; clear hg7)
            | (refine wpList_stB stHead rfl rfl g7 rfl (decHV l).cells rfl (HeadM.len okA) (decHV l).ones zeroH.cells (HeadM.len zeroH_ok) h2 ?_; intro w3 h3 f3 z3; have Z3 := Lib.hid z3; clear z3))
        have g07 : g0 < g7 := by have := HG7.out; have := i0.lt; omega
        have F3 : Fr [] w w3 := (F1.trans_nil f2).trans f3 (fun i hi => .inr (by have := HG0.out; simp at hi; omega))
        have i3 := (i0.keep_nil f2).keep f3 (by simp; omega)
        clear F1 f2 f3 h2 i0
        go_wp2_with fail
        refine (hDecode_any w3 B q m d hm (hs.keep_nil F3) hB hd (hK.keep F3)).mono ?_
        rintro e w4 ⟨rfl, f4⟩
        rw [DB.out]
        have F4 := F3.trans_nil f4
        have i4 := i3.keep_nil f4
        have h4 := h3.keep_nil f4
        clear F3 f4 h3 i3
        go_upto_region 3 with
          (first
            | (refine wpList_alS stHead (o := ⟨some 9, _, _, _, _, _⟩) rfl rfl ?_; intro w5 h5 f5 z5; have Z5 := Lib.hid z5; clear z5; obtain ⟨g9, hg9⟩ : ∃ g, w4.heap.size = g := ⟨_, rfl⟩; rw [hg9] at h5; rw [hg9]; have HG9 := Lib.hid hg9; clear hg9)
            | (refine wpList_stB stHead rfl rfl g9 rfl (decHV q).cells rfl (HeadM.len okB) (decHV q).ones zeroH.cells (HeadM.len zeroH_ok) h5 ?_; intro w6 h6 f6 z6; have Z6 := Lib.hid z6; clear z6))
        have g79 : g7 < g9 := by have := HG9.out; have := h4.lt; omega
        have F6 : Fr [] w w6 := (F4.trans_nil f5).trans f6 (fun i hi => .inr (by have := HG0.out; simp at hi; omega))
        have i6 := (i4.keep_nil f5).keep f6 (by simp; omega)
        have h7 := (h4.keep_nil f5).keep f6 (by simp; omega)
        clear F4 f5 f6 h5 i4 h4
        have c7 := (head_cells h7).1
        have c9 := (head_cells h6).1
        rw [show errG true 110 = 0 from rfl]
        go_wp2_with
          (first
            | (refine wpList_ldS stHead rfl rfl g9 0 rfl (decHV q).cells (HeadM.len okB) h6.range0 ?_)
            | (refine wpList_stB stHead rfl rfl g0 rfl (decHV q).cells rfl (HeadM.len okB) (decHV q).ones zeroH.cells (HeadM.len zeroH_ok) i6 ?_; intro wc hc fc zc))
        try simp only [Exit.inBlock, Exit.then]
        refine bodyPost_ret (results_cell3 stHead rfl rfl (HeadM.len okB) hc) rfl ?_
        exact ⟨by rw [HC.out]; rfl, F6.trans fc (fun i hi => .inr (by have := HG0.out; simp at hi; omega))⟩
      · have HC := Lib.hid (show chM l q = (decHV l, 0, 0) by simp [chM, da, db, hgt, errG])
        clear da db
        have K1 : ¬ (((decHV l).gen : Int) < ((decHV q).gen : Int)) := by omega
        go_enter Tryd.func23, Tryd.ntmps23
        go_wp2_with
          (first
            | (refine wpList_alS stHead (o := ⟨some 4, _, _, _, _, _⟩) rfl rfl ?_; intro w0 h0 f0 z0; have Z0 := Lib.hid z0; clear z0; obtain ⟨g0, hg0⟩ : ∃ g, w.heap.size = g := ⟨_, rfl⟩; rw [hg0] at h0; rw [hg0]; have HG0 := Lib.hid hg0; clear hg0))
        refine (hDecode_any w0 A l n c hn (hr.keep_nil f0) hA hc (hK.keep f0)).mono ?_
        rintro e w1 ⟨rfl, f1⟩
        rw [DA.out]
        have F1 := f0.trans_nil f1
        have i0 := h0.keep_nil f1
        clear f0 f1 h0
        go_upto_region 2 with
          (first
            | (refine wpList_alS stHead (o := ⟨some 7, _, _, _, _, _⟩) rfl rfl ?_; intro w2 h2 f2 z2; have Z2 := Lib.hid z2; clear z2; obtain ⟨g7, hg7⟩ : ∃ g, w1.heap.size = g := ⟨_, rfl⟩; rw [hg7] at h2; rw [hg7]; have HG7 := Lib.hid hg7; clear hg7)
            | (refine wpList_stB stHead rfl rfl g7 rfl (decHV l).cells rfl (HeadM.len okA) (decHV l).ones zeroH.cells (HeadM.len zeroH_ok) h2 ?_; intro w3 h3 f3 z3; have Z3 := Lib.hid z3; clear z3))
        have g07 : g0 < g7 := by have := HG7.out; have := i0.lt; omega
        have F3 : Fr [] w w3 := (F1.trans_nil f2).trans f3 (fun i hi => .inr (by have := HG0.out; simp at hi; omega))
        have i3 := (i0.keep_nil f2).keep f3 (by simp; omega)
        clear F1 f2 f3 h2 i0
        go_wp2_with fail
        refine (hDecode_any w3 B q m d hm (hs.keep_nil F3) hB hd (hK.keep F3)).mono ?_
        rintro e w4 ⟨rfl, f4⟩
        rw [DB.out]
        have F4 := F3.trans_nil f4
        have i4 := i3.keep_nil f4
        have h4 := h3.keep_nil f4
        clear F3 f4 h3 i3
        go_upto_region 3 with
          (first
            | (refine wpList_alS stHead (o := ⟨some 9, _, _, _, _, _⟩) rfl rfl ?_; intro w5 h5 f5 z5; have Z5 := Lib.hid z5; clear z5; obtain ⟨g9, hg9⟩ : ∃ g, w4.heap.size = g := ⟨_, rfl⟩; rw [hg9] at h5; rw [hg9]; have HG9 := Lib.hid hg9; clear hg9)
            | (refine wpList_stB stHead rfl rfl g9 rfl (decHV q).cells rfl (HeadM.len okB) (decHV q).ones zeroH.cells (HeadM.len zeroH_ok) h5 ?_; intro w6 h6 f6 z6; have Z6 := Lib.hid z6; clear z6))
        have g79 : g7 < g9 := by have := HG9.out; have := h4.lt; omega
        have F6 : Fr [] w w6 := (F4.trans_nil f5).trans f6 (fun i hi => .inr (by have := HG0.out; simp at hi; omega))
        have i6 := (i4.keep_nil f5).keep f6 (by simp; omega)
        have h7 := (h4.keep_nil f5).keep f6 (by simp; omega)
        clear F4 f5 f6 h5 i4 h4
        have c7 := (head_cells h7).1
        have c9 := (head_cells h6).1
        rw [show errG true 110 = 0 from rfl]
        go_wp2_with
          (first
            | (refine wpList_ldS stHead rfl rfl g7 0 rfl (decHV l).cells (HeadM.len okA) h7.range0 ?_)
            | (refine wpList_stB stHead rfl rfl g0 rfl (decHV l).cells rfl (HeadM.len okA) (decHV l).ones zeroH.cells (HeadM.len zeroH_ok) i6 ?_; intro wc hc fc zc))
        try simp only [Exit.inBlock, Exit.then]
        refine bodyPost_ret (results_cell3 stHead rfl rfl (HeadM.len okA) hc) rfl ?_
        exact ⟨by rw [HC.out]; rfl, F6.trans fc (fun i hi => .inr (by have := HG0.out; simp at hi; omega))⟩
set_option maxRecDepth 100000 in
set_option maxHeartbeats 4000000 in
theorem xhChoose_any (w : World) (A B : Option Addr) (l q : List UInt8) (n m c d : Nat) (hn : l.length = n) (hr : Rd w A (bvs l)) (hA : A = none → n = 0) (hc : n ≤ c) (hm : q.length = m) (hs : Rd w B (bvs q)) (hB : B = none → m = 0) (hd : m ≤ d)  :
    Calls Tryd.prog 24 #[.slice A n c, .slice B m d] w (ChH w l q) := by
  have okA := decHV_ok l
  have okB := decHV_ok q
  cases db : (decH q).isSome
  · have DB := Lib.hid db
    have hx : chM l q = (decHV l, 0, errG (decH l).isSome 110) := by simp [chM, db]
    cases da : (decH l).isSome
    · have DA := Lib.hid da
      have HC := Lib.hid (show chM l q = (decHV l, 0, 110) by rw [hx, da]; rfl)
      clear da db hx
      go_enter Tryd.func24, Tryd.ntmps24
      go_wp2_with
        (first
          | (refine wpList_alS stHead (o := ⟨some 4, _, _, _, _, _⟩) rfl rfl ?_; intro w0 h0 f0 z0; have Z0 := Lib.hid z0; clear z0; obtain ⟨g0, hg0⟩ : ∃ g, w.heap.size = g := ⟨_, rfl⟩; rw [hg0] at h0; rw [hg0]; have HG0 := Lib.hid hg0; clear hg0))
      refine (xhDecode_any w0 A l n c hn (hr.keep_nil f0) hA hc).mono ?_
      rintro e w1 ⟨rfl, f1⟩
      rw [DA.out]
      have F1 := f0.trans_nil f1
      have i0 := h0.keep_nil f1
      clear f0 f1 h0
      go_upto_region 2 with
        (first
          | (refine wpList_alS stHead (o := ⟨some 7, _, _, _, _, _⟩) rfl rfl ?_; intro w2 h2 f2 z2; have Z2 := Lib.hid z2; clear z2; obtain ⟨g7, hg7⟩ : ∃ g, w1.heap.size = g := ⟨_, rfl⟩; rw [hg7] at h2; rw [hg7]; have HG7 := Lib.hid hg7; clear hg7)
          | (refine wpList_stB stHead rfl rfl g7 rfl (decHV l).cells rfl (HeadM.len okA) (decHV l).ones zeroH.cells (HeadM.len zeroH_ok) h2 ?_; intro w3 h3 f3 z3; have Z3 := Lib.hid z3; clear z3))
      have g07 : g0 < g7 := by have := HG7.out; have := i0.lt; omega
      have F3 : Fr [] w w3 := (F1.trans_nil f2).trans f3 (fun i hi => .inr (by have := HG0.out; simp at hi; omega))
      have i3 := (i0.keep_nil f2).keep f3 (by simp; omega)
      clear F1 f2 f3 h2 i0
      go_wp2_with fail
      refine (xhDecode_any w3 B q m d hm (hs.keep_nil F3) hB hd).mono ?_
      rintro e w4 ⟨rfl, f4⟩
      rw [DB.out]
      have F4 := F3.trans_nil f4
      have i4 := i3.keep_nil f4
      have h4 := h3.keep_nil f4
      clear F3 f4 h3 i3
      go_upto_region 3 with
        (first
          | (refine wpList_alS stHead (o := ⟨some 9, _, _, _, _, _⟩) rfl rfl ?_; intro w5 h5 f5 z5; have Z5 := Lib.hid z5; clear z5; obtain ⟨g9, hg9⟩ : ∃ g, w4.heap.size = g := ⟨_, rfl⟩; rw [hg9] at h5; rw [hg9]; have HG9 := Lib.hid hg9; clear hg9)
          | (refine wpList_stB stHead rfl rfl g9 rfl (decHV q).cells rfl (HeadM.len okB) (decHV q).ones zeroH.cells (HeadM.len zeroH_ok) h5 ?_; intro w6 h6 f6 z6; have Z6 := Lib.hid z6; clear z6))
      have g79 : g7 < g9 := by have := HG9.out; have := h4.lt; omega
      have F6 : Fr [] w w6 := (F4.trans_nil f5).trans f6 (fun i hi => .inr (by have := HG0.out; simp at hi; omega))
      have i6 := (i4.keep_nil f5).keep f6 (by simp; omega)
      have h7 := (h4.keep_nil f5).keep f6 (by simp; omega)
      clear F4 f5 f6 h5 i4 h4
      have c7 := (head_cells h7).1
      have c9 := (head_cells h6).1
      rw [show errG false 110 = 110 from rfl]
      go_wp2_with
        (first
          | (refine wpList_ldS stHead rfl rfl g7 0 rfl (decHV l).cells (HeadM.len okA) h7.range0 ?_)
          | (refine wpList_stB stHead rfl rfl g0 rfl (decHV l).cells rfl (HeadM.len okA) (decHV l).ones zeroH.cells (HeadM.len zeroH_ok) i6 ?_; intro wc hc fc zc))
      try simp only [Exit.inBlock, Exit.then]
      refine bodyPost_ret (results_cell3 stHead rfl rfl (HeadM.len okA) hc) rfl ?_
      exact ⟨by rw [HC.out]; rfl, F6.trans fc (fun i hi => .inr (by have := HG0.out; simp at hi; omega))⟩
    · have DA := Lib.hid da
      have HC := Lib.hid (show chM l q = (decHV l, 0, 0) by rw [hx, da]; rfl)
      clear da db hx
      go_enter Tryd.func24, Tryd.ntmps24
      go_wp2_with
        (first
          | (refine wpList_alS stHead (o := ⟨some 4, _, _, _, _, _⟩) rfl rfl ?_; intro w0 h0 f0 z0; have Z0 := Lib.hid z0; clear z0; obtain ⟨g0, hg0⟩ : ∃ g, w.heap.size = g := ⟨_, rfl⟩; rw [hg0] at h0; rw [hg0]; have HG0 := Lib.hid hg0; clear hg0))
      refine (xhDecode_any w0 A l n c hn (hr.keep_nil f0) hA hc).mono ?_
      rintro e w1 ⟨rfl, f1⟩
      rw [DA.out]
      have F1 := f0.trans_nil f1
      have i0 := h0.keep_nil f1
      clear f0 f1 h0
      go_upto_region 2 with
        (first
          | (refine wpList_alS stHead (o := ⟨some 7, _, _, _, _, _⟩) rfl rfl ?_; intro w2 h2 f2 z2; have Z2 := Lib.hid z2; clear z2; obtain ⟨g7, hg7⟩ : ∃ g, w1.heap.size = g := ⟨_, rfl⟩; rw [hg7] at h2; rw [hg7]; have HG7 := Lib.hid hg7; clear hg7)
          | (refine wpList_stB stHead rfl rfl g7 rfl (decHV l).cells rfl (HeadM.len okA) (decHV l).ones zeroH.cells (HeadM.len zeroH_ok) h2 ?_; intro w3 h3 f3 z3; have Z3 := Lib.hid z3; clear z3))
      have g07 : g0 < g7 := by have := HG7.out; have := i0.lt; omega
      have F3 : Fr [] w w3 := (F1.trans_nil f2).trans f3 (fun i hi => .inr (by have := HG0.out; simp at hi; omega))
      have i3 := (i0.keep_nil f2).keep f3 (by simp; omega)
      clear F1 f2 f3 h2 i0
      go_wp2_with fail
      refine (xhDecode_any w3 B q m d hm (hs.keep_nil F3) hB hd).mono ?_
      rintro e w4 ⟨rfl, f4⟩
      rw [DB.out]
      have F4 := F3.trans_nil f4
      have i4 := i3.keep_nil f4
      have h4 := h3.keep_nil f4
      clear F3 f4 h3 i3
      go_upto_region 3 with
        (first
          | (refine wpList_alS stHead (o := ⟨some 9, _, _, _, _, _⟩) rfl rfl ?_; intro w5 h5 f5 z5; have Z5 := Lib.hid z5; clear z5; obtain ⟨g9, hg9⟩ : ∃ g, w4.heap.size = g := ⟨_, rfl⟩; rw [hg9] at h5; rw [hg9]; have HG9 := Lib.hid hg9; clear hg9)
          | (refine wpList_stB stHead rfl rfl g9 rfl (decHV q).cells rfl (HeadM.len okB) (decHV q).ones zeroH.cells (HeadM.len zeroH_ok) h5 ?_; intro w6 h6 f6 z6; have Z6 := Lib.hid z6; clear z6))
      have g79 : g7 < g9 := by have := HG9.out; have := h4.lt; omega
      have F6 : Fr [] w w6 := (F4.trans_nil f5).trans f6 (fun i hi => .inr (by have := HG0.out; simp at hi; omega))
      have i6 := (i4.keep_nil f5).keep f6 (by simp; omega)
      have h7 := (h4.keep_nil f5).keep f6 (by simp; omega)
      clear F4 f5 f6 h5 i4 h4
      have c7 := (head_cells h7).1
      have c9 := (head_cells h6).1
      rw [show errG true 110 = 0 from rfl, show errG false 110 = 110 from rfl]
      go_wp2_with
        (first
          | (refine wpList_ldS stHead rfl rfl g7 0 rfl (decHV l).cells (HeadM.len okA) h7.range0 ?_)
          | (refine wpList_stB stHead rfl rfl g0 rfl (decHV l).cells rfl (HeadM.len okA) (decHV l).ones zeroH.cells (HeadM.len zeroH_ok) i6 ?_; intro wc hc fc zc))
      try simp only [Exit.inBlock, Exit.then]
      refine bodyPost_ret (results_cell3 stHead rfl rfl (HeadM.len okA) hc) rfl ?_
      exact ⟨by rw [HC.out]; rfl, F6.trans fc (fun i hi => .inr (by have := HG0.out; simp at hi; omega))⟩
  · have DB := Lib.hid db
    cases da : (decH l).isSome
    · have DA := Lib.hid da
      have HC := Lib.hid (show chM l q = (decHV q, 1, 0) by simp [chM, da, db])
      clear da db
      go_enter Tryd.func24, Tryd.ntmps24
      go_wp2_with
        (first
          | (refine wpList_alS stHead (o := ⟨some 4, _, _, _, _, _⟩) rfl rfl ?_; intro w0 h0 f0 z0; have Z0 := Lib.hid z0; clear z0; obtain ⟨g0, hg0⟩ : ∃ g, w.heap.size = g := ⟨_, rfl⟩; rw [hg0] at h0; rw [hg0]; have HG0 := Lib.hid hg0; clear hg0))
      refine (xhDecode_any w0 A l n c hn (hr.keep_nil f0) hA hc).mono ?_
      rintro e w1 ⟨rfl, f1⟩
      rw [DA.out]
      have F1 := f0.trans_nil f1
      have i0 := h0.keep_nil f1
      clear f0 f1 h0
      go_upto_region 2 with
        (first
          | (refine wpList_alS stHead (o := ⟨some 7, _, _, _, _, _⟩) rfl rfl ?_; intro w2 h2 f2 z2; have Z2 := Lib.hid z2; clear z2; obtain ⟨g7, hg7⟩ : ∃ g, w1.heap.size = g := ⟨_, rfl⟩; rw [hg7] at h2; rw [hg7]; have HG7 := Lib.hid hg7; clear hg7)
          | (refine wpList_stB stHead rfl rfl g7 rfl (decHV l).cells rfl (HeadM.len okA) (decHV l).ones zeroH.cells (HeadM.len zeroH_ok) h2 ?_; intro w3 h3 f3 z3; have Z3 := Lib.hid z3; clear z3))
      have g07 : g0 < g7 := by have := HG7.out; have := i0.lt; omega
      have F3 : Fr [] w w3 := (F1.trans_nil f2).trans f3 (fun i hi => .inr (by have := HG0.out; simp at hi; omega))
      have i3 := (i0.keep_nil f2).keep f3 (by simp; omega)
      clear F1 f2 f3 h2 i0
      go_wp2_with fail
      refine (xhDecode_any w3 B q m d hm (hs.keep_nil F3) hB hd).mono ?_
      rintro e w4 ⟨rfl, f4⟩
      rw [DB.out]
      have F4 := F3.trans_nil f4
      have i4 := i3.keep_nil f4
      have h4 := h3.keep_nil f4
      clear F3 f4 h3 i3
      go_upto_region 3 with
        (first
          | (refine wpList_alS stHead (o := ⟨some 9, _, _, _, _, _⟩) rfl rfl ?_; intro w5 h5 f5 z5; have Z5 := Lib.hid z5; clear z5; obtain ⟨g9, hg9⟩ : ∃ g, w4.heap.size = g := ⟨_, rfl⟩; rw [hg9] at h5; rw [hg9]; have HG9 := Lib.hid hg9; clear hg9)
          | (refine wpList_stB stHead rfl rfl g9 rfl (decHV q).cells rfl (HeadM.len okB) (decHV q).ones zeroH.cells (HeadM.len zeroH_ok) h5 ?_; intro w6 h6 f6 z6; have Z6 := Lib.hid z6; clear z6))
      have g79 : g7 < g9 := by have := HG9.out; have := h4.lt; omega
      have F6 : Fr [] w w6 := (F4.trans_nil f5).trans f6 (fun i hi => .inr (by have := HG0.out; simp at hi; omega))
      have i6 := (i4.keep_nil f5).keep f6 (by simp; omega)
      have h7 := (h4.keep_nil f5).keep f6 (by simp; omega)
      clear F4 f5 f6 h5 i4 h4
      have c7 := (head_cells h7).1
      have c9 := (head_cells h6).1
      rw [show errG true 110 = 0 from rfl, show errG false 110 = 110 from rfl]
      go_wp2_with
        (first
          | (refine wpList_ldS stHead rfl rfl g9 0 rfl (decHV q).cells (HeadM.len okB) h6.range0 ?_)
          | (refine wpList_stB stHead rfl rfl g0 rfl (decHV q).cells rfl (HeadM.len okB) (decHV q).ones zeroH.cells (HeadM.len zeroH_ok) i6 ?_; intro wc hc fc zc))
      try simp only [Exit.inBlock, Exit.then]
      refine bodyPost_ret (results_cell3 stHead rfl rfl (HeadM.len okB) hc) rfl ?_
      exact ⟨by rw [HC.out]; rfl, F6.trans fc (fun i hi => .inr (by have := HG0.out; simp at hi; omega))⟩
    · have DA := Lib.hid da
      by_cases hgt : (decHV l).gen < (decHV q).gen
      · have HC := Lib.hid (show chM l q = (decHV q, 1, 0) by simp [chM, da, db, hgt])
        clear da db
        have K1 : ((decHV l).gen : Int) < ((decHV q).gen : Int) := by omega
        go_enter Tryd.func24, Tryd.ntmps24
        go_wp2_with
          (first
            | (refine wpList_alS stHead (o := ⟨some 4, _, _, _, _, _⟩) rfl rfl ?_; intro w0 h0 f0 z0; have Z0 := Lib.hid z0; clear z0; obtain ⟨g0, hg0⟩ : ∃ g, w.heap.size = g := ⟨_, rfl⟩; rw [hg0] at h0; rw [hg0]; have HG0 := Lib.hid hg0; clear hg0))
        refine (xhDecode_any w0 A l n c hn (hr.keep_nil f0) hA hc).mono ?_
        rintro e w1 ⟨rfl, f1⟩
        rw [DA.out]
        have F1 := f0.trans_nil f1
        have i0 := h0.keep_nil f1
        clear f0 f1 h0
        go_upto_region 2 with
          (first
            | (refine wpList_alS stHead (o := ⟨some 7, _, _, _, _, _⟩) rfl rfl ?_; intro w2 h2 f2 z2; have Z2 := Lib.hid z2; clear z2; obtain ⟨g7, hg7⟩ : ∃ g, w1.heap.size = g := ⟨_, rfl⟩; rw [hg7] at h2; rw [hg7]; have HG7 := Lib.hid hg7; clear hg7)
            | (refine wpList_stB stHead rfl rfl g7 rfl (decHV l).cells rfl (HeadM.len okA) (decHV l).ones zeroH.cells (HeadM.len zeroH_ok) h2 ?_; intro w3 h3 f3 z3; have Z3 := Lib.hid z3; clear z3))
        have g07 : g0 < g7 := by have := HG7.out; have := i0.lt; omega
        have F3 : Fr [] w w3 := (F1.trans_nil f2).trans f3 (fun i hi => .inr (by have := HG0.out; simp at hi; omega))
        have i3 := (i0.keep_nil f2).keep f3 (by simp; omega)
        clear F1 f2 f3 h2 i0
        go_wp2_with fail
        refine (xhDecode_any w3 B q m d hm (hs.keep_nil F3) hB hd).mono ?_
        rintro e w4 ⟨rfl, f4⟩
        rw [DB.out]
        have F4 := F3.trans_nil f4
        have i4 := i3.keep_nil f4
        have h4 := h3.keep_nil f4
        clear F3 f4 h3 i3
        go_upto_region 3 with
          (first
            | (refine wpList_alS stHead (o := ⟨some 9, _, _, _, _, _⟩) rfl rfl ?_; intro w5 h5 f5 z5; have Z5 := Lib.hid z5; clear z5; obtain ⟨g9, hg9⟩ : ∃ g, w4.heap.size = g := ⟨_, rfl⟩; rw [hg9] at h5; rw [hg9]; have HG9 := Lib.hid hg9; clear hg9)
            | (refine wpList_stB stHead rfl rfl g9 rfl (decHV q).cells rfl (HeadM.len okB) (decHV q).ones zeroH.cells (HeadM.len zeroH_ok) h5 ?_; intro w6 h6 f6 z6; have Z6 := Lib.hid z6; clear z6))
        have g79 : g7 < g9 := by have := HG9.out; have := h4.lt; omega
        have F6 : Fr [] w w6 := (F4.trans_nil f5).trans f6 (fun i hi => .inr (by have := HG0.out; simp at hi; omega))
        have i6 := (i4.keep_nil f5).keep f6 (by simp; omega)
        have h7 := (h4.keep_nil f5).keep f6 (by simp; omega)
        clear F4 f5 f6 h5 i4 h4
        have c7 := (head_cells h7).1
        have c9 := (head_cells h6).1
        rw [show errG true 110 = 0 from rfl]
        go_wp2_with
          (first
            | (refine wpList_ldS stHead rfl rfl g9 0 rfl (decHV q).cells (HeadM.len okB) h6.range0 ?_)
            | (refine wpList_stB stHead rfl rfl g0 rfl (decHV q).cells rfl (HeadM.len okB) (decHV q).ones zeroH.cells (HeadM.len zeroH_ok) i6 ?_; intro wc hc fc zc))
        try simp only [Exit.inBlock, Exit.then]
        refine bodyPost_ret (results_cell3 stHead rfl rfl (HeadM.len okB) hc) rfl ?_
        exact ⟨by rw [HC.out]; rfl, F6.trans fc (fun i hi => .inr (by have := HG0.out; simp at hi; omega))⟩
      · have HC := Lib.hid (show chM l q = (decHV l, 0, 0) by simp [chM, da, db, hgt, errG])
        clear da db
        have K1 : ¬ (((decHV l).gen : Int) < ((decHV q).gen : Int)) := by omega
        go_enter Tryd.func24, Tryd.ntmps24
        go_wp2_with
          (first
            | (refine wpList_alS stHead (o := ⟨some 4, _, _, _, _, _⟩) rfl rfl ?_; intro w0 h0 f0 z0; have Z0 := Lib.hid z0; clear z0; obtain ⟨g0, hg0⟩ : ∃ g, w.heap.size = g := ⟨_, rfl⟩; rw [hg0] at h0; rw [hg0]; have HG0 := Lib.hid hg0; clear hg0))
        refine (xhDecode_any w0 A l n c hn (hr.keep_nil f0) hA hc).mono ?_
        rintro e w1 ⟨rfl, f1⟩
        rw [DA.out]
        have F1 := f0.trans_nil f1
        have i0 := h0.keep_nil f1
        clear f0 f1 h0
        go_upto_region 2 with
          (first
            | (refine wpList_alS stHead (o := ⟨some 7, _, _, _, _, _⟩) rfl rfl ?_; intro w2 h2 f2 z2; have Z2 := Lib.hid z2; clear z2; obtain ⟨g7, hg7⟩ : ∃ g, w1.heap.size = g := ⟨_, rfl⟩; rw [hg7] at h2; rw [hg7]; have HG7 := Lib.hid hg7; clear hg7)
            | (refine wpList_stB stHead rfl rfl g7 rfl (decHV l).cells rfl (HeadM.len okA) (decHV l).ones zeroH.cells (HeadM.len zeroH_ok) h2 ?_; intro w3 h3 f3 z3; have Z3 := Lib.hid z3; clear z3))
        have g07 : g0 < g7 := by have := HG7.out; have := i0.lt; omega
        have F3 : Fr [] w w3 := (F1.trans_nil f2).trans f3 (fun i hi => .inr (by have := HG0.out; simp at hi; omega))
        have i3 := (i0.keep_nil f2).keep f3 (by simp; omega)
        clear F1 f2 f3 h2 i0
        go_wp2_with fail
        refine (xhDecode_any w3 B q m d hm (hs.keep_nil F3) hB hd).mono ?_
        rintro e w4 ⟨rfl, f4⟩
        rw [DB.out]
        have F4 := F3.trans_nil f4
        have i4 := i3.keep_nil f4
        have h4 := h3.keep_nil f4
        clear F3 f4 h3 i3
        go_upto_region 3 with
          (first
            | (refine wpList_alS stHead (o := ⟨some 9, _, _, _, _, _⟩) rfl rfl ?_; intro w5 h5 f5 z5; have Z5 := Lib.hid z5; clear z5; obtain ⟨g9, hg9⟩ : ∃ g, w4.heap.size = g := ⟨_, rfl⟩; rw [hg9] at h5; rw [hg9]; have HG9 := Lib.hid hg9; clear hg9)
            | (refine wpList_stB stHead rfl rfl g9 rfl (decHV q).cells rfl (HeadM.len okB) (decHV q).ones zeroH.cells (HeadM.len zeroH_ok) h5 ?_; intro w6 h6 f6 z6; have Z6 := Lib.hid z6; clear z6))
        have g79 : g7 < g9 := by have := HG9.out; have := h4.lt; omega
        have F6 : Fr [] w w6 := (F4.trans_nil f5).trans f6 (fun i hi => .inr (by have := HG0.out; simp at hi; omega))
        have i6 := (i4.keep_nil f5).keep f6 (by simp; omega)
        have h7 := (h4.keep_nil f5).keep f6 (by simp; omega)
        clear F4 f5 f6 h5 i4 h4
        have c7 := (head_cells h7).1
        have c9 := (head_cells h6).1
        rw [show errG true 110 = 0 from rfl]
        go_wp2_with
          (first
            | (refine wpList_ldS stHead rfl rfl g7 0 rfl (decHV l).cells (HeadM.len okA) h7.range0 ?_)
            | (refine wpList_stB stHead rfl rfl g0 rfl (decHV l).cells rfl (HeadM.len okA) (decHV l).ones zeroH.cells (HeadM.len zeroH_ok) i6 ?_; intro wc hc fc zc))
        try simp only [Exit.inBlock, Exit.then]
        refine bodyPost_ret (results_cell3 stHead rfl rfl (HeadM.len okA) hc) rfl ?_
        exact ⟨by rw [HC.out]; rfl, F6.trans fc (fun i hi => .inr (by have := HG0.out; simp at hi; omega))⟩
end Go.Proofs.YtlelgeigighecaaDoor
