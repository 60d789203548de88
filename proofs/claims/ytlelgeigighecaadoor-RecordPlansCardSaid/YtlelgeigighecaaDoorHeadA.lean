/-
  A header (layer 11) as a value: its cells, its equality, what may be, its bytes.
-/
import Derived.Test.YtlelgeigighecaaDoorShaA
import Derived.Test.YtlelgeigighecaaDoorCodH
import Derived.Test.YtlelgeigighecaaDoorMem3
import Derived.Test.YtlelgeigighecaaDoorBld
import Derived.Deep.DeepCutAuto
import Derived.Deep.CutBlock
set_option linter.unusedSimpArgs false
set_option linter.unusedVariables false
set_option linter.unnecessarySimpa false
namespace Go.Proofs.YtlelgeigighecaaDoor
open Go.RowKit

structure HeadM where
  gen : Nat
  sec : Int
  slo : Int
  jou : Int
  seg : Int
  tim : Int
  mem : Int
  lan : Int
  nam : List UInt8
  deriving DecidableEq
def HeadM.cells (h : HeadM) : List Value := .int .u64 (h.gen : Int) :: .int .i64 h.sec :: .int .i64 h.slo :: .int .i64 h.jou :: .int .i64 h.seg :: .int .i64 h.tim :: .int .i64 h.mem :: .int .i64 h.lan :: bvs h.nam
def in64 (z : Int) : Prop := -9223372036854775808 ≤ z ∧ z ≤ 9223372036854775807
structure HeadM.ok (h : HeadM) : Prop where
  gen : h.gen < 18446744073709551616
  sec : in64 h.sec
  slo : in64 h.slo
  jou : in64 h.jou
  seg : in64 h.seg
  tim : in64 h.tim
  mem : in64 h.mem
  lan : in64 h.lan
  nam : h.nam.length = 16
def zeroH : HeadM := ⟨0, 0, 0, 0, 0, 0, 0, 0, List.replicate 16 0⟩
theorem zeroH_ok : zeroH.ok := ⟨by decide, ⟨by decide, by decide⟩, ⟨by decide, by decide⟩, ⟨by decide, by decide⟩, ⟨by decide, by decide⟩, ⟨by decide, by decide⟩, ⟨by decide, by decide⟩, ⟨by decide, by decide⟩, rfl⟩
theorem HeadM.len {h : HeadM} (k : h.ok) : h.cells.length = 24 := by simp [HeadM.cells, bvs, k.nam]
theorem HeadM.ones (h : HeadM) : ∀ u ∈ h.cells, u.oneCell' = true := by
  intro u hu
  simp only [HeadM.cells, List.mem_cons] at hu
  rcases hu with rfl | rfl | rfl | rfl | rfl | rfl | rfl | rfl | hu
  all_goals first | rfl | exact bvs_one _ u hu

set_option maxRecDepth 100000 in
theorem stHead : StT Tryd.prog 27 24 zeroH.cells := ⟨⟨_, Tryd.underlying27, rfl⟩, by kernel_rfl, by decide, by kernel_rfl, zeroH.ones⟩
set_option maxRecDepth 100000 in
theorem headZero (w : World) : (Instr.build 27 #[]).run Tryd.prog w = .ok (.agg zeroH.cells.toArray) w := by kernel_rfl

def HeadM.eqB (a b : HeadM) : Bool := ((a.gen : Int) == (b.gen : Int)) && (a.sec == b.sec && (a.slo == b.slo && (a.jou == b.jou && (a.seg == b.seg && ((a.tim == b.tim && (a.mem == b.mem && (a.lan == b.lan && true))) && (a.nam == b.nam && true))))))
theorem HeadM.eqB_iff (a b : HeadM) : a.eqB b = true ↔ a = b := by
  obtain ⟨a1, a2, a3, a4, a5, a6, a7, a8, a9⟩ := a
  obtain ⟨b1, b2, b3, b4, b5, b6, b7, b8, b9⟩ := b
  simp [HeadM.eqB, and_assoc]
  intros; omega
theorem part_row {P : Program} {w : World} {t : TypeId} {n : Nat} {d : TypeDesc} (hu : P.underlying t = some d) (hd : d.isRow = true) (hs : (P.info? t).map (·.size) = some n) (xs : Array Value) (off : Nat) (l : List Value) (hx : (xs.toList.drop off).take n = l) :
    (part t xs off).run P w = .ok (.agg l.toArray) w := by
  obtain ⟨i, hi, hsz⟩ := Option.map_eq_some_iff.1 hs
  have : xs.extract off (off + n) = l.toArray := by
    apply Array.ext'
    rw [Array.toList_extract, List.extract_eq_take_drop, Nat.add_sub_cancel_left, hx]
  cases d <;> simp_all [part, isAgg, run_underlying hu, sizeOf, typeInfo, TypeDesc.isRow]

set_option maxRecDepth 100000 in
theorem head_eq {a b : HeadM} (ha : a.ok) (hb : b.ok) (w : World) : (Op.equalIn 10000 27 (.agg a.cells.toArray) (.agg b.cells.toArray)).run Tryd.prog w = .ok (a.eqB b) w := by
  rw [run_equalIn_struct w 9999 27 _ _ (by kernel_rfl) (by kernel_rfl)]
  simp only [Program.fieldsOf, Tryd.underlying27]
  have h16 : (Tryd.prog.info? 25).map (·.size) = some 16 := by kernel_rfl
  have h3 : (Tryd.prog.info? 24).map (·.size) = some 3 := by kernel_rfl
  have h8 : (Tryd.prog.info? 5).map (·.size) = some 1 := by kernel_rfl
  have p1 : ∀ {s : HeadM}, s.ok → (s.cells.toArray.toList.drop 8).take 16 = bvs s.nam := fun {s} h => by
    show (bvs s.nam).take 16 = _
    rw [List.take_of_length_le (by rw [bvs_length, h.nam]; exact Nat.le_refl _)]
  have pp : ∀ s : HeadM, (s.cells.toArray.toList.drop 5).take 3 = [.int .i64 s.tim, .int .i64 s.mem, .int .i64 s.lan] := fun s => rfl
  have U : ∀ d x y, (Op.equalIn (d + 1) 3 (.int .i64 x) (.int .i64 y)).run Tryd.prog w = .ok (x == y) w := fun d x y => run_equalIn_int w _ _ _ _ _ _ Tryd.underlying3
  have step : ∀ (d : Nat) (xs ys : Array Value) (f : Field) (fs : List Field) (x y : Int) (c : Bool), f.name ≠ "_" → f.type = 3 → xs[f.offset]? = some (.int .i64 x) → ys[f.offset]? = some (.int .i64 y) → (Op.eqFields (d + 1) xs ys fs).run Tryd.prog w = .ok c w → (Op.eqFields (d + 1) xs ys (f :: fs)).run Tryd.prog w = .ok ((x == y) && c) w := by
    intro d xs ys f fs x y c h1 h2 h3 h4 h5
    refine eqF_step _ _ _ _ _ h1 (.int .i64 x) (.int .i64 y) ?_ ?_ _ _ ?_ h5
    · rw [h2]; exact part_one Tryd.underlying3 rfl _ _ _ h3
    · rw [h2]; exact part_one Tryd.underlying3 rfl _ _ _ h4
    · rw [h2]; exact U _ _ _
  refine eqF_step _ _ _ _ _ (of_decide_eq_true (by kernel_rfl)) (.int .u64 (a.gen : Int)) (.int .u64 (b.gen : Int)) (part_one Tryd.underlying22 rfl _ _ _ rfl) (part_one Tryd.underlying22 rfl _ _ _ rfl) _ _ (run_equalIn_int w _ _ _ _ _ _ Tryd.underlying22) ?_
  refine step _ _ _ _ _ a.sec b.sec _ (of_decide_eq_true (by kernel_rfl)) rfl rfl rfl ?_
  refine step _ _ _ _ _ a.slo b.slo _ (of_decide_eq_true (by kernel_rfl)) rfl rfl rfl ?_
  refine step _ _ _ _ _ a.jou b.jou _ (of_decide_eq_true (by kernel_rfl)) rfl rfl rfl ?_
  refine step _ _ _ _ _ a.seg b.seg _ (of_decide_eq_true (by kernel_rfl)) rfl rfl rfl ?_
  refine eqF_step _ _ _ _ _ (of_decide_eq_true (by kernel_rfl)) (.agg #[.int .i64 a.tim, .int .i64 a.mem, .int .i64 a.lan]) (.agg #[.int .i64 b.tim, .int .i64 b.mem, .int .i64 b.lan]) (part_row Tryd.underlying24 rfl h3 _ _ _ (pp a)) (part_row Tryd.underlying24 rfl h3 _ _ _ (pp b)) _ _ ?_ ?_
  · refine (run_equalIn_struct w _ 24 _ _ (by kernel_rfl) (by kernel_rfl)).trans ?_
    simp only [Program.fieldsOf, Tryd.underlying24]
    refine step _ _ _ _ _ a.tim b.tim _ (of_decide_eq_true (by kernel_rfl)) rfl rfl rfl ?_
    refine step _ _ _ _ _ a.mem b.mem _ (of_decide_eq_true (by kernel_rfl)) rfl rfl rfl ?_
    refine step _ _ _ _ _ a.lan b.lan _ (of_decide_eq_true (by kernel_rfl)) rfl rfl rfl ?_
    rfl
  · refine eqF_step _ _ _ _ _ (of_decide_eq_true (by kernel_rfl)) (.agg (bvs a.nam).toArray) (.agg (bvs b.nam).toArray) (part_bytes Tryd.underlying25 h16 _ _ _ ha.nam (p1 ha)) (part_bytes Tryd.underlying25 h16 _ _ _ hb.nam (p1 hb)) _ _ (eq_bytes 9997 Tryd.underlying25 Tryd.underlying5 h8 _ _ ha.nam hb.nam) rfl

/-- Does n lie between a and b? -/
def wth (n a b : Int) : Bool := decide (a ≤ n ∧ n ≤ b)
theorem wth_yes {n a b : Int} (h : wth n a b = true) : a ≤ n ∧ n ≤ b := of_decide_eq_true h
theorem wth_no {n a b : Int} (h : wth n a b = false) : n < a ∨ b < n := by have := of_decide_eq_false h; omega
/-- May it be? -/
def parG (t m l : Int) : Bool := wth t 1 8 && (wth l 1 4 && wth m (8 * l) 256)
def HeadM.good (h : HeadM) : Bool := !((h.gen : Int) == 0) && (wth h.sec 1 1024 && (wth h.slo 1 8 && (wth h.jou 16 256 && (wth h.seg 1 16 && (!(decide (h.jou < h.seg + 10)) && parG h.tim h.mem h.lan)))))
structure HeadM.In (h : HeadM) : Prop where
  gen : 1 ≤ h.gen
  sec : 1 ≤ h.sec ∧ h.sec ≤ 1024
  slo : 1 ≤ h.slo ∧ h.slo ≤ 8
  jou : 16 ≤ h.jou ∧ h.jou ≤ 256
  seg : 1 ≤ h.seg ∧ h.seg ≤ 16
  room : h.seg + 10 ≤ h.jou
  tim : 1 ≤ h.tim ∧ h.tim ≤ 8
  lan : 1 ≤ h.lan ∧ h.lan ≤ 4
  mem : 8 * h.lan ≤ h.mem ∧ h.mem ≤ 256
theorem HeadM.in_of {h : HeadM} (k : h.good = true) : h.In := by
  simp only [HeadM.good, parG, wth, Bool.and_eq_true, Bool.not_eq_true', decide_eq_true_eq, decide_eq_false_iff_not, beq_eq_false_iff_ne] at k
  constructor <;> omega
theorem HeadM.good_of {h : HeadM} (k : h.In) : h.good = true := by
  obtain ⟨a, b, c, d, e, f, g, i, j⟩ := k
  simp only [HeadM.good, parG, wth, Bool.and_eq_true, Bool.not_eq_true', decide_eq_true_eq, decide_eq_false_iff_not, beq_eq_false_iff_ne]
  omega
def magicH : List UInt8 := [67, 65, 83, 75, 69, 84, 48, 49]
def HeadM.front (h : HeadM) : List UInt8 := magicH ++ (leB 8 h.gen ++ (leB 4 h.sec.toNat ++ (leB 1 h.slo.toNat ++ (leB 2 h.jou.toNat ++ (leB 1 h.seg.toNat ++ (leB 1 h.tim.toNat ++ (leB 2 h.mem.toNat ++ (leB 1 h.lan.toNat ++ h.nam))))))))
def HeadM.body (h : HeadM) : List UInt8 := h.front ++ List.replicate 436 0
def HeadM.bytes (h : HeadM) : List UInt8 := h.body ++ shaSum h.body
theorem HeadM.front_len {h : HeadM} (k : h.ok) : h.front.length = 44 := by simp [HeadM.front, magicH, leB_length, k.nam]
theorem HeadM.body_len {h : HeadM} (k : h.ok) : h.body.length = 480 := by rw [HeadM.body, List.length_append, List.length_replicate, HeadM.front_len k]
end Go.Proofs.YtlelgeigighecaaDoor
