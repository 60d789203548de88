/-
  Layer 13 (record): read, Plan.
-/
import Derived.Test.YtlelgeigighecaaDoorRecI
set_option linter.unusedSimpArgs false
set_option linter.unusedVariables false
set_option linter.unnecessarySimpa false
namespace Go.Proofs.YtlelgeigighecaaDoor
open Go.RowKit

theorem slI13 : SlT Tryd.prog 32 3 1 8 (.int .i64 0) := ⟨Tryd.underlying32, by kernel_rfl, rfl, by decide, by decide⟩
def intsN (l : List UInt8) (n : Nat) : List Int := (List.range n).map fun i => ((leN ((l.drop (4 * i)).take 4) : Nat) : Int)
theorem intsN_len (l : List UInt8) (n : Nat) : (intsN l n).length = n := by simp [intsN]
theorem intsN_succ (l : List UInt8) (n : Nat) : intsN l (n + 1) = intsN l n ++ [((leN ((l.drop (4 * n)).take 4) : Nat) : Int)] := by simp [intsN, List.range_succ]
theorem leN4_lt (l : List UInt8) : leN (l.take 4) < 4294967296 := Nat.lt_of_lt_of_le (leN_take_lt l 4) (by decide)
theorem intsN_in (l : List UInt8) (n : Nat) : ∀ x ∈ intsN l n, in64 x := by
  intro x hx
  simp only [intsN, List.mem_map] at hx
  obtain ⟨i, -, rfl⟩ := hx
  have := leN4_lt (l.drop (4 * i))
  unfold in64
  omega
theorem intsN_take (l : List UInt8) (n k : Nat) (hk : k ≤ n) : (intsN l n).take k = intsN l k := by
  rw [intsN, ← List.map_take, List.take_range, Nat.min_eq_left hk, intsN]

set_option maxHeartbeats 1000000 in
theorem rcRead1_ok {w : World} {p : Nat} {G : List Nat} {l : List UInt8} (h : Rdr 108 w p G l false) (h4 : 4 ≤ l.length) :
    Calls Tryd.prog 93 #[.pointer (some ⟨p, 0, none⟩)] w fun e w' => e = .returned (.int .i64 (leN (l.take 4))) ∧ Rdr 108 w' p G (l.drop 4) false ∧ Fr [p] w w' := by
  go_enter Tryd.func93, Tryd.ntmps93
  go_wp2_with fail
  refine (rUint_ok h 4 h4 rfl).mono ?_
  rintro e w' ⟨rfl, h1, h2⟩
  have hx := leN4_lt l
  obtain ⟨x, hxx⟩ : ∃ x, leN (l.take 4) = x := ⟨_, rfl⟩
  rw [hxx] at hx ⊢
  have HX := Lib.hid hxx
  clear hxx
  have U : IntKind.i64.wrap (x : Int) = x := by rw [IntKind.wrap_i64]; omega
  go_wp2_with fail
  go_ret
  exact ⟨by rw [HX.out]; rfl, h1, h2⟩

theorem rdr_badc {T : TypeId} {w : World} {p : Nat} {G : List Nat} {l : List UInt8} {bad : Bool} (h : Rdr T w p G l bad) : w.cell? ⟨p, 1, none⟩ = some (.bool bad) ∧ w.frozen? ⟨p, 1, none⟩ = false := by
  obtain ⟨A, c, h1, _⟩ := h
  exact ⟨by have := h1.cell 1; simpa using this, h1.frozen 1⟩

set_option maxRecDepth 100000 in
set_option maxHeartbeats 1000000 in
theorem getI_ok {w : World} {p : Nat} {G : List Nat} {l : List UInt8} (h : Rdr 108 w p G l false) (n : Nat) (hn : n ≤ 64) (hl : 4 * n ≤ l.length) (hG : ∀ g ∈ G, g < w.heap.size) (hpG : ∀ g ∈ G, g ≠ p) :
    Calls Tryd.prog 92 #[.pointer (some ⟨p, 0, none⟩), .int .i64 n, .func (.func 93) #[] #[]] w fun e w' => ∃ v, e = .returned v ∧ Row w' w.heap.size 3 1 v n (zvs (intsN l n)) ∧ Rdr 108 w' p G (l.drop (4 * n)) false ∧ Fr [p] w w' := by
  have d1 : decide ((n : Int) < 0) = false := by simp
  have hp := h.lt
  obtain ⟨ln, hln⟩ : ∃ ln, l.length = ln := ⟨_, rfl⟩
  rw [hln] at hl
  have HLN := Lib.hid hln
  go_enter Tryd.func92, Tryd.ntmps92
  go_wp2_with fail
  have cl := rLeft_any h
  rw [hln] at cl
  clear hln
  refine cl.mono ?_
  clear cl
  rintro e w' ⟨rfl, rfl⟩
  have d2 : decide (ln < n) = false := by simp; omega
  go_wp2_with fail
  go_loopw [7, 23] (fun v i wr => ∃ k : Nat, k ≤ n ∧ i = .int .i64 k ∧ Row wr w.heap.size 3 1 v k (zvs (intsN l k)) ∧ Rdr 108 wr p G (l.drop (4 * k)) false ∧ Fr [p] w wr) (fun _ i _ => n - (intOf i).toNat)
  case atStart => exact ⟨0, Nat.zero_le _, rfl, Row.nil _ _ _ _, by simpa using h, Fr.refl _ _⟩
  case round =>
    obtain ⟨k, hk, rfl, hrow, hrd, f⟩ := hrel
    obtain ⟨c1, f1⟩ := rdr_badc hrd
    by_cases hlt : k < n
    · obtain ⟨A7, cap7, rfl, -, -, -, -, -⟩ := hrow.shape
      go_wp2_with fail
      have cc := rcRead1_ok hrd (by rw [List.length_drop, HLN.out]; omega)
      rw [List.drop_drop] at cc
      have HT := Lib.hid (show zvs (intsN l (k + 1)) = zvs (intsN l k) ++ [.int .i64 ((leN ((l.drop (4 * k)).take 4) : Nat) : Int)] by rw [intsN_succ, zvs_append]; rfl)
      generalize leN ((l.drop (4 * k)).take 4) = x at *
      refine cc.mono ?_
      clear cc
      rintro e w2 ⟨rfl, g1, g2⟩
      have hrow2 := hrow.keep g2 (fun g hg => by have := hrow.lt g hg; simp; omega)
      go_wp2_with (at_builtin; refine wpList_app rfl rfl slI13 w.heap.size (.slice A7 k cap7) k (zvs (intsN l k)) rfl (hrow2.alloc _) _ 1 1 [_] rfl rfl (Rd.one _ _ _) (by intro u hu; rw [List.mem_singleton.1 hu]; rfl) (fun h => by cases h) (by omega) (by have := f.size; have := g2.size; simp; omega) ?_; intro v3 w3 q1 q2 q3 q4)
      have q2' := q2
      refine ⟨⟨k + 1, by omega, by go_num, by rw [HT.out]; exact q1, ?_, ?_⟩, by simp [intOf]; omega⟩
      · have g3 := g1.keep ((Fr.refl [] _).alloc (.cells #[.int .i64 x] 3)) (by simp) (by simp)
        rw [show 4 * (k + 1) = 4 * k + 4 by omega]
        refine g3.keep q2' (fun hm => ?_) (fun g hg hm => ?_)
        · have := (hrow.lt _ (mem_own.1 hm)).1; omega
        · have := (hrow.lt _ (mem_own.1 hm)).1; have := hG g hg; omega
      · refine (f.trans_same g2).trans (((Fr.refl [] _).alloc _).nil.trans q2' (fun i hi => .inl hi)) (fun i hi => .inr ?_)
        exact (hrow.lt i (mem_own.1 hi)).1
    · obtain rfl : k = n := by omega
      go_wp2_with fail
      go_ret
      exact ⟨_, rfl, hrow, hrd, f⟩

def plN (l : List UInt8) : Nat := leN ((l.drop 4).take 8)
def plC (l : List UInt8) : Nat := leN ((l.drop 12).take 2)
def plT (l : List UInt8) : Nat := leN ((l.drop 14).take 8)
def plL (l : List UInt8) : List Int := intsN (l.drop 22) (plC l)
theorem plN_lt (l : List UInt8) : plN l < 18446744073709551616 := Nat.lt_of_lt_of_le (leN_take_lt _ _) (by decide)
theorem plT_lt (l : List UInt8) : plT l < 18446744073709551616 := Nat.lt_of_lt_of_le (leN_take_lt _ _) (by decide)
theorem plC_lt (l : List UInt8) : plC l < 65536 := Nat.lt_of_lt_of_le (leN_take_lt _ _) (by decide)
theorem plL_len (l : List UInt8) : (plL l).length = plC l := intsN_len _ _
def plOk (l : List UInt8) : Prop := plC l ≤ 64 ∧ (64 ≤ plC l ∨ plT l / 2 ^ plC l = 0) ∧ allZ (l.drop (22 + 4 * plC l)) = true ∧ l.take 4 = planM ∧ plN l ≠ 0 ∧ rightF (plL l) = true
instance (l : List UInt8) : Decidable (plOk l) := by unfold plOk; infer_instance
/-- What bytes say as a plan: number, blocks, which are turned. -/
def plV (l : List UInt8) : Option (Nat × List Int × Nat) := if l.length = 512 ∧ plOk l then some (plN l, plL l, plT l) else none
theorem plV_none {l : List UInt8} (h : ¬ (l.length = 512 ∧ plOk l)) : plV l = none := if_neg h
theorem plV_some {l : List UInt8} (h1 : l.length = 512) (h : plOk l) : plV l = some (plN l, plL l, plT l) := if_pos ⟨h1, h⟩
/-- A plan's parts. -/
def PartC (w : World) (l : List UInt8) (e : Ending) (w' : World) : Prop :=
  ∃ v, e = .returned (.tuple #[.int .u64 ((((plV l).getD (0, [], 0)).1 : Nat) : Int), v, .int .u64 ((((plV l).getD (0, [], 0)).2.2 : Nat) : Int), .int .i64 (errG (plV l).isSome 110)]) ∧
    Row w' w.heap.size 3 1 v ((plV l).getD (0, [], 0)).2.1.length (zvs ((plV l).getD (0, [], 0)).2.1) ∧ Fr [] w w'
theorem PartC.no {w w' : World} {l : List UInt8} (h : plV l = none) (f : Fr [] w w') : PartC w l (.returned (.tuple #[.int .u64 0, .slice none 0 0, .int .u64 0, .int .i64 110])) w' := by
  unfold PartC
  rw [h]
  exact ⟨_, rfl, Row.nil _ _ _ _, f⟩
theorem PartC.yes {w w' : World} {l : List UInt8} {n t : Nat} {L : List Int} {v : Value} {k : Nat} (h : plV l = some (n, L, t)) (hk : L.length = k) (r : Row w' w.heap.size 3 1 v k (zvs L)) (f : Fr [] w w') : PartC w l (.returned (.tuple #[.int .u64 (n : Int), v, .int .u64 (t : Int), .int .i64 0])) w' := by
  unfold PartC
  rw [h]
  subst hk
  exact ⟨_, rfl, r, f⟩

theorem leB_leN13 : ∀ l : List UInt8, leB l.length (leN l) = l := by
  intro l
  refine List.ext_getElem (by rw [leB_length]) fun k h1 h2 => ?_
  rw [leB_length] at h1
  have hp : 0 < 256 ^ k := Nat.pow_pos (by omega)
  have e : leN l = leN (l.take k) + 256 ^ k * leN (l.drop k) := by
    conv => lhs; rw [← List.take_append_drop k l]
    rw [leN_append, List.length_take, Nat.min_eq_left (by omega)]
  have e2 : leN l / 256 ^ k = leN (l.drop k) := by
    rw [e, Nat.add_mul_div_left _ _ hp, Nat.div_eq_of_lt (leN_take_lt l k), Nat.zero_add]
  have e3 : leN (l.drop k) % 256 = l[k].toNat := by
    rw [List.drop_eq_getElem_cons h1]
    simp only [leN]
    have := l[k].toNat_lt
    omega
  simp only [leB, List.getElem_map, List.getElem_range, e2, e3]
  simp
theorem leN_leB13 (n x : Nat) (h : x < 256 ^ n) : leN (leB n x) = x := by
  have key : ∀ n x, leN (leB n x) = x % 256 ^ n := by
    intro n
    induction n with
    | zero => intro x; simp [leB, leN, Nat.mod_one]
    | succ n ih =>
      intro x
      rw [leB_succ, leN_append, ih, leB_length]
      simp only [leN, Nat.mul_zero, Nat.add_zero]
      rw [UInt8.toNat_ofNat', Nat.mod_mod, Nat.pow_succ, Nat.mod_mul]
  rw [key, Nat.mod_eq_of_lt h]
theorem leB_at13 (l : List UInt8) (i n : Nat) (h : i + n ≤ l.length) : leB n (leN ((l.drop i).take n)) = (l.drop i).take n := by
  have := leB_leN13 ((l.drop i).take n)
  rwa [List.length_take, List.length_drop, Nat.min_eq_left (by omega)] at this
theorem allZ_iff13 (l : List UInt8) : allZ l = true ↔ l = List.replicate l.length 0 := by
  rw [allZ, List.all_eq_true, List.eq_replicate_iff]
  simp
theorem encI_intsN (l : List UInt8) : ∀ n, 4 * n ≤ l.length → encI (intsN l n) = l.take (4 * n)
  | 0, _ => by simp [encI, intsN]
  | n + 1, h => by
    rw [intsN_succ, encI, List.flatMap_append, ← encI, encI_intsN l n (by omega)]
    simp only [List.flatMap_cons, List.flatMap_nil, List.append_nil, Int.toNat_natCast]
    rw [leB_at13 l (4 * n) 4 (by omega), ← List.take_add]
    rfl
theorem pad_eq {q l : List UInt8} (hl : l.length = 512) (hq : q.length ≤ 512) : pad512 q = l ↔ l.take q.length = q ∧ allZ (l.drop q.length) = true := by
  rw [allZ_iff13, List.length_drop, hl, pad512]
  constructor
  · rintro rfl
    exact ⟨List.take_left' rfl, List.drop_left' rfl⟩
  · rintro ⟨h1, h2⟩
    conv => rhs; rw [← List.take_append_drop q.length l]
    rw [h1, ← h2]
/-- The plan of what bytes say is these bytes. -/
theorem plan_law {l : List UInt8} (hl : l.length = 512) (hc : plC l ≤ 64) : planB (plN l) (plL l) (plT l) = l ↔ l.take 4 = planM ∧ allZ (l.drop (22 + 4 * plC l)) = true := by
  have hlen : (planR (plN l) (plL l) (plT l)).length = 22 + 4 * plC l := by rw [planR_len, plL_len]
  rw [planB, pad_eq hl (by omega), hlen]
  have e : planR (plN l) (plL l) (plT l) = planM ++ (l.drop 4).take (18 + 4 * plC l) := by
    rw [planR, plL_len, plN, plT, show leB 2 (plC l) = (l.drop 12).take 2 from leB_at13 l 12 2 (by omega), leB_at13 l 4 8 (by omega), leB_at13 l 14 8 (by omega)]
    rw [plL, encI_intsN _ _ (by rw [List.length_drop]; omega)]
    rw [show 18 + 4 * plC l = 8 + (2 + (8 + 4 * plC l)) by omega, List.take_add, List.take_add, List.take_add]
    simp only [List.drop_drop, List.append_assoc]
  have e2 : l.take (22 + 4 * plC l) = l.take 4 ++ (l.drop 4).take (18 + 4 * plC l) := by
    rw [show 22 + 4 * plC l = 4 + (18 + 4 * plC l) by omega, List.take_add]
  rw [e, e2]
  constructor
  · rintro ⟨h1, h2⟩
    exact ⟨(List.append_inj h1 (by rw [List.length_take, hl]; rfl)).1, h2⟩
  · rintro ⟨h1, h2⟩
    exact ⟨by rw [h1], h2⟩
theorem right_in {l : List Int} (h : rightF l = true) : ∀ x ∈ l, 0 ≤ x ∧ x < 4096 := by
  simp only [rightF, Bool.and_eq_true, List.all_eq_true] at h
  intro x hx
  have := h.1 x hx
  simp only [inP, Bool.and_eq_true, decide_eq_true_eq] at this
  exact this
end Go.Proofs.YtlelgeigighecaaDoor
