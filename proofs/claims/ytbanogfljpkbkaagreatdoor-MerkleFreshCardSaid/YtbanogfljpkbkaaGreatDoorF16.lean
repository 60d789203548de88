/-
  Texts of this claim, one behind the other: RecH, RecI, RecJ, RecK, RecL, RecM.
-/
import Derived.Test.YtbanogfljpkbkaaGreatDoorF15
set_option linter.unusedSimpArgs false
set_option linter.unusedVariables false
set_option linter.unnecessarySimpa false
namespace Go.Proofs.YtbanogfljpkbkaaGreatDoor
section
open Go.RowKit
theorem flat_take_succ (bs : List (List UInt8)) (k : Nat) (h : k < bs.length) : (bs.take (k + 1)).flatten = (bs.take k).flatten ++ bs[k] := by
 rw [List.take_succ_eq_append_getElem h, List.flatten_append]
 simp
theorem flat_take_le (bs : List (List UInt8)) (k : Nat) : ((bs.take k).flatten).length ≤ bs.flatten.length := by
 conv => rhs; rw [← List.take_append_drop k bs, List.flatten_append, List.length_append]
 omega
set_option maxRecDepth 100000 in
set_option maxHeartbeats 4000000 in
theorem rcSeal_any {w : World} {n c m : Nat} {A : Option Addr} {vs : List Value} {bs : List (List UInt8)} (hm : m < 18446744073709551616) (hn : bs.length = n) (hr : BRd w A vs bs) (hb : bs.flatten.length ≤ 140737488355200) (hn2 : n ≤ 140737488355328) (hK : KG w) :
  Calls Tryz.prog 175 #[.int .u64 (m : Int), .slice A n c] w fun e w' => ∃ r, e = .returned r ∧ Row w' w.heap.size 5 1 r 512 (bvs (doneB m bs.flatten)) ∧ Fr [] w w' := by
 have HN := Lib.hid hn
 have HB := Lib.hid hb
 have p0 := hK.pos
 clear hn hb
 go_enter Tryz.func175, Tryz.ntmps175
 go_upto_region 1 with fail
 have b1 : Blk (w.alloc (.cells #[.int .u64 (m : Int)] 57)) w.heap.size 57 #[.int .u64 (m : Int)] := Blk.new _ _ _
 have F1 : Fr [] w (w.alloc (.cells #[.int .u64 (m : Int)] 57)) := (Fr.refl _ _).alloc _
 have s1 : (w.alloc (.cells #[.int .u64 (m : Int)] 57)).heap.size = w.heap.size + 1 := by simp
 generalize w.alloc (.cells #[.int .u64 (m : Int)] 57) = w1 at *
 obtain ⟨g1, hg1⟩ : ∃ g, w.heap.size = g := ⟨_, rfl⟩
 have HG1 := Lib.hid (And.intro hg1 s1)
 rw [hg1] at b1 ⊢
 clear hg1 s1
 go_wp2_with fail
 refine (newHash_any w1).mono ?_
 rintro e w2 ⟨g, rfl, hg, hh, f2⟩
 have F2 := F1.trans_nil f2
 have b2 := b1.keep_nil f2
 have gw : w.heap.size < g := by have := HG1.out; omega
 have hgl := hh.blk.lt
 have g1g : g1 < g := by have := HG1.out; omega
 clear b1 F1 f2
 obtain ⟨B, hB⟩ : ∃ B, w2.heap.size = B := ⟨_, rfl⟩
 rw [hB] at hh hgl
 have hgB : g < B := hgl
 have HBB := Lib.hid hB
 clear hB hgl
 go_wp2_with fail
 go_loopw [12] (fun i wr => ∃ k : Nat, k ≤ n ∧ i = .int .i64 k ∧ (∃ v, Hsh wr g B v (bs.take k).flatten) ∧ Blk wr g1 57 #[.int .u64 (m : Int)] ∧ Fr [] w wr) (fun i _ => n - (intOf i).toNat)
 case atStart => exact ⟨0, Nat.zero_le _, rfl, ⟨_, hh⟩, b2, F2⟩
 case round =>
  clear hh b2 F2
  obtain ⟨k, hk, rfl, ⟨v, hh⟩, b3, F3⟩ := hrel
  have hbase := hh.base
  by_cases hlt : k < n
  ·have hkl : k < bs.length := by rw [HN.out]; exact hlt
   have hkv : k < vs.length := by rw [hr.len]; exact hkl
   have hr3 := hr.keep_nil F3
   obtain ⟨ga, oa, rfl, hc⟩ := hr3.rd (by intro h; rw [h] at hkv; simp at hkv)
   have ck := hc k vs[k] (List.getElem?_eq_getElem hkv)
   obtain ⟨Ak, cK, hv, hrd, hnil, hcap⟩ := hr3.each k hkv hkl
   obtain ⟨Aw, cw, hvw, hrdw, -⟩ := hr.each k hkv hkl
   rw [hv] at ck
   have eA : Ak = Aw := by rw [hv] at hvw; injection hvw
   have hft := flat_take_succ bs k hkl
   have hfl := flat_take_le bs (k + 1)
   rw [hft, List.length_append] at hfl
   obtain ⟨b, hbk⟩ : ∃ b, bs[k] = b := ⟨_, rfl⟩
   rw [hbk] at ck hrd hnil hft hfl hrdw hcap
   obtain ⟨l, hll⟩ : ∃ l, (bs.take k).flatten = l := ⟨_, rfl⟩
   rw [hll] at hh hft hfl
   have HFT := Lib.hid hft
   obtain ⟨nb, hnb⟩ : ∃ nb, b.length = nb := ⟨_, rfl⟩
   rw [hnb] at ck hnil hfl hcap
   have HB2 := HB.out
   have cc := hWrite_any hh Ak nb cK b hnb hrd hnil (fun g' o e hne => by
    obtain ⟨g2, o2, e2, h2⟩ := hrdw.lt (by intro h0; apply hne; simpa [bvs] using h0)
    rw [← eA, e] at e2
    cases e2
    omega) (by omega) (hK.keep F3) (by omega) (by omega)
   have hown : ∀ i, v.ownBlock = some i → B ≤ i := fun i hi => (hh.row.lt i hi).1
   clear hc hv hrd hnil hcap hvw hrdw eA hft hfl hbk hll hnb hr3 HB2
   go_wp2_with fail
   refine cc.mono ?_
   clear cc
   rintro e w4 ⟨rfl, v4, h4, f4, -⟩
   have b4 := b3.keep f4 (fun hm => by
    rcases List.mem_cons.1 hm with e | hm
    ·omega
    ·have := hown _ (mem_own.1 hm); omega)
   have F4 : Fr [] w w4 := F3.trans f4 (fun i hi => .inr (by
    rcases List.mem_cons.1 hi with e | hi
    ·omega
    ·have := hown _ (mem_own.1 hi); omega))
   go_wp2_with fail
   exact ⟨⟨k + 1, by omega, by go_num, ⟨v4, by rw [HFT.out]; exact h4⟩, b4, F4⟩, by simp [intOf]; omega⟩
  ·obtain rfl : k = n := by omega
   rw [List.take_of_length_le (by rw [HN.out]; exact Nat.le_refl _)] at hh
   go_wp2_with fail
   refine (hSum_any hh HB.out (hK.keep F3)).mono ?_
   rintro e w5 ⟨rfl, f5⟩
   have F5 := F3.trans_nil f5
   have b5 := b3.keep_nil f5
   obtain ⟨D, hD⟩ : ∃ D, shaSum bs.flatten = D := ⟨_, rfl⟩
   have hdl : D.length = 32 := by rw [← hD, shaSum_length]
   rw [hD]
   have HDD := Lib.hid (fun _ : Unit => hD)
   have HDL := Lib.hid hdl
   clear hD hdl hh b3 F3 f5
   go_wp2_with
    (first
     | (refine wpList_alS stA32 (o := ⟨some 8, _, _, _, _, _⟩) rfl rfl ?_; intro wa ha fa za; have ZA := Lib.hid za; clear za; obtain ⟨g8, hgg⟩ : ∃ g, w5.heap.size = g := ⟨_, rfl⟩; rw [hgg] at ha; rw [hgg]; have HG8 := Lib.hid hgg; clear hgg)
     | (refine wpList_stB stA32 rfl rfl g8 rfl (bvs D) rfl (by rw [bvs_length, HDL.out]) (bvs_one _) (bvs (zB 32)) rfl ha ?_; intro wb hb fb zb; have ZB := Lib.hid zb; clear zb))
   have f6 : Fr [] w5 wb := fa.trans fb (fun i hi => .inr (by have := HG8.out; simp at hi; omega))
   have F6 := F5.trans_nil f6
   have b6 := b5.keep_nil f6
   refine (rcBlock_rcSeal1 wb g1 g8 (doneM ++ leB 8 m ++ D) (by rw [List.length_append, List.length_append, leB_length, HDL.out]; decide) (fun wx p B v f _ _ h => rcSeal1_ok h hm (b6.keep_nil f) (hb.keep_nil f) HDL.out)).mono ?_
   rintro e w7 ⟨r, rfl, r7, f7⟩
   obtain ⟨A7, cap7, rfl, -, -, -, -, -⟩ := r7.shape
   go_wp2_with fail
   go_ret
   refine ⟨_, rfl, ?_, F6.trans_nil f7⟩
   rw [doneB, doneR, HDD.out ()]
   exact r7.mono F6.size
end
section
open Go.RowKit
set_option maxRecDepth 100000 in
set_option maxHeartbeats 4000000 in
end
section
open Go.RowKit
theorem slI13 : SlT Tryz.prog 36 3 1 8 (.int .i64 0) := ⟨Tryz.underlying36, by kernel_rfl, rfl, by decide, by decide⟩
def intsN (l : List UInt8) (n : Nat) : List Int := (List.range n).map fun i => ((leN ((l.drop (4 * i)).take 4) : Nat) : Int)
theorem intsN_len (l : List UInt8) (n : Nat) : (intsN l n).length = n := by simp [intsN]
theorem intsN_succ (l : List UInt8) (n : Nat) : intsN l (n + 1) = intsN l n ++ [((leN ((l.drop (4 * n)).take 4) : Nat) : Int)] := by simp [intsN, List.range_succ]
theorem leN4_lt (l : List UInt8) : leN (l.take 4) < 4294967296 := Nat.lt_of_lt_of_le (leN_take_lt l 4) (by decide)
theorem intsN_in (l : List UInt8) (n : Nat) : ∀ x ∈ intsN l n, in64 x := by
 intro x hx
 simp only [intsN, List.mem_map] at hx
 obtain ⟨i, -, rfl⟩ := hx
 have := leN4_lt (l.drop (4 * i))
 unfold in64
 omega
set_option maxHeartbeats 1000000 in
theorem rcRead1_ok {w : World} {p : Nat} {G : List Nat} {l : List UInt8} (h : Rdr 248 w p G l false) (h4 : 4 ≤ l.length) :
  Calls Tryz.prog 203 #[.pointer (some ⟨p, 0, none⟩)] w fun e w' => e = .returned (.int .i64 (leN (l.take 4))) ∧ Rdr 248 w' p G (l.drop 4) false ∧ Fr [p] w w' := by
 go_enter Tryz.func203, Tryz.ntmps203
 go_wp2_with fail
 refine (rUint_ok h 4 h4 rfl).mono ?_
 rintro e w' ⟨rfl, h1, h2⟩
 have hx := leN4_lt l
 obtain ⟨x, hxx⟩ : ∃ x, leN (l.take 4) = x := ⟨_, rfl⟩
 rw [hxx] at hx ⊢
 have HX := Lib.hid hxx
 clear hxx
 have U : IntKind.i64.wrap (x : Int) = x := by rw [IntKind.wrap_i64]; omega
 go_wp2_with fail
 go_ret
 exact ⟨by rw [HX.out]; rfl, h1, h2⟩
theorem rdr_badc {T : TypeId} {w : World} {p : Nat} {G : List Nat} {l : List UInt8} {bad : Bool} (h : Rdr T w p G l bad) : w.cell? ⟨p, 1, none⟩ = some (.bool bad) ∧ w.frozen? ⟨p, 1, none⟩ = false := by
 obtain ⟨A, c, h1, _⟩ := h
 exact ⟨by have := h1.cell 1; simpa using this, h1.frozen 1⟩
set_option maxRecDepth 100000 in
set_option maxHeartbeats 1000000 in
theorem getI_ok {w : World} {p : Nat} {G : List Nat} {l : List UInt8} (h : Rdr 248 w p G l false) (n : Nat) (hn : n ≤ 64) (hl : 4 * n ≤ l.length) (hG : ∀ g ∈ G, g < w.heap.size) (hpG : ∀ g ∈ G, g ≠ p) :
  Calls Tryz.prog 202 #[.pointer (some ⟨p, 0, none⟩), .int .i64 n, .func (.func 203) #[] #[]] w fun e w' => ∃ v, e = .returned v ∧ Row w' w.heap.size 3 1 v n (zvs (intsN l n)) ∧ Rdr 248 w' p G (l.drop (4 * n)) false ∧ Fr [p] w w' := by
 have d1 : decide ((n : Int) < 0) = false := by simp
 have hp := h.lt
 obtain ⟨ln, hln⟩ : ∃ ln, l.length = ln := ⟨_, rfl⟩
 rw [hln] at hl
 have HLN := Lib.hid hln
 go_enter Tryz.func202, Tryz.ntmps202
 go_wp2_with fail
 have cl := rLeft_any h
 rw [hln] at cl
 clear hln
 refine cl.mono ?_
 clear cl
 rintro e w' ⟨rfl, rfl⟩
 have d2 : decide (ln < n) = false := by simp; omega
 go_wp2_with fail
 go_loopw [7, 23] (fun v i wr => ∃ k : Nat, k ≤ n ∧ i = .int .i64 k ∧ Row wr w.heap.size 3 1 v k (zvs (intsN l k)) ∧ Rdr 248 wr p G (l.drop (4 * k)) false ∧ Fr [p] w wr) (fun _ i _ => n - (intOf i).toNat)
 case atStart => exact ⟨0, Nat.zero_le _, rfl, Row.nil _ _ _ _, by simpa using h, Fr.refl _ _⟩
 case round =>
  obtain ⟨k, hk, rfl, hrow, hrd, f⟩ := hrel
  obtain ⟨c1, f1⟩ := rdr_badc hrd
  by_cases hlt : k < n
  ·obtain ⟨A7, cap7, rfl, -, -, -, -, -⟩ := hrow.shape
   go_wp2_with fail
   have cc := rcRead1_ok hrd (by rw [List.length_drop, HLN.out]; omega)
   rw [List.drop_drop] at cc
   have HT := Lib.hid (show zvs (intsN l (k + 1)) = zvs (intsN l k) ++ [.int .i64 ((leN ((l.drop (4 * k)).take 4) : Nat) : Int)] by rw [intsN_succ, zvs_append]; rfl)
   generalize leN ((l.drop (4 * k)).take 4) = x at *
   refine cc.mono ?_
   clear cc
   rintro e w2 ⟨rfl, g1, g2⟩
   have hrow2 := hrow.keep g2 (fun g hg => by have := hrow.lt g hg; simp; omega)
   go_wp2_with (at_builtin; refine wpList_app rfl rfl slI13 w.heap.size (.slice A7 k cap7) k (zvs (intsN l k)) rfl (hrow2.alloc _) _ 1 1 [_] rfl rfl (Rd.one _ _ _) (by intro u hu; rw [List.mem_singleton.1 hu]; rfl) (fun h => by cases h) (by omega) (by have := f.size; have := g2.size; simp; omega) ?_; intro v3 w3 q1 q2 q3 q4)
   have q2' := q2
   refine ⟨⟨k + 1, by omega, by go_num, by rw [HT.out]; exact q1, ?_, ?_⟩, by simp [intOf]; omega⟩
   ·have g3 := g1.keep ((Fr.refl [] _).alloc (.cells #[.int .i64 x] 3)) (by simp) (by simp)
    rw [show 4 * (k + 1) = 4 * k + 4 by omega]
    refine g3.keep q2' (fun hm => ?_) (fun g hg hm => ?_)
    ·have := (hrow.lt _ (mem_own.1 hm)).1; omega
    ·have := (hrow.lt _ (mem_own.1 hm)).1; have := hG g hg; omega
   ·refine (f.trans_same g2).trans (((Fr.refl [] _).alloc _).nil.trans q2' (fun i hi => .inl hi)) (fun i hi => .inr ?_)
    exact (hrow.lt i (mem_own.1 hi)).1
  ·obtain rfl : k = n := by omega
   go_wp2_with fail
   go_ret
   exact ⟨_, rfl, hrow, hrd, f⟩
def plN (l : List UInt8) : Nat := leN ((l.drop 4).take 8)
def plC (l : List UInt8) : Nat := leN ((l.drop 12).take 2)
def plT (l : List UInt8) : Nat := leN ((l.drop 14).take 8)
def plL (l : List UInt8) : List Int := intsN (l.drop 22) (plC l)
theorem plN_lt (l : List UInt8) : plN l < 18446744073709551616 := Nat.lt_of_lt_of_le (leN_take_lt _ _) (by decide)
theorem plT_lt (l : List UInt8) : plT l < 18446744073709551616 := Nat.lt_of_lt_of_le (leN_take_lt _ _) (by decide)
theorem plC_lt (l : List UInt8) : plC l < 65536 := Nat.lt_of_lt_of_le (leN_take_lt _ _) (by decide)
theorem plL_len (l : List UInt8) : (plL l).length = plC l := intsN_len _ _
def plOk (l : List UInt8) : Prop := plC l ≤ 64 ∧ (64 ≤ plC l ∨ plT l / 2 ^ plC l = 0) ∧ allZ (l.drop (22 + 4 * plC l)) = true ∧ l.take 4 = planM ∧ plN l ≠ 0 ∧ rightF (plL l) = true
instance (l : List UInt8) : Decidable (plOk l) := by unfold plOk; infer_instance
def plV (l : List UInt8) : Option (Nat × List Int × Nat) := if l.length = 512 ∧ plOk l then some (plN l, plL l, plT l) else none
theorem plV_none {l : List UInt8} (h : ¬ (l.length = 512 ∧ plOk l)) : plV l = none := if_neg h
theorem plV_some {l : List UInt8} (h1 : l.length = 512) (h : plOk l) : plV l = some (plN l, plL l, plT l) := if_pos ⟨h1, h⟩
def PartC (w : World) (l : List UInt8) (e : Ending) (w' : World) : Prop :=
 ∃ v, e = .returned (.tuple #[.int .u64 ((((plV l).getD (0, [], 0)).1 : Nat) : Int), v, .int .u64 ((((plV l).getD (0, [], 0)).2.2 : Nat) : Int), .int .i64 (errG (plV l).isSome 110)]) ∧
  Row w' w.heap.size 3 1 v ((plV l).getD (0, [], 0)).2.1.length (zvs ((plV l).getD (0, [], 0)).2.1) ∧ Fr [] w w'
theorem PartC.no {w w' : World} {l : List UInt8} (h : plV l = none) (f : Fr [] w w') : PartC w l (.returned (.tuple #[.int .u64 0, .slice none 0 0, .int .u64 0, .int .i64 110])) w' := by
 unfold PartC
 rw [h]
 exact ⟨_, rfl, Row.nil _ _ _ _, f⟩
theorem PartC.yes {w w' : World} {l : List UInt8} {n t : Nat} {L : List Int} {v : Value} {k : Nat} (h : plV l = some (n, L, t)) (hk : L.length = k) (r : Row w' w.heap.size 3 1 v k (zvs L)) (f : Fr [] w w') : PartC w l (.returned (.tuple #[.int .u64 (n : Int), v, .int .u64 (t : Int), .int .i64 0])) w' := by
 unfold PartC
 rw [h]
 subst hk
 exact ⟨_, rfl, r, f⟩
theorem leN_leB13 (n x : Nat) (h : x < 256 ^ n) : leN (leB n x) = x := by
 have key : ∀ n x, leN (leB n x) = x % 256 ^ n := by
  intro n
  induction n with
  | zero => intro x; simp [leB, leN, Nat.mod_one]
  | succ n ih =>
   intro x
   rw [leB_succ, leN_append, ih, leB_length]
   simp only [leN, Nat.mul_zero, Nat.add_zero]
   rw [UInt8.toNat_ofNat', Nat.mod_mod, Nat.pow_succ, Nat.mod_mul]
 rw [key, Nat.mod_eq_of_lt h]
theorem right_in {l : List Int} (h : rightF l = true) : ∀ x ∈ l, 0 ≤ x ∧ x < 4096 := by
 simp only [rightF, Bool.and_eq_true, List.all_eq_true] at h
 intro x hx
 have := h.1 x hx
 simp only [inP, Bool.and_eq_true, decide_eq_true_eq] at this
 exact this
end
section
open Go.RowKit
theorem results_tmp4 {fn : Func} {t u v x : Tmp} (h : fn.results = #[.tmp t, .tmp u, .tmp v, .tmp x]) (tmps : Array Value) (P : Program) (w : World) :
  (results fn tmps).run P w = .ok (.tuple #[tmps.getD t undef, tmps.getD u undef, tmps.getD v undef, tmps.getD x undef]) w := by
 simp [results, h]
set_option maxRecDepth 100000 in
set_option maxHeartbeats 4000000 in
theorem rcRead_any (w : World) (A : Option Addr) (l : List UInt8) (n c : Nat) (hn : l.length = n) (hr : Rd w A (bvs l)) (hA : A = none → n = 0) :
  Calls Tryz.prog 172 #[.slice A n c] w (PartC w l) := by
 by_cases h512 : n = 512
 ·subst h512
  have HN := Lib.hid hn
  have hcl := plC_lt l
  obtain ⟨k, hk⟩ : ∃ k, plC l = k := ⟨_, rfl⟩
  obtain ⟨t, ht⟩ : ∃ t, plT l = t := ⟨_, rfl⟩
  obtain ⟨m, hm⟩ : ∃ m, plN l = m := ⟨_, rfl⟩
  obtain ⟨q, hq⟩ : ∃ q, l.take 4 = q := ⟨_, rfl⟩
  obtain ⟨L, hL⟩ : ∃ L, plL l = L := ⟨_, rfl⟩
  have HKK := Lib.hid hk
  have HT := Lib.hid ht
  have HM := Lib.hid hm
  have HQ := Lib.hid hq
  have HL := Lib.hid hL
  rw [hk] at hcl
  have U : IntKind.i64.wrap (k : Int) = k := by rw [IntKind.wrap_i64]; omega
  clear hn hk ht hm hq hL
  go_enter Tryz.func172, Tryz.ntmps172
  go_wp2_with fail
  refine (newReader_any A l 512 c w HN.out hr hA (by omega)).mono ?_
  rintro e w1 ⟨p, G, rfl, x1, f1, z1, g1⟩
  go_wp2_with fail
  refine (rBytes_ok x1 4 (by rw [HN.out]; omega)).mono ?_
  rintro e w2 ⟨v2, rfl, r2, x2, f2⟩
  have E2 := r2.str
  rw [show l.take 4 = q from HQ.out] at E2
  have F2 : Fr [] w w2 := f1.trans f2 (fun i hi => .inr (by simp at hi; omega))
  clear r2 x1
  go_wp2_with fail
  have cc := rUint_ok x2 8 (by rw [List.length_drop, HN.out]; omega) rfl
  rw [show leN ((l.drop 4).take 8) = m from HM.out, List.drop_drop] at cc
  refine cc.mono ?_
  clear cc
  rintro e w3 ⟨rfl, x3, f3⟩
  have F3 : Fr [] w w3 := F2.trans f3 (fun i hi => .inr (by simp at hi; omega))
  clear x2 E2 F2
  go_wp2_with fail
  have cc := rUint_ok x3 2 (by rw [List.length_drop, HN.out]; omega) rfl
  rw [show leN ((l.drop (4 + 8)).take 2) = k from HKK.out, List.drop_drop] at cc
  refine cc.mono ?_
  clear cc
  rintro e w4 ⟨rfl, x4, f4⟩
  have F4 : Fr [] w w4 := F3.trans f4 (fun i hi => .inr (by simp at hi; omega))
  clear x3 F3
  go_wp2_with fail
  have cc := rUint_ok x4 8 (by rw [List.length_drop, HN.out]; omega) rfl
  rw [show leN ((l.drop (4 + 8 + 2)).take 8) = t from HT.out, List.drop_drop, show 4 + 8 + 2 + 8 = 22 from rfl] at cc
  refine cc.mono ?_
  clear cc
  rintro e w5 ⟨rfl, x5, f5⟩
  have F5 : Fr [] w w5 := F4.trans f5 (fun i hi => .inr (by simp at hi; omega))
  clear x4 F4
  by_cases h64 : 64 < k
  ·have hv : plV l = none := plV_none fun h => by have := h.2.1; rw [HKK.out] at this; omega
   have HV := Lib.hid hv
   clear hv
   go_wp2_with fail
   (try simp only [Exit.inBlock, Exit.then]); refine bodyPost_ret (results_tmp4 rfl _ _ _) rfl ?_
   exact PartC.no HV.out F5
  ·have K64 : (k : Int) ≤ 64 := by omega
   have S5 : w1.heap.size ≤ w5.heap.size := Nat.le_trans f2.size (Nat.le_trans f3.size (Nat.le_trans f4.size f5.size))
   have HL2 := Lib.hid (show intsN (l.drop 22) k = L by rw [← HL.out, plL, HKK.out])
   have hLl : L.length = k := by rw [← HL.out, plL_len, HKK.out]
   have hLi : ∀ x ∈ L, in64 x := by rw [← HL2.out]; exact intsN_in _ _
   have HLL := Lib.hid hLl
   have HLI := Lib.hid hLi
   clear hLl hLi f2 f3 f4 f5
   by_cases hts : 64 ≤ k ∨ t / 2 ^ k = 0
   ·by_cases hk2 : 64 ≤ k
    ·have HTS := Lib.hid hts
     clear hts
     go_wp2_with fail
     have cc := getI_ok x5 k (by omega) (by rw [List.length_drop, HN.out]; omega) (fun g hg => by have := g1 g hg; omega) (fun g hg => (g1 g hg).2.2)
     rw [HL2.out, List.drop_drop] at cc
     refine cc.mono ?_
     clear cc
     rintro e w6 ⟨v6, rfl, r6, x6, f6⟩
     have F6 : Fr [] w w6 := F5.trans f6 (fun i hi => .inr (by simp at hi; omega))
     obtain ⟨A6, c6, rfl, -, -, -, -, -⟩ := r6.shape
     go_wp2_with fail
     have cc := rDone_any x6
     cases hz : allZ (l.drop (22 + 4 * k))
     ·
      rw [doneE, hz] at cc
      have HZ := Lib.hid hz
      clear hz
      refine cc.mono ?_
      clear cc
      rintro e w7 ⟨rfl, rfl⟩
      have HV := Lib.hid (show plV l = none from plV_none fun h => (by have := h.2.2.2.1; rw [HKK.out, HZ.out] at this; cases this))
      go_wp2_with fail
      (try simp only [Exit.inBlock, Exit.then]); refine bodyPost_ret (results_tmp4 rfl _ _ _) rfl ?_
      exact PartC.no HV.out F6
     ·
      rw [doneE, hz] at cc
      have HZ := Lib.hid hz
      clear hz
      refine cc.mono ?_
      clear cc
      rintro e w7 ⟨rfl, rfl⟩
      cases hqe : (q == [80, 76, 65, 78])
      ·
       have HQE := Lib.hid hqe
       have HV := Lib.hid (show plV l = none from plV_none fun h => (by have := h.2.2.2.2.1; rw [HQ.out] at this; have h2 := HQE.out; rw [this] at h2; cases h2))
       go_wp2_with fail
       (try simp only [Exit.inBlock, Exit.then]); refine bodyPost_ret (results_tmp4 rfl _ _ _) rfl ?_
       exact PartC.no HV.out F6
      ·
       have HQE := Lib.hid hqe
       by_cases hm0 : m = 0
       ·
        subst hm0
        have HV := Lib.hid (show plV l = none from plV_none fun h => (h.2.2.2.2.2.1 HM.out))
        go_wp2_with fail
        (try simp only [Exit.inBlock, Exit.then]); refine bodyPost_ret (results_tmp4 rfl _ _ _) rfl ?_
        exact PartC.no HV.out F6
       ·
        have hmm : ((m : Int) == 0) = false := by rw [beq_eq_false_iff_ne]; omega
        have HM0 := Lib.hid hm0
        clear hm0
        go_wp2_with fail
        have cc := rcRight_any A6 L k c6 w6 HLL.out r6.rd.1 HLI.out (by omega)
        cases hrt : rightF L
        ·
         rw [hrt] at cc
         have HR := Lib.hid hrt
         clear hrt
         refine cc.mono ?_
         clear cc
         rintro e w8 ⟨rfl, f8⟩
         have HV := Lib.hid (show plV l = none from plV_none fun h => (by have := h.2.2.2.2.2.2; rw [HL.out, HR.out] at this; cases this))
         go_wp2_with fail
         (try simp only [Exit.inBlock, Exit.then]); refine bodyPost_ret (results_tmp4 rfl _ _ _) rfl ?_
         exact PartC.no HV.out (F6.trans_nil f8)
        ·
         rw [hrt] at cc
         have HR := Lib.hid hrt
         clear hrt
         refine cc.mono ?_
         clear cc
         rintro e w8 ⟨rfl, f8⟩
         have HV := Lib.hid (show plV l = some (m, L, t) by
          rw [plV_some HN.out, HM.out, HL.out, HT.out]
          unfold plOk
          rw [HKK.out, HM.out, HT.out, HQ.out, HL.out]
          exact ⟨by omega, HTS.out, HZ.out, eq_of_beq HQE.out, HM0.out, HR.out⟩)
         go_wp2_with fail
         (try simp only [Exit.inBlock, Exit.then]); refine bodyPost_ret (results_tmp4 rfl _ _ _) rfl ?_
         exact PartC.yes HV.out HLL.out ((r6.keep_nil f8).mono F5.size) (F6.trans_nil f8)
    ·replace hk2 : k < 64 := by omega
     have HTS := Lib.hid hts
     have d : ((t : Int) / 2 ^ k != 0) = false := by
      rcases hts with h | h
      ·omega
      ·have : (t : Int) / 2 ^ k = ((t / 2 ^ k : Nat) : Int) := by push_cast; rfl
       rw [this, h]
       rfl
     clear hts
     go_wp2_with fail
     have cc := getI_ok x5 k (by omega) (by rw [List.length_drop, HN.out]; omega) (fun g hg => by have := g1 g hg; omega) (fun g hg => (g1 g hg).2.2)
     rw [HL2.out, List.drop_drop] at cc
     refine cc.mono ?_
     clear cc
     rintro e w6 ⟨v6, rfl, r6, x6, f6⟩
     have F6 : Fr [] w w6 := F5.trans f6 (fun i hi => .inr (by simp at hi; omega))
     obtain ⟨A6, c6, rfl, -, -, -, -, -⟩ := r6.shape
     go_wp2_with fail
     have cc := rDone_any x6
     cases hz : allZ (l.drop (22 + 4 * k))
     ·
      rw [doneE, hz] at cc
      have HZ := Lib.hid hz
      clear hz
      refine cc.mono ?_
      clear cc
      rintro e w7 ⟨rfl, rfl⟩
      have HV := Lib.hid (show plV l = none from plV_none fun h => (by have := h.2.2.2.1; rw [HKK.out, HZ.out] at this; cases this))
      go_wp2_with fail
      (try simp only [Exit.inBlock, Exit.then]); refine bodyPost_ret (results_tmp4 rfl _ _ _) rfl ?_
      exact PartC.no HV.out F6
     ·
      rw [doneE, hz] at cc
      have HZ := Lib.hid hz
      clear hz
      refine cc.mono ?_
      clear cc
      rintro e w7 ⟨rfl, rfl⟩
      cases hqe : (q == [80, 76, 65, 78])
      ·
       have HQE := Lib.hid hqe
       have HV := Lib.hid (show plV l = none from plV_none fun h => (by have := h.2.2.2.2.1; rw [HQ.out] at this; have h2 := HQE.out; rw [this] at h2; cases h2))
       go_wp2_with fail
       (try simp only [Exit.inBlock, Exit.then]); refine bodyPost_ret (results_tmp4 rfl _ _ _) rfl ?_
       exact PartC.no HV.out F6
      ·
       have HQE := Lib.hid hqe
       by_cases hm0 : m = 0
       ·
        subst hm0
        have HV := Lib.hid (show plV l = none from plV_none fun h => (h.2.2.2.2.2.1 HM.out))
        go_wp2_with fail
        (try simp only [Exit.inBlock, Exit.then]); refine bodyPost_ret (results_tmp4 rfl _ _ _) rfl ?_
        exact PartC.no HV.out F6
       ·
        have hmm : ((m : Int) == 0) = false := by rw [beq_eq_false_iff_ne]; omega
        have HM0 := Lib.hid hm0
        clear hm0
        go_wp2_with fail
        have cc := rcRight_any A6 L k c6 w6 HLL.out r6.rd.1 HLI.out (by omega)
        cases hrt : rightF L
        ·
         rw [hrt] at cc
         have HR := Lib.hid hrt
         clear hrt
         refine cc.mono ?_
         clear cc
         rintro e w8 ⟨rfl, f8⟩
         have HV := Lib.hid (show plV l = none from plV_none fun h => (by have := h.2.2.2.2.2.2; rw [HL.out, HR.out] at this; cases this))
         go_wp2_with fail
         (try simp only [Exit.inBlock, Exit.then]); refine bodyPost_ret (results_tmp4 rfl _ _ _) rfl ?_
         exact PartC.no HV.out (F6.trans_nil f8)
        ·
         rw [hrt] at cc
         have HR := Lib.hid hrt
         clear hrt
         refine cc.mono ?_
         clear cc
         rintro e w8 ⟨rfl, f8⟩
         have HV := Lib.hid (show plV l = some (m, L, t) by
          rw [plV_some HN.out, HM.out, HL.out, HT.out]
          unfold plOk
          rw [HKK.out, HM.out, HT.out, HQ.out, HL.out]
          exact ⟨by omega, HTS.out, HZ.out, eq_of_beq HQE.out, HM0.out, HR.out⟩)
         go_wp2_with fail
         (try simp only [Exit.inBlock, Exit.then]); refine bodyPost_ret (results_tmp4 rfl _ _ _) rfl ?_
         exact PartC.yes HV.out HLL.out ((r6.keep_nil f8).mono F5.size) (F6.trans_nil f8)
   ·have hv : plV l = none := plV_none fun h => by have := h.2.2.1; rw [HKK.out, HT.out] at this; exact hts this
    have HV := Lib.hid hv
    have hk2 : k < 64 := by omega
    have d : ((t : Int) / 2 ^ k != 0) = true := by
     have h : t / 2 ^ k ≠ 0 := fun h => hts (.inr h)
     have : (t : Int) / 2 ^ k = ((t / 2 ^ k : Nat) : Int) := by push_cast; rfl
     rw [this]
     simp only [bne_iff_ne]
     omega
    clear hv
    go_wp2_with fail
    (try simp only [Exit.inBlock, Exit.then]); refine bodyPost_ret (results_tmp4 rfl _ _ _) rfl ?_
    exact PartC.no HV.out F5
 ·have hv : plV l = none := plV_none fun h => by omega
  have HV := Lib.hid hv
  have d : ((n : Int) == 512) = false := by rw [beq_eq_false_iff_ne]; omega
  clear hv hn
  go_enter Tryz.func172, Tryz.ntmps172
  go_wp2_with fail
  (try simp only [Exit.inBlock, Exit.then]); refine bodyPost_ret (results_tmp4 rfl _ _ _) rfl ?_
  exact PartC.no HV.out (Fr.refl _ _)
end
section
open Go.RowKit
set_option maxRecDepth 100000 in
set_option maxHeartbeats 8000000 in
end
section
open Go.RowKit
structure RdR (w : World) (A : Option Addr) (n c : Nat) (rs : List (Int × List UInt8)) : Prop where
 len : rs.length = n
 cell : 0 < n → ∃ g o, A = some ⟨g, o, none⟩ ∧ g < w.heap.size ∧ ∀ i (h : i < rs.length), in64 rs[i].1 ∧ w.cell? ⟨g, o + i * 2, none⟩ = some (.int .i64 rs[i].1) ∧ ∃ v, w.cell? ⟨g, o + i * 2 + 1, none⟩ = some v ∧ SlB w v rs[i].2 ∧ rs[i].2.length ≤ 140737488355328
 nil : A = none → n = 0
 le : n ≤ c
 reach : n * 32 ≤ 140737488351232
theorem RdR.keep_nil {w w' : World} {A : Option Addr} {n c : Nat} {rs : List (Int × List UInt8)} (h : RdR w A n c rs) (f : Fr [] w w') : RdR w' A n c rs := by
 refine ⟨h.len, fun hn => ?_, h.nil, h.le, h.reach⟩
 obtain ⟨g, o, e, hg, hc⟩ := h.cell hn
 refine ⟨g, o, e, Nat.lt_of_lt_of_le hg f.size, fun i hi => ?_⟩
 obtain ⟨h1, h2, v, h3, h4, h5⟩ := hc i hi
 exact ⟨h1, f.cell (by simp) h2, v, f.cell (by simp) h3, h4.keep_nil f, h5⟩
theorem slBB : SlT Tryz.prog 42 27 1 24 (.slice none 0 0) := ⟨Tryz.underlying42, by kernel_rfl, rfl, by decide, by decide⟩
structure BRow (w : World) (B : Nat) (v : Value) (vs : List Value) (bs : List (List UInt8)) : Prop where
 row : Row w B 27 1 v bs.length vs
 each : ∀ i (h : i < vs.length) (h' : i < bs.length), Row w B 5 1 vs[i] bs[i].length (bvs bs[i])
theorem BRow.vlen {w : World} {B : Nat} {v : Value} {vs : List Value} {bs : List (List UInt8)} (h : BRow w B v vs bs) : vs.length = bs.length := by have := h.row.1; omega
theorem BRow.nil (w : World) (B : Nat) : BRow w B (.slice none 0 0) [] [] := ⟨Row.nil _ _ _ _, fun i h => by simp at h⟩
theorem BRow.keep_nil {w w' : World} {B : Nat} {v : Value} {vs : List Value} {bs : List (List UInt8)} (h : BRow w B v vs bs) (f : Fr [] w w') : BRow w' B v vs bs :=
 ⟨h.row.keep_nil f, fun i h1 h2 => (h.each i h1 h2).keep_nil f⟩
theorem BRow.keep_row {w w' : World} {B B' : Nat} {v v' : Value} {vs xs : List Value} {bs : List (List UInt8)} {e : TypeId} {s n : Nat} (h : BRow w B v vs bs) (hr : Row w B' e s v' n xs) (f : Fr v'.ownBlock.toList w w') (h1 : 27 ≠ e) (h2 : 5 ≠ e) : BRow w' B v vs bs :=
 ⟨h.row.keep f (fun g hg hm => h.row.ne_rowR hr h1 g hg (mem_own.1 hm)), fun i h1 h3 => (h.each i h1 h3).keep f (fun g hg hm => (h.each i h1 h3).ne_rowR hr h2 g hg (mem_own.1 hm))⟩
theorem Row.slb {w : World} {B : Nat} {v : Value} {l : List UInt8} (h : Row w B 5 1 v l.length (bvs l)) : SlB w v l := by
 obtain ⟨A, c, rfl, hc, -, -, -, -⟩ := h.shape
 exact ⟨A, c, rfl, h.rd.1, h.rd.2.2, hc⟩
theorem BRow.brd {w : World} {B : Nat} {A : Option Addr} {n c : Nat} {vs : List Value} {bs : List (List UInt8)} (h : BRow w B (.slice A n c) vs bs) : BRd w A vs bs :=
 ⟨h.row.rd.1, h.vlen, fun i h1 h2 => (h.each i h1 h2).slb⟩
theorem BRow.snoc {w w' : World} {B : Nat} {v v' u : Value} {vs : List Value} {bs : List (List UInt8)} {b : List UInt8} (h : BRow w B v vs bs) (hu : Row w B 5 1 u b.length (bvs b)) (f : Fr v.ownBlock.toList w w') (hr : Row w' B 27 1 v' (bs.length + 1) (vs ++ [u])) : BRow w' B v' (vs ++ [u]) (bs ++ [b]) := by
 have kp : ∀ {x : Value} {l : List UInt8}, Row w B 5 1 x l.length (bvs l) → Row w' B 5 1 x l.length (bvs l) := fun hx =>
  hx.keep f (fun g hg hm => hx.ne_rowR h.row (by decide) g hg (mem_own.1 hm))
 refine ⟨by rw [List.length_append]; exact hr, fun i h1 h2 => ?_⟩
 have hv := h.vlen
 by_cases hi : i < vs.length
 ·rw [List.getElem_append_left hi]
  have hb : (bs ++ [b])[i] = bs[i] := List.getElem_append_left (by omega)
  rw [hb]
  exact kp (h.each i hi (by omega))
 ·have hiv : i = vs.length := by rw [List.length_append, List.length_singleton] at h1; omega
  subst hiv
  rw [List.getElem_append_right (Nat.le_refl _)]
  have hb : (bs ++ [b])[vs.length] = b := by rw [List.getElem_append_right (by omega)]; simp
  rw [hb]
  simpa using kp hu
theorem rowset {w : World} {B g n c : Nat} {e : TypeId} {x : Value} {r : List Value} (h : Row w B e 1 (.slice (some ⟨g, 0, none⟩) n c) n (x :: r)) (y : Value) :
  w.cell? ⟨g, 0, none⟩ = some x ∧ w.frozen? ⟨g, 0, none⟩ = false ∧ Row (w.setCell ⟨g, 0, none⟩ y) B e 1 (.slice (some ⟨g, 0, none⟩) n c) n (y :: r) := by
 rcases h.2 with ⟨e, _⟩ | ⟨g', cap, cur, fz, e, hb, hg, hf, hnc, hcm, hcs, ht⟩
 ·cases e
 ·cases e
  have hn : r.length + 1 = n := by have := h.1; rw [List.length_cons, Nat.mul_one] at this; exact this
  have hpos : 0 < cur.size := by omega
  obtain ⟨lc⟩ := cur
  match lc, hpos with
  | z :: rest, _ =>
   have e1 : z = x ∧ rest.take r.length = r := by
    rw [Nat.mul_one, ← hn] at ht
    simp only [List.take_succ_cons, List.cons.injEq] at ht
    exact ht
   refine ⟨?_, ?_, ?_⟩
   ·rw [cell_of_row w g 0 _ _ _ hg, e1.1]; rfl
   ·have := hf 0 (by simp)
    simp only [World.frozen?, hg]
    simpa using this
   ·refine ⟨by simp; omega, .inr ⟨g, c, (y :: rest).toArray, fz, rfl, hb, ?_, by simpa using hf, hnc, hcm, by simpa using hcs, ?_⟩⟩
    ·simp [World.setCell, Array.getElem?_modify, hg]
    ·rw [Nat.mul_one, ← hn]
     simp only [List.take_succ_cons]
     rw [e1.2]
theorem BRow.set0 {w : World} {B g n c : Nat} {x y : Value} {vs : List Value} {b d : List UInt8} {bs : List (List UInt8)} (h : BRow w B (.slice (some ⟨g, 0, none⟩) n c) (x :: vs) (b :: bs)) (hy : Row w B 5 1 y d.length (bvs d)) :
  BRow (w.setCell ⟨g, 0, none⟩ y) B (.slice (some ⟨g, 0, none⟩) n c) (y :: vs) (d :: bs) := by
 have hn : n = bs.length + 1 := by have := h.row.rd.2.1; simpa using this
 have hrow := h.row
 have kp : ∀ {z : Value} {l : List UInt8}, Row w B 5 1 z l.length (bvs l) → Row (w.setCell ⟨g, 0, none⟩ y) B 5 1 z l.length (bvs l) := fun hx =>
  hx.keep ((Fr.refl [g] w).setCell (.inl (by simp)) y) (fun g' hg hm => hx.ne_rowR hrow (by decide) g' hg (by rw [List.mem_singleton.1 hm]; rfl))
 subst hn
 refine ⟨(rowset hrow y).2.2, fun i h1 h2 => ?_⟩
 cases i with
 | zero => exact kp hy
 | succ i =>
  have := h.each (i + 1) (by simpa using h1) (by simpa using h2)
  simp only [List.getElem_cons_succ] at this ⊢
  exact kp this
end
end Go.Proofs.YtbanogfljpkbkaaGreatDoor
