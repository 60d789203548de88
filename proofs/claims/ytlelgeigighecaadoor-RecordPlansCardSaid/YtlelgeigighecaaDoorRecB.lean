/-
  Layer 13 (record): Mark, ReadMark and their references.
-/
import Derived.Test.YtlelgeigighecaaDoorRecA
set_option linter.unusedSimpArgs false
set_option linter.unusedVariables false
set_option linter.unnecessarySimpa false
namespace Go.Proofs.YtlelgeigighecaaDoor
open Go.RowKit

set_option maxHeartbeats 400000 in
theorem xrcNumber_any (n x : Nat) (w : World) (hn : n ≤ 8) (hx : x < 18446744073709551616) : Calls Tryd.prog 76 #[.int .i64 n, .int .u64 x] w fun e w' => ∃ v, e = .returned v ∧ Row w' w.heap.size 5 1 v n (bvs (leB n x)) ∧ Fr [] w w' := by
  go_enter Tryd.func76, Tryd.ntmps76
  go_wp2_with fail
  go_loopw [5, 6] (fun v i wr => ∃ k : Nat, k ≤ n ∧ i = .int .i64 k ∧ Row wr w.heap.size 5 1 v k (bvs (leB k x)) ∧ Fr [] w wr) (fun _ i _ => n - (intOf i).toNat)
  case atStart => exact ⟨0, Nat.zero_le _, rfl, Row.nil _ _ _ _, Fr.refl _ _⟩
  case round =>
    obtain ⟨k, hk, rfl, r4, F4⟩ := hrel
    obtain ⟨A4, cap4, rfl, -, -, -, -, -⟩ := r4.shape
    by_cases hlt : k < n
    · go_wp2_with
        (first
          | (at_builtin; refine wpList_app rfl rfl slB w.heap.size _ k (bvs (leB k x)) rfl (r4.alloc _) _ 1 1 [_] rfl rfl (Rd.one _ _ _) (by intro u hu; rw [List.mem_singleton.1 hu]; rfl) (fun h => by cases h) (by omega) (by have := F4.size; simp; omega) ?_; intro v5 w5 q1 q2 q3 q4))
      refine ⟨⟨k + 1, by omega, by go_num, ?_, (F4.alloc _).trans q2 (fun i hi => .inr (r4.lt i (mem_own.1 hi)).1)⟩, by simp [intOf]; omega⟩
      rw [leB_byte2, show ∀ x : UInt8, [bv x] = bvs [x] from fun _ => rfl, ← bvs_append, ← leB_succ] at q1
      exact q1
    · obtain rfl : k = n := by omega
      go_wp2_with fail
      go_ret
      exact ⟨_, rfl, r4, F4⟩
set_option maxHeartbeats 400000 in
theorem xrcValue_any (A : Option Addr) (l : List UInt8) (n c : Nat) (w : World) (hn : l.length = n) (hr : Rd w A (bvs l)) (h8 : n ≤ 8) : Calls Tryd.prog 78 #[.slice A n c] w fun e w' => e = .returned (.int .u64 (leN l)) ∧ w = w' := by
  have HL := Lib.hid hn
  clear hn
  go_enter Tryd.func78, Tryd.ntmps78
  go_wp2_with fail
  go_loop [3, 4] (fun x i => ∃ k : Nat, k ≤ n ∧ i = .int .i64 k ∧ x = .int .u64 (leN (l.take k))) (fun _ i => n - (intOf i).toNat)
  case atStart => exact ⟨0, Nat.zero_le _, rfl, rfl⟩
  case round =>
    obtain ⟨k, hk, rfl, rfl⟩ := hrel
    by_cases hlt : k < n
    · have hk' : k < l.length := by rw [HL.out]; exact hlt
      obtain ⟨g, o, rfl, hc⟩ := hr.byte hk'
      have hck := hc k hk'
      have E := Lib.hid (or_byte (leN (l.take k)) l[k].toNat k (leN_take_lt l k) l[k].toNat_lt (by omega))
      have T := Lib.hid (leN_take_succ l k hk')
      clear hc
      go_wp2
      go_round
      case rel => exact ⟨k + 1, by omega, by go_num, by rw [E.out, T.out]⟩
      case measure => simp [intOf]; omega
    · have hk2 : k = n := by omega
      have E : l.take k = l := by rw [hk2, ← HL.out, List.take_length]
      have HE := Lib.hid E
      clear E hk2
      go_wp2
      go_ret
      exact ⟨by rw [HE.out]; rfl, rfl⟩

theorem xrcFill_any {w : World} {B : Nat} {v : Value} {q : List UInt8} {n : Nat} (hn : q.length = n) (h : Row w B 5 1 v n (bvs q)) (hq : n ≤ 512) (hB : B ≤ w.heap.size) :
    Calls Tryd.prog 77 #[v] w fun e w' => ∃ r, e = .returned r ∧ Row w' B 5 1 r 512 (bvs (pad512 q)) ∧ Fr v.ownBlock.toList w w' := by
  obtain ⟨A, cap, rfl, -, -, -, -, -⟩ := h.shape
  have HN := Lib.hid hn
  clear hn
  go_enter Tryd.func77, Tryd.ntmps77
  go_wp2_with (at_builtin; refine wpList_appz rfl rfl slB rfl rfl Tryd.underlying3 B _ n (bvs q) rfl h .i64 (512 - n) _ rfl (by omega) (by omega) hB ?_; intro v2 w2 g1 g2 g3)
  go_ret
  refine ⟨_, rfl, ?_, g2⟩
  rw [show List.replicate (512 - n) (Value.int .u8 0) = bvs (List.replicate (512 - n) 0) by simp [bvs, bv], ← bvs_append, show n + (512 - n) = 512 by omega] at g1
  rw [pad512, HN.out]
  exact g1

theorem wpList_st1 {P : Program} {ops : Array Oper} {rest : List Oper} {o : Oper} {a : Act} {w : World} {Q : Exit → Act → World → Prop} {ty : TypeId} {x y : Operand} (hw : Region.wanted o (yielded ops a.tmps) = true) (ho : o.op = .store ty x y) (hsz : (P.info? ty).map (·.size) = some 1) (g i : Nat) (hx : a.eval x = .pointer (some ⟨g, i, none⟩)) (v : Value) (hy : a.eval y = v) (hv : v.cells = #[v]) (h1 : v.oneCell' = true)
    {old : Value} (hc : w.cell? ⟨g, i, none⟩ = some old) (hz : w.frozen? ⟨g, i, none⟩ = false) (h : wpList P ops Q rest (a.put o.dst undef) (w.setCell ⟨g, i, none⟩ v)) : wpList P ops Q (o :: rest) a w :=
  wpList_want hw fun _ hK => wp_st1 ho hsz g i hx v hy hv h1 hc hz (hK _ _ h)
/-- Mark. -/
def MarkC (w : World) (n : Nat) (e : Ending) (w' : World) : Prop :=
  ∃ v, e = .returned (.tuple #[v, .int .i64 (errG (n != 0) 1)]) ∧ Row w' w.heap.size 5 1 v (if n = 0 then 0 else 512) (bvs (if n = 0 then [] else markB n)) ∧ Fr [] w w'
set_option maxRecDepth 100000 in
set_option maxHeartbeats 4000000 in
theorem rcMark_any (w : World) (n : Nat) (hn : n < 18446744073709551616) (hK : KG w) : Calls Tryd.prog 32 #[.int .u64 n] w (MarkC w n) := by
  by_cases h0 : n = 0
  · subst h0
    go_enter Tryd.func32, Tryd.ntmps32
    go_wp2_with fail
    go_ret2
    exact ⟨_, rfl, Row.nil _ _ _ _, (Fr.refl _ _).alloc _⟩
  · have d : ((n : Int) == 0) = false := by rw [beq_eq_false_iff_ne]; omega
    have H0 := Lib.hid h0
    clear h0
    go_enter Tryd.func32, Tryd.ntmps32
    go_upto_region 3 with fail
    have b1 := Blk.new w 22 #[.int .u64 (n : Int)]
    have F1 : Fr [] w (w.alloc (.cells #[.int .u64 (n : Int)] 22)) := (Fr.refl _ _).alloc _
    have s1 : (w.alloc (.cells #[.int .u64 (n : Int)] 22)).heap.size = w.heap.size + 1 := by simp
    generalize w.alloc (.cells #[.int .u64 (n : Int)] 22) = w1 at *
    obtain ⟨g1, hg1⟩ : ∃ g, w.heap.size = g := ⟨_, rfl⟩
    rw [hg1] at b1 s1 ⊢
    have HS1 := Lib.hid (And.intro hg1 s1)
    clear hg1 s1
    go_upto_region 4 with
      (first
        | (refine wpList_st1 rfl rfl (by kernel_rfl) w1.heap.size 0 rfl (.func (.func 73) #[] #[.pointer (some ⟨g1, 0, none⟩)]) rfl rfl rfl (old := .nilFunc) ((Blk.new w1 94 #[.nilFunc]).cell 0) ((Blk.new w1 94 #[.nilFunc]).frozen 0) ?_))
    have b2 := (Blk.new w1 94 #[.nilFunc]).set_ 0 (.func (.func 73) #[] #[.pointer (some ⟨g1, 0, none⟩)])
    have f2 : Fr [] w1 ((w1.alloc (.cells #[.nilFunc] 94)).setCell ⟨w1.heap.size, 0, none⟩ (.func (.func 73) #[] #[.pointer (some ⟨g1, 0, none⟩)])) := ((Fr.refl _ _).alloc _).setCell (.inr (Nat.le_refl _)) _
    have s2 : ((w1.alloc (.cells #[.nilFunc] 94)).setCell ⟨w1.heap.size, 0, none⟩ (.func (.func 73) #[] #[.pointer (some ⟨g1, 0, none⟩)])).heap.size = w1.heap.size + 1 := by simp [World.setCell]
    generalize (w1.alloc (.cells #[.nilFunc] 94)).setCell ⟨w1.heap.size, 0, none⟩ (.func (.func 73) #[] #[.pointer (some ⟨g1, 0, none⟩)]) = w2 at *
    replace b2 : Blk w2 w1.heap.size 94 #[.func (.func 73) #[] #[.pointer (some ⟨g1, 0, none⟩)]] := b2
    obtain ⟨g2, hg2⟩ : ∃ g, w1.heap.size = g := ⟨_, rfl⟩
    rw [hg2] at b2 s2 ⊢
    have F2 := F1.trans_nil f2
    replace b1 := b1.keep_nil f2
    have HG := Lib.hid (And.intro hg2 s2)
    clear hg2 s2 F1 f2
    have c2 := b2.cell 0
    simp at c2
    go_wp2_with fail
    refine (rcBlock_rcMark1 w2 g1 (markR n) (by rw [markR_len]; omega) (fun wx p B v f _ _ h => rcMark1_ok h hn (b1.keep_nil f))).mono ?_
    rintro e w3 ⟨r, rfl, r3, f3⟩
    have F3 := F2.trans_nil f3
    replace b1 := b1.keep_nil f3
    replace b2 := b2.keep_nil f3
    obtain ⟨A3, cap3, rfl, hc3, -, rd3, -, -⟩ := r3.shape
    have n3 := r3.rd.2.2
    have rd12 : Rd w3 A3 (bvs (markR n)) := by
      have := rd3.take 12
      rw [← bvs_take, pad512, List.take_left' (markR_len n)] at this
      exact this
    have K12 : (12 : Int) ≤ cap3 := by omega
    go_wp2_with fail
    refine (sum_any A3 (markR n) 12 cap3 w3 (markR_len n) rd12 (fun h => absurd (n3 h) (by omega)) (by omega) (hK.keep F3)).mono ?_
    rintro e w4 ⟨rfl, f4⟩
    have F4 := F3.trans_nil f4
    replace b1 := b1.keep_nil f4
    replace b2 := b2.keep_nil f4
    obtain ⟨D, hD⟩ : ∃ D, shaSum (markR n) = D := ⟨_, rfl⟩
    have hdl : D.length = 32 := by rw [← hD, shaSum_length]
    rw [hD]
    have HDD := Lib.hid (fun _ : Unit => hD)
    have HDL := Lib.hid hdl
    clear hD hdl f3 f4 r3 rd3 rd12 F2 F3 c2
    go_wp2_with
      (first
        | (refine wpList_alS stA32 (o := ⟨some 5, _, _, _, _, _⟩) rfl rfl ?_; intro wa ha fa za; have ZA := Lib.hid za; clear za; obtain ⟨g5, hgg⟩ : ∃ g, w4.heap.size = g := ⟨_, rfl⟩; rw [hgg] at ha; rw [hgg]; have HG5 := Lib.hid hgg; clear hgg)
        | (refine wpList_stB stA32 rfl rfl g5 rfl (bvs D) rfl (by rw [bvs_length, HDL.out]) (bvs_one _) (bvs (zB 32)) rfl ha ?_; intro wb hb fb zb; have ZB := Lib.hid zb; clear zb))
    have f5 : Fr [] w4 wb := fa.trans fb (fun i hi => .inr (by have := HG5.out; simp at hi; omega))
    have F5 := F4.trans_nil f5
    replace b1 := b1.keep_nil f5
    replace b2 := b2.keep_nil f5
    refine (rcBlock_rcMark2 wb g2 g5 (markR n ++ D) (by rw [List.length_append, markR_len, HDL.out]; omega) (fun wx p B v f _ _ h => rcMark2_ok h hn (b1.keep_nil f) 94 (b2.keep_nil f) (by decide) (by decide) (hb.keep_nil f) HDL.out)).mono ?_
    rintro e w6 ⟨r, rfl, r6, f6⟩
    obtain ⟨A6, cap6, rfl, -, -, -, -, -⟩ := r6.shape
    go_wp2_with fail
    go_ret2
    have h0 := H0.out
    refine ⟨_, by rw [show (n != 0) = true from by simpa using h0]; rfl, ?_, F5.trans_nil f6⟩
    rw [if_neg h0, if_neg h0, markB, HDD.out ()]
    exact r6.mono F5.size

set_option maxRecDepth 100000 in
set_option maxHeartbeats 4000000 in
theorem xrcMark_any (w : World) (n : Nat) (hn : n < 18446744073709551616) : Calls Tryd.prog 33 #[.int .u64 n] w (MarkC w n) := by
  by_cases h0 : n = 0
  · subst h0
    go_enter Tryd.func33, Tryd.ntmps33
    go_wp2_with fail
    go_ret2
    exact ⟨_, rfl, Row.nil _ _ _ _, Fr.refl _ _⟩
  · have d : ((n : Int) == 0) = false := by rw [beq_eq_false_iff_ne]; omega
    have H0 := Lib.hid h0
    clear h0
    have kc := fun (w : World) (C : Array Value) (n c : Nat) => Lib.run_convert_bytes_const (P := Tryd.prog) w 28 5 C n c Tryd.underlying28 Tryd.underlying5
    have fa : Fr [] w (w.alloc (.cells (bvs markM).toArray 5 (4, 5))) := (Fr.refl _ _).alloc _
    have rm := Row.new w (bvs markM).toArray 5 1 4 (4, 5) (free_end _ _) (by unfold maxLen; omega) rfl (Nat.le_refl _)
    go_enter Tryd.func33, Tryd.ntmps33
    go_wp2_with fail
    refine (xrcNumber_any 8 n _ (by omega) hn).mono ?_
    rintro e w4 ⟨v4, rfl, r4, f4⟩
    obtain ⟨A4, cap4, rfl, -, -, -, -, -⟩ := r4.shape
    have R4 := rm.keep_nil f4
    have F4 := fa.trans_nil f4
    clear rm f4 fa kc
    go_wp2_with
      (first
        | (at_builtin; refine wpList_app rfl rfl slB w.heap.size _ 4 (bvs markM) rfl R4 _ 8 cap4 (bvs (leB 8 n)) rfl (by rw [bvs_length, leB_length]) r4.rd.1 (bvs_one _) r4.rd.2.2 (by omega) F4.size ?_; intro v5 w5 q1 q2 q3 q4))
    have F5 := F4.trans q2 (fun k hk => .inr (R4.lt k (mem_own.1 hk)).1)
    rw [← bvs_append, show 4 + 8 = 12 from rfl, show markM ++ leB 8 n = markR n from rfl] at q1
    obtain ⟨A5, cap5, rfl, -, -, rd5, -, -⟩ := q1.shape
    have R := q1
    have n5 := q1.rd.2.2
    clear R4 r4 F4 q1 q2 q3 q4
    refine (xSum_any A5 (markR n) 12 cap5 w5 (markR_len n) rd5 n5 (by omega)).mono ?_
    rintro e w6 ⟨rfl, f6⟩
    have F6 := F5.trans_nil f6
    replace R := R.keep_nil f6
    obtain ⟨D, hD⟩ : ∃ D, shaSum (markR n) = D := ⟨_, rfl⟩
    have hdl : D.length = 32 := by rw [← hD, shaSum_length]
    rw [hD]
    have HDD := Lib.hid (fun _ : Unit => hD)
    have HDL := Lib.hid hdl
    clear hD hdl f6 F5 rd5 n5
    go_wp2_with
      (first
        | (refine wpList_alS stA32 (o := ⟨some 5, _, _, _, _, _⟩) rfl rfl ?_; intro wa ha fa za; have ZA := Lib.hid za; clear za; obtain ⟨g5, hgg⟩ : ∃ g, w6.heap.size = g := ⟨_, rfl⟩; rw [hgg] at ha; rw [hgg]; have HG5 := Lib.hid hgg; clear hgg)
        | (refine wpList_stB stA32 rfl rfl g5 rfl (bvs D) rfl (by rw [bvs_length, HDL.out]) (bvs_one _) (bvs (zB 32)) rfl ha ?_; intro wb hb fb zb; have ZB := Lib.hid zb; clear zb; have f7 : Fr [] w6 wb := fa.trans fb (fun i hi => .inr (by have := HG5.out; simp at hi; omega)); have F7 := F6.trans_nil f7; have R7 := R.keep_nil f7)
        | (at_builtin; refine wpList_app rfl rfl slB w.heap.size _ 12 (bvs (markR n)) rfl R7 _ 32 32 (bvs D) rfl (by rw [bvs_length, HDL.out]) (Rd.ofBm hb) (bvs_one _) (fun h => by cases h) (by omega) F7.size ?_; intro v8 w8 q1 q2 q3 q4))
    have F8 := F7.trans q2 (fun k hk => .inr (R7.lt k (mem_own.1 hk)).1)
    rw [← bvs_append, show 12 + 32 = 44 from rfl] at q1
    have hl : (markR n ++ D).length = 44 := by rw [List.length_append, markR_len, HDL.out]
    obtain ⟨A8, cap8, rfl, -, -, -, -, -⟩ := q1.shape
    go_wp2_with fail
    refine (xrcFill_any hl q1 (by omega) F8.size).mono ?_
    rintro e w9 ⟨r, rfl, r9, f9⟩
    obtain ⟨A9, cap9, rfl, -, -, -, -, -⟩ := r9.shape
    go_wp2_with fail
    go_ret2
    have h0 := H0.out
    refine ⟨_, by rw [show (n != 0) = true from by simpa using h0]; rfl, ?_, F8.trans f9 (fun k hk => .inr (q1.lt k (mem_own.1 hk)).1)⟩
    rw [if_neg h0, if_neg h0, markB, HDD.out ()]
    exact r9
end Go.Proofs.YtlelgeigighecaaDoor
