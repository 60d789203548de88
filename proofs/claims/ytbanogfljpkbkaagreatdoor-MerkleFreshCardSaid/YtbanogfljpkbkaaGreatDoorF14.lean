/-
  Texts of this claim, one behind the other: RecA, RecB, CodI, RecC.
-/
import Derived.Test.YtbanogfljpkbkaaGreatDoorF9
import Derived.Test.YtbanogfljpkbkaaGreatDoorF13
set_option linter.unusedSimpArgs false
set_option linter.unusedVariables false
set_option linter.unnecessarySimpa false
namespace Go.Proofs.YtbanogfljpkbkaaGreatDoor
section
open Go.RowKit
def pad512 (q : List UInt8) : List UInt8 := q ++ List.replicate (512 - q.length) 0
theorem pad512_len {q : List UInt8} (h : q.length ≤ 512) : (pad512 q).length = 512 := by rw [pad512, List.length_append, List.length_replicate]; omega
def markM : List UInt8 := [77, 65, 82, 75]
def doneM : List UInt8 := [68, 79, 78, 69]
def planM : List UInt8 := [80, 76, 65, 78]
def markR (n : Nat) : List UInt8 := markM ++ leB 8 n
theorem markR_len (n : Nat) : (markR n).length = 12 := by simp [markR, markM, leB_length]
def markB (n : Nat) : List UInt8 := pad512 (markR n ++ shaSum (markR n))
theorem markB_len (n : Nat) : (markB n).length = 512 := pad512_len (by rw [List.length_append, markR_len, shaSum_length]; omega)
theorem Rd.ofBm {w : World} {g : Nat} {t : TypeId} {l : List UInt8} (hb : Blk w g t (bvs l).toArray) : Rd w (some ⟨g, 0, none⟩) (bvs l) := Rd.of_blk hb 0 _ (fun j u hu => by rw [Nat.zero_add]; simpa using hu)
set_option maxHeartbeats 1000000 in
theorem rcBlock_rcMark1 (w : World) (g:Nat) (q : List UInt8) (hq : q.length ≤ 512) (hc : ∀ w1 p B v, Fr [] w w1 → w.heap.size ≤ p → w.heap.size ≤ B → Wrt w1 p B v 512 false [] → Calls Tryz.prog 157 #[.pointer (some ⟨p, 0, none⟩), .pointer (some ⟨g, 0, none⟩)] w1 fun e w' => e = .returned (.tuple #[]) ∧ WPost w1 w' p B v 512 q) :
  Calls Tryz.prog 161 #[.func (.func 157) #[] #[.pointer (some ⟨g, 0, none⟩)]] w fun e w' => ∃ r, e = .returned r ∧ Row w' w.heap.size 5 1 r 512 (bvs (pad512 q)) ∧ Fr [] w w' := by
 go_enter Tryz.func161, Tryz.ntmps161
 go_wp2_with fail
 have cc := newWriter_any 512 w
 rw [show sizeN 512 = 512 from rfl] at cc
 refine cc.mono ?_
 clear cc
 rintro e w1 ⟨rfl, h1, f1, z1⟩
 go_wp2_with fail
 refine (hc w1 _ _ _ f1 (Nat.le_refl _) (Nat.le_refl _) h1).mono ?_
 rintro e w2 ⟨rfl, v2, h2, f2, g2⟩
 have F2 : Fr [] w w2 := f1.trans f2 (fun i hi => by
  rcases List.mem_cons.1 hi with rfl | hi
  ·exact .inr (Nat.le_refl _)
  ·exact (own_nil.1 hi).elim)
 go_wp2_with fail
 refine (wDone_ok h2).mono ?_
 rintro e w3 ⟨r, rfl, h3, f3⟩
 go_wp2_with fail
 go_ret
 exact ⟨r, rfl, h3.mono F2.size, F2.trans_nil f3⟩
set_option maxHeartbeats 1000000 in
theorem rcBlock_rcMark2 (w : World) (g d:Nat) (q : List UInt8) (hq : q.length ≤ 512) (hc : ∀ w1 p B v, Fr [] w w1 → w.heap.size ≤ p → w.heap.size ≤ B → Wrt w1 p B v 512 false [] → Calls Tryz.prog 162 #[.pointer (some ⟨p, 0, none⟩), .pointer (some ⟨g, 0, none⟩), .pointer (some ⟨d, 0, none⟩)] w1 fun e w' => e = .returned (.tuple #[]) ∧ WPost w1 w' p B v 512 q) :
  Calls Tryz.prog 161 #[.func (.func 162) #[] #[.pointer (some ⟨g, 0, none⟩), .pointer (some ⟨d, 0, none⟩)]] w fun e w' => ∃ r, e = .returned r ∧ Row w' w.heap.size 5 1 r 512 (bvs (pad512 q)) ∧ Fr [] w w' := by
 go_enter Tryz.func161, Tryz.ntmps161
 go_wp2_with fail
 have cc := newWriter_any 512 w
 rw [show sizeN 512 = 512 from rfl] at cc
 refine cc.mono ?_
 clear cc
 rintro e w1 ⟨rfl, h1, f1, z1⟩
 go_wp2_with fail
 refine (hc w1 _ _ _ f1 (Nat.le_refl _) (Nat.le_refl _) h1).mono ?_
 rintro e w2 ⟨rfl, v2, h2, f2, g2⟩
 have F2 : Fr [] w w2 := f1.trans f2 (fun i hi => by
  rcases List.mem_cons.1 hi with rfl | hi
  ·exact .inr (Nat.le_refl _)
  ·exact (own_nil.1 hi).elim)
 go_wp2_with fail
 refine (wDone_ok h2).mono ?_
 rintro e w3 ⟨r, rfl, h3, f3⟩
 go_wp2_with fail
 go_ret
 exact ⟨r, rfl, h3.mono F2.size, F2.trans_nil f3⟩
set_option maxHeartbeats 1000000 in
theorem rcBlock_rcSeal1 (w : World) (g d:Nat) (q : List UInt8) (hq : q.length ≤ 512) (hc : ∀ w1 p B v, Fr [] w w1 → w.heap.size ≤ p → w.heap.size ≤ B → Wrt w1 p B v 512 false [] → Calls Tryz.prog 205 #[.pointer (some ⟨p, 0, none⟩), .pointer (some ⟨g, 0, none⟩), .pointer (some ⟨d, 0, none⟩)] w1 fun e w' => e = .returned (.tuple #[]) ∧ WPost w1 w' p B v 512 q) :
  Calls Tryz.prog 161 #[.func (.func 205) #[] #[.pointer (some ⟨g, 0, none⟩), .pointer (some ⟨d, 0, none⟩)]] w fun e w' => ∃ r, e = .returned r ∧ Row w' w.heap.size 5 1 r 512 (bvs (pad512 q)) ∧ Fr [] w w' := by
 go_enter Tryz.func161, Tryz.ntmps161
 go_wp2_with fail
 have cc := newWriter_any 512 w
 rw [show sizeN 512 = 512 from rfl] at cc
 refine cc.mono ?_
 clear cc
 rintro e w1 ⟨rfl, h1, f1, z1⟩
 go_wp2_with fail
 refine (hc w1 _ _ _ f1 (Nat.le_refl _) (Nat.le_refl _) h1).mono ?_
 rintro e w2 ⟨rfl, v2, h2, f2, g2⟩
 have F2 : Fr [] w w2 := f1.trans f2 (fun i hi => by
  rcases List.mem_cons.1 hi with rfl | hi
  ·exact .inr (Nat.le_refl _)
  ·exact (own_nil.1 hi).elim)
 go_wp2_with fail
 refine (wDone_ok h2).mono ?_
 rintro e w3 ⟨r, rfl, h3, f3⟩
 go_wp2_with fail
 go_ret
 exact ⟨r, rfl, h3.mono F2.size, F2.trans_nil f3⟩
set_option maxHeartbeats 1000000 in
theorem rcBlock_rcplan1 (w : World) (g d t:Nat) (q : List UInt8) (hq : q.length ≤ 512) (hc : ∀ w1 p B v, Fr [] w w1 → w.heap.size ≤ p → w.heap.size ≤ B → Wrt w1 p B v 512 false [] → Calls Tryz.prog 221 #[.pointer (some ⟨p, 0, none⟩), .pointer (some ⟨g, 0, none⟩), .pointer (some ⟨d, 0, none⟩), .pointer (some ⟨t, 0, none⟩)] w1 fun e w' => e = .returned (.tuple #[]) ∧ WPost w1 w' p B v 512 q) :
  Calls Tryz.prog 161 #[.func (.func 221) #[] #[.pointer (some ⟨g, 0, none⟩), .pointer (some ⟨d, 0, none⟩), .pointer (some ⟨t, 0, none⟩)]] w fun e w' => ∃ r, e = .returned r ∧ Row w' w.heap.size 5 1 r 512 (bvs (pad512 q)) ∧ Fr [] w w' := by
 go_enter Tryz.func161, Tryz.ntmps161
 go_wp2_with fail
 have cc := newWriter_any 512 w
 rw [show sizeN 512 = 512 from rfl] at cc
 refine cc.mono ?_
 clear cc
 rintro e w1 ⟨rfl, h1, f1, z1⟩
 go_wp2_with fail
 refine (hc w1 _ _ _ f1 (Nat.le_refl _) (Nat.le_refl _) h1).mono ?_
 rintro e w2 ⟨rfl, v2, h2, f2, g2⟩
 have F2 : Fr [] w w2 := f1.trans f2 (fun i hi => by
  rcases List.mem_cons.1 hi with rfl | hi
  ·exact .inr (Nat.le_refl _)
  ·exact (own_nil.1 hi).elim)
 go_wp2_with fail
 refine (wDone_ok h2).mono ?_
 rintro e w3 ⟨r, rfl, h3, f3⟩
 go_wp2_with fail
 go_ret
 exact ⟨r, rfl, h3.mono F2.size, F2.trans_nil f3⟩
set_option maxRecDepth 100000 in
set_option maxHeartbeats 1000000 in
theorem rcMark1_ok {w : World} {p B g n : Nat} {v : Value} (h : Wrt w p B v 512 false []) (hn : n < 18446744073709551616) (hb : Blk w g 57 #[.int .u64 (n : Int)]) :
  Calls Tryz.prog 157 #[.pointer (some ⟨p, 0, none⟩), .pointer (some ⟨g, 0, none⟩)] w fun e w' => e = .returned (.tuple #[]) ∧ WPost w w' p B v 512 (markR n) := by
 have kc := fun (w : World) (C : Array Value) (n c : Nat) => Lib.run_convert_bytes_const (P := Tryz.prog) w 27 5 C n c Tryz.underlying27 Tryz.underlying5
 go_enter Tryz.func157, Tryz.ntmps157
 go_wp2_with fail
 have ra := Rd.mark w markM 5 (4, 5)
 have fa : Fr [] w (w.alloc (.cells (bvs markM).toArray 5 (4, 5))) := (Fr.refl _ _).alloc _
 refine (wBytes_ok (h.keep_nil fa) _ 4 4 markM rfl ra (by simp) (fun g o e _ => by cases e; have := h.lt; omega) (by simp)).mono ?_
 rintro e w1 ⟨rfl, x1⟩
 have b1 := x1.blk (h.keep_nil fa) (hb.keep_nil fa) (by decide) (by decide)
 obtain ⟨v1, h1, f1, g1⟩ := WPost.trans (fa.mono (by simp)) (fun g hg => .inl hg) x1
 clear ra fa x1 hb kc
 rw [List.nil_append] at h1
 have c0 := b1.cell 0
 simp at c0
 go_wp2_with fail
 refine (wUint_ok h1 8 n rfl hn (by omega) (by rw [show markM.length = 4 from rfl]; omega)).mono ?_
 rintro e w2 ⟨rfl, x2⟩
 have y2 := WPost.trans f1 g1 x2
 go_wp2_with fail
 go_returns
 exact ⟨rfl, y2⟩
set_option maxRecDepth 100000 in
set_option maxHeartbeats 1000000 in
theorem rcMark2_ok {w : World} {p B g f d n : Nat} {v : Value} {D : List UInt8} (h : Wrt w p B v 512 false []) (hn : n < 18446744073709551616) (hb : Blk w g 57 #[.int .u64 (n : Int)]) (T : TypeId) (hf : Blk w f T #[.func (.func 157) #[] #[.pointer (some ⟨g, 0, none⟩)]]) (hT1 : T ≠ 223) (hT2 : T ≠ 5) (hd : Blk w d 39 (bvs D).toArray) (hD : D.length = 32) :
  Calls Tryz.prog 162 #[.pointer (some ⟨p, 0, none⟩), .pointer (some ⟨f, 0, none⟩), .pointer (some ⟨d, 0, none⟩)] w fun e w' => e = .returned (.tuple #[]) ∧ WPost w w' p B v 512 (markR n ++ D) := by
 have cf := hf.cell 0
 simp at cf
 have HD := Lib.hid hD
 clear hD
 go_enter Tryz.func162, Tryz.ntmps162
 go_wp2_with fail
 refine (rcMark1_ok h hn hb).mono ?_
 rintro e w1 ⟨rfl, x1⟩
 have d1 := x1.blk h hd (by decide) (by decide)
 have hpd : p ≠ d := fun e => (hd.ne_ h.1 (by decide)) e.symm
 obtain ⟨v1, h1, f1, g1⟩ := x1
 go_wp2_with fail
 refine (wBytes_ok h1 _ 32 32 D HD.out (Rd.ofBm d1) (by simp) (fun g o e _ => by cases e; exact hpd.symm) (by rw [markR_len]; omega)).mono ?_
 rintro e w2 ⟨rfl, x2⟩
 have y2 := WPost.trans f1 g1 x2
 go_wp2_with fail
 go_returns
 exact ⟨rfl, y2⟩
end
section
open Go.RowKit
set_option maxHeartbeats 400000 in
theorem xrcNumber_any (n x : Nat) (w : World) (hn : n ≤ 8) (hx : x < 18446744073709551616) : Calls Tryz.prog 166 #[.int .i64 n, .int .u64 x] w fun e w' => ∃ v, e = .returned v ∧ Row w' w.heap.size 5 1 v n (bvs (leB n x)) ∧ Fr [] w w' := by
 go_enter Tryz.func166, Tryz.ntmps166
 go_wp2_with fail
 go_loopw [5, 6] (fun v i wr => ∃ k : Nat, k ≤ n ∧ i = .int .i64 k ∧ Row wr w.heap.size 5 1 v k (bvs (leB k x)) ∧ Fr [] w wr) (fun _ i _ => n - (intOf i).toNat)
 case atStart => exact ⟨0, Nat.zero_le _, rfl, Row.nil _ _ _ _, Fr.refl _ _⟩
 case round =>
  obtain ⟨k, hk, rfl, r4, F4⟩ := hrel
  obtain ⟨A4, cap4, rfl, -, -, -, -, -⟩ := r4.shape
  by_cases hlt : k < n
  ·go_wp2_with
    (first
     | (at_builtin; refine wpList_app rfl rfl slB w.heap.size _ k (bvs (leB k x)) rfl (r4.alloc _) _ 1 1 [_] rfl rfl (Rd.one _ _ _) (by intro u hu; rw [List.mem_singleton.1 hu]; rfl) (fun h => by cases h) (by omega) (by have := F4.size; simp; omega) ?_; intro v5 w5 q1 q2 q3 q4))
   refine ⟨⟨k + 1, by omega, by go_num, ?_, (F4.alloc _).trans q2 (fun i hi => .inr (r4.lt i (mem_own.1 hi)).1)⟩, by simp [intOf]; omega⟩
   rw [leB_byte2, show ∀ x : UInt8, [bv x] = bvs [x] from fun _ => rfl, ← bvs_append, ← leB_succ] at q1
   exact q1
  ·obtain rfl : k = n := by omega
   go_wp2_with fail
   go_ret
   exact ⟨_, rfl, r4, F4⟩
set_option maxHeartbeats 400000 in
theorem xrcValue_any (A : Option Addr) (l : List UInt8) (n c : Nat) (w : World) (hn : l.length = n) (hr : Rd w A (bvs l)) (h8 : n ≤ 8) : Calls Tryz.prog 178 #[.slice A n c] w fun e w' => e = .returned (.int .u64 (leN l)) ∧ w = w' := by
 have HL := Lib.hid hn
 clear hn
 go_enter Tryz.func178, Tryz.ntmps178
 go_wp2_with fail
 go_loop [3, 4] (fun x i => ∃ k : Nat, k ≤ n ∧ i = .int .i64 k ∧ x = .int .u64 (leN (l.take k))) (fun _ i => n - (intOf i).toNat)
 case atStart => exact ⟨0, Nat.zero_le _, rfl, rfl⟩
 case round =>
  obtain ⟨k, hk, rfl, rfl⟩ := hrel
  by_cases hlt : k < n
  ·have hk' : k < l.length := by rw [HL.out]; exact hlt
   obtain ⟨g, o, rfl, hc⟩ := hr.byte hk'
   have hck := hc k hk'
   have E := Lib.hid (or_byte (leN (l.take k)) l[k].toNat k (leN_take_lt l k) l[k].toNat_lt (by omega))
   have T := Lib.hid (leN_take_succ l k hk')
   clear hc
   go_wp2
   go_round
   case rel => exact ⟨k + 1, by omega, by go_num, by rw [E.out, T.out]⟩
   case measure => simp [intOf]; omega
  ·have hk2 : k = n := by omega
   have E : l.take k = l := by rw [hk2, ← HL.out, List.take_length]
   have HE := Lib.hid E
   clear E hk2
   go_wp2
   go_ret
   exact ⟨by rw [HE.out]; rfl, rfl⟩
theorem xrcFill_any {w : World} {B : Nat} {v : Value} {q : List UInt8} {n : Nat} (hn : q.length = n) (h : Row w B 5 1 v n (bvs q)) (hq : n ≤ 512) (hB : B ≤ w.heap.size) :
  Calls Tryz.prog 167 #[v] w fun e w' => ∃ r, e = .returned r ∧ Row w' B 5 1 r 512 (bvs (pad512 q)) ∧ Fr v.ownBlock.toList w w' := by
 obtain ⟨A, cap, rfl, -, -, -, -, -⟩ := h.shape
 have HN := Lib.hid hn
 clear hn
 go_enter Tryz.func167, Tryz.ntmps167
 go_wp2_with (at_builtin; refine wpList_appz rfl rfl slB rfl rfl Tryz.underlying3 B _ n (bvs q) rfl h .i64 (512 - n) _ rfl (by omega) (by omega) hB ?_; intro v2 w2 g1 g2 g3)
 go_ret
 refine ⟨_, rfl, ?_, g2⟩
 rw [show List.replicate (512 - n) (Value.int .u8 0) = bvs (List.replicate (512 - n) 0) by simp [bvs, bv], ← bvs_append, show n + (512 - n) = 512 by omega] at g1
 rw [pad512, HN.out]
 exact g1
theorem wpList_st1 {P : Program} {ops : Array Oper} {rest : List Oper} {o : Oper} {a : Act} {w : World} {Q : Exit → Act → World → Prop} {ty : TypeId} {x y : Operand} (hw : Region.wanted o (yielded ops a.tmps) = true) (ho : o.op = .store ty x y) (hsz : (P.info? ty).map (·.size) = some 1) (g i : Nat) (hx : a.eval x = .pointer (some ⟨g, i, none⟩)) (v : Value) (hy : a.eval y = v) (hv : v.cells = #[v]) (h1 : v.oneCell' = true)
  {old : Value} (hc : w.cell? ⟨g, i, none⟩ = some old) (hz : w.frozen? ⟨g, i, none⟩ = false) (h : wpList P ops Q rest (a.put o.dst undef) (w.setCell ⟨g, i, none⟩ v)) : wpList P ops Q (o :: rest) a w :=
 wpList_want hw fun _ hK => wp_st1 ho hsz g i hx v hy hv h1 hc hz (hK _ _ h)
def MarkC (w : World) (n : Nat) (e : Ending) (w' : World) : Prop :=
 ∃ v, e = .returned (.tuple #[v, .int .i64 (errG (n != 0) 1)]) ∧ Row w' w.heap.size 5 1 v (if n = 0 then 0 else 512) (bvs (if n = 0 then [] else markB n)) ∧ Fr [] w w'
set_option maxRecDepth 100000 in
set_option maxHeartbeats 4000000 in
theorem rcMark_any (w : World) (n : Nat) (hn : n < 18446744073709551616) (hK : KG w) : Calls Tryz.prog 108 #[.int .u64 n] w (MarkC w n) := by
 by_cases h0 : n = 0
 ·subst h0
  go_enter Tryz.func108, Tryz.ntmps108
  go_wp2_with fail
  go_ret2
  exact ⟨_, rfl, Row.nil _ _ _ _, (Fr.refl _ _).alloc _⟩
 ·have d : ((n : Int) == 0) = false := by rw [beq_eq_false_iff_ne]; omega
  have H0 := Lib.hid h0
  clear h0
  go_enter Tryz.func108, Tryz.ntmps108
  go_upto_region 3 with fail
  have b1 := Blk.new w 57 #[.int .u64 (n : Int)]
  have F1 : Fr [] w (w.alloc (.cells #[.int .u64 (n : Int)] 57)) := (Fr.refl _ _).alloc _
  have s1 : (w.alloc (.cells #[.int .u64 (n : Int)] 57)).heap.size = w.heap.size + 1 := by simp
  generalize w.alloc (.cells #[.int .u64 (n : Int)] 57) = w1 at *
  obtain ⟨g1, hg1⟩ : ∃ g, w.heap.size = g := ⟨_, rfl⟩
  rw [hg1] at b1 s1 ⊢
  have HS1 := Lib.hid (And.intro hg1 s1)
  clear hg1 s1
  go_upto_region 4 with
   (first
    | (refine wpList_st1 rfl rfl (by kernel_rfl) w1.heap.size 0 rfl (.func (.func 157) #[] #[.pointer (some ⟨g1, 0, none⟩)]) rfl rfl rfl (old := .nilFunc) ((Blk.new w1 202 #[.nilFunc]).cell 0) ((Blk.new w1 202 #[.nilFunc]).frozen 0) ?_))
  have b2 := (Blk.new w1 202 #[.nilFunc]).set_ 0 (.func (.func 157) #[] #[.pointer (some ⟨g1, 0, none⟩)])
  have f2 : Fr [] w1 ((w1.alloc (.cells #[.nilFunc] 202)).setCell ⟨w1.heap.size, 0, none⟩ (.func (.func 157) #[] #[.pointer (some ⟨g1, 0, none⟩)])) := ((Fr.refl _ _).alloc _).setCell (.inr (Nat.le_refl _)) _
  have s2 : ((w1.alloc (.cells #[.nilFunc] 202)).setCell ⟨w1.heap.size, 0, none⟩ (.func (.func 157) #[] #[.pointer (some ⟨g1, 0, none⟩)])).heap.size = w1.heap.size + 1 := by simp [World.setCell]
  generalize (w1.alloc (.cells #[.nilFunc] 202)).setCell ⟨w1.heap.size, 0, none⟩ (.func (.func 157) #[] #[.pointer (some ⟨g1, 0, none⟩)]) = w2 at *
  replace b2 : Blk w2 w1.heap.size 202 #[.func (.func 157) #[] #[.pointer (some ⟨g1, 0, none⟩)]] := b2
  obtain ⟨g2, hg2⟩ : ∃ g, w1.heap.size = g := ⟨_, rfl⟩
  rw [hg2] at b2 s2 ⊢
  have F2 := F1.trans_nil f2
  replace b1 := b1.keep_nil f2
  have HG := Lib.hid (And.intro hg2 s2)
  clear hg2 s2 F1 f2
  have c2 := b2.cell 0
  simp at c2
  go_wp2_with fail
  refine (rcBlock_rcMark1 w2 g1 (markR n) (by rw [markR_len]; omega) (fun wx p B v f _ _ h => rcMark1_ok h hn (b1.keep_nil f))).mono ?_
  rintro e w3 ⟨r, rfl, r3, f3⟩
  have F3 := F2.trans_nil f3
  replace b1 := b1.keep_nil f3
  replace b2 := b2.keep_nil f3
  obtain ⟨A3, cap3, rfl, hc3, -, rd3, -, -⟩ := r3.shape
  have n3 := r3.rd.2.2
  have rd12 : Rd w3 A3 (bvs (markR n)) := by
   have := rd3.take 12
   rw [← bvs_take, pad512, List.take_left' (markR_len n)] at this
   exact this
  have K12 : (12 : Int) ≤ cap3 := by omega
  go_wp2_with fail
  refine (sum_any A3 (markR n) 12 cap3 w3 (markR_len n) rd12 (fun h => absurd (n3 h) (by omega)) (by omega) (hK.keep F3)).mono ?_
  rintro e w4 ⟨rfl, f4⟩
  have F4 := F3.trans_nil f4
  replace b1 := b1.keep_nil f4
  replace b2 := b2.keep_nil f4
  obtain ⟨D, hD⟩ : ∃ D, shaSum (markR n) = D := ⟨_, rfl⟩
  have hdl : D.length = 32 := by rw [← hD, shaSum_length]
  rw [hD]
  have HDD := Lib.hid (fun _ : Unit => hD)
  have HDL := Lib.hid hdl
  clear hD hdl f3 f4 r3 rd3 rd12 F2 F3 c2
  go_wp2_with
   (first
    | (refine wpList_alS stA32 (o := ⟨some 5, _, _, _, _, _⟩) rfl rfl ?_; intro wa ha fa za; have ZA := Lib.hid za; clear za; obtain ⟨g5, hgg⟩ : ∃ g, w4.heap.size = g := ⟨_, rfl⟩; rw [hgg] at ha; rw [hgg]; have HG5 := Lib.hid hgg; clear hgg)
    | (refine wpList_stB stA32 rfl rfl g5 rfl (bvs D) rfl (by rw [bvs_length, HDL.out]) (bvs_one _) (bvs (zB 32)) rfl ha ?_; intro wb hb fb zb; have ZB := Lib.hid zb; clear zb))
  have f5 : Fr [] w4 wb := fa.trans fb (fun i hi => .inr (by have := HG5.out; simp at hi; omega))
  have F5 := F4.trans_nil f5
  replace b1 := b1.keep_nil f5
  replace b2 := b2.keep_nil f5
  refine (rcBlock_rcMark2 wb g2 g5 (markR n ++ D) (by rw [List.length_append, markR_len, HDL.out]; omega) (fun wx p B v f _ _ h => rcMark2_ok h hn (b1.keep_nil f) 202 (b2.keep_nil f) (by decide) (by decide) (hb.keep_nil f) HDL.out)).mono ?_
  rintro e w6 ⟨r, rfl, r6, f6⟩
  obtain ⟨A6, cap6, rfl, -, -, -, -, -⟩ := r6.shape
  go_wp2_with fail
  go_ret2
  have h0 := H0.out
  refine ⟨_, by rw [show (n != 0) = true from by simpa using h0]; rfl, ?_, F5.trans_nil f6⟩
  rw [if_neg h0, if_neg h0, markB, HDD.out ()]
  exact r6.mono F5.size
set_option maxRecDepth 100000 in
set_option maxHeartbeats 4000000 in
theorem xrcMark_any (w : World) (n : Nat) (hn : n < 18446744073709551616) : Calls Tryz.prog 113 #[.int .u64 n] w (MarkC w n) := by
 by_cases h0 : n = 0
 ·subst h0
  go_enter Tryz.func113, Tryz.ntmps113
  go_wp2_with fail
  go_ret2
  exact ⟨_, rfl, Row.nil _ _ _ _, Fr.refl _ _⟩
 ·have d : ((n : Int) == 0) = false := by rw [beq_eq_false_iff_ne]; omega
  have H0 := Lib.hid h0
  clear h0
  have kc := fun (w : World) (C : Array Value) (n c : Nat) => Lib.run_convert_bytes_const (P := Tryz.prog) w 27 5 C n c Tryz.underlying27 Tryz.underlying5
  have fa : Fr [] w (w.alloc (.cells (bvs markM).toArray 5 (4, 5))) := (Fr.refl _ _).alloc _
  have rm := Row.new w (bvs markM).toArray 5 1 4 (4, 5) (free_end _ _) (by unfold maxLen; omega) rfl (Nat.le_refl _)
  go_enter Tryz.func113, Tryz.ntmps113
  go_wp2_with fail
  refine (xrcNumber_any 8 n _ (by omega) hn).mono ?_
  rintro e w4 ⟨v4, rfl, r4, f4⟩
  obtain ⟨A4, cap4, rfl, -, -, -, -, -⟩ := r4.shape
  have R4 := rm.keep_nil f4
  have F4 := fa.trans_nil f4
  clear rm f4 fa kc
  go_wp2_with
   (first
    | (at_builtin; refine wpList_app rfl rfl slB w.heap.size _ 4 (bvs markM) rfl R4 _ 8 cap4 (bvs (leB 8 n)) rfl (by rw [bvs_length, leB_length]) r4.rd.1 (bvs_one _) r4.rd.2.2 (by omega) F4.size ?_; intro v5 w5 q1 q2 q3 q4))
  have F5 := F4.trans q2 (fun k hk => .inr (R4.lt k (mem_own.1 hk)).1)
  rw [← bvs_append, show 4 + 8 = 12 from rfl, show markM ++ leB 8 n = markR n from rfl] at q1
  obtain ⟨A5, cap5, rfl, -, -, rd5, -, -⟩ := q1.shape
  have R := q1
  have n5 := q1.rd.2.2
  clear R4 r4 F4 q1 q2 q3 q4
  refine (xSum_any A5 (markR n) 12 cap5 w5 (markR_len n) rd5 n5 (by omega)).mono ?_
  rintro e w6 ⟨rfl, f6⟩
  have F6 := F5.trans_nil f6
  replace R := R.keep_nil f6
  obtain ⟨D, hD⟩ : ∃ D, shaSum (markR n) = D := ⟨_, rfl⟩
  have hdl : D.length = 32 := by rw [← hD, shaSum_length]
  rw [hD]
  have HDD := Lib.hid (fun _ : Unit => hD)
  have HDL := Lib.hid hdl
  clear hD hdl f6 F5 rd5 n5
  go_wp2_with
   (first
    | (refine wpList_alS stA32 (o := ⟨some 5, _, _, _, _, _⟩) rfl rfl ?_; intro wa ha fa za; have ZA := Lib.hid za; clear za; obtain ⟨g5, hgg⟩ : ∃ g, w6.heap.size = g := ⟨_, rfl⟩; rw [hgg] at ha; rw [hgg]; have HG5 := Lib.hid hgg; clear hgg)
    | (refine wpList_stB stA32 rfl rfl g5 rfl (bvs D) rfl (by rw [bvs_length, HDL.out]) (bvs_one _) (bvs (zB 32)) rfl ha ?_; intro wb hb fb zb; have ZB := Lib.hid zb; clear zb; have f7 : Fr [] w6 wb := fa.trans fb (fun i hi => .inr (by have := HG5.out; simp at hi; omega)); have F7 := F6.trans_nil f7; have R7 := R.keep_nil f7)
    | (at_builtin; refine wpList_app rfl rfl slB w.heap.size _ 12 (bvs (markR n)) rfl R7 _ 32 32 (bvs D) rfl (by rw [bvs_length, HDL.out]) (Rd.ofBm hb) (bvs_one _) (fun h => by cases h) (by omega) F7.size ?_; intro v8 w8 q1 q2 q3 q4))
  have F8 := F7.trans q2 (fun k hk => .inr (R7.lt k (mem_own.1 hk)).1)
  rw [← bvs_append, show 12 + 32 = 44 from rfl] at q1
  have hl : (markR n ++ D).length = 44 := by rw [List.length_append, markR_len, HDL.out]
  obtain ⟨A8, cap8, rfl, -, -, -, -, -⟩ := q1.shape
  go_wp2_with fail
  refine (xrcFill_any hl q1 (by omega) F8.size).mono ?_
  rintro e w9 ⟨r, rfl, r9, f9⟩
  obtain ⟨A9, cap9, rfl, -, -, -, -, -⟩ := r9.shape
  go_wp2_with fail
  go_ret2
  have h0 := H0.out
  refine ⟨_, by rw [show (n != 0) = true from by simpa using h0]; rfl, ?_, F8.trans f9 (fun k hk => .inr (q1.lt k (mem_own.1 hk)).1)⟩
  rw [if_neg h0, if_neg h0, markB, HDD.out ()]
  exact r9
end
section
open Go.RowKit
def inR (l : List UInt8) (bad : Bool) (n : Int) : Bool := !bad && decide (0 ≤ n) && decide (n ≤ l.length)
theorem inR_true {l : List UInt8} {bad : Bool} {n : Int} (h : inR l bad n = true) : bad = false ∧ ∃ m : Nat, n = m ∧ m ≤ l.length := by
 simp only [inR, Bool.and_eq_true, Bool.not_eq_true', decide_eq_true_eq] at h
 exact ⟨h.1.1, n.toNat, by omega, by omega⟩
theorem inR_false {l : List UInt8} {bad : Bool} {n : Int} (h : inR l bad n = false) : bad = true ∨ n < 0 ∨ (l.length : Int) < n := by
 simp only [inR, Bool.and_eq_false_iff, Bool.not_eq_false', decide_eq_false_iff_not] at h
 rcases h with (h | h) | h
 ·exact .inl h
 ·exact .inr (.inl (by omega))
 ·exact .inr (.inr (by omega))
def stB (l : List UInt8) (bad : Bool) (n : Int) : List UInt8 := if inR l bad n then l.take n.toNat else []
def stL (l : List UInt8) (bad : Bool) (n : Int) : List UInt8 := if inR l bad n then l.drop n.toNat else l
def stUv (l : List UInt8) (bad : Bool) (n : Int) : Nat := if inR l bad n && wide n then leN (l.take n.toNat) else 0
def stUl (l : List UInt8) (bad : Bool) (n : Int) : List UInt8 := if inR l bad n && wide n then l.drop n.toNat else l
def stUb (l : List UInt8) (bad : Bool) (n : Int) : Bool := !(inR l bad n && wide n)
theorem stUv_lt (l : List UInt8) (bad : Bool) (n : Int) : stUv l bad n < 18446744073709551616 := by
 unfold stUv
 split
 ·rename_i h
  simp only [Bool.and_eq_true] at h
  have h8 : n.toNat ≤ 8 := by
   have := h.2
   simp only [wide, Bool.or_eq_true, beq_iff_eq] at this
   omega
  exact Nat.lt_of_lt_of_le (leN_take_lt l _) (Nat.le_trans (Nat.pow_le_pow_right (by omega) h8) (by decide))
 ·omega
section
variable {w : World} {p : Nat} {G : List Nat} {l : List UInt8} {bad : Bool}
theorem rUint_any (h : Rdr 248 w p G l bad) (n : Int) :
  Calls Tryz.prog 201 #[.pointer (some ⟨p, 0, none⟩), .int .i64 n] w fun e w' => e = .returned (.int .u64 (stUv l bad n)) ∧ Rdr 248 w' p G (stUl l bad n) (stUb l bad n) ∧ Fr [p] w w' := by
 cases h1 : (inR l bad n && wide n) with
 | true =>
  simp only [Bool.and_eq_true] at h1
  obtain ⟨rfl, m, rfl, hm⟩ := inR_true h1.1
  have e1 : stUv l false m = leN (l.take m) := by simp [stUv, h1.1, h1.2]
  have e2 : stUl l false m = l.drop m := by simp [stUl, h1.1, h1.2]
  have e3 : stUb l false m = false := by simp [stUb, h1.1, h1.2]
  rw [e1, e2, e3]
  exact rUint_ok h m hm h1.2
 | false =>
  have e1 : stUv l bad n = 0 := by simp [stUv, h1]
  have e2 : stUl l bad n = l := by simp [stUl, h1]
  have e3 : stUb l bad n = true := by simp [stUb, h1]
  rw [e1, e2, e3]
  refine rUint_bad h n ?_
  by_cases hw : wide n = true
  ·have h2 : inR l bad n = false := by simpa [hw] using h1
   rcases inR_false h2 with h | h | h
   ·exact .inl h
   ·simp only [wide, Bool.or_eq_true, beq_iff_eq] at hw; omega
   ·exact .inr (.inr h)
  ·exact .inr (.inl (by simpa using hw))
theorem rBytes_any (h : Rdr 248 w p G l bad) (n : Int) :
  Calls Tryz.prog 200 #[.pointer (some ⟨p, 0, none⟩), .int .i64 n] w fun e w' => ∃ v, e = .returned v ∧ Row w' w.heap.size 5 1 v (stB l bad n).length (bvs (stB l bad n)) ∧ Rdr 248 w' p G (stL l bad n) (!inR l bad n) ∧ Fr [p] w w' := by
 cases h1 : inR l bad n with
 | true =>
  obtain ⟨rfl, m, rfl, hm⟩ := inR_true h1
  have e1 : stB l false m = l.take m := by simp [stB, h1]
  have e2 : stL l false m = l.drop m := by simp [stL, h1]
  rw [e1, e2, show (l.take m).length = m by rw [List.length_take]; omega]
  exact rBytes_ok h m hm
 | false =>
  have e1 : stB l bad n = [] := by simp [stB, h1]
  have e2 : stL l bad n = l := by simp [stL, h1]
  rw [e1, e2]
  exact (rBytes_bad h n (inR_false h1)).mono fun e w' ⟨h1, h2, h3⟩ => ⟨_, h1, Row.nil _ _ _ _, h2, h3⟩
end
end
section
open Go.RowKit
def numR (l : List UInt8) : Nat := stUv (stL l false 4) (!inR l false 4) 8
theorem numR_lt (l : List UInt8) : numR l < 18446744073709551616 := stUv_lt _ _ _
theorem numR_512 {l : List UInt8} (h : l.length = 512) : numR l = leN ((l.drop 4).take 8) := by
 have h1 : inR l false 4 = true := by simp [inR, h]
 have h2 : stL l false 4 = l.drop 4 := by simp [stL, h1]
 have h3 : inR (l.drop 4) false 8 = true := by simp [inR, h]
 rw [numR, h1, h2, Bool.not_true, stUv, h3]
 simp [wide]
def rmV (l : List UInt8) : Option Nat := if numR l ≠ 0 ∧ l = markB (numR l) then some (numR l) else none
def RmC (w : World) (l : List UInt8) (e : Ending) (w' : World) : Prop :=
 e = .returned (.tuple #[.int .u64 (((rmV l).getD 0 : Nat) : Int), .int .i64 (errG (rmV l).isSome 110)]) ∧ Fr [] w w'
set_option maxRecDepth 100000 in
set_option maxHeartbeats 4000000 in
theorem rcReadMark_any (w : World) (A : Option Addr) (l : List UInt8) (n c : Nat) (hn : l.length = n) (hr : Rd w A (bvs l)) (hA : A = none → n = 0) (hl : n ≤ 140737488355328) (hK : KG w) :
  Calls Tryz.prog 171 #[.slice A n c] w (RmC w l) := by
 have HN := Lib.hid hn
 have hk := numR_lt l
 obtain ⟨k, hkk⟩ : ∃ k, numR l = k := ⟨_, rfl⟩
 have HKK := Lib.hid hkk
 rw [hkk] at hk
 clear hn hkk
 go_enter Tryz.func171, Tryz.ntmps171
 go_wp2_with fail
 refine (newReader_any A l n c w HN.out hr hA hl).mono ?_
 rintro e w1 ⟨p, G, rfl, x1, f1, z1, g1⟩
 go_wp2_with fail
 refine (rBytes_any x1 4).mono ?_
 rintro e w2 ⟨v2, rfl, r2, x2, f2⟩
 have F2 : Fr [] w w2 := f1.trans f2 (fun i hi => .inr (by simp at hi; omega))
 go_wp2_with fail
 have cc := rUint_any x2 8
 rw [show stUv (stL l false 4) (!inR l false 4) 8 = k from HKK.out] at cc
 refine cc.mono ?_
 clear cc
 rintro e w3 ⟨rfl, x3, f3⟩
 have F3 : Fr [] w w3 := F2.trans f3 (fun i hi => .inr (by simp at hi; omega))
 clear x1 x2 x3 f1 f2 f3 r2 F2
 go_wp2_with fail
 refine (rcMark_any w3 k hk (hK.keep F3)).mono ?_
 rintro e w4 ⟨v, rfl, r4, f4⟩
 have F4 := F3.trans_nil f4
 obtain ⟨A4, c4, rfl, -, -, rd4, -, -⟩ := r4.shape
 have n4 := r4.rd.2.2
 by_cases h0 : k = 0
 ·have hv : rmV l = none := by rw [rmV, if_neg (by rw [HKK.out]; exact fun h => h.1 h0)]
  have HV := Lib.hid hv
  rw [show (k != 0) = false by rw [h0]; rfl, show errG false 1 = 1 from rfl]
  clear hv
  go_wp2_with fail
  go_ret2
  exact ⟨by rw [HV.out]; rfl, F4⟩
 ·simp only [if_neg h0] at rd4
  simp only [if_neg h0] at n4
  rw [show (k != 0) = true by simpa using h0, show errG true 1 = 0 from rfl, if_neg h0]
  obtain ⟨q, hq⟩ : ∃ q, markB k = q := ⟨_, rfl⟩
  have hql : q.length = 512 := by rw [← hq, markB_len]
  rw [hq] at rd4
  have H0 := Lib.hid h0
  have HQ := Lib.hid (fun _ : Unit => hq)
  have HQL := Lib.hid hql
  clear h0 hq hql r4
  have cc := bytesEq_any A A4 l q n c 512 c4 w4 HN.out (hr.keep_nil F4) hA HQL.out rd4 n4
  cases heq : (l == q)
  ·have hv : rmV l = none := by
    rw [rmV, if_neg]
    rw [HKK.out, HQ.out ()]
    intro h
    rw [h.2] at heq
    simp at heq
   have HV := Lib.hid hv
   rw [heq] at cc
   clear hv heq
   go_wp2_with fail
   refine cc.mono ?_
   rintro e w5 ⟨rfl, rfl⟩
   go_wp2_with fail
   go_ret2
   exact ⟨by rw [HV.out]; rfl, F4⟩
  ·have hv : rmV l = some k := by
    rw [rmV, if_pos, HKK.out]
    rw [HKK.out, HQ.out ()]
    exact ⟨H0.out, eq_of_beq heq⟩
   have HV := Lib.hid hv
   rw [heq] at cc
   clear hv heq
   go_wp2_with fail
   refine cc.mono ?_
   rintro e w5 ⟨rfl, rfl⟩
   go_wp2_with fail
   go_ret2
   exact ⟨by rw [HV.out]; rfl, F4⟩
set_option maxRecDepth 100000 in
set_option maxHeartbeats 4000000 in
theorem xrcReadMark_any (w : World) (A : Option Addr) (l : List UInt8) (n c : Nat) (hn : l.length = n) (hr : Rd w A (bvs l)) (hA : A = none → n = 0) (hc : n ≤ c) :
  Calls Tryz.prog 122 #[.slice A n c] w (RmC w l) := by
 by_cases h512 : n = 512
 ·subst h512
  have HN := Lib.hid hn
  have hk := numR_lt l
  have h5 := numR_512 hn
  obtain ⟨k, hkk⟩ : ∃ k, numR l = k := ⟨_, rfl⟩
  have HKK := Lib.hid hkk
  rw [hkk] at hk h5
  obtain ⟨ga, oa, rfl⟩ : ∃ ga oa, A = some ⟨ga, oa, none⟩ := by
   obtain ⟨g', o', e', -⟩ := hr (by intro h0; have := congrArg List.length h0; rw [bvs_length, hn, List.length_nil] at this; omega)
   exact ⟨g', o', e'⟩
  have rdn : Rd w (some ⟨ga, oa + 4, none⟩) (bvs ((l.drop 4).take 8)) := by
   have := (hr.drop 4).take 8
   rw [← bvs_drop, ← bvs_take] at this
   simpa [addr_add] using this
  have K12 : (12 : Int) ≤ c := by omega
  have N4 : ¬ (c = 4) := by omega
  have cv := xrcValue_any (some ⟨ga, oa + 4, none⟩) ((l.drop 4).take 8) 8 (c - 4) w (by rw [List.length_take, List.length_drop, hn]; rfl) rdn (by omega)
  rw [← h5] at cv
  have E0 := Lib.hid (fun (w' : World) (f : Fr [] w w') => strB w' (some ⟨ga, oa, none⟩) l 512 c hn (hr.keep_nil f) hA)
  clear hn hkk h5 rdn
  go_enter Tryz.func122, Tryz.ntmps122
  go_wp2_with fail
  refine cv.mono ?_
  rintro e w1 ⟨rfl, rfl⟩
  clear cv
  go_wp2_with fail
  refine (xrcMark_any w k hk).mono ?_
  rintro e w4 ⟨v, rfl, r4, f4⟩
  obtain ⟨A4, c4, rfl, -, -, -, -, -⟩ := r4.shape
  by_cases h0 : k = 0
  ·have hv : rmV l = none := by rw [rmV, if_neg (by rw [HKK.out]; exact fun h => h.1 h0)]
   have HV := Lib.hid hv
   rw [show (k != 0) = false by rw [h0]; rfl, show errG false 1 = 1 from rfl]
   clear hv
   go_wp2_with fail
   go_ret2
   exact ⟨by rw [HV.out]; rfl, f4⟩
  ·have E4 := r4.str
   have E5 := E0.out w4 f4
   simp only [if_neg h0] at E4
   rw [show (k != 0) = true by simpa using h0, show errG true 1 = 0 from rfl, if_neg h0]
   obtain ⟨q, hq⟩ : ∃ q, markB k = q := ⟨_, rfl⟩
   rw [hq] at E4
   have H0 := Lib.hid h0
   have HQ := Lib.hid (fun _ : Unit => hq)
   clear h0 hq r4
   by_cases heq : q = l
   ·have hv : rmV l = some k := by
     rw [rmV, if_pos, HKK.out]
     rw [HKK.out, HQ.out ()]
     exact ⟨H0.out, heq.symm⟩
    have HV := Lib.hid hv
    rw [heq] at E4
    clear hv heq
    go_wp2_with fail
    go_ret2
    exact ⟨by rw [HV.out]; rfl, f4⟩
   ·have hv : rmV l = none := by
     rw [rmV, if_neg]
     rw [HKK.out, HQ.out ()]
     intro h
     exact heq h.2.symm
    have HV := Lib.hid hv
    have hbe : (q == l) = false := by rw [beq_eq_false_iff_ne]; exact heq
    clear hv heq
    go_wp2_with fail
    go_ret2
    exact ⟨by rw [HV.out]; rfl, f4⟩
 ·have hv : rmV l = none := by
   rw [rmV, if_neg]
   intro h
   have := congrArg List.length h.2
   rw [markB_len] at this
   omega
  have HV := Lib.hid hv
  have d : ((n : Int) == 512) = false := by rw [beq_eq_false_iff_ne]; omega
  clear hv hn
  go_enter Tryz.func122, Tryz.ntmps122
  go_wp2_with fail
  go_ret2
  exact ⟨by rw [HV.out]; rfl, Fr.refl _ _⟩
end
end Go.Proofs.YtbanogfljpkbkaaGreatDoor
