/-
  Texts of this claim, one behind the other: RecN, RecO, RecP.
-/
import Derived.Test.YtbanogfljpkbkaaGreatDoorF16
import Derived.Laws.Bits64b
set_option linter.unusedSimpArgs false
set_option linter.unusedVariables false
set_option linter.unnecessarySimpa false
namespace Go.Proofs.YtbanogfljpkbkaaGreatDoor
section
open Go.RowKit
def tnB (b : List UInt8) : List UInt8 := if likeB b then turnB b else b
theorem tnB_len (b : List UInt8) : (tnB b).length = b.length := by unfold tnB; split; exact turnB_len b; rfl
def tnT (bs : List (List UInt8)) : Nat → Nat
 | 0 => 0
 | k + 1 => if likeB (bs.getD k []) then tnT bs k + 2 ^ k else tnT bs k
theorem tnT_lt (bs : List (List UInt8)) : ∀ k, tnT bs k < 2 ^ k
 | 0 => by simp [tnT]
 | k + 1 => by
  have := tnT_lt bs k
  rw [tnT, Nat.pow_succ]
  split <;> omega
def rcP (rs : List (Int × List UInt8)) : List Int := rs.map (·.1)
def rcD (rs : List (Int × List UInt8)) : List (List UInt8) := rs.map fun r => tnB r.2
def rcT (rs : List (Int × List UInt8)) : Nat → Nat := tnT (rs.map (·.2))
def rcOk (n : Nat) (rs : List (Int × List UInt8)) : Prop := n ≠ 0 ∧ rs.length ≤ 64 ∧ (∀ r ∈ rs, r.2.length = 512) ∧ rightF (rcP rs) = true
instance (n : Nat) (rs : List (Int × List UInt8)) : Decidable (rcOk n rs) := by unfold rcOk; infer_instance
def blkL (n : Nat) (rs : List (Int × List UInt8)) : List (List UInt8) := planB n (rcP rs) (rcT rs rs.length) :: rcD rs
def blkV (n : Nat) (rs : List (Int × List UInt8)) : Option (List (List UInt8)) := if rcOk n rs then some (blkL n rs ++ [doneB n (blkL n rs).flatten]) else none
theorem blkV_none {n : Nat} {rs : List (Int × List UInt8)} (h : ¬ rcOk n rs) : blkV n rs = none := if_neg h
theorem blkV_some {n : Nat} {rs : List (Int × List UInt8)} (h : rcOk n rs) : blkV n rs = some (blkL n rs ++ [doneB n (blkL n rs).flatten]) := if_pos h
def BlkC (w : World) (n : Nat) (rs : List (Int × List UInt8)) (e : Ending) (w' : World) : Prop :=
 ∃ v vs, e = .returned (.tuple #[v, .int .i64 (errG (blkV n rs).isSome 1)]) ∧ BRow w' w.heap.size v vs ((blkV n rs).getD []) ∧ Fr [] w w'
theorem BlkC.no {w w' : World} {n : Nat} {rs : List (Int × List UInt8)} (h : blkV n rs = none) (f : Fr [] w w') : BlkC w n rs (.returned (.tuple #[.slice none 0 0, .int .i64 1])) w' := by
 unfold BlkC
 rw [h]
 exact ⟨_, [], rfl, BRow.nil _ _, f⟩
theorem rcP_len (rs : List (Int × List UInt8)) : (rcP rs).length = rs.length := by simp [rcP]
theorem rcP_take (rs : List (Int × List UInt8)) (k : Nat) (h : k < rs.length) : zvs (rcP (rs.take (k + 1))) = zvs (rcP (rs.take k)) ++ [.int .i64 rs[k].1] := by
 rw [List.take_succ_eq_append_getElem h, rcP, List.map_append, zvs_append]; rfl
theorem rcD_take (rs : List (Int × List UInt8)) (k : Nat) (h : k < rs.length) : rcD (rs.take (k + 1)) = rcD (rs.take k) ++ [tnB rs[k].2] := by
 rw [List.take_succ_eq_append_getElem h, rcD, List.map_append]; rfl
theorem rcD_len (rs : List (Int × List UInt8)) : (rcD rs).length = rs.length := by simp [rcD]
theorem rcT_succ (rs : List (Int × List UInt8)) (k : Nat) (h : k < rs.length) : rcT rs (k + 1) = if likeB rs[k].2 then rcT rs k + 2 ^ k else rcT rs k := by
 rw [rcT, tnT]
 simp [h]
theorem rcD_flat (rs : List (Int × List UInt8)) (h : ∀ r ∈ rs, r.2.length = 512) : (rcD rs).flatten.length = 512 * rs.length := by
 induction rs with
 | nil => rfl
 | cons r rs ih =>
  rw [rcD, List.map_cons, List.flatten_cons, List.length_append, tnB_len, h r (by simp), ← rcD, ih (fun x hx => h x (by simp [hx]))]
  simp
  omega
theorem planB_len (n : Nat) (l : List Int) (t : Nat) (h : l.length ≤ 64) : (planB n l t).length = 512 := pad512_len (by rw [planR_len]; omega)
theorem rcP_in64 {rs : List (Int × List UInt8)} (h : ∀ i (hi : i < rs.length), in64 rs[i].1) : ∀ x ∈ rcP rs, in64 x := by
 intro x hx
 simp only [rcP, List.mem_map] at hx
 obtain ⟨r, hr, rfl⟩ := hx
 obtain ⟨i, hi, rfl⟩ := List.getElem_of_mem hr
 exact h i hi
theorem rowhd {w : World} {B n s : Nat} {e : TypeId} {v : Value} {xs : List Value} (h : Row w B e s v n xs) (hn : 0 < n) : ∃ g c, v = .slice (some ⟨g, 0, none⟩) n c := by
 rcases h.2 with ⟨_, e⟩ | ⟨g, cap, cur, fz, e, _⟩
 ·omega
 ·exact ⟨g, cap, e⟩
theorem BlkC.yes {w w' : World} {n : Nat} {rs : List (Int × List UInt8)} {v : Value} {vs : List Value} {bs : List (List UInt8)} (h : blkV n rs = some bs) (r : BRow w' w.heap.size v vs bs) (f : Fr [] w w') : BlkC w n rs (.returned (.tuple #[v, .int .i64 0])) w' := by
 unfold BlkC
 rw [h]
 exact ⟨_, vs, rfl, r, f⟩
theorem RdR.in64 {w : World} {A : Option Addr} {n c : Nat} {rs : List (Int × List UInt8)} (h : RdR w A n c rs) : ∀ x ∈ rcP rs, in64 x := rcP_in64 fun i hi => by
 have := h.len
 obtain ⟨g, o, e, hg, hc⟩ := h.cell (by omega)
 exact (hc i hi).1
theorem rcT_lt (rs : List (Int × List UInt8)) (k : Nat) (hk : k ≤ 64) : rcT rs k < 18446744073709551616 :=
 Nat.lt_of_lt_of_le (tnT_lt _ _) (Nat.le_trans (Nat.pow_le_pow_right (by omega) hk) (by decide : 2 ^ 64 ≤ 18446744073709551616))
theorem blkL_len (n : Nat) (rs : List (Int × List UInt8)) : (blkL n rs).length = rs.length + 1 := by rw [blkL, List.length_cons, rcD_len]
theorem blkL_flat {n : Nat} {rs : List (Int × List UInt8)} (h : ∀ r ∈ rs, r.2.length = 512) (hl : rs.length ≤ 64) : (blkL n rs).flatten.length = 512 * (rs.length + 1) := by
 rw [blkL, List.flatten_cons, List.length_append, planB_len _ _ _ (by rw [rcP_len]; exact hl), rcD_flat rs h]
 omega
theorem wr_or (t k : Nat) (h : t < 2 ^ k) (hk : k < 64) : bits .or .u64 (t : Int) (IntKind.u64.wrap (2 ^ k)) = ((t + 2 ^ k : Nat) : Int) := by
 have e1 : (2 : Int) ^ k = ((2 ^ k : Nat) : Int) := by push_cast; rfl
 have h2 : 2 ^ k ≤ 2 ^ 63 := Nat.pow_le_pow_right (by omega) (by omega)
 have e2 : t ||| 2 ^ k = t + 2 ^ k := by
  have := Nat.two_pow_add_eq_or_of_lt h 1
  rw [Nat.mul_one] at this
  rw [Nat.or_comm, ← this, Nat.add_comm]
 rw [e1, IntWalk.u64_in _ (by omega), bits_or_u64_nat t (2 ^ k) (by omega) (by omega), e2]
theorem rcT_or (rs : List (Int × List UInt8)) (k : Nat) (hk : k < 64) : bits .or .u64 ((rcT rs k : Nat) : Int) (IntKind.u64.wrap (2 ^ k)) = ((rcT rs k + 2 ^ k : Nat) : Int) := wr_or _ _ (tnT_lt _ _) hk
set_option maxRecDepth 100000 in
set_option maxHeartbeats 4000000 in
theorem rcBlocks_any (w : World) (A : Option Addr) (m n c : Nat) (rs : List (Int × List UInt8)) (hm : m < 18446744073709551616) (hr : RdR w A n c rs) (hK : KG w) :
  Calls Tryz.prog 146 #[.int .u64 m, .slice A n c] w (BlkC w m rs) := by
 by_cases hm0 : m = 0
 ·subst hm0
  have HV := Lib.hid (show blkV 0 rs = none from blkV_none fun h => h.1 rfl)
  go_enter Tryz.func146, Tryz.ntmps146
  go_wp2_with fail
  go_ret2
  exact BlkC.no HV.out (Fr.refl _ _)
 ·have hmm : ((m : Int) == 0) = false := by rw [beq_eq_false_iff_ne]; omega
  have HM0 := Lib.hid hm0
  have HRL := Lib.hid hr.len
  clear hm0
  by_cases hn : 64 < n
  ·have HV := Lib.hid (show blkV m rs = none from blkV_none fun h => by have := h.2.1; have := HRL.out; omega)
   go_enter Tryz.func146, Tryz.ntmps146
   go_wp2_with fail
   go_ret2
   exact BlkC.no HV.out (Fr.refl _ _)
  ·have hn64 : ¬ (64 < (n : Int)) := by omega
   go_enter Tryz.func146, Tryz.ntmps146
   go_wp2_with fail
   go_loopw [6, 7, 8, 22] (fun v6 v7 v8 i wr => ∃ k : Nat, k ≤ n ∧ i = .int .i64 k ∧ Row wr w.heap.size 3 1 v6 k (zvs (rcP (rs.take k))) ∧ (∃ vs, BRow wr w.heap.size v7 vs ([] :: rcD (rs.take k))) ∧ v8 = .int .u64 (rcT rs k : Nat) ∧ (∀ i (h : i < rs.length), i < k → rs[i].2.length = 512) ∧ Fr [] w wr) (fun _ _ _ i _ => n - (intOf i).toNat)
   case atStart =>
    refine ⟨0, Nat.zero_le _, rfl, Row.nil _ _ _ _, ⟨[.slice none 0 0], ?_⟩, rfl, fun i h h2 => absurd h2 (by omega), (Fr.refl _ _).alloc _⟩
    refine ⟨Row.new w #[.slice none 0 0] 27 1 1 (0, 0) (free_zero _) (by unfold maxLen; omega) rfl (Nat.le_refl _), fun i h1 h2 => ?_⟩
    obtain rfl : i = 0 := by simpa using h1
    exact Row.nil _ _ _ _
   case round =>
    obtain ⟨k, hk, rfl, R6, ⟨vs, R7⟩, rfl, hall, F⟩ := hrel
    by_cases hlt : k < n
    ·have hkl : k < rs.length := by rw [HRL.out]; exact hlt
     obtain ⟨g, o, rfl, hg, hc⟩ := hr.cell (by omega)
     obtain ⟨hx64, c0, v, c1, ⟨Ab, cb, rfl, rdw, nilb, leb⟩, reachb⟩ := hc k hkl
     replace c0 := F.cell (by simp) c0
     replace c1 := F.cell (by simp) c1
     have HPT := Lib.hid (rcP_take rs k hkl)
     have HDT := Lib.hid (rcD_take rs k hkl)
     have HTT := Lib.hid (rcT_succ rs k hkl)
     have HALL := Lib.hid (fun h5 : rs[k].2.length = 512 => (fun i (h : i < rs.length) (h2 : i < k + 1) => if e : i = k then by subst e; exact h5 else hall i h (by omega) : ∀ i (h : i < rs.length), i < k + 1 → rs[i].2.length = 512))
     have HNO := Lib.hid (fun h5 : rs[k].2.length ≠ 512 => (blkV_none (n := m) fun h => h5 (h.2.2.1 _ (List.getElem_mem hkl)) : blkV m rs = none))
     have HT64 := Lib.hid (tnT_lt (rs.map (·.2)) k)
     generalize rs[k] = rk at *
     obtain ⟨x, b⟩ := rk
     dsimp only at *
     obtain ⟨nb, hnb⟩ : ∃ nb, b.length = nb := ⟨_, rfl⟩
     rw [hnb] at c1 nilb leb reachb HALL HNO
     have HNB := Lib.hid hnb
     obtain ⟨W, hW⟩ : ∃ W, wr.alloc (.cells #[.int .i64 x, .slice Ab nb cb] 104) = W := ⟨_, rfl⟩
     obtain ⟨b9, hb9⟩ : ∃ b9, wr.heap.size = b9 := ⟨_, rfl⟩
     have k9 : Blk W b9 104 #[.int .i64 x, .slice Ab nb cb] := by rw [← hW, ← hb9]; exact Blk.new _ _ _
     have f9 : Fr [] wr W := by rw [← hW]; exact (Fr.refl _ _).alloc _
     have HW := Lib.hid hW
     have HB9 := Lib.hid hb9
     have R6 := R6.keep_nil f9
     have R7 := R7.keep_nil f9
     have F := F.trans_nil f9
     clear hW hb9 hc hall f9
     go_upto_region 9 with fail
     rw [HW.out, HB9.out]
     have e0 := k9.cell 0
     have e1 := k9.cell 1
     simp at e0 e1
     clear c0 c1
     have r7 := R7.row
     have L7 : ([] :: rcD (rs.take k)).length = k + 1 := by rw [List.length_cons, rcD_len, List.length_take, Nat.min_eq_left (by omega)]
     rw [L7] at r7
     obtain ⟨A6, cap6, rfl, -, -, -, -, -⟩ := R6.shape
     obtain ⟨A7, cap7, rfl, -, -, -, -, -⟩ := r7.shape
     by_cases h5 : nb = 512
     ·subst h5
      replace HALL := Lib.hid (HALL.out rfl)
      have HL7 := Lib.hid L7
      clear L7 r7 HNO
      go_wp2_with (at_builtin; refine wpList_app rfl rfl slI13 w.heap.size _ k (zvs (rcP (rs.take k))) rfl (R6.alloc _) _ 1 1 [_] rfl rfl (Rd.one _ _ _) (by intro u hu; rw [List.mem_singleton.1 hu]; rfl) (fun h => by cases h) (by omega) (by have := F.size; simp; omega) ?_; intro v6 w7 q1 q2 q3 q4; have k7 := (k9.alloc (.cells #[.int .i64 x] 3)).keep q2 (fun hm => (R6.ne_blk k9 (by decide)) (mem_own.1 hm)); have e7 := k7.cell 1; simp at e7)
      have F7 : Fr [] w w7 := (F.alloc _).trans q2 (fun i hi => .inr (R6.lt i (mem_own.1 hi)).1)
      have R7a := (R7.keep_nil ((Fr.refl [] W).alloc (.cells #[.int .i64 x] 3))).keep_row (R6.alloc _) q2 (by decide) (by decide)
      have rdb := rdw.keep_nil F7
      rw [← HPT.out] at q1
      obtain ⟨A6', cap6', rfl, -, -, -, -, -⟩ := q1.shape
      have R6a := q1
      clear q1 q2 q3 q4 k9 e0 e1 R6 R7 F k7
      refine (clone_any Ab b 512 cb w7 HNB.out rdb nilb (by omega)).mono ?_
      rintro e w8 ⟨v8, rfl, r8, f8⟩
      obtain ⟨A8, c8, rfl, hc8, -, -, -, -⟩ := r8.shape
      have R6 := R6a.keep_nil f8
      have R7 := R7a.keep_nil f8
      have F := F7.trans_nil f8
      have r8 := r8.mono F7.size
      clear R6a R7a rdb f8 F7 e7
      go_wp2_with fail
      have cc := rcLike_any A8 b 512 c8 w8 HNB.out r8.rd.1 r8.rd.2.2 (by omega) hc8
      cases hlk : likeB b
      ·rw [hlk] at cc
       refine cc.mono ?_
       clear cc
       rintro e w9 ⟨rfl, rfl⟩
       have HTT2 := Lib.hid (show ((rcT rs (k + 1) : Nat) : Int) = ((rcT rs k : Nat) : Int) by rw [HTT.out, hlk]; rfl)
       have HTN := Lib.hid (show b = tnB b by rw [tnB, hlk]; rfl)
       clear hlk
       have r9 : Row w8 w.heap.size 5 1 (.slice A8 512 c8) (tnB b).length (bvs (tnB b)) := by rw [← HTN.out, HNB.out]; exact r8
       have r7 : Row w8 w.heap.size 27 1 (.slice A7 (k + 1) cap7) (k + 1) vs := by have := R7.row; rwa [HL7.out] at this
       go_wp2_with (at_builtin; refine wpList_app rfl rfl slBB w.heap.size _ (k + 1) vs rfl (r7.alloc _) _ 1 1 [_] rfl rfl (Rd.one _ _ _) (by intro u hu; rw [List.mem_singleton.1 hu]; rfl) (fun h => by cases h) (by omega) (by have := F.size; simp; omega) ?_; intro v7 wx q1 q2 q3 q4)
       have fa : Fr [] w8 (w8.alloc (.cells #[.slice A8 512 c8] 27)) := (Fr.refl [] w8).alloc _
       have R7b := (R7.keep_nil fa).snoc (r9.keep_nil fa) q2 (by rw [HL7.out]; exact q1)
       rw [List.cons_append, ← HDT.out] at R7b
       exact ⟨⟨k + 1, by omega, by go_num, (R6.keep_nil fa).keep q2 (fun g hg hm => (R6.keep_nil fa).ne_rowR (r7.keep_nil fa) (by decide) g hg (mem_own.1 hm)), ⟨_, R7b⟩, by rw [HTT2.out], HALL.out, (F.alloc _).trans q2 (fun i hi => .inr (r7.lt i (mem_own.1 hi)).1)⟩, by simp [intOf]; omega⟩
      ·rw [hlk] at cc
       refine cc.mono ?_
       clear cc
       rintro e w9 ⟨rfl, rfl⟩
       go_wp2_with fail
       refine (rcTurn_any A8 b 512 c8 w8 HNB.out r8.rd.1 r8.rd.2.2 (by omega) (by omega)).mono ?_
       rintro e w9 ⟨v9, rfl, r9, f9⟩
       obtain ⟨A9, c9, rfl, -, -, -, -, -⟩ := r9.shape
       have HTT2 := Lib.hid (show ((rcT rs (k + 1) : Nat) : Int) = bits .or .u64 ((rcT rs k : Nat) : Int) (IntKind.u64.wrap (2 ^ k)) by rw [HTT.out, hlk, rcT_or _ _ (by omega)]; rfl)
       have HTN := Lib.hid (show turnB b = tnB b by rw [tnB, hlk]; rfl)
       clear hlk
       replace R6 := R6.keep_nil f9
       replace R7 := R7.keep_nil f9
       replace r9 : Row w9 w.heap.size 5 1 (.slice A9 512 c9) (tnB b).length (bvs (tnB b)) := by rw [← HTN.out, turnB_len, HNB.out]; exact r9.mono F.size
       replace F := F.trans_nil f9
       have r7 : Row w9 w.heap.size 27 1 (.slice A7 (k + 1) cap7) (k + 1) vs := by have := R7.row; rwa [HL7.out] at this
       go_wp2_with (at_builtin; refine wpList_app rfl rfl slBB w.heap.size _ (k + 1) vs rfl (r7.alloc _) _ 1 1 [_] rfl rfl (Rd.one _ _ _) (by intro u hu; rw [List.mem_singleton.1 hu]; rfl) (fun h => by cases h) (by omega) (by have := F.size; simp; omega) ?_; intro v7 wx q1 q2 q3 q4)
       have fa : Fr [] w9 (w9.alloc (.cells #[.slice A9 512 c9] 27)) := (Fr.refl [] w9).alloc _
       have R7b := (R7.keep_nil fa).snoc (r9.keep_nil fa) q2 (by rw [HL7.out]; exact q1)
       rw [List.cons_append, ← HDT.out] at R7b
       exact ⟨⟨k + 1, by omega, by go_num, (R6.keep_nil fa).keep q2 (fun g hg hm => (R6.keep_nil fa).ne_rowR (r7.keep_nil fa) (by decide) g hg (mem_own.1 hm)), ⟨_, R7b⟩, by rw [HTT2.out], HALL.out, (F.alloc _).trans q2 (fun i hi => .inr (r7.lt i (mem_own.1 hi)).1)⟩, by simp [intOf]; omega⟩
     ·have HV := Lib.hid (HNO.out h5)
      clear HALL
      go_wp2_with fail
      go_ret2
      exact BlkC.no HV.out F
    ·obtain rfl : k = n := by omega
     rw [List.take_of_length_le (by rw [HRL.out]; exact Nat.le_refl _)] at R6 R7
     obtain ⟨A6, cap6, rfl, -, -, -, -, -⟩ := R6.shape
     have L7 : ([] :: rcD rs).length = k + 1 := by rw [List.length_cons, rcD_len, HRL.out]
     have r7 := R7.row
     rw [L7] at r7
     obtain ⟨g7, cap7, rfl⟩ := rowhd r7 (by omega)
     have HPL := Lib.hid (show (rcP rs).length = k by rw [rcP_len, HRL.out])
     have H512 := Lib.hid (show ∀ r ∈ rs, r.2.length = 512 from fun r hr => by
      obtain ⟨i, hi, rfl⟩ := List.getElem_of_mem hr
      exact hall i hi (by rw [← HRL.out]; exact hi))
     have HI := Lib.hid hr.in64
     clear hall r7 L7
     go_wp2_with fail
     have cc := rcRight_any A6 (rcP rs) k cap6 wr HPL.out R6.rd.1 HI.out (by omega)
     cases hrt : rightF (rcP rs)
     ·rw [hrt] at cc
      have HV := Lib.hid (show blkV m rs = none from blkV_none fun h => by rw [h.2.2.2] at hrt; cases hrt)
      clear hrt
      refine cc.mono ?_
      clear cc
      rintro e w1 ⟨rfl, f1⟩
      go_wp2_with fail
      go_ret2
      exact BlkC.no HV.out (F.trans_nil f1)
     ·rw [hrt] at cc
      have HR := Lib.hid hrt
      clear hrt
      refine cc.mono ?_
      clear cc
      rintro e w1 ⟨rfl, f1⟩
      replace R6 := R6.keep_nil f1
      replace R7 := R7.keep_nil f1
      replace F := F.trans_nil f1
      clear f1
      go_wp2_with fail
      refine (rcplan_any hm (rcT_lt rs k (by omega)) R6 (right_in HR.out) (by omega)).mono ?_
      rintro e w2 ⟨r, rfl, r2, f2⟩
      obtain ⟨A2, cap2, rfl, -, -, -, -, -⟩ := r2.shape
      replace R7 := R7.keep_nil f2
      replace r2 := r2.mono F.size
      replace F := F.trans_nil f2
      clear R6 f2
      have hlv := R7.vlen
      obtain ⟨x, vs', rfl⟩ : ∃ x vs', vs = x :: vs' := by
       cases vs with
       | nil => simp at hlv
       | cons x r => exact ⟨x, r, rfl⟩
      have r7 := R7.row
      rw [show ([] :: rcD rs).length = k + 1 by rw [List.length_cons, rcD_len, HRL.out]] at r7
      obtain ⟨c7, z7, -⟩ := rowset r7 (.slice A2 512 cap2)
      have hx := (R7.each 0 (by simp) (by simp)).slb
      simp only [List.getElem_cons_zero] at hx
      obtain ⟨Ax, cx, rfl, -⟩ := hx
      have g7b : w.heap.size ≤ g7 := (r7.lt g7 rfl).1
      have R8 := R7.set0 (y := .slice A2 512 cap2) (d := planB m (rcP rs) (rcT rs k)) (by rw [planB_len _ _ _ (by rw [HPL.out]; omega)]; exact r2)
      have F8 : Fr [] w (w2.setCell ⟨g7, 0, none⟩ (.slice A2 512 cap2)) := F.setCell (.inr g7b) _
      have hb8 : blkL m rs = planB m (rcP rs) (rcT rs k) :: rcD rs := by rw [blkL, HRL.out]
      rw [← hb8] at R8
      clear R7 r2 F hlv hb8 r7
      go_upto_region 21 with fail
      generalize w2.setCell ⟨g7, 0, none⟩ (.slice A2 512 cap2) = w3 at *
      clear c7 z7
      go_wp2_with fail
      have hfl := blkL_flat (n := m) H512.out (by rw [HRL.out]; omega)
      have r8 := R8.row
      rw [blkL_len, HRL.out] at r8
      have HL8 := Lib.hid (show (blkL m rs).length = k + 1 by rw [blkL_len, HRL.out])
      refine (rcSeal_any (bs := blkL m rs) hm HL8.out R8.brd (by rw [hfl, HRL.out]; omega) (by omega) (hK.keep F8)).mono ?_
      rintro e w4 ⟨r, rfl, r4, f4⟩
      obtain ⟨A4, cap4, rfl, -, -, -, -, -⟩ := r4.shape
      replace R8 := R8.keep_nil f4
      replace r8 := r8.keep_nil f4
      replace r4 : Row w4 w.heap.size 5 1 (.slice A4 512 cap4) (doneB m (blkL m rs).flatten).length (bvs (doneB m (blkL m rs).flatten)) := by rw [doneB_len]; exact r4.mono F8.size
      replace F8 := F8.trans_nil f4
      clear f4 hfl
      obtain ⟨d, hd⟩ : ∃ d, doneB m (blkL m rs).flatten = d := ⟨_, rfl⟩
      rw [hd] at r4
      have HV := Lib.hid (show blkV m rs = some (blkL m rs ++ [d]) by rw [← hd]; exact blkV_some ⟨HM0.out, by rw [HRL.out]; omega, H512.out, HR.out⟩)
      clear hd
      go_wp2_with (at_builtin; refine wpList_app rfl rfl slBB w.heap.size _ (k + 1) _ rfl (r8.alloc _) _ 1 1 [_] rfl rfl (Rd.one _ _ _) (by intro u hu; rw [List.mem_singleton.1 hu]; rfl) (fun h => by cases h) (by omega) (by have := F8.size; simp; omega) ?_; intro v7 wx q1 q2 q3 q4)
      have fa : Fr [] w4 (w4.alloc (.cells #[.slice A4 512 cap4] 27)) := (Fr.refl [] w4).alloc _
      have R9 := (R8.keep_nil fa).snoc (r4.keep_nil fa) q2 (by rw [HL8.out]; exact q1)
      go_ret2
      exact BlkC.yes HV.out R9 ((F8.alloc _).trans q2 (fun i hi => .inr (r8.lt i (mem_own.1 hi)).1))
end
section
open Go.RowKit
theorem BRow.cons {w w' : World} {B : Nat} {v v' v'' r : Value} {vs : List Value} {d : List UInt8} {bs : List (List UInt8)} (h1 : Row w B 27 1 v 1 [r]) (hr : Row w B 5 1 r d.length (bvs d)) (h2 : BRow w B v' vs bs) (f : Fr v.ownBlock.toList w w') (hq : Row w' B 27 1 v'' (1 + bs.length) ([r] ++ vs)) : BRow w' B v'' (r :: vs) (d :: bs) := by
 have kp : ∀ {z : Value} {l : List UInt8}, Row w B 5 1 z l.length (bvs l) → Row w' B 5 1 z l.length (bvs l) := fun hx =>
  hx.keep f (fun g hg hm => hx.ne_rowR h1 (by decide) g hg (mem_own.1 hm))
 refine ⟨by rw [List.length_cons, Nat.add_comm]; exact hq, fun i h3 h4 => ?_⟩
 cases i with
 | zero => exact kp hr
 | succ i => exact kp (h2.each i (by simpa using h3) (by simpa using h4))
theorem BRow.one {w : World} {B : Nat} {v : Value} {vs : List Value} {bs : List (List UInt8)} (h : BRow w B v vs bs) : ∀ u ∈ vs, u.oneCell' = true := by
 intro u hu
 obtain ⟨i, hi, rfl⟩ := List.getElem_of_mem hu
 exact (h.each i hi (by rw [← h.vlen]; exact hi)).slb.one
theorem flat512 {bs : List (List UInt8)} (h : ∀ b ∈ bs, b.length = 512) : bs.flatten.length = 512 * bs.length := by
 induction bs with
 | nil => rfl
 | cons b bs ih =>
  rw [List.flatten_cons, List.length_append, h b (by simp), ih (fun x hx => h x (by simp [hx])), List.length_cons]
  omega
set_option maxRecDepth 100000 in
set_option maxHeartbeats 4000000 in
end
section
open Go.RowKit
theorem slR : SlT Tryz.prog 87 104 2 32 (.agg #[.int .i64 0, .slice none 0 0]) := ⟨Tryz.underlying87, by kernel_rfl, rfl, by decide, by decide⟩
def rcells (ps : List (Int × Value)) : List Value := ps.flatMap fun p => [.int .i64 p.1, p.2]
theorem rcells_len (ps : List (Int × Value)) : (rcells ps).length = ps.length * 2 := by
 induction ps with
 | nil => rfl
 | cons p r ih => rw [rcells, List.flatMap_cons, List.length_append, ← rcells, ih, List.length_cons]; simp; omega
theorem rcells_snoc (ps : List (Int × Value)) (p : Int × Value) : rcells (ps ++ [p]) = rcells ps ++ [.int .i64 p.1, p.2] := by simp [rcells]
theorem rcells_at (ps : List (Int × Value)) (i : Nat) (h : i < ps.length) : (rcells ps)[i * 2]? = some (.int .i64 ps[i].1) ∧ (rcells ps)[i * 2 + 1]? = some ps[i].2 := by
 induction ps generalizing i with
 | nil => simp at h
 | cons p r ih =>
  cases i with
  | zero => exact ⟨rfl, rfl⟩
  | succ i =>
   have := ih i (by simpa using h)
   rw [show (i + 1) * 2 = i * 2 + 2 by omega, show i * 2 + 2 + 1 = (i * 2 + 1) + 2 by omega]
   exact this
structure RRow (w : World) (B : Nat) (v : Value) (ps : List (Int × Value)) (rs : List (Int × List UInt8)) : Prop where
 row : Row w B 104 2 v rs.length (rcells ps)
 len : ps.length = rs.length
 each : ∀ i (h : i < ps.length) (h' : i < rs.length), ps[i].1 = rs[i].1 ∧ Row w B 5 1 ps[i].2 rs[i].2.length (bvs rs[i].2)
theorem RRow.nil (w : World) (B : Nat) : RRow w B (.slice none 0 0) [] [] := ⟨Row.nil _ _ _ _, rfl, fun i h => by simp at h⟩
theorem RRow.keep_nil {w w' : World} {B : Nat} {v : Value} {ps : List (Int × Value)} {rs : List (Int × List UInt8)} (h : RRow w B v ps rs) (f : Fr [] w w') : RRow w' B v ps rs :=
 ⟨h.row.keep_nil f, h.len, fun i h1 h2 => ⟨(h.each i h1 h2).1, (h.each i h1 h2).2.keep_nil f⟩⟩
theorem RRow.mono {w : World} {B B' : Nat} {v : Value} {ps : List (Int × Value)} {rs : List (Int × List UInt8)} (h : RRow w B v ps rs) (hB : B' ≤ B) : RRow w B' v ps rs :=
 ⟨h.row.mono hB, h.len, fun i h1 h2 => ⟨(h.each i h1 h2).1, (h.each i h1 h2).2.mono hB⟩⟩
theorem RRow.snoc {w w' : World} {B : Nat} {v v' u : Value} {x : Int} {ps : List (Int × Value)} {rs : List (Int × List UInt8)} {b : List UInt8} (h : RRow w B v ps rs) (hu : Row w B 5 1 u b.length (bvs b)) (f : Fr v.ownBlock.toList w w') (hr : Row w' B 104 2 v' (rs.length + 1) (rcells ps ++ [.int .i64 x, u])) : RRow w' B v' (ps ++ [(x, u)]) (rs ++ [(x, b)]) := by
 have kp : ∀ {z : Value} {l : List UInt8}, Row w B 5 1 z l.length (bvs l) → Row w' B 5 1 z l.length (bvs l) := fun hx =>
  hx.keep f (fun g hg hm => hx.ne_rowR h.row (by decide) g hg (mem_own.1 hm))
 have hl := h.len
 refine ⟨by rw [List.length_append, rcells_snoc]; exact hr, by rw [List.length_append, List.length_append, hl]; rfl, fun i h1 h2 => ?_⟩
 by_cases hi : i < ps.length
 ·have e1 : (ps ++ [(x, u)])[i] = ps[i] := List.getElem_append_left hi
  have e2 : (rs ++ [(x, b)])[i] = rs[i] := List.getElem_append_left (by omega)
  rw [e1, e2]
  exact ⟨(h.each i hi (by omega)).1, kp (h.each i hi (by omega)).2⟩
 ·have hiv : i = ps.length := by rw [List.length_append, List.length_singleton] at h1; omega
  subst hiv
  have e1 : (ps ++ [(x, u)])[ps.length] = (x, u) := by rw [List.getElem_append_right (Nat.le_refl _)]; simp
  have e2 : (rs ++ [(x, b)])[ps.length] = (x, b) := by rw [List.getElem_append_right (by omega)]; simp
  rw [e1, e2]
  exact ⟨rfl, kp hu⟩
def trB (t i : Nat) (b : List UInt8) : List UInt8 := if t / 2 ^ i % 2 = 1 then turnB b else b
theorem trB_len (t i : Nat) (b : List UInt8) : (trB t i b).length = b.length := by unfold trB; split; exact turnB_len b; rfl
def trE (t : Nat) (L : List Int) (bs : List (List UInt8)) (i : Nat) : Int × List UInt8 := (L.getD i 0, trB t i (bs.getD (1 + i) []))
def trQ (t : Nat) (bs : List (List UInt8)) (i : Nat) : Prop := decide (t / 2 ^ i % 2 = 1) = likeB (trB t i (bs.getD (1 + i) []))
instance (t : Nat) (bs : List (List UInt8)) (i : Nat) : Decidable (trQ t bs i) := by unfold trQ; infer_instance
def trOk (n : Nat) (bs : List (List UInt8)) (m : Nat) (L : List Int) (t : Nat) : Prop :=
 m = n ∧ L.length + 1 < bs.length ∧ (∀ b ∈ bs.take (L.length + 1), b.length = 512) ∧ bs.getD (L.length + 1) [] = doneB n (bs.take (L.length + 1)).flatten ∧ ∀ i, i < L.length → trQ t bs i
instance (n : Nat) (bs : List (List UInt8)) (m : Nat) (L : List Int) (t : Nat) : Decidable (trOk n bs m L t) := by unfold trOk; infer_instance
def trV (n : Nat) (bs : List (List UInt8)) : Option (List (Int × List UInt8)) :=
 match plV (bs.headD []) with
 | none => none
 | some (m, L, t) => if trOk n bs m L t then some ((List.range L.length).map (trE t L bs)) else none
theorem trV_none {n : Nat} {bs : List (List UInt8)} (h : plV (bs.headD []) = none) : trV n bs = none := by unfold trV; rw [h]
theorem trV_no {n : Nat} {bs : List (List UInt8)} {m t : Nat} {L : List Int} (h : plV (bs.headD []) = some (m, L, t)) (h2 : ¬ trOk n bs m L t) : trV n bs = none := by unfold trV; rw [h]; exact if_neg h2
theorem trV_some {n : Nat} {bs : List (List UInt8)} {m t : Nat} {L : List Int} (h : plV (bs.headD []) = some (m, L, t)) (h2 : trOk n bs m L t) : trV n bs = some ((List.range L.length).map (trE t L bs)) := by unfold trV; rw [h]; exact if_pos h2
def trN (n : Nat) (bs : List (List UInt8)) : Nat := match trV n bs with | none => 0 | some rs => rs.length + 2
def TrC (w : World) (n : Nat) (bs : List (List UInt8)) (e : Ending) (w' : World) : Prop :=
 ∃ v ps, e = .returned (.tuple #[v, .int .i64 ((trN n bs : Nat) : Int), .int .i64 (errG (trV n bs).isSome 110)]) ∧ RRow w' w.heap.size v ps ((trV n bs).getD []) ∧ Fr [] w w'
theorem TrC.no {w w' : World} {n : Nat} {bs : List (List UInt8)} (h : trV n bs = none) (f : Fr [] w w') : TrC w n bs (.returned (.tuple #[.slice none 0 0, .int .i64 0, .int .i64 110])) w' := by
 unfold TrC trN
 rw [h]
 exact ⟨_, [], rfl, RRow.nil _ _, f⟩
theorem TrC.yes {w w' : World} {n k : Nat} {bs : List (List UInt8)} {v : Value} {ps : List (Int × Value)} {rs : List (Int × List UInt8)} {z : Int} (h : trV n bs = some rs) (hz : z = ((rs.length + 2 : Nat) : Int)) (r : RRow w' w.heap.size v ps rs) (f : Fr [] w w') : TrC w n bs (.returned (.tuple #[v, .int .i64 z, .int .i64 0])) w' := by
 unfold TrC trN
 rw [h, hz]
 exact ⟨_, ps, rfl, r, f⟩
theorem PartC.of_none {w w' : World} {l : List UInt8} {e : Ending} (h : plV l = none) (k : PartC w l e w') : ∃ v, e = .returned (.tuple #[.int .u64 0, v, .int .u64 0, .int .i64 110]) ∧ Row w' w.heap.size 3 1 v 0 [] ∧ Fr [] w w' := by
 unfold PartC at k
 rw [h] at k
 exact k
theorem PartC.of_some {w w' : World} {l : List UInt8} {e : Ending} {n t : Nat} {L : List Int} (h : plV l = some (n, L, t)) (k : PartC w l e w') : ∃ v, e = .returned (.tuple #[.int .u64 (n : Int), v, .int .u64 (t : Int), .int .i64 0]) ∧ Row w' w.heap.size 3 1 v L.length (zvs L) ∧ Fr [] w w' := by
 unfold PartC at k
 rw [h] at k
 exact k
theorem plV_b {l : List UInt8} {n t : Nat} {L : List Int} (h : plV l = some (n, L, t)) : l.length = 512 ∧ 1 ≤ L.length ∧ L.length ≤ 64 ∧ n < 18446744073709551616 ∧ t < 18446744073709551616 ∧ (∀ x ∈ L, 0 ≤ x ∧ x < 4096) := by
 unfold plV at h
 split at h
 ·rename_i hk
  simp only [Option.some.injEq, Prod.mk.injEq] at h
  obtain ⟨rfl, rfl, rfl⟩ := h
  have h6 := hk.2.2.2.2.2.2
  refine ⟨hk.1, ?_, by rw [plL_len]; exact hk.2.1, plN_lt _, plT_lt _, right_in h6⟩
  simp only [rightF, Bool.and_eq_true, decide_eq_true_eq] at h6
  exact h6.2.2.1
 ·cases h
def all5 (bs : List (List UInt8)) : Bool := bs.all fun b => b.length == 512
theorem BRd.take {w : World} {A : Option Addr} {vs : List Value} {bs : List (List UInt8)} (h : BRd w A vs bs) (k : Nat) : BRd w A (vs.take k) (bs.take k) :=
 ⟨h.rd.take k, by rw [List.length_take, List.length_take, h.len], fun i h1 h2 => by
  rw [List.length_take] at h1 h2
  have := h.each i (by omega) (by omega)
  simpa using this⟩
set_option maxHeartbeats 1000000 in
theorem rcParse1_any (w : World) (v : Value) (l : List UInt8) (h : SlB w v l) : Calls Tryz.prog 173 #[v] w fun e w' => e = .returned (.bool (!(l.length == 512))) ∧ w = w' := by
 obtain ⟨A, c, rfl, -⟩ := h
 generalize l.length = n
 by_cases h5 : n = 512
 ·subst h5
  go_enter Tryz.func173, Tryz.ntmps173
  go_wp2_with fail
  go_ret
  exact ⟨rfl, rfl⟩
 ·have d1 := Lib.hid (show ((n : Int) != 512) = true by simp only [bne_iff_ne]; omega)
  have d2 := Lib.hid (show (n == 512) = false by rw [beq_eq_false_iff_ne]; exact h5)
  clear h5
  go_enter Tryz.func173, Tryz.ntmps173
  go_wp2_with fail
  go_ret
  exact ⟨by rw [d2.out]; exact congrArg (fun b => Ending.returned (.bool b)) d1.out, rfl⟩
set_option maxHeartbeats 1000000 in
theorem indexBB_any (A : Option Addr) (vs : List Value) (bs : List (List UInt8)) (n c : Nat) (w : World) (hn : bs.length = n) (hr : BRd w A vs bs) (hl : n ≤ 140737488355328) :
  Calls Tryz.prog 185 #[.slice A n c, .func (.func 173) #[] #[]] w fun e w' => (∃ z : Int, e = .returned (.int .i64 z) ∧ decide (0 ≤ z) = !all5 bs) ∧ w = w' := by
 have HN := Lib.hid hn
 clear hn
 go_enter Tryz.func185, Tryz.ntmps185
 go_wp2_with fail
 go_loop [8] (fun i => ∃ k : Nat, k ≤ n ∧ i = .int .i64 k ∧ all5 (bs.take k) = true) (fun i => n - (intOf i).toNat)
 case atStart => exact ⟨0, Nat.zero_le _, rfl, rfl⟩
 case round =>
  obtain ⟨k, hk, rfl, hz⟩ := hrel
  have Hz := Lib.hid hz
  clear hz
  by_cases hlt : k < n
  ·have hkl : k < bs.length := by rw [HN.out]; exact hlt
   have hkv : k < vs.length := by rw [hr.len]; exact hkl
   obtain ⟨ga, oa, rfl, hc⟩ := hr.rd (by intro h; rw [h] at hkv; simp at hkv)
   have ck := hc k vs[k] (List.getElem?_eq_getElem hkv)
   have hs := hr.each k hkv hkl
   have HT := Lib.hid (show all5 (bs.take (k + 1)) = (all5 (bs.take k) && (bs[k].length == 512)) by unfold all5; rw [List.take_succ_eq_append_getElem hkl, List.all_append]; simp only [List.all_cons, List.all_nil, Bool.and_true])
   have HF := Lib.hid (show bs[k].length ≠ 512 → all5 bs = false from fun h => by
    rw [all5, List.all_eq_false]
    exact ⟨bs[k], List.getElem_mem hkl, by simpa using h⟩)
   obtain ⟨Ak, cK, hv, hrest⟩ := id hs
   rw [hv] at ck
   have cc := rcParse1_any w _ _ hs
   rw [hv] at cc
   obtain ⟨b, hb⟩ : ∃ b, bs[k] = b := ⟨_, rfl⟩
   rw [hb] at ck cc HT HF
   clear hc hv hrest hs hb
   by_cases h5 : b.length = 512
   ·rw [h5, show (!(512 == 512)) = false from rfl] at cc
    rw [h5] at ck
    have H5 := Lib.hid h5
    clear h5 HF
    go_wp2_with fail
    refine cc.mono ?_
    clear cc
    rintro e w1 ⟨rfl, rfl⟩
    go_wp2_with fail
    exact ⟨⟨k + 1, by omega, by go_num, by rw [HT.out, Hz.out, H5.out]; rfl⟩, by simp [intOf]; omega⟩
   ·rw [show (!(b.length == 512)) = true by simp [h5]] at cc
    have H5 := Lib.hid (HF.out h5)
    clear h5 HF
    go_wp2_with fail
    refine cc.mono ?_
    clear cc
    rintro e w1 ⟨rfl, rfl⟩
    go_wp2_with fail
    go_ret
    exact ⟨⟨_, rfl, by rw [H5.out]; simp⟩, rfl⟩
  ·have hk' : k = n := by omega
   have e := Hz.out
   rw [List.take_of_length_le (by rw [HN.out, hk']; exact Nat.le_refl _)] at e
   have H := Lib.hid e
   clear e hk' Hz
   go_wp2_with fail
   go_ret
   exact ⟨⟨_, rfl, by rw [H.out]; rfl⟩, rfl⟩
set_option maxHeartbeats 1000000 in
theorem containsBB_any (A : Option Addr) (vs : List Value) (bs : List (List UInt8)) (n c : Nat) (w : World) (hn : bs.length = n) (hr : BRd w A vs bs) (hl : n ≤ 140737488355328) :
  Calls Tryz.prog 133 #[.slice A n c, .func (.func 173) #[] #[]] w fun e w' => e = .returned (.bool (!all5 bs)) ∧ w = w' := by
 go_enter Tryz.func133, Tryz.ntmps133
 go_wp2_with fail
 refine (indexBB_any A vs bs n c w hn hr hl).mono ?_
 rintro e w1 ⟨⟨z, rfl, hz⟩, rfl⟩
 have HZ := Lib.hid hz
 clear hz
 go_wp2_with fail
 go_ret
 exact ⟨by rw [← HZ.out]; rfl, rfl⟩
end
end Go.Proofs.YtbanogfljpkbkaaGreatDoor
