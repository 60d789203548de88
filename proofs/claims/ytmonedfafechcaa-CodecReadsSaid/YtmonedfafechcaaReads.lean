/-
  CodecReads, the walk: whatever is read of any bytes.
-/
import Derived.Test.YtmonedfafechcaaCodI
import Derived.Test.YtmonedfafechcaaRow09
import Derived.Deep.RegionHeld3
set_option linter.unusedSimpArgs false
set_option linter.unusedVariables false
set_option linter.unnecessarySimpa false
namespace Go.Proofs.Ytmonedfafechcaa
open Go.RowKit

set_option maxRecDepth 100000 in
set_option maxHeartbeats 4000000 in
theorem reads_any (w : World) (A : Option Addr) (l : List UInt8) (n cap : Nat) (hb : ArgB w A n cap l) (B : Option Addr) (m bcap : Nat) (ops : List OpM) (ho : ArgOps w B m bcap ops) :
    Calls Try.prog 5 #[.slice A n cap, .slice B m bcap] w fun e w' => e = .returned (.bool true) ∧ Fr [] w w' := by
  have HN := Lib.hid hb.len
  have hn1 := hb.reach
  have hm1 := ho.reach
  have hr := hb.rd
  have hA := hb.nil
  go_enter Try.func5, Try.ntmps5
  go_wp2_with (at_builtin; refine wpList_app rfl rfl slB w.heap.size (.slice (some ⟨w.heap.size, 0, none⟩) 0 0) 0 [] rfl (Row.new w #[] 5 1 0 (0, 0) (free_zero _) (by unfold maxLen; omega) rfl (Nat.le_refl _)) A n cap (bvs l) rfl (by rw [bvs_length, HN.out]; omega) (hr.alloc _) (bvs_one l) hA (by omega) (by simp) ?_; intro v1 w1 q1 q2 q3 q4)
  have F1 : Fr [] w w1 := ((Fr.refl [] w).alloc _).trans q2 (fun i hi => .inr (by rw [own_mem.1 hi]; exact Nat.le_refl _))
  have s1 := F1.size
  rw [Nat.zero_add, List.nil_append] at q1
  obtain ⟨A1, cap1, rfl, -, -, -, -, -⟩ := q1.shape
  have nil1 := q1.rd.2.2
  have rd1 := q1.rd.1
  have lt1 := q1.lt
  clear q2 q3 q4
  go_wp2_with fail
  refine (newReader_any A1 l n cap1 w1 HN.out rd1 nil1 (by omega)).mono ?_
  rintro e w2 ⟨p1, G1, rfl, x2, f2, z1, g1⟩
  have F2 := F1.trans_nil f2
  go_wp2_with fail
  refine (xNewReader_any A l n cap w2 HN.out (hr.keep_nil F2) hA (by omega)).mono ?_
  rintro e w3 ⟨p2, G2, rfl, y3, f3, z2, g2⟩
  have x3 := x2.keep f3 (by simp) (by simp)
  have l1 := x2.lt
  have s2 := f2.size
  have s3 := f3.size
  have F3 := F2.trans_nil f3
  go_wp2_with fail
  refine (lives09_any w3).mono ?_
  rintro e w4 ⟨rfl, f4⟩
  have x4 := x3.keep f4 (by simp) (by simp)
  have y4 := y3.keep f4 (by simp) (by simp)
  have F4 := F3.trans_nil f4
  have s4 := f4.size
  have L12 : p1 ≠ p2 := by omega
  have v4 := ((q1.keep_nil f2).keep_nil f3).keep_nil f4
  have v4p : ∀ g, (Value.slice A1 n cap1).ownBlock = some g → g ≠ p1 ∧ g ≠ p2 := fun g hg => by have := lt1 g hg; omega
  clear x2 x3 y3 f2 f3 f4 F2 F3 q1 rd1 nil1
  go_wp2_with fail
  go_loopw [8, 10] (fun i _ wr => ∃ k : Nat, k ≤ m ∧ i = .int .i64 k ∧ ∃ q bad, Rdr 95 wr p1 G1 q bad ∧ Rdr 48 wr p2 G2 q bad ∧ Row wr w.heap.size 5 1 (.slice A1 n cap1) n (bvs l) ∧ Fr [] w wr ∧ w4.heap.size ≤ wr.heap.size) (fun i _ _ => m - (intOf i).toNat)
  case atStart => exact ⟨0, Nat.zero_le _, rfl, l, false, x4, y4, v4, F4, Nat.le_refl _⟩
  case round =>
    obtain ⟨k, hk, rfl, q, bad, x5, y5, v5, F5, s5⟩ := hrel
    clear x4 y4 v4 F4
    by_cases hlt : k < m
    · have hkl : k < ops.length := by rw [ho.len]; exact hlt
      obtain ⟨g, o, rfl, hg, hc⟩ := ho.rd (by omega)
      have hok := ho.ok _ (List.getElem_mem hkl)
      have c0 := F5.cell (p := ⟨g, o + k * 4, none⟩) (by simp) (hc k hkl 0 (by omega))
      have c1 := F5.cell (p := ⟨g, o + k * 4 + 1, none⟩) (by simp) (hc k hkl 1 (by omega))
      have c2 := F5.cell (p := ⟨g, o + k * 4 + 2, none⟩) (by simp) (hc k hkl 2 (by omega))
      have c3 := F5.cell (p := ⟨g, o + k * 4 + 3, none⟩) (by simp) (hc k hkl 3 (by omega))
      generalize ops[k] = op at *
      obtain ⟨kd, num, x, OA, om, oc, ol⟩ := op
      obtain ⟨W, hW⟩ : ∃ W, wr.alloc (.cells #[.int .i64 kd, .int .i64 num, .int .u64 x, .slice OA om oc] 36) = W := ⟨_, rfl⟩
      obtain ⟨b9, hb9⟩ : ∃ b9, wr.heap.size = b9 := ⟨_, rfl⟩
      have k9 : Blk W b9 36 #[.int .i64 kd, .int .i64 num, .int .u64 x, .slice OA om oc] := by rw [← hW, ← hb9]; exact Blk.new _ _ _
      have f9 : Fr [] wr W := by rw [← hW]; exact (Fr.refl _ _).alloc _
      have s9 := f9.size
      have HW := Lib.hid hW
      have HB9 := Lib.hid hb9
      have x6 := x5.keep f9 (by simp) (by simp)
      have y6 := y5.keep f9 (by simp) (by simp)
      have v6 := v5.keep_nil f9
      have F6 := F5.trans_nil f9
      have b9a : p1 < b9 := by have := x5.lt; omega
      have b9b : p2 < b9 := by have := y5.lt; omega
      clear hW hb9 x5 y5 v5 F5
      have e1 := k9.cell 1
      simp at e1
      by_cases k1 : kd = 1
      · subst k1
        go_wp2_with fail
        rw [HW.out, HB9.out]
        go_region_held3 (fun w' => w'.cell? ⟨b9, 1, none⟩ = some (.int .i64 num)) (first | exact e1 | assumption)
          (first
            | (go_at_call 19; refine (rUint_any (x6.keep ((Fr.refl [] _).drew) (by simp) (by simp)) num).mono ?_; rintro e w7 ⟨rfl, x7, f7⟩; have e7 : w7.cell? ⟨b9, 1, none⟩ = some (.int .i64 num) := f7.cell (p := ⟨b9, 1, none⟩) (by simp; omega) e1)
            | (go_at_call 25; refine (xUint_any (y6.keep (((Fr.refl [] _).drew).nil.trans f7 (fun i hi => .inl hi)) (by simpa using L12.symm) (fun g hg => by have := g2 g hg; simp; omega)) num).mono ?_; rintro e w8 ⟨rfl, y8, f8⟩; have e8 : w8.cell? ⟨b9, 1, none⟩ = some (.int .i64 num) := f8.cell (p := ⟨b9, 1, none⟩) (by simp; omega) e7))
        have x8 := x7.keep f8 (by simpa using L12) (fun g hg => by have := g1 g hg; simp; omega)
        have v8 := (v6.keep (((Fr.refl [] _).drew).nil.trans f7 (fun i hi => .inl hi)) (fun g hg => by have := v4p g hg; simp; omega)).keep f8 (fun g hg => by have := v4p g hg; simp; omega)
        have F8 : Fr [] w w8 := (F6.drew.trans f7 (fun i hi => .inr (by simp at hi; omega))).trans f8 (fun i hi => .inr (by simp at hi; omega))
        have s8 : w4.heap.size ≤ w8.heap.size := by have := f7.size; have := f8.size; simp at *; omega
        generalize stUl q bad num = q2 at *
        generalize stUb q bad num = b2 at *
        clear x7 f7 e7 f8 e8
        clear x6 y6 v6 F6 f9 k9 e1
        obtain ⟨YA, yc, yb, yr⟩ := id y8
        have d0 := yb.cell 0
        simp at d0
        go_wp2_with fail
        go_quiet ((go_at_call 17; exact Calls.quiet_of_same ((rLeft_any (Rdr.keep x8 ((Fr.refl [] _).drewN _) (by simp) (by simp))).mono fun e w' h => ⟨h.1, h.2.symm⟩)))
        go_wp2_with fail
        have fd : Fr [] w8 (w8.drewN nq) := (Fr.refl _ _).drewN _
        exact ⟨⟨k + 1, by omega, by go_num, q2, b2, x8.keep fd (by simp) (by simp), y8.keep fd (by simp) (by simp), v8.keep_nil fd, F8.drewN _, s8⟩, by simp [intOf]; omega⟩
      · have k1' : (kd == 1) = false := by rw [beq_eq_false_iff_ne]; exact k1
        by_cases k2 : kd = 2
        · subst k2
          clear k1 k1'
          go_wp2_with fail
          rw [HW.out, HB9.out]
          go_region_with (first
              | (go_at_call 16; refine (rBytes_any (x6.keep ((Fr.refl [] _).drew) (by simp) (by simp)) num).mono ?_; rintro e w7 ⟨v7, rfl, r7, x7, f7⟩; have e7 : w7.cell? ⟨b9, 1, none⟩ = some (.int .i64 num) := f7.cell (p := ⟨b9, 1, none⟩) (by simp; omega) e1; have E7 := r7.str)
              | (go_at_call 26; refine (xBytes_any (y6.keep (((Fr.refl [] _).drew).nil.trans f7 (fun i hi => .inl hi)) (by simpa using L12.symm) (fun g hg => by have := g2 g hg; simp; omega)) num).mono ?_; rintro e w8 ⟨v8', rfl, r8, y8, f8⟩; have e8 : w8.cell? ⟨b9, 1, none⟩ = some (.int .i64 num) := f8.cell (p := ⟨b9, 1, none⟩) (by simp; omega) e7; have E8a := (r7.keep f8 (fun g hg => by have h1 := (r7.lt g hg).1; have h2 := y6.lt; have h3 : W.drew.heap.size = W.heap.size := rfl; simp; omega)).str; have E8 := r8.str))
          all_goals
            have x8 := x7.keep f8 (by simpa using L12) (fun g hg => by have := g1 g hg; simp; omega)
            have v8 := (v6.keep (((Fr.refl [] _).drew).nil.trans f7 (fun i hi => .inl hi)) (fun g hg => by have := v4p g hg; simp; omega)).keep f8 (fun g hg => by have := v4p g hg; simp; omega)
            have F8 : Fr [] w w8 := (F6.drew.trans f7 (fun i hi => .inr (by simp at hi; omega))).trans f8 (fun i hi => .inr (by simp at hi; omega))
            have s8 : w4.heap.size ≤ w8.heap.size := by have := f7.size; have := f8.size; simp at *; omega
            generalize stL q bad num = q2 at *
            generalize (!inR q bad num) = b2 at *
            clear x7 f7 e7 f8 e8 E7 E8 E8a r7 r8
            clear x6 y6 v6 F6 f9 k9 e1
            obtain ⟨YA, yc, yb, yr⟩ := id y8
            have d0 := yb.cell 0
            simp at d0
            go_wp2_with fail
            go_quiet ((go_at_call 17; exact Calls.quiet_of_same ((rLeft_any (Rdr.keep x8 ((Fr.refl [] _).drewN _) (by simp) (by simp))).mono fun e w' h => ⟨h.1, h.2.symm⟩)))
            go_wp2_with fail
            have fd : Fr [] w8 (w8.drewN nq) := (Fr.refl _ _).drewN _
            exact ⟨⟨k + 1, by omega, by go_num, q2, b2, x8.keep fd (by simp) (by simp), y8.keep fd (by simp) (by simp), v8.keep_nil fd, F8.drewN _, s8⟩, by simp [intOf]; omega⟩
        · have k2' : (kd == 2) = false := by rw [beq_eq_false_iff_ne]; exact k2
          by_cases k3 : kd = 3
          · subst k3
            clear k1 k1' k2 k2'
            go_wp2_with fail
            rw [HW.out, HB9.out]
            refine (rZeros_any x6 num).mono ?_
            rintro e w7 ⟨rfl, x7, f7⟩
            have e7 : w7.cell? ⟨b9, 1, none⟩ = some (.int .i64 num) := f7.cell (p := ⟨b9, 1, none⟩) (by simp; omega) e1
            go_wp2_with fail
            refine (xZeros_any (y6.keep f7 (by simpa using L12.symm) (fun g hg => by have := g2 g hg; simp; omega)) num).mono ?_
            rintro e w8 ⟨rfl, y8, f8⟩
            have x8 := x7.keep f8 (by simpa using L12) (fun g hg => by have := g1 g hg; simp; omega)
            have v8 := (v6.keep f7 (fun g hg => by have := v4p g hg; simp; omega)).keep f8 (fun g hg => by have := v4p g hg; simp; omega)
            have F8 : Fr [] w w8 := (F6.trans f7 (fun i hi => .inr (by simp at hi; omega))).trans f8 (fun i hi => .inr (by simp at hi; omega))
            have s8 : w4.heap.size ≤ w8.heap.size := by have := f7.size; have := f8.size; omega
            generalize stZl q bad num = q2 at *
            generalize stZb q bad num = b2 at *
            clear x7 f7 e7 f8
            clear x6 y6 v6 F6 f9 k9 e1
            obtain ⟨YA, yc, yb, yr⟩ := id y8
            have d0 := yb.cell 0
            simp at d0
            go_wp2_with fail
            go_quiet ((go_at_call 17; exact Calls.quiet_of_same ((rLeft_any (Rdr.keep x8 ((Fr.refl [] _).drewN _) (by simp) (by simp))).mono fun e w' h => ⟨h.1, h.2.symm⟩)))
            go_wp2_with fail
            have fd : Fr [] w8 (w8.drewN nq) := (Fr.refl _ _).drewN _
            exact ⟨⟨k + 1, by omega, by go_num, q2, b2, x8.keep fd (by simp) (by simp), y8.keep fd (by simp) (by simp), v8.keep_nil fd, F8.drewN _, s8⟩, by simp [intOf]; omega⟩
          · have k3' : (kd == 3) = false := by rw [beq_eq_false_iff_ne]; exact k3
            clear k1 k2 k3
            obtain ⟨YA, yc, yb, yr⟩ := id y6
            have d0 := yb.cell 0
            simp at d0
            have d0' : (wr.alloc (.cells #[.int .i64 kd, .int .i64 num, .int .u64 x, .slice OA om oc] 36)).cell? ⟨p2, 0, none⟩ = some (.slice YA q.length yc) := by rw [HW.out]; exact d0
            go_wp2_with fail
            rw [HW.out, HB9.out]
            go_quiet ((go_at_call 17; exact Calls.quiet_of_same ((rLeft_any (Rdr.keep x6 ((Fr.refl [] _).drewN _) (by simp) (by simp))).mono fun e w' h => ⟨h.1, h.2.symm⟩)))
            go_wp2_with fail
            have fd : Fr [] W (W.drewN nq) := (Fr.refl _ _).drewN _
            exact ⟨⟨k + 1, by omega, by go_num, q, bad, x6.keep fd (by simp) (by simp), y6.keep fd (by simp) (by simp), v6.keep_nil fd, F6.drewN _, by simp; omega⟩, by simp [intOf]; omega⟩
    · go_wp2_with fail
      refine (rDone_any x5).mono ?_
      rintro e w9 ⟨rfl, rfl⟩
      go_wp2_with fail
      refine (xDone_any y5).mono ?_
      rintro e w9 ⟨rfl, rfl⟩
      have E1 := v5.str
      have E2 := strB wr A l n cap HN.out (hr.keep_nil F5) hA
      go_wp2
      go_ret
      exact ⟨rfl, F5⟩
end Go.Proofs.Ytmonedfafechcaa
