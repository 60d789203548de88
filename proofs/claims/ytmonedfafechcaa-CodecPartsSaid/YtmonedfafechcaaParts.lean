/-
  CodecParts, the walk: bytes read in parts are those read at once.
-/
import Derived.Test.YtmonedfafechcaaCodH
set_option linter.unusedSimpArgs false
set_option linter.unusedVariables false
set_option linter.unnecessarySimpa false
namespace Go.Proofs.Ytmonedfafechcaa
open Go.RowKit

/-- Numbers laid byte by byte. -/
theorem leN_4 (q : List UInt8) (h : 4 ≤ q.length) :
    leN (q.take 2) + leN ((q.drop 2).take 1) * 65536 + leN ((q.drop 3).take 1) * 16777216 = leN (q.take 4) := by
  match q, h with
  | a :: b :: c :: d :: r, _ => simp [leN]; omega

set_option maxRecDepth 100000 in
set_option maxHeartbeats 4000000 in
theorem parts_any (A : Option Addr) (l : List UInt8) (n cap : Nat) (a c : Int) (w : World) (hn : l.length = n) (hr : Rd w A (bvs l)) (hA : A = none → n = 0) (hl : n ≤ 140737488351232)
    (ha : -9223372036854775808 ≤ a ∧ a ≤ 9223372036854775807) (hc : -9223372036854775808 ≤ c ∧ c ≤ 9223372036854775807) :
    Calls Try.prog 3 #[.slice A n cap, .int .i64 a, .int .i64 c] w fun e w' => e = .returned (.bool true) ∧ Fr [] w w' := by
  have HN := Lib.hid hn
  clear hn
  by_cases hcase : a < 0 ∨ c < 0 ∨ (n : Int) < a ∨ (n : Int) - a < c
  · have fin : ∀ (h1 : a < 0 ∨ ¬ a < 0) (h2 : c < 0 ∨ ¬ c < 0) (h3 : (n : Int) < a ∨ ¬ (n : Int) < a), Calls Try.prog 3 #[.slice A n cap, .int .i64 a, .int .i64 c] w fun e w' => e = .returned (.bool true) ∧ Fr [] w w' := by
      intro h1 h2 h3
      rcases h1 with h1 | h1
      case' inr => rcases h2 with h2 | h2
      case' inr.inr => rcases h3 with h3 | h3
      case' inr.inr.inr => have h4 : (n : Int) - a < c := by omega
      all_goals
        clear hcase
        go_enter Try.func3, Try.ntmps3
        go_wp2_with fail
        refine (newReader_any A l n cap w HN.out hr hA (by omega)).mono ?_
        rintro e w1 ⟨p1, G1, rfl, x1, f1, z1, g1⟩
        go_wp2_with fail
        refine (newReader_any A l n cap w1 HN.out (hr.keep_nil f1) hA (by omega)).mono ?_
        rintro e w2 ⟨p2, G2, rfl, y2, f2, z2, g2⟩
        go_wp2_with fail
        refine (lives09_any w2).mono ?_
        rintro e w3 ⟨rfl, f3⟩
        go_wp2
        go_ret
        exact ⟨rfl, (f1.trans_nil f2).trans_nil f3⟩
    exact fin (by omega) (by omega) (by omega)
  · obtain ⟨a, rfl⟩ := Int.eq_ofNat_of_zero_le (show 0 ≤ a by omega)
    obtain ⟨c, rfl⟩ := Int.eq_ofNat_of_zero_le (show 0 ≤ c by omega)
    have h1 : a + c ≤ n := by omega
    have d1 : ¬ ((a : Int) < 0) := by omega
    have d2 : ¬ ((c : Int) < 0) := by omega
    have d3 : ¬ ((n : Int) < a) := by omega
    have d4 : ¬ ((n : Int) - a < c) := by omega
    clear ha hc hcase
    go_enter Try.func3, Try.ntmps3
    go_wp2_with fail
    refine (newReader_any A l n cap w HN.out hr hA (by omega)).mono ?_
    rintro e w1 ⟨p1, G1, rfl, x1, f1, z1, g1⟩
    go_wp2_with fail
    refine (newReader_any A l n cap w1 HN.out (hr.keep_nil f1) hA (by omega)).mono ?_
    rintro e w2 ⟨p2, G2, rfl, y2, f2, z2, g2⟩
    have x2 := x1.keep f2 (by simp) (by simp)
    have l1 := x1.lt
    have F2 := f1.trans_nil f2
    go_wp2_with fail
    refine (lives09_any w2).mono ?_
    rintro e w3 ⟨rfl, f3⟩
    have x3 := x2.keep f3 (by simp) (by simp)
    have y3 := y2.keep f3 (by simp) (by simp)
    have F3 := F2.trans_nil f3
    have s2 := f2.size
    have s3 := f3.size
    clear x1 x2 y2 f3 F2
    have hla : a ≤ l.length := by rw [HN.out]; omega
    have hlb : a + c ≤ l.length := by rw [HN.out]; exact h1
    have hlc : c ≤ (l.drop a).length := by rw [List.length_drop]; omega
    have L12 : p1 ≠ p2 := by omega
    go_wp2_with fail
    refine (rBytes_ok (x3.keep ((Fr.refl [] _).alloc _) (by simp) (by simp)) a hla).mono ?_
    rintro e w4 ⟨b4, rfl, b4r, x4, f4⟩
    have f4' : Fr [p1] w3 w4 := (((Fr.refl [p1] w3).alloc _)).trans f4 (fun i hi => .inl hi)
    have y4 := y3.keep f4' (by simpa using L12.symm) (fun g hg => by have := g2 g hg; simp; omega)
    have F4 : Fr [] w w4 := F3.trans f4' (fun i hi => .inr (by simp at hi; omega))
    have e4 : Row w4 w3.heap.size 5 1 (.slice (some ⟨w3.heap.size, 0, none⟩) 0 0) 0 [] := (Row.new w3 #[] 5 1 0 (0, 0) (free_zero _) (by unfold maxLen; omega) rfl (Nat.le_refl _)).keep f4 (fun g hg => by have := x3.lt; simp [Value.ownBlock] at hg; simp; omega)
    obtain ⟨A4, c4, rfl, -, -, rd4, -, -⟩ := b4r.shape
    have n4 := b4r.rd.2.2
    have p1lt := x3.lt
    have p2lt := y3.lt
    have s4 := f4'.size
    clear f4 x3 y3 F3
    go_wp2_with (at_builtin; refine wpList_app rfl rfl slB w3.heap.size (.slice (some ⟨w3.heap.size, 0, none⟩) 0 0) 0 [] rfl e4 A4 a c4 (bvs (l.take a)) rfl (by rw [bvs_length, List.length_take]; omega) rd4 (bvs_one _) n4 (by omega) (by have := f4'.size; omega) ?_; intro v5 w5 q1 q2 q3 q4)
    have f5 : Fr [] w w5 := F4.trans q2 (fun i hi => .inr (by rw [own_mem.1 hi]; have := F4.size; omega))
    have x5 := x4.keep q2 (by rw [own_mem]; omega) (fun g hg => by rw [own_mem]; have := g1 g hg; omega)
    have y5 := y4.keep q2 (by rw [own_mem]; omega) (fun g hg => by rw [own_mem]; have := g2 g hg; omega)
    have s5 := q2.size
    have v5p : ∀ g, v5.ownBlock = some g → g ∉ [p1] := fun g hg => by have := q1.lt g hg; simp; omega
    clear x4 y4 F4 rd4 b4r n4 q4 e4
    have c6 := rBytes_ok x5 c hlc
    rw [List.drop_drop] at c6
    refine c6.mono ?_
    clear c6
    rintro e w6 ⟨b6, rfl, b6r, x6, f6⟩
    have y6 := y5.keep f6 (by simpa using L12.symm) (fun g hg => by have := g2 g hg; simp; omega)
    have F6 : Fr [] w w6 := f5.trans f6 (fun i hi => .inr (by simp at hi; omega))
    have v6 := q1.keep f6 v5p
    have s6 := f6.size
    rw [Nat.zero_add, List.nil_append] at v6
    obtain ⟨A6, c6, rfl, -, -, rd6, -, -⟩ := b6r.shape
    have n6 := b6r.rd.2.2
    clear x5 y5 f5 q1 q2
    go_wp2_with (at_builtin; refine wpList_app rfl rfl slB w3.heap.size v5 a (bvs (l.take a)) rfl v6 A6 c c6 (bvs ((l.drop a).take c)) rfl (by rw [bvs_length, List.length_take]; omega) rd6 (bvs_one _) n6 (by omega) (by omega) ?_; intro v7 w7 q1 q2 q3' q4)
    have f7 : Fr [] w w7 := F6.trans q2 (fun i hi => .inr (by have := (v6.lt i (mem_own.1 hi)); have := F6.size; omega))
    have x7 := x6.keep q2 (fun hm => by have := v6.lt _ (mem_own.1 hm); omega) (fun g hg hm => by have := v6.lt _ (mem_own.1 hm); have := g1 g hg; omega)
    have y7 := y6.keep q2 (fun hm => by have := v6.lt _ (mem_own.1 hm); omega) (fun g hg hm => by have := v6.lt _ (mem_own.1 hm); have := g2 g hg; omega)
    have hq : l.take a ++ (l.drop a).take c = l.take (a + c) := by rw [List.take_add]
    rw [← bvs_append, hq] at q1
    have s7 := q2.size
    have v7p : ∀ g, v7.ownBlock = some g → g ∉ [p2] := fun g hg => by have := q1.lt g hg; simp; omega
    clear x6 y6 F6 q2 v6 v5p rd6 b6r n6 hq
    have c8 := rBytes_ok y7 (a + c) hlb
    rw [Int.natCast_add] at c8
    refine c8.mono ?_
    clear c8
    rintro e w8 ⟨b8, rfl, b8r, y8, f8⟩
    have x8 := x7.keep f8 (by simpa using L12) (fun g hg => by have := g1 g hg; simp; omega)
    have F8 : Fr [] w w8 := f7.trans f8 (fun i hi => .inr (by simp at hi; omega))
    have v8 := q1.keep f8 v7p
    have E1 := v8.str
    have E2 := b8r.str
    clear x7 y7 f7 q1 f8
    go_wp2_with fail
    refine (rLeft_any x8).mono ?_
    rintro e w9 ⟨rfl, rfl⟩
    go_wp2_with fail
    refine (rLeft_any y8).mono ?_
    rintro e w9 ⟨rfl, rfl⟩
    go_wp2_with fail
    refine (rDone_any x8).mono ?_
    rintro e w9 ⟨rfl, rfl⟩
    go_wp2_with fail
    refine (rDone_any y8).mono ?_
    rintro e w9 ⟨rfl, rfl⟩
    go_wp2_with fail
    refine (rLeft_any y8).mono ?_
    rintro e w9 ⟨rfl, rfl⟩
    generalize List.drop (a + c) l = q at *
    clear E1 E2
    by_cases hq : (q.length : Int) < 4
    · go_wp2_with fail
      go_ret
      exact ⟨rfl, F8⟩
    · have q4 : 4 ≤ q.length := by omega
      obtain ⟨m4, e4⟩ : ∃ m, leN (List.take 4 q) = m := ⟨_, rfl⟩
      obtain ⟨m2, e2⟩ : ∃ m, leN (List.take 2 q) = m := ⟨_, rfl⟩
      obtain ⟨m1, e1⟩ : ∃ m, leN (List.take 1 (List.drop 2 q)) = m := ⟨_, rfl⟩
      obtain ⟨m3, e3⟩ : ∃ m, leN (List.take 1 (List.drop 3 q)) = m := ⟨_, rfl⟩
      have key := leN_4 q q4
      have b2 := leN_take_lt q 2
      have b1 := leN_take_lt (q.drop 2) 1
      have b3 := leN_take_lt (q.drop 3) 1
      rw [e4, e2, e1, e3] at key
      rw [e2] at b2
      rw [e1] at b1
      rw [e3] at b3
      have b2' : m2 < 65536 := b2
      have b1' : m1 < 256 := b1
      have b3' : m3 < 256 := b3
      have KEY : ((m2 : Int) + m1 * 65536 + m3 * 16777216 == m4) = true := by rw [beq_iff_eq]; omega
      have E4 := Lib.hid e4
      have E2 := Lib.hid e2
      have E1 := Lib.hid e1
      have E3 := Lib.hid e3
      clear key b2 b1 b3 e4 e2 e1 e3
      go_wp2_with fail
      have cc := rUint_ok y8 4 q4 rfl
      rw [E4.out] at cc
      refine cc.mono ?_
      clear cc
      rintro e w9 ⟨rfl, y9, f9⟩
      have x9 := x8.keep f9 (by simpa using L12) (fun g hg => by have := g1 g hg; simp; omega)
      have F9 : Fr [] w w9 := F8.trans f9 (fun i hi => .inr (by simp at hi; omega))
      go_wp2_with fail
      have cc := rUint_ok x9 2 (by omega) rfl
      rw [E2.out] at cc
      refine cc.mono ?_
      clear cc
      rintro e w10 ⟨rfl, x10, f10⟩
      have y10 := y9.keep f10 (by simpa using L12.symm) (fun g hg => by have := g2 g hg; simp; omega)
      have F10 : Fr [] w w10 := F9.trans f10 (fun i hi => .inr (by simp at hi; omega))
      go_wp2_with fail
      have cc := rUint_ok x10 1 (by rw [List.length_drop]; omega) rfl
      rw [E1.out] at cc
      refine cc.mono ?_
      clear cc
      rintro e w11 ⟨rfl, x11, f11⟩
      have y11 := y10.keep f11 (by simpa using L12.symm) (fun g hg => by have := g2 g hg; simp; omega)
      have F11 : Fr [] w w11 := F10.trans f11 (fun i hi => .inr (by simp at hi; omega))
      rw [List.drop_drop] at x11
      go_wp2_with fail
      have cc := rUint_ok x11 1 (by rw [List.length_drop]; omega) rfl
      rw [E3.out] at cc
      refine cc.mono ?_
      clear cc
      rintro e w12 ⟨rfl, x12, f12⟩
      have y12 := y11.keep f12 (by simpa using L12.symm) (fun g hg => by have := g2 g hg; simp; omega)
      have F12 : Fr [] w w12 := F11.trans f12 (fun i hi => .inr (by simp at hi; omega))
      rw [List.drop_drop] at x12
      have Lx : (q.drop (2 + 1 + 1)).length = q.length - 4 := by rw [List.length_drop]
      have Ly : (q.drop 4).length = q.length - 4 := by rw [List.length_drop]
      go_wp2_with fail
      have cc := rLeft_any x12
      rw [Lx] at cc
      refine cc.mono ?_
      clear cc
      rintro e w13 ⟨rfl, rfl⟩
      go_wp2_with fail
      have cc := rLeft_any y12
      rw [Ly] at cc
      refine cc.mono ?_
      clear cc
      rintro e w13 ⟨rfl, rfl⟩
      clear Lx Ly
      go_wp2
      go_ret
      exact ⟨rfl, F12⟩
end Go.Proofs.Ytmonedfafechcaa
