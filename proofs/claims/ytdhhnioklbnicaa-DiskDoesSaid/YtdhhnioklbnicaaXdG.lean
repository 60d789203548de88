/-
  Layer 10, the reference's disk: Unsure, New.
-/
import Derived.Test.YtdhhnioklbnicaaXdE
set_option linter.unusedSimpArgs false
set_option linter.unusedVariables false
set_option linter.unnecessarySimpa false
namespace Go.Proofs.Ytdhhnioklbnicaa
open Go.RowKit
set_option maxRecDepth 100000

def DkM.unsK (D : DkM) (k : Nat) : List (Int × Int) := ((List.range k).filter (fun i : Nat => !(D.uns (i : Int)).isEmpty)).map (fun i : Nat => ((i : Int), ((D.uns (i : Int)).length : Int)))
theorem DkM.unsK_end (D : DkM) : D.unsK D.sure.length = D.unsL := rfl
theorem DkM.unsK_succ (D : DkM) (k : Nat) : D.unsK (k + 1) = D.unsK k ++ (if (D.uns k).length = 0 then [] else [((k : Int), ((D.uns k).length : Int))]) := by
  rw [DkM.unsK, List.range_succ, List.filter_append, List.map_append]
  congr 1
  cases h : D.uns k with
  | nil => simp [h]
  | cons a b => simp [h]
theorem DkM.unsK_le (D : DkM) (k : Nat) : (D.unsK k).length ≤ k := by
  rw [DkM.unsK, List.length_map]
  exact Nat.le_trans (List.length_filter_le _ _) (by simp)
section
variable {w w' : World} {p : Nat} {O : List Nat} {D D' : DkM} {X : XdX}
set_option maxHeartbeats 2000000 in
theorem xdUnsure_any (h : Xdk w p O D) : Calls Try.prog 53 #[.pointer (some ⟨p, 0, none⟩)] w (UnsC w D.unsL) := by
  obtain ⟨X, h⟩ := h
  have HH := Lib.hid h
  obtain ⟨n, hn⟩ : ∃ n, D.sure.length = n := ⟨_, rfl⟩
  have hn1 := h.n1.2
  rw [hn] at hn1
  have HN := Lib.hid hn
  clear h hn
  go_enter Try.func53, Try.ntmps53
  go_wp2_with fail
  go_loopw [3, 4] (fun v i wr => ∃ k : Nat, k ≤ n ∧ i = .int .i64 k ∧ Row wr w.heap.size 77 2 v (D.unsK k).length (kcells (D.unsK k)) ∧ Fr [] w wr) (fun _ i _ => n - (intOf i).toNat)
  case atStart => exact ⟨0, by omega, rfl, Row.nil _ _ _ _, Fr.refl _ _⟩
  case round =>
    obtain ⟨k, hkn, rfl, R, F⟩ := hrel
    have h1 := HH.out.keep_nil F
    have c0 := h1.c0
    rw [HN.out] at c0
    by_cases hlt : k < n
    · have d0 : (k : Int) < n := by omega
      obtain ⟨v, -, q1, r, -⟩ := h1.cp (i := k) (by rw [HN.out]; exact hlt)
      have hle := D.unsK_le k
      obtain ⟨N, hN⟩ : ∃ N, (D.uns k).length = N := ⟨_, rfl⟩
      rw [hN] at r
      obtain ⟨Av, cv, rfl, -, -, -, -, -⟩ := r.shape
      have HS := Lib.hid (D.unsK_succ k)
      obtain ⟨m, hm⟩ : ∃ m, (D.unsK k).length = m := ⟨_, rfl⟩
      obtain ⟨cs, hcs⟩ : ∃ cs, kcells (D.unsK k) = cs := ⟨_, rfl⟩
      rw [hm, hcs] at R
      rw [hm] at hle
      have HM := Lib.hid (And.intro hm (And.intro hcs hN))
      obtain ⟨A3, c3, rfl, -, -, -, -, -⟩ := R.shape
      clear h1 r hm hcs hN
      by_cases hN0 : N = 0
      · subst hN0
        go_wp2_with fail
        refine ⟨⟨k + 1, by omega, by go_num, ?_, F⟩, by simp [intOf]; omega⟩
        rw [HS.out, HM.out.2.2, if_pos rfl, List.append_nil, HM.out.1, HM.out.2.1]
        exact R
      · have dN : decide (0 < N) = true := by simp; omega
        have Ra := R.alloc (.cells #[.int .i64 k, .int .i64 N] 77)
        go_wp2_with (at_builtin; refine wpList_app rfl rfl slK w.heap.size _ m cs rfl Ra _ 1 1 [.int .i64 k, .int .i64 N] rfl rfl (Rd.of_blk (Blk.new wr 77 #[.int .i64 k, .int .i64 N]) 0 _ (fun j u hu => by rw [Nat.zero_add]; simpa using hu)) (by intro u hu; simp at hu; rcases hu with rfl | rfl <;> rfl) (by intro h; cases h) (by omega) (by have := F.size; simp; omega) ?_; intro v' w5 q1 q2 q3 q4)
        refine ⟨⟨k + 1, by omega, by go_num, ?_, (F.alloc _).trans q2 (fun i hi => .inr (Ra.lt i (mem_own.1 hi)).1)⟩, by simp [intOf]; omega⟩
        rw [HS.out, HM.out.2.2, if_neg hN0, List.length_append, kcells_app, HM.out.1, HM.out.2.1]
        exact q1
    · obtain rfl : k = n := by omega
      have d0 : ¬ ((k : Int) < k) := by omega
      have HU := Lib.hid (show D.unsK k = D.unsL by rw [← HN.out]; rfl)
      go_wp2_with fail
      go_ret
      refine ⟨_, rfl, ?_, F⟩
      rw [← HU.out]
      exact R
/-- What the reference's New gives. -/
def XNewC (w : World) (x : Int) (e : Ending) (w' : World) : Prop :=
  if 1 ≤ x ∧ x ≤ 4096 then ∃ p O, e = .returned (.tuple #[.pointer (some ⟨p, 0, none⟩), .int .i64 0]) ∧ Xdk w' p O (newD x.toNat) ∧ (∀ i ∈ O, w.heap.size ≤ i) ∧ Fr [] w w'
  else e = .returned (.tuple #[.pointer none, .int .i64 1]) ∧ w = w'
theorem XNewC.yes {w w' : World} {x : Int} {e : Ending} (h : 1 ≤ x ∧ x ≤ 4096) (k : XNewC w x e w') : ∃ p O, e = .returned (.tuple #[.pointer (some ⟨p, 0, none⟩), .int .i64 0]) ∧ Xdk w' p O (newD x.toNat) ∧ (∀ i ∈ O, w.heap.size ≤ i) ∧ Fr [] w w' := by
  unfold XNewC at k; rwa [if_pos h] at k
theorem XNewC.no {w w' : World} {x : Int} {e : Ending} (h : ¬ (1 ≤ x ∧ x ≤ 4096)) (k : XNewC w x e w') : e = .returned (.tuple #[.pointer none, .int .i64 1]) ∧ w = w' := by
  unfold XNewC at k; rwa [if_neg h] at k
theorem XNewC.mkY {w w' : World} {n p : Nat} {O : List Nat} (h : 1 ≤ n ∧ n ≤ 4096) (k1 : Xdk w' p O (newD n)) (k2 : ∀ i ∈ O, w.heap.size ≤ i) (k3 : Fr [] w w') : XNewC w n (.returned (.tuple #[.pointer (some ⟨p, 0, none⟩), .int .i64 0])) w' := by
  unfold XNewC; rw [if_pos (by omega)]; exact ⟨p, O, rfl, by rw [Int.toNat_natCast]; exact k1, k2, k3⟩
theorem XNewC.mkN {w : World} {x : Int} (h : ¬ (1 ≤ x ∧ x ≤ 4096)) : XNewC w x (.returned (.tuple #[.pointer none, .int .i64 1])) w := by
  unfold XNewC; rw [if_neg h]; exact ⟨rfl, rfl⟩
theorem conv_z512 {W : World} {B : Nat} {A : Option Addr} {c : Nat} {S : ByteArray} (h : Row W B 5 1 (.slice A 512 c) 512 (List.replicate 512 (Value.int .u8 0))) (hS : strV zB512 = .string S) : (convert 31 9 (.slice A 512 c)).run Try.prog W = .ok (.string S) W := by
  rw [← hS]
  refine conv_str Try.underlying31 Try.underlying5 Try.underlying9 W A zB512 512 c zB512_len ?_ h.rdD.2.2
  rw [zB512_vs]
  exact h.rdD.1
theorem newD_sureR {n : Nat} {j : Nat} (hj : j < n) : (newD n).sureR j = zB512 := by
  rw [DkM.sureR_nat _ (by simpa [newD] using hj)]
  simp [newD, List.getD_eq_getElem?_getD, hj]
set_option maxHeartbeats 2000000 in
theorem xdNew_any (w : World) (x : Int) (hx : -9223372036854775808 ≤ x ∧ x ≤ 9223372036854775807) : Calls Try.prog 18 #[.int .i64 x] w (XNewC w x) := by
  by_cases h1 : 1 ≤ x
  · by_cases h2 : x ≤ 4096
    · obtain ⟨n, rfl⟩ : ∃ n : Nat, x = n := ⟨x.toNat, by omega⟩
      have b1 : 1 ≤ n := by omega
      have b2 : n ≤ 4096 := by omega
      have HB := Lib.hid (And.intro b1 b2)
      have d1 : decide ((n : Int) < 1) = false := by simp; omega
      have d2 : decide (4096 < (n : Int)) = false := by simp; omega
      obtain ⟨S, hS⟩ : ∃ S : ByteArray, (⟨zB512.toArray⟩ : ByteArray) = S := ⟨_, rfl⟩
      have HS := Lib.hid (show strV zB512 = .string S from congrArg Value.string hS)
      clear h1 h2 hS
      go_enter Try.func18, Try.ntmps18
      go_wp2_with (first | (refine wpList_mk1 rfl rfl slB rfl .i64 .i64 _ _ 512 rfl rfl rfl rfl (by omega) ?_; intro w1 k1 r1 f1 z1; have hcv := conv_z512 r1 HS.out; rw [show (w.alloc (.cells #[.slice none 0 0, .bool false, .int .i64 0] 89)).heap.size = w.heap.size + 1 by simp] at hcv))
      have kp := (Blk.new w 89 #[.slice none 0 0, .bool false, .int .i64 0]).keep_nil f1
      have F1 : Fr [] w w1 := ((Fr.refl [] w).alloc _).trans_nil f1
      obtain ⟨q, hq⟩ : ∃ q, w.heap.size = q := ⟨_, rfl⟩
      rw [hq] at kp
      have hqs : w.heap.size ≤ q := by omega
      have HQ := Lib.hid hq
      have KP := Lib.hid kp
      have FF := Lib.hid F1
      rw [hq]
      clear k1 r1 f1 z1 kp F1 hq hcv
      go_wp2_with fail
      go_loopw [6] (fun i wr => ∃ k : Nat, k ≤ n ∧ i = .int .i64 k ∧ ∃ v, Blk wr q 89 #[v, .bool false, .int .i64 0] ∧ Row wr (q + 1) 91 2 v k (pcells (List.replicate k (zB512, .slice none 0 0))) ∧ Fr [] w wr) (fun i _ => n - (intOf i).toNat)
      case atStart => exact ⟨0, by omega, rfl, _, KP.out, Row.nil _ _ _ _, FF.out⟩
      case round =>
        obtain ⟨k, hkn, rfl, v, kb, R, F⟩ := hrel
        by_cases hlt : k < n
        · have d0 : (k : Int) < n := by omega
          have c0 : wr.cell? ⟨q, 0, none⟩ = some v := kb.cell 0
          obtain ⟨cs, hcs⟩ : ∃ cs, pcells (List.replicate k (zB512, .slice none 0 0)) = cs := ⟨_, rfl⟩
          rw [hcs] at R
          have HC := Lib.hid hcs
          obtain ⟨A3, c3, rfl, -, -, -, -, -⟩ := R.shape
          have Ra := R.alloc (.cells #[.string S, .slice none 0 0] 91)
          have hqr : q < wr.heap.size := kb.lt
          have KB := Lib.hid (kb.alloc (.cells #[.string S, .slice none 0 0] 91))
          have HE6 := Lib.hid (show pcells (List.replicate (k + 1) (zB512, .slice none 0 0)) = cs ++ [.string S, .slice none 0 0] from by
            rw [List.replicate_succ', pcells_app, HC.out, ← HS.out]; rfl)
          clear hcs kb
          go_wp2_with (at_builtin; refine wpList_app rfl rfl slXB (q + 1) _ k cs rfl Ra _ 1 1 [.string S, .slice none 0 0] rfl rfl (Rd.of_blk (Blk.new wr 91 #[.string S, .slice none 0 0]) 0 _ (fun j u hu => by rw [Nat.zero_add]; simpa using hu)) (by intro u hu; simp at hu; rcases hu with rfl | rfl <;> rfl) (by intro h; cases h) (by omega) (by simp; omega) ?_; intro v' w5 q1 q2 q3 q4; obtain ⟨A9, c9, rfl, -, -, -, -, -⟩ := q1.shape; have kb5 := KB.out.keep q2 (fun hm => Ra.ne_blk KB.out (by decide) (mem_own.1 hm)); have c5 : w5.cell? ⟨q, 0, none⟩ = some _ := kb5.cell 0; have z5 := kb5.frozen 0)
          refine ⟨⟨k + 1, by omega, by go_num, _, kb5.set_ 0 _, ?_, ((F.alloc _).trans q2 (fun i hi => .inr (by have := (Ra.lt i (mem_own.1 hi)).1; omega))).setCell (.inr hqs) _⟩, by simp [intOf]; omega⟩
          rw [HE6.out]
          exact q1.keep ((Fr.refl [q] _).setCell (.inl (by simp)) _) (fun g hg hm => by rw [List.mem_singleton.1 hm] at hg; have := (q1.lt _ hg).1; omega)
        · obtain rfl : k = n := by omega
          have d0 : ¬ ((k : Int) < k) := by omega
          have KK := Lib.hid (And.intro kb (And.intro R F))
          clear kb R F
          go_wp2_with fail
          go_ret2
          obtain ⟨kb, R, F⟩ := KK.out
          obtain ⟨g, c, rfl⟩ := R.hdD (by omega)
          have hg := R.lt g rfl
          have hq2 := kb.lt
          refine XNewC.mkY (O := [q, g]) HB.out ⟨⟨g, c, 0, List.replicate k (zB512, .slice none 0 0)⟩, ?_⟩ (fun i hi => by simp at hi; omega) F
          have hl : (newD k).sure.length = k := by simp [newD]
          refine ⟨by simp, by simp, by rw [hl]; exact kb, fun h => absurd rfl h, by show (-9223372036854775808 : Int) ≤ 0 ∧ (0 : Int) ≤ 9223372036854775807; decide, by rw [hl]; exact HB.out, by rw [hl]; exact R.mono (Nat.zero_le _), fun i hi => ?_, fun x h => absurd rfl h, fun i hi => (by rw [hl] at hi; rw [newD_sureR hi]; exact zB512_len), fun x b hb => (by cases hb), ?_, fun i hi => by simp at hi; omega, by simp [newD]⟩
          · have hi' : i < k := by simpa using hi
            rw [newD_sureR hi']
            show (List.replicate k (zB512, Value.slice none 0 0))[i].1 = _ ∧ _
            rw [List.getElem_replicate]
            exact ⟨rfl, Row.nil _ _ _ _, fun g hg => by cases hg⟩
          · intro i hi cs fz hc
            simp only [List.mem_cons, List.not_mem_nil, or_false] at hi
            rcases hi with rfl | rfl
            · unfold Blk at kb
              rw [kb] at hc
              injection hc with hc
              injection hc with _ hc
              exact absurd hc (by decide)
            · exact R.noTy (e := 91) (d := 5) (by decide) _ (own_mem.2 rfl) cs fz hc
    · have HNO := Lib.hid (show ¬ (1 ≤ x ∧ x ≤ 4096) from fun h => h2 h.2)
      have d1 : decide (x < 1) = false := by simp; omega
      have d2 : decide (4096 < x) = true := by simp; omega
      go_enter Try.func18, Try.ntmps18
      go_wp2_with fail
      go_ret2
      exact XNewC.mkN HNO.out
  · have HNO := Lib.hid (show ¬ (1 ≤ x ∧ x ≤ 4096) from fun h => h1 h.1)
    have d1 : decide (x < 1) = true := by simp; omega
    go_enter Try.func18, Try.ntmps18
    go_wp2_with fail
    go_ret2
    exact XNewC.mkN HNO.out
end
end Go.Proofs.Ytdhhnioklbnicaa
