/-
  Layer 10 (disk): New, Sure, Read.
-/
import Derived.Test.YtdhhnioklbnicaaDkB
set_option linter.unusedSimpArgs false
set_option linter.unusedVariables false
set_option linter.unnecessarySimpa false
namespace Go.Proofs.Ytdhhnioklbnicaa
open Go.RowKit

def zB512 : List UInt8 := List.replicate 512 0
theorem zB512_len : zB512.length = 512 := List.length_replicate
theorem zB512_vs : bvs zB512 = List.replicate 512 (Value.int .u8 0) := by rw [zB512, bvs, List.map_replicate]; rfl
theorem slBBD : SlT Try.prog 72 31 1 24 (.slice none 0 0) := ⟨Try.underlying72, by kernel_rfl, rfl, by decide, by decide⟩
def newD (n : Nat) : DkM := ⟨List.replicate n none, fun _ => [], -1⟩
/-- What New gives: a disk, or none. -/
def NewC (w : World) (x : Int) (e : Ending) (w' : World) : Prop :=
  if 1 ≤ x ∧ x ≤ 4096 then ∃ p O, e = .returned (.tuple #[.pointer (some ⟨p, 0, none⟩), .int .i64 0]) ∧ Dsk w' p O (newD x.toNat) ∧ (∀ i ∈ O, w.heap.size ≤ i) ∧ Fr [] w w'
  else e = .returned (.tuple #[.pointer none, .int .i64 1]) ∧ w = w'
theorem NewC.yes {w w' : World} {x : Int} {e : Ending} (h : 1 ≤ x ∧ x ≤ 4096) (k : NewC w x e w') : ∃ p O, e = .returned (.tuple #[.pointer (some ⟨p, 0, none⟩), .int .i64 0]) ∧ Dsk w' p O (newD x.toNat) ∧ (∀ i ∈ O, w.heap.size ≤ i) ∧ Fr [] w w' := by
  unfold NewC at k
  rwa [if_pos h] at k
theorem NewC.no {w w' : World} {x : Int} {e : Ending} (h : ¬ (1 ≤ x ∧ x ≤ 4096)) (k : NewC w x e w') : e = .returned (.tuple #[.pointer none, .int .i64 1]) ∧ w = w' := by
  unfold NewC at k
  rwa [if_neg h] at k

theorem NewC.mkY {w w' : World} {n p : Nat} {O : List Nat} (h : 1 ≤ n ∧ n ≤ 4096) (k1 : Dsk w' p O (newD n)) (k2 : ∀ i ∈ O, w.heap.size ≤ i) (k3 : Fr [] w w') : NewC w n (.returned (.tuple #[.pointer (some ⟨p, 0, none⟩), .int .i64 0])) w' := by
  unfold NewC
  rw [if_pos (by omega)]
  exact ⟨p, O, rfl, by rw [Int.toNat_natCast]; exact k1, k2, k3⟩
theorem NewC.mkN {w : World} {x : Int} (h : ¬ (1 ≤ x ∧ x ≤ 4096)) : NewC w x (.returned (.tuple #[.pointer none, .int .i64 1])) w := by
  unfold NewC
  rw [if_neg h]
  exact ⟨rfl, rfl⟩

set_option maxRecDepth 100000
theorem dkNew_any (w : World) (x : Int) (hx : -9223372036854775808 ≤ x ∧ x ≤ 9223372036854775807) : Calls Try.prog 8 #[.int .i64 x] w (NewC w x) := by
  by_cases h1 : 1 ≤ x
  · by_cases h2 : x ≤ 4096
    · obtain ⟨n, rfl⟩ : ∃ n : Nat, x = n := ⟨x.toNat, by omega⟩
      have hmm := @run_makeMap Try.prog
      have b1 : 1 ≤ n := by omega
      have b2 : n ≤ 4096 := by omega
      have HB := Lib.hid (And.intro b1 b2)
      go_enter Try.func8, Try.ntmps8
      go_wp2_with (first | (refine wpList_mk1 rfl rfl slBBD rfl .i64 .i64 _ _ n rfl rfl rfl rfl (by omega) ?_; intro w1 k1 r1 f1 z1))
      have m1 := MapZ.made w1
      rw [z1] at m1
      have f2 : Fr [] w1 (w1.alloc (.map #[] 0)) := (Fr.refl _ _).alloc _
      have z2 : (w1.alloc (.map #[] 0)).heap.size = w.heap.size + 1 + 1 := by rw [← z1]; simp
      have k3 := Blk.new (w1.alloc (.map #[] 0)) 75 #[.slice (some ⟨w.heap.size, 0, none⟩) n n, .map (some (w.heap.size + 1)), .int .i64 (-1)]
      have f3 : Fr [] (w1.alloc (.map #[] 0)) ((w1.alloc (.map #[] 0)).alloc (.cells #[.slice (some ⟨w.heap.size, 0, none⟩) n n, .map (some (w.heap.size + 1)), .int .i64 (-1)] 75)) := (Fr.refl _ _).alloc _
      rw [z2] at k3
      have z3 : ((w1.alloc (.map #[] 0)).alloc (.cells #[.slice (some ⟨w.heap.size, 0, none⟩) n n, .map (some (w.heap.size + 1)), .int .i64 (-1)] 75)).heap.size = w.heap.size + 1 + 1 + 1 := by rw [← z2]; simp
      generalize (w1.alloc (.map #[] 0)).alloc (.cells #[.slice (some ⟨w.heap.size, 0, none⟩) n n, .map (some (w.heap.size + 1)), .int .i64 (-1)] 75) = w3 at *
      have F3 := (f1.trans_nil f2).trans_nil f3
      have rD := (r1.keep_nil f2).keep_nil f3
      have mD := (m1.keep_nil (Fr.refl _ _)).keep_nil f3
      go_ret2
      refine NewC.mkY (O := [w.heap.size, w.heap.size + 1, w.heap.size + 1 + 1]) HB.out ?_ (fun i hi => by simp at hi; omega) F3
      refine ⟨⟨w.heap.size, n, w.heap.size + 1, fun _ => none, List.replicate n (.slice none 0 0)⟩, by simp, by simp, by simp, ?_, ?_, ?_, ?_, ?_, fun x => ⟨fun _ => rfl, fun _ => rfl⟩, fun x v h => by (cases h), fun x h => absurd rfl h, fun x y u v _ h => by (cases h), ?_, fun i hi => by simp at hi; omega, by simp [newD]⟩
      · rw [show (newD n).sure.length = n from List.length_replicate]; exact k3
      · rw [show (newD n).sure.length = n from List.length_replicate]; exact HB.out
      · rw [show (newD n).sure.length = n from List.length_replicate]; exact rD.mono (Nat.zero_le _)
      · intro i a b
        simp only [newD, List.getElem_replicate]
        rfl
      · exact mD.mono (by omega)
      · intro i hi cs fz hc
        have kr := (k1.keep_nil f2).keep_nil f3
        simp only [List.mem_cons, List.not_mem_nil, or_false] at hi
        rcases hi with rfl | rfl | rfl
        · unfold Blk at kr
          rw [kr] at hc
          injection hc with hc
          injection hc with _ hc
          exact absurd hc (by decide)
        · obtain ⟨D, ⟨es, clock, hb, _⟩, _⟩ := mD
          rw [hb] at hc
          cases hc
        · unfold Blk at k3
          rw [k3] at hc
          injection hc with hc
          injection hc with _ hc
          exact absurd hc (by decide)
    · have HN := Lib.hid (show ¬ (1 ≤ x ∧ x ≤ 4096) by omega)
      have k1 : 4096 < x := by omega
      go_enter Try.func8, Try.ntmps8
      go_wp2_with fail
      go_ret2
      exact NewC.mkN HN.out
  · have HN := Lib.hid (show ¬ (1 ≤ x ∧ x ≤ 4096) by omega)
    have k1 : x < 1 := by omega
    go_enter Try.func8, Try.ntmps8
    go_wp2_with fail
    go_ret2
    exact NewC.mkN HN.out

def DkM.sureR (D : DkM) (x : Int) : List UInt8 := if D.is x then (D.sure.getD x.toNat none).getD zB512 else []
section
variable {w w' : World} {p : Nat} {O : List Nat} {D : DkM} {X : DkX}
/-- The cell of a block that is. -/
theorem DskX.at (h : DskX w p O D X) {i : Nat} (hi : i < D.sure.length) : ∃ v, w.cell? ⟨X.g, i, none⟩ = some v ∧ SuV w v (D.sure[i]) := by
  have hl : i < X.vs.length := by have := h.row.1; omega
  obtain ⟨g', o', e', hc⟩ := h.row.rdD.1 (by intro h0; rw [h0] at hl; simp at hl)
  cases e'
  have := hc i _ (List.getElem?_eq_getElem hl)
  rw [Nat.zero_add] at this
  exact ⟨_, this, h.su i hl hi⟩
theorem eqlSlD (g n c : Nat) (w : World) : (binOp .eql 31 (.slice (some ⟨g, 0, none⟩) n c) (.slice none 0 0)).run Try.prog w = .ok (.bool false) w := by kernel_rfl
theorem eqlSlN (w : World) : (binOp .eql 31 (.slice none 0 0) (.slice none 0 0)).run Try.prog w = .ok (.bool true) w := by kernel_rfl
theorem dkSure_nil (w : World) (x : Int) : Calls Try.prog 10 #[.pointer none, .int .i64 x] w fun e w' => e = .returned (.slice none 0 0) ∧ w = w' := by
  go_enter Try.func10, Try.ntmps10
  go_wp2_with fail
  refine (dkIs_nil w x).mono ?_
  rintro e w1 ⟨rfl, rfl⟩
  go_wp2_with fail
  go_ret
  exact ⟨rfl, rfl⟩
def SureC (w : World) (l : List UInt8) (e : Ending) (w' : World) : Prop := ∃ v, e = .returned v ∧ Row w' w.heap.size 5 1 v l.length (bvs l) ∧ Fr [] w w'
set_option maxHeartbeats 1000000 in
theorem dkSure_any (h : Dsk w p O D) (x : Int) : Calls Try.prog 10 #[.pointer (some ⟨p, 0, none⟩), .int .i64 x] w (SureC w (D.sureR x)) := by
  have hi := dkIs_any h x
  cases hx : D.is x
  · rw [hx] at hi
    have HR := Lib.hid (show D.sureR x = [] by rw [DkM.sureR, hx]; rfl)
    clear hx
    go_enter Try.func10, Try.ntmps10
    go_wp2_with fail
    refine hi.mono ?_
    rintro e w1 ⟨rfl, rfl⟩
    go_wp2_with fail
    go_ret
    exact ⟨_, rfl, by rw [HR.out]; exact Row.nil _ _ _ _, Fr.refl _ _⟩
  · rw [hx] at hi
    obtain ⟨h0, h1⟩ := DkM.is_iff.1 hx
    obtain ⟨k, rfl⟩ : ∃ k : Nat, x = k := ⟨x.toNat, by omega⟩
    have hk : k < D.sure.length := by omega
    obtain ⟨X, h⟩ := h
    obtain ⟨v, cv, sv⟩ := h.at hk
    have c0 := h.c0
    have hR : D.sureR k = (D.sure[k]).getD zB512 := by rw [DkM.sureR, hx]; simp [hk]
    obtain ⟨n, hn⟩ : ∃ n, D.sure.length = n := ⟨_, rfl⟩
    rw [hn] at c0 hk
    clear hx h0 h1
    cases hs : D.sure[k] with
    | none =>
      rw [hs] at sv hR
      have HR := Lib.hid hR
      obtain rfl : v = .slice none 0 0 := sv
      have en := eqlSlN w
      clear hR hs hn
      go_enter Try.func10, Try.ntmps10
      go_wp2_with fail
      refine hi.mono ?_
      rintro e w1 ⟨rfl, rfl⟩
      go_wp2_with (first | (refine wpList_mk1 rfl rfl slB rfl .i64 .i64 _ _ 512 rfl rfl rfl rfl (by omega) ?_; intro w1 k1 r1 f1 z1))
      go_ret
      refine ⟨_, rfl, ?_, f1⟩
      rw [HR.out, show (none : Option (List UInt8)).getD zB512 = zB512 from rfl, zB512_len, zB512_vs]
      exact r1
    | some l =>
      rw [hs] at sv hR
      have HR := Lib.hid hR
      obtain ⟨hl, r⟩ : BlkB w v l := sv
      obtain ⟨g, c, rfl⟩ := r.hdD (by omega)
      have HL := Lib.hid hl
      have en := eqlSlD g 512 c w
      clear hR hs hn hl
      go_enter Try.func10, Try.ntmps10
      go_wp2_with fail
      refine hi.mono ?_
      rintro e w1 ⟨rfl, rfl⟩
      go_wp2_with fail
      refine (clone_any _ l 512 c w HL.out r.rdD.1 r.rdD.2.2 (by omega)).mono ?_
      rintro e w2 ⟨v2, rfl, r2, f2⟩
      go_wp2_with fail
      go_ret
      exact ⟨_, rfl, by rw [HR.out]; show Row w2 _ _ 1 v2 l.length (bvs l); rw [HL.out]; exact r2, f2⟩
end
end Go.Proofs.Ytdhhnioklbnicaa
