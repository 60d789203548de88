/-
  Texts of this claim, one behind the other: RecU, RecPa, RowA, RowB, RowR, RowL, RecBl.
-/
import Derived.Test.YtlelgeigighecaaDoorM13
import Derived.ProofKit
import Derived.OpenShut
import Derived.ShutString
import Derived.ChangeOld
import Derived.ChangeSlices
import Derived.SizedLaws
import Derived.Below
import Derived.Carry
import Derived.ChangeArms
import Derived.DataReads
import Derived.Test.YtlelgeigighecaaDoorRows
import Derived.LaidMore
import Derived.Stop.Joined
/-
  Layer 13's laws: blocks that are the same, redos that are the same.
-/
set_option linter.unusedSimpArgs false
set_option linter.unusedVariables false
set_option linter.unnecessarySimpa false
namespace Go.Proofs.YtlelgeigighecaaDoor
open Go.RowKit

set_option maxRecDepth 100000 in
set_option maxHeartbeats 2000000 in
theorem sameBlocks_eq (w : World) (A B : Option Addr) (n c d : Nat) (vs us : List Value) (bs : List (List UInt8)) (hn : bs.length = n) (hA : BRd w A vs bs) (hB : BRd w B us bs) (hl : n ≤ 140737488355328) :
    Calls Tryd.prog 28 #[.slice A n c, .slice B n d] w fun e w' => e = .returned (.bool true) ∧ Fr [] w w' := by
  have HN := Lib.hid hn
  clear hn
  go_enter Tryd.func28, Tryd.ntmps28
  go_wp2_with fail
  go_loopw [5] (fun i wr => ∃ k : Nat, k ≤ n ∧ i = .int .i64 k ∧ Fr [] w wr) (fun i _ => n - (intOf i).toNat)
  case atStart => exact ⟨0, Nat.zero_le _, rfl, Fr.refl _ _⟩
  case round =>
    obtain ⟨k, hk, rfl, F⟩ := hrel
    by_cases hlt : k < n
    · have hkb : k < bs.length := by rw [HN.out]; exact hlt
      have hkv : k < vs.length := by rw [hA.len]; exact hkb
      have hku : k < us.length := by rw [hB.len]; exact hkb
      obtain ⟨g, o, rfl, hc⟩ := hA.rd (by intro h; rw [h] at hkv; simp at hkv)
      obtain ⟨g', o', rfl, hc'⟩ := hB.rd (by intro h; rw [h] at hku; simp at hku)
      obtain ⟨A1, c1, e1, rd1, n1, l1⟩ := hA.each k hkv hkb
      obtain ⟨A2, c2, e2, rd2, n2, l2⟩ := hB.each k hku hkb
      have ca := F.cell (by simp) (hc k _ (List.getElem?_eq_getElem hkv))
      have cb := F.cell (by simp) (hc' k _ (List.getElem?_eq_getElem hku))
      rw [e1] at ca
      rw [e2] at cb
      generalize bs[k] = b at *
      obtain ⟨nb, hnb⟩ : ∃ nb, b.length = nb := ⟨_, rfl⟩
      rw [hnb] at ca cb n1 n2 l1 l2
      have E1 := fun q => strB (wr.drewN q) A1 b nb c1 hnb ((rd1.keep_nil F).keep_nil ((Fr.refl [] _).drewN q)) n1
      have E2 := fun q => strB (wr.drewN q) A2 b nb c2 hnb ((rd2.keep_nil F).keep_nil ((Fr.refl [] _).drewN q)) n2
      have HNB := Lib.hid hnb
      clear hc hc' e1 e2 hnb
      go_wp2_with fail
      go_quiet (fail)
      go_wp2_with fail
      exact ⟨⟨k + 1, by omega, by go_num, F.drewN _⟩, by simp [intOf]; omega⟩
    · go_wp2_with fail
      go_ret
      exact ⟨rfl, F⟩

/-- Redos that are read. -/
def RdX (w : World) (A : Option Addr) (rs : List (Int × List UInt8)) : Prop :=
  ∀ i (h : i < rs.length), ∃ g o v, A = some ⟨g, o, none⟩ ∧ w.cell? ⟨g, o + i * 2, none⟩ = some (.int .i64 rs[i].1) ∧ w.cell? ⟨g, o + i * 2 + 1, none⟩ = some v ∧ SlB w v rs[i].2
theorem RdX.keep_nil {w w' : World} {A : Option Addr} {rs : List (Int × List UInt8)} (h : RdX w A rs) (f : Fr [] w w') : RdX w' A rs := fun i hi => by
  obtain ⟨g, o, v, e, h1, h2, h3⟩ := h i hi
  exact ⟨g, o, v, e, f.cell (by simp) h1, f.cell (by simp) h2, h3.keep_nil f⟩
theorem RdR.rdx {w : World} {A : Option Addr} {n c : Nat} {rs : List (Int × List UInt8)} (h : RdR w A n c rs) : RdX w A rs := fun i hi => by
  obtain ⟨g, o, e, hg, hc⟩ := h.cell (by rw [← h.len]; omega)
  obtain ⟨_, h2, v, h3, h4, _⟩ := hc i hi
  exact ⟨g, o, v, e, h2, h3, h4⟩
theorem RRow.rdx {w : World} {B n c : Nat} {A : Option Addr} {ps : List (Int × Value)} {rs : List (Int × List UInt8)} (h : RRow w B (.slice A n c) ps rs) : RdX w A rs := fun i hi => by
  have hi2 : i < ps.length := by rw [h.len]; exact hi
  obtain ⟨g, o, e, hc⟩ := h.row.rd.1 (by intro h0; have := congrArg List.length h0; rw [rcells_len, List.length_nil] at this; omega)
  obtain ⟨p1, p2⟩ := rcells_at ps i hi2
  obtain ⟨e1, r1⟩ := h.each i hi2 hi
  rw [e1] at p1
  exact ⟨g, o, _, e, hc _ _ p1, by rw [Nat.add_assoc]; exact hc _ _ p2, r1.slb⟩

set_option maxRecDepth 100000 in
set_option maxHeartbeats 2000000 in
theorem sameRedos_eq (w : World) (A B : Option Addr) (n c d : Nat) (rs : List (Int × List UInt8)) (hn : rs.length = n) (hA : RdX w A rs) (hB : RdX w B rs) (hl : n ≤ 140737488355328) :
    Calls Tryd.prog 30 #[.slice A n c, .slice B n d] w fun e w' => e = .returned (.bool true) ∧ Fr [] w w' := by
  have HN := Lib.hid hn
  clear hn
  go_enter Tryd.func30, Tryd.ntmps30
  go_wp2_with fail
  go_loopw [5] (fun i wr => ∃ k : Nat, k ≤ n ∧ i = .int .i64 k ∧ Fr [] w wr) (fun i _ => n - (intOf i).toNat)
  case atStart => exact ⟨0, Nat.zero_le _, rfl, Fr.refl _ _⟩
  case round =>
    obtain ⟨k, hk, rfl, F⟩ := hrel
    by_cases hlt : k < n
    · have hkb : k < rs.length := by rw [HN.out]; exact hlt
      obtain ⟨g, o, v, rfl, ha0, ha1, ⟨A1, c1, rfl, rd1, n1, l1⟩⟩ := hA.keep_nil F k hkb
      obtain ⟨g', o', v', rfl, hb0, hb1, ⟨A2, c2, rfl, rd2, n2, l2⟩⟩ := hB.keep_nil F k hkb
      generalize rs[k] = r at *
      obtain ⟨x, b⟩ := r
      dsimp only at *
      obtain ⟨nb, hnb⟩ : ∃ nb, b.length = nb := ⟨_, rfl⟩
      rw [hnb] at ha1 hb1 n1 n2 l1 l2
      have E1 := fun q => strB (wr.drewN q) A1 b nb c1 hnb (rd1.keep_nil ((Fr.refl [] _).drewN q)) n1
      have E2 := fun q => strB (wr.drewN q) A2 b nb c2 hnb (rd2.keep_nil ((Fr.refl [] _).drewN q)) n2
      have HNB := Lib.hid hnb
      clear hnb
      go_wp2_with fail
      go_quiet (fail)
      go_wp2_with fail
      exact ⟨⟨k + 1, by omega, by go_num, F.drewN _⟩, by simp [intOf]; omega⟩
    · go_wp2_with fail
      go_ret
      exact ⟨rfl, F⟩

/-- One of them is another. -/
theorem rowsetk {w : World} {B g n c : Nat} {e : TypeId} {xs : List Value} (h : Row w B e 1 (.slice (some ⟨g, 0, none⟩) n c) n xs) (k : Nat) (hk : k < n) (y : Value) :
    w.cell? ⟨g, k, none⟩ = xs[k]? ∧ w.frozen? ⟨g, k, none⟩ = false ∧ Row (w.setCell ⟨g, k, none⟩ y) B e 1 (.slice (some ⟨g, 0, none⟩) n c) n (xs.set k y) := by
  rcases h.2 with ⟨e, _⟩ | ⟨g', cap, cur, fz, e, hb, hg, hf, hnc, hcm, hcs, ht⟩
  · cases e
  · cases e
    rw [Nat.mul_one] at ht
    refine ⟨?_, ?_, ?_⟩
    · rw [cell_of_row w g k _ _ _ hg, ← ht, List.getElem?_take_of_lt hk, Array.getElem?_toList]
    · have := hf k (by omega)
      simp only [World.frozen?, hg]
      simpa using this
    · refine ⟨by rw [List.length_set]; exact h.1, .inr ⟨g, c, cur.setIfInBounds k y, fz, rfl, hb, ?_, by simpa using hf, hnc, hcm, by simpa using hcs, ?_⟩⟩
      · simp [World.setCell, Array.getElem?_modify, hg]
      · rw [Nat.mul_one, Array.toList_setIfInBounds, List.take_set, ht]
theorem BRow.setk {w : World} {B g n c : Nat} {y : Value} {vs : List Value} {d : List UInt8} {bs : List (List UInt8)} (h : BRow w B (.slice (some ⟨g, 0, none⟩) n c) vs bs) (k : Nat) (hk : k < n) (hy : Row w B 5 1 y d.length (bvs d)) :
    BRow (w.setCell ⟨g, k, none⟩ y) B (.slice (some ⟨g, 0, none⟩) n c) (vs.set k y) (bs.set k d) := by
  have hn : n = bs.length := h.row.rd.2.1
  have hrow := h.row
  have kp : ∀ {z : Value} {l : List UInt8}, Row w B 5 1 z l.length (bvs l) → Row (w.setCell ⟨g, k, none⟩ y) B 5 1 z l.length (bvs l) := fun hx =>
    hx.keep ((Fr.refl [g] w).setCell (.inl (by simp)) y) (fun g' hg hm => hx.ne_rowR hrow (by decide) g' hg (by rw [List.mem_singleton.1 hm]; rfl))
  subst hn
  refine ⟨by rw [List.length_set]; exact (rowsetk hrow k hk y).2.2, fun i h1 h2 => ?_⟩
  rw [List.length_set] at h1 h2
  by_cases e : k = i
  · subst e
    simp only [List.getElem_set_self]
    exact kp hy
  · simp only [List.getElem_set_ne e]
    exact kp (h.each i h1 h2)
end Go.Proofs.YtlelgeigighecaaDoor
/-
  RecordParse, the walk: what any blocks are as a transaction of a number.
-/
set_option linter.unusedSimpArgs false
set_option linter.unusedVariables false
set_option linter.unnecessarySimpa false
namespace Go.Proofs.YtlelgeigighecaaDoor
open Go.RowKit

theorem take_rep_set (bs : List (List UInt8)) (n k : Nat) (hn : bs.length = n) (hk : k < n) : (bs.take k ++ List.replicate (n - k) []).set k (bs[k]'(by omega)) = bs.take (k + 1) ++ List.replicate (n - (k + 1)) [] := by
  have e1 : (bs.take k).length = k := by rw [List.length_take]; omega
  rw [List.set_append_right _ _ (by omega), e1, Nat.sub_self, show n - k = (n - (k + 1)) + 1 by omega, List.replicate_succ, List.set_cons_zero, List.take_succ_eq_append_getElem (by omega), List.append_assoc]
  rfl
theorem BRow.keepF {w w' : World} {B : Nat} {v : Value} {vs : List Value} {bs : List (List UInt8)} (h : BRow w B v vs bs) {F : List Nat} (f : Fr F w w') (h1 : ∀ g, g < w.heap.size → g ∉ F) : BRow w' B v vs bs :=
  ⟨h.row.keep f (fun g hg => h1 g (h.row.lt g hg).2), fun i hi hi' => (h.each i hi hi').keep f (fun g hg => h1 g ((h.each i hi hi').lt g hg).2)⟩
theorem BRow.zeros {w : World} {B n : Nat} {v : Value} (h : Row w B 28 1 v n (List.replicate n (.slice none 0 0))) : BRow w B v (List.replicate n (.slice none 0 0)) (List.replicate n []) :=
  ⟨by rw [List.length_replicate]; exact h, fun i h1 h2 => by simp only [List.getElem_replicate]; exact Row.nil _ _ _ _⟩

set_option maxRecDepth 100000 in
set_option maxHeartbeats 4000000 in
theorem recParse_any (w : World) (m : Nat) (A : Option Addr) (n c : Nat) (vs : List Value) (bs : List (List UInt8)) (hm : m < 18446744073709551616) (hn : bs.length = n) (hr : BRd w A vs bs) (hA : A = none → n = 0) (hc : n ≤ c) (hl : n * 24 ≤ 140737488351232) (hb : ∀ b ∈ bs, b.length ≤ 140737488351232) (hK : KG w) :
    Calls Tryd.prog 9 #[.int .u64 m, .slice A n c] w fun e w' => e = .returned (.bool true) ∧ Fr [] w w' := by
  have HN := Lib.hid hn
  have HB := Lib.hid hb
  clear hb
  go_enter Tryd.func9, Tryd.ntmps9
  go_wp2_with (first | (refine wpList_mk1 rfl rfl slBB rfl .i64 .i64 _ _ n rfl rfl rfl rfl (by omega) ?_; intro w1 b1 r1 f1 z1; have Z1 := Lib.hid z1; clear z1))
  have R1 := BRow.zeros r1
  obtain ⟨g1, hg1⟩ : ∃ g1, w.heap.size = g1 := ⟨_, rfl⟩
  rw [hg1] at R1 ⊢
  have HG1 := Lib.hid hg1
  clear r1 b1 hg1 hn
  go_loopw [6] (fun i wr => ∃ k : Nat, k ≤ n ∧ i = .int .i64 k ∧ (∃ us, BRow wr g1 (.slice (some ⟨g1, 0, none⟩) n n) us (bs.take k ++ List.replicate (n - k) [])) ∧ Fr [] w wr) (fun i _ => n - (intOf i).toNat)
  case atStart => exact ⟨0, Nat.zero_le _, rfl, ⟨_, by rw [List.take_zero, List.nil_append]; exact R1⟩, f1⟩
  case round =>
    clear R1 f1
    obtain ⟨k, hk, rfl, ⟨us, R⟩, F⟩ := hrel
    by_cases hlt : k < n
    · have hkb : k < bs.length := by rw [HN.out]; exact hlt
      have hkv : k < vs.length := by rw [hr.len]; exact hkb
      obtain ⟨g, o, rfl, hc9⟩ := hr.rd (by intro h; rw [h] at hkv; simp at hkv)
      obtain ⟨A1, c1, e1, rd1, n1, l1⟩ := hr.each k hkv hkb
      have ca := F.cell (by simp) (hc9 k _ (List.getElem?_eq_getElem hkv))
      rw [e1] at ca
      have hset := take_rep_set bs n k HN.out hlt
      have hbk := HB.out _ (List.getElem_mem hkb)
      have hlen : (bs.take k ++ List.replicate (n - k) []).length = n := by rw [List.length_append, List.length_take, List.length_replicate, HN.out]; omega
      have rw0 := R.row
      rw [hlen] at rw0
      have huk : k < us.length := by rw [R.vlen, hlen]; exact hlt
      have x0 := (rowsetk rw0 k hlt .nilFunc).1
      have y0 := (rowsetk rw0 k hlt .nilFunc).2.1
      rw [List.getElem?_eq_getElem huk] at x0
      obtain ⟨ou, hou⟩ : ∃ ou, us[k] = ou := ⟨_, rfl⟩
      rw [hou] at x0
      have HUS0 := List.getElem?_eq_getElem huk
      rw [hou] at HUS0
      have hslb := (R.each k huk (by rw [hlen]; exact hlt)).slb
      rw [hou] at hslb
      obtain ⟨Ao, co, hoe, -⟩ := hslb
      generalize ((bs.take k ++ List.replicate (n - k) [])[k]'(by rw [hlen]; exact hlt)).length = no at hoe
      subst hoe
      obtain ⟨b, hb⟩ : ∃ b, bs[k] = b := ⟨_, rfl⟩
      rw [hb] at ca hset hbk rd1 n1 l1
      obtain ⟨nb, hnb⟩ : ∃ nb, b.length = nb := ⟨_, rfl⟩
      rw [hnb] at ca n1 l1 hbk
      have HNB := Lib.hid hnb
      have HUS := Lib.hid HUS0
      clear HUS0 x0 y0
      have HSET := Lib.hid hset
      have HLEN := Lib.hid hlen
      have fe : Fr [] wr (wr.alloc (.cells #[] 5)) := (Fr.refl _ _).alloc _
      have ca1 := fe.cell (by simp) ca
      clear hc9 e1 hset hlen rw0 huk hou hb hnb hkb hkv
      go_upto_region 4 with (first
        | (at_builtin; refine wpList_app rfl rfl slB w.heap.size (.slice (some ⟨wr.heap.size, 0, none⟩) 0 0) 0 [] rfl (Row.new wr #[] 5 1 0 (0, 0) (free_zero _) (by unfold maxLen; omega) rfl F.size) A1 nb c1 (bvs b) rfl (by rw [bvs_length, HNB.out]; omega) ((rd1.keep_nil F).keep_nil fe) (bvs_one _) n1 (by omega) (by have := F.size; simp; omega) ?_; intro v2 w2 q1 q2 q3 q4
           have F2 : Fr [wr.heap.size] wr w2 := ((Fr.refl [wr.heap.size] wr).alloc _).trans q2 (fun i hi => .inl (by rw [own_mem.1 hi]; simp))
           have R2 := R.keepF F2 (fun g hg hm => by simp at hm; omega)
           have r2 := R2.row
           rw [HLEN.out] at r2
           have x2 := (rowsetk r2 k hlt .nilFunc).1
           have y2 := (rowsetk r2 k hlt .nilFunc).2.1
           rw [HUS.out] at x2
           rw [Nat.zero_add, List.nil_append] at q1
           obtain ⟨A2, c2, rfl, -, -, -, -, -⟩ := q1.shape))
      have R3 := R2.setk (y := .slice A2 nb c2) (d := b) k hlt (by rw [HNB.out]; exact (HG1.out ▸ q1))
      rw [HSET.out] at R3
      have F3 : Fr [] w (w2.setCell ⟨g1, k, none⟩ (.slice A2 nb c2)) := (F.trans F2 (fun i hi => .inr (by have := F.size; simp at hi; omega))).setCell (.inr (by rw [HG1.out]; exact Nat.le_refl _)) _
      clear q1 q2 q3 q4 F2 R2 r2 x2 y2 R F fe ca ca1
      go_wp2_with fail
      exact ⟨⟨k + 1, by omega, by go_num, ⟨_, R3⟩, F3⟩, by simp [intOf]; omega⟩
    · obtain rfl : k = n := by omega
      rw [List.take_of_length_le (by rw [HN.out]; exact Nat.le_refl _), Nat.sub_self, List.replicate_zero, List.append_nil] at R
      have p1 := fun w1 (f : Fr [] wr w1) => rcParse_any w1 (some ⟨g1, 0, none⟩) m k k us bs hm HN.out (R.keep_nil f).brd (fun h => by cases h) (Nat.le_refl _) (by omega) (hK.keep (F.trans_nil f))
      have p2 := fun w1 (f : Fr [] w w1) => xrcParse_any w1 A m k c vs bs hm HN.out (hr.keep_nil f) hA hc (by omega)
      unfold TrC at p1 p2
      obtain ⟨T, hT⟩ : ∃ T, trN m bs = T := ⟨_, rfl⟩
      obtain ⟨x, hx⟩ : ∃ x, errG (trV m bs).isSome 110 = x := ⟨_, rfl⟩
      obtain ⟨rs, hrs⟩ : ∃ rs, (trV m bs).getD [] = rs := ⟨_, rfl⟩
      have h64 : rs.length ≤ 64 := by
        rw [← hrs]
        unfold trV
        cases hp : plV (bs.headD []) with
        | none => simp
        | some y =>
          obtain ⟨a, L, t⟩ := y
          dsimp only
          split
          · simp; exact (plV_b hp).2.2.1
          · simp
      rw [hT, hx, hrs] at p1 p2
      obtain ⟨N, hN⟩ : ∃ N, rs.length = N := ⟨_, rfl⟩
      rw [hN] at h64
      have HP1 := Lib.hid p1
      have HP2 := Lib.hid p2
      have HNN := Lib.hid hN
      clear p1 p2 hT hx hrs hN
      go_wp2_with fail
      refine (HP1.out wr (Fr.refl _ _)).mono ?_
      rintro e w2 ⟨v2, ps2, rfl, r2, f2⟩
      have F2 := F.trans_nil f2
      replace R := R.keep_nil f2
      have s2 := r2.row
      rw [HNN.out] at s2
      obtain ⟨A2, c2, rfl, -, -, -, -, -⟩ := s2.shape
      clear s2 f2 F
      go_wp2_with fail
      refine (HP2.out w2 F2).mono ?_
      rintro e w3 ⟨v3, ps3, rfl, r3, f3⟩
      have F3 := F2.trans_nil f3
      replace R := R.keep_nil f3
      replace r2 := r2.keep_nil f3
      have s3 := r3.row
      rw [HNN.out] at s3
      obtain ⟨A3, c3, rfl, -, -, -, -, -⟩ := s3.shape
      clear s3 f3 F2
      go_wp2_with fail
      refine (lives13_any w3 (hK.keep F3)).mono ?_
      rintro e w4 ⟨rfl, f4⟩
      have F4 := F3.trans_nil f4
      replace R := R.keep_nil f4
      replace r2 := r2.keep_nil f4
      replace r3 := r3.keep_nil f4
      clear f4 F3
      go_wp2_with fail
      refine (sameRedos_eq w4 A2 A3 N c2 c3 rs HNN.out r2.rdx r3.rdx (by omega)).mono ?_
      rintro e w5 ⟨rfl, f5⟩
      have F5 := F4.trans_nil f5
      replace R := R.keep_nil f5
      clear f5 F4 r2 r3
      go_wp2_with fail
      refine (sameBlocks_eq w5 _ A k k c us vs bs HN.out R.brd (hr.keep_nil F5) (by omega)).mono ?_
      rintro e w6 ⟨rfl, f6⟩
      have F6 := F5.trans_nil f6
      clear f6 F5 R
      go_wp2_with fail
      go_ret
      exact ⟨rfl, F6⟩
end Go.Proofs.YtlelgeigighecaaDoor
/-
  From a row's reading of its arguments to the words of the walks: slices of bytes.
-/
set_option linter.unusedSimpArgs false
set_option linter.unusedVariables false
set_option linter.unnecessarySimpa false
namespace Go.Proofs.YtlelgeigighecaaDoor
open Go.ChangeShapes Go.WideShapes Go.ChangeAt Go.RowKit

/-- A slice of bytes that came in. -/
structure ArgB (W : World) (A : Option Addr) (n cap : Nat) (l : List UInt8) : Prop where
  len : l.length = n
  rd : Rd W A (bvs l)
  nil : A = none → n = 0
  le : n ≤ cap
  cap : cap ≤ maxLen
  reach : n ≤ 140737488351232
  blk : ∀ g o, A = some ⟨g, o, none⟩ → l ≠ [] → g < W.heap.size

theorem byte_of_int {z : Int} (h : (Lit.int .u8 z).wf = true) : Value.int .u8 z = bv (UInt8.ofNat z.toNat) := by
  simp [Lit.wf, IntKind.min, IntKind.max, IntKind.signed, IntKind.bits] at h
  unfold bv
  have : z.toNat < 256 := by omega
  rw [UInt8.toNat_ofNat', Nat.mod_eq_of_lt this]
  congr 1
  omega

theorem open_bytes {H : Type} {enc : TypeId × Value → H} {P : Program} {W : World} {t e : TypeId} {fuel : Nat} {cs : List Value} {x : DataW H × List MemPlace} {held : Bool}
    (ht : P.underlying t = some (.slice e)) (he : P.underlying e = some (.int .u8)) (hc : P.cellsOf e = 1) (hB : P.bytesOf e = 1)
    (h : DataW.trod enc P W 0 (fun _ => true) held fuel t cs = some x) (hw : (DataW.weights P t x.1).all (· ≤ reachBytes) = true) :
    ∃ A n cap l, cs = [.slice A n cap] ∧ ArgB W A n cap l := by
  rcases open_ints ht he hc h with ⟨rfl, rfl⟩ | ⟨a, len, cap, zs, rfl, _, hl, hm, hz, hx, hcell, hwz⟩
  · exact ⟨none, 0, 0, [], rfl, rfl, Rd.nil _ _, fun _ => rfl, Nat.le_refl _, by unfold maxLen; omega, by omega, fun g o e => by cases e⟩
  · simp only [if_true] at hz
    refine ⟨some a, len, cap, (zs.take len).map fun z => UInt8.ofNat z.toNat, rfl, by simp; omega, ?_, fun h => (by cases h), hl, hm, ?_, ?_⟩
    · intro hne
      have hpos : 0 < zs.length := by
        cases zs with
        | nil => simp [bvs] at hne
        | cons z r => simp
      obtain ⟨g, o, sp⟩ := a
      have hsp : sp = none := by simpa [Addr.add] using World.cell?_spot (hcell 0 hpos)
      subst hsp
      refine ⟨g, o, rfl, fun j u hu => ?_⟩
      have hj : j < (zs.take len).length := by
        have := (List.getElem?_eq_some_iff.1 hu).1
        simpa [bvs] using this
      have hj' : j < zs.length := by rw [List.length_take] at hj; omega
      have h1 := hcell j hj'
      rw [addr_add] at h1
      rw [h1]
      have h2 : zs.getD j 0 = zs[j] := by simp [List.getD, hj']
      rw [h2, byte_of_int (hwz _ (List.getElem_mem hj'))]
      simp only [bvs, List.map_map, List.getElem?_map, List.getElem?_eq_getElem hj, Option.map_some, Function.comp, List.getElem_take] at hu
      exact hu
    · subst hx
      have h1 : (lits (H := H) .u8 (zs.take len)).length + (lits (H := H) .u8 (zs.drop len)).length = zs.length := by
        simp [lits]
        omega
      have h2 := List.all_eq_true.1 hw (((lits (H := H) .u8 (zs.take len)).length + (lits (H := H) .u8 (zs.drop len)).length) * P.bytesOf e) (by simp [DataW.weights, ht])
      rw [h1, hB] at h2
      have : zs.length * 1 ≤ reachBytes := by simpa using h2
      unfold reachBytes at this
      omega
    · intro g o e1 hne
      cases e1
      have hpos : 0 < zs.length := by
        cases zs with
        | nil => simp at hne
        | cons z r => simp
      have h1 := hcell 0 hpos
      exact World.block_lt_of_cell? W _ (by rw [addr_add] at h1; exact h1)

theorem weights_at {H : Type} {P : Program} {ts : List TypeId} {ds : List (DataW H)} (h : (DataW.weightsEach P ts ds).all (· ≤ reachBytes) = true) {j : Nat} {t : TypeId} {d : DataW H} (ht : ts[j]? = some t) (hd : ds[j]? = some d) :
    (DataW.weights P t d).all (· ≤ reachBytes) = true := by
  rw [List.all_eq_true] at h ⊢
  exact fun n hn => h n (DataW.weights_mem_each ht hd n hn)

/-- An argument that is one slice of bytes. -/
theorem arg_bytes {H : Type} {enc : TypeId × Value → H} {P : Program} {W : World} {t e : TypeId} {v : Value} {d : DataW H} {ps : List MemPlace} {held : Bool} {r : Reach} {b0 : Nat}
    (ht : P.underlying t = some (.slice e)) (he : P.underlying e = some (.int .u8)) (hc : P.cellsOf e = 1) (hB : P.bytesOf e = 1)
    (hv : Value.okWide P W r b0 t v) (h : DataW.Trod enc P W 0 (fun _ => true) held t v d ps) (hw : (DataW.weights P t d).all (· ≤ reachBytes) = true) :
    ∃ A n cap l, v = .slice A n cap ∧ ArgB W A n cap l := by
  obtain ⟨a, len, cap, rfl⟩ := okWide_slice ht hv
  obtain ⟨fuel, hf⟩ := h
  obtain ⟨A, n, c, l, h1, h2⟩ := open_bytes ht he hc hB hf hw
  simp [Value.cells] at h1
  obtain ⟨rfl, rfl, rfl⟩ := h1
  exact ⟨a, len, cap, l, rfl, h2⟩

theorem wf_i64 {z : Int} (h : (Lit.int .i64 z).wf = true) : -9223372036854775808 ≤ z ∧ z ≤ 9223372036854775807 := by
  simp [Lit.wf, IntKind.min, IntKind.max, IntKind.signed, IntKind.bits] at h
  exact h
theorem wf_u64 {z : Int} (h : (Lit.int .u64 z).wf = true) : ∃ n : Nat, z = n ∧ n < 18446744073709551616 := by
  simp [Lit.wf, IntKind.min, IntKind.max, IntKind.signed, IntKind.bits] at h
  exact ⟨z.toNat, by omega, by omega⟩
theorem wf_u8 {z : Int} (h : (Lit.int .u8 z).wf = true) : ∃ x : UInt8, z = (x.toNat : Int) := by
  simp [Lit.wf, IntKind.min, IntKind.max, IntKind.signed, IntKind.bits] at h
  refine ⟨UInt8.ofNat z.toNat, ?_⟩
  rw [UInt8.toNat_ofNat', Nat.mod_eq_of_lt (show z.toNat < 2 ^ 8 by omega)]
  omega
end Go.Proofs.YtlelgeigighecaaDoor
/-
  From a row's reading of its arguments to the words of the walks: slices of structs, field by field.
-/
set_option linter.unusedSimpArgs false
set_option linter.unusedVariables false
set_option linter.unnecessarySimpa false
namespace Go.Proofs.YtlelgeigighecaaDoor
open Go.ChangeShapes Go.WideShapes Go.ChangeAt Go.RowKit

section
variable {H : Type} {enc : TypeId × Value → H} {P : Program} {W : World} {fuel : Nat} {held : Bool}

/-- A slice that came in, its elements still unread: n of them, each of 'size' cells. -/
structure ArgS (enc : TypeId × Value → H) (P : Program) (W : World) (held : Bool) (e : TypeId) (A : Option Addr) (n cap : Nat) (els : List (List Value)) : Prop where
  len : els.length = n
  rd : 0 < n → ∃ g o, A = some ⟨g, o, none⟩ ∧ g < W.heap.size ∧ ∀ i (hi : i < els.length) j, j < P.cellsOf e → W.cell? ⟨g, o + i * P.cellsOf e + j, none⟩ = els[i][j]?
  nil : A = none → n = 0
  le : n ≤ cap
  cap : cap ≤ maxLen
  reach : n * P.bytesOf e ≤ 140737488351232
  each : ∀ x ∈ els, x.length = P.cellsOf e ∧ ∃ m y, DataW.trod enc P W 0 (fun _ => true) held m e x = some y ∧ (DataW.weights P e y.1).all (· ≤ reachBytes) = true

theorem weightsAll_mem {e : TypeId} : ∀ {l : List (DataW H)} {d : DataW H}, d ∈ l → ∀ n ∈ d.weights P e, n ∈ DataW.weightsAll P e l
  | d0 :: l, d, hd, n, hn => by
    rw [DataW.weightsAll, List.mem_append]
    rcases List.mem_cons.1 hd with rfl | h
    · exact .inl hn
    · exact .inr (weightsAll_mem h n hn)

theorem open_elems {t e : TypeId} {cs : List Value} {x : DataW H × List MemPlace} (ht : P.underlying t = some (.slice e)) (hpos : 0 < P.cellsOf e)
    (h : DataW.trod enc P W 0 (fun _ => true) held fuel t cs = some x) (hw : (DataW.weights P t x.1).all (· ≤ reachBytes) = true) :
    ∃ A n cap els, cs = [.slice A n cap] ∧ ArgS enc P W held e A n cap els := by
  rcases DataW.trod_slice ht h with ⟨rfl, rfl⟩ | ⟨a, len, cap, elems, rest, k, _, rfl, hx, hb, hl, hm, hlen, hel, hsp, _⟩
  · exact ⟨none, 0, 0, [], rfl, ⟨rfl, fun h => by omega, fun _ => rfl, Nat.le_refl _, by unfold maxLen; omega, by omega, by simp⟩⟩
  · have hread : ∀ i, i < len → ∃ cs' y, W.cells? 0 (a.add (i * P.cellsOf e)) (P.cellsOf e) = some cs' ∧ DataW.trod enc P W 0 (fun _ => true) held k e cs' = some y ∧ elems[i]? = some y := by
      intro i hi
      have h1 := hel i hi
      have h2 : elems[i]? = some elems[i] := List.getElem?_eq_getElem (by omega)
      rw [h2] at h1
      obtain ⟨cs', e1, e2⟩ := Option.bind_eq_some_iff.1 h1
      exact ⟨cs', _, e1, e2, h2⟩
    obtain ⟨els, hels⟩ : ∃ els : List (List Value), els = (List.range len).map fun i => (W.cells? 0 (a.add (i * P.cellsOf e)) (P.cellsOf e)).getD [] := ⟨_, rfl⟩
    have hel2 : els.length = len := by rw [hels]; simp
    have hat : ∀ i (hi : i < els.length), W.cells? 0 (a.add (i * P.cellsOf e)) (P.cellsOf e) = some els[i] := by
      intro i hi
      obtain ⟨cs', y, e1, _⟩ := hread i (by omega)
      subst hels
      simp [e1]
    refine ⟨some a, len, cap, els, rfl, ⟨hel2, fun hn => ?_, fun h => (by cases h), hl, hm, ?_, fun z hz => ?_⟩⟩
    · obtain ⟨g, o, sp⟩ := a
      have h0 := World.cells?_some (hat 0 (by omega))
      have c0 := h0.2.2 0 hpos
      rw [List.getElem?_eq_getElem (by omega)] at c0
      have hspot : sp = none := by simpa [Addr.add] using World.cell?_spot c0
      subst hspot
      refine ⟨g, o, rfl, ?_, fun i hi j hj => ?_⟩
      · have := World.block_lt_of_cell? W _ c0
        simpa [Addr.add] using this
      · have h1 := (World.cells?_some (hat i hi)).2.2 j hj
        rw [addr_add, addr_add] at h1
        exact h1
    · rw [hx] at hw
      have h2 := List.all_eq_true.1 hw (((elems.map (·.1)).length + (rest.map (·.1)).length) * P.bytesOf e) (by simp [DataW.weights, ht])
      have h3 : (elems.length + rest.length) * P.bytesOf e ≤ 140737488351232 := by simpa [reachBytes] using h2
      exact Nat.le_trans (Nat.mul_le_mul_right _ (by omega)) h3
    · obtain ⟨i, hi, rfl⟩ := List.getElem_of_mem hz
      obtain ⟨cs', y, e1, e2, e3⟩ := hread i (by omega)
      have e4 := hat i hi
      rw [e1] at e4
      cases e4
      refine ⟨(World.cells?_some e1).2.1, k, y, e2, ?_⟩
      rw [hx] at hw
      rw [List.all_eq_true] at hw ⊢
      intro n hn
      refine hw n ?_
      simp only [DataW.weights, ht, List.mem_cons, List.mem_append]
      exact .inr (.inl (weightsAll_mem (List.mem_map.2 ⟨y, List.mem_of_getElem? e3, rfl⟩) n hn))

/-- One field of a struct: its cells are read at its type, its weight is within reach. -/
theorem open_field {t : TypeId} {fs : Array Field} {cs : List Value} {x : DataW H × List MemPlace} (ht : P.underlying t = some (.struct fs))
    (h : DataW.trod enc P W 0 (fun _ => true) held fuel t cs = some x) (hw : (DataW.weights P t x.1).all (· ≤ reachBytes) = true) (i : Nat) (ft : TypeId) (off : Nat) (hf : (fs[i]?).map (fun f => (f.type, f.offset)) = some (ft, off)) :
    cs.length = P.cellsOf t ∧ ∃ m y, DataW.trod enc P W 0 (fun _ => true) held m ft ((cs.drop off).take (P.cellsOf ft)) = some y ∧ (DataW.weights P ft y.1).all (· ≤ reachBytes) = true := by
  obtain ⟨f, hf', e⟩ := Option.map_eq_some_iff.1 hf
  simp only [Prod.mk.injEq] at e
  obtain ⟨rfl, rfl⟩ := e
  obtain ⟨xs, m, _, hx, hcl, hxl, hall⟩ := DataW.trod_struct ht h
  have h1 := hall i f hf'
  have hi : i < fs.size := (Array.getElem?_eq_some_iff.1 hf').1
  have h2 : xs[i]? = some xs[i] := List.getElem?_eq_getElem (by omega)
  rw [h2] at h1
  refine ⟨hcl, m, _, h1, ?_⟩
  rw [hx] at hw
  simp only [DataW.weights, ht] at hw
  refine weights_at (j := i) hw ?_ ?_
  · simp [hf']
  · simp [h2]
end
end Go.Proofs.YtlelgeigighecaaDoor
/-
  Arguments of layer 13's laws (slices of redos, slices of slices of bytes) as they come in.
-/
set_option linter.unusedSimpArgs false
set_option linter.unusedVariables false
set_option linter.unnecessarySimpa false
namespace Go.Proofs.YtlelgeigighecaaDoor
open Go.ChangeShapes Go.WideShapes Go.ChangeAt Go.RowKit

theorem list_choice {α : Type} {p : Nat → α → Prop} : ∀ (n : Nat), (∀ i, i < n → ∃ y, p i y) → ∃ ys : List α, ys.length = n ∧ ∀ i (hi : i < ys.length), p i ys[i]
  | 0, _ => ⟨[], rfl, fun i hi => by simp at hi⟩
  | n + 1, h => by
    obtain ⟨ys, hl, hp⟩ := list_choice n (fun i hi => h i (by omega))
    obtain ⟨y, hy⟩ := h n (by omega)
    refine ⟨ys ++ [y], by rw [List.length_append, hl]; rfl, fun i hi => ?_⟩
    by_cases hlt : i < ys.length
    · rw [List.getElem_append_left hlt]; exact hp i hlt
    · have e : i = ys.length := by rw [List.length_append, List.length_singleton] at hi; omega
      subst e
      rw [List.getElem_append_right (Nat.le_refl _)]
      simpa [hl] using hy

/-- A slice of slices of bytes that came in. -/
structure ArgBB (W : World) (A : Option Addr) (n cap : Nat) (vs : List Value) (bs : List (List UInt8)) : Prop where
  len : bs.length = n
  rd : BRd W A vs bs
  nil : A = none → n = 0
  le : n ≤ cap
  reach : n * 24 ≤ 140737488351232
  each : ∀ b ∈ bs, b.length ≤ 140737488351232

section
variable {H : Type} {enc : TypeId × Value → H} {W : World} {held : Bool}
set_option maxRecDepth 100000 in
theorem arg_bytess {v : Value} {d : DataW H} {ps : List MemPlace} {r : Reach} {b0 : Nat} (hv : Value.okWide Tryd.prog W r b0 49 v) (h : DataW.Trod enc Tryd.prog W 0 (fun _ => true) held 49 v d ps) (hw : (DataW.weights Tryd.prog 49 d).all (· ≤ reachBytes) = true) :
    ∃ A n cap vs bs, v = .slice A n cap ∧ ArgBB W A n cap vs bs := by
  obtain ⟨A, n, cap, rfl⟩ := okWide_slice Tryd.underlying49 hv
  obtain ⟨fuel, hf⟩ := h
  obtain ⟨A', n', cap', els, e1, hS⟩ := open_elems Tryd.underlying49 (by rw [show Tryd.prog.cellsOf 28 = 1 by kernel_rfl]; omega) hf hw
  simp [Value.cells] at e1
  obtain ⟨rfl, rfl, rfl⟩ := e1
  have c1 : Tryd.prog.cellsOf 28 = 1 := by kernel_rfl
  have b24 : Tryd.prog.bytesOf 28 = 24 := by kernel_rfl
  obtain ⟨ys, hyl, hy⟩ := list_choice (p := fun i (y : Value × List UInt8) => els[i]? = some [y.1] ∧ SlB W y.1 y.2 ∧ y.2.length ≤ 140737488351232) n (fun i hi => by
    have hi' : i < els.length := by rw [hS.len]; exact hi
    obtain ⟨hl, m, y, t, wt⟩ := hS.each els[i] (List.getElem_mem hi')
    obtain ⟨B, k, c, l, e2, hb⟩ := open_bytes Tryd.underlying28 Tryd.underlying5 (by kernel_rfl) (by kernel_rfl) t wt
    exact ⟨(.slice B k c, l), by rw [List.getElem?_eq_getElem hi', e2], ⟨B, c, by rw [hb.len], hb.rd, fun h => by rw [hb.len]; exact hb.nil h, by rw [hb.len]; exact hb.le⟩, by rw [hb.len]; exact hb.reach⟩)
  refine ⟨A, n, cap, ys.map (·.1), ys.map (·.2), rfl, ⟨by rw [List.length_map, hyl], ⟨fun hne => ?_, by rw [List.length_map, List.length_map], fun i h1 h2 => ?_⟩, hS.nil, hS.le, by rw [← b24]; exact hS.reach, fun b hb => ?_⟩⟩
  · have hpos : 0 < n := by
      rw [← hyl]
      cases ys with
      | nil => simp at hne
      | cons y r => simp
    obtain ⟨g, o, rfl, -, hc⟩ := hS.rd hpos
    refine ⟨g, o, rfl, fun j u hu => ?_⟩
    have hj : j < ys.length := by
      have := (List.getElem?_eq_some_iff.1 hu).1
      simpa using this
    have h1 := hc j (by rw [hS.len, ← hyl]; exact hj) 0 (by rw [c1]; omega)
    rw [c1, Nat.mul_one, Nat.add_zero] at h1
    rw [h1]
    have h2 := (hy j hj).1
    rw [List.getElem?_eq_getElem (by rw [hS.len, ← hyl]; exact hj)] at h2
    rw [Option.some.inj h2]
    rw [List.getElem?_map, List.getElem?_eq_getElem hj] at hu
    exact hu
  · rw [List.length_map] at h1
    simp only [List.getElem_map]
    exact (hy i h1).2.1
  · obtain ⟨y, hy', rfl⟩ := List.mem_map.1 hb
    obtain ⟨i, hi, rfl⟩ := List.getElem_of_mem hy'
    exact (hy i hi).2.2

set_option maxRecDepth 100000 in
theorem arg_redos {v : Value} {d : DataW H} {ps : List MemPlace} {r : Reach} {b0 : Nat} (hv : Value.okWide Tryd.prog W r b0 48 v) (h : DataW.Trod enc Tryd.prog W 0 (fun _ => true) held 48 v d ps) (hw : (DataW.weights Tryd.prog 48 d).all (· ≤ reachBytes) = true) :
    ∃ A n cap rs, v = .slice A n cap ∧ RdR W A n cap rs := by
  obtain ⟨A, n, cap, rfl⟩ := okWide_slice Tryd.underlying48 hv
  obtain ⟨fuel, hf⟩ := h
  obtain ⟨A', n', cap', els, e1, hS⟩ := open_elems Tryd.underlying48 (by rw [show Tryd.prog.cellsOf 85 = 2 by kernel_rfl]; omega) hf hw
  simp [Value.cells] at e1
  obtain ⟨rfl, rfl, rfl⟩ := e1
  have c2 : Tryd.prog.cellsOf 85 = 2 := by kernel_rfl
  have b32 : Tryd.prog.bytesOf 85 = 32 := by kernel_rfl
  have ci : Tryd.prog.cellsOf 3 = 1 := by kernel_rfl
  have cb : Tryd.prog.cellsOf 28 = 1 := by kernel_rfl
  obtain ⟨ys, hyl, hy⟩ := list_choice (p := fun i (y : Int × Value × List UInt8) => els[i]? = some [.int .i64 y.1, y.2.1] ∧ in64 y.1 ∧ SlB W y.2.1 y.2.2 ∧ y.2.2.length ≤ 140737488355328) n (fun i hi => by
    have hi' : i < els.length := by rw [hS.len]; exact hi
    obtain ⟨hl, m, y, t, wt⟩ := hS.each els[i] (List.getElem_mem hi')
    obtain ⟨_, m0, y0, t0, _⟩ := open_field Tryd.underlying85 t wt 0 3 0 rfl
    obtain ⟨_, m1, y1, t1, w1⟩ := open_field Tryd.underlying85 t wt 1 28 1 rfl
    rw [c2] at hl
    obtain ⟨cs, hcs⟩ : ∃ cs, els[i] = cs := ⟨_, rfl⟩
    rw [hcs] at hl t0 t1
    match cs, hl, hcs with
    | [a, b], _, hcs =>
      simp only [ci, cb, List.drop_zero, List.drop_succ_cons, List.take_succ_cons, List.take_zero] at t0 t1
      obtain ⟨k, e0, _, r0⟩ := DataW.trod_int Tryd.underlying3 t0
      obtain ⟨B, k2, c, l, e2, hb⟩ := open_bytes Tryd.underlying28 Tryd.underlying5 (by kernel_rfl) (by kernel_rfl) t1 w1
      simp only [List.cons.injEq, and_true] at e0 e2
      subst e0 e2
      exact ⟨(k, .slice B k2 c, l), by rw [List.getElem?_eq_getElem hi', hcs], wf_i64 r0, ⟨B, c, by rw [hb.len], hb.rd, fun h => by rw [hb.len]; exact hb.nil h, by rw [hb.len]; exact hb.le⟩, by rw [hb.len]; have := hb.reach; omega⟩)
  refine ⟨A, n, cap, ys.map (fun y => (y.1, y.2.2)), rfl, ⟨by rw [List.length_map, hyl], fun hpos => ?_, hS.nil, hS.le, by rw [← b32]; exact hS.reach⟩⟩
  obtain ⟨g, o, rfl, hg, hc⟩ := hS.rd hpos
  refine ⟨g, o, rfl, hg, fun i hi => ?_⟩
  rw [List.length_map] at hi
  obtain ⟨h1, h2, h3, h4⟩ := hy i hi
  have hi' : i < els.length := by rw [hS.len, ← hyl]; exact hi
  have k0 := hc i hi' 0 (by rw [c2]; omega)
  have k1 := hc i hi' 1 (by rw [c2]; omega)
  rw [List.getElem?_eq_getElem hi'] at h1
  rw [Option.some.inj h1, c2] at k0 k1
  simp only [List.getElem_map]
  exact ⟨h2, by simpa using k0, _, by simpa using k1, h3, h4⟩
end
end Go.Proofs.YtlelgeigighecaaDoor
/-
  What the listed variable (SHA-256's constants) gives the walks; the door's own heap meets the condition.
-/
set_option linter.unusedSimpArgs false
set_option linter.unusedVariables false
set_option linter.unnecessarySimpa false
namespace Go.Proofs.YtlelgeigighecaaDoor
open Go.ChangeShapes Go.WideShapes Go.ChangeAt Go.RowKit

abbrev laidK {H : Type} : List (String × DataW H) := [("casket/sha.constants", Rows.laid_casket_sha_constants)]
theorem gConst : Tryd.prog.globalNamed "casket/sha.constants" = some 0 := by kernel_rfl
theorem tConst : (Tryd.prog.globals[0]?).map (·.type) = some 119 := by kernel_rfl
theorem laid_eq {H : Type} : (Rows.laid_casket_sha_constants : DataW H) = .agg (kC.map fun k => .lit (.int .u32 (uw k))) := by kernel_rfl

theorem door_met (os : Os) (args : Array Value) : laidMetH Tryd.prog laidK ((World.doorLaid Tryd.prog 400 os).forCall (fun _ _ => 0) ⟨#[], args, []⟩).memory :=
  laidMetH_of_parts3 (fuel := 8) (laidMet_of_run' 8 (by kernel_rfl) (by kernel_rfl)) (by kernel_rfl) (by kernel_rfl)

set_option maxRecDepth 100000 in
theorem kg_of_laid {W : World} (h : laidMetH Tryd.prog laidK W) : KG W := by
  rw [MakeChecks.laidMetH_plain _ _ _ (by kernel_rfl)] at h
  obtain ⟨ps, ⟨g0, t0, cs0, f0, p0, q0, hg0, ht0, hv0, hd0, _, _⟩, _, _⟩ := h
  obtain rfl := Option.some.inj (gConst.symm.trans hg0)
  obtain rfl := Option.some.inj (tConst.symm.trans ht0)
  obtain ⟨xs, m1, rfl, hx1, hlen, hn3, hel⟩ := DataW.trod_array Tryd.underlying119 hd0
  have c32 : Tryd.prog.cellsOf 102 = 1 := by kernel_rfl
  have c64 : Tryd.prog.cellsOf 119 = 64 := by kernel_rfl
  rw [c64] at hlen
  have hxs : xs.map (·.1) = kC.map fun k => .lit (.int .u32 (uw k)) := by
    have e := (Prod.mk.inj hx1).1
    rw [laid_eq] at e
    exact (DataW.agg.inj e).symm
  intro j u hu
  have hj : j < kC.length := by
    have := (List.getElem?_eq_some_iff.1 hu).1
    rwa [wvs_length] at this
  have hj64 : j < 64 := hj
  rw [wvs_at hj] at hu
  cases hu
  have h1 := hel j hj64
  rw [c32, Nat.mul_one] at h1
  have hl : j < cs0.toList.length := by rw [hlen]; exact hj64
  have h2 : (cs0.toList.drop j).take 1 = [cs0.toList[j]] := by rw [List.take_one, List.head?_drop, List.getElem?_eq_getElem hl]; rfl
  have hxl : j < xs.length := by rw [hn3]; exact hj64
  rw [h2, List.getElem?_eq_getElem hxl] at h1
  obtain ⟨z, e1, e2, _⟩ := DataW.trod_int Tryd.underlying102 h1
  have e3 : (xs.map (·.1))[j]? = some (.lit (.int .u32 (uw kC[j]))) := by rw [hxs, List.getElem?_map, List.getElem?_eq_getElem hj]; rfl
  rw [List.getElem?_map, List.getElem?_eq_getElem hxl, Option.map_some] at e3
  have e4 : z = uw kC[j] := by
    rw [e2] at e3
    simpa using e3
  have e5 : cs0.toList[j] = .int .u32 z := by simpa using e1
  have := World.var?_cell hg0 hv0 j
  rw [Nat.zero_add, this, ← Array.getElem?_toList, List.getElem?_eq_getElem hl, e5, e4]
  rfl
end Go.Proofs.YtlelgeigighecaaDoor
/-
  RecordBlocks, the walk: the blocks of any transaction; they are parsed again, whatever stands behind; of fewer nothing is.
-/
set_option linter.unusedSimpArgs false
set_option linter.unusedVariables false
set_option linter.unnecessarySimpa false
namespace Go.Proofs.YtlelgeigighecaaDoor
open Go.RowKit

theorem BRd.app {w : World} {B n c : Nat} {A A1 A2 : Option Addr} {vs us : List Value} {bs cs : List (List UInt8)} (h : Row w B 28 1 (.slice A n c) n (vs ++ us)) (h1 : BRd w A1 vs bs) (h2 : BRd w A2 us cs) : BRd w A (vs ++ us) (bs ++ cs) := by
  have l1 := h1.len
  have l2 := h2.len
  refine ⟨h.rd.1, by rw [List.length_append, List.length_append, l1, l2], fun i hi hj => ?_⟩
  by_cases hlt : i < vs.length
  · rw [List.getElem_append_left hlt]
    have e : (bs ++ cs)[i] = bs[i]'(by omega) := List.getElem_append_left (by omega)
    rw [e]
    exact h1.each i hlt (by omega)
  · rw [List.getElem_append_right (by omega)]
    have e : (bs ++ cs)[i] = cs[i - bs.length]'(by rw [List.length_append] at hj; omega) := List.getElem_append_right (by omega)
    rw [e]
    have := h2.each (i - vs.length) (by rw [List.length_append] at hi; omega) (by rw [List.length_append] at hi; omega)
    simp only [l1] at this ⊢
    exact this

theorem BRd.ones {w : World} {A : Option Addr} {vs : List Value} {bs : List (List UInt8)} (h : BRd w A vs bs) : ∀ u ∈ vs, u.oneCell' = true := fun u hu => by
  obtain ⟨i, hi, rfl⟩ := List.getElem_of_mem hu
  exact (h.each i hi (by rw [← h.len]; exact hi)).one

set_option maxRecDepth 100000 in
set_option maxHeartbeats 4000000 in
theorem recBlocks_any (w : World) (m : Nat) (A : Option Addr) (n c : Nat) (rs : List (Int × List UInt8)) (A2 : Option Addr) (n2 c2 : Nat) (us : List Value) (cs : List (List UInt8)) (z : Int)
    (hm : m < 18446744073709551616) (hr : RdR w A n c rs) (hn2 : cs.length = n2) (hr2 : BRd w A2 us cs) (hA2 : A2 = none → n2 = 0) (hc2 : n2 ≤ c2) (hl2 : n2 * 24 ≤ 140737488351232) (hz : -9223372036854775808 ≤ z ∧ z ≤ 9223372036854775807) (hK : KG w) :
    Calls Tryd.prog 8 #[.int .u64 m, .slice A n c, .slice A2 n2 c2, .int .i64 z] w fun e w' => e = .returned (.bool true) ∧ Fr [] w w' := by
  have p1 := rcBlocks_any w A m n c rs hm hr hK
  have p2 := fun w1 (f : Fr [] w w1) => xrcBlocks_any w1 A m n c rs hm (hr.keep_nil f)
  have HP2 := Lib.hid p2
  have HN2 := Lib.hid hn2
  clear p2 hn2
  cases hv : blkV m rs with
  | none =>
    have HV := Lib.hid hv
    clear hv
    go_enter Tryd.func8, Tryd.ntmps8
    go_wp2_with fail
    refine p1.mono ?_
    intro e w1 hE
    obtain ⟨v1, vs1, rfl, R1, f1⟩ := BlkC.of_none HV.out hE
    obtain ⟨A1, c1, rfl, hc1, D1, m1⟩ := R1.arg (n := 0) rfl
    clear hE p1
    go_wp2_with fail
    refine (HP2.out w1 f1).mono ?_
    intro e w2 hE
    obtain ⟨v2, vs2, rfl, R2, f2⟩ := BlkC.of_none HV.out hE
    obtain ⟨A3, c3, rfl, hc3, D2, m2⟩ := R2.arg (n := 0) rfl
    have F2 := f1.trans_nil f2
    replace D1 := D1.keep_nil f2
    clear hE f1 f2
    go_wp2_with fail
    refine (lives13_any w2 (hK.keep F2)).mono ?_
    rintro e w3 ⟨rfl, f3⟩
    have F3 := F2.trans_nil f3
    go_wp2_with fail
    refine (sameBlocks_eq w3 A1 A3 0 c1 c3 vs1 vs2 [] rfl (D1.keep_nil f3) (D2.keep_nil f3) (by omega)).mono ?_
    rintro e w4 ⟨rfl, f4⟩
    go_wp2_with fail
    go_ret
    exact ⟨rfl, F3.trans_nil f4⟩
  | some bs =>
    have hok : rcOk m rs := Classical.byContradiction fun h => by rw [blkV_none h] at hv; cases hv
    have hbs : blkL m rs ++ [doneB m (blkL m rs).flatten] = bs := by rw [blkV_some hok] at hv; exact Option.some.inj hv
    have hlen : bs.length = n + 2 := by rw [← hbs, List.length_append, blkL_len, hr.len]; rfl
    have h64 : n ≤ 64 := by rw [← hr.len]; exact hok.2.1
    have hT1 : trV m (bs ++ cs) = some rs := by rw [← hbs]; exact trV_blk hok hm cs
    have hT2 : ∀ k, k < n + 2 → trV m (bs.take k) = none := fun k hk => by rw [← hbs]; exact trV_cut hok hm (by rw [hr.len]; exact hk) _
    obtain ⟨M, hM⟩ : ∃ M, n + 2 = M := ⟨_, rfl⟩
    have hM2 : 2 ≤ M ∧ M ≤ 66 := by omega
    have hrl : ((rs.length + 2 : Nat) : Int) = M := by rw [hr.len, hM]
    rw [hM] at hlen hT2
    have HV := Lib.hid hv
    have HLEN := Lib.hid hlen
    have HT1 := Lib.hid hT1
    have HT2 := Lib.hid hT2
    have HRL := Lib.hid hrl
    have HRS := Lib.hid hr.len
    have HX := Lib.hid hr.rdx
    clear hv hok hbs hlen hT1 hT2 hM hrl
    obtain ⟨t, ht⟩ : ∃ t, z.tmod (M : Int) = t := ⟨_, rfl⟩
    have ht1 : t < M := by rw [← ht]; exact Int.tmod_lt_of_pos _ (by omega)
    have ht2 : -(M : Int) < t := by rw [← ht]; exact Int.lt_tmod_of_pos _ (by omega)
    have hM0 : ¬ ((M : Int) = 0) := by omega
    go_enter Tryd.func8, Tryd.ntmps8
    go_wp2_with fail
    refine p1.mono ?_
    intro e w1 hE
    obtain ⟨v1, vs1, rfl, R1, f1⟩ := BlkC.of_some HV.out hE
    obtain ⟨A1, c1, rfl, hc1, D1, m1⟩ := R1.arg HLEN.out
    clear hE p1
    go_wp2_with fail
    refine (HP2.out w1 f1).mono ?_
    intro e w2 hE
    obtain ⟨v2, vs2, rfl, R2, f2⟩ := BlkC.of_some HV.out hE
    obtain ⟨A3, c3, rfl, hc3, D2, m2⟩ := R2.arg HLEN.out
    have F2 := f1.trans_nil f2
    replace D1 := D1.keep_nil f2
    clear hE f1 f2 R1 R2
    go_wp2_with fail
    refine (lives13_any w2 (hK.keep F2)).mono ?_
    rintro e w3 ⟨rfl, f3⟩
    have F3 := F2.trans_nil f3
    replace D1 := D1.keep_nil f3
    replace D2 := D2.keep_nil f3
    clear f3 F2
    go_wp2_with fail
    refine (sameBlocks_eq w3 A1 A3 M c1 c3 vs1 vs2 bs HLEN.out D1 D2 (by omega)).mono ?_
    rintro e w4 ⟨rfl, f4⟩
    have F4 := F3.trans_nil f4
    replace D1 := D1.keep_nil f4
    replace D2 := D2.keep_nil f4
    have hvl : vs1.length = M := by rw [D1.len, HLEN.out]
    have hul : us.length = n2 := by rw [hr2.len, HN2.out]
    have HVL := Lib.hid hvl
    have HUL := Lib.hid hul
    have fe : Fr [] w4 (w4.alloc (.cells #[] 28)) := (Fr.refl _ _).alloc _
    have D1e := D1.keep_nil fe
    have fr2 := hr2.keep_nil (F4.trans_nil fe)
    clear f4 F3 hvl hul
    go_wp2_with (first
      | (at_builtin; refine wpList_app rfl rfl slBB w4.heap.size (.slice (some ⟨w4.heap.size, 0, none⟩) 0 0) 0 [] rfl (Row.new w4 #[] 28 1 0 (0, 0) (free_zero _) (by unfold maxLen; omega) rfl (Nat.le_refl _)) A1 M c1 vs1 rfl (by rw [HVL.out, Nat.mul_one]) D1e.rd (D1.ones) m1 (by omega) (by simp) ?_; intro v5 w5 q1 q2 q3 q4
         have F5 : Fr [] w4 w5 := fe.trans q2 (fun i hi => .inr (by rw [own_mem.1 hi]; exact Nat.le_refl _))
         have R5 := q1
         rw [Nat.zero_add, List.nil_append] at R5
         clear q1 q2 q3 q4
         obtain ⟨A5, c5, rfl, -, -, -, -, -⟩ := R5.shape)
      | (at_builtin; refine wpList_app rfl rfl slBB w4.heap.size (.slice A5 M c5) M vs1 rfl R5 A2 n2 c2 us rfl (by rw [HUL.out, Nat.mul_one]) (hr2.keep_nil (F4.trans_nil F5)).rd (hr2.ones) hA2 (by omega) F5.size ?_; intro v6 w6 q1 q2 q3 q4))
    have f46 : Fr [] w4 w6 := F5.trans q2 (fun i hi => .inr (R5.lt i (mem_own.1 hi)).1)
    have F6 := F4.trans_nil f46
    have hr26 := hr2.keep_nil F6
    replace D1 := D1.keep_nil f46
    replace D2 := D2.keep_nil f46
    obtain ⟨A6, c6, rfl, hc6, -, -, -, -⟩ := q1.shape
    have D6 := BRd.app q1 D1 hr26
    have m6 := q1.rd.2.2
    clear q1 q2 q3 q4 f46 F5 R5 D1 hr26 D1e fe fr2
    have HL6 := Lib.hid (show (bs ++ cs).length = M + n2 by rw [List.length_append, HLEN.out, HN2.out])
    refine (rcParse_any w6 A6 m (M + n2) c6 (vs1 ++ us) (bs ++ cs) hm HL6.out D6 m6 hc6 (by omega) (hK.keep F6)).mono ?_
    intro e w7 hE
    obtain ⟨v7, ps, rfl, R7, f7⟩ := TrC.of_some HT1.out hE
    rw [HRL.out]
    have F7 := F6.trans_nil f7
    replace D2 := D2.keep_nil f7
    have r7 := R7.row
    rw [HRS.out] at r7
    obtain ⟨A7, c7, rfl, -, -, -, -, -⟩ := r7.shape
    have X7 := R7.rdx
    clear hE f7 F6 D6 R7 r7
    go_wp2_with fail
    refine (sameRedos_eq w7 A7 A n c7 c rs HRS.out X7 (HX.out.keep_nil F7) (by omega)).mono ?_
    rintro e w8 ⟨rfl, f8⟩
    have F8 := F7.trans_nil f8
    replace D2 := D2.keep_nil f8
    clear f8 F7 X7
    by_cases hneg : t < 0
    · obtain ⟨k, hk⟩ : ∃ k : Nat, -t = k := ⟨(-t).toNat, by omega⟩
      have hkM : k < M := by omega
      have hkc : (k : Int) ≤ c3 := by omega
      have HT := Lib.hid (HT2.out k hkM)
      have HL := Lib.hid (show (bs.take k).length = k by rw [List.length_take, HLEN.out]; omega)
      go_wp2_with fail
      refine (rcParse_any w8 A3 m k c3 (vs2.take k) (bs.take k) hm HL.out (D2.take k) (fun h => by have := m2 h; omega) (by omega) (by omega) (hK.keep F8)).mono ?_
      intro e w9 hE
      obtain ⟨v9, rfl, ⟨A9, c9, rfl⟩, f9⟩ := TrC.of_none HT.out hE
      clear hE
      go_wp2_with fail
      go_ret
      exact ⟨rfl, F8.trans_nil f9⟩
    · obtain ⟨k, rfl⟩ : ∃ k : Nat, t = k := ⟨t.toNat, by omega⟩
      have hkM : k < M := by omega
      have hkc : (k : Int) ≤ c3 := by omega
      have HT := Lib.hid (HT2.out k hkM)
      have HL := Lib.hid (show (bs.take k).length = k by rw [List.length_take, HLEN.out]; omega)
      go_wp2_with fail
      refine (rcParse_any w8 A3 m k c3 (vs2.take k) (bs.take k) hm HL.out (D2.take k) (fun h => by have := m2 h; omega) (by omega) (by omega) (hK.keep F8)).mono ?_
      intro e w9 hE
      obtain ⟨v9, rfl, ⟨A9, c9, rfl⟩, f9⟩ := TrC.of_none HT.out hE
      clear hE
      go_wp2_with fail
      go_ret
      exact ⟨rfl, F8.trans_nil f9⟩
end Go.Proofs.YtlelgeigighecaaDoor
