/-
  Texts of this claim, one behind the other: CodI, RecC, JnB, JnC, RecD, RecE.
-/
import Derived.Test.YtbanogfljpkbkaaGreatDoorM5
import Derived.Test.YtbanogfljpkbkaaGreatDoorM7
import Derived.Test.YtbanogfljpkbkaaGreatDoorM4
import Derived.Handy
import Derived.Test.YtbanogfljpkbkaaGreatDoorM2
import Derived.Maps.Own
import Derived.Maps.OwnOps
import Derived.Maps.Views
set_option linter.unusedSimpArgs false
set_option linter.unusedVariables false
set_option linter.unnecessarySimpa false
namespace Go.Proofs.YtbanogfljpkbkaaGreatDoor
section
open Go.RowKit
def inR (l : List UInt8) (bad : Bool) (n : Int) : Bool := !bad && decide (0 ≤ n) && decide (n ≤ l.length)
theorem inR_true {l : List UInt8} {bad : Bool} {n : Int} (h : inR l bad n = true) : bad = false ∧ ∃ m : Nat, n = m ∧ m ≤ l.length := by
 simp only [inR, Bool.and_eq_true, Bool.not_eq_true', decide_eq_true_eq] at h
 exact ⟨h.1.1, n.toNat, by omega, by omega⟩
theorem inR_false {l : List UInt8} {bad : Bool} {n : Int} (h : inR l bad n = false) : bad = true ∨ n < 0 ∨ (l.length : Int) < n := by
 simp only [inR, Bool.and_eq_false_iff, Bool.not_eq_false', decide_eq_false_iff_not] at h
 rcases h with (h | h) | h
 ·exact .inl h
 ·exact .inr (.inl (by omega))
 ·exact .inr (.inr (by omega))
def stB (l : List UInt8) (bad : Bool) (n : Int) : List UInt8 := if inR l bad n then l.take n.toNat else []
def stL (l : List UInt8) (bad : Bool) (n : Int) : List UInt8 := if inR l bad n then l.drop n.toNat else l
def stUv (l : List UInt8) (bad : Bool) (n : Int) : Nat := if inR l bad n && wide n then leN (l.take n.toNat) else 0
def stUl (l : List UInt8) (bad : Bool) (n : Int) : List UInt8 := if inR l bad n && wide n then l.drop n.toNat else l
def stUb (l : List UInt8) (bad : Bool) (n : Int) : Bool := !(inR l bad n && wide n)
theorem stUv_lt (l : List UInt8) (bad : Bool) (n : Int) : stUv l bad n < 18446744073709551616 := by
 unfold stUv
 split
 ·rename_i h
  simp only [Bool.and_eq_true] at h
  have h8 : n.toNat ≤ 8 := by
   have := h.2
   simp only [wide, Bool.or_eq_true, beq_iff_eq] at this
   omega
  exact Nat.lt_of_lt_of_le (leN_take_lt l _) (Nat.le_trans (Nat.pow_le_pow_right (by omega) h8) (by decide))
 ·omega
section
variable {w : World} {p : Nat} {G : List Nat} {l : List UInt8} {bad : Bool}
theorem rUint_any (h : Rdr 248 w p G l bad) (n : Int) :
  Calls Tryz.prog 201 #[.pointer (some ⟨p, 0, none⟩), .int .i64 n] w fun e w' => e = .returned (.int .u64 (stUv l bad n)) ∧ Rdr 248 w' p G (stUl l bad n) (stUb l bad n) ∧ Fr [p] w w' := by
 cases h1 : (inR l bad n && wide n) with
 | true =>
  simp only [Bool.and_eq_true] at h1
  obtain ⟨rfl, m, rfl, hm⟩ := inR_true h1.1
  have e1 : stUv l false m = leN (l.take m) := by simp [stUv, h1.1, h1.2]
  have e2 : stUl l false m = l.drop m := by simp [stUl, h1.1, h1.2]
  have e3 : stUb l false m = false := by simp [stUb, h1.1, h1.2]
  rw [e1, e2, e3]
  exact rUint_ok h m hm h1.2
 | false =>
  have e1 : stUv l bad n = 0 := by simp [stUv, h1]
  have e2 : stUl l bad n = l := by simp [stUl, h1]
  have e3 : stUb l bad n = true := by simp [stUb, h1]
  rw [e1, e2, e3]
  refine rUint_bad h n ?_
  by_cases hw : wide n = true
  ·have h2 : inR l bad n = false := by simpa [hw] using h1
   rcases inR_false h2 with h | h | h
   ·exact .inl h
   ·simp only [wide, Bool.or_eq_true, beq_iff_eq] at hw; omega
   ·exact .inr (.inr h)
  ·exact .inr (.inl (by simpa using hw))
theorem rBytes_any (h : Rdr 248 w p G l bad) (n : Int) :
  Calls Tryz.prog 200 #[.pointer (some ⟨p, 0, none⟩), .int .i64 n] w fun e w' => ∃ v, e = .returned v ∧ Row w' w.heap.size 5 1 v (stB l bad n).length (bvs (stB l bad n)) ∧ Rdr 248 w' p G (stL l bad n) (!inR l bad n) ∧ Fr [p] w w' := by
 cases h1 : inR l bad n with
 | true =>
  obtain ⟨rfl, m, rfl, hm⟩ := inR_true h1
  have e1 : stB l false m = l.take m := by simp [stB, h1]
  have e2 : stL l false m = l.drop m := by simp [stL, h1]
  rw [e1, e2, show (l.take m).length = m by rw [List.length_take]; omega]
  exact rBytes_ok h m hm
 | false =>
  have e1 : stB l bad n = [] := by simp [stB, h1]
  have e2 : stL l bad n = l := by simp [stL, h1]
  rw [e1, e2]
  exact (rBytes_bad h n (inR_false h1)).mono fun e w' ⟨h1, h2, h3⟩ => ⟨_, h1, Row.nil _ _ _ _, h2, h3⟩
end
end
section
open Go.RowKit
def numR (l : List UInt8) : Nat := stUv (stL l false 4) (!inR l false 4) 8
theorem numR_lt (l : List UInt8) : numR l < 18446744073709551616 := stUv_lt _ _ _
theorem numR_512 {l : List UInt8} (h : l.length = 512) : numR l = leN ((l.drop 4).take 8) := by
 have h1 : inR l false 4 = true := by simp [inR, h]
 have h2 : stL l false 4 = l.drop 4 := by simp [stL, h1]
 have h3 : inR (l.drop 4) false 8 = true := by simp [inR, h]
 rw [numR, h1, h2, Bool.not_true, stUv, h3]
 simp [wide]
def rmV (l : List UInt8) : Option Nat := if numR l ≠ 0 ∧ l = markB (numR l) then some (numR l) else none
def RmC (w : World) (l : List UInt8) (e : Ending) (w' : World) : Prop :=
 e = .returned (.tuple #[.int .u64 (((rmV l).getD 0 : Nat) : Int), .int .i64 (errG (rmV l).isSome 110)]) ∧ Fr [] w w'
set_option maxRecDepth 100000 in
set_option maxHeartbeats 4000000 in
theorem rcReadMark_any (w : World) (A : Option Addr) (l : List UInt8) (n c : Nat) (hn : l.length = n) (hr : Rd w A (bvs l)) (hA : A = none → n = 0) (hl : n ≤ 140737488355328) (hK : KG w) :
  Calls Tryz.prog 171 #[.slice A n c] w (RmC w l) := by
 have HN := Lib.hid hn
 have hk := numR_lt l
 obtain ⟨k, hkk⟩ : ∃ k, numR l = k := ⟨_, rfl⟩
 have HKK := Lib.hid hkk
 rw [hkk] at hk
 clear hn hkk
 go_enter Tryz.func171, Tryz.ntmps171
 go_wp2_with fail
 refine (newReader_any A l n c w HN.out hr hA hl).mono ?_
 rintro e w1 ⟨p, G, rfl, x1, f1, z1, g1⟩
 go_wp2_with fail
 refine (rBytes_any x1 4).mono ?_
 rintro e w2 ⟨v2, rfl, r2, x2, f2⟩
 have F2 : Fr [] w w2 := f1.trans f2 (fun i hi => .inr (by simp at hi; omega))
 go_wp2_with fail
 have cc := rUint_any x2 8
 rw [show stUv (stL l false 4) (!inR l false 4) 8 = k from HKK.out] at cc
 refine cc.mono ?_
 clear cc
 rintro e w3 ⟨rfl, x3, f3⟩
 have F3 : Fr [] w w3 := F2.trans f3 (fun i hi => .inr (by simp at hi; omega))
 clear x1 x2 x3 f1 f2 f3 r2 F2
 go_wp2_with fail
 refine (rcMark_any w3 k hk (hK.keep F3)).mono ?_
 rintro e w4 ⟨v, rfl, r4, f4⟩
 have F4 := F3.trans_nil f4
 obtain ⟨A4, c4, rfl, -, -, rd4, -, -⟩ := r4.shape
 have n4 := r4.rd.2.2
 by_cases h0 : k = 0
 ·have hv : rmV l = none := by rw [rmV, if_neg (by rw [HKK.out]; exact fun h => h.1 h0)]
  have HV := Lib.hid hv
  rw [show (k != 0) = false by rw [h0]; rfl, show errG false 1 = 1 from rfl]
  clear hv
  go_wp2_with fail
  go_ret2
  exact ⟨by rw [HV.out]; rfl, F4⟩
 ·simp only [if_neg h0] at rd4
  simp only [if_neg h0] at n4
  rw [show (k != 0) = true by simpa using h0, show errG true 1 = 0 from rfl, if_neg h0]
  obtain ⟨q, hq⟩ : ∃ q, markB k = q := ⟨_, rfl⟩
  have hql : q.length = 512 := by rw [← hq, markB_len]
  rw [hq] at rd4
  have H0 := Lib.hid h0
  have HQ := Lib.hid (fun _ : Unit => hq)
  have HQL := Lib.hid hql
  clear h0 hq hql r4
  have cc := bytesEq_any A A4 l q n c 512 c4 w4 HN.out (hr.keep_nil F4) hA HQL.out rd4 n4
  cases heq : (l == q)
  ·have hv : rmV l = none := by
    rw [rmV, if_neg]
    rw [HKK.out, HQ.out ()]
    intro h
    rw [h.2] at heq
    simp at heq
   have HV := Lib.hid hv
   rw [heq] at cc
   clear hv heq
   go_wp2_with fail
   refine cc.mono ?_
   rintro e w5 ⟨rfl, rfl⟩
   go_wp2_with fail
   go_ret2
   exact ⟨by rw [HV.out]; rfl, F4⟩
  ·have hv : rmV l = some k := by
    rw [rmV, if_pos, HKK.out]
    rw [HKK.out, HQ.out ()]
    exact ⟨H0.out, eq_of_beq heq⟩
   have HV := Lib.hid hv
   rw [heq] at cc
   clear hv heq
   go_wp2_with fail
   refine cc.mono ?_
   rintro e w5 ⟨rfl, rfl⟩
   go_wp2_with fail
   go_ret2
   exact ⟨by rw [HV.out]; rfl, F4⟩
set_option maxRecDepth 100000 in
set_option maxHeartbeats 4000000 in
theorem xrcReadMark_any (w : World) (A : Option Addr) (l : List UInt8) (n c : Nat) (hn : l.length = n) (hr : Rd w A (bvs l)) (hA : A = none → n = 0) (hc : n ≤ c) :
  Calls Tryz.prog 122 #[.slice A n c] w (RmC w l) := by
 by_cases h512 : n = 512
 ·subst h512
  have HN := Lib.hid hn
  have hk := numR_lt l
  have h5 := numR_512 hn
  obtain ⟨k, hkk⟩ : ∃ k, numR l = k := ⟨_, rfl⟩
  have HKK := Lib.hid hkk
  rw [hkk] at hk h5
  obtain ⟨ga, oa, rfl⟩ : ∃ ga oa, A = some ⟨ga, oa, none⟩ := by
   obtain ⟨g', o', e', -⟩ := hr (by intro h0; have := congrArg List.length h0; rw [bvs_length, hn, List.length_nil] at this; omega)
   exact ⟨g', o', e'⟩
  have rdn : Rd w (some ⟨ga, oa + 4, none⟩) (bvs ((l.drop 4).take 8)) := by
   have := (hr.drop 4).take 8
   rw [← bvs_drop, ← bvs_take] at this
   simpa [addr_add] using this
  have K12 : (12 : Int) ≤ c := by omega
  have N4 : ¬ (c = 4) := by omega
  have cv := xrcValue_any (some ⟨ga, oa + 4, none⟩) ((l.drop 4).take 8) 8 (c - 4) w (by rw [List.length_take, List.length_drop, hn]; rfl) rdn (by omega)
  rw [← h5] at cv
  have E0 := Lib.hid (fun (w' : World) (f : Fr [] w w') => strB w' (some ⟨ga, oa, none⟩) l 512 c hn (hr.keep_nil f) hA)
  clear hn hkk h5 rdn
  go_enter Tryz.func122, Tryz.ntmps122
  go_wp2_with fail
  refine cv.mono ?_
  rintro e w1 ⟨rfl, rfl⟩
  clear cv
  go_wp2_with fail
  refine (xrcMark_any w k hk).mono ?_
  rintro e w4 ⟨v, rfl, r4, f4⟩
  obtain ⟨A4, c4, rfl, -, -, -, -, -⟩ := r4.shape
  by_cases h0 : k = 0
  ·have hv : rmV l = none := by rw [rmV, if_neg (by rw [HKK.out]; exact fun h => h.1 h0)]
   have HV := Lib.hid hv
   rw [show (k != 0) = false by rw [h0]; rfl, show errG false 1 = 1 from rfl]
   clear hv
   go_wp2_with fail
   go_ret2
   exact ⟨by rw [HV.out]; rfl, f4⟩
  ·have E4 := r4.str
   have E5 := E0.out w4 f4
   simp only [if_neg h0] at E4
   rw [show (k != 0) = true by simpa using h0, show errG true 1 = 0 from rfl, if_neg h0]
   obtain ⟨q, hq⟩ : ∃ q, markB k = q := ⟨_, rfl⟩
   rw [hq] at E4
   have H0 := Lib.hid h0
   have HQ := Lib.hid (fun _ : Unit => hq)
   clear h0 hq r4
   by_cases heq : q = l
   ·have hv : rmV l = some k := by
     rw [rmV, if_pos, HKK.out]
     rw [HKK.out, HQ.out ()]
     exact ⟨H0.out, heq.symm⟩
    have HV := Lib.hid hv
    rw [heq] at E4
    clear hv heq
    go_wp2_with fail
    go_ret2
    exact ⟨by rw [HV.out]; rfl, f4⟩
   ·have hv : rmV l = none := by
     rw [rmV, if_neg]
     rw [HKK.out, HQ.out ()]
     intro h
     exact heq h.2.symm
    have HV := Lib.hid hv
    have hbe : (q == l) = false := by rw [beq_eq_false_iff_ne]; exact heq
    clear hv heq
    go_wp2_with fail
    go_ret2
    exact ⟨by rw [HV.out]; rfl, f4⟩
 ·have hv : rmV l = none := by
   rw [rmV, if_neg]
   intro h
   have := congrArg List.length h.2
   rw [markB_len] at this
   omega
  have HV := Lib.hid hv
  have d : ((n : Int) == 512) = false := by rw [beq_eq_false_iff_ne]; omega
  clear hv hn
  go_enter Tryz.func122, Tryz.ntmps122
  go_wp2_with fail
  go_ret2
  exact ⟨by rw [HV.out]; rfl, Fr.refl _ _⟩
end
section
open Go.RowKit
set_option maxRecDepth 100000
inductive Stp where
 | wr (x : Int) (b : List UInt8)
 | fl
def Stp.E (D : DkM) : Stp → Int
 | .wr x b => D.writeE x b.length
 | .fl => D.flushE
def Stp.D (D : DkM) : Stp → DkM
 | .wr x b => D.write x b
 | .fl => D.flush
def runS : DkM → List Stp → Int × DkM
 | D, [] => (0, D)
 | D, s :: r => if s.E D = 0 then runS (s.D D) r else (s.E D, s.D D)
theorem Stp.D_uns (s : Stp) (D : DkM) (x : Int) : ((s.D D).uns x).length ≤ (D.uns x).length + 1 := by
 have hdec : ∀ E : DkM, E.dec.uns = E.uns := fun E => rfl
 cases s with
 | wr y b =>
  show ((D.write y b).uns x).length ≤ _
  rw [DkM.write]
  split
  ·omega
  ·split
   ·omega
   ·rw [hdec]
    show (if x = y then D.uns y ++ [b] else D.uns x).length ≤ _
    split
    ·rename_i e; subst e; simp
    ·omega
 | fl =>
  show ((D.flush).uns x).length ≤ _
  rw [DkM.flush]
  split
  ·omega
  ·rw [hdec]; exact Nat.zero_le _
section
variable {w w' : World} {p : Nat} {O : List Nat} {D : DkM}
structure Cap3 (w : World) (O : List Nat) (p g1 g2 g3 : Nat) (x : Int) (b : List UInt8) : Prop where
 k1 : Blk w g1 32 #[.pointer (some ⟨p, 0, none⟩)]
 k2 : Blk w g2 3 #[.int .i64 x]
 k3 : ∃ v, Blk w g3 27 #[v] ∧ Row w 0 5 1 v b.length (bvs b)
 nO : g1 ∉ O ∧ g2 ∉ O ∧ g3 ∉ O
theorem jnMark1_any (h : Dsk w p O D) {g1 g2 g3 : Nat} {x : Int} {b : List UInt8} (c : Cap3 w O p g1 g2 g3 x b) (hu : (D.uns x).length ≤ 4398046511104) :
  Calls Tryz.prog 110 #[.pointer (some ⟨g1, 0, none⟩), .pointer (some ⟨g2, 0, none⟩), .pointer (some ⟨g3, 0, none⟩)] w fun e w' => e = .returned (.int .i64 (Stp.E D (.wr x b))) ∧ AftD w p O (Stp.D D (.wr x b)) w' := by
 obtain ⟨v, k3, r⟩ := c.k3
 obtain ⟨A, cc, rfl, -, -, -, -, -⟩ := r.shape
 have cw := dkWrite_any h x A b.length cc b rfl r.rdD.1 r.rdD.2.2 hu
 have c1 := c.k1.cell 0
 have c2 := c.k2.cell 0
 have c3 := k3.cell 0
 obtain ⟨n, hn⟩ : ∃ n, b.length = n := ⟨_, rfl⟩
 obtain ⟨z, hz⟩ : ∃ z, D.writeE x n = z := ⟨_, rfl⟩
 rw [hn] at cw c3
 rw [hz] at cw
 have HZ := Lib.hid (show Stp.E D (.wr x b) = z by rw [Stp.E, hn, hz])
 clear hn hz r k3 c h
 go_enter Tryz.func110, Tryz.ntmps110
 go_wp2_with (go_at_call 111; refine cw.mono ?_; rintro e w' ⟨rfl, ha⟩)
 go_ret
 exact ⟨by rw [HZ.out]; rfl, ha⟩
structure CapA (w : World) (O : List Nat) (p gj g1 g2 g3 : Nat) (J : JrM) (i : Nat) (b : List UInt8) : Prop where
 kj : Jr w gj p J
 k1 : Blk w g1 129 #[.pointer (some ⟨gj, 0, none⟩)]
 k2 : Blk w g2 3 #[.int .i64 i]
 k3 : ∃ v, Blk w g3 27 #[v] ∧ Row w 0 5 1 v b.length (bvs b)
 nO : gj ∉ O ∧ g1 ∉ O ∧ g2 ∉ O ∧ g3 ∉ O
structure CapS (w : World) (O : List Nat) (p gj g1 g2 : Nat) (J : JrM) (i : Nat) : Prop where
 kj : Jr w gj p J
 k1 : Blk w g1 129 #[.pointer (some ⟨gj, 0, none⟩)]
 k2 : Blk w g2 3 #[.int .i64 i]
 nO : gj ∉ O ∧ g1 ∉ O ∧ g2 ∉ O
theorem jnAppend1_any (h : Dsk w p O D) {gj g1 g2 g3 : Nat} {J : JrM} {i : Nat} {b : List UInt8} (c : CapA w O p gj g1 g2 g3 J i b) (ok : J.ok) (hi : i ≤ 4096) (hu : (D.uns (J.first + 1 + J.used + i)).length ≤ 4398046511104) :
  Calls Tryz.prog 147 #[.pointer (some ⟨g1, 0, none⟩), .pointer (some ⟨g2, 0, none⟩), .pointer (some ⟨g3, 0, none⟩)] w fun e w' => e = .returned (.int .i64 (Stp.E D (.wr (J.first + 1 + J.used + i) b))) ∧ AftD w p O (Stp.D D (.wr (J.first + 1 + J.used + i) b)) w' := by
 obtain ⟨x, hx⟩ : ∃ x, J.first + 1 + J.used + (i : Int) = x := ⟨_, rfl⟩
 rw [hx] at hu ⊢
 obtain ⟨v, k3, r⟩ := c.k3
 obtain ⟨A, cc, rfl, -, -, -, -, -⟩ := r.shape
 have fD : Fr [] w w.drew := (Fr.refl _ _).drew
 have cw := dkWrite_any (h.keep_nil fD) x A b.length cc b rfl (r.keep_nil fD).rdD.1 r.rdD.2.2 hu
 obtain ⟨n, hn⟩ : ∃ n, b.length = n := ⟨_, rfl⟩
 obtain ⟨z, hz⟩ : ∃ z, D.writeE x n = z := ⟨_, rfl⟩
 have HZ := Lib.hid (show Stp.E D (.wr x b) = z by rw [Stp.E, hn, hz])
 rw [hn] at cw k3
 rw [hz] at cw
 have s0 : w.cell? ⟨gj, 0, none⟩ = some (.pointer (some ⟨p, 0, none⟩)) ∧ w.cell? ⟨gj, 1, none⟩ = some (.int .i64 J.first) ∧ w.cell? ⟨gj, 4, none⟩ = some (.int .i64 J.used) ∧ w.cell? ⟨g1, 0, none⟩ = some (.pointer (some ⟨gj, 0, none⟩)) ∧ w.cell? ⟨g2, 0, none⟩ = some (.int .i64 i) ∧ w.cell? ⟨g3, 0, none⟩ = some (.slice A n cc) :=
  ⟨Blk.cell c.kj 0, Blk.cell c.kj 1, Blk.cell c.kj 4, c.k1.cell 0, c.k2.cell 0, k3.cell 0⟩
 have sF : ∀ (F : List Nat) (w' : World), Fr F w w' → (∀ j ∈ F, j ∈ O) → (w'.cell? ⟨gj, 0, none⟩ = some (.pointer (some ⟨p, 0, none⟩)) ∧ w'.cell? ⟨gj, 1, none⟩ = some (.int .i64 J.first) ∧ w'.cell? ⟨gj, 4, none⟩ = some (.int .i64 J.used) ∧ w'.cell? ⟨g1, 0, none⟩ = some (.pointer (some ⟨gj, 0, none⟩)) ∧ w'.cell? ⟨g2, 0, none⟩ = some (.int .i64 i) ∧ w'.cell? ⟨g3, 0, none⟩ = some (.slice A n cc)) := fun F w' f hF =>
  ⟨f.cell (fun hm => c.nO.1 (hF _ hm)) s0.1, f.cell (fun hm => c.nO.1 (hF _ hm)) s0.2.1, f.cell (fun hm => c.nO.1 (hF _ hm)) s0.2.2.1, f.cell (fun hm => c.nO.2.1 (hF _ hm)) s0.2.2.2.1, f.cell (fun hm => c.nO.2.2.1 (hF _ hm)) s0.2.2.2.2.1, f.cell (fun hm => c.nO.2.2.2 (hF _ hm)) s0.2.2.2.2.2⟩
 have hf := ok.f
 have hus := ok.u
 have e1 : IntKind.i64.wrap (J.first + 1) = J.first + 1 := IntWalk.i64_in _ (by omega)
 have e2 : IntKind.i64.wrap (J.first + 1 + J.used) = J.first + 1 + J.used := IntWalk.i64_in _ (by omega)
 have e3 : IntKind.i64.wrap (J.first + 1 + J.used + (i : Int)) = x := by rw [← hx]; exact IntWalk.i64_in _ (by omega)
 have SF := Lib.hid sF
 have FD := Lib.hid fD
 have hD := sF [] _ fD (by simp)
 clear hx hz hn s0 sF k3 r c h fD
 go_enter Tryz.func147, Tryz.ntmps147
 go_upto_region 1 with fail
 refine wp_region_held_drew (S := fun w' => w'.cell? ⟨gj, 0, none⟩ = some (.pointer (some ⟨p, 0, none⟩)) ∧ w'.cell? ⟨gj, 1, none⟩ = some (.int .i64 J.first) ∧ w'.cell? ⟨gj, 4, none⟩ = some (.int .i64 J.used) ∧ w'.cell? ⟨g1, 0, none⟩ = some (.pointer (some ⟨gj, 0, none⟩)) ∧ w'.cell? ⟨g2, 0, none⟩ = some (.int .i64 i) ∧ w'.cell? ⟨g3, 0, none⟩ = some (.slice A n cc)) (by kernel_rfl) hD (fun hHeld => ?_)
 clear hD
 refine tw 0 4 hHeld ?_
 refine tw 1 5 hHeld ?_
 refine tw 2 6 hHeld ?_
 refine tw 3 7 hHeld ?_
 refine tw 4 8 hHeld ?_
 refine tw 5 9 hHeld ?_
 refine tw 6 10 hHeld ?_
 refine tw 7 11 hHeld ?_
 refine tw 8 12 hHeld ?_
 refine tw 9 13 hHeld ?_
 refine tw 10 14 hHeld ?_
 refine tw 11 15 hHeld ?_
 refine tw 12 16 hHeld ?_
 refine tw 13 17 hHeld ?_
 refine tw 14 18 hHeld ?_
 refine tw 15 19 hHeld ?_
 refine tw 16 20 hHeld ?_
 refine tc 17 (fun K hK => ?_)
 go_simp
 refine cw.mono ?_
 rintro e w5 ⟨rfl, ha⟩
 have hHx := SF.out O w5 (by obtain ⟨O', -, -, f⟩ := ha; exact FD.out.nil.trans f (fun i hi => .inl hi)) (fun _ h => h)
 refine hK.out _ _ hHx (fun hHy => ?_)
 clear hK cw hHeld hHy
 have hHeld := hHx
 clear hHx
 try simp only [Act.put, p1, p2, p3]
 refine tw 18 3 hHeld ?_
 refine wpAnyH_done (by kernel_rfl) ?_ _
 clear hHeld
 go_wp2_with fail
 go_ret
 exact ⟨by rw [HZ.out]; rfl, ha.pre FD.out⟩
def StV (w : World) (O : List Nat) (p : Nat) (v : Value) : Stp → Prop
 | .fl => v = .func (.func 112) #[.pointer (some ⟨p, 0, none⟩)] #[]
 | .wr x b => (∃ g1 g2 g3, v = .func (.func 110) #[] #[.pointer (some ⟨g1, 0, none⟩), .pointer (some ⟨g2, 0, none⟩), .pointer (some ⟨g3, 0, none⟩)] ∧ Cap3 w O p g1 g2 g3 x b) ∨
  (∃ gj g1 g2 g3 J i, v = .func (.func 147) #[] #[.pointer (some ⟨g1, 0, none⟩), .pointer (some ⟨g2, 0, none⟩), .pointer (some ⟨g3, 0, none⟩)] ∧ CapA w O p gj g1 g2 g3 J i b ∧ J.ok ∧ i ≤ 4096 ∧ x = J.first + 1 + J.used + i) ∨
  (∃ gj g1 g2 J i, v = .nilFunc ∧ CapS w O p gj g1 g2 J i ∧ J.ok ∧ i ≤ 4096 ∧ x = J.first + i ∧ b = zB512 ∧ False)
theorem Jr.lt {J : JrM} {g : Nat} (h : Jr w g p J) : g < w.heap.size := Blk.lt h
theorem StV.keep {F O1 : List Nat} {v : Value} {s : Stp} (h : StV w O p v s) (f : Fr F w w') (hF : ∀ i ∈ F, i ∈ O) (h8 : NoTy w O 5) (hO : ∀ i ∈ O1, i ∈ O ∨ w.heap.size ≤ i) : StV w' O1 p v s := by
 have key : ∀ g, g < w.heap.size → g ∉ O → g ∉ F ∧ g ∉ O1 := fun g hg hn => ⟨fun hm => hn (hF g hm), fun hm => by rcases hO g hm with h | h; exact hn h; omega⟩
 have h8F := h8.sub hF
 cases s with
 | fl => exact h
 | wr x b =>
  rcases h with ⟨g1, g2, g3, rfl, ⟨k1, k2, ⟨u, k3, r⟩, n1, n2, n3⟩⟩ | ⟨gj, g1, g2, g3, J, i, rfl, ⟨kj, k1, k2, ⟨u, k3, r⟩, nj, n1, n2, n3⟩, hr⟩ | ⟨gj, g1, g2, J, i, rfl, ⟨kj, k1, k2, nj, n1, n2⟩, hr⟩
  ·exact .inl ⟨g1, g2, g3, rfl, k1.keep f (key _ k1.lt n1).1, k2.keep f (key _ k2.lt n2).1, ⟨u, k3.keep f (key _ k3.lt n3).1, r.keepT f h8F⟩, (key _ k1.lt n1).2, (key _ k2.lt n2).2, (key _ k3.lt n3).2⟩
  ·exact .inr (.inl ⟨gj, g1, g2, g3, J, i, rfl, ⟨kj.keep f (key _ kj.lt nj).1, k1.keep f (key _ k1.lt n1).1, k2.keep f (key _ k2.lt n2).1, ⟨u, k3.keep f (key _ k3.lt n3).1, r.keepT f h8F⟩, (key _ kj.lt nj).2, (key _ k1.lt n1).2, (key _ k2.lt n2).2, (key _ k3.lt n3).2⟩, hr⟩)
  ·exact .inr (.inr ⟨gj, g1, g2, J, i, rfl, ⟨kj.keep f (key _ kj.lt nj).1, k1.keep f (key _ k1.lt n1).1, k2.keep f (key _ k2.lt n2).1, (key _ kj.lt nj).2, (key _ k1.lt n1).2, (key _ k2.lt n2).2⟩, hr⟩)
theorem Dsk.no8s (h : Dsk w p O D) : NoTy w O 5 := by obtain ⟨X, h⟩ := h; exact h.no8
theorem StV.calls (h : Dsk w p O D) {v : Value} {s : Stp} (hv : StV w O p v s) (hu : ∀ x, (D.uns x).length ≤ 4398046511104) :
  (v = .func (.func 112) #[.pointer (some ⟨p, 0, none⟩)] #[] ∧ Calls Tryz.prog 112 #[.pointer (some ⟨p, 0, none⟩)] w fun e w' => e = .returned (.int .i64 (s.E D)) ∧ AftD w p O (s.D D) w') ∨
  (∃ x y z, v = .func (.func 110) #[] #[x, y, z] ∧ Calls Tryz.prog 110 #[x, y, z] w fun e w' => e = .returned (.int .i64 (s.E D)) ∧ AftD w p O (s.D D) w') ∨
  (∃ x y z, v = .func (.func 147) #[] #[x, y, z] ∧ Calls Tryz.prog 147 #[x, y, z] w fun e w' => e = .returned (.int .i64 (s.E D)) ∧ AftD w p O (s.D D) w') ∨
  (∃ x y, v = .func (.func 147) #[] #[x, y] ∧ Calls Tryz.prog 147 #[x, y] w fun e w' => e = .returned (.int .i64 (s.E D)) ∧ AftD w p O (s.D D) w') := by
 cases s with
 | fl => exact .inl ⟨hv, dkFlush_any h⟩
 | wr x b =>
  rcases hv with ⟨g1, g2, g3, rfl, c⟩ | ⟨gj, g1, g2, g3, J, i, rfl, c, ok, hi, rfl⟩ | ⟨gj, g1, g2, J, i, e, c, ok, hi, hx, hb, hF⟩
  ·exact .inr (.inl ⟨_, _, _, rfl, jnMark1_any h c (hu x)⟩)
  ·exact .inr (.inr (.inl ⟨_, _, _, rfl, jnAppend1_any h c ok hi (hu _)⟩))
  ·exact hF.elim
theorem runS_drop {D : DkM} {ss : List Stp} {k : Nat} (hk : k < ss.length) : runS D (ss.drop k) = if ss[k].E D = 0 then runS (ss[k].D D) (ss.drop (k + 1)) else (ss[k].E D, ss[k].D D) := by
 rw [List.drop_eq_getElem_cons hk, runS]
set_option maxHeartbeats 1000000 in
theorem jnRun_any (h : Dsk w p O D) {A : Option Addr} {n c : Nat} {fs : List Value} {ss : List Stp} (hr : Row w 0 47 1 (.slice A n c) n fs) (hA : ∀ g, (Value.slice A n c).ownBlock = some g → g ∉ O) (hl : ss.length = n)
  (hs : ∀ i (h : i < fs.length) (h' : i < ss.length), StV w O p fs[i] ss[i]) (hu : ∀ x, (D.uns x).length + n ≤ 4398046511104) :
  Calls Tryz.prog 109 #[.slice A n c] w fun e w' => e = .returned (.int .i64 (runS D ss).1) ∧ AftD w p O (runS D ss).2 w' := by
 have hfl : fs.length = n := by have := hr.1; omega
 have HRW := Lib.hid (And.intro hr hA)
 have HS := Lib.hid (And.intro hs (And.intro hl hfl))
 have H8 := Lib.hid h.no8s
 have hd0 : ∃ O' Dk, (Dsk w p O' Dk ∧ (∀ i ∈ O', i ∈ O ∨ w.heap.size ≤ i) ∧ Fr O w w) ∧ runS Dk (ss.drop 0) = runS D ss ∧ ∀ x, (Dk.uns x).length + (n - 0) ≤ 4398046511104 := ⟨O, D, ⟨h, fun i hi => .inl hi, Fr.refl _ _⟩, by rw [List.drop_zero], by simpa using hu⟩
 have hnb : n ≤ 4398046511104 := by have := hu 0; omega
 clear hr hA hs h hu hfl
 go_enter Tryz.func109, Tryz.ntmps109
 go_wp2_with fail
 go_loopw [8] (fun i wr => ∃ k : Nat, k ≤ n ∧ i = .int .i64 k ∧ ∃ O' Dk, (Dsk wr p O' Dk ∧ (∀ i ∈ O', i ∈ O ∨ w.heap.size ≤ i) ∧ Fr O w wr) ∧ runS Dk (ss.drop k) = runS D ss ∧ ∀ x, (Dk.uns x).length + (n - k) ≤ 4398046511104) (fun i _ => n - (intOf i).toNat)
 case atStart => exact ⟨0, by omega, rfl, hd0⟩
 case round =>
  clear hd0
  obtain ⟨k, hkn, rfl, O1, Dk, ⟨hd, hO, hF⟩, hR, hU⟩ := hrel
  by_cases hlt : k < n
  ·have d0 : (k : Int) < n := by omega
   have hk' : k < ss.length := by have := HS.out.2.1; omega
   have hkf : k < fs.length := by have := HS.out.2.2; omega
   have rr := HRW.out.1.keep hF HRW.out.2
   obtain ⟨g, cg, e⟩ := rr.hdD (by omega)
   cases e
   obtain ⟨g', o', e', hcs⟩ := rr.rdD.1 (by intro h0; rw [h0] at hkf; simp at hkf)
   cases e'
   have ck := hcs k _ (List.getElem?_eq_getElem hkf)
   rw [Nat.zero_add] at ck
   have sv := (HS.out.1 k hkf hk').keep hF (fun _ h => h) H8.out hO
   have cv := StV.calls hd sv (fun x => by have := hU x; omega)
   obtain ⟨z, hz⟩ : ∃ z, ss[k].E Dk = z := ⟨_, rfl⟩
   rw [hz] at cv
   have HR := Lib.hid hR
   have HU := Lib.hid hU
   have HO := Lib.hid hO
   have HF := Lib.hid hF
   have HDk := Lib.hid hd
   obtain ⟨v, hv⟩ : ∃ v, fs[k] = v := ⟨_, rfl⟩
   rw [hv] at ck cv
   clear rr hcs sv hR hU hO hF hd hv
   rcases cv with ⟨rfl, hc⟩ | ⟨a1, a2, a3, rfl, hc⟩ | ⟨a1, a2, a3, rfl, hc⟩ | ⟨a1, a2, rfl, hc⟩
   ·as_aux_lemma =>
    have HZ := Lib.hid hz
    have HX := Lib.hid (show runS Dk (ss.drop k) = if z = 0 then runS (ss[k].D Dk) (ss.drop (k + 1)) else (z, ss[k].D Dk) by rw [runS_drop hk', hz])
    clear hz
    by_cases hz0 : z = 0
    ·have HX0 := Lib.hid (show runS Dk (ss.drop k) = runS (ss[k].D Dk) (ss.drop (k + 1)) by rw [HX.out, if_pos hz0])
     subst hz0
     go_wp2_with fail
     refine hc.mono ?_
     rintro e w5 ⟨rfl, ha⟩
     have HA := Lib.hid ha
     clear ha hc
     go_wp2_with fail
     obtain ⟨O', k1, k2, k3⟩ := HA.out
     refine ⟨⟨k + 1, by omega, by go_num, O', _, ⟨k1, fun i hi => ?_, HF.out.trans k3 (fun i hi => HO.out i hi)⟩, ?_, fun x => ?_⟩, by simp [intOf]; omega⟩
     ·rcases k2 i hi with h | h
      ·exact HO.out i h
      ·have := HF.out.size; exact .inr (by omega)
     ·rw [← HR.out, HX0.out]
     ·have := HU.out x
      have := ss[k].D_uns Dk x
      omega
    ·have dz : (z == 0) = false := by simpa using hz0
     have HX0 := Lib.hid (show runS Dk (ss.drop k) = (z, ss[k].D Dk) by rw [HX.out, if_neg hz0])
     go_wp2_with fail
     refine hc.mono ?_
     rintro e w5 ⟨rfl, ha⟩
     have HA := Lib.hid ha
     clear ha hc
     go_wp2_with fail
     go_ret
     rw [← HR.out, HX0.out]
     refine ⟨rfl, ?_⟩
     obtain ⟨O', k1, k2, k3⟩ := HA.out
     refine ⟨O', k1, fun i hi => ?_, HF.out.trans k3 (fun i hi => HO.out i hi)⟩
     rcases k2 i hi with h | h
     ·exact HO.out i h
     ·have := HF.out.size; exact .inr (by omega)
   ·as_aux_lemma =>
    have HZ := Lib.hid hz
    have HX := Lib.hid (show runS Dk (ss.drop k) = if z = 0 then runS (ss[k].D Dk) (ss.drop (k + 1)) else (z, ss[k].D Dk) by rw [runS_drop hk', hz])
    clear hz
    by_cases hz0 : z = 0
    ·have HX0 := Lib.hid (show runS Dk (ss.drop k) = runS (ss[k].D Dk) (ss.drop (k + 1)) by rw [HX.out, if_pos hz0])
     subst hz0
     go_wp2_with fail
     refine hc.mono ?_
     rintro e w5 ⟨rfl, ha⟩
     have HA := Lib.hid ha
     clear ha hc
     go_wp2_with fail
     obtain ⟨O', k1, k2, k3⟩ := HA.out
     refine ⟨⟨k + 1, by omega, by go_num, O', _, ⟨k1, fun i hi => ?_, HF.out.trans k3 (fun i hi => HO.out i hi)⟩, ?_, fun x => ?_⟩, by simp [intOf]; omega⟩
     ·rcases k2 i hi with h | h
      ·exact HO.out i h
      ·have := HF.out.size; exact .inr (by omega)
     ·rw [← HR.out, HX0.out]
     ·have := HU.out x
      have := ss[k].D_uns Dk x
      omega
    ·have dz : (z == 0) = false := by simpa using hz0
     have HX0 := Lib.hid (show runS Dk (ss.drop k) = (z, ss[k].D Dk) by rw [HX.out, if_neg hz0])
     go_wp2_with fail
     refine hc.mono ?_
     rintro e w5 ⟨rfl, ha⟩
     have HA := Lib.hid ha
     clear ha hc
     go_wp2_with fail
     go_ret
     rw [← HR.out, HX0.out]
     refine ⟨rfl, ?_⟩
     obtain ⟨O', k1, k2, k3⟩ := HA.out
     refine ⟨O', k1, fun i hi => ?_, HF.out.trans k3 (fun i hi => HO.out i hi)⟩
     rcases k2 i hi with h | h
     ·exact HO.out i h
     ·have := HF.out.size; exact .inr (by omega)
   ·as_aux_lemma =>
    have HZ := Lib.hid hz
    have HX := Lib.hid (show runS Dk (ss.drop k) = if z = 0 then runS (ss[k].D Dk) (ss.drop (k + 1)) else (z, ss[k].D Dk) by rw [runS_drop hk', hz])
    clear hz
    by_cases hz0 : z = 0
    ·have HX0 := Lib.hid (show runS Dk (ss.drop k) = runS (ss[k].D Dk) (ss.drop (k + 1)) by rw [HX.out, if_pos hz0])
     subst hz0
     go_wp2_with fail
     refine hc.mono ?_
     rintro e w5 ⟨rfl, ha⟩
     have HA := Lib.hid ha
     clear ha hc
     go_wp2_with fail
     obtain ⟨O', k1, k2, k3⟩ := HA.out
     refine ⟨⟨k + 1, by omega, by go_num, O', _, ⟨k1, fun i hi => ?_, HF.out.trans k3 (fun i hi => HO.out i hi)⟩, ?_, fun x => ?_⟩, by simp [intOf]; omega⟩
     ·rcases k2 i hi with h | h
      ·exact HO.out i h
      ·have := HF.out.size; exact .inr (by omega)
     ·rw [← HR.out, HX0.out]
     ·have := HU.out x
      have := ss[k].D_uns Dk x
      omega
    ·have dz : (z == 0) = false := by simpa using hz0
     have HX0 := Lib.hid (show runS Dk (ss.drop k) = (z, ss[k].D Dk) by rw [HX.out, if_neg hz0])
     go_wp2_with fail
     refine hc.mono ?_
     rintro e w5 ⟨rfl, ha⟩
     have HA := Lib.hid ha
     clear ha hc
     go_wp2_with fail
     go_ret
     rw [← HR.out, HX0.out]
     refine ⟨rfl, ?_⟩
     obtain ⟨O', k1, k2, k3⟩ := HA.out
     refine ⟨O', k1, fun i hi => ?_, HF.out.trans k3 (fun i hi => HO.out i hi)⟩
     rcases k2 i hi with h | h
     ·exact HO.out i h
     ·have := HF.out.size; exact .inr (by omega)
   ·as_aux_lemma =>
    have HZ := Lib.hid hz
    have HX := Lib.hid (show runS Dk (ss.drop k) = if z = 0 then runS (ss[k].D Dk) (ss.drop (k + 1)) else (z, ss[k].D Dk) by rw [runS_drop hk', hz])
    clear hz
    by_cases hz0 : z = 0
    ·have HX0 := Lib.hid (show runS Dk (ss.drop k) = runS (ss[k].D Dk) (ss.drop (k + 1)) by rw [HX.out, if_pos hz0])
     subst hz0
     go_wp2_with fail
     refine hc.mono ?_
     rintro e w5 ⟨rfl, ha⟩
     have HA := Lib.hid ha
     clear ha hc
     go_wp2_with fail
     obtain ⟨O', k1, k2, k3⟩ := HA.out
     refine ⟨⟨k + 1, by omega, by go_num, O', _, ⟨k1, fun i hi => ?_, HF.out.trans k3 (fun i hi => HO.out i hi)⟩, ?_, fun x => ?_⟩, by simp [intOf]; omega⟩
     ·rcases k2 i hi with h | h
      ·exact HO.out i h
      ·have := HF.out.size; exact .inr (by omega)
     ·rw [← HR.out, HX0.out]
     ·have := HU.out x
      have := ss[k].D_uns Dk x
      omega
    ·have dz : (z == 0) = false := by simpa using hz0
     have HX0 := Lib.hid (show runS Dk (ss.drop k) = (z, ss[k].D Dk) by rw [HX.out, if_neg hz0])
     go_wp2_with fail
     refine hc.mono ?_
     rintro e w5 ⟨rfl, ha⟩
     have HA := Lib.hid ha
     clear ha hc
     go_wp2_with fail
     go_ret
     rw [← HR.out, HX0.out]
     refine ⟨rfl, ?_⟩
     obtain ⟨O', k1, k2, k3⟩ := HA.out
     refine ⟨O', k1, fun i hi => ?_, HF.out.trans k3 (fun i hi => HO.out i hi)⟩
     rcases k2 i hi with h | h
     ·exact HO.out i h
     ·have := HF.out.size; exact .inr (by omega)
  ·obtain rfl : k = n := by omega
   have d0 : ¬ ((k : Int) < k) := by omega
   have HP := Lib.hid (And.intro hd (And.intro hO hF))
   rw [List.drop_of_length_le (by have := HS.out.2.1; omega)] at hR
   have HR := Lib.hid hR
   clear hd hO hF hR hU
   go_wp2_with fail
   go_ret
   rw [← HR.out]
   exact ⟨rfl, _, HP.out⟩
end
end
section
open Go.RowKit
set_option maxRecDepth 100000
theorem KG.keepO {w w' : World} {O : List Nat} (h : KG w) (hf : Fr O w w') (h0 : 0 ∉ O) : KG w' := rangeAt_keep h hf h0
def mkE (D : DkM) (x : Int) (n : Nat) : Int × DkM := if n = 0 then (1, D) else runS D [.wr x (markB n), .fl]
section
variable {w w' : World} {p : Nat} {O : List Nat} {D : DkM}
theorem jnMark_any (h : Dsk w p O D) (x : Int) (n : Nat) (hn : n < 18446744073709551616) (hK : KG w) (hu : ∀ x, (D.uns x).length + 2 ≤ 4398046511104) :
  Calls Tryz.prog 65 #[.pointer (some ⟨p, 0, none⟩), .int .i64 x, .int .u64 (n : Int)] w fun e w' => e = .returned (.int .i64 (mkE D x n).1) ∧ AftD w p O (mkE D x n).2 w' := by
 have HM := Lib.hid (show mkE D x n = if n = 0 then (1, D) else runS D [.wr x (markB n), .fl] from rfl)
 have HH := Lib.hid (And.intro h hu)
 have hlt : ∀ i ∈ O, i < w.heap.size := by obtain ⟨X, hX⟩ := h; exact hX.lt
 obtain ⟨k1, f1, z1⟩ := box1D w 32 (.pointer (some ⟨p, 0, none⟩))
 obtain ⟨wa, hwa⟩ : ∃ x, w.alloc (.cells #[.pointer (some ⟨p, 0, none⟩)] 32) = x := ⟨_, rfl⟩
 rw [hwa] at k1 f1 z1
 obtain ⟨k2, f2, z2⟩ := box1D wa 3 (.int .i64 x)
 obtain ⟨wb, hwb⟩ : ∃ y, wa.alloc (.cells #[.int .i64 x] 3) = y := ⟨_, rfl⟩
 rw [hwb] at k2 f2 z2
 replace k1 := k1.keep_nil f2
 obtain ⟨g2, hg2⟩ : ∃ g, wa.heap.size = g := ⟨_, rfl⟩
 rw [hg2] at k2
 have hg2' := hg2
 rw [z1] at hg2'
 have cm := rcMark_any wb n hn ((hK.keep f1).keep f2)
 unfold MarkC at cm
 have FB := Lib.hid (f1.trans_nil f2)
 obtain ⟨g1, hg1⟩ : ∃ g, w.heap.size = g := ⟨_, rfl⟩
 have HG := Lib.hid hg1
 rw [hg1] at k1
 by_cases h0 : n = 0
 ·subst h0
  rw [if_pos rfl] at HM cm
  rw [if_pos rfl, show errG (0 != 0) 1 = 1 from rfl] at cm
  clear h hu hlt k1 k2 f1 f2 z1 z2
  go_enter Tryz.func65, Tryz.ntmps65
  go_wp2_with fail
  refine cm.mono ?_
  rintro e w1 ⟨v, rfl, r, f⟩
  obtain ⟨A, c, rfl, -, -, -, -, -⟩ := r.shape
  have F := Lib.hid (FB.out.trans_nil f)
  clear r f cm
  go_wp2_with fail
  go_ret
  rw [HM.out]
  exact ⟨rfl, (AftD.same (HH.out.1.keep_nil (F.out.alloc _))).pre (F.out.alloc _)⟩
 ·rw [if_neg h0, if_neg h0, show (n != 0) = true from by simpa using h0, show errG true 1 = 0 from rfl] at cm
  rw [if_neg h0] at HM
  obtain ⟨m, hm⟩ : ∃ m, markB n = m := ⟨_, rfl⟩
  have hml : m.length = 512 := by rw [← hm, markB_len]
  rw [hm] at HM cm
  have HK1 := Lib.hid (And.intro k1 (And.intro k2 hml))
  have hw2 : wa.heap.size < wb.heap.size := by omega
  have hgw := HG.out
  clear h hu hm hml k1 k2 f1 f2 z2
  go_enter Tryz.func65, Tryz.ntmps65
  go_wp2_with fail
  refine cm.mono ?_
  rintro e w1 ⟨v, rfl, r, f⟩
  obtain ⟨A, c, rfl, -, -, -, -, -⟩ := r.shape
  have hs1 := f.size
  obtain ⟨k3, f3, z3⟩ := box1D w1 27 (.slice A 512 c)
  obtain ⟨wc, hwc⟩ : ∃ y, w1.alloc (.cells #[.slice A 512 c] 27) = y := ⟨_, rfl⟩
  rw [hwc] at k3 f3 z3
  have c1 := ((HK1.out.1.keep_nil f).keep_nil f3).cell 0
  have HR := Lib.hid (r.keep_nil f3)
  have HF := Lib.hid (And.intro f f3)
  have HK3 := Lib.hid k3
  clear cm r f f3 k3
  go_wp2_with fail
  obtain ⟨fs, hfs⟩ : ∃ fs : List Value, [.func (.func 110) #[] #[.pointer (some ⟨g1, 0, none⟩), .pointer (some ⟨g1 + 1, 0, none⟩), .pointer (some ⟨w1.heap.size, 0, none⟩)], .func (.func 112) #[.pointer (some ⟨p, 0, none⟩)] #[]] = fs := ⟨_, rfl⟩
  have rf : Row (wc.alloc (.cells fs.toArray 47)) 0 47 1 (.slice (some ⟨w1.heap.size + 1, 0, none⟩) 2 2) 2 fs := by
   have := Row.new wc fs.toArray 47 1 2 (0, 0) (free_zero _) (by unfold maxLen; omega) (by rw [← hfs]; rfl) (Nat.zero_le _)
   rw [z3] at this
   simpa using this
  have fs4 : Fr [] wc (wc.alloc (.cells fs.toArray 47)) := (Fr.refl _ _).alloc _
  have F1 := HF.out.1.trans_nil (HF.out.2.trans_nil fs4)
  have hml := HK1.out.2.2
  have cp : Cap3 (wc.alloc (.cells fs.toArray 47)) O p g1 (g1 + 1) w1.heap.size x m := ⟨HK1.out.1.keep_nil F1, (show Blk wb (g1 + 1) 3 #[.int .i64 x] from by have := HK1.out.2.1; rw [show g2 = g1 + 1 by omega] at this; exact this).keep_nil F1, ⟨_, HK3.out.keep_nil fs4, by rw [hml]; exact (HR.out.keep_nil fs4).mono (Nat.zero_le _)⟩, fun hm => by have := hlt _ hm; omega, fun hm => by have := hlt _ hm; omega, fun hm => by have := hlt _ hm; omega⟩
  have cr := jnRun_any (HH.out.1.keep_nil (FB.out.trans_nil F1)) rf (fun g hg hm => by have := hlt _ hm; cases hg; dsimp only at this; omega) (ss := [.wr x m, .fl]) rfl (fun i h1 h2 => by
   subst hfs
   match i, h1, h2 with
   | 0, _, _ => exact .inl ⟨_, _, _, rfl, cp⟩
   | 1, _, _ => rfl) HH.out.2
  subst hfs
  have HAF := Lib.hid (FB.out.trans_nil F1)
  clear rf fs4 F1 cp c1
  refine cr.mono ?_
  rintro e w5 ⟨rfl, ha⟩
  rw [← HM.out] at ha ⊢
  have HA := Lib.hid ha
  clear cr ha
  go_wp2_with fail
  go_ret
  exact ⟨rfl, HA.out.pre HAF.out⟩
def initE (D : DkM) (x y : Int) : Int × DkM := if jRight D x y then mkE D x 1 else (1, D)
theorem jnInit_any (h : Dsk w p O D) (x y : Int) (hx : wfZ x) (hK : KG w) (hu : ∀ x, (D.uns x).length + 2 ≤ 4398046511104) :
  Calls Tryz.prog 31 #[.pointer (some ⟨p, 0, none⟩), .int .i64 x, .int .i64 y] w fun e w' => e = .returned (.int .i64 (initE D x y).1) ∧ AftD w p O (initE D x y).2 w' := by
 have cr := jnRight_any h x y hx
 have cm := jnMark_any h x 1 (by decide) hK hu
 have HI := Lib.hid (show initE D x y = if jRight D x y then mkE D x 1 else (1, D) from rfl)
 obtain ⟨b, hb⟩ : ∃ b, jRight D x y = b := ⟨_, rfl⟩
 rw [hb] at cr HI
 have HD := Lib.hid h
 clear h hb
 cases b
 ·rw [if_neg (by simp)] at HI
  rw [HI.out]
  clear cm
  go_enter Tryz.func31, Tryz.ntmps31
  go_wp2_with (go_at_call 64; refine cr.mono ?_; rintro e w' ⟨rfl, rfl⟩)
  go_ret
  exact ⟨rfl, AftD.same HD.out⟩
 ·rw [if_pos rfl] at HI
  rw [HI.out]
  obtain ⟨⟨z, D'⟩, hz⟩ : ∃ r, mkE D x 1 = r := ⟨_, rfl⟩
  rw [hz] at cm ⊢
  clear hz
  go_enter Tryz.func31, Tryz.ntmps31
  go_wp2_with (first | (go_at_call 64; refine cr.mono ?_; rintro e w' ⟨rfl, rfl⟩) | (go_at_call 65; refine cm.mono ?_; rintro e w' ⟨rfl, ha⟩))
  go_ret
  exact ⟨rfl, ha⟩
end
end
section
open Go.RowKit Go.Maps
def likeB (l : List UInt8) : Bool := l.take 4 == planM || (l.take 4 == doneM || l.take 4 == markM)
theorem rcLike_any (A : Option Addr) (l : List UInt8) (n c : Nat) (w : World) (hn : l.length = n) (hr : Rd w A (bvs l)) (hA : A = none → n = 0) (h4 : 4 ≤ n) (hc : n ≤ c) : Calls Tryz.prog 177 #[.slice A n c] w fun e w' => e = .returned (.bool (likeB l)) ∧ w = w' := by
 have E := strB w A (l.take 4) 4 c (by rw [List.length_take]; omega) (by rw [bvs_take]; exact hr.take 4) (fun h => absurd (hA h) (by omega))
 have K4 : (4 : Int) ≤ c := by omega
 have HB := Lib.hid (show likeB l = (l.take 4 == [80, 76, 65, 78] || (l.take 4 == [68, 79, 78, 69] || l.take 4 == [77, 65, 82, 75])) from rfl)
 generalize l.take 4 = q at *
 cases m1 : (q == [80, 76, 65, 78])
 ·cases m2 : (q == [68, 79, 78, 69])
  ·cases m3 : (q == [77, 65, 82, 75])
   ·have H := Lib.hid (show likeB l = false by rw [HB.out, m1, m2, m3]; rfl)
    go_enter Tryz.func177, Tryz.ntmps177
    go_wp2_with fail
    go_ret
    exact ⟨by rw [H.out]; rfl, rfl⟩
   ·have H := Lib.hid (show likeB l = true by rw [HB.out, m1, m2, m3]; rfl)
    go_enter Tryz.func177, Tryz.ntmps177
    go_wp2_with fail
    go_ret
    exact ⟨by rw [H.out]; rfl, rfl⟩
  ·have H := Lib.hid (show likeB l = true by rw [HB.out, m1, m2]; rfl)
   go_enter Tryz.func177, Tryz.ntmps177
   go_wp2_with fail
   go_ret
   exact ⟨by rw [H.out]; rfl, rfl⟩
 ·have H := Lib.hid (show likeB l = true by rw [HB.out, m1]; rfl)
  go_enter Tryz.func177, Tryz.ntmps177
  go_wp2_with fail
  go_ret
  exact ⟨by rw [H.out]; rfl, rfl⟩
def turnB : List UInt8 → List UInt8
 | [] => []
 | x :: r => (x ^^^ 128) :: r
theorem turnB_len (l : List UInt8) : (turnB l).length = l.length := by cases l <;> rfl
theorem turn_byte (x : UInt8) : Value.int .u8 (bits .xor .u8 (x.toNat : Int) 128) = bv (x ^^^ 128) := by
 have := u8_xor_nat x.toNat 128 x.toNat_lt (by omega)
 unfold bv
 rw [show (128 : Int) = ((128 : Nat) : Int) from rfl, this, UInt8.toNat_xor]
 rfl
theorem row_turn {w : World} {B g n c : Nat} {x : UInt8} {r : List UInt8} (h : Row w B 5 1 (.slice (some ⟨g, 0, none⟩) n c) n (bvs (x :: r))) :
  w.cell? ⟨g, 0, none⟩ = some (bv x) ∧ w.frozen? ⟨g, 0, none⟩ = false ∧ Row (w.setCell ⟨g, 0, none⟩ (bv (x ^^^ 128))) B 5 1 (.slice (some ⟨g, 0, none⟩) n c) n (bvs ((x ^^^ 128) :: r)) := by
 rcases h.2 with ⟨e, _⟩ | ⟨g', cap, cur, fz, e, hb, hg, hf, hnc, hcm, hcs, ht⟩
 ·cases e
 ·cases e
  have hn : r.length + 1 = n := by have := h.1; rw [bvs_length, List.length_cons, Nat.mul_one] at this; exact this
  have hpos : 0 < cur.size := by omega
  obtain ⟨lc⟩ := cur
  match lc, hpos with
  | y :: rest, _ =>
   have e1 : y = bv x ∧ rest.take r.length = bvs r := by
    rw [Nat.mul_one, ← hn] at ht
    simp only [List.take_succ_cons, bvs, List.map_cons, List.cons.injEq] at ht
    exact ht
   refine ⟨?_, ?_, ?_⟩
   ·rw [cell_of_row w g 0 _ _ _ hg, e1.1]; rfl
   ·have := hf 0 (by simp)
    simp only [World.frozen?, hg]
    simpa using this
   ·refine ⟨by simp [bvs]; omega, .inr ⟨g, c, (bv (x ^^^ 128) :: rest).toArray, fz, rfl, hb, ?_, by simpa using hf, hnc, hcm, by simpa using hcs, ?_⟩⟩
    ·simp [World.setCell, Array.getElem?_modify, hg]
    ·rw [Nat.mul_one, ← hn]
     simp only [List.take_succ_cons, bvs, List.map_cons]
     rw [e1.2]
     rfl
theorem row_head {w : World} {B n : Nat} {v : Value} {xs : List Value} (h : Row w B 5 1 v n xs) (hn : 0 < n) : ∃ g c, v = .slice (some ⟨g, 0, none⟩) n c := by
 rcases h.2 with ⟨_, e⟩ | ⟨g, cap, cur, fz, e, _⟩
 ·omega
 ·exact ⟨g, cap, e⟩
set_option maxHeartbeats 1000000 in
theorem rcTurn_any (A : Option Addr) (l : List UInt8) (n c : Nat) (w : World) (hn : l.length = n) (hr : Rd w A (bvs l)) (hA : A = none → n = 0) (hpos : 0 < n) (hl : n ≤ 140737488355328) :
  Calls Tryz.prog 176 #[.slice A n c] w fun e w' => ∃ v, e = .returned v ∧ Row w' w.heap.size 5 1 v n (bvs (turnB l)) ∧ Fr [] w w' := by
 obtain ⟨x, r, rfl⟩ : ∃ x r, l = x :: r := by
  cases l with
  | nil => simp at hn; omega
  | cons x r => exact ⟨x, r, rfl⟩
 have HN := Lib.hid hn
 clear hn
 go_enter Tryz.func176, Tryz.ntmps176
 go_wp2_with fail
 refine (clone_any A (x :: r) n c w HN.out hr hA hl).mono ?_
 rintro e w1 ⟨v1, rfl, r1, f1⟩
 obtain ⟨g, cap, rfl⟩ := row_head r1 hpos
 obtain ⟨c0, z0, r2⟩ := row_turn r1
 rw [← turn_byte] at r2
 have c0' : w1.cell? ⟨g, 0, none⟩ = some (.int .u8 (x.toNat : Int)) := c0
 have fs : Fr [] w (w1.setCell ⟨g, 0, none⟩ (.int .u8 (bits .xor .u8 (x.toNat : Int) 128))) := f1.setCell (.inr (r1.lt g rfl).1) _
 clear c0 r1
 go_wp2_with fail
 go_ret
 exact ⟨_, rfl, r2, fs⟩
def zvs (l : List Int) : List Value := l.map fun z => Value.int .i64 z
theorem zvs_len (l : List Int) : (zvs l).length = l.length := by simp [zvs]
theorem zvs_append (a b : List Int) : zvs (a ++ b) = zvs a ++ zvs b := by simp [zvs]
theorem zint_at {w : World} {A : Option Addr} {L : List Int} (hr : Rd w A (zvs L)) {k : Nat} (hk : k < L.length) : ∃ g o, A = some ⟨g, o, none⟩ ∧ ∀ j (hj : j < L.length), w.cell? ⟨g, o + j, none⟩ = some (.int .i64 L[j]) := by
 obtain ⟨g, o, e, hc⟩ := hr (by intro h; have := congrArg List.length h; rw [zvs_len, List.length_nil] at this; omega)
 exact ⟨g, o, e, fun j hj => hc j _ (by simp [zvs, hj])⟩
def inP (x : Int) : Bool := decide (0 ≤ x) && decide (x < 4096)
def rightF (l : List Int) : Bool := l.all inP && (decide l.Nodup && (decide (1 ≤ l.length) && decide (l.length ≤ 64)))
def okT (l : List Int) (k : Nat) : Prop := (l.take k).all inP = true ∧ (l.take k).Nodup
theorem okT_zero (l : List Int) : okT l 0 := ⟨rfl, List.nodup_nil⟩
theorem okT_succ {l : List Int} {k : Nat} (h : okT l k) (hk : k < l.length) (h1 : inP l[k] = true) (h2 : l[k] ∉ l.take k) : okT l (k + 1) := by
 unfold okT
 rw [List.take_succ_eq_append_getElem hk]
 refine ⟨by rw [List.all_append, h.1]; simp [h1], ?_⟩
 rw [List.nodup_append]
 exact ⟨h.2, by simp, fun a ha b hb => by rw [List.mem_singleton.1 hb]; rintro rfl; exact h2 ha⟩
theorem right_bad1 {l : List Int} {k : Nat} (hk : k < l.length) (h : inP l[k] = false) : rightF l = false := by
 have : l.all inP = false := by
  rw [List.all_eq_false]
  exact ⟨l[k], List.getElem_mem hk, by rw [h]; decide⟩
 simp [rightF, this]
theorem right_bad2 {l : List Int} {k : Nat} (hk : k < l.length) (h : l[k] ∈ l.take k) : rightF l = false := by
 have : ¬ l.Nodup := by
  intro hn
  have e : l = l.take k ++ l.drop k := (List.take_append_drop k l).symm
  rw [e, List.nodup_append] at hn
  exact hn.2.2 _ h _ (by rw [List.drop_eq_getElem_cons hk]; exact List.mem_cons_self) rfl
 simp [rightF, this]
theorem right_end {l : List Int} (h : okT l l.length) : rightF l = (decide (1 ≤ l.length) && decide (l.length ≤ 64)) := by
 obtain ⟨h1, h2⟩ := h
 rw [List.take_length] at h1 h2
 rw [rightF, h1, decide_eq_true h2]
 rfl
set_option maxRecDepth 100000 in
set_option maxHeartbeats 4000000 in
end
section
open Go.RowKit Go.Maps
theorem lawInt : Keyed Tryz.prog 3 := int_keyed Tryz.underlying3
theorem zeroBool (w : World) : (zeroValue 4).run Tryz.prog w = .ok (.bool false) w := by kernel_rfl
theorem plainElem_bool_inv {H : Type} {P : Program} {e : TypeId} (he : P.underlying e = some .bool) {v : Value} {z : DataW H × List MemPlace} (h : plainElem P e v = some z) : ∃ x, v = .bool x ∧ z = (.lit (.bool x), []) := by
 unfold plainElem at h
 rw [he] at h
 cases v <;> simp at h
 exact ⟨_, rfl, h.symm⟩
theorem lookup_boolM {H : Type} {P : Program} {k t e : TypeId} {w : World} {b n : Nat} {D : DataW H} (h : w.ownsMap P k (plainElem P e) b n D) (K : Keyed P k) (ht : P.underlying t = some (.map k e)) (he : P.underlying e = some .bool) (hz : (zeroValue e).run P w = .ok (.bool false) w)
  {key : Value} {kl : Lit} (hkey : keyOf P k key = some kl) : ∃ c, (Instr.lookup t (.map (some b)) key false).run P w = .ok (.bool c) w ∧ D.atKey kl (.lit (.bool false)) = .lit (.bool c) := by
 obtain ⟨v, ps, hrun, hv⟩ := h.lookup K ht hz (plainElem_bool he false) hkey
 obtain ⟨c, rfl, hc⟩ := plainElem_bool_inv he hv
 simp only [Prod.mk.injEq] at hc
 exact ⟨c, hrun, hc.1⟩
def dT {H : Type} (l : List Int) : Nat → DataW H
 | 0 => .map []
 | k + 1 => (dT l k).put (.int .i64 (l.getD k 0)) (.lit (.bool true))
theorem dT_map {H : Type} (l : List Int) : ∀ k, IsMap (dT (H := H) l k)
 | 0 => isMap_empty
 | k + 1 => (dT_map l k).put _ _
theorem dT_at {H : Type} (l : List Int) (x : Int) : ∀ k, k ≤ l.length → (dT (H := H) l k).atKey (.int .i64 x) (.lit (.bool false)) = .lit (.bool (decide (x ∈ l.take k)))
 | 0, _ => by
  rw [List.take_zero]
  rfl
 | k + 1, hk => by
  have hkl : k < l.length := by omega
  have hg : l.getD k 0 = l[k] := by simp [hkl]
  rw [dT, List.take_succ_eq_append_getElem hkl]
  by_cases e : x = l[k]
  ·rw [hg, ← e, atKey_put_same (k := .int .i64 x) (dT_map l k) trivial]
   rw [decide_eq_true (List.mem_append_right _ (List.mem_singleton.2 rfl))]
  ·rw [atKey_put_other (by rw [hg]; intro h; injection h with _ h; exact e h), dT_at l x k (by omega)]
   simp only [List.mem_append, List.mem_singleton, e, or_false]
theorem grown_fr {w w' : World} {b : Nat} (h : w.grownBy w' (some b)) : Fr [b] w w' := ⟨h.os, h.tape, h.output, h.size, fun k hk hn => h.block k hk (by simp at hn; simpa using hn)⟩
set_option maxRecDepth 100000 in
set_option maxHeartbeats 4000000 in
theorem rcRight_any (A : Option Addr) (l : List Int) (n c : Nat) (w : World) (hn : l.length = n) (hr : Rd w A (zvs l)) (hw : ∀ x ∈ l, in64 x) (hl : n ≤ 140737488355328) :
  Calls Tryz.prog 192 #[.slice A n c] w fun e w' => e = .returned (.bool (rightF l)) ∧ Fr [] w w' := by
 have HN := Lib.hid hn
 have HW := Lib.hid hw
 clear hn hw
 have hmm := @run_makeMap Tryz.prog
 go_enter Tryz.func192, Tryz.ntmps192
 go_wp2_with fail
 go_loopw [9] (fun i wr => ∃ k : Nat, k ≤ n ∧ i = .int .i64 k ∧ okT l k ∧ wr.ownsMap Tryz.prog 3 (plainElem Tryz.prog 4) w.heap.size k (dT (H := Unit) l k) ∧ Fr [] w wr) (fun i _ => n - (intOf i).toNat)
 case atStart => exact ⟨0, Nat.zero_le _, rfl, okT_zero l, World.ownsMap_made _ _ _ _, (Fr.refl [] w).alloc _⟩
 case round =>
  obtain ⟨k, hk, rfl, hok, hown, F⟩ := hrel
  by_cases hlt : k < n
  ·have hkl : k < l.length := by rw [HN.out]; exact hlt
   obtain ⟨g, o, rfl, hc⟩ := zint_at (hr.keep_nil F) hkl
   have ck := hc k hkl
   have hw64 := HW.out _ (List.getElem_mem hkl)
   have hgd : l.getD k 0 = l[k] := by simp [hkl]
   have HB1 := Lib.hid (fun h => right_bad1 hkl h)
   have HB2 := Lib.hid (fun h => right_bad2 hkl h)
   have HOK := Lib.hid (fun h1 h2 => okT_succ hok hkl h1 h2)
   have hdt := dT_at (H := Unit) l l[k] k (by omega)
   obtain ⟨x, hx⟩ : ∃ x, l[k] = x := ⟨_, rfl⟩
   rw [hx] at ck HB1 HB2 HOK hdt hw64 hgd
   have HX := Lib.hid hx
   have HGD := Lib.hid hgd
   clear hc hok hx hgd
   have wfx : (Lit.int .i64 x).wf = true := by
    unfold in64 at hw64
    simp [Lit.wf, IntKind.min, IntKind.max, IntKind.signed, IntKind.bits]
    omega
   have hkey : keyOf Tryz.prog 3 (.int .i64 x) = some (.int .i64 x) := keyOf_int_mk Tryz.underlying3 wfx
   have HKEY := Lib.hid hkey
   clear hkey wfx
   by_cases h0 : x < 0
   ·have H := Lib.hid (HB1.out (by simp [inP]; omega))
    clear hdt
    go_wp2_with fail
    go_ret
    exact ⟨by rw [H.out]; rfl, F⟩
   ·by_cases h1 : 4096 ≤ x
    ·have H := Lib.hid (HB1.out (by simp [inP]; omega))
     clear hdt
     go_wp2_with fail
     go_ret
     exact ⟨by rw [H.out]; rfl, F⟩
    ·have HP := Lib.hid (show inP x = true by simp [inP]; omega)
     obtain ⟨b, hrun, hat⟩ := lookup_boolM hown lawInt Tryz.underlying244 Tryz.underlying4 (zeroBool _) HKEY.out
     rw [hdt] at hat
     have hb : b = decide (x ∈ l.take k) := by
      have := (DataW.lit.inj hat)
      injection this with this
      exact this.symm
     have HBB := Lib.hid hb
     clear hat hdt hb
     cases b
     ·have hnm : x ∉ l.take k := fun h => by have := HBB.out; simp [h] at this
      have HO := Lib.hid (HOK.out HP.out hnm)
      clear hnm
      go_wp2_with
       (first
        | (at_mapUpdate; refine wpList_mapUpdate_own _ rfl _ _ _ 244 rfl 3 4 lawInt Tryz.underlying244 _ w.heap.size k _ rfl hown (by unfold maxLen; omega) _ _ _ rfl rfl HKEY.out _ [] (plainElem_bool Tryz.underlying4 true) ?_; intro w1 hown1 hgrow1))
      refine ⟨⟨k + 1, by omega, by go_num, HO.out, ?_, F.trans (grown_fr hgrow1) (fun i hi => .inr (by simp at hi; omega))⟩, by simp [intOf]; omega⟩
      rw [dT, HGD.out]
      exact hown1
     ·have hm : x ∈ l.take k := by have := HBB.out; simpa using this.symm
      have H := Lib.hid (HB2.out hm)
      clear hm
      go_wp2_with fail
      go_ret
      exact ⟨by rw [H.out]; rfl, F⟩
  ·obtain rfl : k = n := by omega
   have he := right_end (by rw [HN.out]; exact hok)
   rw [HN.out] at he
   clear hown
   by_cases h1 : 1 ≤ k
   ·by_cases h2 : k ≤ 64
    ·have H := Lib.hid (show rightF l = true by rw [he]; simp [h1, h2])
     clear he hok
     have K1 : (1 : Int) ≤ (k : Int) := by omega
     have K2 : (k : Int) ≤ 64 := by omega
     go_wp2_with fail
     go_ret
     exact ⟨by rw [H.out]; rfl, F⟩
    ·have H := Lib.hid (show rightF l = false by rw [he]; simp [h1, h2])
     clear he hok
     have K1 : (1 : Int) ≤ (k : Int) := by omega
     have K2 : ¬ ((k : Int) ≤ 64) := by omega
     go_wp2_with fail
     go_ret
     exact ⟨by rw [H.out]; rfl, F⟩
   ·have H := Lib.hid (show rightF l = false by rw [he]; simp [h1])
    clear he hok
    have K1 : ¬ ((1 : Int) ≤ (k : Int)) := by omega
    go_wp2_with fail
    go_ret
    exact ⟨by rw [H.out]; rfl, F⟩
end
end Go.Proofs.YtbanogfljpkbkaaGreatDoor
