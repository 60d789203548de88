/-
  Texts of this claim, one behind the other: JnD, JnE, RegT, Slc, JnF, JnP, JnO.
-/
import Derived.Test.YtbanogfljpkbkaaGreatDoorM8
import Derived.Test.YtbanogfljpkbkaaGreatDoorM10
import Derived.Test.YtbanogfljpkbkaaGreatDoorM2
import Derived.Laws.Slices
set_option linter.unusedSimpArgs false
set_option linter.unusedVariables false
set_option linter.unnecessarySimpa false
namespace Go.Proofs.YtbanogfljpkbkaaGreatDoor
section
open Go.RowKit
set_option maxRecDepth 100000
def jMay1 (n : Int) (J : JrM) (x : Int) : Bool := decide (0 ≤ x) && (decide (x < n) && !(decide (J.first ≤ x) && decide (x < J.first + J.count)))
def jMay (n : Int) (J : JrM) (rs : List (Int × List UInt8)) : Bool := rs.all fun r => jMay1 n J r.1
theorem jMay_bad {n : Int} {J : JrM} {rs : List (Int × List UInt8)} {k : Nat} (hk : k < rs.length) (h : jMay1 n J rs[k].1 = false) : jMay n J rs = false := by
 rw [jMay, List.all_eq_false]
 exact ⟨rs[k], List.getElem_mem hk, by simp [h]⟩
theorem jMay_succ {n : Int} {J : JrM} {rs : List (Int × List UInt8)} {k : Nat} (hk : k < rs.length) (h : jMay n J (rs.take k) = true) (h1 : jMay1 n J rs[k].1 = true) : jMay n J (rs.take (k + 1)) = true := by
 rw [jMay, List.take_add_one, List.getElem?_eq_getElem hk, List.all_append]
 rw [jMay] at h
 simp [h, h1]
section
variable {w w' : World} {g p : Nat} {O : List Nat} {J : JrM} {D : DkM}
set_option maxHeartbeats 1000000 in
theorem jnMay_any (h : Dsk w p O D) (hj : Jr w g p J) (ok : J.ok) {A : Option Addr} {n c : Nat} {rs : List (Int × List UInt8)} (hr : RdX w A rs) (hl : rs.length = n) (hn : n ≤ 140737488355328) :
  Calls Tryz.prog 120 #[.pointer (some ⟨g, 0, none⟩), .slice A n c] w fun e w' => e = .returned (.bool (jMay D.sure.length J rs)) ∧ Fr [] w w' := by
 obtain ⟨m, hm⟩ : ∃ m, D.sure.length = m := ⟨_, rfl⟩
 have hD := Lib.hid h
 have hl1 : ∀ w1, Fr [] w w1 → Calls Tryz.prog 107 #[.pointer (some ⟨p, 0, none⟩)] w1 fun e w' => e = .returned (.int .i64 m) ∧ w1 = w' := fun w1 f => by rw [← hm]; exact dkLen_any (h.keep_nil f)
 have HL := Lib.hid hl1
 rw [hm]
 have HJ := Lib.hid hj
 have HR := Lib.hid hr
 have hc := ok.c
 have hf := ok.f
 have e1 : IntKind.i64.wrap (J.first + J.count) = J.first + J.count := IntWalk.i64_in _ (by omega)
 clear h hj hr hm hl1
 go_enter Tryz.func120, Tryz.ntmps120
 go_wp2_with fail
 go_loopw [9] (fun i wr => ∃ k : Nat, k ≤ n ∧ i = .int .i64 k ∧ Fr [] w wr ∧ jMay m J (rs.take k) = true) (fun i _ => n - (intOf i).toNat)
 case atStart => exact ⟨0, by omega, rfl, Fr.refl _ _, rfl⟩
 case round =>
  obtain ⟨k, hkn, rfl, fr, ht⟩ := hrel
  by_cases hlt : k < n
  ·have d0 : (k : Int) < n := by omega
   have hk : k < rs.length := by omega
   obtain ⟨gr, o, v, rfl, c0, c1, sb⟩ := (HR.out.keep_nil fr) k hk
   obtain ⟨x, hx⟩ : ∃ x, rs[k].1 = x := ⟨_, rfl⟩
   obtain ⟨Av, cv, rfl, -⟩ := sb
   obtain ⟨lv, hlv⟩ : ∃ lv, rs[k].2.length = lv := ⟨_, rfl⟩
   rw [hx] at c0
   rw [hlv] at c1
   have HX := Lib.hid hx
   have HT := Lib.hid ht
   have fA : Fr [] w (wr.alloc (.cells #[.int .i64 x, .slice Av lv cv] 104)) := fr.trans_nil ((Fr.refl _ _).alloc _)
   have HFA := Lib.hid fA
   have ka := Blk.new wr 104 #[.int .i64 x, .slice Av lv cv]
   have j0 : (wr.alloc (.cells #[.int .i64 x, .slice Av lv cv] 104)).cell? ⟨g, 0, none⟩ = some (.pointer (some ⟨p, 0, none⟩)) := Blk.cell (HJ.out.keep_nil fA) 0
   have j1 : (wr.alloc (.cells #[.int .i64 x, .slice Av lv cv] 104)).cell? ⟨g, 1, none⟩ = some (.int .i64 J.first) := Blk.cell (HJ.out.keep_nil fA) 1
   have j2 : (wr.alloc (.cells #[.int .i64 x, .slice Av lv cv] 104)).cell? ⟨g, 2, none⟩ = some (.int .i64 J.count) := Blk.cell (HJ.out.keep_nil fA) 2
   clear ht fr fA hx hlv
   go_upto_region 4 with fail
   obtain ⟨wA, hwA⟩ : ∃ y, wr.alloc (.cells #[.int .i64 x, .slice Av lv cv] 104) = y := ⟨_, rfl⟩
   obtain ⟨gA, hgA⟩ : ∃ y, wr.heap.size = y := ⟨_, rfl⟩
   rw [hwA] at HFA ka j0 j1 j2 ⊢
   rw [hgA] at ka ⊢
   have a0 : wA.cell? ⟨gA, 0, none⟩ = some (.int .i64 x) := ka.cell 0
   have cl : ∀ q, Calls Tryz.prog 107 #[.pointer (some ⟨p, 0, none⟩)] (wA.drewN q) fun e w' => e = .returned (.int .i64 m) ∧ wA.drewN q = w' := fun q => HL.out _ (HFA.out.drewN q)
   have CL := Lib.hid cl
   clear cl hwA hgA ka c0 c1
   by_cases h1 : x < 0
   ·have HB := Lib.hid (show jMay1 m J rs[k].1 = false by rw [HX.out, jMay1, decide_eq_false (by omega), Bool.false_and])
    go_quiet ((go_at_call 107; exact Calls.quiet_of_same ((CL.out _).mono fun e w' h => ⟨h.1, h.2.symm⟩)))
    go_wp2_with fail
    go_ret
    exact ⟨by rw [jMay_bad hk HB.out]; rfl, HFA.out.drewN _⟩
   by_cases h2 : (m : Int) ≤ x
   ·have HB := Lib.hid (show jMay1 m J rs[k].1 = false by rw [HX.out, jMay1, decide_eq_false (show ¬ x < (m : Int) by omega), Bool.false_and, Bool.and_false])
    go_quiet ((go_at_call 107; exact Calls.quiet_of_same ((CL.out _).mono fun e w' h => ⟨h.1, h.2.symm⟩)))
    go_wp2_with fail
    go_ret
    exact ⟨by rw [jMay_bad hk HB.out]; rfl, HFA.out.drewN _⟩
   have g1 : decide (0 ≤ x) = true := decide_eq_true (by omega)
   have g2 : decide (x < (m : Int)) = true := decide_eq_true (by omega)
   have HG := Lib.hid (And.intro g1 g2)
   clear g1 g2
   by_cases h3 : J.first ≤ x
   ·by_cases h4 : x < J.first + J.count
    ·have HB := Lib.hid (show jMay1 m J rs[k].1 = false by rw [HX.out, jMay1, HG.out.1, HG.out.2, decide_eq_true h3, decide_eq_true h4]; rfl)
     go_quiet ((go_at_call 107; exact Calls.quiet_of_same ((CL.out _).mono fun e w' h => ⟨h.1, h.2.symm⟩)))
     go_wp2_with fail
     go_ret
     exact ⟨by rw [jMay_bad hk HB.out]; rfl, HFA.out.drewN _⟩
    ·have HB := Lib.hid (show jMay1 m J rs[k].1 = true by rw [HX.out, jMay1, HG.out.1, HG.out.2, decide_eq_true h3, decide_eq_false h4]; rfl)
     go_quiet ((go_at_call 107; exact Calls.quiet_of_same ((CL.out _).mono fun e w' h => ⟨h.1, h.2.symm⟩)))
     go_wp2_with fail
     exact ⟨⟨k + 1, by omega, by go_num, HFA.out.drewN _, jMay_succ hk HT.out HB.out⟩, by simp [intOf]; omega⟩
   ·have HB := Lib.hid (show jMay1 m J rs[k].1 = true by rw [HX.out, jMay1, HG.out.1, HG.out.2, decide_eq_false h3]; rfl)
    go_quiet ((go_at_call 107; exact Calls.quiet_of_same ((CL.out _).mono fun e w' h => ⟨h.1, h.2.symm⟩)))
    go_wp2_with fail
    exact ⟨⟨k + 1, by omega, by go_num, HFA.out.drewN _, jMay_succ hk HT.out HB.out⟩, by simp [intOf]; omega⟩
  ·obtain rfl : k = n := by omega
   have d0 : ¬ ((k : Int) < k) := by omega
   have HP := Lib.hid (And.intro fr ht)
   clear fr ht
   go_wp2_with fail
   go_ret
   have := HP.out.2
   rw [List.take_of_length_le (by omega)] at this
   exact ⟨by rw [this]; rfl, HP.out.1⟩
end
end
section
open Go.RowKit
set_option maxRecDepth 100000
def areaK (D : DkM) (J : JrM) (k : Nat) : List (List UInt8) := (List.range k).map fun i => D.readR (J.first + 1 + (i : Nat))
theorem areaK_succ (D : DkM) (J : JrM) (k : Nat) : areaK D J (k + 1) = areaK D J k ++ [D.readR (J.first + 1 + (k : Nat))] := by simp [areaK, List.range_succ]
theorem areaK_len (D : DkM) (J : JrM) (k : Nat) : (areaK D J k).length = k := by simp [areaK]
def AreaC (w : World) (g p : Nat) (J : JrM) (D : DkM) (e : Ending) (w' : World) : Prop :=
 Fr [g] w w' ∧ ((D.off = true ∧ e = .returned (.tuple #[.slice none 0 0, .int .i64 102])) ∨ (D.off = false ∧ rmV (D.readR J.first) = none ∧ e = .returned (.tuple #[.slice none 0 0, .int .i64 110])) ∨
  ∃ m v vs, D.off = false ∧ rmV (D.readR J.first) = some m ∧ e = .returned (.tuple #[v, .int .i64 0]) ∧ BRow w' w.heap.size v vs (areaK D J (J.count.toNat - 1)) ∧ Jr w' g p { J with num := m })
section
variable {w w' : World} {g p : Nat} {O : List Nat} {J : JrM} {D : DkM}
theorem Dsk.readR_len (h : Dsk w p O D) {x : Int} (hx : D.is x = true) (ho : D.off = false) : (D.readR x).length = 512 := by
 obtain ⟨X, h⟩ := h
 have hi := DkM.is_iff.1 hx
 rw [DkM.readR, if_neg (by simp [hx]), if_neg (by simp [ho])]
 cases hu : (D.uns x).getLast? with
 | some b =>
  have hb : b ∈ D.uns x := List.mem_of_getLast? hu
  cases hf : X.f x with
  | none => rw [(h.iff x).1 hf] at hb; cases hb
  | some v =>
   obtain ⟨⟨us, r, e⟩, -⟩ := h.un x v hf
   obtain ⟨i, hi2, rfl⟩ := List.getElem_of_mem hb
   exact (e i (by have := r.1; omega) hi2).1
 | none =>
  show (D.sureR x).length = 512
  rw [DkM.sureR, if_pos hx]
  have hlt : x.toNat < D.sure.length := by omega
  have hs := h.su x.toNat (by have := h.row.1; omega) hlt
  rw [List.getD_eq_getElem?_getD, List.getElem?_eq_getElem hlt]
  cases he : D.sure[x.toNat] with
  | none => exact zB512_len
  | some l =>
   rw [he] at hs
   exact hs.1
theorem jRight_is {D : DkM} {x y : Int} (h : jRight D x y = true) {k : Int} (h0 : 0 ≤ k) (hk : k < y) : D.is (x + k) = true := by
 simp only [jRight, Bool.and_eq_true, decide_eq_true_eq] at h
 exact DkM.is_iff.2 (by omega)
set_option maxHeartbeats 2000000 in
theorem jnBlocks_any (h : Dsk w p O D) (hj : Jr w g p J) (hg : g ∉ O) (ok : J.ok) (hr : jRight D J.first J.count = true) (hK : KG w) :
  Calls Tryz.prog 118 #[.pointer (some ⟨g, 0, none⟩)] w (AreaC w g p J D) := by
 have hc := ok.c
 have hf := ok.f
 obtain ⟨N, hN⟩ : ∃ N : Nat, J.count = N := ⟨J.count.toNat, by omega⟩
 have c2 : w.cell? ⟨g, 2, none⟩ = some (.int .i64 N) := by rw [← hN]; exact Blk.cell hj 2
 have HN := Lib.hid hN
 have HH := Lib.hid h
 have HJ := Lib.hid hj
 have HR := Lib.hid hr
 have hgl := hj.lt
 have g8 : NoTy w [g] 5 := fun i hi cs fz => by rw [List.mem_singleton.1 hi]; unfold Jr Blk at hj; rw [hj]; intro e; cases e
 have gB : NoTy w [g] 27 := fun i hi cs fz => by rw [List.mem_singleton.1 hi]; unfold Jr Blk at hj; rw [hj]; intro e; cases e
 have G8 := Lib.hid (And.intro g8 gB)
 have g0 : g ≠ 0 := fun e => by
  subst e
  have e1 := hK 0 _ rfl
  have e2 : w.cell? ⟨0, 0, none⟩ = some (.pointer (some ⟨p, 0, none⟩)) := Blk.cell hj 0
  rw [e2] at e1
  cases e1
 have HG0 := Lib.hid g0
 rw [hN] at hc
 clear h hj hr hN g8 gB g0
 go_enter Tryz.func118, Tryz.ntmps118
 go_wp2_with fail
 go_loopw [4, 12] (fun v i wr => ∃ k : Nat, k ≤ N ∧ i = .int .i64 k ∧ Fr [g] w wr ∧ ((k = 0 ∧ v = .slice none 0 0 ∧ Jr wr g p J) ∨ (0 < k ∧ ∃ m, rmV (D.readR J.first) = some m ∧ D.off = false ∧ Jr wr g p { J with num := m } ∧ ∃ vs, BRow wr w.heap.size v vs (areaK D J (k - 1))))) (fun _ i _ => N - (intOf i).toNat)
 case atStart => exact ⟨0, by omega, rfl, Fr.refl _ _, .inl ⟨rfl, rfl, HJ.out⟩⟩
 case round =>
  obtain ⟨k, hkN, rfl, fr, hv⟩ := hrel
  by_cases hlt : k < N
  ·have d0 : (k : Int) < N := by omega
   have hjx : wr.cell? ⟨g, 0, none⟩ = some (.pointer (some ⟨p, 0, none⟩)) ∧ wr.cell? ⟨g, 1, none⟩ = some (.int .i64 J.first) := by
    rcases hv with ⟨-, -, hj⟩ | ⟨-, m, -, -, hj, -⟩
    ·exact ⟨Blk.cell hj 0, Blk.cell hj 1⟩
    ·exact ⟨Blk.cell hj 0, Blk.cell hj 1⟩
   obtain ⟨wD, hwD⟩ : ∃ wD, wr.drew = wD := ⟨_, rfl⟩
   have fD : Fr [] wr wD := by rw [← hwD]; exact (Fr.refl [] _).drew
   have hd := HH.out.keep (fr.trans_nil fD) (fun i hi hm => hg (by rw [← List.mem_singleton.1 hm]; exact hi)) G8.out.1
   have cr := dkRead_any hd (J.first + k)
   have his := jRight_is HR.out (k := (k : Int)) (by omega) (by rw [HN.out]; omega)
   obtain ⟨z, hz⟩ : ∃ z, D.readE (J.first + k) = z := ⟨_, rfl⟩
   have HZ := Lib.hid (show z = if D.off = true then 102 else 0 by rw [← hz, DkM.readE, his, if_neg (by simp)])
   obtain ⟨l, hl⟩ : ∃ l, D.readR (J.first + k) = l := ⟨_, rfl⟩
   rw [hz, hl] at cr
   have HL := Lib.hid hl
   have HIS := Lib.hid his
   have e1 : IntKind.i64.wrap (J.first + (k : Int)) = J.first + k := IntWalk.i64_in _ (by omega)
   have HV := Lib.hid hv
   have HF := Lib.hid (And.intro fr fD)
   have hjD : wD.cell? ⟨g, 0, none⟩ = some (.pointer (some ⟨p, 0, none⟩)) ∧ wD.cell? ⟨g, 1, none⟩ = some (.int .i64 J.first) := ⟨fD.cell (by simp) hjx.1, fD.cell (by simp) hjx.2⟩
   clear hv fr fD hd hz hl his hjx
   go_upto_region 5 with fail
   refine wp_region_held_drew (S := fun w' => w'.cell? ⟨g, 0, none⟩ = some (.pointer (some ⟨p, 0, none⟩)) ∧ w'.cell? ⟨g, 1, none⟩ = some (.int .i64 J.first)) (by kernel_rfl) (by rw [hwD]; exact hjD) (fun hHeld => ?_)
   rw [hwD] at hHeld ⊢
   clear hjD hwD
   refine tw 0 16 hHeld ?_
   refine tw 1 17 hHeld ?_
   refine tw 2 18 hHeld ?_
   refine tw 3 19 hHeld ?_
   refine tw 4 20 hHeld ?_
   refine tw 5 21 hHeld ?_
   refine tw 6 22 hHeld ?_
   refine tw 7 23 hHeld ?_
   refine tw 8 24 hHeld ?_
   refine tw 9 25 hHeld ?_
   refine tc 10 (fun K hK => ?_)
   go_simp
   refine cr.mono ?_
   rintro e w5 ⟨v5, rfl, r5, f5⟩
   have hHx : w5.cell? ⟨g, 0, none⟩ = some (.pointer (some ⟨p, 0, none⟩)) ∧ w5.cell? ⟨g, 1, none⟩ = some (.int .i64 J.first) := ⟨f5.cell (by simp) hHeld.1, f5.cell (by simp) hHeld.2⟩
   refine hK.out _ _ hHx (fun hHy => ?_)
   clear hK cr hHeld hHy
   have hHeld := hHx
   clear hHx
   try simp only [Act.put, p1, p2, p3]
   refine tw 11 15 hHeld ?_
   refine tw 12 27 hHeld ?_
   refine tw 13 28 hHeld ?_
   refine tw 14 6 hHeld ?_
   refine tw 15 7 hHeld ?_
   refine wpAnyH_done (by kernel_rfl) ?_ _
   clear hHeld
   obtain ⟨A5, c5, rfl, hnc, hcm, -, -, -⟩ := r5.shape
   obtain ⟨n5, hn5⟩ : ∃ n5, l.length = n5 := ⟨_, rfl⟩
   rw [hn5] at r5 hnc ⊢
   have F5 := HF.out.1.trans_nil (HF.out.2.trans_nil f5)
   have R5 := Lib.hid (r5.mono (HF.out.1.trans_nil HF.out.2).size)
   have HF5 := Lib.hid (And.intro F5 f5)
   have HN5 := Lib.hid hn5
   have HLN := Lib.hid (show D.off = false → n5 = 512 from fun ho => by rw [← hn5, ← HL.out]; exact HH.out.readR_len HIS.out ho)
   clear r5 F5 f5 hn5
   cases ho : D.off with
   | true =>
    have HO := Lib.hid ho
    have hz : z = 102 := by rw [HZ.out, ho]; rfl
    subst hz
    clear ho
    go_wp2_with fail
    go_ret2
    exact ⟨HF5.out.1, .inl ⟨HO.out, rfl⟩⟩
   | false =>
    have HO := Lib.hid ho
    have hz : z = 0 := by rw [HZ.out, ho]; rfl
    subst hz
    clear ho
    by_cases hk0 : k = 0
    ·subst hk0
     have hjr : u4 = .slice none 0 0 ∧ Jr w5 g p J := by
      rcases HV.out with ⟨-, h4, hj⟩ | ⟨h0, -⟩
      ·exact ⟨h4, (hj.keep_nil HF.out.2).keep_nil HF5.out.2⟩
      ·omega
     obtain ⟨rfl, hjr⟩ := hjr
     have HLL := Lib.hid (show D.readR J.first = l by have := HL.out; rwa [show J.first + ((0 : Nat) : Int) = J.first by omega] at this)
     have cc := rcReadMark_any w5 A5 l n5 c5 HN5.out R5.out.rdD.1 R5.out.rdD.2.2 (by have := HLN.out HO.out; omega) (hK.keepO HF5.out.1 (fun hm => HG0.out (List.mem_singleton.1 hm).symm))
     unfold RmC at cc
     have HJR := Lib.hid hjr
     clear hjr
     cases hm : rmV l with
     | none =>
      have HM := Lib.hid hm
      rw [hm] at cc
      replace cc : Calls Tryz.prog 171 #[.slice A5 n5 c5] w5 fun e w' => e = .returned (.tuple #[.int .u64 0, .int .i64 110]) ∧ Fr [] w5 w' := cc
      clear hm
      go_wp2_with fail
      refine cc.mono ?_
      rintro e w6 ⟨rfl, f6⟩
      have j3 : w6.cell? ⟨g, 3, none⟩ = some (.int .u64 (J.num : Int)) := Blk.cell (HJR.out.keep_nil f6) 3
      have z3 := Blk.frozen (HJR.out.keep_nil f6) 3
      have HF6 := Lib.hid (HF5.out.1.trans_nil f6)
      clear cc f6
      go_wp2_with fail
      go_ret2
      exact ⟨HF6.out.setCell (.inl (by simp)) _, .inr (.inl ⟨HO.out, by rw [HLL.out]; exact HM.out, rfl⟩)⟩
     | some m =>
      have HM := Lib.hid hm
      rw [hm] at cc
      replace cc : Calls Tryz.prog 171 #[.slice A5 n5 c5] w5 fun e w' => e = .returned (.tuple #[.int .u64 (m : Int), .int .i64 0]) ∧ Fr [] w5 w' := cc
      clear hm
      go_wp2_with fail
      refine cc.mono ?_
      rintro e w6 ⟨rfl, f6⟩
      have j3 : w6.cell? ⟨g, 3, none⟩ = some (.int .u64 (J.num : Int)) := Blk.cell (HJR.out.keep_nil f6) 3
      have z3 := Blk.frozen (HJR.out.keep_nil f6) 3
      have HF6 := Lib.hid (HF5.out.1.trans_nil f6)
      have HJ6 := Lib.hid (Blk.set_ (HJR.out.keep_nil f6) 3 (.int .u64 (m : Int)))
      clear cc f6
      go_wp2_with fail
      exact ⟨⟨1, by omega, rfl, HF6.out.setCell (.inl (by simp)) _, .inr ⟨by omega, m, by rw [HLL.out]; exact HM.out, HO.out, HJ6.out, [], BRow.nil _ _⟩⟩, by simp [intOf]; omega⟩
    ·obtain ⟨j, rfl⟩ : ∃ j, k = j + 1 := ⟨k - 1, by omega⟩
     rcases HV.out with ⟨h0, -⟩ | ⟨-, m, hm, ho, hj, vs, hb⟩
     ·omega
     rw [Nat.add_sub_cancel] at hb
     replace hb := (hb.keep_nil HF.out.2).keep_nil HF5.out.2
     obtain ⟨A7, c7, rfl, -, hcm7, -, -, -⟩ := hb.row.shape
     have r7 := hb.row
     rw [areaK_len] at r7
     have HMM := Lib.hid (And.intro hm (And.intro ho ((hj.keep_nil HF.out.2).keep_nil HF5.out.2)))
     rw [areaK_len] at hb
     have HBB := Lib.hid hb
     have HLL := Lib.hid (show D.readR (J.first + 1 + (j : Nat)) = l by have := HL.out; rwa [show J.first + ((j + 1 : Nat) : Int) = J.first + 1 + (j : Nat) by omega] at this)
     rw [areaK_len]
     have hw5 := HF5.out.1.size
     clear hm ho hj hb
     go_wp2_with (at_builtin; refine wpList_app rfl rfl slBB w.heap.size _ j vs rfl (r7.alloc _) _ 1 1 [_] rfl rfl (Rd.one _ _ _) (by intro u hu; rw [List.mem_singleton.1 hu]; rfl) (fun h => by cases h) (by omega) (by simp; omega) ?_; intro v7 wx q1 q2 q3 q4)
     replace q2 : Fr (Value.slice A7 j c7).ownBlock.toList (w5.alloc (.cells #[.slice A5 n5 c5] 27)) wx := q2
     have fa : Fr [] w5 (w5.alloc (.cells #[.slice A5 n5 c5] 27)) := (Fr.refl [] w5).alloc _
     have R7b := (HBB.out.keep_nil fa).snoc (b := l) (by rw [HN5.out]; exact R5.out.keep_nil fa) q2 (by rw [areaK_len]; exact q1)
     rw [← HLL.out, ← areaK_succ] at R7b
     exact ⟨⟨j + 1 + 1, by omega, by go_num, (HF5.out.1.trans_nil fa).trans q2 (fun i hi => .inr (r7.lt i (mem_own.1 hi)).1), .inr ⟨by omega, m, HMM.out.1, HMM.out.2.1, (HMM.out.2.2.keep_nil fa).keep q2 (fun hm => by have := (r7.lt g (mem_own.1 hm)).1; omega), _, by rw [Nat.add_sub_cancel]; exact R7b⟩⟩, by simp [intOf]; omega⟩
  ·obtain rfl : k = N := by omega
   have d0 : ¬ ((k : Int) < k) := by omega
   rcases hv with ⟨h0, -⟩ | ⟨-, m, hm, ho, hjm, vs, hb⟩
   ·omega
   have HP := Lib.hid (And.intro fr (And.intro hm (And.intro ho (And.intro hjm hb))))
   clear fr hm ho hjm hb
   go_wp2_with fail
   go_ret2
   refine ⟨HP.out.1, .inr (.inr ⟨m, _, vs, HP.out.2.2.1, HP.out.2.1, rfl, ?_, HP.out.2.2.2.1⟩)⟩
   rw [HN.out]
   exact HP.out.2.2.2.2
end
end
section
section
variable {P : Program} {ops : Array Oper} {Q : Exit → Act → World → Prop} {md : Region.Mode} {S : World → Prop} {z : Nat}
def wpAnyT (P : Program) (md : Region.Mode) (ops : Array Oper) (Q : Exit → Act → World → Prop) (S : World → Prop) (z : Nat) : Nat → Array Bool → Act → World → Prop
 | 0, listed, a, w => Region.ready md ops listed = [] ∧ Q .normal a w
 | n + 1, listed, a, w => (Region.ready md ops listed = [] → Q .normal a w) ∧
   ∀ i, i ∈ Region.ready md ops listed → wpOp P ops Q i (fun a' w' => (i ≠ z → S w') ∧ wpAnyT P md ops Q S z n (listed.setIfInBounds i true) a' w') a w
theorem wpAny_of_T : ∀ (n : Nat) (listed : Array Bool) (a : Act) (w : World), wpAnyT P md ops Q S z n listed a w → wpAny P md ops Q n listed a w
 | 0, _, _, _, h => h
 | n + 1, _, _, _, h => ⟨h.1, fun i hi => wpOp_mono (fun a' w' k => wpAny_of_T n _ a' w' k.2) (h.2 i hi)⟩
theorem wp_region_T {id : Nat} {a : Act} {w : World} (z : Nat) (hm : P.follows .mixedOrders = true) (h : wpAnyT P .any ops Q S z ops.size (Array.replicate ops.size false) a w.drew) : (Code.region id ops true).wp P Q a w :=
 wp_region_any hm (wpAny_of_T _ _ _ _ h)
def waitsFor (md : Region.Mode) (ops : Array Oper) (z i : Nat) : Bool := match ops[z]? with
 | some o => o.after.any fun e => Region.binds md e && e.on == i
 | none => true
theorem not_ready_of_waits {i : Nat} {listed : Array Bool} (h : waitsFor md ops z i = true) (hi : listed.getD i false = false) : z ∉ Region.ready md ops listed := by
 intro hz
 obtain ⟨-, o, ho, hall⟩ := mem_ready.1 hz
 rw [waitsFor, ho] at h
 obtain ⟨e, he, hb⟩ := Array.any_eq_true'.1 h
 simp only [Bool.and_eq_true, beq_iff_eq] at hb
 have := hall e he hb.1
 rw [hb.2] at this
 rcases Nat.lt_or_ge i listed.size with h' | h'
 ·simp [h'] at hi this; rw [hi] at this; cases this
 ·simp [Array.getElem?_eq_none h'] at this
theorem wpAnyT_first {i : Nat} {oi : Oper} {v : Value} (hi : ops[i]? = some oi) (hsel : ∀ (j : Nat) (o : Oper) cs b, ops[j]? = some o → o.op ≠ .select cs b)
  (hQ : ∀ c a w, Q (.panic c) (a.put oi.dst v) w → Q (.panic c) a w) (hwait : waitsFor md ops z i = true) :
  ∀ (n : Nat) (listed : Array Bool) (a : Act) (w : World),
   (∀ j oj, ops[j]? = some oj → j ≠ i → listed.getD j true = false → (∀ e ∈ oj.after, Region.binds md e = true → e.on ≠ i) → oi.apart ops oj = true) →
   i ∈ Region.ready md ops listed → YieldsIf P ops S oi v a → S w →
   wpAnyT P md ops Q S z n (listed.setIfInBounds i true) (a.put oi.dst v) w → wpAnyT P md ops Q S z (n + 1) listed a w := by
 intro n
 induction n with
 | zero =>
  intro listed a w _ hr hy hS H
  refine ⟨fun h => (by rw [h] at hr; cases hr), fun j hj => ?_⟩
  by_cases e : j = i
  ·subst e
   exact hy.wpOp hi hS ⟨fun _ => hS, H⟩
  ·have k := ready_mono hj e
   rw [H.1] at k
   cases k
 | succ n ih =>
  intro listed a w free hr hy hS H
  refine ⟨fun h => (by rw [h] at hr; cases hr), fun j hj => ?_⟩
  by_cases e : j = i
  ·subst e
   exact hy.wpOp hi hS ⟨fun _ => hS, H⟩
  ·obtain ⟨un, oj, hoj, hall⟩ := mem_ready.1 hj
   have hir := (mem_ready.1 hr).1
   have hif : listed.getD i false = false := by
    rcases Nat.lt_or_ge i listed.size with h' | h'
    ·simpa [h'] using hir
    ·simp [Array.getElem?_eq_none h']
   have hjz : j ≠ z := fun e => not_ready_of_waits hwait hif (e ▸ hj)
   have hno : ∀ e ∈ oj.after, Region.binds md e = true → e.on ≠ i := fun e he hb heq => by
    have k := hall e he hb
    rw [heq] at k
    rcases Nat.lt_or_ge i listed.size with h' | h'
    ·simp [h'] at hif k; rw [hif] at k; cases k
    ·simp [Array.getElem?_eq_none h'] at k
   have step := wpOp_putIf hoj (free j oj hoj e un hno) (fun cs b => hsel i oi cs b hi) (fun cs b => hsel j oj cs b hoj) hQ hy (H.2 j (ready_mono hj e))
   refine wpOp_mono (fun a' w' k => ⟨k.2.1, ih (listed.setIfInBounds j true) a' w' (fun m om hm hmi hun hb => free m om hm hmi ?_ hb) (ready_mono hr (Ne.symm e)) k.1 (k.2.1 hjz) ?_⟩) step
   ·by_cases hjm : j = m
    ·subst hjm; exact un
    ·rwa [getD_set_ne true hjm] at hun
   ·rw [Array.setIfInBounds_comm _ _ e]
    exact k.2.2
theorem takeT_w (i : Nat) (d : Option Tmp) {oi : Oper} {v : Value} {n : Nat} {listed : Array Bool} {tm : Array Value} {df : List _} {w : World} (hi : ops[i]? = some oi) (hd : oi.dst = d)
  (hs : Region.noSelect ops = true) (hf : Region.free md ops listed i = true) (hr : (Region.ready md ops listed).contains i = true) (hwt : waitsFor md ops z i = true)
  (hQ : ∀ c a w, Q (.panic c) (a.put oi.dst v) w → Q (.panic c) a w) (hw : Region.wanted oi (yielded ops tm) = true)
  (hy : ∀ w, S w → (execOp (Act.eval ⟨tm, df⟩) oi).run P w = .ok (.value v) w) (hS : S w)
  (h : wpAnyT P md ops Q S z n (listed.setIfInBounds i true) ((⟨tm, df⟩ : Act).put d v) w) : wpAnyT P md ops Q S z (n + 1) listed ⟨tm, df⟩ w := by
 subst hd
 exact wpAnyT_first hi (Region.noSelect_spec hs) hQ hwt n listed _ w (Region.free_spec hi hf) (by simpa using hr) (.inl ⟨hw, hy⟩) hS h
theorem wpAnyT_one {i : Nat} {oi : Oper} {n : Nat} {listed : Array Bool} {a : Act} {w : World} (hi : ops[i]? = some oi) (hw : Region.wanted oi (yielded ops a.tmps) = true)
  (h : ∀ K' : Act → World → Prop, Shut (∀ a w, (i ≠ z → S w) → ((i ≠ z → S w) → wpAnyT P md ops Q S z n (listed.setIfInBounds i true) a w) → K' a w) → Oper.wp P oi a w K' Q) :
  wpOp P ops Q i (fun a' w' => (i ≠ z → S w') ∧ wpAnyT P md ops Q S z n (listed.setIfInBounds i true) a' w') a w :=
 wpOp_step hi fun K' hK => by rw [if_pos hw]; exact h K' fun a w hS hW => hK a w ⟨hS, hW hS⟩
theorem takeT_c (i : Nat) {oi : Oper} {n : Nat} {listed : Array Bool} {a : Act} {w : World} (hi : ops[i]? = some oi) (hr : Region.ready md ops listed = [i]) (hw : Region.wanted oi (yielded ops a.tmps) = true)
  (h : ∀ K' : Act → World → Prop, Shut (∀ a w, (i ≠ z → S w) → ((i ≠ z → S w) → wpAnyT P md ops Q S z n (listed.setIfInBounds i true) a w) → K' a w) → Oper.wp P oi a w K' Q) : wpAnyT P md ops Q S z (n + 1) listed a w :=
 ⟨fun h0 => (by rw [hr] at h0; cases h0), fun j hj => by
  rw [hr] at hj
  cases List.mem_singleton.1 hj
  exact wpAnyT_one hi hw h⟩
theorem takeT_2 (i j : Nat) {oi oj : Oper} {n : Nat} {listed : Array Bool} {a : Act} {w : World} (hi : ops[i]? = some oi) (hj : ops[j]? = some oj) (hr : Region.ready md ops listed = [i, j])
  (hwi : Region.wanted oi (yielded ops a.tmps) = true) (hwj : Region.wanted oj (yielded ops a.tmps) = true)
  (h1 : ∀ K' : Act → World → Prop, Shut (∀ a w, (i ≠ z → S w) → ((i ≠ z → S w) → wpAnyT P md ops Q S z n (listed.setIfInBounds i true) a w) → K' a w) → Oper.wp P oi a w K' Q)
  (h2 : ∀ K' : Act → World → Prop, Shut (∀ a w, (j ≠ z → S w) → ((j ≠ z → S w) → wpAnyT P md ops Q S z n (listed.setIfInBounds j true) a w) → K' a w) → Oper.wp P oj a w K' Q) : wpAnyT P md ops Q S z (n + 1) listed a w :=
 ⟨fun h0 => (by rw [hr] at h0; cases h0), fun k hk => by
  rw [hr] at hk
  rcases List.mem_cons.1 hk with rfl | hk
  ·exact wpAnyT_one hi hwi h1
  ·cases List.mem_singleton.1 hk
   exact wpAnyT_one hj hwj h2⟩
theorem wpAnyT_done {listed : Array Bool} {a : Act} {w : World} (hr : Region.ready md ops listed = []) (h : Q .normal a w) : ∀ n, wpAnyT P md ops Q S z n listed a w
 | 0 => ⟨hr, h⟩
 | _ + 1 => ⟨fun _ => h, by rw [hr]; simp⟩
end
end
section
open Go.RowKit
section
variable {P : Program} {o : Oper} {a : Act} {w : World} {t e : TypeId} {s : Nat} {x y : Operand} {A : Option Addr} {len cap : Nat}
theorem hy_sliceL (ht : P.underlying t = some (.slice (P.elem t))) (hs : (P.info? (P.elem t)).map (·.size) = some s) (ho : o.op = .slice t x (some y) none none) (hx : a.eval x = .slice A len cap) (k : Nat) (hy : a.eval y = .int .i64 (k : Int)) (hk : k ≤ len) :
  (execOp a.eval o).run P w = .ok (.value (.slice (if cap = k then A else A.map (·.add (k * s))) (len - k) (cap - k))) w := by
 obtain ⟨i, hi, hsi⟩ := Option.map_eq_some_iff.1 hs
 have h0 : (0 : Int) ≤ (k : Int) := by omega
 have h1 : (k : Int) ≤ (len : Int) := by omega
 have e1 : (Instr.sliceAt t (.slice A len cap) (some (.int .i64 (k : Int))) none none).run P w = .ok (.slice (if cap = k then A else A.map (·.add (k * s))) (len - k) (cap - k)) w := by
  rw [run_sliceAt_slice (t := t) (h := ht), run_slice_l (t := t) (ht := ht) (l := (k : Int)) (h0 := h0) (h1 := h1)]
  simp [sizeOf, typeInfo, hi, hsi, sliced, Result.andThen]
 simp [execOp, ho, hx, hy, e1, Result.andThen]
end
end
section
open Go.RowKit
set_option maxRecDepth 100000
def scanJ (n : Int) (J : JrM) : Nat → Nat → List (List UInt8) → List (Int × List UInt8) × Nat × Nat
 | 0, m, _ => ([], 0, m)
 | f + 1, m, bs => match trV m bs with
  | none => ([], 0, m)
  | some rs => if jMay n J rs then (rs ++ (scanJ n J f ((m + 1) % 18446744073709551616) (bs.drop (rs.length + 2))).1, rs.length + 2 + (scanJ n J f ((m + 1) % 18446744073709551616) (bs.drop (rs.length + 2))).2.1, (scanJ n J f ((m + 1) % 18446744073709551616) (bs.drop (rs.length + 2))).2.2) else ([], 0, m)
theorem rmV_lt {l : List UInt8} {m : Nat} (h : rmV l = some m) : m < 18446744073709551616 := by
 unfold rmV at h
 split at h
 ·cases h; exact numR_lt l
 ·cases h
theorem BRow.mono {w : World} {B B' : Nat} {v : Value} {vs : List Value} {bs : List (List UInt8)} (h : BRow w B v vs bs) (hB : B' ≤ B) : BRow w B' v vs bs := ⟨h.row.mono hB, fun i h1 h2 => (h.each i h1 h2).mono hB⟩
theorem BRow.keepT {w w' : World} {F : List Nat} {B : Nat} {v : Value} {vs : List Value} {bs : List (List UInt8)} (h : BRow w B v vs bs) (f : Fr F w w') (h1 : NoTy w F 27) (h2 : NoTy w F 5) : BRow w' B v vs bs := ⟨h.row.keepT f h1, fun i a b => (h.each i a b).keepT f h2⟩
theorem BRd.cut {w : World} {A : Option Addr} {vs : List Value} {bs : List (List UInt8)} (h : BRd w A vs bs) (k cap : Nat) (hc : vs.length ≤ cap) : BRd w (if cap = k then A else A.map (·.add k)) (vs.drop k) (bs.drop k) :=
 ⟨h.rd.cut k cap hc, by rw [List.length_drop, List.length_drop, h.len], fun i a b => by rw [List.getElem_drop, List.getElem_drop]; exact h.each _ _ _⟩
theorem Jr.noTy {w : World} {g p : Nat} {J : JrM} (h : Jr w g p J) {e : TypeId} (he : 169 ≠ e) : NoTy w [g] e := fun i hi cs fz => by
 rw [List.mem_singleton.1 hi]
 unfold Jr Blk at h
 rw [h]
 intro e1
 cases e1
 exact he rfl
theorem RRow.app {w w' : World} {B : Nat} {v v' v2 : Value} {ps qs : List (Int × Value)} {rs ss : List (Int × List UInt8)} (h : RRow w B v ps rs) (h2 : RRow w B v2 qs ss) (f : Fr v.ownBlock.toList w w') (hr : Row w' B 104 2 v' (rs.length + ss.length) (rcells ps ++ rcells qs)) : RRow w' B v' (ps ++ qs) (rs ++ ss) := by
 have kp : ∀ {z : Value} {l : List UInt8}, Row w B 5 1 z l.length (bvs l) → Row w' B 5 1 z l.length (bvs l) := fun hx =>
  hx.keep f (fun g hg hm => hx.ne_rowR h.row (by decide) g hg (mem_own.1 hm))
 have hl := h.len
 have hl2 := h2.len
 refine ⟨by rw [List.length_append, rcells, List.flatMap_append]; exact hr, by rw [List.length_append, List.length_append, hl, hl2], fun i h1 h3 => ?_⟩
 by_cases hi : i < ps.length
 ·have e1 : (ps ++ qs)[i] = ps[i] := List.getElem_append_left hi
  have e2 : (rs ++ ss)[i] = rs[i] := List.getElem_append_left (by omega)
  rw [e1, e2]
  exact ⟨(h.each i hi (by omega)).1, kp (h.each i hi (by omega)).2⟩
 ·rw [List.length_append] at h1 h3
  have e1 : (ps ++ qs)[i] = qs[i - ps.length] := List.getElem_append_right (by omega)
  have e2 : (rs ++ ss)[i] = ss[i - ps.length] := by rw [List.getElem_append_right (by omega)]; congr 1; omega
  rw [e1, e2]
  exact ⟨(h2.each _ (by omega) (by omega)).1, kp (h2.each _ (by omega) (by omega)).2⟩
theorem RRow.one {w : World} {B : Nat} {v : Value} {ps : List (Int × Value)} {rs : List (Int × List UInt8)} (h : RRow w B v ps rs) : ∀ u ∈ rcells ps, u.oneCell' = true := by
 intro u hu
 obtain ⟨p, hp, hm⟩ := List.mem_flatMap.1 hu
 obtain ⟨i, hi, rfl⟩ := List.getElem_of_mem hp
 obtain ⟨A, c, e, -⟩ := (h.each i hi (by have := h.len; omega)).2.shape
 simp at hm
 rcases hm with rfl | rfl
 ·rfl
 ·rw [e]; rfl
theorem trV_nil (m : Nat) : trV m [] = none := trV_none (plV_none fun h => by have := h.1; cases this)
theorem scanJ_no {n : Int} {J : JrM} {f m : Nat} {bs : List (List UInt8)} (h : trV m bs = none) : scanJ n J f m bs = ([], 0, m) := by
 cases f with
 | zero => rfl
 | succ f => rw [scanJ, h]
theorem scanJ_bad {n : Int} {J : JrM} {f m : Nat} {bs : List (List UInt8)} {rs : List (Int × List UInt8)} (h : trV m bs = some rs) (h2 : jMay n J rs = false) : scanJ n J f m bs = ([], 0, m) := by
 cases f with
 | zero => rfl
 | succ f => rw [scanJ, h]; dsimp only; rw [if_neg (by simp [h2])]
theorem scanJ_yes {n : Int} {J : JrM} {f m : Nat} {bs : List (List UInt8)} {rs : List (Int × List UInt8)} (h : trV m bs = some rs) (h2 : jMay n J rs = true) : scanJ n J (f + 1) m bs = (rs ++ (scanJ n J f ((m + 1) % 18446744073709551616) (bs.drop (rs.length + 2))).1, rs.length + 2 + (scanJ n J f ((m + 1) % 18446744073709551616) (bs.drop (rs.length + 2))).2.1, (scanJ n J f ((m + 1) % 18446744073709551616) (bs.drop (rs.length + 2))).2.2) := by
 rw [scanJ, h]; dsimp only; rw [if_pos h2]
theorem trV_len {m : Nat} {bs : List (List UInt8)} {rs : List (Int × List UInt8)} (h : trV m bs = some rs) : rs.length + 2 ≤ bs.length := by
 cases hp : plV (bs.headD []) with
 | none => rw [trV_none hp] at h; cases h
 | some q =>
  obtain ⟨m', L, t⟩ := q
  by_cases ho : trOk m bs m' L t
  ·rw [trV_some hp ho] at h
   cases h
   have := ho.2.1
   simp
   omega
  ·rw [trV_no hp ho] at h; cases h
def openJ (x y : Int) (m u : Nat) : JrM := ⟨x, y, m, u, false, false⟩
def scanA (D : DkM) (x y : Int) (m : Nat) : List (Int × List UInt8) × Nat × Nat := scanJ D.sure.length (openJ x y 0 0) (y.toNat - 1) m (areaK D (openJ x y 0 0) (y.toNat - 1))
def OpenC (w : World) (p : Nat) (D : DkM) (x y : Int) (e : Ending) (w' : World) : Prop :=
 Fr [] w w' ∧ ((jRight D x y = false ∧ e = .returned (.tuple #[.pointer none, .slice none 0 0, .int .i64 1])) ∨
  (jRight D x y = true ∧ D.off = true ∧ e = .returned (.tuple #[.pointer none, .slice none 0 0, .int .i64 102])) ∨
  (jRight D x y = true ∧ D.off = false ∧ rmV (D.readR x) = none ∧ e = .returned (.tuple #[.pointer none, .slice none 0 0, .int .i64 110])) ∨
  ∃ m g v ps, jRight D x y = true ∧ D.off = false ∧ rmV (D.readR x) = some m ∧ e = .returned (.tuple #[.pointer (some ⟨g, 0, none⟩), v, .int .i64 0]) ∧ w.heap.size ≤ g ∧ RRow w' w.heap.size v ps (scanA D x y m).1 ∧ Jr w' g p (openJ x y (scanA D x y m).2.2 (scanA D x y m).2.1))
section
variable {w w' : World} {g p : Nat} {O : List Nat} {J : JrM} {D : DkM}
set_option maxHeartbeats 4000000 in
theorem jnOpen_any (h : Dsk w p O D) (x y : Int) (hx : wfZ x) (hK : KG w) :
  Calls Tryz.prog 70 #[.pointer (some ⟨p, 0, none⟩), .int .i64 x, .int .i64 y] w (OpenC w p D x y) := by
 have cr := jnRight_any h x y hx
 have HH := Lib.hid h
 have hlt : ∀ i ∈ O, i < w.heap.size := by obtain ⟨X, hX⟩ := h; exact hX.lt
 have hn1 : D.sure.length ≤ 4096 := by obtain ⟨X, hX⟩ := h; exact hX.n1.2
 cases hb : jRight D x y with
 | false =>
  rw [hb] at cr
  have HB := Lib.hid hb
  clear h hb
  go_enter Tryz.func70, Tryz.ntmps70
  go_wp2_with (go_at_call 64; refine cr.mono ?_; rintro e w' ⟨rfl, rfl⟩)
  refine bodyPost_ret (results_tmp3 rfl _ _ _) rfl ?_
  exact ⟨Fr.refl _ _, .inl ⟨HB.out, rfl⟩⟩
 | true =>
  rw [hb] at cr
  have hb2 := hb
  simp only [jRight, Bool.and_eq_true, decide_eq_true_eq] at hb2
  have HB := Lib.hid hb
  have kj := Blk.new w 169 #[.pointer (some ⟨p, 0, none⟩), .int .i64 x, .int .i64 y, .int .u64 0, .int .i64 0, .bool false, .bool false]
  have f1 : Fr [] w (w.alloc (.cells #[.pointer (some ⟨p, 0, none⟩), .int .i64 x, .int .i64 y, .int .u64 0, .int .i64 0, .bool false, .bool false] 169)) := (Fr.refl _ _).alloc _
  obtain ⟨w1, hw1⟩ : ∃ z, w.alloc (.cells #[.pointer (some ⟨p, 0, none⟩), .int .i64 x, .int .i64 y, .int .u64 0, .int .i64 0, .bool false, .bool false] 169) = z := ⟨_, rfl⟩
  rw [hw1] at kj f1
  have cb := jnBlocks_any (J := openJ x y 0 0) (h.keep_nil f1) (show Jr w1 w.heap.size p (openJ x y 0 0) from kj) (fun hm => by have := hlt _ hm; omega) ⟨by show 16 ≤ y ∧ y ≤ 256; omega, by show 0 ≤ x ∧ x ≤ 4096; omega, by show (0 : Nat) < _; decide, by show (0 : Int) ≤ ((0 : Nat) : Int) ∧ ((0 : Nat) : Int) ≤ 256; omega⟩ (by show jRight D x y = true; exact hb) (hK.keep f1)
  obtain ⟨g, hg⟩ : ∃ g, w.heap.size = g := ⟨_, rfl⟩
  have HG := Lib.hid hg
  rw [hg] at cb
  have F1 := Lib.hid f1
  clear h hb kj f1
  go_enter Tryz.func70, Tryz.ntmps70
  go_wp2_with (go_at_call 64; refine cr.mono ?_; rintro e w' ⟨rfl, rfl⟩)
  refine cb.mono ?_
  rintro e w2 ⟨f2, hc⟩
  have F2 := Lib.hid (F1.out.trans f2 (fun i hi => .inr (by rw [List.mem_singleton.1 hi, ← HG.out]; exact Nat.le_refl _)))
  have hw1 := F1.out.size
  rcases hc with ⟨ho, rfl⟩ | ⟨ho, hm, rfl⟩ | ⟨m, v, vs, ho, hm, rfl, hbr, hjr⟩
  ·have HO := Lib.hid ho
   clear cb f2 ho
   go_wp2_with fail
   refine bodyPost_ret (results_tmp3 rfl _ _ _) rfl ?_
   exact ⟨F2.out, .inr (.inl ⟨HB.out, HO.out, rfl⟩)⟩
  ·have HO := Lib.hid (And.intro ho hm)
   clear cb f2 ho hm
   go_wp2_with fail
   refine bodyPost_ret (results_tmp3 rfl _ _ _) rfl ?_
   exact ⟨F2.out, .inr (.inr (.inl ⟨HB.out, HO.out.1, HO.out.2, rfl⟩))⟩
  ·have HO := Lib.hid (And.intro ho hm)
   obtain ⟨B, hBB⟩ : ∃ B, areaK D (openJ x y 0 0) (y.toNat - 1) = B := ⟨_, rfl⟩
   have hBl : B.length = y.toNat - 1 := by rw [← hBB, areaK_len]
   replace hbr : BRow w2 w.heap.size v vs B := by rw [← hBB]; exact hbr.mono hw1
   have hsc : scanA D x y m = scanJ D.sure.length (openJ x y 0 0) B.length m (B.drop 0) := by rw [List.drop_zero, hBl, scanA, hBB]
   have hm64 : m < 18446744073709551616 := by
    have := rmV_lt hm
    exact this
   have HBR := Lib.hid (And.intro hbr hjr)
   have HSC := Lib.hid hsc
   have HM := Lib.hid hm64
   obtain ⟨AB, cB, rfl, -, -, -, -, -⟩ := hbr.row.shape
   have HBL := Lib.hid hBl
   clear cb f2 ho hm hbr hjr hsc hm64 hBl hBB
   obtain ⟨N, hN⟩ : ∃ N, B.length = N := ⟨_, rfl⟩
   rw [hN]
   have HN := Lib.hid hN
   clear hN
   go_wp2_with fail
   go_loopw [12] (fun v wr => ∃ out ps used num f, RRow wr w2.heap.size v ps out ∧ Jr wr g p (openJ x y num used) ∧ Fr [g] w2 wr ∧ num < 18446744073709551616 ∧ used ≤ B.length ∧ out.length ≤ used ∧ (B.drop used).length ≤ f ∧ scanA D x y m = (out ++ (scanJ D.sure.length (openJ x y 0 0) f num (B.drop used)).1, used + (scanJ D.sure.length (openJ x y 0 0) f num (B.drop used)).2.1, (scanJ D.sure.length (openJ x y 0 0) f num (B.drop used)).2.2)) (fun _ wr => B.length - (intOf ((wr.cell? ⟨g, 4, none⟩).getD undef)).toNat)
   case atStart => exact ⟨[], [], 0, m, B.length, RRow.nil _ _, HBR.out.2, Fr.refl _ _, HM.out, by omega, by simp, by simp, by rw [HSC.out]; simp⟩
   case round =>
    obtain ⟨out, ps, used, num, f, hrr, hj, fr, hnum, hus, hou, hf, htot⟩ := hrel
    have hbr := HBR.out.1.keepT fr (HBR.out.2.noTy (by decide)) (HBR.out.2.noTy (by decide))
    obtain ⟨wD, hwD⟩ : ∃ wD, wr.drew = wD := ⟨_, rfl⟩
    have fD : Fr [] wr wD := by rw [← hwD]; exact (Fr.refl [] _).drew
    have hsh := hbr.row.shape
    obtain ⟨_, _, e0, hBc, -⟩ := hsh
    cases e0
    have bd := (hbr.brd.keep_nil fD).cut used cB (by rw [hbr.vlen]; exact hBc)
    have hA0 := (hbr.row.keep_nil fD).rdD.2.2
    have hFw := F2.out.trans fr (fun i hi => .inr (by rw [List.mem_singleton.1 hi, ← HG.out]; exact Nat.le_refl _))
    have cp := rcParse_any wD _ num (B.length - used) (cB - used) _ _ hnum (by rw [List.length_drop]) bd (fun e => by
     split at e
     ·omega
     ·cases AB with
      | none => have := hA0 rfl; omega
      | some a => cases e) (by omega) (by have := HBL.out; omega) ((hK.keep hFw).keep fD)
    have hSD : wD.cell? ⟨g, 3, none⟩ = some (.int .u64 (num : Int)) ∧ wD.cell? ⟨g, 4, none⟩ = some (.int .i64 used) := ⟨fD.cell (by simp) (Blk.cell hj 3), fD.cell (by simp) (Blk.cell hj 4)⟩
    obtain ⟨A', hA'⟩ : ∃ A', (if cB = used then AB else AB.map (·.add used)) = A' := ⟨_, rfl⟩
    have hN := HN.out
    rw [hA', hN] at cp
    have HA' := Lib.hid hA'
    have HP := Lib.hid (And.intro hrr (And.intro hj (And.intro fr (And.intro fD hFw))))
    have HT := Lib.hid (And.intro htot hf)
    rw [hN] at hus hBc
    clear hN
    clear hrr hj fr fD hFw hbr bd hA0 htot hf hA'
    go_upto_region 8 with fail
    refine wp_region_held_drew (S := fun w' => w'.cell? ⟨g, 3, none⟩ = some (.int .u64 (num : Int)) ∧ w'.cell? ⟨g, 4, none⟩ = some (.int .i64 used)) (by kernel_rfl) (by rw [hwD]; exact hSD) (fun hHeld => ?_)
    rw [hwD] at hHeld ⊢
    clear hSD hwD
    refine tw 0 35 hHeld ?_
    refine tw 1 36 hHeld ?_
    refine tw 2 37 hHeld ?_
    refine tw 3 38 hHeld ?_
    refine tw 4 39 hHeld ?_
    refine tw 5 40 hHeld ?_
    refine tw 6 41 hHeld ?_
    refine tw 7 42 hHeld ?_
    refine tw 8 43 hHeld ?_
    refine tw 9 44 hHeld ?_ (v := .slice A' (N - used) (cB - used)) (hy := (fun w _ => (hy_sliceL (s := 1) Tryz.underlying42 (by kernel_rfl) rfl rfl used rfl (by omega)).trans (by rw [Nat.mul_one, HA'.out])))
    refine tc 10 (fun K hK => ?_)
    go_simp
    refine cp.mono ?_
    rintro e w5 ⟨v5, ps5, rfl, r5, f5⟩
    have hHx : w5.cell? ⟨g, 3, none⟩ = some (.int .u64 (num : Int)) ∧ w5.cell? ⟨g, 4, none⟩ = some (.int .i64 used) := ⟨f5.cell (by simp) hHeld.1, f5.cell (by simp) hHeld.2⟩
    refine hK.out _ _ hHx (fun hHy => ?_)
    clear hK cp hHeld hHy
    have hHeld := hHx
    clear hHx
    try simp only [Act.put, p1, p2, p3]
    refine tw 11 34 hHeld ?_
    refine tw 12 46 hHeld ?_
    refine tw 13 47 hHeld ?_
    refine tw 14 48 hHeld ?_
    refine tw 15 13 hHeld ?_
    refine tw 16 14 hHeld ?_
    refine tw 17 15 hHeld ?_
    refine wpAnyH_done (by kernel_rfl) ?_ _
    have HF5 := Lib.hid (And.intro f5 r5)
    have HHL := Lib.hid hHeld
    clear hHeld f5 r5
    have fin : ∀ (w' : World), Fr [] w5 w' → scanA D x y m = (out, used, num) → OpenC w p D x y (.returned (.tuple #[.pointer (some ⟨g, 0, none⟩), u12, .int .i64 0])) w' := fun w' f he => by
     have fw := HP.out.2.2.2.1.trans_nil (HF5.out.1.trans_nil f)
     refine ⟨HP.out.2.2.2.2.trans_nil fw, .inr (.inr (.inr ⟨m, g, u12, ps, HB.out, HO.out.1, HO.out.2, rfl, by rw [HG.out]; exact Nat.le_refl _, ?_, ?_⟩))⟩
     ·rw [he]; exact (HP.out.1.keep_nil fw).mono F2.out.size
     ·rw [he]; exact HP.out.2.1.keep_nil fw
    have FIN := Lib.hid fin
    clear fin
    cases ht : trV num (B.drop used) with
    | none =>
     have HTT := Lib.hid (show scanA D x y m = (out, used, num) by rw [HT.out.1, scanJ_no ht]; simp)
     rw [show trN num (B.drop used) = 0 by rw [trN, ht], show errG (none : Option (List (Int × List UInt8))).isSome 110 = 110 from rfl]
     clear ht
     go_wp2_with fail
     refine bodyPost_ret (results_tmp3 rfl _ _ _) rfl ?_
     exact FIN.out _ (Fr.refl _ _) HTT.out
    | some rs =>
     have r5 := HF5.out.2
     rw [ht] at r5
     replace r5 : RRow w5 wD.heap.size v5 ps5 rs := r5
     obtain ⟨A5, c5, rfl, -, -, -, -, -⟩ := r5.row.shape
     have fw := HP.out.2.2.2.1.trans_nil HF5.out.1
     have cm := jnMay_any (HH.out.keep_nil (HP.out.2.2.2.2.trans_nil (HP.out.2.2.2.1.trans_nil HF5.out.1))) (HP.out.2.1.keep_nil fw) ⟨by show 16 ≤ y ∧ y ≤ 256; omega, by show 0 ≤ x ∧ x ≤ 4096; omega, hnum, by show (0 : Int) ≤ ((used : Nat) : Int) ∧ ((used : Nat) : Int) ≤ 256; have := HBL.out; have := HN.out; omega⟩ (n := rs.length) (c := c5) r5.rdx rfl (by have := trV_len ht; rw [List.length_drop] at this; have := HBL.out; omega)
     replace cm : Calls Tryz.prog 120 #[.pointer (some ⟨g, 0, none⟩), .slice A5 rs.length c5] w5 fun e w' => e = .returned (.bool (jMay D.sure.length (openJ x y 0 0) rs)) ∧ Fr [] w5 w' := cm
     have HR5 := Lib.hid r5
     have HTR := Lib.hid ht
     obtain ⟨L, hL⟩ : ∃ L, rs.length = L := ⟨_, rfl⟩
     rw [show trN num (B.drop used) = L + 2 by rw [trN, ht, ← hL], show errG (some rs).isSome 110 = 0 from rfl]
     rw [hL] at cm ⊢
     have HL := Lib.hid hL
     clear r5 fw ht hL
     cases hmy : jMay D.sure.length (openJ x y 0 0) rs with
     | false =>
      have HMY := Lib.hid hmy
      rw [hmy] at cm
      have HTT := Lib.hid (show scanA D x y m = (out, used, num) by rw [HT.out.1, scanJ_bad HTR.out hmy]; simp)
      clear hmy
      go_wp2_with fail
      refine cm.mono ?_
      rintro e w6 ⟨rfl, f6⟩
      have HF6 := Lib.hid f6
      clear cm f6
      go_wp2_with fail
      refine bodyPost_ret (results_tmp3 rfl _ _ _) rfl ?_
      exact FIN.out _ HF6.out HTT.out
     | true =>
      have HMY := Lib.hid hmy
      rw [hmy] at cm
      clear hmy
      go_wp2_with fail
      refine cm.mono ?_
      rintro e w6 ⟨rfl, f6⟩
      have fw6 := HP.out.2.2.2.1.trans_nil (HF5.out.1.trans_nil f6)
      have rr := HP.out.1.keep_nil fw6
      have hj6 := HP.out.2.1.keep_nil fw6
      have r2 := (HR5.out.keep_nil f6).mono (HP.out.2.2.1.trans_nil HP.out.2.2.2.1).size
      obtain ⟨A12, c12, rfl, -, -, -, -, -⟩ := rr.row.shape
      obtain ⟨K, hK⟩ : ∃ K, out.length = K := ⟨_, rfl⟩
      have r13 := rr.row
      rw [hK] at r13 ⊢
      have hsz := (HP.out.2.2.1.trans_nil fw6).size
      have rd5 := r2.row.rdD
      have on5 := r2.one
      have hl5 : (rcells ps5).length = L * 2 := by rw [rcells_len, r2.len, HL.out]
      have HRR := Lib.hid (And.intro rr (And.intro r2 (And.intro hj6 (And.intro hK fw6))))
      have hLN : L + 2 + used ≤ N := by have := trV_len HTR.out; rw [List.length_drop, HL.out, HN.out] at this; omega
      have e4 : IntKind.i64.wrap ((used : Int) + ((L : Int) + 2)) = (used : Int) + ((L : Int) + 2) := IntWalk.i64_in _ (by have := HBL.out; rw [HN.out] at this; omega)
      have hN2 : N ≤ 255 := by have := HBL.out; rw [HN.out] at this; omega
      clear cm f6 rr r2 hj6 fw6
      go_wp2_with (at_builtin; refine wpList_app rfl rfl slR w2.heap.size _ K (rcells ps) rfl r13 A5 L c5 (rcells ps5) rfl hl5 rd5.1 on5 (fun h => by have := rd5.2.2 h; rw [HL.out] at this; exact this) (by omega) hsz ?_; intro v7 w7 q1 q2 q3 q4; have hj7 := Jr.keep HRR.out.2.2.1 q2 (fun hm => (r13.ne_blk HRR.out.2.2.1 (by decide)) (mem_own.1 hm)); have j4 : w7.cell? ⟨g, 4, none⟩ = some (.int .i64 used) := Blk.cell hj7 4; have z4 := Blk.frozen hj7 4; have j3 : w7.cell? ⟨g, 3, none⟩ = some (.int .u64 (num : Int)) := Blk.cell hj7 3; have z3 := Blk.frozen hj7 3; have HJ7 := Lib.hid (And.intro hj7 (And.intro q1 q2)); clear hj7 q1 q2)
      obtain ⟨rr, r2, hj6, hK, fw6⟩ := HRR.out
      obtain ⟨hj7, q1, q2⟩ := HJ7.out
      obtain ⟨f', rfl⟩ : ∃ f', f = f' + 1 := ⟨f - 1, by have := HT.out.2; rw [List.length_drop, HN.out] at this; omega⟩
      have k4 := Blk.set_ hj7 4 (.int .i64 ((used + (L + 2) : Nat) : Int))
      have k3 := Blk.set_ k4 3 (.int .u64 (((num + 1) % 18446744073709551616 : Nat) : Int))
      go_roundw
      case rel =>
       have h1 := scanJ_yes (n := D.sure.length) (J := openJ x y 0 0) (f := f') HTR.out HMY.out
       rw [List.drop_drop, HL.out] at h1
       have fs : Fr [g] w7 ((w7.setCell ⟨g, 4, none⟩ (.int .i64 ((used : Int) + ((L : Int) + 2)))).setCell ⟨g, 3, none⟩ (.int .u64 (IntKind.u64.wrap ((num : Int) + 1)))) := ((Fr.refl _ _).setCell (.inl (by simp)) _).setCell (.inl (by simp)) _
       have en : IntKind.u64.wrap ((num : Int) + 1) = (((num + 1) % 18446744073709551616 : Nat) : Int) := by rw [show IntKind.u64.wrap ((num : Int) + 1) = ((num : Int) + 1) % 18446744073709551616 from rfl]; omega
       refine ⟨out ++ rs, ps ++ ps5, used + (L + 2), (num + 1) % 18446744073709551616, f', ?_, ?_, ?_, Nat.mod_lt _ (by decide), by rw [HN.out]; omega, by rw [List.length_append, HL.out, hK]; omega, ?_, ?_⟩
       ·have rA := RRow.app rr r2 (show Fr (Value.slice A12 out.length c12).ownBlock.toList w6 w7 by rw [hK]; exact q2) (by rw [hK, HL.out]; exact q1)
        exact ⟨rA.row.keepT fs (hj7.noTy (by decide)), rA.len, fun i a b => ⟨(rA.each i a b).1, (rA.each i a b).2.keepT fs (hj7.noTy (by decide))⟩⟩
       ·rw [en]; exact k3
       ·refine (((HP.out.2.2.1.trans_nil fw6).trans q2 (fun i hi => .inr ?_)).trans_same fs)
        exact (r13.lt i (mem_own.1 hi)).1
       ·have := HT.out.2
        rw [List.length_drop] at this ⊢
        omega
       ·rw [HT.out.1, h1, List.append_assoc]
        simp only [Nat.add_assoc]
      case measure =>
       have m1 := Blk.cell hj6 4
       have m3 : wr.cell? ⟨g, 4, none⟩ = some (.int .i64 (used : Int)) := Blk.cell HP.out.2.1 4
       have m4 : ((w7.setCell ⟨g, 4, none⟩ (.int .i64 ((used : Int) + ((L : Int) + 2)))).setCell ⟨g, 3, none⟩ (.int .u64 (IntKind.u64.wrap ((num : Int) + 1)))).cell? ⟨g, 4, none⟩ = some (.int .i64 ((used : Int) + ((L : Int) + 2))) := Blk.cell (Blk.set_ k4 3 (.int .u64 (IntKind.u64.wrap ((num : Int) + 1)))) 4
       rw [m4, m3]
       simp only [Option.getD_some, intOf]
       have := HN.out
       omega
end
end
section
open Go.RowKit
set_option maxRecDepth 100000
structure On (D : DkM) (n : Nat) : Prop where
 calls : D.calls = -1
 len : D.sure.length = n
section
variable {D : DkM} {n : Nat}
theorem On.off (h : On D n) : D.off = false := by rw [DkM.off, h.calls]; rfl
theorem On.is (h : On D n) {x : Int} : D.is x = true ↔ 0 ≤ x ∧ x < n := by rw [DkM.is_iff, h.len]
theorem On.new (n : Nat) : On (newD n) n := ⟨rfl, List.length_replicate⟩
theorem On.dec (h : On D n) : D.dec = D := by
 unfold DkM.dec
 rw [h.calls, if_neg (by decide), ← h.calls]
theorem On.write (h : On D n) {x : Int} {b : List UInt8} (h0 : 0 ≤ x) (h1 : x < n) (hb : b.length = 512) : D.writeE x b.length = 0 ∧ D.write x b = D.wr x b := by
 have hi := h.is.2 ⟨h0, h1⟩
 have hm : D.mayE x b.length = 0 := by rw [DkM.mayE, hi, hb]; rfl
 have hw : On (D.wr x b) n := ⟨h.calls, h.len⟩
 exact ⟨by rw [DkM.writeE, hm, h.off]; rfl, by rw [DkM.write, hm, h.off, if_neg (by decide), if_neg (by decide), hw.dec]⟩
theorem On.wr (h : On D n) (x : Int) (b : List UInt8) : On (D.wr x b) n := ⟨h.calls, h.len⟩
theorem On.wr_read (h : On D n) {x : Int} {b : List UInt8} (h0 : 0 ≤ x) (h1 : x < n) (y : Int) : (D.wr x b).readR y = if y = x then b else D.readR y := by
 have hw := h.wr x b
 have ei : (D.wr x b).is y = D.is y := rfl
 have eu : (D.wr x b).uns y = if y = x then D.uns x ++ [b] else D.uns y := rfl
 have es : (D.wr x b).sureR y = D.sureR y := rfl
 rw [DkM.readR, ei, hw.off, eu, es, DkM.readR, h.off]
 by_cases e : y = x
 ·subst e
  rw [if_pos rfl, if_pos rfl, h.is.2 ⟨h0, h1⟩, List.getLast?_concat]
  rfl
 ·rw [if_neg e, if_neg e]
theorem On.wr_sure (x : Int) (b : List UInt8) (y : Int) : (D.wr x b).sureR y = D.sureR y := rfl
theorem On.flush (h : On D n) : D.flushE = 0 ∧ D.flush = D.flush1 ∧ On D.flush1 n := by
 have hf : On D.flush1 n := ⟨h.calls, by show (D.flushL _).sure.length = n; rw [DkM.flushL_len, h.len]⟩
 exact ⟨by rw [DkM.flushE, h.off]; rfl, by rw [DkM.flush, h.off, if_neg (by decide), hf.dec], hf⟩
theorem On.flush_sure (h : On D n) (y : Int) : D.flush1.sureR y = D.readR y := by
 have hf := h.flush.2.2
 rw [DkM.sureR, DkM.readR, h.off]
 have ei : D.flush1.is y = D.is y := by rw [DkM.is, DkM.is, hf.len, h.len]
 rw [ei]
 cases hi : D.is y with
 | false => rfl
 | true =>
  obtain ⟨h0, h1⟩ := DkM.is_iff.1 hi
  obtain ⟨i, rfl⟩ : ∃ i : Nat, y = i := ⟨y.toNat, by omega⟩
  have hl : i < D.sure.length := by omega
  have e : (D.flush1.sure.getD i none) = D.fl (fun _ => false) i := by
   show ((List.range D.sure.length).map (D.fl (fun _ => false))).getD i none = _
   simp [List.getD_eq_getElem?_getD, hl]
  rw [if_pos rfl, Int.toNat_natCast, e, DkM.fl]
  simp only [Bool.false_eq_true, if_false, Bool.true_eq_false]
  cases hu : (D.uns i).getLast? with
  | some b => rfl
  | none =>
   rw [DkM.sureR, hi]
   rfl
theorem On.flush_read (h : On D n) (y : Int) : D.flush1.readR y = D.readR y := by
 have hf := h.flush.2.2
 rw [← h.flush_sure y, DkM.readR, hf.off]
 cases hi : D.flush1.is y with
 | false => rw [DkM.sureR, hi]; rfl
 | true => rfl
theorem On.new_read (n : Nat) {x : Int} (h0 : 0 ≤ x) (h1 : x < n) : (newD n).readR x = zB512 ∧ (newD n).sureR x = zB512 := by
 have hi : (newD n).is x = true := (On.new n).is.2 ⟨h0, h1⟩
 have hs : (newD n).sureR x = zB512 := by
  rw [DkM.sureR, hi, if_pos rfl]
  show ((List.replicate n (none : Option (List UInt8))).getD x.toNat none).getD zB512 = zB512
  rw [List.getD_eq_getElem?_getD, List.getElem?_replicate]
  split <;> rfl
 refine ⟨?_, hs⟩
 rw [DkM.readR, hi, (On.new n).off]
 exact hs
end
def wrS : Int → List (List UInt8) → List Stp
 | _, [] => []
 | x, b :: r => .wr x b :: wrS (x + 1) r
theorem wrS_len : ∀ (L : List (List UInt8)) (x : Int), (wrS x L).length = L.length
 | [], _ => rfl
 | b :: r, x => by rw [wrS, List.length_cons, List.length_cons, wrS_len r]
theorem wrS_snoc : ∀ (L : List (List UInt8)) (x : Int) (b : List UInt8), wrS x (L ++ [b]) = wrS x L ++ [.wr (x + L.length) b]
 | [], x, b => by simp [wrS]
 | c :: r, x, b => by
  rw [List.cons_append, wrS, wrS_snoc r, wrS, List.cons_append, List.length_cons]
  congr 4
  omega
def appS (x : Int) (L : List (List UInt8)) (d : List UInt8) : List Stp := wrS x L ++ [.fl, .wr (x + L.length) d]
theorem runS_app : ∀ (a b : List Stp) (D : DkM), (runS D a).1 = 0 → runS D (a ++ b) = runS (runS D a).2 b
 | [], b, D, _ => rfl
 | s :: r, b, D, h => by
  rw [List.cons_append, runS, runS]
  rw [runS] at h
  by_cases e : s.E D = 0
  ·rw [if_pos e] at h
   rw [if_pos e, if_pos e]
   exact runS_app r b _ h
  ·rw [if_neg e] at h
   exact absurd h e
theorem runS_uns : ∀ (ss : List Stp) (D : DkM) (x : Int), ((runS D ss).2.uns x).length ≤ (D.uns x).length + ss.length
 | [], D, x => Nat.le_refl _
 | s :: r, D, x => by
  rw [runS, List.length_cons]
  have := s.D_uns D x
  split
  ·have := runS_uns r (s.D D) x
   omega
  ·show ((s.D D).uns x).length ≤ _
   omega
theorem runS_wrS : ∀ (L : List (List UInt8)) (D : DkM) (n : Nat) (x : Int), On D n → 0 ≤ x → x + L.length ≤ n → (∀ b ∈ L, b.length = 512) →
  (runS D (wrS x L)).1 = 0 ∧ On (runS D (wrS x L)).2 n ∧ (∀ y, (runS D (wrS x L)).2.readR y = if x ≤ y ∧ y < x + L.length then L.getD (y - x).toNat [] else D.readR y) ∧ ∀ y, (runS D (wrS x L)).2.sureR y = D.sureR y
 | [], D, n, x, h, _, _, _ => ⟨rfl, h, fun y => by rw [if_neg (by rw [List.length_nil]; omega)]; rfl, fun y => rfl⟩
 | b :: r, D, n, x, h, h0, h1, hb => by
  rw [List.length_cons] at h1
  obtain ⟨e1, e2⟩ := h.write (b := b) h0 (by omega) (hb b List.mem_cons_self)
  have hr : runS D (wrS x (b :: r)) = runS (D.wr x b) (wrS (x + 1) r) := by
   rw [wrS, runS, Stp.E, Stp.D, e1, e2, if_pos rfl]
  obtain ⟨k1, k2, k3, k4⟩ := runS_wrS r (D.wr x b) n (x + 1) (h.wr x b) (by omega) (by omega) (fun c hc => hb c (List.mem_cons_of_mem _ hc))
  rw [hr]
  refine ⟨k1, k2, fun y => ?_, fun y => by rw [k4, On.wr_sure]⟩
  rw [k3 y, h.wr_read h0 (by omega)]
  by_cases hy : x + 1 ≤ y ∧ y < x + 1 + r.length
  ·rw [if_pos hy, if_pos (by rw [List.length_cons]; omega)]
   rw [show (y - x).toNat = (y - (x + 1)).toNat + 1 by omega, List.getD_cons_succ]
  ·rw [if_neg hy]
   by_cases he : y = x
   ·subst he
    rw [if_pos rfl, if_pos (by rw [List.length_cons]; omega), Int.sub_self]
    rfl
   ·rw [if_neg he, if_neg (by rw [List.length_cons]; omega)]
theorem runS_appS (L : List (List UInt8)) (d : List UInt8) (D : DkM) (n : Nat) (x : Int) (h : On D n) (h0 : 0 ≤ x) (h1 : x + L.length + 1 ≤ n) (hb : ∀ b ∈ L, b.length = 512) (hd : d.length = 512) :
  (runS D (appS x L d)).1 = 0 ∧ On (runS D (appS x L d)).2 n ∧ (∀ y, (runS D (appS x L d)).2.readR y = if x ≤ y ∧ y < x + (L ++ [d]).length then (L ++ [d]).getD (y - x).toNat [] else D.readR y) ∧
   ∀ y, (runS D (appS x L d)).2.sureR y = if x ≤ y ∧ y < x + L.length then L.getD (y - x).toNat [] else D.readR y := by
 obtain ⟨k1, k2, k3, k4⟩ := runS_wrS L D n x h h0 (by omega) hb
 obtain ⟨E, hE⟩ : ∃ E, (runS D (wrS x L)).2 = E := ⟨_, rfl⟩
 rw [hE] at k2 k3 k4
 obtain ⟨f1, f2, f3⟩ := k2.flush
 obtain ⟨w1, w2⟩ := f3.write (x := x + L.length) (b := d) (by omega) (by omega) hd
 have hr : runS D (appS x L d) = (0, E.flush1.wr (x + L.length) d) := by
  rw [appS, runS_app _ _ _ k1, hE, runS, Stp.E, f1, if_pos rfl, Stp.D, f2, runS, Stp.E, w1, if_pos rfl, Stp.D, w2]
  rfl
 rw [hr]
 refine ⟨rfl, f3.wr _ _, fun y => ?_, fun y => ?_⟩
 ·show (E.flush1.wr (x + L.length) d).readR y = _
  rw [f3.wr_read (by omega) (by omega), k2.flush_read, k3, List.length_append, List.length_singleton]
  by_cases e : y = x + L.length
  ·subst e
   rw [if_pos rfl, if_pos (by omega), show (x + (L.length : Int) - x).toNat = L.length by omega, getD_mid _ _ _ _ rfl]
  ·rw [if_neg e]
   by_cases hy : x ≤ y ∧ y < x + L.length
   ·rw [if_pos hy, if_pos (by omega), getD_app _ _ _ (by omega)]
   ·rw [if_neg hy, if_neg (by omega)]
 ·show (E.flush1.wr (x + L.length) d).sureR y = _
  rw [On.wr_sure, k2.flush_sure, k3]
theorem mkE_ok {D : DkM} {n : Nat} (h : On D n) {x : Int} (h0 : 0 ≤ x) (h1 : x < n) {m : Nat} (hm : m ≠ 0) : (mkE D x m).1 = 0 ∧ On (mkE D x m).2 n ∧ (∀ y, (mkE D x m).2.readR y = if y = x then markB m else D.readR y) ∧ ∀ y, (mkE D x m).2.sureR y = if y = x then markB m else D.readR y := by
 obtain ⟨e1, e2⟩ := h.write (b := markB m) h0 h1 (markB_len m)
 obtain ⟨f1, f2, f3⟩ := (h.wr x (markB m)).flush
 have hr : mkE D x m = (0, (D.wr x (markB m)).flush1) := by
  rw [mkE, if_neg hm, runS, Stp.E, e1, if_pos rfl, Stp.D, e2, runS, Stp.E, f1, if_pos rfl, Stp.D, f2]
  rfl
 rw [hr]
 exact ⟨rfl, f3, fun y => by show ((D.wr x (markB m)).flush1).readR y = _; rw [(h.wr x (markB m)).flush_read, h.wr_read h0 h1], fun y => by show ((D.wr x (markB m)).flush1).sureR y = _; rw [(h.wr x (markB m)).flush_sure, h.wr_read h0 h1]⟩
theorem mkE_uns (D : DkM) (x : Int) (m : Nat) (y : Int) : ((mkE D x m).2.uns y).length ≤ (D.uns y).length + 2 := by
 rw [mkE]
 split
 ·show (D.uns y).length ≤ _; omega
 ·exact runS_uns _ D y
def safeB (N : Nat) (b : List UInt8) : Prop := ∀ m L t, plV b = some (m, L, t) → m < N
theorem safeB.mono {N M : Nat} {b : List UInt8} (h : safeB N b) (hM : N ≤ M) : safeB M b := fun m L t e => Nat.lt_of_lt_of_le (h m L t e) hM
theorem plV_take {b : List UInt8} (h : b.take 4 ≠ planM) : plV b = none := plV_none fun k => h k.2.2.2.2.1
theorem safeB_take {N : Nat} {b : List UInt8} (h : b.take 4 ≠ planM) : safeB N b := fun m L t e => by rw [plV_take h] at e; cases e
theorem zB_take : zB512.take 4 ≠ planM := by decide
theorem trV_safe {N : Nat} {bs : List (List UInt8)} (h : ∀ b ∈ bs, safeB N b) : trV N bs = none := by
 cases bs with
 | nil => exact trV_nil N
 | cons b r =>
  cases hp : plV ((b :: r).headD []) with
  | none => exact trV_none hp
  | some q =>
   obtain ⟨m, L, t⟩ := q
   have := h b List.mem_cons_self m L t hp
   exact trV_no hp fun k => by have := k.1; omega
theorem trV_zero {N : Nat} {bs : List (List UInt8)} (h : ∀ b ∈ bs, b = zB512) : trV N bs = none := trV_safe fun b hb => by rw [h b hb]; exact safeB_take zB_take
end
section
open Go.RowKit
set_option maxRecDepth 100000
def appM (D : DkM) (J : JrM) (rs : List (Int × List UInt8)) : Int × DkM × JrM :=
 if J.bad = true then (102, D, J) else if ¬ rcOk J.num rs then (1, D, J) else if jMay D.sure.length J rs = false then (1, D, J) else if J.most < rs.length then (3, D, J) else if J.room < rs.length then (2, D, J) else
  ((runS D (appS (J.first + 1 + J.used) (blkL J.num rs) (doneB J.num (blkL J.num rs).flatten))).1, (runS D (appS (J.first + 1 + J.used) (blkL J.num rs) (doneB J.num (blkL J.num rs).flatten))).2,
   if (runS D (appS (J.first + 1 + J.used) (blkL J.num rs) (doneB J.num (blkL J.num rs).flatten))).1 = 0 then { J with used := J.used + ((rs.length + 2 : Nat) : Int), num := (J.num + 1) % 18446744073709551616 } else { J with bad := true })
def JrM.next (J : JrM) : Nat := if J.begun = true then J.num else if J.num = 0 then 0 else if (J.num + J.count.toNat) % 18446744073709551616 < J.num then 0 else (J.num + J.count.toNat) % 18446744073709551616
def resM (D : DkM) (J : JrM) : Int × DkM × JrM :=
 if J.bad = true then (102, D, J) else ((mkE D J.first J.next).1, (mkE D J.first J.next).2, if (mkE D J.first J.next).1 = 0 then { J with num := J.next, used := 0, begun := true } else { J with bad := true })
end
end Go.Proofs.YtbanogfljpkbkaaGreatDoor
