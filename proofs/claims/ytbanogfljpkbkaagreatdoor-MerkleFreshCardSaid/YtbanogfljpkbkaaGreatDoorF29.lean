/-
  Texts of this claim, one behind the other: TreB.
-/
import Derived.Test.YtbanogfljpkbkaaGreatDoorF28
import Derived.Test.YtbanogfljpkbkaaGreatDoorF21
set_option linter.unusedSimpArgs false
set_option linter.unusedVariables false
set_option linter.unnecessarySimpa false
namespace Go.Proofs.YtbanogfljpkbkaaGreatDoor
section
open Go.RowKit
set_option maxRecDepth 100000
theorem slA : SlT Tryz.prog 48 39 32 32 (.agg (bvs (zB 32)).toArray) := ⟨Tryz.underlying48, by kernel_rfl, by rw [show (Value.agg (bvs (zB 32)).toArray).cells = (bvs (zB 32)).toArray from rfl]; decide, by decide, by decide⟩
theorem slBBB : SlT Tryz.prog 50 42 1 24 (.slice none 0 0) := ⟨Tryz.underlying50, by kernel_rfl, rfl, by decide, by decide⟩
structure BBRow (w : World) (B : Nat) (v : Value) (us : List Value) (ls : List (List (List UInt8))) : Prop where
 row : Row w B 42 1 v ls.length us
 each : ∀ k (h : k < us.length) (h' : k < ls.length), ∃ vs, BRow w B us[k] vs ls[k]
theorem BBRow.nil (w : World) (B : Nat) : BBRow w B (.slice none 0 0) [] [] := ⟨Row.nil _ _ _ _, fun i h => by simp at h⟩
theorem BBRow.len {w : World} {B : Nat} {v : Value} {us : List Value} {ls : List (List (List UInt8))} (h : BBRow w B v us ls) : us.length = ls.length := by have := h.row.1; omega
theorem BBRow.keepT {w w' : World} {F : List Nat} {B : Nat} {v : Value} {us : List Value} {ls : List (List (List UInt8))} (h : BBRow w B v us ls) (f : Fr F w w') (h0 : NoTy w F 42) (h1 : NoTy w F 27) (h2 : NoTy w F 5) : BBRow w' B v us ls :=
 ⟨h.row.keepT f h0, fun k a b => by obtain ⟨vs, hv⟩ := h.each k a b; exact ⟨vs, hv.keepT f h1 h2⟩⟩
theorem BBRow.keep_nil {w w' : World} {B : Nat} {v : Value} {us : List Value} {ls : List (List (List UInt8))} (h : BBRow w B v us ls) (f : Fr [] w w') : BBRow w' B v us ls := h.keepT f (NoTy.nil _ _) (NoTy.nil _ _) (NoTy.nil _ _)
theorem BBRow.mono {w : World} {B B' : Nat} {v : Value} {us : List Value} {ls : List (List (List UInt8))} (h : BBRow w B v us ls) (hB : B' ≤ B) : BBRow w B' v us ls := ⟨h.row.mono hB, fun k a b => by obtain ⟨vs, hv⟩ := h.each k a b; exact ⟨vs, hv.mono hB⟩⟩
theorem BBRow.snoc {w w' : World} {B : Nat} {v v' u : Value} {us : List Value} {ls : List (List (List UInt8))} {vs : List Value} {l : List (List UInt8)} (h : BBRow w B v us ls) (hu : BRow w B u vs l) (f : Fr v.ownBlock.toList w w') (hr : Row w' B 42 1 v' (ls.length + 1) (us ++ [u])) : BBRow w' B v' (us ++ [u]) (ls ++ [l]) := by
 have hl := h.len
 have n1 := h.row.noTy (show 42 ≠ 27 by decide)
 have n2 := h.row.noTy (show 42 ≠ 5 by decide)
 refine ⟨by rw [List.length_append]; exact hr, fun i h1 h2 => ?_⟩
 by_cases hi : i < us.length
 ·rw [List.getElem_append_left hi, List.getElem_append_left (by omega)]
  obtain ⟨vs', hv⟩ := h.each i hi (by omega)
  exact ⟨vs', hv.keepT f n1 n2⟩
 ·have hiv : i = us.length := by rw [List.length_append, List.length_singleton] at h1; omega
  subst hiv
  have e1 : (us ++ [u])[us.length] = u := by rw [List.getElem_append_right (Nat.le_refl _)]; simp
  have e2 : (ls ++ [l])[us.length] = l := by rw [List.getElem_append_right (by omega)]; simp [hl]
  rw [e1, e2]
  exact ⟨vs, hu.keepT f n1 n2⟩
theorem nodeB_zero : bvs (nodeB []) = List.replicate 512 (Value.int .u8 0) := by
 have := zeros_row 512
 simpa [nodeB] using this
theorem nodeB_step {l : List (List UInt8)} {c : Nat} (h : ∀ x ∈ l, x.length = 32) (hc : c < l.length) (h16 : c < 16) : setP (nodeB (l.take c)) (32 * c) l[c] 32 = nodeB (l.take (c + 1)) := by
 have hd : l[c].length = 32 := h _ (List.getElem_mem hc)
 have ht : ∀ x ∈ l.take c, x.length = 32 := fun x hx => h x (List.mem_of_mem_take hx)
 have hl : (l.take c).length = c := by rw [List.length_take]; omega
 have hf : (l.take c).flatten.length = 32 * c := by rw [flat_len _ ht, hl]
 have := setP_all (b := nodeB (l.take c)) (a := 32 * c) (d := l[c])
 rw [hd] at this
 rw [this]
 unfold nodeB
 rw [List.take_left' hf, List.drop_append, List.drop_eq_nil_of_le (by omega), List.nil_append, hf, hl, List.drop_replicate, List.take_succ_eq_append_getElem hc, List.flatten_append, List.length_append, hl]
 simp only [List.flatten_cons, List.flatten_nil, List.append_nil, List.length_cons, List.length_nil]
 congr 2
 omega
theorem flat_at {l : List (List UInt8)} (h : ∀ x ∈ l, x.length = 32) {j m : Nat} (hj : j < l.length) (hm : m < 32) : (bvs l.flatten)[j * 32 + m]? = some (.int .u8 ((l[j].getD m 0).toNat : Int)) := by
 have hd : l[j].length = 32 := h _ (List.getElem_mem hj)
 have e : l.flatten.drop (32 * j) = (l.drop j).flatten := flat_drop l j h (by omega)
 have e2 : l.flatten[32 * j + m]? = (l.drop j).flatten[m]? := by rw [← e, List.getElem?_drop]
 rw [Nat.mul_comm j 32, bvs, List.getElem?_map, e2, List.drop_eq_getElem_cons hj, List.flatten_cons, List.getElem?_append_left (by omega), List.getElem?_eq_getElem (by omega)]
 simp [bv, List.getD_eq_getElem?_getD, hd, hm]
def hvK (hs : List (List UInt8)) : Nat → List (List UInt8)
 | 0 => hs
 | k + 1 => (lev1 (hvK hs k)).map (nodeH (UInt8.ofNat k))
theorem hvK_len (hs : List (List UInt8)) : ∀ k, (hvK hs (k + 1)).length = upN (hvK hs k).length := fun k => by rw [hvK, List.length_map, lev1_len]
theorem hvK_32 {hs : List (List UInt8)} (h : ∀ x ∈ hs, x.length = 32) : ∀ k, ∀ x ∈ hvK hs k, x.length = 32
 | 0 => h
 | k + 1 => fun x hx => by obtain ⟨y, -, rfl⟩ := List.mem_map.1 hx; exact shaSum_length _
theorem bldN_at {hs : List (List UInt8)} {k : Nat} (hn : 1 ≤ hs.length ∧ hs.length ≤ 128) (hk : k < (levsN hs.length).length) : (bldN hs).take (k + 1) = (bldN hs).take k ++ [lev1 (hvK hs k)] ∧ (levsN hs.length).getD k 0 = upN (hvK hs k).length := by
 rw [levsN_len] at hk
 by_cases h1 : upN hs.length = 1
 ·rw [if_pos h1] at hk
  obtain rfl : k = 0 := by omega
  refine ⟨?_, ?_⟩
  ·rw [bldN, if_pos h1]; rfl
  ·rw [levsN, if_pos h1]; exact h1.symm
 ·rw [if_neg h1] at hk
  rw [bldN, if_neg h1, levsN, if_neg h1]
  match k, hk with
  | 0, _ => exact ⟨rfl, rfl⟩
  | 1, _ => exact ⟨rfl, by show 1 = upN (hvK hs 1).length; rw [hvK_len]; exact (upup hn).symm⟩
theorem bldN_len (hs : List (List UInt8)) : (bldN hs).length = (levsN hs.length).length := by
 unfold bldN levsN; split <;> rfl
def BldC (w : World) (hs : List (List UInt8)) (e : Ending) (w' : World) : Prop :=
 ∃ v us, e = .returned (.tuple #[v, .agg (bvs (bldR hs)).toArray, .int .i64 0]) ∧ BBRow w' w.heap.size v us (bldN hs) ∧ Fr [] w w'
theorem hvK_b {hs : List (List UInt8)} (hn : 1 ≤ hs.length ∧ hs.length ≤ 128) : ∀ k, 1 ≤ (hvK hs k).length ∧ (hvK hs k).length ≤ 128
 | 0 => hn
 | k + 1 => by rw [hvK_len]; have := upN_b (hvK_b hn k); omega
theorem topB_eq {hs : List (List UInt8)} (hn : 1 ≤ hs.length ∧ hs.length ≤ 128) : bldR hs = rootH hs.length (UInt8.ofNat ((levsN hs.length).length - 1)) (((bldN hs).getD ((bldN hs).length - 1) []).getD 0 []) := by
 unfold bldR bldN topB
 rw [levsN_len]
 split <;> rfl
set_option maxHeartbeats 8000000 in
theorem xtBuild_any {w : World} {A : Option Addr} {n c : Nat} {hs : List (List UInt8)} (hn : hs.length = n) (hb : 1 ≤ n ∧ n ≤ 128) (h32 : ∀ x ∈ hs, x.length = 32) (hr : Rd w A (bvs hs.flatten)) :
  Calls Tryz.prog 16 #[.slice A n c] w (BldC w hs) := by
 subst hn
 have c1 := fun w1 => xtLevels_any hs.length w1 hb
 unfold LevC at c1
 have HR := Lib.hid (And.intro hr h32)
 have HL := Lib.hid (levsN_len hs.length)
 have hL1 : 1 ≤ (levsN hs.length).length ∧ (levsN hs.length).length ≤ 2 := by rw [levsN_len]; split <;> omega
 have HA := Lib.hid (fun k hk => bldN_at (hs := hs) (k := k) hb hk)
 have HBL := Lib.hid (bldN_len hs)
 have HT := Lib.hid (topB_eq hb)
 have HHB := Lib.hid (hvK_b hb)
 have HH32 := Lib.hid (hvK_32 h32)
 obtain ⟨N, hN⟩ : ∃ N, hs.length = N := ⟨_, rfl⟩
 obtain ⟨lev, hlev⟩ : ∃ lev, levsN N = lev := ⟨_, rfl⟩
 obtain ⟨L, hL⟩ : ∃ L, lev.length = L := ⟨_, rfl⟩
 rw [hN] at c1 hb HL HA HBL HT hL1 ⊢
 rw [hlev] at c1 HL HA HBL HT hL1
 rw [hL] at c1 HL HA HBL HT hL1
 have HN := Lib.hid (And.intro hN (And.intro hlev hL))
 have d0 : ((L : Int) == 0) = false := by rw [beq_eq_false_iff_ne]; omega
 clear hr h32 hlev hL hN
 go_enter Tryz.func16, Tryz.ntmps16
 go_wp2_with
  (first
   | (refine wpList_alS stA32 (o := ⟨some 3, _, _, _, _, _⟩) rfl rfl ?_; intro w1 h3 f1 z1; have Z1 := Lib.hid z1; clear z1; obtain ⟨g3, hg3⟩ : ∃ g1, w.heap.size = g1 := ⟨_, rfl⟩; rw [hg3] at h3; rw [hg3]; have HG3 := Lib.hid hg3; clear hg3))
 refine (c1 w1).mono ?_
 rintro e w2 ⟨v5, rfl, r5, f2⟩
 obtain ⟨A5, c5, rfl, -, -, -, -, -⟩ := r5.shape
 have F2 := f1.trans_nil f2
 have k3 := h3.keep_nil f2
 clear c1 f1 f2 h3
 have hl3 := k3.lt
 have HZ2 := Lib.hid F2.size
 go_wp2_with fail
 go_loopw [6, 7, 8] (fun v6 v7 t8 wr => ∃ k : Nat, k ≤ L ∧ t8 = .int .i64 k ∧ Fr [] w2 wr ∧ (∃ us, BBRow wr w2.heap.size v6 us ((bldN hs).take k)) ∧ ∃ A7 c7, v7 = .slice A7 (hvK hs k).length c7 ∧ Rd wr A7 (bvs (hvK hs k).flatten)) (fun _ _ t _ => L - (intOf t).toNat)
 case atStart => exact ⟨0, Nat.zero_le _, rfl, Fr.refl _ _, ⟨[], BBRow.nil _ _⟩, A, c, by rw [← HN.out.1]; rfl, HR.out.1.keep_nil F2⟩
 case round =>
  obtain ⟨wo, hwo⟩ : ∃ wo, wo = wr := ⟨_, rfl⟩
  subst hwo
  obtain ⟨k, hk, rfl, F, ⟨us, R6⟩, A7, c7, rfl, R7⟩ := hrel
  have HTL6 := Lib.hid (show ((bldN hs).take k).length = k by rw [List.length_take, HBL.out]; omega)
  have r6 := R6.row
  rw [HTL6.out] at r6
  obtain ⟨A6, c6, rfl, -, -, -, -, -⟩ := r6.shape
  by_cases hlt : k < L
  ·have hvb := HHB.out k
   obtain ⟨ha1, ha2⟩ := HA.out k hlt
   have hv32 := HH32.out k
   obtain ⟨hv, hhv⟩ : ∃ hv, hvK hs k = hv := ⟨_, rfl⟩
   have HNX := Lib.hid (show hvK hs (k + 1) = (lev1 hv).map (nodeH (UInt8.ofNat k)) by rw [hvK, hhv])
   rw [hhv] at hvb ha1 ha2 hv32 R7
   rw [hhv]
   have HU := Lib.hid (upN_b hvb)
   have hU : 1 ≤ upN hv.length ∧ upN hv.length ≤ 8 := HU.out
   have H1L := Lib.hid (lev1_len hv)
   have HAT := Lib.hid (fun k h => lev1_at (hs := hv) k h)
   have HUP := Lib.hid (show upN hv.length = (hv.length + 15) / 16 from rfl)
   obtain ⟨U, hUU⟩ : ∃ U, upN hv.length = U := ⟨_, rfl⟩
   obtain ⟨M, hM⟩ : ∃ M, hv.length = M := ⟨_, rfl⟩
   rw [hUU] at ha2 hU H1L HAT HUP
   rw [hM] at hvb HUP ⊢
   have HM := Lib.hid hM
   have HV := Lib.hid (And.intro hv32 (And.intro ha1 hhv))
   obtain ⟨g5, c5', e5⟩ := r5.hdD (by omega)
   cases e5
   have HC5 := Lib.hid (fun (wx : World) (f : Fr [] w2 wx) => show wx.cell? ⟨g5, k, none⟩ = some (.int .i64 (U : Int)) from by
    obtain ⟨g', o', e', hc⟩ := (r5.keep_nil f).rdD.1 (by intro h0; have := congrArg List.length h0; rw [ivs_len, (HN.out.2.2)] at this; simp at this; omega)
    cases e'
    have hkl : k < lev.length := by rw [HN.out.2.2]; exact hlt
    have := hc k (.int .i64 ((lev[k] : Nat) : Int)) (by simp [ivs, hkl])
    rw [Nat.zero_add] at this
    rw [this, ← ha2, List.getD_eq_getElem?_getD, List.getElem?_eq_getElem hkl]; rfl)
   have HF := Lib.hid (And.intro F (And.intro R6 R7))
   clear hv32 ha1 ha2 hhv hUU hM F R6 R7 r6
   go_wp2_with fail
   go_loopw [9, 10, 11] (fun v9 v10 t wr => ∃ i : Nat, i ≤ U ∧ t = .int .i64 i ∧ (∃ vs, BRow wr wo.heap.size v9 vs ((lev1 hv).take i)) ∧ Row wr wo.heap.size 39 32 v10 i (bvs (((lev1 hv).take i).map (nodeH (UInt8.ofNat k))).flatten) ∧ Fr [] wo wr) (fun _ _ t _ => U - (intOf t).toNat)
   case atStart => exact ⟨0, Nat.zero_le _, rfl, ⟨[], BRow.nil _ _⟩, Row.nil _ _ _ _, Fr.refl _ _⟩
   case round =>
    obtain ⟨w3, hw3⟩ : ∃ w3, w3 = wr := ⟨_, rfl⟩
    subst hw3
    obtain ⟨i, hi, rfl, ⟨vs, R9⟩, R10, F3⟩ := hrel
    have c5 := HC5.out w3 (HF.out.1.trans_nil F3)
    have HTL := Lib.hid (show ((lev1 hv).take i).length = i by rw [List.length_take, H1L.out]; omega)
    have r9 := R9.row
    rw [HTL.out] at r9
    obtain ⟨A9, c9, rfl, -, -, -, -, -⟩ := r9.shape
    obtain ⟨A10, c10, rfl, -, -, -, -, -⟩ := R10.shape
    clear r9
    by_cases hiU : i < U
    ·go_wp2_with (first | (refine wpList_mk1 rfl rfl slB rfl .i64 .i64 _ _ 512 rfl rfl rfl rfl (by omega) ?_; intro w4 k4 r4 f4 z4))
     obtain ⟨gb, hgb⟩ : ∃ gb, w3.heap.size = gb := ⟨_, rfl⟩
     rw [hgb] at r4
     rw [hgb]
     rw [← nodeB_zero] at r4
     have hw3 := F3.size
     have H3 := Lib.hid (And.intro R9 (And.intro R10 (And.intro F3 (And.intro f4 hgb))))
     obtain ⟨l, hl⟩ : ∃ l, (hv.drop (16 * i)).take 16 = l := ⟨_, rfl⟩
     have hll : l.length = min 16 (M - 16 * i) := by rw [← hl, List.length_take, List.length_drop, HM.out]
     have hNB : (lev1 hv).getD i [] = nodeB l := by rw [HAT.out i hiU, hl]
     have hl32 : ∀ x ∈ l, x.length = 32 := by rw [← hl]; exact chunk_mem HV.out.1 i
     have hlx : ∀ (c : Nat) (h : c < l.length) (h' : 16 * i + c < hv.length), l[c] = hv[16 * i + c] := fun c h h' => by
      subst hl
      simp
     obtain ⟨Ec, hE⟩ : ∃ Ec, l.length = Ec := ⟨_, rfl⟩
     rw [hE] at hll
     have HLL := Lib.hid (And.intro hE (And.intro hNB (And.intro hl32 hlx)))
     obtain ⟨g7, o7, rfl, hlt7⟩ := HF.out.2.2.lt (by intro h0; have := congrArg List.length h0; rw [bvs_length, flat_len hv HV.out.1, HM.out] at this; simp at this; omega)
     have g7b : g7 ≠ gb := by omega
     have HCX := Lib.hid (fun (wx : World) (fx : Fr [gb] w4 wx) (j m : Nat) (hj : j < hv.length) (hm : m < 32) => show wx.cell? ⟨g7, o7 + j * 32 + m, none⟩ = some (.int .u8 ((hv[j].getD m 0).toNat : Int)) from by
      obtain ⟨g', o', e', hc⟩ := (((HF.out.2.2.keep_nil H3.out.2.2.1).keep_nil H3.out.2.2.2.1).keep fx (fun g o e => by cases e; simpa using g7b)) (by intro h0; have := congrArg List.length h0; rw [bvs_length, flat_len hv HV.out.1, HM.out] at this; simp at this; omega)
      cases e'
      rw [Nat.add_assoc]
      exact hc _ _ (flat_at HV.out.1 hj hm))
     clear R9 R10 F3 f4 hgb hl hE hNB hl32 hlx z4 k4 hlt7 c5
     have HQ0 := Lib.hid r4
     clear r4
     go_wp2_with fail
     go_loopw [13] (fun t wr => ∃ c : Nat, c ≤ Ec ∧ t = .int .i64 c ∧ Row wr gb 5 1 (.slice (some ⟨gb, 0, none⟩) 512 512) 512 (bvs (nodeB (l.take c))) ∧ Fr [gb] w4 wr) (fun t _ => Ec - (intOf t).toNat)
     case atStart => exact ⟨0, Nat.zero_le _, rfl, HQ0.out, Fr.refl _ _⟩
     case round =>
      clear HQ0
      obtain ⟨w5, hw5⟩ : ∃ w5, w5 = wr := ⟨_, rfl⟩
      subst hw5
      obtain ⟨q, hq, rfl, rq, fq⟩ := hrel
      obtain ⟨j, hj⟩ : ∃ j, 16 * i + q = j := ⟨_, rfl⟩
      have EJ : 16 * (i : Int) + (q : Int) = (j : Int) := by omega
      by_cases hqE : q < Ec
      ·have hq16 : (q : Int) < 16 := by omega
       have hjM : j < M := by omega
       have HQ := Lib.hid rq
       clear rq
       go_wp2_with fail
       have hql : q < l.length := by rw [HLL.out.1]; exact hqE
       have hjl : j < hv.length := by rw [HM.out]; exact hjM
       obtain ⟨d, hd⟩ : ∃ d, l[q] = d := ⟨_, rfl⟩
       have hdj : hv[j] = d := by rw [← hd, HLL.out.2.2.2 q hql (by rw [hj]; exact hjl)]; congr 1; exact hj.symm
       have hdl : d.length = 32 := by rw [← hd]; exact HLL.out.2.2.1 _ (List.getElem_mem hql)
       have hst := nodeB_step HLL.out.2.2.1 hql (by omega)
       rw [hd] at hst
       have hn5 : (nodeB (l.take q)).length = 512 := nodeB_len (fun x hx => HLL.out.2.2.1 x (List.mem_of_mem_take hx)) (by rw [List.length_take]; omega)
       have HST := Lib.hid (And.intro hst (And.intro hdl hn5))
       have HCD := Lib.hid (fun (wx : World) (fx : Fr [gb] w4 wx) (m : Nat) (hm : m < 32) => show wx.cell? ⟨g7, o7 + j * 32 + m, none⟩ = some (.int .u8 ((d.getD m 0).toNat : Int)) from by rw [← hdj]; exact HCX.out wx fx j m hjl hm)
       have HQ1 := HQ.out
       rw [← setP_zero (nodeB (l.take q)) (32 * q) d] at HQ1
       have HQ2 := Lib.hid (And.intro HQ1 fq)
       clear hql hjl hd hdj hdl hst hn5 HQ1 HQ fq
       go_loopw [14] (fun t wr => ∃ m : Nat, m ≤ 32 ∧ t = .int .i64 m ∧ Row wr gb 5 1 (.slice (some ⟨gb, 0, none⟩) 512 512) 512 (bvs (setP (nodeB (l.take q)) (32 * q) d m)) ∧ Fr [gb] w4 wr) (fun t _ => 32 - (intOf t).toNat)
       case atStart => exact ⟨0, by omega, rfl, HQ2.out.1, HQ2.out.2⟩
       case round =>
        clear HQ2
        obtain ⟨m, hm, rfl, rm, fm⟩ := hrel
        by_cases hm2 : m < 32
        ·have cx := HCD.out wr fm m hm2
         obtain ⟨p, hp⟩ : ∃ p, 32 * q + m = p := ⟨_, rfl⟩
         have EP : 32 * (q : Int) + (m : Int) = (p : Int) := by omega
         have hp512 : p < 512 := by omega
         have hs := setP_succ (b := nodeB (l.take q)) (d := d) (a := 32 * q) (q := m) (by rw [HST.out.2.1]; exact hm2) (by rw [HST.out.2.2]; omega)
         have hdx : d.getD m 0 = d[m]'(by rw [HST.out.2.1]; exact hm2) := by rw [List.getD_eq_getElem?_getD, List.getElem?_eq_getElem (by rw [HST.out.2.1]; exact hm2)]; rfl
         rw [← hdx, hp] at hs
         obtain ⟨x, hx⟩ : ∃ x, d.getD m 0 = x := ⟨_, rfl⟩
         rw [hx] at hs cx
         obtain ⟨c1, z1, r1⟩ := rm.setD p hp512 (.int .u8 (x.toNat : Int))
         rw [List.getElem?_eq_getElem (by have := rm.1; omega)] at c1
         rw [show (bvs (setP (nodeB (l.take q)) (32 * q) d m)).set p (.int .u8 (x.toNat : Int)) = bvs ((setP (nodeB (l.take q)) (32 * q) d m).set p x) by simp [bvs, bv, List.map_set], hs] at r1
         have fz : Fr [gb] w4 (wr.setCell ⟨gb, p, none⟩ (.int .u8 (x.toNat : Int))) := fm.setCell (.inl (by simp)) _
         have H1 := Lib.hid (And.intro r1 fz)
         obtain ⟨u, hu⟩ : ∃ u : Value, (bvs (setP (nodeB (l.take q)) (32 * q) d m))[p]'(by have := rm.1; omega) = u := ⟨_, rfl⟩
         rw [hu] at c1
         obtain ⟨y, hy⟩ : ∃ y, (x.toNat : Int) = y := ⟨_, rfl⟩
         rw [hy] at cx H1
         clear r1 fz hs hdx hx rm fm hu hy hp
         go_wp2_with fail
         exact ⟨⟨m + 1, by omega, by go_num, H1.out.1, H1.out.2⟩, by simp [intOf]; omega⟩
        ·obtain rfl : m = 32 := by omega
         rw [HST.out.1] at rm
         have H1 := Lib.hid (And.intro rm fm)
         clear rm fm
         go_wp2_with fail
         exact ⟨⟨q + 1, by omega, by go_num, H1.out.1, H1.out.2⟩, by simp [intOf]; omega⟩
      ·obtain rfl : q = Ec := by omega
       rw [List.take_of_length_le (by rw [HLL.out.1]; exact Nat.le_refl _), ← HLL.out.2.1] at rq
       obtain ⟨R9, R10, F3, f4, hgb⟩ := H3.out
       have fw5 : Fr [gb] w3 w5 := (f4.mono (by simp)).trans fq (fun i hi => .inl hi)
       have hno : ∀ e, NoTy w3 [gb] e := fun e i hi cs fz => by
        rw [List.mem_singleton.1 hi, Array.getElem?_eq_none (by omega)]; intro h; cases h
       replace R9 := R9.keepT fw5 (hno _) (hno _)
       replace R10 := R10.keepT fw5 (hno _)
       have F5 : Fr [] wo w5 := F3.trans fw5 (fun i hi => .inr (by rw [List.mem_singleton.1 hi]; have := F3.size; omega))
       obtain ⟨b, hb⟩ : ∃ b, (lev1 hv).getD i [] = b := ⟨_, rfl⟩
       have hbi : (lev1 hv)[i]'(by rw [H1L.out]; exact hiU) = b := by rw [← hb, List.getD_eq_getElem?_getD, List.getElem?_eq_getElem (by rw [H1L.out]; exact hiU)]; rfl
       have htk : (lev1 hv).take (i + 1) = (lev1 hv).take i ++ [b] := by rw [List.take_succ_eq_append_getElem (by rw [H1L.out]; exact hiU), hbi]
       have HTK := Lib.hid (And.intro htk (show (((lev1 hv).take (i + 1)).map (nodeH (UInt8.ofNat k))).flatten = (((lev1 hv).take i).map (nodeH (UInt8.ofNat k))).flatten ++ nodeH (UInt8.ofNat k) b by rw [htk]; simp))
       rw [hb] at rq
       have HB5 := Lib.hid (show b.length = 512 by rw [← hb]; exact lev1_getD_512 HV.out.1 (by rw [H1L.out.symm.trans (lev1_len hv)] at hiU; exact hiU))
       have r9 := R9.row
       rw [HTL.out] at r9
       have hw5 := F5.size
       have hwo := HF.out.1.size
       have F3s := F3.size
       have HGB := Lib.hid (show wo.heap.size ≤ gb by rw [← hgb]; exact F3s)
       have H5 := Lib.hid (And.intro R9 (And.intro R10 (And.intro rq F5)))
       clear R9 R10 rq fq F3 f4 fw5 hno F5 hb hbi htk hgb
       by_cases h16 : q = 16
       ·clear EJ hj hll
        subst h16
        rw [show ((16 : Nat) : Int) = 16 from rfl]
        as_aux_lemma =>
         go_wp2_with (at_builtin; refine wpList_app rfl rfl slBB wo.heap.size _ i vs rfl (r9.alloc _) _ 1 1 [_] rfl rfl (Rd.one _ _ _) (by intro u hu; rw [List.mem_singleton.1 hu]; rfl) (fun h => by cases h) (by omega) (by simp; omega) ?_; intro v7 wx q1 q2 q3 q4)
         obtain ⟨R9, R10, rb, F5⟩ := H5.out
         have fa : Fr [] w5 (w5.alloc (.cells #[.slice (some ⟨gb, 0, none⟩) 512 512] 27)) := (Fr.refl [] w5).alloc _
         replace q2 : Fr (Value.slice A9 i c9).ownBlock.toList (w5.alloc (.cells #[.slice (some ⟨gb, 0, none⟩) 512 512] 27)) wx := q2
         have nb : NoTy (w5.alloc (.cells #[.slice (some ⟨gb, 0, none⟩) 512 512] 27)) (Value.slice A9 i c9).ownBlock.toList 5 := (r9.alloc _).noTy (by decide)
         have na : NoTy (w5.alloc (.cells #[.slice (some ⟨gb, 0, none⟩) 512 512] 27)) (Value.slice A9 i c9).ownBlock.toList 39 := (r9.alloc _).noTy (by decide)
         have hgbw : wo.heap.size ≤ gb := HGB.out
         have R9x := (R9.keep_nil fa).snoc (b := b) (by rw [HB5.out]; exact (rb.keep_nil fa).mono hgbw) q2 (by rw [HTL.out]; exact q1)
         rw [← HTK.out.1] at R9x
         have rx := (rb.keep_nil fa).keepT q2 nb
         have R10x := (R10.keep_nil fa).keepT q2 na
         have Fx : Fr [] wo wx := (F5.trans_nil fa).trans q2 (fun g hg => .inr (r9.lt g (mem_own.1 hg)).1)
         have cn := xtNode_any k (by omega) (some ⟨gb, 0, none⟩) b 512 512 wx HB5.out rx.rdD.1 (by simp) (by omega)
         obtain ⟨dg, hdg⟩ : ∃ dg, nodeH (UInt8.ofNat k) b = dg := ⟨_, rfl⟩
         rw [hdg] at cn
         have HDG := Lib.hid (And.intro hdg (show dg.length = 32 by rw [← hdg]; exact shaSum_length _))
         obtain ⟨A7x, c7x, rfl, -, -, -, -, -⟩ := q1.shape
         have HX := Lib.hid (And.intro R9x Fx)
         clear R9 R10 rb F5 fa nb na R9x rx Fx q1 q2 q3 q4 hdg r9 H5
         refine cn.mono ?_
         rintro e w9 ⟨rfl, f9⟩
         have R10y := R10x.keep_nil f9
         have hFy := (HX.out.2.trans_nil f9).size
         have HXX := Lib.hid f9
         clear cn R10x f9
         go_wp2_with
          (first
           | (refine wpList_bs1 stA32 Tryz.underlying48 (by omega) (by decide) rfl rfl (bvs dg) rfl (by rw [bvs_length, HDG.out.2]) ?_; intro w10 b10 f10 z10; have Z10 := Lib.hid z10; clear z10)
           | (at_builtin; refine wpList_app rfl rfl slA wo.heap.size _ i _ rfl (R10y.keep_nil f10) _ 1 1 (bvs dg) rfl (by rw [bvs_length, HDG.out.2]) (Rd.of_blk b10 0 _ (fun j u hu => by rw [Nat.zero_add]; simpa using hu)) (bvs_one _) (by simp) (by omega) (by have := f10.size; omega) ?_; intro v11 w11 p1 p2 p3 p4))
         obtain ⟨R9x, Fx⟩ := HX.out
         have f1a := HXX.out.trans_nil f10
         have n1 := (R10y.keep_nil f10).noTy (show 39 ≠ 27 by decide)
         have n2 := (R10y.keep_nil f10).noTy (show 39 ≠ 5 by decide)
         rw [← bvs_append, ← HDG.out.1, ← HTK.out.2] at p1
         exact ⟨⟨i + 1, by omega, by go_num, ⟨_, (R9x.keep_nil f1a).keepT p2 n1 n2⟩, p1, (Fx.trans_nil f1a).trans p2 (fun g hg => .inr ((R10y.keep_nil f10).lt g (mem_own.1 hg)).1)⟩, by simp [intOf]; omega⟩
       ·have hq16 : (q : Int) < 16 := by omega
        have hjM : ¬ j < M := by omega
        clear hll
        as_aux_lemma =>
         go_wp2_with (at_builtin; refine wpList_app rfl rfl slBB wo.heap.size _ i vs rfl (r9.alloc _) _ 1 1 [_] rfl rfl (Rd.one _ _ _) (by intro u hu; rw [List.mem_singleton.1 hu]; rfl) (fun h => by cases h) (by omega) (by simp; omega) ?_; intro v7 wx q1 q2 q3 q4)
         obtain ⟨R9, R10, rb, F5⟩ := H5.out
         have fa : Fr [] w5 (w5.alloc (.cells #[.slice (some ⟨gb, 0, none⟩) 512 512] 27)) := (Fr.refl [] w5).alloc _
         replace q2 : Fr (Value.slice A9 i c9).ownBlock.toList (w5.alloc (.cells #[.slice (some ⟨gb, 0, none⟩) 512 512] 27)) wx := q2
         have nb : NoTy (w5.alloc (.cells #[.slice (some ⟨gb, 0, none⟩) 512 512] 27)) (Value.slice A9 i c9).ownBlock.toList 5 := (r9.alloc _).noTy (by decide)
         have na : NoTy (w5.alloc (.cells #[.slice (some ⟨gb, 0, none⟩) 512 512] 27)) (Value.slice A9 i c9).ownBlock.toList 39 := (r9.alloc _).noTy (by decide)
         have hgbw : wo.heap.size ≤ gb := HGB.out
         have R9x := (R9.keep_nil fa).snoc (b := b) (by rw [HB5.out]; exact (rb.keep_nil fa).mono hgbw) q2 (by rw [HTL.out]; exact q1)
         rw [← HTK.out.1] at R9x
         have rx := (rb.keep_nil fa).keepT q2 nb
         have R10x := (R10.keep_nil fa).keepT q2 na
         have Fx : Fr [] wo wx := (F5.trans_nil fa).trans q2 (fun g hg => .inr (r9.lt g (mem_own.1 hg)).1)
         have cn := xtNode_any k (by omega) (some ⟨gb, 0, none⟩) b 512 512 wx HB5.out rx.rdD.1 (by simp) (by omega)
         obtain ⟨dg, hdg⟩ : ∃ dg, nodeH (UInt8.ofNat k) b = dg := ⟨_, rfl⟩
         rw [hdg] at cn
         have HDG := Lib.hid (And.intro hdg (show dg.length = 32 by rw [← hdg]; exact shaSum_length _))
         obtain ⟨A7x, c7x, rfl, -, -, -, -, -⟩ := q1.shape
         have HX := Lib.hid (And.intro R9x Fx)
         clear R9 R10 rb F5 fa nb na R9x rx Fx q1 q2 q3 q4 hdg r9 H5
         refine cn.mono ?_
         rintro e w9 ⟨rfl, f9⟩
         have R10y := R10x.keep_nil f9
         have hFy := (HX.out.2.trans_nil f9).size
         have HXX := Lib.hid f9
         clear cn R10x f9
         go_wp2_with
          (first
           | (refine wpList_bs1 stA32 Tryz.underlying48 (by omega) (by decide) rfl rfl (bvs dg) rfl (by rw [bvs_length, HDG.out.2]) ?_; intro w10 b10 f10 z10; have Z10 := Lib.hid z10; clear z10)
           | (at_builtin; refine wpList_app rfl rfl slA wo.heap.size _ i _ rfl (R10y.keep_nil f10) _ 1 1 (bvs dg) rfl (by rw [bvs_length, HDG.out.2]) (Rd.of_blk b10 0 _ (fun j u hu => by rw [Nat.zero_add]; simpa using hu)) (bvs_one _) (by simp) (by omega) (by have := f10.size; omega) ?_; intro v11 w11 p1 p2 p3 p4))
         obtain ⟨R9x, Fx⟩ := HX.out
         have f1a := HXX.out.trans_nil f10
         have n1 := (R10y.keep_nil f10).noTy (show 39 ≠ 27 by decide)
         have n2 := (R10y.keep_nil f10).noTy (show 39 ≠ 5 by decide)
         rw [← bvs_append, ← HDG.out.1, ← HTK.out.2] at p1
         exact ⟨⟨i + 1, by omega, by go_num, ⟨_, (R9x.keep_nil f1a).keepT p2 n1 n2⟩, p1, (Fx.trans_nil f1a).trans p2 (fun g hg => .inr ((R10y.keep_nil f10).lt g (mem_own.1 hg)).1)⟩, by simp [intOf]; omega⟩
    ·obtain rfl : i = U := by omega
     have hall : (lev1 hv).take i = lev1 hv := List.take_of_length_le (by rw [H1L.out]; exact Nat.le_refl _)
     rw [hall] at R9 R10
     rw [← HNX.out] at R10
     have HLN := Lib.hid (show (hvK hs (k + 1)).length = i by rw [HNX.out, List.length_map, H1L.out])
     obtain ⟨F, R6, -⟩ := HF.out
     replace R6 := R6.keep_nil F3
     have r6 := R6.row
     rw [HTL6.out] at r6
     have hwo := F.size
     have hw3 := F3.size
     have hF2 := HZ2.out
     have H3 := Lib.hid (And.intro R9 (And.intro R10 (And.intro R6 (F.trans_nil F3))))
     clear R9 R10 R6 F F3 hall
     go_wp2_with (at_builtin; refine wpList_app rfl rfl slBBB w2.heap.size _ k us rfl (r6.alloc _) _ 1 1 [_] rfl rfl (Rd.one _ _ _) (by intro u hu; rw [List.mem_singleton.1 hu]; rfl) (fun h => by cases h) (by omega) (by simp; omega) ?_; intro v7 wx q1 q2 q3 q4)
     obtain ⟨R9, R10, R6, F3⟩ := H3.out
     have fa : Fr [] w3 (w3.alloc (.cells #[.slice A9 i c9] 42)) := (Fr.refl [] w3).alloc _
     replace q2 : Fr (Value.slice A6 k c6).ownBlock.toList (w3.alloc (.cells #[.slice A9 i c9] 42)) wx := q2
     have na : NoTy (w3.alloc (.cells #[.slice A9 i c9] 42)) (Value.slice A6 k c6).ownBlock.toList 39 := (r6.alloc _).noTy (by decide)
     have R6x := (R6.keep_nil fa).snoc ((R9.keep_nil fa).mono (by omega)) q2 (by rw [HTL6.out]; exact q1)
     rw [← HV.out.2.1] at R6x
     have R10x := (R10.keep_nil fa).keepT q2 na
     exact ⟨⟨k + 1, by omega, by go_num, (F3.trans_nil fa).trans q2 (fun g hg => .inr (r6.lt g (mem_own.1 hg)).1), ⟨_, R6x⟩, A10, c10, by rw [HLN.out], R10x.rdD.1⟩, by simp [intOf]; omega⟩
  ·obtain rfl : k = L := by omega
   obtain ⟨q, hq⟩ : ∃ q, k = q + 1 := ⟨k - 1, by omega⟩
   have hqk : q < k := by omega
   obtain ⟨ha1, -⟩ := HA.out q hqk
   have hlq : lev1 (hvK hs q) = (bldN hs).getD q [] := by
    have hbl := HBL.out
    have := congrArg (fun l => l[q]?) ha1
    simp only [List.getElem?_take] at this
    rw [if_pos (by omega), List.getElem?_append_right (by rw [List.length_take]; omega)] at this
    rw [List.getD_eq_getElem?_getD, this, List.length_take, show q - min q (bldN hs).length = 0 by omega]
    rfl
   have hu := upN_b (HHB.out q)
   have h5 : (((bldN hs).getD q []).getD 0 []).length = 512 := by rw [← hlq]; exact lev1_getD_512 (HH32.out q) (by omega)
   have htop := HT.out
   rw [HBL.out, show k - 1 = q by omega] at htop
   rw [List.take_of_length_le (by rw [HBL.out]; exact Nat.le_refl _)] at R6
   have hul := R6.len
   rw [HBL.out] at hul
   obtain ⟨g6, c6', e6⟩ := r6.hdD (by omega)
   cases e6
   obtain ⟨vs, hvs⟩ := R6.each q (by omega) (by rw [HBL.out]; omega)
   have hbq : (bldN hs)[q]'(by rw [HBL.out]; omega) = (bldN hs).getD q [] := by rw [List.getD_eq_getElem?_getD, List.getElem?_eq_getElem (by rw [HBL.out]; omega)]; rfl
   rw [hbq] at hvs
   have hll : 0 < ((bldN hs).getD q []).length := by rw [← hlq, lev1_len]; omega
   have hvl := hvs.vlen
   obtain ⟨g9, c9, e9⟩ := hvs.row.hdD hll
   have hb0 := hvs.each 0 (by omega) hll
   have hb0e : ((bldN hs).getD q [])[0]'hll = ((bldN hs).getD q []).getD 0 [] := by rw [List.getD_eq_getElem?_getD (l := (bldN hs).getD q []), List.getElem?_eq_getElem hll]; rfl
   rw [hb0e] at hb0
   obtain ⟨b, hb⟩ : ∃ b, ((bldN hs).getD q []).getD 0 [] = b := ⟨_, rfl⟩
   rw [hb] at h5 htop hb0
   rw [h5] at hb0
   obtain ⟨gb, cb, eb⟩ := hb0.hdD (by omega)
   rw [eb] at hb0
   have rdb := hb0.rdD.1
   have c6q : wo.cell? ⟨g6, q, none⟩ = some us[q] := by
    obtain ⟨g', o', e', hc⟩ := R6.row.rdD.1 (by intro h0; rw [h0] at hul; simp at hul; omega)
    cases e'
    have := hc q _ (List.getElem?_eq_getElem (by omega))
    rwa [Nat.zero_add] at this
   have hvr := hvs.row
   rw [e9] at c6q hvr
   have c90 : wo.cell? ⟨g9, 0, none⟩ = some vs[0] := by
    obtain ⟨g', o', e', hc⟩ := hvr.rdD.1 (by intro h0; rw [h0, List.length_nil] at hvl; omega)
    cases e'
    have := hc 0 _ (List.getElem?_eq_getElem (by omega))
    rwa [Nat.zero_add] at this
   rw [eb] at c90
   obtain ⟨m9, hm9⟩ : ∃ m, ((bldN hs).getD q []).length = m := ⟨_, rfl⟩
   rw [hm9] at c6q hll
   have cc := xtTop_any N q (by omega) (by omega) (some ⟨gb, 0, none⟩) b 512 cb wo h5 rdb (by simp) (by omega)
   obtain ⟨D, hD⟩ : ∃ D, bldR hs = D := ⟨_, rfl⟩
   rw [hD] at htop
   rw [← htop] at cc
   have HDD := Lib.hid (And.intro hD (show D.length = 32 by rw [← hD]; exact shaSum_length _))
   have HR6 := Lib.hid (And.intro R6 F)
   replace k3 := k3.keep_nil F
   have hw2 := HZ2.out
   have F' := F2.trans_nil F
   clear ha1 hlq hu h5 htop hul hvs hbq hvl e9 hb0 hb0e hb eb rdb hvr hm9 hD R6 F r6
   subst hq
   go_wp2_with fail
   refine cc.mono ?_
   rintro e w3 ⟨rfl, f3⟩
   have k3' := k3.keep_nil f3
   have HNO := Lib.hid (And.intro (k3.noTyOf (show 39 ≠ 42 by decide)) (And.intro (k3.noTyOf (show 39 ≠ 27 by decide)) (k3.noTyOf (show 39 ≠ 5 by decide))))
   have HF3 := Lib.hid f3
   clear cc c6q c90 k3 f3
   go_wp2_with
    (first
     | (refine wpList_stB stA32 rfl rfl g3 rfl (bvs D) rfl (by rw [bvs_length, HDD.out.2]) (bvs_one _) (bvs (zB 32)) rfl k3' ?_; intro wc hc fc zc; clear zc))
   try simp only [Exit.inBlock, Exit.then]
   refine bodyPost_ret (results_tct stA32 rfl rfl (by rw [bvs_length, HDD.out.2]) hc) rfl ?_
   obtain ⟨R6, F⟩ := HR6.out
   have fx : Fr [g3] wo wc := (HF3.out.mono (by simp)).trans fc (fun i hi => .inl hi)
   have R6w := R6.keepT fx HNO.out.1 HNO.out.2.1 HNO.out.2.2
   exact ⟨_, us, by rw [HDD.out.1]; rfl, R6w.mono (by omega), (F'.trans fx (fun i hi => .inr (by rw [List.mem_singleton.1 hi]; have := HG3.out; omega)))⟩
end
end Go.Proofs.YtbanogfljpkbkaaGreatDoor
