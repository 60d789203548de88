/-
  Texts of this claim, one behind the other: MerB, MerD, MerG.
-/
import Derived.Test.YtbanogfljpkbkaaGreatDoorF37
import Derived.Test.YtbanogfljpkbkaaGreatDoorF19
import Derived.Test.YtbanogfljpkbkaaGreatDoorF18
import Derived.Test.YtbanogfljpkbkaaGreatDoorF27
import Derived.Test.YtbanogfljpkbkaaGreatDoorF29
set_option linter.unusedSimpArgs false
set_option linter.unusedVariables false
set_option linter.unnecessarySimpa false
namespace Go.Proofs.YtbanogfljpkbkaaGreatDoor
section
open Go.RowKit
set_option maxRecDepth 100000
section
variable {w w' w1 w2 : World} {S : SgP} {O F : List Nat} {M M' : StM} {n : Nat} {C : CaM}
theorem sgLen_any (h : SgW w S O M n) : Calls Tryz.prog 24 #[.pointer (some ⟨S.g, 0, none⟩)] w fun e w' => e = .returned (.int .i64 M.st.length) ∧ w = w' := by
 have cm := sgMade_any h
 have c1 := h.c1
 obtain ⟨f, hs, hd⟩ := h.srt
 have cl := srtLen_any hs (hd.keys h.up h.wf)
 rw [List.length_map] at cl
 clear h hs hd
 go_enter Tryz.func24, Tryz.ntmps24
 go_wp2_with (first | (go_at_call 46; refine cm.mono ?_; rintro e w' ⟨rfl, rfl⟩) | (go_at_call 47; refine cl.mono ?_; rintro e w' ⟨rfl, rfl⟩))
 go_ret
 exact ⟨rfl, rfl⟩
theorem sgDrop_any (h : SgW w S O M n) : Calls Tryz.prog 20 #[.pointer (some ⟨S.g, 0, none⟩)] w fun e w' => e = .returned (.tuple #[]) ∧ SgW w' S O { M with st := [] } 0 ∧ Fr [S.m] w w' := by
 have cm := sgMade_any h
 have c1 := h.c1
 have HH := Lib.hid h
 obtain ⟨f, hs, hd⟩ := h.srt
 have cl := srtClear_any hs
 clear h hs hd
 go_enter Tryz.func20, Tryz.ntmps20
 go_wp2_with (go_at_call 46; refine cm.mono ?_; rintro e w' ⟨rfl, rfl⟩)
 refine cl.mono ?_
 rintro e w1 ⟨rfl, hs, fr⟩
 have HX := Lib.hid (And.intro hs fr)
 clear cl cm hs fr
 go_wp2_with fail
 go_returns
 exact ⟨rfl, HH.out.map HX.out.2 HX.out.1 (fun x _ => .inl ⟨rfl, rfl⟩) List.Pairwise.nil (fun p hp => (by cases hp)), HX.out.2⟩
set_option maxHeartbeats 1000000 in
theorem sgRead_any (h : SgW w S O M n) (x : Int) (hx : wfZ x) : Calls Tryz.prog 21 #[.pointer (some ⟨S.g, 0, none⟩), .int .i64 x] w (ReadC w (rdS M x) (rdSE M x)) := by
 have cm := sgMade_any h
 have c0 := h.c0
 have c1 := h.c1
 obtain ⟨f, hsr, hdv⟩ := h.srt
 have cg := srtGet_any hsr x hx
 have cr := caRead_any h.ca x hx
 rcases hdv x hx with ⟨hf, hd⟩ | ⟨v, l, hf, hd, hb⟩
 ·have HR := Lib.hid (show rdS M x = rdM M.C x ∧ rdSE M x = rdE M.C x from ⟨by rw [rdS, hd], by rw [rdSE, hd]⟩)
  rw [HR.out.1, HR.out.2]
  obtain ⟨z, hz⟩ : ∃ z, rdE M.C x = z := ⟨_, rfl⟩
  obtain ⟨l, hl⟩ : ∃ l, rdM M.C x = l := ⟨_, rfl⟩
  rw [hz, hl] at cr ⊢
  rw [hf] at cg
  simp only [Option.getD_none, Option.isSome_none] at cg
  clear h hsr hdv hf hd hz hl HR
  go_enter Tryz.func21, Tryz.ntmps21
  go_wp2_with (first | (go_at_call 46; refine cm.mono ?_; rintro e w' ⟨rfl, rfl⟩) | (go_at_call 57; refine cg.mono ?_; rintro e w' ⟨rfl, rfl⟩))
  refine cr.mono ?_
  rintro e w5 ⟨v5, rfl, r5, f5⟩
  have HF := Lib.hid (And.intro r5 f5)
  clear cr cg cm r5 f5
  go_wp2_with fail
  go_ret2
  exact ⟨v5, rfl, HF.out⟩
 ·have HR := Lib.hid (show rdS M x = l ∧ rdSE M x = 0 from ⟨by rw [rdS, hd], by rw [rdSE, hd]⟩)
  rw [HR.out.1, HR.out.2]
  rw [hf] at cg
  simp only [Option.getD_some, Option.isSome_some] at cg
  have hl512 := hb.1
  obtain ⟨Av, cv, rfl, -⟩ := hb.2.shape
  have cc := clone_any Av l 512 cv w hb.1 hb.2.rdD.1 hb.2.rdD.2.2 (by omega)
  clear h hsr hdv hf hd HR cr hb
  go_enter Tryz.func21, Tryz.ntmps21
  go_wp2_with (first | (go_at_call 46; refine cm.mono ?_; rintro e w' ⟨rfl, rfl⟩) | (go_at_call 57; refine cg.mono ?_; rintro e w' ⟨rfl, rfl⟩))
  refine cc.mono ?_
  rintro e w5 ⟨v5, rfl, r5, f5⟩
  have HF := Lib.hid (And.intro r5 f5)
  clear cc cg cm r5 f5
  go_wp2_with fail
  go_ret2
  exact ⟨v5, rfl, by rw [hl512]; exact HF.out.1, HF.out.2⟩
set_option maxHeartbeats 1000000 in
theorem sgWrite_any (h : SgW w S O M n) (hn : n < maxLen) (x : Int) (hx : wfZ x) (A : Option Addr) (c : Nat) (b : List UInt8) (hb : b.length = 512) (rd : Rd w A (bvs b)) (hA : A = none → 512 = 0) :
  Calls Tryz.prog 23 #[.pointer (some ⟨S.g, 0, none⟩), .int .i64 x, .slice A 512 c] w fun e w' => e = .returned (.int .i64 0) ∧ SgW w' S O (wrSt M x b) (n + 1) ∧ Fr [S.m] w w' := by
 have cm := sgMade_any h
 have HH := Lib.hid h
 obtain ⟨wD, hwD⟩ : ∃ wD, w.drew = wD := ⟨_, rfl⟩
 have fD : Fr [] w wD := by rw [← hwD]; exact (Fr.refl [] _).drew
 have hS0 := (h.keep_nil fD).c1
 have cc := clone_any A b 512 c wD hb (rd.keep_nil fD) hA (by omega)
 obtain ⟨f, hs, hd⟩ := h.srt
 have HS := Lib.hid (And.intro (hs.keep_nil fD) (And.intro (hd.keepT fD (NoTy.nil _ _)) fD))
 have hno := h.off2.1
 have hB := Lib.hid hb
 clear h hs hd fD rd hA hb
 go_enter Tryz.func23, Tryz.ntmps23
 go_upto_region 5 with (go_at_call 46; refine cm.mono ?_; rintro e w' ⟨rfl, rfl⟩)
 refine wp_region_held_drew (S := fun w' => w'.cell? ⟨S.g, 1, none⟩ = some (.pointer (some ⟨S.q, 0, none⟩))) (by kernel_rfl) (by rw [hwD]; exact hS0) (fun hHeld => ?_)
 rw [hwD] at hHeld ⊢
 clear hS0 hwD cm
 refine tw 0 15 hHeld ?_
 refine tw 1 16 hHeld ?_
 refine tw 2 17 hHeld ?_
 refine tw 3 18 hHeld ?_
 refine tw 4 19 hHeld ?_
 refine tw 5 20 hHeld ?_
 refine tc 6 (fun K hK => ?_)
 go_simp
 refine cc.mono ?_
 rintro e w5 ⟨v5, rfl, r5, f5⟩
 have hHx := f5.cell (by simp) hHeld
 refine hK.out _ _ hHx (fun hHy => ?_)
 clear hK cc hHeld hHy
 have hHeld := hHx
 clear hHx
 try simp only [Act.put, p1, p2, p3]
 obtain ⟨A5, c5, rfl, -⟩ := r5.shape
 have cs := srtSet_any (HS.out.1.keep_nil f5) hn x hx (.slice A5 512 c5) rfl
 refine tc 7 (fun K hK => ?_)
 go_simp
 refine cs.mono ?_
 rintro e w6 ⟨rfl, hs6, f6⟩
 have hHx := f6.cell (by simpa using hno) hHeld
 refine hK.out _ _ hHx (fun hHy => ?_)
 clear hK cs hHeld hHy hHx
 try simp only [Act.put, p1, p2, p3]
 refine wpAnyH_done (by kernel_rfl) ?_ _
 have H6 := Lib.hid (And.intro r5 (And.intro f5 (And.intro hs6 f6)))
 clear r5 f5 hs6 f6
 go_wp2_with fail
 go_ret
 obtain ⟨r5, f5, hs6, f6⟩ := H6.out
 obtain ⟨-, hd, fD⟩ := HS.out
 have fw : Fr [S.m] w w6 := ((fD.trans_nil f5).mono (by simp)).trans f6 (fun i hi => .inl hi)
 have n8 : NoTy w5 [S.m] 5 := (HH.out.keep_nil (fD.trans_nil f5)).no8
 obtain ⟨i1, i2, -⟩ := insL_up (x := x) (b := b) M.st HH.out.up
 refine ⟨rfl, HH.out.map (L := insL M.st x b) fw hs6 (fun y hy => ?_) i1 (fun p hp => ?_), fw⟩
 ·rw [lkL_ins _ _ HH.out.up]
  by_cases e : y = x
  ·subst e
   exact .inr ⟨_, b, by unfold fput; rw [if_pos rfl], if_pos rfl, hB.out, (r5.keepT f6 n8).mono (Nat.zero_le _)⟩
  ·rw [if_neg e, show fput f x (.slice A5 512 c5) y = f y from by unfold fput; rw [if_neg e]]
   exact ((hd.keepT f5 (NoTy.nil _ _)).keepT f6 n8) y hy
 ·rcases i2 p hp with h | h
  ·exact HH.out.wf p h
  ·rw [h]; exact hx
end
end
section
open Go.RowKit
set_option maxRecDepth 100000
structure LyM where
 a : Nat
 b : Nat
 c : Nat
 d : Nat
 tree : Nat
 lev : List Nat
 tags : Nat
 data : Nat
 blocks : Nat
def LyM.cells (L : LyM) (v : Value) : List Value := layC L.a L.b L.c L.d L.tree v L.tags L.data L.blocks
structure LyW (w : World) (A : Option Addr) (c : Nat) (L : LyM) (n : Nat) : Prop where
 rd : Rd w A (ivs L.lev)
 lev : L.lev = levsN n
 nb : 1 ≤ n ∧ n ≤ 128
 data : L.data = L.tags + n
 tree : L.tree ≤ 100000
 tags : L.tags ≤ 100000
section
variable {w w' : World} {S : SgP} {O : List Nat} {M : StM} {k : Nat} {L : LyM} {A : Option Addr} {c n : Nat}
theorem LyW.keep_nil (h : LyW w A c L n) (f : Fr [] w w') : LyW w' A c L n := ⟨h.rd.keep_nil f, h.lev, h.nb, h.data, h.tree, h.tags⟩
theorem LyW.m (h : LyW w A c L n) : L.lev.length = (levsN n).length ∧ 1 ≤ L.lev.length ∧ L.lev.length ≤ 2 := by
 have := levsN_len n
 rw [h.lev]
 split at this <;> omega
theorem layC_ones' {a b c d e : Nat} {A : Option Addr} {n m : Nat} {f g h : Nat} : ∀ u ∈ layC a b c d e (.slice A n m) f g h, u.oneCell' = true := layC_ones
theorem lay_box {w : World} {g : Nat} {L : LyM} {v : Value} (h : Blk w g 38 (L.cells v).toArray) : w.cell? ⟨g, 4, none⟩ = some (.int .i64 (L.tree : Int)) ∧ w.cell? ⟨g, 5, none⟩ = some v ∧ w.cell? ⟨g, 6, none⟩ = some (.int .i64 (L.tags : Int)) ∧ w.cell? ⟨g, 7, none⟩ = some (.int .i64 (L.data : Int)) := ⟨h.cell 4, h.cell 5, h.cell 6, h.cell 7⟩
set_option maxHeartbeats 1000000 in
theorem meLeaves_any (h : LyW w A c L n) : Calls Tryz.prog 11 #[.agg (L.cells (.slice A L.lev.length c)).toArray] w fun e w' => e = .returned (.int .i64 n) ∧ Fr [] w w' := by
 have E1 : (L.data : Int) - (L.tags : Int) = (n : Int) := by have := h.data; omega
 have E2 : IntKind.i64.wrap ((L.data : Int) - (L.tags : Int)) = (n : Int) := by rw [E1]; exact IntWalk.i64_in _ (by have := h.nb; omega)
 have hd := h.data
 have ht := h.tags
 have hn := h.nb
 have E3 := Lib.hid (show (L.tags : Int) + n - L.tags = n by omega)
 clear h
 go_enter Tryz.func11, Tryz.ntmps11
 go_wp2_with
  (first
   | (refine wpList_boxS (o := ⟨some 1, _, _, _, _, _⟩) rfl rfl (L.cells (.slice A L.lev.length c)) rfl ?_; intro w1 hB f1 z1; have Z1 := Lib.hid z1; clear z1; obtain ⟨gB, hgB⟩ : ∃ g, w.heap.size = g := ⟨_, rfl⟩; rw [hgB] at hB; rw [hgB]; have HGB := Lib.hid hgB; clear hgB; have b4 := (lay_box hB).1; have b5 := (lay_box hB).2.1; have b6 := (lay_box hB).2.2.1; have b7 := (lay_box hB).2.2.2)
   | fail)
 go_ret
 exact ⟨by show Ending.returned (.int .i64 ((L.tags : Int) + n - L.tags)) = _; rw [E3.out], f1⟩
theorem plcL_len (tree : Nat) (lev : List Nat) (i : Nat) : (plcL tree lev i).length = lev.length := by simp [plcL]
theorem plcL_take {tree : Nat} {lev : List Nat} {i k : Nat} (hk : k < lev.length) : (plcL tree lev i).take (k + 1) = (plcL tree lev i).take k ++ [plcK tree lev i k] := by
 rw [List.take_succ_eq_append_getElem (by rw [plcL_len]; exact hk)]
 congr 2
 simp [plcL]
theorem sumL_take {lev : List Nat} {k : Nat} (hk : k < lev.length) : sumL (lev.take (k + 1)) = sumL (lev.take k) + lev[k] := by
 rw [List.take_succ_eq_append_getElem hk, sumL_append, sumL_one]
theorem sumL_le {n k : Nat} (hn : 1 ≤ n ∧ n ≤ 128) : sumL ((levsN n).take k) ≤ 9 := by
 have hu := upN_b hn
 unfold levsN
 split
 ·match k with
  | 0 => simp [sumL]
  | k + 1 => simp [sumL]
 ·match k with
  | 0 => simp [sumL]
  | 1 => simp [sumL]; omega
  | k + 2 => simp [sumL]; omega
def PlcC (w : World) (L : LyM) (i : Nat) (e : Ending) (w' : World) : Prop := ∃ v, e = .returned v ∧ Row w' w.heap.size 3 1 v L.lev.length (ivs (plcL L.tree L.lev i)) ∧ Fr [] w w'
set_option maxHeartbeats 2000000 in
theorem mePlaces_any (h : LyW w A c L n) {i : Nat} (hi : i ≤ 4096) : Calls Tryz.prog 45 #[.agg (L.cells (.slice A L.lev.length c)).toArray, .int .i64 i] w (PlcC w L i) := by
 have hm := h.m
 have ht := h.tree
 have HH := Lib.hid h
 have HSL := Lib.hid (fun k => show sumL (L.lev.take k) ≤ 9 from by rw [h.lev]; exact sumL_le h.nb)
 obtain ⟨m, hmm⟩ : ∃ m, L.lev.length = m := ⟨_, rfl⟩
 have HM := Lib.hid hmm
 have hm1 : 1 ≤ m ∧ m ≤ 2 := by omega
 rw [hmm]
 clear h hm hmm
 go_enter Tryz.func45, Tryz.ntmps45
 go_wp2_with
  (first
   | (refine wpList_boxS (o := ⟨some 2, _, _, _, _, _⟩) rfl rfl (L.cells (.slice A m c)) rfl ?_; intro w1 hB f1 z1; have Z1 := Lib.hid z1; clear z1; obtain ⟨gB, hgB⟩ : ∃ g, w.heap.size = g := ⟨_, rfl⟩; rw [hgB] at hB; rw [hgB]; have HGB := Lib.hid hgB; clear hgB; have b4 := (lay_box hB).1; have b5 := (lay_box hB).2.1; have b6 := (lay_box hB).2.2.1; have b7 := (lay_box hB).2.2.2)
   | fail)
 have hBS := Lib.hid (And.intro hB f1)
 clear hB f1 b4 b5 b6 b7
 go_loopw [1, 5, 6, 13] (fun t1 t5 t6 t13 wr => ∃ k : Nat, k ≤ m ∧ t13 = .int .i64 k ∧ t1 = .int .i64 ((i / 16 ^ k : Nat) : Int) ∧ t6 = .int .i64 ((L.tree + sumL (L.lev.take k) : Nat) : Int) ∧ Row wr w1.heap.size 3 1 t5 k (ivs ((plcL L.tree L.lev i).take k)) ∧ Fr [] w1 wr) (fun _ _ _ t _ => m - (intOf t).toNat)
 case atStart => exact ⟨0, Nat.zero_le _, rfl, by simp, by simp [sumL], Row.nil _ _ _ _, Fr.refl _ _⟩
 case round =>
  obtain ⟨k, hk, rfl, rfl, rfl, R, F⟩ := hrel
  obtain ⟨A5, c5, rfl, -, -, -, -, -⟩ := R.shape
  by_cases hlt : k < m
  ·have hkl : k < L.lev.length := by rw [HM.out]; exact hlt
   obtain ⟨j, hj⟩ : ∃ j, i / 16 ^ k = j := ⟨_, rfl⟩
   have hj1 : j ≤ i := by rw [← hj]; exact Nat.div_le_self _ _
   have EJ : (j : Int) / 16 = ((i / 16 ^ (k + 1) : Nat) : Int) := by rw [Nat.pow_succ, ← Nat.div_div_eq_div_mul, hj]; omega
   obtain ⟨j2, hj2⟩ : ∃ j, i / 16 ^ (k + 1) = j := ⟨_, rfl⟩
   have hj3 : j2 ≤ i := by rw [← hj2]; exact Nat.div_le_self _ _
   obtain ⟨s, hs⟩ : ∃ s, sumL (L.lev.take k) = s := ⟨_, rfl⟩
   have hs9 : s ≤ 9 := by rw [← hs]; exact HSL.out k
   obtain ⟨q, hq⟩ : ∃ q, L.lev[k] = q := ⟨_, rfl⟩
   have hs2 : sumL (L.lev.take (k + 1)) = s + q := by rw [sumL_take hkl, hs, hq]
   have hs29 : s + q ≤ 9 := by rw [← hs2]; exact HSL.out (k + 1)
   have HT := Lib.hid (show (plcL L.tree L.lev i).take (k + 1) = (plcL L.tree L.lev i).take k ++ [L.tree + s + j2] by rw [plcL_take hkl, plcK, hs, hj2])
   have HP := Lib.hid (And.intro hj2 hs2)
   have FB := F.cell (by simp) (hBS.out.1.cell 5)
   replace FB : wr.cell? ⟨gB, 5, none⟩ = some (.slice A m c) := FB
   obtain ⟨gl, ol, eA, hcl⟩ := (HH.out.rd.keep_nil (hBS.out.2.trans_nil F)) (by intro h0; have := congrArg List.length h0; rw [ivs_len, List.length_nil] at this; omega)
   subst eA
   have hglt : gl < w.heap.size := by
    obtain ⟨g', o', e', hl'⟩ := HH.out.rd.lt (by intro h0; have := congrArg List.length h0; rw [ivs_len, List.length_nil] at this; omega)
    cases e'
    exact hl'
   have cl := hcl k (.int .i64 (q : Int)) (by simp [ivs, hkl, hq])
   rw [hj2] at EJ
   rw [hj, hs]
   have FBS : ∀ o : Obj, (wr.alloc o).cell? ⟨gB, 5, none⟩ = some (.slice (some ⟨gl, ol, none⟩) m c) := fun o => ((Fr.refl [] wr).alloc o).cell (by simp) FB
   clear hcl hj hs hq hs2 hj2 hkl
   go_upto_region 8 with (at_builtin; refine wpList_app rfl rfl slI w1.heap.size _ k (ivs ((plcL L.tree L.lev i).take k)) rfl (R.alloc _) _ 1 1 [_] rfl rfl (Rd.one _ _ _) (by intro u hu; rw [List.mem_singleton.1 hu]; rfl) (fun h => by cases h) (by omega) (by have := F.size; simp; omega) ?_; intro v7 w7 q1 q2 q3 q4)
   have f7 : Fr [] w1 w7 := (F.alloc _).trans q2 (fun i hi => .inr (R.lt i (mem_own.1 hi)).1)
   have n5 : gB ∉ (Value.slice A5 k c5).ownBlock.toList := fun hm => R.ne_blk (hBS.out.1.keep_nil F) (by decide) (mem_own.1 hm)
   have nl : gl ∉ (Value.slice A5 k c5).ownBlock.toList := fun hm => by have := (R.lt gl (mem_own.1 hm)).1; have := hBS.out.2.size; omega
   have FB7 := q2.cell n5 (FBS (.cells #[.int .i64 ((L.tree : Int) + s + j2)] 3))
   have cl7 := q2.cell nl (((Fr.refl [] wr).alloc (.cells #[.int .i64 ((L.tree : Int) + s + j2)] 3)).cell (by simp) cl)
   have q1' : Row w7 w1.heap.size 3 1 v7 (k + 1) (ivs ((plcL L.tree L.lev i).take (k + 1))) := by
    rw [HT.out, ivs_append]
    have e : ivs [L.tree + s + j2] = [.int .i64 ((L.tree : Int) + s + j2)] := by simp [ivs]
    rw [e]
    exact q1
   have H7 := Lib.hid (And.intro q1' f7)
   clear q1 q2 q3 q4 q1' f7 n5 nl R F FB cl FBS
   go_wp2_with fail
   exact ⟨⟨k + 1, by omega, by go_num, by rw [HP.out.1], by rw [HP.out.2, show ((L.tree + (s + q) : Nat) : Int) = L.tree + s + q by omega], H7.out.1, H7.out.2⟩, by simp [intOf]; omega⟩
  ·obtain rfl : k = m := by omega
   rw [List.take_of_length_le (by rw [plcL_len, HM.out]; exact Nat.le_refl _)] at R
   have HR := Lib.hid (And.intro R F)
   clear R F
   go_wp2_with fail
   go_ret
   exact ⟨_, rfl, by rw [HM.out]; exact HR.out.1.mono hBS.out.2.size, hBS.out.2.trans_nil HR.out.2⟩
def PthC (w : World) (M : StM) (L : LyM) (i : Nat) (e : Ending) (w' : World) : Prop := ∃ v vs, e = .returned (.tuple #[v, .int .i64 0]) ∧ BRow w' w.heap.size v vs (pathS M L.tree L.lev i) ∧ Fr [] w w'
set_option maxHeartbeats 4000000 in
theorem mePath_any (h : SgW w S O M k) (hl : LyW w A c L n) {i : Nat} (hi : i < n) (hE : ∀ x ∈ plcL L.tree L.lev i, rdSE M (x : Int) = 0) : Calls Tryz.prog 22 #[.pointer (some ⟨S.g, 0, none⟩), .agg (L.cells (.slice A L.lev.length c)).toArray, .int .i64 i] w (PthC w M L i) := by
 have hm := hl.m.2
 have hn := hl.nb
 have CM := Lib.hid (fun (w1 : World) (f : Fr [] w w1) => sgMade_any (h.keep_nil f))
 have CR := Lib.hid (fun (w1 : World) (f : Fr [] w w1) x hx => sgRead_any (h.keep_nil f) x hx)
 have CL := Lib.hid (fun (w1 : World) (f : Fr [] w w1) => meLeaves_any (hl.keep_nil f))
 have CP := Lib.hid (fun (w1 : World) (f : Fr [] w w1) => mePlaces_any (hl.keep_nil f) (i := i) (by omega))
 have HE := Lib.hid hE
 have d1 : (i : Int) < n := by omega
 have HB := Lib.hid (fun k => show plcK L.tree L.lev i k ≤ 200000 from by
  have h1 := hl.tree
  have h2 : sumL (L.lev.take k) ≤ 9 := by rw [hl.lev]; exact sumL_le hl.nb
  have h3 : i / 16 ^ (k + 1) ≤ i := Nat.div_le_self _ _
  unfold plcK; omega)
 clear h hl hE
 go_enter Tryz.func22, Tryz.ntmps22
 go_wp2_with
  (first
   | (refine wpList_boxS (o := ⟨some 4, _, _, _, _, _⟩) rfl rfl (L.cells (.slice A L.lev.length c)) rfl ?_; intro w1 hB f1 z1; have Z1 := Lib.hid z1; clear z1; obtain ⟨gB, hgB⟩ : ∃ g, w.heap.size = g := ⟨_, rfl⟩; rw [hgB] at hB; rw [hgB]; have HGB := Lib.hid hgB; clear hgB; have b4 := (lay_box hB).1; have b5 := (lay_box hB).2.1; have b6 := (lay_box hB).2.2.1; have b7 := (lay_box hB).2.2.2)
   | fail)
 refine (CM.out _ f1).mono ?_
 rintro e w2 ⟨rfl, rfl⟩
 go_wp2_with
  (first
   | (refine wpList_ldS stLay rfl rfl gB 0 rfl (L.cells (.slice A L.lev.length c)) rfl hB.range0 ?_))
 refine (CL.out _ f1).mono ?_
 rintro e w3 ⟨rfl, f3⟩
 have hB3 := hB.keep_nil f3
 have F3 := f1.trans_nil f3
 clear hB b4 b5 b6 b7 f3
 go_wp2_with
  (first
   | (refine wpList_ldS stLay rfl rfl gB 0 rfl (L.cells (.slice A L.lev.length c)) rfl hB3.range0 ?_))
 refine (CP.out _ F3).mono ?_
 rintro e w4 ⟨v4, rfl, r4, f4⟩
 obtain ⟨A4, c4, rfl, -, -, -, -, -⟩ := r4.shape
 have F4 := F3.trans_nil f4
 obtain ⟨m, hmm⟩ : ∃ m, L.lev.length = m := ⟨_, rfl⟩
 have HM := Lib.hid hmm
 rw [hmm] at r4 hm
 have HR4 := Lib.hid r4
 have HF4 := Lib.hid F4
 have hm2 : 1 ≤ m ∧ m ≤ 2 := by omega
 clear F3 f4 f1 hB3 r4 F4 hm
 go_wp2_with fail
 go_loopw [8, 30] (fun t8 t30 wr => ∃ q : Nat, q ≤ m ∧ t30 = .int .i64 q ∧ (∃ vs, BRow wr w4.heap.size t8 vs ((pathS M L.tree L.lev i).take q)) ∧ Fr [] w4 wr) (fun _ t _ => m - (intOf t).toNat)
 case atStart => exact ⟨0, Nat.zero_le _, rfl, ⟨[], BRow.nil _ _⟩, Fr.refl _ _⟩
 case round =>
  obtain ⟨q, hq, rfl, ⟨vs, R⟩, F⟩ := hrel
  have hql : ((pathS M L.tree L.lev i).take q).length = q := by rw [List.length_take, pathS, List.length_map, plcL_len, HM.out]; omega
  have r8 := R.row
  rw [hql] at r8
  obtain ⟨A8, c8, rfl, -, -, -, -, -⟩ := r8.shape
  by_cases hlt : q < m
  ·have hqp : q < (plcL L.tree L.lev i).length := by rw [plcL_len, HM.out]; exact hlt
   obtain ⟨p, hp⟩ : ∃ p, (plcL L.tree L.lev i)[q] = p := ⟨_, rfl⟩
   have hpk : p = plcK L.tree L.lev i q := by rw [← hp]; simp [plcL]
   have hpb : p ≤ 200000 := by rw [hpk]; exact HB.out q
   have hpe : rdSE M (p : Int) = 0 := HE.out p (by rw [← hp]; exact List.getElem_mem hqp)
   have htk : (pathS M L.tree L.lev i).take (q + 1) = (pathS M L.tree L.lev i).take q ++ [rdS M (p : Int)] := by
    rw [List.take_succ_eq_append_getElem (by rw [pathS, List.length_map]; exact hqp)]
    congr 2
    simp [pathS, hp]
   obtain ⟨g4, o4, eA, hc4⟩ := (HR4.out.keep_nil F).rdD.1 (by intro h0; have := congrArg List.length h0; rw [ivs_len, plcL_len, HM.out, List.length_nil] at this; omega)
   subst eA
   have ci := hc4 q (.int .i64 (p : Int)) (by simp [ivs, hqp, hp])
   have cr := CR.out wr (HF4.out.trans_nil F) (p : Int) (wfZ_of (by omega))
   rw [hpe] at cr
   obtain ⟨l, hl⟩ : ∃ l, rdS M (p : Int) = l := ⟨_, rfl⟩
   rw [hl] at cr htk
   have HTK := Lib.hid (And.intro htk hql)
   have HR := Lib.hid (And.intro R F)
   clear hqp hp hpk hpe htk hc4 hl hql R
   go_wp2_with fail
   refine cr.mono ?_
   rintro e w5 ⟨v5, rfl, r5, f5⟩
   obtain ⟨A5, c5, rfl, -, -, -, -, -⟩ := r5.shape
   have HR5 := Lib.hid (And.intro r5 f5)
   have r8x := r8.keep_nil f5
   have hF5 := (F.trans_nil f5).size
   clear cr r5 f5 r8 ci
   go_wp2_with (at_builtin; refine wpList_app rfl rfl slBB w4.heap.size _ q vs rfl (r8x.alloc _) _ 1 1 [_] rfl rfl (Rd.one _ _ _) (by intro u hu; rw [List.mem_singleton.1 hu]; rfl) (fun h => by cases h) (by omega) (by simp; omega) ?_; intro v7 wx q1 q2 q3 q4)
   obtain ⟨R, F⟩ := HR.out
   obtain ⟨r5, f5⟩ := HR5.out
   have fa : Fr [] w5 (w5.alloc (.cells #[.slice A5 l.length c5] 27)) := (Fr.refl [] w5).alloc _
   replace q2 : Fr (Value.slice A8 q c8).ownBlock.toList (w5.alloc (.cells #[.slice A5 l.length c5] 27)) wx := q2
   have R7 := ((R.keep_nil f5).keep_nil fa).snoc (b := l) ((r5.keep_nil fa).mono F.size) q2 (by rw [HTK.out.2]; exact q1)
   rw [← HTK.out.1] at R7
   exact ⟨⟨q + 1, by omega, by go_num, ⟨_, R7⟩, ((F.trans_nil f5).trans_nil fa).trans q2 (fun g hg => .inr (r8x.lt g (mem_own.1 hg)).1)⟩, by simp [intOf]; omega⟩
  ·obtain rfl : q = m := by omega
   rw [List.take_of_length_le (by rw [pathS, List.length_map, plcL_len, HM.out]; exact Nat.le_refl _)] at R
   have HR := Lib.hid (And.intro R F)
   clear R F r8
   go_wp2_with fail
   go_ret2
   exact ⟨_, _, rfl, HR.out.1.mono HF4.out.size, HF4.out.trans_nil HR.out.2⟩
end
end
section
open Go.RowKit
set_option maxRecDepth 100000
section
variable {w w' : World} {L : LyM} {A : Option Addr} {c n : Nat}
set_option maxHeartbeats 1000000 in
theorem xmLeaves_any (h : LyW w A c L n) : Calls Tryz.prog 28 #[.agg (L.cells (.slice A L.lev.length c)).toArray] w fun e w' => e = .returned (.int .i64 n) ∧ Fr [] w w' := by
 have hd := h.data
 have ht := h.tags
 have hn := h.nb
 have E3 := Lib.hid (show (L.tags : Int) + n - L.tags = n by omega)
 clear h
 go_enter Tryz.func28, Tryz.ntmps28
 go_wp2_with
  (first
   | (refine wpList_boxS (o := ⟨some 1, _, _, _, _, _⟩) rfl rfl (L.cells (.slice A L.lev.length c)) rfl ?_; intro w1 hB f1 z1; have Z1 := Lib.hid z1; clear z1; obtain ⟨gB, hgB⟩ : ∃ g, w.heap.size = g := ⟨_, rfl⟩; rw [hgB] at hB; rw [hgB]; have HGB := Lib.hid hgB; clear hgB; have b4 := (lay_box hB).1; have b5 := (lay_box hB).2.1; have b6 := (lay_box hB).2.2.1; have b7 := (lay_box hB).2.2.2)
   | fail)
 go_ret
 exact ⟨by show Ending.returned (.int .i64 ((L.tags : Int) + n - L.tags)) = _; rw [E3.out], f1⟩
theorem results_tc {P : Program} {w : World} {t : TypeId} {n : Nat} {z : List Value} (hT : StT P t n z) {fn : Func} {p q : Tmp} (hr : fn.results = #[.tmp q, .cell p t]) {tmps : Array Value} {g : Nat} {cs : List Value} (hv : tmps.getD p undef = .pointer (some ⟨g, 0, none⟩)) (hn : cs.length = n) (hb : Blk w g t cs.toArray) :
  (results fn tmps).run P w = .ok (.tuple #[tmps.getD q undef, .agg cs.toArray]) w := by
 have hl := run_loadB hT hn hb
 have ha : (asAddr (.pointer (some ⟨g, 0, none⟩))).run P w = .ok ⟨g, 0, none⟩ w := rfl
 have hv' : tmps[p]?.getD undef = .pointer (some ⟨g, 0, none⟩) := by simpa using hv
 simp [results, hr, hv', ha, hl]
def fleaf : List UInt8 := leafH zB512
def fresh (n : Nat) : List (List UInt8) := List.replicate n fleaf
theorem fleaf_len : fleaf.length = 32 := shaSum_length _
theorem fresh_len (n : Nat) : (fresh n).length = n := List.length_replicate
theorem fresh_32 (n : Nat) : ∀ x ∈ fresh n, x.length = 32 := fun x hx => by rw [(List.mem_replicate.1 hx).2]; exact fleaf_len
theorem fresh_map (n : Nat) : (List.replicate n zB512).map leafH = fresh n := by rw [List.map_replicate]; rfl
theorem fresh_succ (k : Nat) : (fresh (k + 1)).flatten = (fresh k).flatten ++ fleaf := by rw [fresh, List.replicate_succ']; simp [fresh]
def FrsC (w : World) (n : Nat) (e : Ending) (w' : World) : Prop := ∃ v us, e = .returned (.tuple #[v, .agg (bvs (bldR (fresh n))).toArray]) ∧ BBRow w' w.heap.size v us (bldN (fresh n)) ∧ Fr [] w w'
set_option maxHeartbeats 1000000 in
theorem xmFresh_any (h : LyW w A c L n) : Calls Tryz.prog 27 #[.agg (L.cells (.slice A L.lev.length c)).toArray] w (FrsC w n) := by
 have hnb := h.nb
 have cl := fun w1 (f : Fr [] w w1) => xmLeaves_any (h.keep_nil f)
 have CL := Lib.hid cl
 have lc := layC_ones' (a := L.a) (b := L.b) (c := L.c) (d := L.d) (e := L.tree) (A := A) (n := L.lev.length) (m := c) (f := L.tags) (g := L.data) (h := L.blocks)
 clear cl h
 obtain ⟨Cs, hCs⟩ : ∃ Cs, L.cells (.slice A L.lev.length c) = Cs := ⟨_, rfl⟩
 have HCL := Lib.hid (show Cs.length = 9 by rw [← hCs]; rfl)
 rw [hCs] at CL ⊢
 clear lc
 go_enter Tryz.func27, Tryz.ntmps27
 go_wp2_with
  (first
   | (refine wpList_boxS (o := ⟨some 1, _, _, _, _, _⟩) rfl rfl Cs rfl ?_; intro w1 hB f1 z1; have Z1 := Lib.hid z1; clear z1; obtain ⟨gB, hgB⟩ : ∃ g, w.heap.size = g := ⟨_, rfl⟩; rw [hgB] at hB; rw [hgB]; have HGB := Lib.hid hgB; clear hgB)
   | (refine wpList_alS stA32 (o := ⟨some 3, _, _, _, _, _⟩) rfl rfl ?_; intro w2 h3 f2 z2; have Z2 := Lib.hid z2; clear z2; obtain ⟨g3, hg3⟩ : ∃ g1, w1.heap.size = g1 := ⟨_, rfl⟩; rw [hg3] at h3; rw [hg3]; have HG3 := Lib.hid hg3; clear hg3)
   | (refine wpList_mk1 rfl rfl slB rfl .i64 .i64 _ _ 512 rfl rfl rfl rfl (by omega) ?_; intro w3 k3 r3 f3 z3))
 rw [← zB512_vs] at r3
 have cc := xtLeaf_any _ zB512 512 512 w3 zB512_len r3.rdD.1 (by simp) (by omega)
 rw [show leafH zB512 = fleaf from rfl] at cc
 have HFL := Lib.hid (show fleaf.length = 32 from shaSum_length _)
 have F3 := (f1.trans_nil f2).trans_nil f3
 have b3 := (hB.keep_nil f2).keep_nil f3
 have k3 := h3.keep_nil f3
 clear z3 r3 f1 f2 f3 hB h3
 refine cc.mono ?_
 rintro e w4 ⟨rfl, f4⟩
 replace b3 := b3.keep_nil f4
 replace k3 := k3.keep_nil f4
 have F4 := F3.trans_nil f4
 clear cc F3 f4
 obtain ⟨D, hD⟩ : ∃ D, fleaf = D := ⟨_, rfl⟩
 rw [hD] at HFL ⊢
 go_wp2_with
  (first
   | (refine wpList_alS stA32 (o := ⟨some 5, _, _, _, _, _⟩) rfl rfl ?_; intro w5 h5 f5 z5; have Z5 := Lib.hid z5; clear z5; obtain ⟨g5, hg5⟩ : ∃ g1, w4.heap.size = g1 := ⟨_, rfl⟩; rw [hg5] at h5; rw [hg5]; have HG5 := Lib.hid hg5; clear hg5)
   | (refine wpList_stB stA32 rfl rfl g5 rfl (bvs D) rfl (by rw [bvs_length, HFL.out]) (bvs_one _) (bvs (zB 32)) rfl h5 ?_; intro w6 h6 f6 z6; have Z6 := Lib.hid z6; clear z6))
 have l3 := k3.lt
 have f46 : Fr [] w4 w6 := f5.trans f6 (fun i hi => .inr (by have := HG5.out; simp at hi; omega))
 have F6 := F4.trans_nil f46
 replace b3 := b3.keep_nil f46
 replace k3 := k3.keep_nil f46
 have HZ := Lib.hid F4.size
 have HW3 := Lib.hid (show w.heap.size ≤ g3 by have := HG3.out; have := Z1.out; omega)
 clear f5 f6 f46 F4 h5
 have HL := Lib.hid (show LyW w A c L n → True from fun _ => trivial)
 go_loopw [4, 6] (fun v4 t6 wr => ∃ k : Nat, k ≤ n ∧ t6 = .int .i64 k ∧ Row wr w6.heap.size 39 32 v4 k (bvs (fresh k).flatten) ∧ Fr [] w6 wr) (fun _ t _ => n - (intOf t).toNat)
 case atStart => exact ⟨0, Nat.zero_le _, rfl, Row.nil _ _ _ _, Fr.refl _ _⟩
 case round =>
  obtain ⟨wo, hwo⟩ : ∃ wo, wo = wr := ⟨_, rfl⟩
  subst hwo
  obtain ⟨k, hk, rfl, R, F⟩ := hrel
  obtain ⟨A4, c4, rfl, -, -, -, -, -⟩ := R.shape
  have bo := b3.keep_nil F
  have cl := CL.out wo (F6.trans_nil F)
  have HRF := Lib.hid (And.intro R F)
  have ho6 := h6.keep_nil F
  have HFs := Lib.hid (fresh_len k)
  clear R F
  go_wp2_with
   (first
    | (refine wpList_ldS stLay rfl rfl gB 0 rfl Cs HCL.out bo.range0 ?_))
  refine cl.mono ?_
  rintro e w7 ⟨rfl, f7⟩
  replace ho6 := ho6.keep_nil f7
  obtain ⟨R, F⟩ := HRF.out
  replace R := R.keep_nil f7
  replace F := F.trans_nil f7
  clear HRF cl bo
  by_cases hlt : k < n
  ·have HRF := Lib.hid (And.intro R F)
   clear R F
   have hFs : (bvs (fresh k).flatten).length = 32 * k := by rw [bvs_length, flat_len _ (fresh_32 k), fresh_len]
   have HF2 := Lib.hid hFs
   clear hFs
   go_wp2_with
    (first
     | (refine wpList_ldS stA32 rfl rfl g5 0 rfl (bvs D) (by rw [bvs_length, HFL.out]) ho6.range0 ?_)
     | (refine wpList_bs1 stA32 Tryz.underlying48 (by omega) (by decide) rfl rfl (bvs D) rfl (by rw [bvs_length, HFL.out]) ?_; intro w8 h8 f8 z8; have Z8 := Lib.hid z8; clear z8)
     | (at_builtin; refine wpList_app rfl rfl slA w6.heap.size _ k _ rfl (HRF.out.1.keep_nil f8) _ 1 1 (bvs D) rfl (by rw [bvs_length, HFL.out]) (Rd.of_blk h8 0 _ (fun j u hu => by rw [Nat.zero_add]; simpa using hu)) (bvs_one _) (by simp) (by omega) (by have := f8.size; have := HRF.out.2.size; omega) ?_; intro v11 w11 p1 p2 p3 p4))
   obtain ⟨R, F⟩ := HRF.out
   rw [← bvs_append, ← hD, ← fresh_succ] at p1
   exact ⟨⟨k + 1, by omega, by go_num, p1, (F.trans_nil f8).trans p2 (fun i hi => .inr (R.lt i (mem_own.1 hi)).1)⟩, by simp [intOf]; omega⟩
  ·obtain rfl : k = n := by omega
   have k3w := (k3.keep_nil F)
   have cc := xtBuild_any (w := w7) (A := A4) (n := k) (c := c4) (fresh_len k) hnb (fresh_32 k) R.rdD.1
   have HFF := Lib.hid (F6.trans_nil F)
   have d0 : ¬ ((k : Int) < k) := by omega
   clear R ho6 HFs b3 k3 F h6
   go_wp2_with fail
   refine cc.mono ?_
   rintro e w8 ⟨v, us, rfl, RB, f8⟩
   have hDL : (bldR (fresh k)).length = 32 := shaSum_length _
   obtain ⟨E, hE⟩ : ∃ E, bldR (fresh k) = E := ⟨_, rfl⟩
   rw [hE] at hDL ⊢
   have HEL := Lib.hid (And.intro hDL hE)
   have k3x := k3w.keep_nil f8
   have l3 := k3x.lt
   clear cc k3w hDL hE
   go_upto_region 8 with
    (first
     | (refine wpList_alS stA32 (o := ⟨some 8, _, _, _, _, _⟩) rfl rfl ?_; intro w9 h9 f9 z9; have Z9 := Lib.hid z9; clear z9; obtain ⟨g9, hg9⟩ : ∃ g, w8.heap.size = g := ⟨_, rfl⟩; rw [hg9] at h9; rw [hg9]; have HG9 := Lib.hid hg9; clear hg9)
     | (refine wpList_stB stA32 rfl rfl g9 rfl (bvs E) rfl (by rw [bvs_length, HEL.out.1]) (bvs_one _) (bvs (zB 32)) rfl h9 ?_; intro w10 h10 f10 z10; have Z10 := Lib.hid z10; clear z10))
   have f8a : Fr [] w8 w10 := f9.trans f10 (fun i hi => .inr (by have := HG9.out; simp at hi; omega))
   have ne9 : g9 ≠ g3 := by have := HG9.out; omega
   replace k3x := k3x.keep_nil f8a
   obtain ⟨wD, hwD⟩ : ∃ wD, w10.drew = wD := ⟨_, rfl⟩
   have fD : Fr [] w10 wD := by rw [← hwD]; exact (Fr.refl [] w10).drew
   replace k3x := k3x.keep_nil fD
   have k9 := h10.keep_nil fD
   have HF := Lib.hid (And.intro ((HFF.out.trans_nil f8).trans_nil (f8a.trans_nil fD)) ((RB.keep_nil f8a).keep_nil fD))
   have HWS := Lib.hid (HFF.out.size)
   clear f9 f10 f8a fD h9 h10 HFF RB f8
   refine wp_region_held_drew (S := fun w' => Fr [g3] wD w') (by kernel_rfl) (by rw [hwD]; exact Fr.refl _ _) (fun hHeld => ?_)
   rw [hwD] at hHeld ⊢
   clear hwD
   refine tw 0 28 hHeld ?_
   refine tw 1 29 hHeld ?_ (v := .agg (bvs E).toArray) (hy := (fun w hSw => hy_ld stA32 rfl g9 0 rfl (bvs E) (by rw [bvs_length, HEL.out.1]) (k9.keep hSw (by simpa using ne9)).range0))
   refine tw 2 2 hHeld ?_
   refine tcd 3 none (fun K hK => ?_)
   refine wp_stB stA32 rfl g3 rfl (bvs E) rfl (by rw [bvs_length, HEL.out.1]) (bvs_one _) (bvs (zB 32)) rfl k3x (fun wz hz fz zz => hK _ wz (hHeld.trans_same fz) fun hHx => ?_)
   clear hHeld
   refine wpAnyH_done (by kernel_rfl) ?_ _
   go_wp2_with fail
   try simp only [Exit.inBlock, Exit.then]
   refine bodyPost_ret (results_tc stA32 rfl rfl (by rw [bvs_length, HEL.out.1]) hz) rfl ?_
   have hno : ∀ e, e ≠ 39 → NoTy wD [g3] e := fun e he => k3x.noTyOf (fun h => he h.symm)
   exact ⟨v, us, by rw [HEL.out.2]; rfl, (HF.out.2.keepT fz (hno _ (by decide)) (hno _ (by decide)) (hno _ (by decide))).mono (by have := HWS.out; omega), HF.out.1.trans fz (fun i hi => .inr (by rw [List.mem_singleton.1 hi]; exact HW3.out))⟩
end
end
end Go.Proofs.YtbanogfljpkbkaaGreatDoor
