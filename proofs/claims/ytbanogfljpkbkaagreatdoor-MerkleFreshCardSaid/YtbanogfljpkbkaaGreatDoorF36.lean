/-
  Texts of this claim, one behind the other: CacG.
-/
import Derived.Test.YtbanogfljpkbkaaGreatDoorF35
set_option linter.unusedSimpArgs false
set_option linter.unusedVariables false
set_option linter.unnecessarySimpa false
namespace Go.Proofs.YtbanogfljpkbkaaGreatDoor
section
open Go.RowKit Go.Shelf
attribute [local go_sem] Oper.semAt_some encP
set_option maxRecDepth 100000
def noP (Q : Exit → Act → World → Prop) : Exit → Act → World → Prop
 | .panic _, _, _ => False
 | e, a, w => Q e a w
theorem wp_noP {P : Program} {c : Code} {Q : Exit → Act → World → Prop} {a : Act} {w : World} (h : c.wp P (noP Q) a w) : c.wp P Q a w := wp_mono h (fun e a w q => by cases e <;> first | exact q | exact q.elim)
theorem CaW.clear {w w' : World} {P : CaP} {O : List Nat} {M : CaM} (h : CaW w P O M) (hs : SrtW w' P.s P.b 0 (fun _ => none)) (fr : Fr [P.b] w w') : CaW w' P O { M with dirty := fun _ => none } := by
 obtain ⟨u, h1, -⟩ := h.srt
 obtain ⟨e1, e2, e3, e4, e5, e6⟩ := h.ne
 exact ⟨h.blk.keep fr (fun hm => e3 (List.mem_singleton.1 hm)), h.dsk.keep fr (fun i hi hm => h.nO.2.2.2 (by rw [← List.mem_singleton.1 hm]; exact hi)) (h1.noTyB _), h.jr.keep fr (fun hm => e5 (List.mem_singleton.1 hm)), ⟨_, ⟨hs.blk, hs.map.mono (Nat.zero_le _)⟩, fun _ => .inl ⟨rfl, rfl⟩⟩, h.nO⟩
theorem keyL_dirty {w : World} {f : Int → Option Value} {d : Int → Option (List UInt8)} (h : DirV w f d) : KeyL f (keysZ d) := by
 refine ⟨keysZ_sorted d, fun x => ?_⟩
 rw [keysZ_mem]
 rcases h x with ⟨h1, h2⟩ | ⟨v, l, h1, h2, -, h3, h4⟩
 ·rw [h1, h2]; simp
 ·rw [h1, h2]
  simp only [Option.isSome_some, and_true]
  exact ⟨fun _ => wfZ_of (by omega), fun _ => ⟨h3, h4⟩⟩
def chS (d : Int → Option (List UInt8)) (zs : List Int) : List Stp := .fl :: wrD d zs
def ChkI (w1 : World) (P : CaP) (M : CaM) (lo gS : Nat) (f : Int → Option Value) (pre : List (PairF f)) (W : World) : Prop := ∃ v fs, Blk W gS 186 #[v] ∧ CRow W w1.heap.size lo P v fs ((chS M.dirty (pre.map (·.1.1))).map .st) ∧ Fr [] w1 W ∧ w1.heap.size ≤ gS
theorem chkI_own {w1 wL : World} {P : CaP} {M : CaM} {lo gS : Nat} {f : Int → Option Value} (hs : w1.heap.size ≤ wL.heap.size) : OwnFrom wL.heap.size (ChkI w1 P M lo gS f) := ownFrom_of fun s W W' F hI fr hT hF => by
 obtain ⟨v, fs, h1, h2, h3, h4⟩ := hI
 exact ⟨v, fs, h1.keep fr (fun hm => hT _ _ hm _ _ h1), ⟨h2.row.keepT fr (hT _), fun i a b => (h2.each i a b).keepT fr (fun e _ _ => hT e)⟩, h3.trans fr (fun i hi => .inr (Nat.le_trans hs (hF i hi))), h4⟩
def ChkB (w1 : World) (M : CaM) (f : Int → Option Value) (x : PairF f) (g2 g3 : Nat) (W : World) : Prop := Blk W g2 3 #[.int .i64 x.1.1] ∧ Blk W g3 27 #[x.1.2] ∧ w1.heap.size ≤ g2 ∧ w1.heap.size ≤ g3 ∧ ∃ l, M.dirty x.1.1 = some l ∧ BlkB W x.1.2 l
theorem chkB_own {w1 : World} {M : CaM} {f : Int → Option Value} {B : Nat} (x : PairF f) (g2 g3 : Nat) : OwnFrom B (fun (_ : Unit) W => ChkB w1 M f x g2 g3 W) := ownFrom_of fun s W W' F hI fr hT hF => by
 obtain ⟨h1, h2, h3, h4, l, h5, h6⟩ := hI
 exact ⟨h1.keep fr (h1.notin (hT _)), h2.keep fr (h2.notin (hT _)), h3, h4, l, h5, h6.keepT fr (hT _)⟩
theorem dir_shape {w : World} {f : Int → Option Value} {d : Int → Option (List UInt8)} (h : DirV w f d) (x : PairF f) : ∃ A c l, x.1.2 = .slice A 512 c ∧ d x.1.1 = some l ∧ BlkB w x.1.2 l := by
 rcases h x.1.1 with ⟨h1, -⟩ | ⟨v, l, h1, h2, h3, -⟩
 ·have := x.2.2
  rw [h1] at this
  cases this
 ·have := x.2.2
  rw [h1] at this
  cases this
  obtain ⟨A, c, e, -⟩ := h3.2.shape
  exact ⟨A, c, l, e, h2, h3⟩
theorem chkI_zero {w1 wL : World} {P : CaP} {M : CaM} {lo gB : Nat} {f : Int → Option Value} (kL : Blk wL (gB + 1 + 1) 186 #[.slice (some ⟨gB + 1, 0, none⟩) 1 1]) (rL : Row wL (gB + 1) 47 1 (.slice (some ⟨gB + 1, 0, none⟩) 1 1) 1 [.func (.func 112) #[.pointer (some ⟨P.p, 0, none⟩)] #[]]) (fL : Fr [] w1 wL) (hz : w1.heap.size = gB + 1) : ChkI w1 P M lo (gB + 1 + 1) f [] wL :=
 ⟨_, _, kL, ⟨by rw [hz]; exact rL, fun i a b => by
  obtain rfl : i = 0 := by simp at a; omega
  rfl⟩, fL, by omega⟩
section
variable {w w' : World} {P : CaP} {O : List Nat} {M : CaM} {N : Nat}
set_option maxHeartbeats 4000000 in
theorem caCheck_any (h : CaW w P O M) (G : CaG N M) (hm : M.J.num + 600 < 9223372036854775808) (hK : KG w) (hz : 0 ∉ P.own O) (hu : ∀ x, (M.D.uns x).length + 5000 ≤ 4398046511104) :
  Calls Tryz.prog 93 #[.pointer (some ⟨P.c, 0, none⟩)] w fun e w' => e = .returned (.int .i64 0) ∧ AftC w P O (chkC M) w' := by
 obtain ⟨k1, f1, z1⟩ := box1D w 81 (.pointer (some ⟨P.c, 0, none⟩))
 obtain ⟨w1, hw1⟩ : ∃ x, w.alloc (.cells #[.pointer (some ⟨P.c, 0, none⟩)] 81) = x := ⟨_, rfl⟩
 rw [hw1] at k1 f1 z1
 obtain ⟨gB, hgB⟩ : ∃ gB, w.heap.size = gB := ⟨_, rfl⟩
 rw [hgB] at k1 z1
 have h1 := h.keep_nil f1
 have cB : w1.cell? ⟨gB, 0, none⟩ = some (.pointer (some ⟨P.c, 0, none⟩)) := k1.cell 0
 have c0 := h1.c0
 have c1 := h1.c1
 have c2 := h1.c2
 have cs := caState_any h1
 have cu := jnUsed_any h1.jr
 have cb := jnBegun_any h1.jr
 have kF := Blk.new w1 47 #[.func (.func 112) #[.pointer (some ⟨P.p, 0, none⟩)] #[]]
 have rF : Row (w1.alloc (.cells #[.func (.func 112) #[.pointer (some ⟨P.p, 0, none⟩)] #[]] 47)) w1.heap.size 47 1 (.slice (some ⟨w1.heap.size, 0, none⟩) 1 1) 1 [.func (.func 112) #[.pointer (some ⟨P.p, 0, none⟩)] #[]] := by
  have := Row.new w1 #[.func (.func 112) #[.pointer (some ⟨P.p, 0, none⟩)] #[]] 47 1 1 (0, 0) (free_zero _) (by unfold maxLen; omega) rfl (Nat.le_refl _)
  simpa using this
 have fF : Fr [] w1 (w1.alloc (.cells #[.func (.func 112) #[.pointer (some ⟨P.p, 0, none⟩)] #[]] 47)) := (Fr.refl _ _).alloc _
 have zF : (w1.alloc (.cells #[.func (.func 112) #[.pointer (some ⟨P.p, 0, none⟩)] #[]] 47)).heap.size = w1.heap.size + 1 := by simp
 obtain ⟨wF, hwF⟩ : ∃ y, w1.alloc (.cells #[.func (.func 112) #[.pointer (some ⟨P.p, 0, none⟩)] #[]] 47) = y := ⟨_, rfl⟩
 rw [hwF] at rF fF zF
 rw [z1] at zF
 have rF' := rF
 rw [z1] at rF'
 have kS := Blk.new wF 186 #[.slice (some ⟨gB + 1, 0, none⟩) 1 1]
 have fS : Fr [] wF (wF.alloc (.cells #[.slice (some ⟨gB + 1, 0, none⟩) 1 1] 186)) := (Fr.refl _ _).alloc _
 obtain ⟨wS, hwS⟩ : ∃ y, wF.alloc (.cells #[.slice (some ⟨gB + 1, 0, none⟩) 1 1] 186) = y := ⟨_, rfl⟩
 have zS' : (wF.alloc (.cells #[.slice (some ⟨gB + 1, 0, none⟩) 1 1] 186)).heap.size = wF.heap.size + 1 := by simp
 rw [hwS] at kS fS zS'
 rw [zF] at kS zS'
 have cS2 := (fF.trans_nil fS).cell (by simp) c2
 have cSB := (fF.trans_nil fS).cell (by simp) cB
 have HS0 := Lib.hid (And.intro (rF'.keep_nil fS) (And.intro kS (fF.trans_nil fS)))
 clear kF rF rF' fF kS fS
 have HH := Lib.hid (And.intro h1 (And.intro G (And.intro hm (And.intro (hK.keep f1) (And.intro hz hu)))))
 have HK1 := Lib.hid (And.intro k1 f1)
 have hlt := h.lts
 rw [hgB] at hlt
 have HLT := Lib.hid hlt
 obtain ⟨us, hus⟩ : ∃ us, M.J.used = us := ⟨_, rfl⟩
 obtain ⟨bg, hbg⟩ : ∃ bg, M.J.begun = bg := ⟨_, rfl⟩
 rw [hus] at cu
 rw [hbg] at cb
 have HUB := Lib.hid (And.intro hus hbg)
 clear h h1 G hm hK hz hu k1 f1 hlt hus hbg
 by_cases hu0 : us = 0
 ·subst hu0
  cases bg
  ·have HC := Lib.hid (show chkC M = chkM M from if_neg (by rw [HUB.out.1, HUB.out.2]; simp))
   refine (callsIn_wide (n := 5)).1 ?_
   refine callsIn_of_wp_marks Tryz.func93 rfl trivial ?_ rfl
   simp only [Tryz.ntmps93, List.size_toArray, List.length_cons, List.length_nil, Nat.reduceAdd, Nat.reduceSub, Array.replicate_succ, Array.replicate_zero, List.push_toArray, List.append_toArray, List.nil_append, List.cons_append]
   refine wpIn_wide.2 ?_
   go_wp2_with (first | (go_at_call 100; refine cs.mono ?_; rintro e w' ⟨rfl, rfl⟩) | (go_at_call 142; refine cu.mono ?_; rintro e w' ⟨rfl, rfl⟩) | (go_at_call 143; refine cb.mono ?_; rintro e w' ⟨rfl, rfl⟩) | (go_at_call 48; refine (srtAll_any _ _).mono ?_; rintro e w' ⟨rfl, rfl⟩))
   obtain ⟨rS, kS, fS⟩ := HS0.out
   have kA := Blk.new wS 97 #[.pointer (some ⟨P.s, 0, none⟩)]
   have fL : Fr [] wS (wS.alloc (.cells #[.pointer (some ⟨P.s, 0, none⟩)] 97)) := (Fr.refl _ _).alloc _
   obtain ⟨wL, hwL⟩ : ∃ y, wS.alloc (.cells #[.pointer (some ⟨P.s, 0, none⟩)] 97) = y := ⟨_, rfl⟩
   rw [hwL] at kA fL ⊢
   rw [zS'] at kA
   have kL := kS.keep_nil fL
   have rL := rS.keep_nil fL
   have f1L := fS.trans_nil fL
   have hwLz := kA.lt
   obtain ⟨f, hsr0, hdv⟩ := HH.out.1.srt
   have hsr := hsr0.keep_nil f1L
   obtain ⟨zs, hzs⟩ : ∃ zs, zs = keysZ M.dirty := ⟨_, rfl⟩
   have hkl : KeyL f zs := by rw [hzs]; exact keyL_dirty hdv
   have ow : ownC wL (gB + 1 + 1) = some (gB + 1) := ownC_blk kL
   obtain ⟨t1, t2, t3, t4, -⟩ := HLT.out
   have HSEQ := Lib.hid (srtAll1_stopsK 4 (by omega) (gB + 1 + 1 + 1) P.s P.b 4096 (KeepO (gB + 1 + 1) wL.heap.size) hkl (by omega) wL (kA.cell 0) hsr (fun W hW => keepS_box hW (by omega) (by omega) (by omega) (by omega) (by omega) (by omega) (by omega) (Nat.le_refl _) (fun k hk => by rw [ow] at hk; cases hk; omega)))
   have HLW := Lib.hid (And.intro f1L (And.intro hdv hzs))
   have HKL := Lib.hid hkl
   clear hsr0 hwL hwS hwF hw1 hgB cS2 cSB cB c0 c1 c2 kS rS fS fL ow hsr hdv hzs kA cs cu cb
   refine (wpIn_wide (n := 5)).1 ?_
   apply wpIn_rangeFunc_H2 (hro := rfl) (h1 := by omega) (gf := 87) (lb := #[.pointer (some ⟨gB + 1 + 1 + 1, 0, none⟩)]) (hg := rfl) (hFg := trivial) (eg := enters_of Tryz.func87 (by kernel_rfl) rfl) (encs := encP f) (Kp := KeepO (gB + 1 + 1) wL.heap.size) (hseq := HSEQ.out) (hKt := keepO_t) (hKb := keepO_b (Nat.le_refl _) (by omega)) (hb0 := Below.refl _ _) (hps := fun _ => rfl) (I := ChkI w1 P M gB (gB + 1 + 1) f) (Ix := fun _ _ _ => False) (hI := chkI_own f1L.size) (hIx := fun _ _ _ _ _ h => h.elim) (h0 := chkI_zero kL rL f1L z1) (Bx := ChkB w1 M f) (hBx := chkB_own)
   case hassign =>
    intro l pre x W K hI hK
    obtain ⟨A, c, l', e1, e2, e3⟩ := dir_shape HLW.out.2.1 x
    have ka := Blk.new W 3 #[.int .i64 x.1.1]
    have fa : Fr [] W (W.alloc (.cells #[.int .i64 x.1.1] 3)) := (Fr.refl _ _).alloc _
    obtain ⟨Wa, hWa⟩ : ∃ y, W.alloc (.cells #[.int .i64 x.1.1] 3) = y := ⟨_, rfl⟩
    have za : Wa.heap.size = W.heap.size + 1 := by rw [← hWa]; simp
    rw [hWa] at ka fa
    have kb := Blk.new Wa 27 #[x.1.2]
    have fb : Fr [] Wa (Wa.alloc (.cells #[x.1.2] 27)) := (Fr.refl _ _).alloc _
    obtain ⟨Wb, hWb⟩ : ∃ y, Wa.alloc (.cells #[x.1.2] 27) = y := ⟨_, rfl⟩
    rw [hWb] at kb fb
    rw [za] at kb
    obtain ⟨v, fs, i1, i2, i3, i4⟩ := id hI
    have hBX : ChkB w1 M f x W.heap.size (W.heap.size + 1) Wb := ⟨ka.keep_nil fb, kb, i3.size, Nat.le_trans i3.size (Nat.le_succ _), l', e2, e3.keep_nil (i3.trans_nil (fa.trans_nil fb))⟩
    have fab := fa.trans_nil fb
    have hk1 : KeepsFrom wL.heap.size W Wb := (keepsO_of_fr fab (fun k hk => by cases hk)).from _
    have hk2 : KeepO (gB + 1 + 1) wL.heap.size W Wb := by
     refine KeepO.of_fr fab (fun i hi => by cases hi) (fun k hk => .inl ?_)
     rw [← hk]
     exact (ownC_blk i1).trans (ownC_blk (i1.keep_nil fab)).symm
    have hi2 : ChkI w1 P M gB (gB + 1 + 1) f pre Wb := ⟨v, fs, i1.keep_nil fab, i2.keep_nil fab, i3.trans_nil fab, i4⟩
    have HQ := Lib.hid (And.intro hk1 (And.intro hk2 (And.intro hi2 hBX)))
    obtain ⟨G2, hG2⟩ : ∃ G2, W.heap.size = G2 := ⟨_, rfl⟩
    rw [hG2] at HQ za
    clear i1 i2 i3 i4 hBX fab hk1 hk2 hi2 ka fa kb fb e2 e3 hI
    rw [e1] at hWb
    gi_wp2
    rw [← e1]
    obtain ⟨G3, hG3⟩ : ∃ G3, G2 + 1 = G3 := ⟨_, rfl⟩
    have hq := HQ.out
    rw [hG3] at hq ⊢
    exact hK G2 G3 Wb hq.1 hq.2.1 hq.2.2.1 hq.2.2.2
   case hbody =>
    intro l pre x g2 g3 W hI hB hlen
    obtain ⟨v, fs, b1, cr, F1, hle⟩ := id hI
    obtain ⟨k2, k3, l2, l3, l', e2, e3⟩ := hB
    have cb : W.cell? ⟨gB + 1 + 1, 0, none⟩ = some v := b1.cell 0
    have zb := b1.frozen 0
    have hsl : ((chS M.dirty (pre.map (·.1.1))).map CSt.st).length = pre.length + 1 := by simp [chS, wrD]
    have r1 := cr.row
    rw [hsl] at r1
    have HB := Lib.hid (And.intro k2 (And.intro k3 (And.intro l2 (And.intro l3 (And.intro e2 e3)))))
    have HCR := Lib.hid (And.intro cr (And.intro F1 hle))
    clear cr k2 k3 l2 l3 e2 e3 hI
    gi_upto_region 8 with (fail)
    refine wpIn_region_roundL (by kernel_rfl) (by rintro ⟨a, w, h⟩; exact h) ?_
    go_wp2_with (at_builtin; refine wpList_app rfl rfl slFn w1.heap.size _ (pre.length + 1) fs rfl (r1.alloc _) _ 1 1 [_] rfl rfl (Rd.one _ _ _) (by intro u hu; rw [List.mem_singleton.1 hu]; rfl) (fun h => by cases h) (by omega) (by have := F1.size; simp; omega) ?_; intro v7 wx q1 q2 q3 q4; obtain ⟨A7, c7, rfl, -, -, -, -, -⟩ := q1.shape; have q2' : Fr v.ownBlock.toList (W.alloc (.cells #[.func (.func 144) #[] #[.pointer (some ⟨gB, 0, none⟩), .pointer (some ⟨g2, 0, none⟩), .pointer (some ⟨g3, 0, none⟩)]] 47)) wx := q2; have fa : Fr [] W (W.alloc (.cells #[.func (.func 144) #[] #[.pointer (some ⟨gB, 0, none⟩), .pointer (some ⟨g2, 0, none⟩), .pointer (some ⟨g3, 0, none⟩)]] 47)) := (Fr.refl _ _).alloc _; have hno : gB + 1 + 1 ∉ v.ownBlock.toList := fun hm => (r1.ne_blk b1 (by decide)) (mem_own.1 hm); have bx := (b1.keep_nil fa).keep q2' hno; have cbx : wx.cell? ⟨gB + 1 + 1, 0, none⟩ = some v := bx.cell 0; have zbx := bx.frozen 0; have HX := Lib.hid (And.intro q1 (And.intro q2' (And.intro q3 (And.intro fa bx)))); clear q1 q2 q3 q4 q2' fa hno bx)
    obtain ⟨q1, q2, q3, fa, bx⟩ := HX.out
    obtain ⟨cr, F1, hle⟩ := HCR.out
    obtain ⟨k2, k3, l2, l3, e2, e3⟩ := HB.out
    obtain ⟨z1', z2, z3, z4⟩ := box_fr (v' := .slice A7 (pre.length + 1 + 1) c7) b1 r1 fa q2 q3 F1.size bx wL.heap.size
    have fs1 : Fr [gB + 1 + 1] wx (wx.setCell ⟨gB + 1 + 1, 0, none⟩ (.slice A7 (pre.length + 1 + 1) c7)) := (Fr.refl _ _).setCell (.inl (by simp)) _
    have hT : ∀ e, e ≠ 186 → NoTy wx [gB + 1 + 1] e := fun e he i hi cs fz hc => by
     rw [List.mem_singleton.1 hi, show wx.heap[gB + 1 + 1]? = _ from bx] at hc
     cases hc
     exact he rfl
    have sv : CStV W gB P (.func (.func 144) #[] #[.pointer (some ⟨gB, 0, none⟩), .pointer (some ⟨g2, 0, none⟩), .pointer (some ⟨g3, 0, none⟩)]) (.st (.wr x.1.1 l')) := ⟨gB, g2, g3, _, rfl, HK1.out.1.keep_nil F1, k2, k3, e3, Nat.le_refl _, by omega, by omega⟩
    have ca := (cr.keep_nil fa).app (us := [_]) (ts := [.st (.wr x.1.1 l')]) (fun i a b => by
     obtain rfl : i = 0 := by simp at a; omega
     exact sv.keepT fa (fun _ _ _ => NoTy.nil _ _)) q2 (by rw [hsl]; exact q1)
    have hst : (chS M.dirty ((pre ++ [x]).map (·.1.1))).map CSt.st = (chS M.dirty (pre.map (·.1.1))).map CSt.st ++ [.st (.wr x.1.1 l')] := by
     simp [chS, wrD, e2]
    refine ⟨z1', z2, _, fs ++ [.func (.func 144) #[] #[.pointer (some ⟨gB, 0, none⟩), .pointer (some ⟨g2, 0, none⟩), .pointer (some ⟨g3, 0, none⟩)]], z4, ?_, F1.trans z3 (fun i hi => .inr ?_), hle⟩
    ·rw [hst]
     exact ⟨ca.row.keepT fs1 (hT _ (by decide)), fun i a b => (ca.each i a b).keepT fs1 (fun e _ he => hT e he)⟩
    ·rcases List.mem_cons.1 hi with rfl | hi
     ·exact hle
     ·exact (r1.lt i (mem_own.1 hi)).1
   case hstop =>
    intro D c pre W hD hS hIx hK
    exact hIx.elim
   case hdone =>
    intro D xs W hD hS hI hDef
    subst hS
    obtain ⟨v, fs, b1, cr, F1, hle⟩ := hI
    rw [pairsF_keys HKL.out] at cr
    have hsl : ((chS M.dirty zs).map CSt.st).length = zs.length + 1 := by simp [chS, wrD]
    obtain ⟨wD, hwD⟩ : ∃ wD, W.drew = wD := ⟨_, rfl⟩
    have fD : Fr [] W wD := by rw [← hwD]; exact (Fr.refl [] _).drew
    have f1D := F1.trans_nil fD
    have hwd := HH.out.1.keep_nil f1D
    have kBD := HK1.out.1.keep_nil f1D
    have bD := b1.keep_nil fD
    have cD := cr.keep_nil fD
    have rD := cD.row
    rw [hsl] at rD
    have hdfD := fD.blk (by simp) hDef
    have hsz : w1.heap.size ≤ wD.heap.size := f1D.size
    have hzl : zs.length ≤ 4096 := by rw [HLW.out.2.2]; exact keysZ_le _
    have hDw : D < wD.heap.size := (Array.getElem?_eq_some_iff.1 hdfD).1
    have hS : ∀ (F : List Nat) (w' : World), Fr F wD w' → gB ∉ F → gB + 1 + 1 ∉ F → P.c ∉ F → (w'.cell? ⟨gB, 0, none⟩ = some (.pointer (some ⟨P.c, 0, none⟩)) ∧ w'.cell? ⟨gB + 1 + 1, 0, none⟩ = some v ∧ w'.cell? ⟨P.c, 0, none⟩ = some (.pointer (some ⟨P.p, 0, none⟩)) ∧ w'.cell? ⟨P.c, 1, none⟩ = some (.pointer (some ⟨P.g, 0, none⟩))) := fun F w' f n1 n2 n3 =>
     ⟨f.cell n1 (kBD.cell 0), f.cell n2 (bD.cell 0), f.cell n3 hwd.c0, f.cell n3 hwd.c1⟩
    have MK := Lib.hid hS
    have hS0 := hS [] _ (Fr.refl _ _) (by simp) (by simp) (by simp)
    have HW := Lib.hid (And.intro f1D (And.intro kBD (And.intro bD (And.intro cD (And.intro rD (And.intro hwd (And.intro hdfD (And.intro hD (And.intro hsl (And.intro hsz (And.intro hzl hDw)))))))))))
    clear cr b1 F1 fD f1D hwd kBD bD cD hdfD hD hDef hS
    go_upto_region 9 with fail
    refine wp_noP ?_
    refine wp_region_held_drew (S := fun w' => w'.cell? ⟨gB, 0, none⟩ = some (.pointer (some ⟨P.c, 0, none⟩)) ∧ w'.cell? ⟨gB + 1 + 1, 0, none⟩ = some v ∧ w'.cell? ⟨P.c, 0, none⟩ = some (.pointer (some ⟨P.p, 0, none⟩)) ∧ w'.cell? ⟨P.c, 1, none⟩ = some (.pointer (some ⟨P.g, 0, none⟩))) (by kernel_rfl) (by rw [hwD]; exact hS0) (fun hHeld => ?_)
    rw [hwD] at hHeld ⊢
    clear hS0 hwD
    refine tw 0 45 hHeld ?_
    refine tw 1 46 hHeld ?_
    refine tw 2 47 hHeld ?_
    refine tw 3 48 hHeld ?_
    refine tw 4 49 hHeld ?_
    refine tw 5 50 hHeld ?_
    refine tw 6 51 hHeld ?_
    refine tw 7 52 hHeld ?_
    refine tw 8 53 hHeld ?_
    refine tw 9 54 hHeld ?_
    refine tw 10 55 hHeld ?_
    refine tw 11 56 hHeld ?_
    refine tc 12 (fun K hK => ?_)
    go_simp
    refine hK.out _ _ (MK.out [] _ ((Fr.refl [] wD).alloc _) (by simp) (by simp) (by simp)) (fun hHx => ?_)
    clear hK hHeld
    try simp only [Act.put, p1, p2, p3]
    refine tc 13 (fun K hK => ?_)
    refine wp_app rfl slFn w1.heap.size _ (zs.length + 1) _ rfl (rD.alloc _) _ 2 _ [.func (.func 112) #[.pointer (some ⟨P.p, 0, none⟩)] #[], .func (.func 145) #[.pointer (some ⟨P.g, 0, none⟩)] #[]] rfl rfl (Rd.of_blk (Blk.new wD 47 #[.func (.func 112) #[.pointer (some ⟨P.p, 0, none⟩)] #[], .func (.func 145) #[.pointer (some ⟨P.g, 0, none⟩)] #[]]) 0 _ (fun j u hu => by rw [Nat.zero_add]; simpa using hu)) (by intro u hu; simp at hu; rcases hu with rfl | rfl <;> rfl) (fun h => by cases h) (by omega) (by simp; omega) (fun va wa q1 q2 q3 q4 => ?_)
    replace q2 : Fr v.ownBlock.toList (wD.alloc (.cells #[.func (.func 112) #[.pointer (some ⟨P.p, 0, none⟩)] #[], .func (.func 145) #[.pointer (some ⟨P.g, 0, none⟩)] #[]] 47)) wa := q2
    have fa : Fr [] wD (wD.alloc (.cells #[.func (.func 112) #[.pointer (some ⟨P.p, 0, none⟩)] #[], .func (.func 145) #[.pointer (some ⟨P.g, 0, none⟩)] #[]] 47)) := (Fr.refl [] wD).alloc _
    obtain ⟨f1D, kBD, bD, cD, rD', hwd, hdfD, hDL, hsl, hsz, hzl, hDw⟩ := HW.out
    have fDa : Fr v.ownBlock.toList wD wa := fa.nil.trans q2 (fun i hi => .inl hi)
    have n1 : gB ∉ v.ownBlock.toList := fun hm => rD.ne_blk kBD (by decide) (mem_own.1 hm)
    have n2 : gB + 1 + 1 ∉ v.ownBlock.toList := fun hm => rD.ne_blk bD (by decide) (mem_own.1 hm)
    have n3 : P.c ∉ v.ownBlock.toList := fun hm => rD.ne_blk hwd.blk (by decide) (mem_own.1 hm)
    have hHy := MK.out _ wa fDa n1 n2 n3
    refine hK.out _ _ hHy (fun hHz => ?_)
    clear hK hHx hHz
    try simp only [Act.put, p1, p2, p3]
    have ca := (cD.keep_nil fa).app (us := [.func (.func 112) #[.pointer (some ⟨P.p, 0, none⟩)] #[], .func (.func 145) #[.pointer (some ⟨P.g, 0, none⟩)] #[]]) (ts := [.st .fl, .rs]) (fun i a b => by
     match i, a, b with
     | 0, _, _ => rfl
     | 1, _, _ => rfl) q2 (by rw [hsl]; exact q1)
    have hst : (chS M.dirty zs).map CSt.st ++ [CSt.st Stp.fl, CSt.rs] = ([Stp.fl] ++ wrD M.dirty zs ++ [Stp.fl]).map CSt.st ++ [CSt.rs] := by simp [chS]
    rw [hst] at ca
    have hss : ([Stp.fl] ++ wrD M.dirty zs ++ [Stp.fl]).length = zs.length + 2 := by simp [wrD]
    have ra := ca.row
    have hal : (([Stp.fl] ++ wrD M.dirty zs ++ [Stp.fl]).map CSt.st ++ [CSt.rs]).length = zs.length + 1 + 2 := by rw [List.length_append, List.length_map, hss]; rfl
    rw [hal] at ra
    obtain ⟨Aa, c9, rfl, -, -, -, -, -⟩ := ra.shape
    have fwa : Fr [] w1 wa := f1D.trans fDa (fun i hi => .inr (rD.lt i (mem_own.1 hi)).1)
    have hwa := HH.out.1.keep_nil fwa
    have G := HH.out.2.1
    have hzs := HLW.out.2.2
    obtain ⟨hh1, -⟩ := G.home
    obtain ⟨cc0, -⟩ := G.chk HH.out.2.2.1
    rw [← hzs] at hh1 cc0
    have hown : ∀ i ∈ P.own O, i < gB := fun i hi => by
     obtain ⟨a1, a2, a3, a4, a5⟩ := HLT.out
     unfold CaP.own at hi
     simp only [List.mem_cons] at hi
     rcases hi with rfl | rfl | rfl | hi
     ·exact a1
     ·exact a2
     ·exact a4
     ·exact a5 i hi
    have c9r : CRow wa 0 gB P (.slice Aa (zs.length + 1 + 2) c9) (fs ++ [.func (.func 112) #[.pointer (some ⟨P.p, 0, none⟩)] #[], .func (.func 145) #[.pointer (some ⟨P.g, 0, none⟩)] #[]]) (([Stp.fl] ++ wrD M.dirty zs ++ [Stp.fl]).map CSt.st ++ [CSt.rs]) := ⟨by rw [hal]; exact ra.mono (Nat.zero_le _), ca.each⟩
    have cr2 := caSteps_any hwa hh1 cc0 G.jok (HH.out.2.2.2.1.keep fwa) c9r (by rw [hss]) (by omega) hown (fun g hg => by have := (ra.lt g hg).1; omega) HH.out.2.2.2.2.1 (fun x => by have := HH.out.2.2.2.2.2 x; omega)
    obtain ⟨M', hM'⟩ : ∃ M' : CaM, (⟨(resM (runS M.D ([Stp.fl] ++ wrD M.dirty zs ++ [Stp.fl])).2 M.J).2.1, (resM (runS M.D ([Stp.fl] ++ wrD M.dirty zs ++ [Stp.fl])).2 M.J).2.2, M.dirty⟩ : CaM) = M' := ⟨_, rfl⟩
    have HM := Lib.hid (fun _ : Unit => show chkM M = { M' with dirty := fun _ => none } by rw [← hM', hzs]; rfl)
    rw [hM'] at cr2
    have hdfa : wa.heap[D]? = some (.deferred (some [])) := fDa.blk (fun hm => by have := rD.isCells (mem_own.1 hm) hdfD; cases this) hdfD
    have HA := Lib.hid (And.intro fwa (And.intro hdfa (And.intro hown (And.intro hDL (Nat.lt_of_lt_of_le hDw fDa.size)))))
    have hkB := kBD.keep fDa n1
    have hbS := bD.keep fDa n2
    have HKB := Lib.hid (And.intro hkB hbS)
    clear q1 q2 q3 q4 fa f1D kBD bD cD rD' rD hwd hdfD hDL hsl hsz hzl hDw fDa n1 n2 n3 ca c9r ra hwa hh1 cc0 hss hst hal hM' hdfa fwa hkB hbS G hown hzs
    refine tc 14 (fun K hK => ?_)
    go_simp
    refine cr2.mono ?_
    rintro e w5 ⟨rfl, ha⟩
    obtain ⟨O5, h5, ho5, f5⟩ := id ha
    have n1 : gB ∉ P.own O := fun hm => by have := HA.out.2.2.1 _ hm; omega
    have n2 : gB + 1 + 1 ∉ P.own O := fun hm => by have := HA.out.2.2.1 _ hm; omega
    have hHx : w5.cell? ⟨gB, 0, none⟩ = some (.pointer (some ⟨P.c, 0, none⟩)) ∧ w5.cell? ⟨gB + 1 + 1, 0, none⟩ = some v ∧ w5.cell? ⟨P.c, 0, none⟩ = some (.pointer (some ⟨P.p, 0, none⟩)) ∧ w5.cell? ⟨P.c, 1, none⟩ = some (.pointer (some ⟨P.g, 0, none⟩)) := ⟨f5.cell n1 (HKB.out.1.cell 0), f5.cell n2 (HKB.out.2.cell 0), h5.c0, h5.c1⟩
    refine hK.out _ _ hHx (fun hHz => ?_)
    clear hK cr2 hHy hHz
    try simp only [Act.put, p1, p2, p3]
    have hHeld := hHx
    clear hHx
    refine tw 15 7 hHeld ?_
    refine wpAnyH_done (by kernel_rfl) ?_ _
    unfold noP
    dsimp only
    have cB5 := hHeld.1
    have c25 := h5.c2
    obtain ⟨fv5, hs5, -⟩ := h5.srt
    have cc := srtClear_any hs5
    have H5 := Lib.hid (And.intro h5 (And.intro ho5 f5))
    clear hHeld ha h5 ho5 f5 hs5 n1 n2
    go_wp2_with fail
    refine cc.mono ?_
    rintro e w6 ⟨rfl, hs6, f6⟩
    have H6 := Lib.hid (And.intro hs6 f6)
    clear cc hs6 f6 cB5 c25
    go_wp2_with fail
    obtain ⟨h5, ho5, f5⟩ := H5.out
    obtain ⟨hs6, f6⟩ := H6.out
    obtain ⟨fwa, hdfa, hown, hDL, hDwa⟩ := HA.out
    have hDg : gB + 1 + 1 + 1 < D := by omega
    have hdf6 : w6.heap[D]? = some (.deferred (some [])) := f6.blk (fun hm => by have := List.mem_singleton.1 hm; omega) (f5.blk (fun hm => by have := hown _ hm; omega) hdfa)
    refine ⟨by simp, .inl ⟨_, _, rfl, run_takeDeferred hdf6, ?_⟩⟩
    refine ⟨.int .i64 0, by simp [results, Tryz.f93, go_sem], rfl, ?_⟩
    have h6 := h5.clear hs6 f6
    have fP : Fr [D] w6 (w6.putObj D (.deferred none)) := fr_putObjC _
    have hO5 : D ∉ O5 := fun hm => by
     rcases ho5 D hm with h | h
     ·have := hown D (by unfold CaP.own; simp [h]); omega
     ·omega
    have h8 : NoTy w6 [D] 5 := fun i hi cs fz hc => by
     rw [List.mem_singleton.1 hi, hdf6] at hc
     cases hc
    have h7 := h6.keep fP (by simp; omega) (by simp; omega) (by simp; omega) (by simp; omega) (fun i hi hm => hO5 (by rw [← List.mem_singleton.1 hm]; exact hi)) h8
    rw [HC.out, HM.out ()]
    have hw1a := HK1.out.2.trans_nil fwa
    have hszw := HK1.out.2.size
    refine ⟨O5, h7, fun i hi => ?_, ((hw1a.nil.trans f5 (fun i hi => .inl hi)).trans f6 (fun i hi => .inl (by rw [List.mem_singleton.1 hi]; unfold CaP.own; simp))).trans fP (fun i hi => .inr (by rw [List.mem_singleton.1 hi]; omega))⟩
    rcases ho5 i hi with h | h
    ·exact .inl h
    ·exact .inr (Nat.le_trans hw1a.size h)
  ·go_enter Tryz.func93, Tryz.ntmps93
   go_wp2_with (first | (go_at_call 100; refine cs.mono ?_; rintro e w' ⟨rfl, rfl⟩) | (go_at_call 142; refine cu.mono ?_; rintro e w' ⟨rfl, rfl⟩) | (go_at_call 143; refine cb.mono ?_; rintro e w' ⟨rfl, rfl⟩))
   go_ret
   exact ⟨rfl, by rw [chkC, if_pos HUB.out]; exact AftC.same HH.out.1 HK1.out.2⟩
 ·have HC := Lib.hid (show chkC M = chkM M from if_neg (by rw [HUB.out.1]; simp [hu0]))
  have dz : (us == 0) = false := by simpa using hu0
  refine (callsIn_wide (n := 5)).1 ?_
  refine callsIn_of_wp_marks Tryz.func93 rfl trivial ?_ rfl
  simp only [Tryz.ntmps93, List.size_toArray, List.length_cons, List.length_nil, Nat.reduceAdd, Nat.reduceSub, Array.replicate_succ, Array.replicate_zero, List.push_toArray, List.append_toArray, List.nil_append, List.cons_append]
  refine wpIn_wide.2 ?_
  go_wp2_with (first | (go_at_call 100; refine cs.mono ?_; rintro e w' ⟨rfl, rfl⟩) | (go_at_call 142; refine cu.mono ?_; rintro e w' ⟨rfl, rfl⟩) | (go_at_call 143; refine cb.mono ?_; rintro e w' ⟨rfl, rfl⟩) | (go_at_call 48; refine (srtAll_any _ _).mono ?_; rintro e w' ⟨rfl, rfl⟩))
  obtain ⟨rS, kS, fS⟩ := HS0.out
  have kA := Blk.new wS 97 #[.pointer (some ⟨P.s, 0, none⟩)]
  have fL : Fr [] wS (wS.alloc (.cells #[.pointer (some ⟨P.s, 0, none⟩)] 97)) := (Fr.refl _ _).alloc _
  obtain ⟨wL, hwL⟩ : ∃ y, wS.alloc (.cells #[.pointer (some ⟨P.s, 0, none⟩)] 97) = y := ⟨_, rfl⟩
  rw [hwL] at kA fL ⊢
  rw [zS'] at kA
  have kL := kS.keep_nil fL
  have rL := rS.keep_nil fL
  have f1L := fS.trans_nil fL
  have hwLz := kA.lt
  obtain ⟨f, hsr0, hdv⟩ := HH.out.1.srt
  have hsr := hsr0.keep_nil f1L
  obtain ⟨zs, hzs⟩ : ∃ zs, zs = keysZ M.dirty := ⟨_, rfl⟩
  have hkl : KeyL f zs := by rw [hzs]; exact keyL_dirty hdv
  have ow : ownC wL (gB + 1 + 1) = some (gB + 1) := ownC_blk kL
  obtain ⟨t1, t2, t3, t4, -⟩ := HLT.out
  have HSEQ := Lib.hid (srtAll1_stopsK 4 (by omega) (gB + 1 + 1 + 1) P.s P.b 4096 (KeepO (gB + 1 + 1) wL.heap.size) hkl (by omega) wL (kA.cell 0) hsr (fun W hW => keepS_box hW (by omega) (by omega) (by omega) (by omega) (by omega) (by omega) (by omega) (Nat.le_refl _) (fun k hk => by rw [ow] at hk; cases hk; omega)))
  have HLW := Lib.hid (And.intro f1L (And.intro hdv hzs))
  have HKL := Lib.hid hkl
  clear hsr0 hwL hwS hwF hw1 hgB cS2 cSB cB c0 c1 c2 kS rS fS fL ow hsr hdv hzs kA cs cu cb
  refine (wpIn_wide (n := 5)).1 ?_
  apply wpIn_rangeFunc_H2 (hro := rfl) (h1 := by omega) (gf := 87) (lb := #[.pointer (some ⟨gB + 1 + 1 + 1, 0, none⟩)]) (hg := rfl) (hFg := trivial) (eg := enters_of Tryz.func87 (by kernel_rfl) rfl) (encs := encP f) (Kp := KeepO (gB + 1 + 1) wL.heap.size) (hseq := HSEQ.out) (hKt := keepO_t) (hKb := keepO_b (Nat.le_refl _) (by omega)) (hb0 := Below.refl _ _) (hps := fun _ => rfl) (I := ChkI w1 P M gB (gB + 1 + 1) f) (Ix := fun _ _ _ => False) (hI := chkI_own f1L.size) (hIx := fun _ _ _ _ _ h => h.elim) (h0 := chkI_zero kL rL f1L z1) (Bx := ChkB w1 M f) (hBx := chkB_own)
  case hassign =>
   intro l pre x W K hI hK
   obtain ⟨A, c, l', e1, e2, e3⟩ := dir_shape HLW.out.2.1 x
   have ka := Blk.new W 3 #[.int .i64 x.1.1]
   have fa : Fr [] W (W.alloc (.cells #[.int .i64 x.1.1] 3)) := (Fr.refl _ _).alloc _
   obtain ⟨Wa, hWa⟩ : ∃ y, W.alloc (.cells #[.int .i64 x.1.1] 3) = y := ⟨_, rfl⟩
   have za : Wa.heap.size = W.heap.size + 1 := by rw [← hWa]; simp
   rw [hWa] at ka fa
   have kb := Blk.new Wa 27 #[x.1.2]
   have fb : Fr [] Wa (Wa.alloc (.cells #[x.1.2] 27)) := (Fr.refl _ _).alloc _
   obtain ⟨Wb, hWb⟩ : ∃ y, Wa.alloc (.cells #[x.1.2] 27) = y := ⟨_, rfl⟩
   rw [hWb] at kb fb
   rw [za] at kb
   obtain ⟨v, fs, i1, i2, i3, i4⟩ := id hI
   have hBX : ChkB w1 M f x W.heap.size (W.heap.size + 1) Wb := ⟨ka.keep_nil fb, kb, i3.size, Nat.le_trans i3.size (Nat.le_succ _), l', e2, e3.keep_nil (i3.trans_nil (fa.trans_nil fb))⟩
   have fab := fa.trans_nil fb
   have hk1 : KeepsFrom wL.heap.size W Wb := (keepsO_of_fr fab (fun k hk => by cases hk)).from _
   have hk2 : KeepO (gB + 1 + 1) wL.heap.size W Wb := by
    refine KeepO.of_fr fab (fun i hi => by cases hi) (fun k hk => .inl ?_)
    rw [← hk]
    exact (ownC_blk i1).trans (ownC_blk (i1.keep_nil fab)).symm
   have hi2 : ChkI w1 P M gB (gB + 1 + 1) f pre Wb := ⟨v, fs, i1.keep_nil fab, i2.keep_nil fab, i3.trans_nil fab, i4⟩
   have HQ := Lib.hid (And.intro hk1 (And.intro hk2 (And.intro hi2 hBX)))
   obtain ⟨G2, hG2⟩ : ∃ G2, W.heap.size = G2 := ⟨_, rfl⟩
   rw [hG2] at HQ za
   clear i1 i2 i3 i4 hBX fab hk1 hk2 hi2 ka fa kb fb e2 e3 hI
   rw [e1] at hWb
   gi_wp2
   rw [← e1]
   obtain ⟨G3, hG3⟩ : ∃ G3, G2 + 1 = G3 := ⟨_, rfl⟩
   have hq := HQ.out
   rw [hG3] at hq ⊢
   exact hK G2 G3 Wb hq.1 hq.2.1 hq.2.2.1 hq.2.2.2
  case hbody =>
   intro l pre x g2 g3 W hI hB hlen
   obtain ⟨v, fs, b1, cr, F1, hle⟩ := id hI
   obtain ⟨k2, k3, l2, l3, l', e2, e3⟩ := hB
   have cb : W.cell? ⟨gB + 1 + 1, 0, none⟩ = some v := b1.cell 0
   have zb := b1.frozen 0
   have hsl : ((chS M.dirty (pre.map (·.1.1))).map CSt.st).length = pre.length + 1 := by simp [chS, wrD]
   have r1 := cr.row
   rw [hsl] at r1
   have HB := Lib.hid (And.intro k2 (And.intro k3 (And.intro l2 (And.intro l3 (And.intro e2 e3)))))
   have HCR := Lib.hid (And.intro cr (And.intro F1 hle))
   clear cr k2 k3 l2 l3 e2 e3 hI
   gi_upto_region 8 with (fail)
   refine wpIn_region_roundL (by kernel_rfl) (by rintro ⟨a, w, h⟩; exact h) ?_
   go_wp2_with (at_builtin; refine wpList_app rfl rfl slFn w1.heap.size _ (pre.length + 1) fs rfl (r1.alloc _) _ 1 1 [_] rfl rfl (Rd.one _ _ _) (by intro u hu; rw [List.mem_singleton.1 hu]; rfl) (fun h => by cases h) (by omega) (by have := F1.size; simp; omega) ?_; intro v7 wx q1 q2 q3 q4; obtain ⟨A7, c7, rfl, -, -, -, -, -⟩ := q1.shape; have q2' : Fr v.ownBlock.toList (W.alloc (.cells #[.func (.func 144) #[] #[.pointer (some ⟨gB, 0, none⟩), .pointer (some ⟨g2, 0, none⟩), .pointer (some ⟨g3, 0, none⟩)]] 47)) wx := q2; have fa : Fr [] W (W.alloc (.cells #[.func (.func 144) #[] #[.pointer (some ⟨gB, 0, none⟩), .pointer (some ⟨g2, 0, none⟩), .pointer (some ⟨g3, 0, none⟩)]] 47)) := (Fr.refl _ _).alloc _; have hno : gB + 1 + 1 ∉ v.ownBlock.toList := fun hm => (r1.ne_blk b1 (by decide)) (mem_own.1 hm); have bx := (b1.keep_nil fa).keep q2' hno; have cbx : wx.cell? ⟨gB + 1 + 1, 0, none⟩ = some v := bx.cell 0; have zbx := bx.frozen 0; have HX := Lib.hid (And.intro q1 (And.intro q2' (And.intro q3 (And.intro fa bx)))); clear q1 q2 q3 q4 q2' fa hno bx)
   obtain ⟨q1, q2, q3, fa, bx⟩ := HX.out
   obtain ⟨cr, F1, hle⟩ := HCR.out
   obtain ⟨k2, k3, l2, l3, e2, e3⟩ := HB.out
   obtain ⟨z1', z2, z3, z4⟩ := box_fr (v' := .slice A7 (pre.length + 1 + 1) c7) b1 r1 fa q2 q3 F1.size bx wL.heap.size
   have fs1 : Fr [gB + 1 + 1] wx (wx.setCell ⟨gB + 1 + 1, 0, none⟩ (.slice A7 (pre.length + 1 + 1) c7)) := (Fr.refl _ _).setCell (.inl (by simp)) _
   have hT : ∀ e, e ≠ 186 → NoTy wx [gB + 1 + 1] e := fun e he i hi cs fz hc => by
    rw [List.mem_singleton.1 hi, show wx.heap[gB + 1 + 1]? = _ from bx] at hc
    cases hc
    exact he rfl
   have sv : CStV W gB P (.func (.func 144) #[] #[.pointer (some ⟨gB, 0, none⟩), .pointer (some ⟨g2, 0, none⟩), .pointer (some ⟨g3, 0, none⟩)]) (.st (.wr x.1.1 l')) := ⟨gB, g2, g3, _, rfl, HK1.out.1.keep_nil F1, k2, k3, e3, Nat.le_refl _, by omega, by omega⟩
   have ca := (cr.keep_nil fa).app (us := [_]) (ts := [.st (.wr x.1.1 l')]) (fun i a b => by
    obtain rfl : i = 0 := by simp at a; omega
    exact sv.keepT fa (fun _ _ _ => NoTy.nil _ _)) q2 (by rw [hsl]; exact q1)
   have hst : (chS M.dirty ((pre ++ [x]).map (·.1.1))).map CSt.st = (chS M.dirty (pre.map (·.1.1))).map CSt.st ++ [.st (.wr x.1.1 l')] := by
    simp [chS, wrD, e2]
   refine ⟨z1', z2, _, fs ++ [.func (.func 144) #[] #[.pointer (some ⟨gB, 0, none⟩), .pointer (some ⟨g2, 0, none⟩), .pointer (some ⟨g3, 0, none⟩)]], z4, ?_, F1.trans z3 (fun i hi => .inr ?_), hle⟩
   ·rw [hst]
    exact ⟨ca.row.keepT fs1 (hT _ (by decide)), fun i a b => (ca.each i a b).keepT fs1 (fun e _ he => hT e he)⟩
   ·rcases List.mem_cons.1 hi with rfl | hi
    ·exact hle
    ·exact (r1.lt i (mem_own.1 hi)).1
  case hstop =>
   intro D c pre W hD hS hIx hK
   exact hIx.elim
  case hdone =>
   intro D xs W hD hS hI hDef
   subst hS
   obtain ⟨v, fs, b1, cr, F1, hle⟩ := hI
   rw [pairsF_keys HKL.out] at cr
   have hsl : ((chS M.dirty zs).map CSt.st).length = zs.length + 1 := by simp [chS, wrD]
   obtain ⟨wD, hwD⟩ : ∃ wD, W.drew = wD := ⟨_, rfl⟩
   have fD : Fr [] W wD := by rw [← hwD]; exact (Fr.refl [] _).drew
   have f1D := F1.trans_nil fD
   have hwd := HH.out.1.keep_nil f1D
   have kBD := HK1.out.1.keep_nil f1D
   have bD := b1.keep_nil fD
   have cD := cr.keep_nil fD
   have rD := cD.row
   rw [hsl] at rD
   have hdfD := fD.blk (by simp) hDef
   have hsz : w1.heap.size ≤ wD.heap.size := f1D.size
   have hzl : zs.length ≤ 4096 := by rw [HLW.out.2.2]; exact keysZ_le _
   have hDw : D < wD.heap.size := (Array.getElem?_eq_some_iff.1 hdfD).1
   have hS : ∀ (F : List Nat) (w' : World), Fr F wD w' → gB ∉ F → gB + 1 + 1 ∉ F → P.c ∉ F → (w'.cell? ⟨gB, 0, none⟩ = some (.pointer (some ⟨P.c, 0, none⟩)) ∧ w'.cell? ⟨gB + 1 + 1, 0, none⟩ = some v ∧ w'.cell? ⟨P.c, 0, none⟩ = some (.pointer (some ⟨P.p, 0, none⟩)) ∧ w'.cell? ⟨P.c, 1, none⟩ = some (.pointer (some ⟨P.g, 0, none⟩))) := fun F w' f n1 n2 n3 =>
    ⟨f.cell n1 (kBD.cell 0), f.cell n2 (bD.cell 0), f.cell n3 hwd.c0, f.cell n3 hwd.c1⟩
   have MK := Lib.hid hS
   have hS0 := hS [] _ (Fr.refl _ _) (by simp) (by simp) (by simp)
   have HW := Lib.hid (And.intro f1D (And.intro kBD (And.intro bD (And.intro cD (And.intro rD (And.intro hwd (And.intro hdfD (And.intro hD (And.intro hsl (And.intro hsz (And.intro hzl hDw)))))))))))
   clear cr b1 F1 fD f1D hwd kBD bD cD hdfD hD hDef hS
   go_upto_region 9 with fail
   refine wp_noP ?_
   refine wp_region_held_drew (S := fun w' => w'.cell? ⟨gB, 0, none⟩ = some (.pointer (some ⟨P.c, 0, none⟩)) ∧ w'.cell? ⟨gB + 1 + 1, 0, none⟩ = some v ∧ w'.cell? ⟨P.c, 0, none⟩ = some (.pointer (some ⟨P.p, 0, none⟩)) ∧ w'.cell? ⟨P.c, 1, none⟩ = some (.pointer (some ⟨P.g, 0, none⟩))) (by kernel_rfl) (by rw [hwD]; exact hS0) (fun hHeld => ?_)
   rw [hwD] at hHeld ⊢
   clear hS0 hwD
   refine tw 0 45 hHeld ?_
   refine tw 1 46 hHeld ?_
   refine tw 2 47 hHeld ?_
   refine tw 3 48 hHeld ?_
   refine tw 4 49 hHeld ?_
   refine tw 5 50 hHeld ?_
   refine tw 6 51 hHeld ?_
   refine tw 7 52 hHeld ?_
   refine tw 8 53 hHeld ?_
   refine tw 9 54 hHeld ?_
   refine tw 10 55 hHeld ?_
   refine tw 11 56 hHeld ?_
   refine tc 12 (fun K hK => ?_)
   go_simp
   refine hK.out _ _ (MK.out [] _ ((Fr.refl [] wD).alloc _) (by simp) (by simp) (by simp)) (fun hHx => ?_)
   clear hK hHeld
   try simp only [Act.put, p1, p2, p3]
   refine tc 13 (fun K hK => ?_)
   refine wp_app rfl slFn w1.heap.size _ (zs.length + 1) _ rfl (rD.alloc _) _ 2 _ [.func (.func 112) #[.pointer (some ⟨P.p, 0, none⟩)] #[], .func (.func 145) #[.pointer (some ⟨P.g, 0, none⟩)] #[]] rfl rfl (Rd.of_blk (Blk.new wD 47 #[.func (.func 112) #[.pointer (some ⟨P.p, 0, none⟩)] #[], .func (.func 145) #[.pointer (some ⟨P.g, 0, none⟩)] #[]]) 0 _ (fun j u hu => by rw [Nat.zero_add]; simpa using hu)) (by intro u hu; simp at hu; rcases hu with rfl | rfl <;> rfl) (fun h => by cases h) (by omega) (by simp; omega) (fun va wa q1 q2 q3 q4 => ?_)
   replace q2 : Fr v.ownBlock.toList (wD.alloc (.cells #[.func (.func 112) #[.pointer (some ⟨P.p, 0, none⟩)] #[], .func (.func 145) #[.pointer (some ⟨P.g, 0, none⟩)] #[]] 47)) wa := q2
   have fa : Fr [] wD (wD.alloc (.cells #[.func (.func 112) #[.pointer (some ⟨P.p, 0, none⟩)] #[], .func (.func 145) #[.pointer (some ⟨P.g, 0, none⟩)] #[]] 47)) := (Fr.refl [] wD).alloc _
   obtain ⟨f1D, kBD, bD, cD, rD', hwd, hdfD, hDL, hsl, hsz, hzl, hDw⟩ := HW.out
   have fDa : Fr v.ownBlock.toList wD wa := fa.nil.trans q2 (fun i hi => .inl hi)
   have n1 : gB ∉ v.ownBlock.toList := fun hm => rD.ne_blk kBD (by decide) (mem_own.1 hm)
   have n2 : gB + 1 + 1 ∉ v.ownBlock.toList := fun hm => rD.ne_blk bD (by decide) (mem_own.1 hm)
   have n3 : P.c ∉ v.ownBlock.toList := fun hm => rD.ne_blk hwd.blk (by decide) (mem_own.1 hm)
   have hHy := MK.out _ wa fDa n1 n2 n3
   refine hK.out _ _ hHy (fun hHz => ?_)
   clear hK hHx hHz
   try simp only [Act.put, p1, p2, p3]
   have ca := (cD.keep_nil fa).app (us := [.func (.func 112) #[.pointer (some ⟨P.p, 0, none⟩)] #[], .func (.func 145) #[.pointer (some ⟨P.g, 0, none⟩)] #[]]) (ts := [.st .fl, .rs]) (fun i a b => by
    match i, a, b with
    | 0, _, _ => rfl
    | 1, _, _ => rfl) q2 (by rw [hsl]; exact q1)
   have hst : (chS M.dirty zs).map CSt.st ++ [CSt.st Stp.fl, CSt.rs] = ([Stp.fl] ++ wrD M.dirty zs ++ [Stp.fl]).map CSt.st ++ [CSt.rs] := by simp [chS]
   rw [hst] at ca
   have hss : ([Stp.fl] ++ wrD M.dirty zs ++ [Stp.fl]).length = zs.length + 2 := by simp [wrD]
   have ra := ca.row
   have hal : (([Stp.fl] ++ wrD M.dirty zs ++ [Stp.fl]).map CSt.st ++ [CSt.rs]).length = zs.length + 1 + 2 := by rw [List.length_append, List.length_map, hss]; rfl
   rw [hal] at ra
   obtain ⟨Aa, c9, rfl, -, -, -, -, -⟩ := ra.shape
   have fwa : Fr [] w1 wa := f1D.trans fDa (fun i hi => .inr (rD.lt i (mem_own.1 hi)).1)
   have hwa := HH.out.1.keep_nil fwa
   have G := HH.out.2.1
   have hzs := HLW.out.2.2
   obtain ⟨hh1, -⟩ := G.home
   obtain ⟨cc0, -⟩ := G.chk HH.out.2.2.1
   rw [← hzs] at hh1 cc0
   have hown : ∀ i ∈ P.own O, i < gB := fun i hi => by
    obtain ⟨a1, a2, a3, a4, a5⟩ := HLT.out
    unfold CaP.own at hi
    simp only [List.mem_cons] at hi
    rcases hi with rfl | rfl | rfl | hi
    ·exact a1
    ·exact a2
    ·exact a4
    ·exact a5 i hi
   have c9r : CRow wa 0 gB P (.slice Aa (zs.length + 1 + 2) c9) (fs ++ [.func (.func 112) #[.pointer (some ⟨P.p, 0, none⟩)] #[], .func (.func 145) #[.pointer (some ⟨P.g, 0, none⟩)] #[]]) (([Stp.fl] ++ wrD M.dirty zs ++ [Stp.fl]).map CSt.st ++ [CSt.rs]) := ⟨by rw [hal]; exact ra.mono (Nat.zero_le _), ca.each⟩
   have cr2 := caSteps_any hwa hh1 cc0 G.jok (HH.out.2.2.2.1.keep fwa) c9r (by rw [hss]) (by omega) hown (fun g hg => by have := (ra.lt g hg).1; omega) HH.out.2.2.2.2.1 (fun x => by have := HH.out.2.2.2.2.2 x; omega)
   obtain ⟨M', hM'⟩ : ∃ M' : CaM, (⟨(resM (runS M.D ([Stp.fl] ++ wrD M.dirty zs ++ [Stp.fl])).2 M.J).2.1, (resM (runS M.D ([Stp.fl] ++ wrD M.dirty zs ++ [Stp.fl])).2 M.J).2.2, M.dirty⟩ : CaM) = M' := ⟨_, rfl⟩
   have HM := Lib.hid (fun _ : Unit => show chkM M = { M' with dirty := fun _ => none } by rw [← hM', hzs]; rfl)
   rw [hM'] at cr2
   have hdfa : wa.heap[D]? = some (.deferred (some [])) := fDa.blk (fun hm => by have := rD.isCells (mem_own.1 hm) hdfD; cases this) hdfD
   have HA := Lib.hid (And.intro fwa (And.intro hdfa (And.intro hown (And.intro hDL (Nat.lt_of_lt_of_le hDw fDa.size)))))
   have hkB := kBD.keep fDa n1
   have hbS := bD.keep fDa n2
   have HKB := Lib.hid (And.intro hkB hbS)
   clear q1 q2 q3 q4 fa f1D kBD bD cD rD' rD hwd hdfD hDL hsl hsz hzl hDw fDa n1 n2 n3 ca c9r ra hwa hh1 cc0 hss hst hal hM' hdfa fwa hkB hbS G hown hzs
   refine tc 14 (fun K hK => ?_)
   go_simp
   refine cr2.mono ?_
   rintro e w5 ⟨rfl, ha⟩
   obtain ⟨O5, h5, ho5, f5⟩ := id ha
   have n1 : gB ∉ P.own O := fun hm => by have := HA.out.2.2.1 _ hm; omega
   have n2 : gB + 1 + 1 ∉ P.own O := fun hm => by have := HA.out.2.2.1 _ hm; omega
   have hHx : w5.cell? ⟨gB, 0, none⟩ = some (.pointer (some ⟨P.c, 0, none⟩)) ∧ w5.cell? ⟨gB + 1 + 1, 0, none⟩ = some v ∧ w5.cell? ⟨P.c, 0, none⟩ = some (.pointer (some ⟨P.p, 0, none⟩)) ∧ w5.cell? ⟨P.c, 1, none⟩ = some (.pointer (some ⟨P.g, 0, none⟩)) := ⟨f5.cell n1 (HKB.out.1.cell 0), f5.cell n2 (HKB.out.2.cell 0), h5.c0, h5.c1⟩
   refine hK.out _ _ hHx (fun hHz => ?_)
   clear hK cr2 hHy hHz
   try simp only [Act.put, p1, p2, p3]
   have hHeld := hHx
   clear hHx
   refine tw 15 7 hHeld ?_
   refine wpAnyH_done (by kernel_rfl) ?_ _
   unfold noP
   dsimp only
   have cB5 := hHeld.1
   have c25 := h5.c2
   obtain ⟨fv5, hs5, -⟩ := h5.srt
   have cc := srtClear_any hs5
   have H5 := Lib.hid (And.intro h5 (And.intro ho5 f5))
   clear hHeld ha h5 ho5 f5 hs5 n1 n2
   go_wp2_with fail
   refine cc.mono ?_
   rintro e w6 ⟨rfl, hs6, f6⟩
   have H6 := Lib.hid (And.intro hs6 f6)
   clear cc hs6 f6 cB5 c25
   go_wp2_with fail
   obtain ⟨h5, ho5, f5⟩ := H5.out
   obtain ⟨hs6, f6⟩ := H6.out
   obtain ⟨fwa, hdfa, hown, hDL, hDwa⟩ := HA.out
   have hDg : gB + 1 + 1 + 1 < D := by omega
   have hdf6 : w6.heap[D]? = some (.deferred (some [])) := f6.blk (fun hm => by have := List.mem_singleton.1 hm; omega) (f5.blk (fun hm => by have := hown _ hm; omega) hdfa)
   refine ⟨by simp, .inl ⟨_, _, rfl, run_takeDeferred hdf6, ?_⟩⟩
   refine ⟨.int .i64 0, by simp [results, Tryz.f93, go_sem], rfl, ?_⟩
   have h6 := h5.clear hs6 f6
   have fP : Fr [D] w6 (w6.putObj D (.deferred none)) := fr_putObjC _
   have hO5 : D ∉ O5 := fun hm => by
    rcases ho5 D hm with h | h
    ·have := hown D (by unfold CaP.own; simp [h]); omega
    ·omega
   have h8 : NoTy w6 [D] 5 := fun i hi cs fz hc => by
    rw [List.mem_singleton.1 hi, hdf6] at hc
    cases hc
   have h7 := h6.keep fP (by simp; omega) (by simp; omega) (by simp; omega) (by simp; omega) (fun i hi hm => hO5 (by rw [← List.mem_singleton.1 hm]; exact hi)) h8
   rw [HC.out, HM.out ()]
   have hw1a := HK1.out.2.trans_nil fwa
   have hszw := HK1.out.2.size
   refine ⟨O5, h7, fun i hi => ?_, ((hw1a.nil.trans f5 (fun i hi => .inl hi)).trans f6 (fun i hi => .inl (by rw [List.mem_singleton.1 hi]; unfold CaP.own; simp))).trans fP (fun i hi => .inr (by rw [List.mem_singleton.1 hi]; omega))⟩
   rcases ho5 i hi with h | h
   ·exact .inl h
   ·exact .inr (Nat.le_trans hw1a.size h)
end
end
end Go.Proofs.YtbanogfljpkbkaaGreatDoor
