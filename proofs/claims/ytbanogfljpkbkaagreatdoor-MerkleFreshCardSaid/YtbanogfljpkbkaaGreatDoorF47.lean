/-
  Texts of this claim, one behind the other: MerC, MerN, MerO.
-/
import Derived.Test.YtbanogfljpkbkaaGreatDoorF38
import Derived.Test.YtbanogfljpkbkaaGreatDoorF28
import Derived.Test.YtbanogfljpkbkaaGreatDoorF7
import Derived.Test.YtbanogfljpkbkaaGreatDoorF6
import Derived.Test.YtbanogfljpkbkaaGreatDoorF8
import Derived.Handy
import Derived.Sort.CutIn
import Derived.Sort.QuietIn
import Derived.BigQuiet
import Derived.Deep.QuietTactic
import Derived.Test.YtbanogfljpkbkaaGreatDoorF46
import Derived.Test.YtbanogfljpkbkaaGreatDoorF40
set_option linter.unusedSimpArgs false
set_option linter.unusedVariables false
set_option linter.unnecessarySimpa false
namespace Go.Proofs.YtbanogfljpkbkaaGreatDoor
section
open Go.RowKit Go.Shelf
attribute [local go_sem] Oper.semAt_some encP
set_option maxRecDepth 100000
def RedI (wL : World) (gb : Nat) (f : Int → Option Value) (pre : List (PairF f)) (W : World) : Prop := ∃ v, Blk W gb 87 #[v] ∧ Row W wL.heap.size 104 2 v pre.length (rcells (pre.map fun x => x.1)) ∧ Fr [gb] wL W
theorem redI_own {wL : World} {gb : Nat} {f : Int → Option Value} : OwnFrom wL.heap.size (RedI wL gb f) := ownFrom_of fun s W W' F hs fr hT hF => by
 obtain ⟨v, h1, h2, h3⟩ := hs
 exact ⟨v, h1.keep fr (fun hm => hT _ _ hm _ _ h1), h2.keepT fr (hT _), h3.trans fr (fun i hi => .inr (hF i hi))⟩
section
variable {w w' : World} {S : SgP} {O : List Nat} {M : StM} {n N : Nat}
theorem SgD.shape {f : Int → Option Value} {L : List (Int × List UInt8)} (h : SgD w f L) (x : PairF f) : ∃ A c l, x.1.2 = .slice A 512 c ∧ lkL L x.1.1 = some l ∧ BlkB w x.1.2 l := by
 rcases h x.1.1 x.2.1 with ⟨h1, -⟩ | ⟨v, l, h1, h2, h3⟩
 ·have := x.2.2
  rw [h1] at this
  cases this
 ·have := x.2.2
  rw [h1] at this
  cases this
  obtain ⟨A, c, e, -⟩ := h3.2.shape
  exact ⟨A, c, l, e, h2, h3⟩
theorem red_rdR {W : World} {B L c : Nat} {A : Option Addr} {f : Int → Option Value} {ps : List (Int × Value)} {rs : List (Int × List UInt8)} (r1 : Row W B 104 2 (.slice A L c) L (rcells ps)) (hps : ps.map (·.1) = rs.map (·.1)) (hval : ∀ p ∈ ps, wfZ p.1 ∧ f p.1 = some p.2) (hd : SgD W f rs) (up : UpL rs) (hl : rs.length = L) (hb : L * 32 ≤ 140737488351232)
  {F : List Nat} (fr : Fr F W w') (h8 : NoTy W F 5) (hF : ∀ g, (Value.slice A L c).ownBlock = some g → g ∉ F) : RdR w' A L c rs := by
 have r2 := r1.keep fr hF
 obtain ⟨A', c', e', hnc, -, -, -, -⟩ := r2.shape
 cases e'
 have hpl : ps.length = rs.length := by simpa using congrArg List.length hps
 refine ⟨hl, fun h0 => ?_, r2.rdD.2.2, hnc, hb⟩
 obtain ⟨g, o, e, hc⟩ := r2.rdD.1 (by intro h; have := congrArg List.length h; rw [rcells_len, List.length_nil] at this; omega)
 have hlt := (r2.lt g (by rw [e]; rfl)).2
 refine ⟨g, o, e, hlt, fun i hi => ?_⟩
 have hip : i < ps.length := by omega
 obtain ⟨e1, e2⟩ := rcells_at ps i hip
 have hk : ps[i].1 = rs[i].1 := by
  have := congrArg (fun l => l[i]?) hps
  simp only [List.getElem?_map, List.getElem?_eq_getElem hip, List.getElem?_eq_getElem hi, Option.map_some, Option.some.injEq] at this
  exact this
 obtain ⟨hw, hf⟩ := hval _ (List.getElem_mem hip)
 have a1 := hc _ _ e1
 have a2 := hc _ _ e2
 rw [hk] at a1
 refine ⟨by rw [← hk]; exact wfZ_b hw, a1, ps[i].2, by rw [Nat.add_assoc]; exact a2, ?_⟩
 rcases hd ps[i].1 hw with ⟨h1, -⟩ | ⟨v, l, h1, h2, h3⟩
 ·rw [hf] at h1; cases h1
 ·rw [hf] at h1
  cases h1
  have hlk := lkL_of_mem up (x := rs[i].1) (l := rs[i].2) (List.getElem_mem hi)
  rw [← hk, h2] at hlk
  cases hlk
  have h4 := h3.keepT fr h8
  have h5 : Row w' 0 5 1 ps[i].2 rs[i].2.length (bvs rs[i].2) := by rw [h3.1]; exact h4.2
  exact ⟨h5.slb, by rw [h3.1]; omega⟩
theorem sg_end {wD wx : World} {D gb nx : Nat} {O5 : List Nat} {M' : StM} (hgb : w.heap.size = gb) (f1 : Fr [] w wD) (fx : Fr (S.own O) wD wx) (sx : SgW wx S O5 M' nx) (hx : nx ≤ n) (o5 : ∀ i ∈ O5, i ∈ O ∨ wD.heap.size ≤ i) (hd : wx.heap[D]? = some (.deferred (some []))) (hD : gb ≤ D) (hDl : D < wD.heap.size) (hown : ∀ i ∈ S.own O, i < gb) (hs : S.ca.s < gb ∧ S.g < gb ∧ S.q < gb) : AftS w S O M' n (wx.putObj D (.deferred none)) := by
 have fP : Fr [D] wx (wx.putObj D (.deferred none)) := fr_putObjC _
 have h8 : NoTy wx [D] 5 := fun i hi cs fz hc => by
  rw [List.mem_singleton.1 hi, hd] at hc
  cases hc
 have hno : ∀ i, i < gb → i ∉ [D] := fun i hi hm => by rw [List.mem_singleton.1 hm] at hi; omega
 have hO5 : ∀ i ∈ O5, i ∉ [D] := fun i hi hm => by
  rw [List.mem_singleton.1 hm] at hi
  rcases o5 D hi with h | h
  ·have := hown D (by unfold SgP.own CaP.own; simp [h]); omega
  ·omega
 refine ⟨O5, (sx.keep fP (hno _ (hown _ (by unfold SgP.own CaP.own; simp))) (hno _ (hown _ (by unfold SgP.own CaP.own; simp))) (hno _ hs.1) (hno _ (hown _ (by unfold SgP.own CaP.own; simp))) hO5 h8 (hno _ hs.2.1) (hno _ hs.2.2) (hno _ (hown _ (by unfold SgP.own; simp)))).mono hx, fun i hi => ?_, (f1.nil.trans fx (fun i hi => .inl hi)).trans fP (fun i hi => .inr (by rw [List.mem_singleton.1 hi]; omega))⟩
 rcases o5 i hi with h | h
 ·exact .inl h
 ·exact .inr (Nat.le_trans f1.size h)
set_option maxHeartbeats 8000000 in
theorem sgCommit_any (h : SgW w S O M n) (G : StG N M) (hm : M.C.J.num + 1200 < 9223372036854775808) (hK : KG w) (hz : 0 ∉ S.own O) (hu : ∀ x, (M.C.D.uns x).length + 6000 ≤ 4398046511104) (hn : n ≤ 4398046510000) :
  Calls Tryz.prog 14 #[.pointer (some ⟨S.g, 0, none⟩)] w fun e w' => e = .returned (.int .i64 (comSE M)) ∧ AftS w S O (comSM M) n w' := by
 have cm := sgMade_any h
 have c1 := h.c1
 obtain ⟨f, hs, hd⟩ := h.srt
 have hz2 := hd.keys h.up h.wf
 have cl := srtLen_any hs hz2
 rw [List.length_map] at cl
 by_cases he : M.st = []
 ·have HE := Lib.hid (show comSE M = 0 ∧ comSM M = M from ⟨if_pos he, if_pos he⟩)
  rw [HE.out.1, HE.out.2]
  rw [he] at cl
  have HH := Lib.hid h
  clear h hs hd hz2 he HE G hm hK hz hu hn
  go_enter Tryz.func14, Tryz.ntmps14
  go_wp2_with (first | (go_at_call 46; refine cm.mono ?_; rintro e w' ⟨rfl, rfl⟩) | (go_at_call 47; refine cl.mono ?_; rintro e w' ⟨rfl, rfl⟩))
  go_ret
  exact ⟨rfl, AftS.same HH.out (Fr.refl _ _)⟩
 ·have k1 := Blk.new w 87 #[.slice none 0 0]
  have f1 : Fr [] w (w.alloc (.cells #[.slice none 0 0] 87)) := (Fr.refl _ _).alloc _
  obtain ⟨w1, hw1⟩ : ∃ y, w.alloc (.cells #[.slice none 0 0] 87) = y := ⟨_, rfl⟩
  obtain ⟨gb, hgb⟩ : ∃ g, w.heap.size = g := ⟨_, rfl⟩
  rw [hw1] at k1 f1
  rw [hgb] at k1
  have z1 : w1.heap.size = gb + 1 := by rw [← hw1, ← hgb]; simp
  have c2 := f1.cell (by simp) c1
  have hlt := h.lts
  have hown := h.own_lt
  have hsl := h.ca.lts.2.2.1
  rw [hgb] at hlt hown hsl
  obtain ⟨L, hL⟩ : ∃ L, M.st.length = L := ⟨_, rfl⟩
  have hLp : (L : Int) ≠ 0 := by
   have : M.st.length ≠ 0 := fun h0 => he (List.length_eq_zero_iff.1 h0)
   omega
  have dz : ((L : Int) == 0) = false := by rw [beq_eq_false_iff_ne]; exact hLp
  rw [hL] at cl
  have HS := Lib.hid (And.intro (hs.keep_nil f1) (And.intro hz2 (hd.keepT f1 (NoTy.nil _ _))))
  have HH := Lib.hid (And.intro (h.keep_nil f1) (And.intro G (And.intro hm (And.intro (hK.keep f1) (And.intro hz hu)))))
  have hLn : L ≤ n := by have := (hs.map.lenS hz2 undS 0).2; rw [List.length_map, hL] at this; exact this
  have HO := Lib.hid (And.intro hown (And.intro he (And.intro hL hn)))
  have HGB := Lib.hid hgb
  clear h hs hd hz2 he G hm hK hz hu hown hLp hL
  refine (callsIn_wide (n := 5)).1 ?_
  refine callsIn_of_wp_marks Tryz.func14 rfl trivial ?_ rfl
  simp only [Tryz.ntmps14, List.size_toArray, List.length_cons, List.length_nil, Nat.reduceAdd, Nat.reduceSub, Array.replicate_succ, Array.replicate_zero, List.push_toArray, List.append_toArray, List.nil_append, List.cons_append]
  refine wpIn_wide.2 ?_
  go_wp2_with (first | (go_at_call 46; refine cm.mono ?_; rintro e w' ⟨rfl, rfl⟩) | (go_at_call 47; refine cl.mono ?_; rintro e w' ⟨rfl, rfl⟩) | (go_at_call 48; refine (srtAll_any _ _).mono ?_; rintro e w' ⟨rfl, rfl⟩))
  have kA := Blk.new w1 97 #[.pointer (some ⟨S.q, 0, none⟩)]
  have fL : Fr [] w1 (w1.alloc (.cells #[.pointer (some ⟨S.q, 0, none⟩)] 97)) := (Fr.refl _ _).alloc _
  obtain ⟨wL, hwL⟩ : ∃ y, w1.alloc (.cells #[.pointer (some ⟨S.q, 0, none⟩)] 97) = y := ⟨_, rfl⟩
  rw [hwL] at kA fL ⊢
  rw [z1] at kA
  have kL := k1.keep_nil fL
  have hLS := HS.out.1.keep_nil fL
  have hgl : gb + 1 < wL.heap.size := kA.lt
  have FL := Lib.hid (And.intro f1 fL)
  have ow : ownC wL gb = none := ownC_blk kL
  have HSEQ := Lib.hid (srtAll1_stopsK 4 (by omega) (gb + 1) S.q S.m n (KeepO gb wL.heap.size) HS.out.2.1 (by have := HO.out.2.2.2; omega) wL (kA.cell 0) hLS (fun W hW => keepS_box hW (by omega) (by omega) (by omega) (by omega) (by omega) (by omega) (by omega) (Nat.le_refl _) (fun k hk => by rw [ow] at hk; cases hk)))
  clear hwL hw1 hgb c2 k1 f1 fL cl cm c1
  refine (wpIn_wide (n := 5)).1 ?_
  apply wpIn_rangeFunc_ownF (hro := rfl) (h1 := by omega) (gf := 87) (lb := #[.pointer (some ⟨gb + 1, 0, none⟩)]) (hg := rfl) (hFg := trivial) (eg := enters_of Tryz.func87 (by kernel_rfl) rfl) (encs := encP f) (Kp := KeepO gb wL.heap.size) (hseq := HSEQ.out) (hKt := keepO_t) (hKb := keepO_b (Nat.le_refl _) (by omega)) (hb0 := Below.refl _ _) (hps := fun _ => rfl) (I := RedI wL gb f) (Ix := fun _ _ _ => False) (hI := redI_own) (hIx := fun _ _ _ _ _ h => h.elim) (h0 := ⟨_, kL, Row.nil _ _ _ _, Fr.refl _ _⟩)
  case hassign =>
   intro l x W K hK
   gi_wp2
   exact hK
  case hbody =>
   rintro l pre x W hI hlen
   obtain ⟨Ax, cx, lx, hxs, -, -⟩ := HS.out.2.2.shape x
   obtain ⟨⟨y, u⟩, hwf, hfu⟩ := x
   have hun := HO.out.2.2.2
   dsimp only at hxs
   subst hxs
   obtain ⟨v, b1, r1, F1⟩ := id hI
   have cb : W.cell? ⟨gb, 0, none⟩ = some v := b1.cell 0
   have zb := b1.frozen 0
   gi_upto_region 9 with (fail)
   refine wpIn_region_roundL (by kernel_rfl) (by rintro ⟨a, w, h⟩; exact h) ?_
   go_wp2_with (at_builtin; refine wpList_app rfl rfl slR wL.heap.size _ pre.length (rcells (pre.map fun x => x.1)) rfl (r1.alloc _) _ 1 1 [.int .i64 y, .slice Ax 512 cx] rfl rfl (Rd.of_blk (Blk.new W 104 #[.int .i64 y, .slice Ax 512 cx]) 0 _ (fun j u hu => by rw [Nat.zero_add]; simpa using hu)) (by intro u hu; simp at hu; rcases hu with rfl | rfl <;> rfl) (fun h => by cases h) (by omega) (by have := F1.size; simp; omega) ?_; intro v7 wx q1 q2 q3 q4; obtain ⟨A7, c7, rfl, -, -, -, -, -⟩ := q1.shape; have q2' : Fr v.ownBlock.toList (W.alloc (.cells #[.int .i64 y, .slice Ax 512 cx] 104)) wx := q2; have fa : Fr [] W (W.alloc (.cells #[.int .i64 y, .slice Ax 512 cx] 104)) := (Fr.refl _ _).alloc _; have hno : gb ∉ v.ownBlock.toList := fun hm => (r1.ne_blk b1 (by decide)) (mem_own.1 hm); have bx := (b1.keep_nil fa).keep q2' hno; have cbx : wx.cell? ⟨gb, 0, none⟩ = some v := bx.cell 0; have zbx := bx.frozen 0; have HX := Lib.hid (And.intro q1 (And.intro q2' (And.intro q3 (And.intro fa bx)))); clear q1 q2 q3 q4 q2' fa hno bx)
   obtain ⟨q1, q2, q3, fa, bx⟩ := HX.out
   obtain ⟨z1, z2, z3, z4⟩ := box_fr (v' := .slice A7 (pre.length + 1) c7) b1 r1 fa q2 q3 F1.size bx wL.heap.size
   refine ⟨z1, z2, _, z4, ?_, F1.trans z3 (fun i hi => ?_)⟩
   ·rw [List.length_append, List.map_append, List.map_singleton, rcells_snoc]
    exact q1.keep ((Fr.refl [gb] _).setCell (.inl (by simp)) _) (fun k hk hm => by
     rw [List.mem_singleton.1 hm] at hk
     exact q1.ne_blk bx (by decide) hk)
   ·rcases List.mem_cons.1 hi with rfl | hi
    ·exact .inl (by simp)
    ·exact .inr (r1.lt i (mem_own.1 hi)).1
  case hstop =>
   intro D c pre W hD hS hIx hK
   exact hIx.elim
  case hdone =>
   intro D xs W hD hS hI hDef
   subst hS
   obtain ⟨v, b1, r1, F1⟩ := hI
   have hkeys := pairsF_keys HS.out.2.1
   have hps : ((pairsF HS.out.2.1).map (fun x => x.1)).map (·.1) = M.st.map (·.1) := by rw [List.map_map]; exact hkeys
   have hval : ∀ p ∈ (pairsF HS.out.2.1).map (fun x => x.1), wfZ p.1 ∧ f p.1 = some p.2 := fun p hp => by
    obtain ⟨x, -, rfl⟩ := List.mem_map.1 hp
    exact x.2
   have hpl := pairsF_len HS.out.2.1
   rw [List.length_map, HO.out.2.2.1] at hpl
   rw [hpl] at r1
   obtain ⟨ps, hpse⟩ : ∃ ps, (pairsF HS.out.2.1).map (fun x => x.1) = ps := ⟨_, rfl⟩
   rw [hpse] at hps hval r1
   obtain ⟨A1, cp, rfl, -, -, -, -, -⟩ := r1.shape
   obtain ⟨wD, hwD⟩ : ∃ wD, W.drew = wD := ⟨_, rfl⟩
   have fD : Fr [] W wD := by rw [← hwD]; exact (Fr.refl [] _).drew
   have F1D := F1.trans_nil fD
   have nb8 : NoTy wL [gb] 5 := Blk.noTyOf kL (by decide)
   have hown := HO.out.1
   have hog : ∀ i, i ∈ S.own O → i ∉ [gb] := fun i hi hm => by have := hown i hi; rw [List.mem_singleton.1 hm] at this; omega
   have hL0 := HH.out.1.keep_nil FL.out.2
   have hD1 : SgW wD S O M n := hL0.keep F1D (hog _ (by unfold SgP.own CaP.own; simp)) (hog _ (by unfold SgP.own CaP.own; simp)) (by simp; omega) (hog _ (by unfold SgP.own CaP.own; simp)) (fun i hi => hog i (by unfold SgP.own CaP.own; simp [hi])) nb8 (by simp; omega) (by simp; omega) (hog _ (by unfold SgP.own; simp))
   have hdD : SgD wD f M.st := (SgD.keepT (SgD.keepT HS.out.2.2 FL.out.2 (NoTy.nil _ _)) F1D nb8)
   have f1D := (FL.out.2.mono (by simp)).trans F1D (fun i hi => .inl hi)
   have hdfD := fD.blk (by simp) hDef
   have b1D := b1.keep_nil fD
   have r1D := r1.keep_nil fD
   have hS0 : wD.cell? ⟨S.g, 0, none⟩ = some (.pointer (some ⟨S.ca.c, 0, none⟩)) ∧ wD.cell? ⟨gb, 0, none⟩ = some (.slice A1 L cp) := ⟨hD1.c0, b1D.cell 0⟩
   have hz0 : 0 ∉ S.ca.own O := fun hm => HH.out.2.2.2.2.1 (List.mem_cons_of_mem _ hm)
   have hgb0 : 0 < gb := by omega
   have hKD := (HH.out.2.2.2.1.keepO f1D (by simp; omega))
   have hrL : ∀ g, (Value.slice A1 L cp).ownBlock = some g → g ∉ S.ca.own O := fun g hg hm => by
    have := (r1D.lt g hg).1
    have := hown g (List.mem_cons_of_mem _ hm)
    omega
   have hLn2 := HO.out.2.2.2
   have cc := caCommit_any hD1.ca HH.out.2.1.c HH.out.2.2.1 hKD hz0 HH.out.2.2.2.2.2 (A := A1) (c := cp) HO.out.2.2.1 (fun w' f' => red_rdR r1D hps hval hdD HH.out.2.1.up HO.out.2.2.1 (by omega) f' hD1.ca.no8 hrL)
   have hgo : gb ∉ S.ca.own O := fun hm => by have := hown gb (List.mem_cons_of_mem _ hm); omega
   have hgD : S.g ∉ S.ca.own O := hD1.off.1
   have HX := Lib.hid (And.intro hD1 (And.intro f1D (And.intro hdfD (And.intro hD hown))))
   obtain ⟨z, hzz⟩ : ∃ z, comE M.C M.st = z := ⟨_, rfl⟩
   rw [hzz] at cc
   have HZ := Lib.hid (And.intro hzz (show comSE M = comE M.C M.st from if_neg HO.out.2.1))
   have HN := Lib.hid (And.intro hgo hgD)
   have HSM := Lib.hid (show comSM M = if comE M.C M.st = 0 then ⟨comM M.C M.st, []⟩ else ⟨comM M.C M.st, M.st⟩ from if_neg HO.out.2.1)
   obtain ⟨C', hC'⟩ : ∃ C', comM M.C M.st = C' := ⟨_, rfl⟩
   rw [hC'] at cc HSM
   clear hD1 f1D hdfD hown hog nb8 hL0 fD F1D hdD b1D r1D hz0 hKD hrL hps hval hkeys hpse r1 b1 F1 hzz hgo hgD hDef hpl kL hC' hLn2
   go_upto_region 10 with fail
   refine wp_noP ?_
   refine wp_region_held_drew (S := fun w' => w'.cell? ⟨S.g, 0, none⟩ = some (.pointer (some ⟨S.ca.c, 0, none⟩)) ∧ w'.cell? ⟨gb, 0, none⟩ = some (.slice A1 L cp)) (by kernel_rfl) (by rw [hwD]; exact hS0) (fun hHeld => ?_)
   rw [hwD] at hHeld ⊢
   clear hS0 hwD
   refine tw 0 31 hHeld ?_
   refine tw 1 32 hHeld ?_
   refine tw 2 33 hHeld ?_
   refine tw 3 34 hHeld ?_
   refine tw 4 35 hHeld ?_
   refine tc 5 (fun K hK => ?_)
   go_simp
   refine cc.mono ?_
   rintro e w5 ⟨rfl, ha⟩
   have f5 := ha.fr
   have hHx : w5.cell? ⟨S.g, 0, none⟩ = some (.pointer (some ⟨S.ca.c, 0, none⟩)) ∧ w5.cell? ⟨gb, 0, none⟩ = some (.slice A1 L cp) := ⟨f5.cell HN.out.2 hHeld.1, f5.cell HN.out.1 hHeld.2⟩
   refine hK.out _ _ hHx (fun hHy => ?_)
   clear hK cc hHeld hHy f5
   have hHeld := hHx
   clear hHx
   try simp only [Act.put, p1, p2, p3]
   refine tw 6 6 hHeld ?_
   refine wpAnyH_done (by kernel_rfl) ?_ _
   unfold noP
   dsimp only
   have h5 := HX.out.1.cache ha
   obtain ⟨O5, s5, o5, f5⟩ := id h5
   clear ha h5 hHeld
   by_cases hz0 : z = 0
   ·subst hz0
    have cd := sgDrop_any s5
    have H5 := Lib.hid (And.intro o5 f5)
    clear s5 o5 f5
    go_wp2_with fail
    refine cd.mono ?_
    rintro e w6 ⟨rfl, s6, f6⟩
    have H6 := Lib.hid (And.intro s6 f6)
    clear cd s6 f6
    go_wp2_with fail
    obtain ⟨s6, f6⟩ := H6.out
    obtain ⟨o5, f5⟩ := H5.out
    obtain ⟨-, f1D, hdfD, hDL, hown⟩ := HX.out
    have hDo : D ∉ S.own O := fun hm => by have := hown D hm; omega
    have hdf6 : w6.heap[D]? = some (.deferred (some [])) := f6.blk (by simp; omega) (f5.blk hDo hdfD)
    refine ⟨by simp, .inl ⟨_, _, rfl, run_takeDeferred hdf6, ?_⟩⟩
    refine ⟨.int .i64 0, by simp [results, Tryz.f14, go_sem], by rw [HZ.out.2, HZ.out.1], ?_⟩
    rw [HSM.out, if_pos HZ.out.1]
    exact sg_end HGB.out (FL.out.1.trans f1D (fun i hi => .inr (by rw [List.mem_singleton.1 hi, HGB.out]; exact Nat.le_refl _))) (f5.trans f6 (fun i hi => .inl (by rw [List.mem_singleton.1 hi]; unfold SgP.own; simp))) s6 (Nat.zero_le _) o5 hdf6 (by omega) ((Array.getElem?_eq_some_iff.1 hdfD).1) hown ⟨hsl, hlt.1, hlt.2.1⟩
   ·have dz0 : (z == 0) = false := by simpa using hz0
    have H5 := Lib.hid (And.intro s5 (And.intro o5 f5))
    clear s5 o5 f5
    go_wp2_with fail
    obtain ⟨s5, o5, f5⟩ := H5.out
    obtain ⟨-, f1D, hdfD, hDL, hown⟩ := HX.out
    have hDo : D ∉ S.own O := fun hm => by have := hown D hm; omega
    have hdf5 : w5.heap[D]? = some (.deferred (some [])) := f5.blk hDo hdfD
    refine ⟨by simp, .inl ⟨_, _, rfl, run_takeDeferred hdf5, ?_⟩⟩
    refine ⟨.int .i64 z, by simp [results, Tryz.f14, go_sem], by rw [HZ.out.2, HZ.out.1], ?_⟩
    rw [HSM.out, if_neg (by rw [HZ.out.1]; exact hz0)]
    exact sg_end HGB.out (FL.out.1.trans f1D (fun i hi => .inr (by rw [List.mem_singleton.1 hi, HGB.out]; exact Nat.le_refl _))) f5 s5 (Nat.le_refl _) o5 hdf5 (by omega) ((Array.getElem?_eq_some_iff.1 hdfD).1) hown ⟨hsl, hlt.1, hlt.2.1⟩
end
end
section
open Go.RowKit
structure TrG (s : Nat) (M : StM) (T : List (List UInt8)) : Prop where
 sb : 1 ≤ s ∧ s ≤ 1024
 g : StG (lyB s).blocks M
 t : TrI M 45 T
 n : T.length = tagsN s
 l5 : ∀ b ∈ T, b.length = 512
 j : M.C.J.first = 5 ∧ M.C.J.count = 40
 ks : ∀ r ∈ M.st, 45 ≤ r.1 ∧ r.1 < (lyB s).blocks
def mS (s : Nat) (M : StM) (i : Nat) (b : List UInt8) : StM := chgS M 45 (lyB s).tags (lyB s).lev i b
def rS (s : Nat) (M : StM) (i : Nat) (b : List UInt8) : List UInt8 := rootP (tagsN s) (chL (pathS M 45 (lyB s).lev i) i (leafH b))
section
variable {s k i : Nat} {M : StM} {T : List (List UInt8)} {w : World} {S : SgP} {O : List Nat} {b : List UInt8}
theorem TrG.nb (h : TrG s M T) : 1 ≤ T.length ∧ T.length ≤ 128 := by rw [h.n]; exact tagsN_b h.sb
theorem TrG.beg {s : Nat} (hs : 1 ≤ s ∧ s ≤ 1024) : TrG s (mB s) (List.replicate (tagsN s) zB512) :=
 ⟨hs, (begF s hs).g, (begF s hs).tri, List.length_replicate, fun b hb => by rw [(List.mem_replicate.1 hb).2]; exact zB512_len, ⟨rfl, rfl⟩, fun r hr => by cases hr⟩
theorem rd512 (h : SgW w S O M k) {N : Nat} (g : StG N M) {x : Int} (h0 : 0 ≤ x) (h1 : x < N) : rdSE M x = 0 ∧ (rdS M x).length = 512 := by
 unfold rdSE rdS
 cases hl : lkL M.st x with
 | some l => exact ⟨rfl, g.l5 _ (lkL_mem hl)⟩
 | none =>
  show rdE M.C x = 0 ∧ (rdM M.C x).length = 512
  unfold rdE rdM
  cases hd : M.C.dirty x with
  | some l => exact ⟨rfl, (g.c.d x l hd).2.2.2⟩
  | none =>
   have his : M.C.D.is x = true := g.c.on.is.2 ⟨h0, h1⟩
   exact ⟨by show M.C.D.readE x = 0; rw [DkM.readE, his, g.c.on.off]; rfl, h.ca.dsk.readR_len his g.c.on.off⟩
theorem plc_in (hs : 1 ≤ s ∧ s ≤ 1024) (hi : i < tagsN s) : ∀ x ∈ plcL 45 (lyB s).lev i, 45 ≤ x ∧ x < (lyB s).tags := fun x hx => by
 have hT := tagsN_b hs
 have hu := upN_b hT
 have e1 : (lyB s).lev = levsN (tagsN s) := rfl
 have e2 : (lyB s).tags = 45 + sumL (levsN (tagsN s)) := rfl
 rw [e1] at hx
 rw [e2, sumL_levs]
 by_cases h1 : upN (tagsN s) = 1
 ·rw [plcL_one hi h1] at hx
  rw [List.mem_singleton.1 hx, if_pos h1]
  omega
 ·rw [plcL_two hT hi h1] at hx
  have h2 : i / 16 < upN (tagsN s) := by unfold upN; omega
  rw [if_neg h1]
  simp at hx
  rcases hx with rfl | rfl <;> omega
theorem lyB_e (s : Nat) : (lyB s).blocks = (lyB s).tags + tagsN s + s ∧ (lyB s).tree = 45 := ⟨rfl, rfl⟩
theorem TrG.leaf (h : TrG s M T) (hw : SgW w S O M k) (hi : i < tagsN s) : LeafOk M (lyB s) i := by
 have he := lyB_e s
 have h1 : ∀ x ∈ plcL 45 (lyB s).lev i, rdSE M (x : Int) = 0 ∧ (rdS M (x : Int)).length = 512 := fun x hx => rd512 hw h.g (by omega) (by have := plc_in h.sb hi x hx; omega)
 have h2 := rd512 hw h.g (x := (((lyB s).tags + i : Nat) : Int)) (by omega) (by omega)
 exact ⟨fun x hx => (h1 x hx).1, fun x hx => (h1 x hx).2, h2.1, h2.2⟩
theorem TrG.tagI (h : TrG s M T) (hi : i < T.length) : rdS M (((lyB s).tags + i : Nat) : Int) = T[i] := by
 have := h.t.tag i hi
 rw [h.n] at this
 exact this
theorem TrG.lk (h : TrG s M T) (hi : i < tagsN s) (root : List UInt8) : lookB M (lyB s) (tagsN s) i root = (bldR (T.map leafH) == root) := by
 have hi' : i < T.length := by rw [h.n]; exact hi
 have h1 := h.t.ok h.nb hi'
 have hp := h.t.path h.nb hi'
 have e1 : pathS M (lyB s).tree (lyB s).lev i = pathS M 45 (levsN T.length) i := by rw [h.n]; rfl
 rw [lookB, h.tagI hi', e1, ← h.n]
 unfold okP at h1 ⊢
 rw [Bool.and_eq_true, Bool.and_eq_true] at h1
 rw [h1.1.2, h1.2, Bool.and_true, Bool.and_true, hp]
 have := rootP_pathT (T.map leafH) i
 rw [List.length_map] at this
 rw [this]
theorem TrG.look (h : TrG s M T) (hi : i < tagsN s) : lookB M (lyB s) (tagsN s) i (bldR (T.map leafH)) = true := by rw [h.lk hi]; simp
theorem foldWr_ks {N : Nat} : ∀ (ps : List (Nat × List UInt8)) (M : StM), StG N M → (∀ p ∈ ps, p.2.length = 512) → StG N (ps.foldl (fun M p => wrSt M (p.1 : Int) p.2) M) ∧ (ps.foldl (fun M p => wrSt M (p.1 : Int) p.2) M).C = M.C ∧
  (∀ r ∈ (ps.foldl (fun M p => wrSt M (p.1 : Int) p.2) M).st, r ∈ M.st ∨ ∃ p ∈ ps, r.1 = (p.1 : Int)) ∧ (ps.foldl (fun M p => wrSt M (p.1 : Int) p.2) M).st.length ≤ M.st.length + ps.length
 | [], M, h, _ => ⟨h, rfl, fun r hr => .inl hr, Nat.le_refl _⟩
 | p :: ps, M, h, hp => by
  obtain ⟨h1, h2, h3, h4⟩ := foldWr_ks ps (wrSt M (p.1 : Int) p.2) (h.wr _ (hp p (List.mem_cons_self ..))) (fun q hq => hp q (List.mem_cons_of_mem _ hq))
  obtain ⟨-, u2, u3⟩ := insL_up (x := (p.1 : Int)) (b := p.2) M.st h.up
  refine ⟨h1, h2, fun r hr => ?_, ?_⟩
  ·rcases h3 r hr with h | ⟨q, hq, e⟩
   ·rcases u2 r h with h | rfl
    ·exact .inl h
    ·exact .inr ⟨p, List.mem_cons_self .., rfl⟩
   ·exact .inr ⟨q, List.mem_cons_of_mem _ hq, e⟩
  ·have e : (wrSt M (p.1 : Int) p.2).st = insL M.st (p.1 : Int) p.2 := rfl
   rw [e] at h4
   rw [List.length_cons]
   show (ps.foldl (fun M p => wrSt M (p.1 : Int) p.2) (wrSt M (p.1 : Int) p.2)).st.length ≤ _
   omega
theorem lev_len (s : Nat) (hs : 1 ≤ s ∧ s ≤ 1024) : (lyB s).lev.length ≤ 2 := by
 show (levsN (tagsN s)).length ≤ 2
 rw [levsN_len]; split <;> omega
theorem TrG.chg (h : TrG s M T) (hw : SgW w S O M k) (hi : i < tagsN s) (hb : b.length = 512) :
  TrG s (mS s M i b) (T.set i b) ∧ rS s M i b = bldR ((T.set i b).map leafH) ∧ (mS s M i b).C = M.C ∧ (mS s M i b).st.length ≤ M.st.length + 3 := by
 have hi' : i < T.length := by rw [h.n]; exact hi
 obtain ⟨c1, c2⟩ := h.t.ch h.g.up h.nb hi' b
 rw [h.n] at c1 c2
 have hl := h.leaf hw hi
 have h512 : ∀ p ∈ (plcL 45 (lyB s).lev i).zip (chL (pathS M 45 (lyB s).lev i) i (leafH b)), p.2.length = 512 := fun p hp => by
  refine chL_512 (shaSum_length _) (fun q hq => ?_) _ (List.of_mem_zip hp).2
  obtain ⟨x, hx, rfl⟩ := List.mem_map.1 hq
  exact hl.p5 x hx
 obtain ⟨f1, f2, f3, f4⟩ := foldWr_ks _ _ (h.g.wr (((lyB s).tags + i : Nat) : Int) hb) h512
 have he := lyB_e s
 obtain ⟨-, u2, u3⟩ := insL_up (x := (((lyB s).tags + i : Nat) : Int)) (b := b) M.st h.g.up
 have hzl : ((plcL 45 (lyB s).lev i).zip (chL (pathS M 45 (lyB s).lev i) i (leafH b))).length ≤ 2 := by
  rw [List.length_zip, plcL_len]
  have := lev_len s h.sb
  omega
 have ht45 : 45 ≤ (lyB s).tags := by show 45 ≤ 45 + _; omega
 refine ⟨⟨h.sb, f1, c1, by rw [List.length_set]; exact h.n, fun x hx => ?_, by show (mS s M i b).C.J.first = 5 ∧ (mS s M i b).C.J.count = 40; rw [show (mS s M i b).C = M.C from f2]; exact h.j, fun r hr => ?_⟩, c2, f2, ?_⟩
 ·rcases List.mem_or_eq_of_mem_set hx with hx | rfl
  ·exact h.l5 x hx
  ·exact hb
 ·rcases f3 r hr with hr | ⟨p, hp, e⟩
  ·rcases u2 r hr with hr | rfl
   ·exact h.ks r hr
   ·show (45 : Int) ≤ (((lyB s).tags + i : Nat) : Int) ∧ (((lyB s).tags + i : Nat) : Int) < _
    omega
  ·have := plc_in h.sb hi p.1 (List.of_mem_zip hp).1
   rw [e]; omega
 ·have e : (wrSt M (((lyB s).tags + i : Nat) : Int) b).st = insL M.st (((lyB s).tags + i : Nat) : Int) b := rfl
  rw [e] at f4
  show (mS s M i b).st.length ≤ _
  have : (mS s M i b).st.length ≤ (insL M.st (((lyB s).tags + i : Nat) : Int) b).length + ((plcL 45 (lyB s).lev i).zip (chL (pathS M 45 (lyB s).lev i) i (leafH b))).length := f4
  omega
theorem TrG.com (h : TrG s M T) (hm : M.C.J.num + 1200 < 9223372036854775808) : TrG s (comSM M) T ∧ (comSM M).C.J.num ≤ M.C.J.num + 257 ∧ (∀ x, ((comSM M).C.D.uns x).length ≤ (M.C.D.uns x).length + 67) ∧ (M.st.length ≤ 37 → comSE M = 0 ∧ (comSM M).st = []) := by
 obtain ⟨k1, k2, k3, k4, k5, k6, k7⟩ := h.g.com hm
 have hj := h.j
 rw [hj.1, hj.2] at k6
 have hst : ∀ r ∈ (comSM M).st, r ∈ M.st := fun r hr => by
  unfold comSM at hr
  split at hr
  ·exact hr
  ·split at hr
   ·cases hr
   ·exact hr
 refine ⟨⟨h.sb, k1, ⟨fun q hq => ?_, fun hq => ?_, fun q hq => ?_⟩, h.n, h.l5, ⟨by rw [k2]; exact hj.1, by rw [k3]; exact hj.2⟩, fun r hr => h.ks r (hst r hr)⟩, k4, k5, fun hl => ?_⟩
 ·rw [k6 _ (.inr (by omega))]; exact h.t.node q hq
 ·rw [k6 _ (.inr (by omega))]; exact h.t.top hq
 ·rw [k6 _ (.inr (by omega))]; exact h.t.tag q hq
 ·have : comSE M = 0 := h.g.com_ok hm (by rw [hj.2]; omega) (fun r hr => by have := h.ks r hr; rw [hj.1, hj.2]; omega)
  exact ⟨this, k7 this⟩
end
end
section
open Go.RowKit
section
variable {s i : Nat} {M : StM} {T : List (List UInt8)} {b : List UInt8}
theorem len1 {α : Type} {l : List α} (h : l.length = 1) : ∃ a, l = [a] := by
 match l, h with
 | [a], _ => exact ⟨a, rfl⟩
theorem len2 {α : Type} {l : List α} (h : l.length = 2) : ∃ a b, l = [a, b] := by
 match l, h with
 | [a, b], _ => exact ⟨a, b, rfl⟩
theorem mS_len (hs : 1 ≤ s ∧ s ≤ 1024) (hi : i < tagsN s) (h0 : M.st = []) : (mS s M i b).st.length = 1 + (lyB s).lev.length := by
 have hT := tagsN_b hs
 have hu := upN_b hT
 have e1 : (lyB s).lev = levsN (tagsN s) := rfl
 have e2 : (lyB s).tags = 45 + sumL (levsN (tagsN s)) := rfl
 have hcl := chL_len (pathS M 45 (lyB s).lev i) i (leafH b)
 have hpl : (pathS M 45 (lyB s).lev i).length = (lyB s).lev.length := by rw [pathS, List.length_map, plcL_len]
 rw [hpl, e1, levsN_len] at hcl
 unfold mS chgS
 rw [e2, sumL_levs, e1] at *
 by_cases h1 : upN (tagsN s) = 1
 ·rw [if_pos h1] at hcl ⊢
  obtain ⟨c, hc⟩ := len1 hcl
  rw [hc, plcL_one hi h1, levsN_len, if_pos h1]
  show (insL (insL M.st _ b) _ c).length = _
  rw [h0, insL_nil, insL_cons, if_neg (by dsimp only; omega), if_neg (by dsimp only; omega)]
  rfl
 ·rw [if_neg h1] at hcl ⊢
  obtain ⟨c, d, hc⟩ := len2 hcl
  have h2 : i / 16 < upN (tagsN s) := by unfold upN; omega
  rw [hc, plcL_two hT hi h1, levsN_len, if_neg h1]
  show (insL (insL (insL M.st _ b) _ c) _ d).length = _
  rw [h0, insL_nil, insL_cons, if_neg (by dsimp only; omega), if_neg (by dsimp only; omega), insL_cons, if_pos (by dsimp only; omega), insL_cons, if_neg (by dsimp only; omega), if_neg (by dsimp only; omega)]
  rfl
end
def bT : List UInt8 := blkOf [116]
theorem bT_len : bT.length = 512 := blkOf_len _
set_option maxRecDepth 100000 in
theorem bT_eq : bT = tL := by
 unfold bT
 decide +kernel
theorem bT_0 : (bvs bT)[0]? = some (.int .u8 116) := by rw [bT_eq]; rfl
theorem bld13 {hs : List (List UInt8)} (h : hs.length = 13) : bldR hs = rootH 13 0 (nodeB hs) := by
 have hu : upN 13 = 1 := rfl
 rw [bldR, topB, h, hu, if_pos rfl, if_pos rfl, lev1, h, hu]
 show rootH 13 0 (nodeB ((hs.drop (16 * 0)).take 16)) = _
 rw [Nat.mul_zero, List.drop_zero, List.take_of_length_le (by omega)]
theorem roots13 : (bldR (((List.replicate 13 zB512).set 12 bT).map leafH) == bldR (fresh 13)) = false := by
 rw [bld13 (by rw [List.length_map, List.length_set, List.length_replicate]), bld13 (fresh_len 13)]
 have e1 : ((List.replicate 13 zB512).set 12 bT).map leafH = List.replicate 12 (leafH zL) ++ [leafH tL] := by
  rw [bT_eq]
  rfl
 have e2 : fresh 13 = List.replicate 13 (leafH zL) := rfl
 rw [e1, e2]
 exact beq_eq_false_iff_ne.2 roots_differ
def mL1 : StM := mS 100 (mB 100) 12 bT
def rL1 : List UInt8 := rS 100 (mB 100) 12 bT
theorem livesP {w : World} {S : SgP} {O : List Nat} {k : Nat} (hw : SgW w S O (mB 100) k) : TrG 100 (mB 100) (List.replicate 13 zB512) ∧ lookB (mB 100) (lyB 100) 13 12 (bldR (fresh 13)) = true ∧ TrG 100 mL1 ((List.replicate 13 zB512).set 12 bT) ∧ lookB mL1 (lyB 100) 13 12 rL1 = true ∧ lookB mL1 (lyB 100) 13 12 (bldR (fresh 13)) = false ∧
  mL1.st.length = 2 ∧ comSE mL1 = 0 ∧ (comSM mL1).st = [] ∧ rdS mL1 (((lyB 100).tags + 12 : Nat) : Int) = bT ∧ mL1.C = (mB 100).C := by
 have hs : 1 ≤ 100 ∧ 100 ≤ 1024 := by decide
 have h0 : TrG 100 (mB 100) (List.replicate 13 zB512) := TrG.beg hs
 have hi : 12 < tagsN 100 := by decide
 obtain ⟨h1, h2, h3, h4⟩ := h0.chg (i := 12) (b := bT) hw hi bT_len
 have hl := mS_len (M := mB 100) (b := bT) hs hi rfl
 have hl2 : mL1.st.length = 2 := hl
 have hn : mL1.C.J.num + 1200 < 9223372036854775808 := by show (mS 100 (mB 100) 12 bT).C.J.num + 1200 < _; rw [h3]; show 1 + 1200 < _; decide
 obtain ⟨-, -, -, c4⟩ := h1.com hn
 have c4 := c4 (by show mL1.st.length ≤ 37; omega)
 have k0 := h0.look hi
 have k1 := h1.look hi
 have k2 := h1.lk hi (bldR (fresh 13))
 rw [fresh_map] at k0
 rw [← h2] at k1
 rw [roots13] at k2
 refine ⟨h0, k0, h1, k1, k2, hl2, c4.1, c4.2, ?_, h3⟩
 have := h1.tagI (i := 12) (by rw [List.length_set, List.length_replicate]; decide)
 rw [List.getElem_set_self] at this
 exact this
end
end Go.Proofs.YtbanogfljpkbkaaGreatDoor
