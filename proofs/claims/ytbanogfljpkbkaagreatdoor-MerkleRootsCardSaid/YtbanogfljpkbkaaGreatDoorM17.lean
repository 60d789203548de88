/-
  Texts of this claim, one behind the other: CacJ, CacK, CacM, MerA, MerB, TreV, TreW.
-/
import Derived.Test.YtbanogfljpkbkaaGreatDoorM16
import Derived.Test.YtbanogfljpkbkaaGreatDoorM13
import Derived.Test.YtbanogfljpkbkaaGreatDoorM14
import Derived.Test.YtbanogfljpkbkaaGreatDoorM9
set_option linter.unusedSimpArgs false
set_option linter.unusedVariables false
set_option linter.unnecessarySimpa false
namespace Go.Proofs.YtbanogfljpkbkaaGreatDoor
section
open Go.RowKit
set_option maxRecDepth 100000
section
variable {w w' w1 : World} {P : CaP} {O : List Nat} {M : CaM} {N : Nat}
theorem own_zero {O' : List Nat} (hz : 0 ∉ P.own O) (ho : ∀ i ∈ O', i ∈ O ∨ w.heap.size ≤ i) (hw : 0 < w.heap.size) : 0 ∉ P.own O' := fun hm => by
 unfold CaP.own at hz hm
 simp only [List.mem_cons, not_or] at hz hm
 rcases hm with h | h | h | h
 ·exact hz.1 h
 ·exact hz.2.1 h
 ·exact hz.2.2.1 h
 ·rcases ho 0 h with h | h
  ·exact hz.2.2.2 h
  ·omega
theorem own_new {O' : List Nat} {g : Nat} (hg : g ∉ P.own O) (ho : ∀ i ∈ O', i ∈ O ∨ w.heap.size ≤ i) (hw : g < w.heap.size) : g ∉ P.own O' := fun hm => by
 unfold CaP.own at hg hm
 simp only [List.mem_cons, not_or] at hg hm
 rcases hm with h | h | h | h
 ·exact hg.1 h
 ·exact hg.2.1 h
 ·exact hg.2.2.1 h
 ·rcases ho g h with h | h
  ·exact hg.2.2.2 h
  ·omega
def coM (M : CaM) (n : Nat) (rs : List (Int × List UInt8)) : Nat → CaM
 | 0 => M
 | 1 => roomM M n
 | _ => { roomM M n with D := (appM (roomM M n).D (roomM M n).J rs).2.1, J := (appM (roomM M n).D (roomM M n).J rs).2.2 }
set_option maxHeartbeats 2000000 in
theorem caCommit_any (h : CaW w P O M) (G : CaG N M) (hm : M.J.num + 1200 < 9223372036854775808) (hK : KG w) (hz : 0 ∉ P.own O) (hu : ∀ x, (M.D.uns x).length + 6000 ≤ 4398046511104) {A : Option Addr} {n c : Nat} {rs : List (Int × List UInt8)} (hl : rs.length = n)
  (hr : ∀ w', Fr (P.own O) w w' → RdR w' A n c rs) :
  Calls Tryz.prog 49 #[.pointer (some ⟨P.c, 0, none⟩), .slice A n c] w fun e w' => e = .returned (.int .i64 (comE M rs)) ∧ AftC w P O (comM M rs) w' := by
 subst hl
 obtain ⟨kC, fC, zC⟩ := box1D w 81 (.pointer (some ⟨P.c, 0, none⟩))
 obtain ⟨w1, hw1⟩ : ∃ x, w.alloc (.cells #[.pointer (some ⟨P.c, 0, none⟩)] 81) = x := ⟨_, rfl⟩
 rw [hw1] at kC fC zC
 obtain ⟨kL, fL, zL⟩ := box1D w1 87 (.slice A rs.length c)
 obtain ⟨w2, hw2⟩ : ∃ x, w1.alloc (.cells #[.slice A rs.length c] 87) = x := ⟨_, rfl⟩
 rw [hw2] at kL fL zL
 obtain ⟨gC, hgC⟩ : ∃ g, w.heap.size = g := ⟨_, rfl⟩
 rw [hgC] at kC zC
 rw [zC] at kL zL
 have hlt := h.lts
 have hwz : 0 < w.heap.size := Nat.lt_of_le_of_lt (Nat.zero_le _) hlt.1
 rw [hgC] at hlt
 have hown : ∀ i ∈ P.own O, i < gC := fun i hi => by
  obtain ⟨a1, a2, a3, a4, a5⟩ := hlt
  unfold CaP.own at hi
  simp only [List.mem_cons] at hi
  rcases hi with rfl | rfl | rfl | hi
  ·exact a1
  ·exact a2
  ·exact a4
  ·exact a5 i hi
 obtain ⟨fs, hfs⟩ : ∃ fs : List Value, [.func (.func 90) #[] #[.pointer (some ⟨gC + 1, 0, none⟩), .pointer (some ⟨gC, 0, none⟩)], .func (.func 95) #[] #[.pointer (some ⟨gC, 0, none⟩), .pointer (some ⟨gC + 1, 0, none⟩)]] = fs := ⟨_, rfl⟩
 have f3 : Fr [] w2 (w2.alloc (.cells fs.toArray 47)) := (Fr.refl _ _).alloc _
 have r3 : Row (w2.alloc (.cells fs.toArray 47)) w2.heap.size 47 1 (.slice (some ⟨gC + 1 + 1, 0, none⟩) 2 2) 2 fs := by
  have := Row.new w2 fs.toArray 47 1 2 (0, 0) (free_zero _) (by unfold maxLen; omega) (by rw [← hfs]; rfl) (Nat.le_refl _)
  rw [← zL]
  simpa using this
 obtain ⟨w3, hw3⟩ : ∃ x, w2.alloc (.cells fs.toArray 47) = x := ⟨_, rfl⟩
 rw [hw3] at f3 r3
 have fw3 := fC.trans_nil (fL.trans_nil f3)
 have h3 := h.keep_nil fw3
 have kC3 := (kC.keep_nil fL).keep_nil f3
 have kL3 := kL.keep_nil f3
 have h3z : w2.heap.size ≤ w3.heap.size := f3.size
 obtain ⟨G1, -, -, -, hn1, hu1⟩ := G.room (by omega) rs.length
 have ha := G1.app (rs := rs) (by omega)
 have nC : gC ∉ P.own O := fun hm => by have := hown _ hm; omega
 have nL : gC + 1 ∉ P.own O := fun hm => by have := hown _ hm; omega
 have cr := caRun_any (w := w3) (c := P.c) (r3.mono (Nat.zero_le _)) (by omega) (P.own O) (fun g hg hm => by have := (r3.lt g hg).1; have := hown g hm; omega) (fun k w' => AftC w3 P O (coM M rs.length rs k) w' ∧ (2 ≤ k → comE M rs = 0)) (fun z w' => z = comE M rs ∧ z ≠ 0 ∧ AftC w3 P O (roomM M rs.length) w') (caState_any h3) ⟨AftC.same h3 (Fr.refl _ _), fun h => by omega⟩ (fun k w' hp => hp.1.fr) (fun k hk w' hp => by
  obtain ⟨O', hw', ho, f⟩ := hp.1
  have hz' : 0 ∉ P.own O' := own_zero hz ho (by have := fw3.size; omega)
  have kC' := kC3.keep f nC
  have kL' := kL3.keep f nL
  have hK' := (hK.keep fw3).keepO f hz
  subst hfs
  match k, hk with
  | 0, _ =>
   refine ⟨_, _, _, rfl, enters_of Tryz.func90 (by kernel_rfl) rfl, ?_⟩
   rw [Array.empty_append]
   refine (caCommit1_any hw' G (show M.J.num + 600 < _ by omega) hK' hz' (fun x => by have := hu x; show (M.D.uns x).length + 5000 ≤ _; omega) kL' kC').mono ?_
   rintro e w'' ⟨he, hq⟩
   exact .inl ⟨he, AftC.trans h3 ho f hq, fun h => by omega⟩
  | 1, _ =>
   refine ⟨_, _, _, rfl, enters_of Tryz.func95 (by kernel_rfl) rfl, ?_⟩
   rw [Array.empty_append]
   refine (caCommit2_any hw' (show (roomM M rs.length).J.ok from G1.jok) hK' (fun x => by have a := hu x; have b := hu1 x; show ((roomM M rs.length).D.uns x).length + 70 ≤ _; omega) (hr w' (fw3.nil.trans f (fun i hi => .inl hi))) kL' kC' (own_new nL ho (by omega)) (own_new nC ho (by omega))).mono ?_
   rintro e w'' ⟨he, hq⟩
   have hq' := AftC.trans h3 ho f hq
   by_cases e0 : (appM (roomM M rs.length).D (roomM M rs.length).J rs).1 = 0
   ·exact .inl ⟨by rw [he]; show Ending.returned (.int .i64 (appM (roomM M rs.length).D (roomM M rs.length).J rs).1) = _; rw [e0], hq', fun _ => e0⟩
   ·refine .inr ⟨_, e0, by have := ha.2.1; omega, he, hq'.c3.1, hq'.c3.2, rfl, e0, ?_⟩
    have e1 := ha.2.2.1 e0
    have hq2 : AftC w3 P O { roomM M rs.length with D := (appM (roomM M rs.length).D (roomM M rs.length).J rs).2.1, J := (appM (roomM M rs.length).D (roomM M rs.length).J rs).2.2 } w'' := hq'
    rw [e1] at hq2
    exact AftC.set3 hq2)
 have HE := Lib.hid (fun _ : Unit => show comM M rs = if comE M rs = 0 then ⟨(appM (roomM M rs.length).D (roomM M rs.length).J rs).2.1, (appM (roomM M rs.length).D (roomM M rs.length).J rs).2.2, putD (roomM M rs.length).dirty rs⟩ else roomM M rs.length from rfl)
 obtain ⟨M1, hM1⟩ : ∃ M1, roomM M rs.length = M1 := ⟨_, rfl⟩
 obtain ⟨M2, hM2⟩ : ∃ M2, coM M rs.length rs 2 = M2 := ⟨_, rfl⟩
 obtain ⟨z0, hz0⟩ : ∃ z0, comE M rs = z0 := ⟨_, rfl⟩
 obtain ⟨M3, hM3⟩ : ∃ M3, comM M rs = M3 := ⟨_, rfl⟩
 have HM := Lib.hid (fun _ : Unit => show z0 = 0 → (∀ r ∈ rs, r.2.length = 512) ∧ rs.length ≤ 4096 ∧ (∀ r ∈ rs, 0 ≤ r.1 ∧ r.1 < 4096) ∧ M3 = { M2 with dirty := putD M2.dirty rs } from fun e => by
  have e' : comE M rs = 0 := hz0.trans e
  obtain ⟨a1, a2, -, -, -, -, -, a8⟩ := ha.2.2.2 e'
  have hN4 := G.n4
  exact ⟨a1, by omega, fun r hr => ⟨(a8 r hr).1, by have := (a8 r hr).2; omega⟩, by rw [← hM3, ← hM2, HE.out (), if_pos e']; rfl⟩)
 have HM1 := Lib.hid (fun _ : Unit => show z0 ≠ 0 → M3 = M1 from fun e => by rw [← hM3, ← hM1, HE.out (), if_neg (by rw [hz0]; exact e)])
 have HZ : (z0 = 0) = (comE M rs = 0) := by rw [hz0]
 rw [hM2, hM1, hz0] at cr
 rw [hz0, hM3]
 have hcr0 : z0 = 0 ∨ z0 ≠ 0 := by omega
 have H3 := Lib.hid (And.intro fw3 (And.intro kC3 (And.intro kL3 (And.intro hown (And.intro nC (And.intro nL hr))))))
 have hz00 : z0 = (appM M1.D M1.J rs).1 := by rw [← hz0, ← hM1]; rfl
 have H00 := Lib.hid (fun _ : Unit => And.intro hz00 (And.intro hM1 hM2))
 subst hfs
 have cC2 : w2.cell? ⟨gC, 0, none⟩ = some (.pointer (some ⟨P.c, 0, none⟩)) := (kC.keep_nil fL).cell 0
 clear h G hm hK hz hu hr kC fC kL fL f3 r3 fw3 h3 kC3 kL3 G1 ha hn1 hu1 hlt hown nC nL hM1 hM2 hM3 hz0 HZ hz00 HE h3z hcr0
 go_enter Tryz.func49, Tryz.ntmps49
 go_wp2_with fail
 refine cr.mono ?_
 rintro e w5 (⟨rfl, hp, hp2⟩ | ⟨z, rfl, rfl, hz, hq⟩)
 ·have hz1 := hp2 (Nat.le_refl _)
  subst hz1
  obtain ⟨fw3, kC3, kL3, hown, nC, nL, hr⟩ := H3.out
  obtain ⟨l5, ln, lk, hM3⟩ := HM.out () rfl
  obtain ⟨O5, h5, ho5, f5⟩ := id hp
  have cC5 := f5.cell nC (kC3.cell 0)
  have cL5 := f5.cell nL (kL3.cell 0)
  have cp := caPut_any h5 (c := c) (A := A) rfl ln (fun w' f => (hr w' ((fw3.nil.trans f5 (fun i hi => .inl hi)).trans f (fun i hi => .inl (by rw [List.mem_singleton.1 hi]; unfold CaP.own; simp)))).rdx) l5 lk
  have H5 := Lib.hid (And.intro ho5 (And.intro f5 (And.intro fw3 hM3)))
  clear hp hp2 h5 ho5 f5 fw3 kC3 kL3 hown nC nL hr hM3 cr
  go_wp2_with fail
  refine cp.mono ?_
  rintro e w6 ⟨rfl, h6, f6⟩
  have H6 := Lib.hid (And.intro h6 f6)
  clear cp h6 f6 cC5 cL5
  go_wp2_with fail
  go_ret
  obtain ⟨ho5, f5, fw3, hM3⟩ := H5.out
  refine ⟨rfl, ?_⟩
  rw [hM3]
  refine AftC.pre fw3 ⟨O5, H6.out.1, ho5, f5.trans H6.out.2 (fun i hi => .inl (by rw [List.mem_singleton.1 hi]; unfold CaP.own; simp))⟩
 ·have dz : (z == 0) = false := by simpa using hz
  have hM := HM1.out () hz
  have HQ := Lib.hid (And.intro hq hM)
  clear hq hM cr
  go_wp2_with fail
  go_ret
  exact ⟨rfl, by rw [HQ.out.2]; exact HQ.out.1.pre H3.out.1⟩
end
end
section
open Go.RowKit
set_option maxRecDepth 100000
section
variable {w w' w1 : World} {P : CaP} {O : List Nat} {M : CaM} {N : Nat}
theorem CaW.own_lt (h : CaW w P O M) : ∀ i ∈ P.own O, i < w.heap.size := fun i hi => by
 obtain ⟨a1, a2, a3, a4, a5⟩ := h.lts
 unfold CaP.own at hi
 simp only [List.mem_cons] at hi
 rcases hi with rfl | rfl | rfl | hi
 ·exact a1
 ·exact a2
 ·exact a4
 ·exact a5 i hi
end
end
section
open Go.RowKit
set_option maxRecDepth 100000
theorem kg_pos {w : World} (hK : KG w) : 0 < w.heap.size := by
 rcases Nat.eq_zero_or_pos w.heap.size with h | h
 ·have e1 := hK 0 _ rfl
  unfold World.cell? at e1
  dsimp only at e1
  rw [Array.getElem?_eq_none (by omega)] at e1
  cases e1
 ·exact h
end
section
open Go.RowKit
set_option maxRecDepth 100000
theorem cells_ne {cs cs' : Array Value} {t t' : TypeId} {fz fz' : Nat × Nat} (h : t ≠ t') : some (Obj.cells cs t fz) ≠ some (Obj.cells cs' t' fz') := fun e => by
 injection e with e
 injection e with _ e
 exact h e
structure SgP where
 ca : CaP
 g : Nat
 q : Nat
 m : Nat
def SgD (w : World) (f : Int → Option Value) (L : List (Int × List UInt8)) : Prop := ∀ x, wfZ x → ((f x = none ∧ lkL L x = none) ∨ ∃ v l, f x = some v ∧ lkL L x = some l ∧ BlkB w v l)
structure SgW (w : World) (S : SgP) (O : List Nat) (M : StM) (n : Nat) : Prop where
 ca : CaW w S.ca O M.C
 blk : Blk w S.g 99 #[.pointer (some ⟨S.ca.c, 0, none⟩), .pointer (some ⟨S.q, 0, none⟩)]
 srt : ∃ f, SrtW w S.q S.m n f ∧ SgD w f M.st
 up : UpL M.st
 wf : ∀ p ∈ M.st, wfZ p.1
 nO : S.g ∉ O ∧ S.q ∉ O ∧ S.m ∉ O ∧ S.q ≠ S.ca.s ∧ S.m ≠ S.ca.b
def SgP.own (S : SgP) (O : List Nat) : List Nat := S.m :: S.ca.own O
section
variable {w w' w1 w2 : World} {S : SgP} {O F : List Nat} {M M' : StM} {n : Nat} {C : CaM}
theorem SgD.keepT {f : Int → Option Value} {L : List (Int × List UInt8)} (h : SgD w f L) (fr : Fr F w w') (h8 : NoTy w F 5) : SgD w' f L := fun x hx => by
 rcases h x hx with h | ⟨v, l, h1, h2, h3⟩
 ·exact .inl h
 ·exact .inr ⟨v, l, h1, h2, h3.keepT fr h8⟩
theorem SgW.keep (h : SgW w S O M n) (f : Fr F w w') (hc : S.ca.c ∉ F) (hg : S.ca.g ∉ F) (hs : S.ca.s ∉ F) (hb : S.ca.b ∉ F) (hO : ∀ i ∈ O, i ∉ F) (h8 : NoTy w F 5) (h1 : S.g ∉ F) (h2 : S.q ∉ F) (h3 : S.m ∉ F) : SgW w' S O M n := by
 obtain ⟨v, k1, k2⟩ := h.srt
 exact ⟨h.ca.keep f hc hg hs hb hO h8, h.blk.keep f h1, ⟨v, k1.keep f h2 h3, k2.keepT f h8⟩, h.up, h.wf, h.nO⟩
theorem SgW.keep_nil (h : SgW w S O M n) (f : Fr [] w w') : SgW w' S O M n := h.keep f (by simp) (by simp) (by simp) (by simp) (fun i _ => by simp) (NoTy.nil _ _) (by simp) (by simp) (by simp)
theorem SgW.mono (h : SgW w S O M n) {m : Nat} (hm : n ≤ m) : SgW w S O M m := by
 obtain ⟨f, h1, h2⟩ := h.srt
 exact ⟨h.ca, h.blk, ⟨f, ⟨h1.blk, h1.map.mono hm⟩, h2⟩, h.up, h.wf, h.nO⟩
theorem SgW.lts (h : SgW w S O M n) : S.g < w.heap.size ∧ S.q < w.heap.size ∧ S.m < w.heap.size := by
 obtain ⟨v, k1, -⟩ := h.srt
 exact ⟨h.blk.lt, k1.blk.lt, k1.map.lt⟩
theorem SgW.own_lt (h : SgW w S O M n) : ∀ i ∈ S.own O, i < w.heap.size := fun i hi => by
 rcases List.mem_cons.1 hi with rfl | hi
 ·exact h.lts.2.2
 ·exact h.ca.own_lt i hi
theorem SgW.off (h : SgW w S O M n) : S.g ∉ S.ca.own O ∧ S.q ∉ S.ca.own O ∧ S.m ∉ S.ca.own O := by
 obtain ⟨v, k1, -⟩ := h.srt
 obtain ⟨u, c1, -⟩ := h.ca.srt
 obtain ⟨n1, n2, n3, n4, n5⟩ := h.nO
 have a := h.blk
 have b := h.ca.blk
 have c := h.ca.jr
 have d := k1.blk
 have e1 : ∀ e cs fz, w.heap[S.ca.b]? ≠ some (.cells cs e fz) := fun e cs fz => c1.noTy e S.ca.b (List.mem_singleton.2 rfl) cs fz
 have e2 : ∀ e cs fz, w.heap[S.m]? ≠ some (.cells cs e fz) := fun e cs fz => k1.noTy e S.m (List.mem_singleton.2 rfl) cs fz
 unfold Jr at c
 unfold Blk at a b c d
 unfold CaP.own
 simp only [List.mem_cons, not_or]
 refine ⟨⟨fun e => ?_, fun e => ?_, fun e => ?_, n1⟩, ⟨fun e => ?_, fun e => ?_, fun e => ?_, n2⟩, ⟨fun e => ?_, fun e => ?_, n5, n3⟩⟩
 ·rw [e, b] at a; exact absurd a (cells_ne (by decide))
 ·rw [e, c] at a; exact absurd a (cells_ne (by decide))
 ·rw [e] at a; exact e1 _ _ _ a
 ·rw [e, b] at d; exact absurd d (cells_ne (by decide))
 ·rw [e, c] at d; exact absurd d (cells_ne (by decide))
 ·rw [e] at d; exact e1 _ _ _ d
 ·rw [← e] at b; exact e2 _ _ _ b
 ·rw [← e] at c; exact e2 _ _ _ c
theorem SgW.off2 (h : SgW w S O M n) : S.g ≠ S.m ∧ S.q ≠ S.m ∧ S.ca.s ≠ S.m ∧ S.g ≠ S.q := by
 obtain ⟨v, k1, -⟩ := h.srt
 obtain ⟨u, c1, -⟩ := h.ca.srt
 have a := h.blk
 have d := k1.blk
 have b := c1.blk
 have e2 : ∀ e cs fz, w.heap[S.m]? ≠ some (.cells cs e fz) := fun e cs fz => k1.noTy e S.m (List.mem_singleton.2 rfl) cs fz
 unfold Blk at a b d
 refine ⟨fun e => ?_, fun e => ?_, fun e => ?_, fun e => ?_⟩
 ·rw [e] at a; exact e2 _ _ _ a
 ·rw [e] at d; exact e2 _ _ _ d
 ·rw [e] at b; exact e2 _ _ _ b
 ·rw [e, d] at a; exact absurd a (cells_ne (by decide))
def AftS (w : World) (S : SgP) (O : List Nat) (M' : StM) (n : Nat) (w' : World) : Prop := ∃ O', SgW w' S O' M' n ∧ (∀ i ∈ O', i ∈ O ∨ w.heap.size ≤ i) ∧ Fr (S.own O) w w'
theorem AftS.same (h : SgW w' S O M n) (f : Fr [] w w') : AftS w S O M n w' := ⟨O, h, fun i hi => .inl hi, f.nil⟩
theorem AftS.pre (f : Fr [] w w1) (h : AftS w1 S O M n w2) : AftS w S O M n w2 := by
 obtain ⟨O', h1, h2, h3⟩ := h
 refine ⟨O', h1, fun i hi => ?_, f.nil.trans h3 (fun i hi => .inl hi)⟩
 rcases h2 i hi with h | h
 ·exact .inl h
 ·exact .inr (Nat.le_trans f.size h)
theorem AftS.post (h : AftS w S O M n w1) (f : Fr [] w1 w2) : AftS w S O M n w2 := by
 obtain ⟨O', h1, h2, h3⟩ := h
 exact ⟨O', h1.keep_nil f, h2, h3.trans_nil f⟩
theorem SgP.own_sub {O O' : List Nat} {B : Nat} (ho : ∀ i ∈ O', i ∈ O ∨ B ≤ i) : ∀ i ∈ S.own O', i ∈ S.own O ∨ B ≤ i := fun i hi => by
 unfold SgP.own CaP.own at hi ⊢
 simp only [List.mem_cons] at hi ⊢
 rcases hi with h | h | h | h | h
 ·exact .inl (.inl h)
 ·exact .inl (.inr (.inl h))
 ·exact .inl (.inr (.inr (.inl h)))
 ·exact .inl (.inr (.inr (.inr (.inl h))))
 ·rcases ho i h with h | h
  ·exact .inl (.inr (.inr (.inr (.inr h))))
  ·exact .inr h
theorem AftS.trans {O1 : List Nat} (ho : ∀ i ∈ O1, i ∈ O ∨ w.heap.size ≤ i) (f : Fr (S.own O) w w1) (h2 : AftS w1 S O1 M' n w2) : AftS w S O M' n w2 := by
 obtain ⟨O2, k1, k2, k3⟩ := h2
 refine ⟨O2, k1, fun i hi => ?_, f.trans k3 (SgP.own_sub ho)⟩
 rcases k2 i hi with h | h
 ·exact ho i h
 ·exact .inr (Nat.le_trans f.size h)
theorem SgW.cache (h : SgW w S O M n) (ha : AftC w S.ca O C w') : AftS w S O { M with C := C } n w' := by
 obtain ⟨O', k1, k2, k3⟩ := ha
 obtain ⟨v, s1, s2⟩ := h.srt
 obtain ⟨n1, n2, n3, n4, n5⟩ := h.nO
 obtain ⟨l1, l2, l3⟩ := h.lts
 obtain ⟨o1, o2, o3⟩ := h.off
 have key : ∀ i, i < w.heap.size → i ∉ O → i ∉ O' := fun i hi hn hm => by
  rcases k2 i hm with h | h
  ·exact hn h
  ·omega
 exact ⟨O', ⟨k1, h.blk.keep k3 o1, ⟨v, s1.keep k3 o2 o3, s2.keepT k3 h.ca.no8⟩, h.up, h.wf, key _ l1 n1, key _ l2 n2, key _ l3 n3, n4, n5⟩, k2, k3.mono (fun i hi => List.mem_cons_of_mem _ hi)⟩
theorem SgW.no8 (h : SgW w S O M n) : NoTy w [S.m] 5 := by
 obtain ⟨v, k1, -⟩ := h.srt
 exact k1.noTy _
theorem SgW.map (h : SgW w S O M n) {f' : Int → Option Value} {L : List (Int × List UInt8)} {n' : Nat} (fr : Fr [S.m] w w') (hs : SrtW w' S.q S.m n' f') (hd : SgD w' f' L) (up : UpL L) (wf : ∀ p ∈ L, wfZ p.1) : SgW w' S O { M with st := L } n' := by
 obtain ⟨o1, o2, o3⟩ := h.off
 obtain ⟨p1, p2, p3, -⟩ := h.off2
 unfold CaP.own at o3
 simp only [List.mem_cons, not_or] at o3
 exact ⟨h.ca.keep fr (by simpa using Ne.symm o3.1) (by simpa using Ne.symm o3.2.1) (by simpa using p3) (by simpa using Ne.symm o3.2.2.1) (fun i hi hm => o3.2.2.2 (by rw [← List.mem_singleton.1 hm]; exact hi)) h.no8, h.blk.keep fr (by simpa using p1), ⟨f', hs, hd⟩, up, wf, h.nO⟩
theorem SgD.keys {f : Int → Option Value} {L : List (Int × List UInt8)} (h : SgD w f L) (up : UpL L) (wf : ∀ p ∈ L, wfZ p.1) : KeyL f (L.map (·.1)) := by
 refine ⟨upL_keys up, fun x => ⟨fun hx => ?_, fun ⟨hx, hf⟩ => ?_⟩⟩
 ·obtain ⟨p, hp, rfl⟩ := List.mem_map.1 hx
  refine ⟨wf p hp, ?_⟩
  rcases h p.1 (wf p hp) with ⟨-, h2⟩ | ⟨v, l, h1, -, -⟩
  ·have := lkL_some_iff.2 hx
   rw [h2] at this; cases this
  ·rw [h1]; rfl
 ·rcases h x hx with ⟨h1, -⟩ | ⟨v, l, -, h2, -⟩
  ·rw [h1] at hf; cases hf
  ·exact lkL_some_iff.1 (by rw [h2]; rfl)
theorem SgW.c0 (h : SgW w S O M n) : w.cell? ⟨S.g, 0, none⟩ = some (.pointer (some ⟨S.ca.c, 0, none⟩)) := h.blk.cell 0
theorem SgW.c1 (h : SgW w S O M n) : w.cell? ⟨S.g, 1, none⟩ = some (.pointer (some ⟨S.q, 0, none⟩)) := h.blk.cell 1
theorem sgMade_nil (w : World) : Calls Tryz.prog 46 #[.pointer none] w fun e w' => e = .returned (.bool false) ∧ w = w' := by
 go_enter Tryz.func46, Tryz.ntmps46
 go_wp2_with fail
 go_ret
 exact ⟨rfl, rfl⟩
theorem sgMade_any (h : SgW w S O M n) : Calls Tryz.prog 46 #[.pointer (some ⟨S.g, 0, none⟩)] w fun e w' => e = .returned (.bool true) ∧ w = w' := by
 have c0 := h.c0
 clear h
 go_enter Tryz.func46, Tryz.ntmps46
 go_wp2_with fail
 go_ret
 exact ⟨rfl, rfl⟩
theorem meNew_nil (w : World) : Calls Tryz.prog 25 #[.pointer none] w fun e w' => e = .returned (.pointer none) ∧ w = w' := by
 go_enter Tryz.func25, Tryz.ntmps25
 go_wp2_with fail
 go_ret
 exact ⟨rfl, rfl⟩
set_option maxHeartbeats 1000000 in
theorem meNew_any {P : CaP} (h : CaW w P O C) : Calls Tryz.prog 25 #[.pointer (some ⟨P.c, 0, none⟩)] w fun e w' => ∃ S : SgP, S.ca = P ∧ e = .returned (.pointer (some ⟨S.g, 0, none⟩)) ∧ SgW w' S O ⟨C, []⟩ 0 ∧ Fr [] w w' ∧ w.heap.size ≤ S.g ∧ w.heap.size ≤ S.q ∧ w.heap.size ≤ S.m := by
 have cn := srtNew_any w
 have HH := Lib.hid h
 clear h
 go_enter Tryz.func25, Tryz.ntmps25
 go_wp2_with fail
 refine cn.mono ?_
 rintro e w3 ⟨rfl, hs3, f3, z3⟩
 have HS := Lib.hid (And.intro hs3 (And.intro f3 z3))
 clear cn hs3 f3 z3
 go_wp2_with fail
 go_ret
 obtain ⟨hs3, f3, z3⟩ := HS.out
 have kb := Blk.new w3 99 #[.pointer (some ⟨P.c, 0, none⟩), .pointer (some ⟨w.heap.size + 1, 0, none⟩)]
 have fb : Fr [] w3 (w3.alloc (.cells #[.pointer (some ⟨P.c, 0, none⟩), .pointer (some ⟨w.heap.size + 1, 0, none⟩)] 99)) := (Fr.refl _ _).alloc _
 have fw := f3.trans_nil fb
 have hO : ∀ i ∈ O, i < w.heap.size := HH.out.lts.2.2.2.2
 have hl := HH.out.lts
 refine ⟨⟨P, w3.heap.size, w.heap.size + 1, w.heap.size⟩, rfl, rfl, ⟨HH.out.keep_nil fw, kb, ⟨_, ⟨(hs3.keep_nil fb).blk, (hs3.keep_nil fb).map⟩, fun x _ => .inl ⟨rfl, rfl⟩⟩, List.Pairwise.nil, fun p hp => (by cases hp), fun hm => ?_, fun hm => ?_, fun hm => ?_, ?_, ?_⟩, fw, by dsimp only; omega, by dsimp only; omega, Nat.le_refl _⟩
 ·have := hO _ hm; dsimp only at this; omega
 ·have := hO _ hm; dsimp only at this; omega
 ·have := hO _ hm; dsimp only at this; omega
 ·dsimp only; omega
 ·dsimp only; omega
end
end
section
open Go.RowKit
set_option maxRecDepth 100000
section
variable {w w' w1 w2 : World} {S : SgP} {O F : List Nat} {M M' : StM} {n : Nat} {C : CaM}
theorem sgRead_nil (w : World) (x : Int) : Calls Tryz.prog 21 #[.pointer none, .int .i64 x] w fun e w' => e = .returned (.tuple #[.slice none 0 0, .int .i64 6]) ∧ w = w' := by
 go_enter Tryz.func21, Tryz.ntmps21
 go_wp2_with (go_at_call 46; refine (sgMade_nil _).mono ?_; rintro e w' ⟨rfl, rfl⟩)
 go_ret2
 exact ⟨rfl, rfl⟩
theorem sgWrite_nil (w : World) (x : Int) (v : Value) : Calls Tryz.prog 23 #[.pointer none, .int .i64 x, v] w fun e w' => e = .returned (.int .i64 6) ∧ w = w' := by
 go_enter Tryz.func23, Tryz.ntmps23
 go_wp2_with (go_at_call 46; refine (sgMade_nil _).mono ?_; rintro e w' ⟨rfl, rfl⟩)
 go_ret
 exact ⟨rfl, rfl⟩
theorem sgLen_nil (w : World) : Calls Tryz.prog 24 #[.pointer none] w fun e w' => e = .returned (.int .i64 0) ∧ w = w' := by
 go_enter Tryz.func24, Tryz.ntmps24
 go_wp2_with (go_at_call 46; refine (sgMade_nil _).mono ?_; rintro e w' ⟨rfl, rfl⟩)
 go_ret
 exact ⟨rfl, rfl⟩
theorem sgDrop_nil (w : World) : Calls Tryz.prog 20 #[.pointer none] w fun e w' => e = .returned (.tuple #[]) ∧ w = w' := by
 go_enter Tryz.func20, Tryz.ntmps20
 go_wp2_with (go_at_call 46; refine (sgMade_nil _).mono ?_; rintro e w' ⟨rfl, rfl⟩)
 go_returns
 exact ⟨rfl, rfl⟩
theorem sgLen_any (h : SgW w S O M n) : Calls Tryz.prog 24 #[.pointer (some ⟨S.g, 0, none⟩)] w fun e w' => e = .returned (.int .i64 M.st.length) ∧ w = w' := by
 have cm := sgMade_any h
 have c1 := h.c1
 obtain ⟨f, hs, hd⟩ := h.srt
 have cl := srtLen_any hs (hd.keys h.up h.wf)
 rw [List.length_map] at cl
 clear h hs hd
 go_enter Tryz.func24, Tryz.ntmps24
 go_wp2_with (first | (go_at_call 46; refine cm.mono ?_; rintro e w' ⟨rfl, rfl⟩) | (go_at_call 47; refine cl.mono ?_; rintro e w' ⟨rfl, rfl⟩))
 go_ret
 exact ⟨rfl, rfl⟩
theorem sgDrop_any (h : SgW w S O M n) : Calls Tryz.prog 20 #[.pointer (some ⟨S.g, 0, none⟩)] w fun e w' => e = .returned (.tuple #[]) ∧ SgW w' S O { M with st := [] } 0 ∧ Fr [S.m] w w' := by
 have cm := sgMade_any h
 have c1 := h.c1
 have HH := Lib.hid h
 obtain ⟨f, hs, hd⟩ := h.srt
 have cl := srtClear_any hs
 clear h hs hd
 go_enter Tryz.func20, Tryz.ntmps20
 go_wp2_with (go_at_call 46; refine cm.mono ?_; rintro e w' ⟨rfl, rfl⟩)
 refine cl.mono ?_
 rintro e w1 ⟨rfl, hs, fr⟩
 have HX := Lib.hid (And.intro hs fr)
 clear cl cm hs fr
 go_wp2_with fail
 go_returns
 exact ⟨rfl, HH.out.map HX.out.2 HX.out.1 (fun x _ => .inl ⟨rfl, rfl⟩) List.Pairwise.nil (fun p hp => (by cases hp)), HX.out.2⟩
set_option maxHeartbeats 1000000 in
theorem sgRead_any (h : SgW w S O M n) (x : Int) (hx : wfZ x) : Calls Tryz.prog 21 #[.pointer (some ⟨S.g, 0, none⟩), .int .i64 x] w (ReadC w (rdS M x) (rdSE M x)) := by
 have cm := sgMade_any h
 have c0 := h.c0
 have c1 := h.c1
 obtain ⟨f, hsr, hdv⟩ := h.srt
 have cg := srtGet_any hsr x hx
 have cr := caRead_any h.ca x hx
 rcases hdv x hx with ⟨hf, hd⟩ | ⟨v, l, hf, hd, hb⟩
 ·have HR := Lib.hid (show rdS M x = rdM M.C x ∧ rdSE M x = rdE M.C x from ⟨by rw [rdS, hd], by rw [rdSE, hd]⟩)
  rw [HR.out.1, HR.out.2]
  obtain ⟨z, hz⟩ : ∃ z, rdE M.C x = z := ⟨_, rfl⟩
  obtain ⟨l, hl⟩ : ∃ l, rdM M.C x = l := ⟨_, rfl⟩
  rw [hz, hl] at cr ⊢
  rw [hf] at cg
  simp only [Option.getD_none, Option.isSome_none] at cg
  clear h hsr hdv hf hd hz hl HR
  go_enter Tryz.func21, Tryz.ntmps21
  go_wp2_with (first | (go_at_call 46; refine cm.mono ?_; rintro e w' ⟨rfl, rfl⟩) | (go_at_call 57; refine cg.mono ?_; rintro e w' ⟨rfl, rfl⟩))
  refine cr.mono ?_
  rintro e w5 ⟨v5, rfl, r5, f5⟩
  have HF := Lib.hid (And.intro r5 f5)
  clear cr cg cm r5 f5
  go_wp2_with fail
  go_ret2
  exact ⟨v5, rfl, HF.out⟩
 ·have HR := Lib.hid (show rdS M x = l ∧ rdSE M x = 0 from ⟨by rw [rdS, hd], by rw [rdSE, hd]⟩)
  rw [HR.out.1, HR.out.2]
  rw [hf] at cg
  simp only [Option.getD_some, Option.isSome_some] at cg
  have hl512 := hb.1
  obtain ⟨Av, cv, rfl, -⟩ := hb.2.shape
  have cc := clone_any Av l 512 cv w hb.1 hb.2.rdD.1 hb.2.rdD.2.2 (by omega)
  clear h hsr hdv hf hd HR cr hb
  go_enter Tryz.func21, Tryz.ntmps21
  go_wp2_with (first | (go_at_call 46; refine cm.mono ?_; rintro e w' ⟨rfl, rfl⟩) | (go_at_call 57; refine cg.mono ?_; rintro e w' ⟨rfl, rfl⟩))
  refine cc.mono ?_
  rintro e w5 ⟨v5, rfl, r5, f5⟩
  have HF := Lib.hid (And.intro r5 f5)
  clear cc cg cm r5 f5
  go_wp2_with fail
  go_ret2
  exact ⟨v5, rfl, by rw [hl512]; exact HF.out.1, HF.out.2⟩
set_option maxHeartbeats 1000000 in
theorem sgWrite_any (h : SgW w S O M n) (hn : n < maxLen) (x : Int) (hx : wfZ x) (A : Option Addr) (c : Nat) (b : List UInt8) (hb : b.length = 512) (rd : Rd w A (bvs b)) (hA : A = none → 512 = 0) :
  Calls Tryz.prog 23 #[.pointer (some ⟨S.g, 0, none⟩), .int .i64 x, .slice A 512 c] w fun e w' => e = .returned (.int .i64 0) ∧ SgW w' S O (wrSt M x b) (n + 1) ∧ Fr [S.m] w w' := by
 have cm := sgMade_any h
 have HH := Lib.hid h
 obtain ⟨wD, hwD⟩ : ∃ wD, w.drew = wD := ⟨_, rfl⟩
 have fD : Fr [] w wD := by rw [← hwD]; exact (Fr.refl [] _).drew
 have hS0 := (h.keep_nil fD).c1
 have cc := clone_any A b 512 c wD hb (rd.keep_nil fD) hA (by omega)
 obtain ⟨f, hs, hd⟩ := h.srt
 have HS := Lib.hid (And.intro (hs.keep_nil fD) (And.intro (hd.keepT fD (NoTy.nil _ _)) fD))
 have hno := h.off2.1
 have hB := Lib.hid hb
 clear h hs hd fD rd hA hb
 go_enter Tryz.func23, Tryz.ntmps23
 go_upto_region 5 with (go_at_call 46; refine cm.mono ?_; rintro e w' ⟨rfl, rfl⟩)
 refine wp_region_held_drew (S := fun w' => w'.cell? ⟨S.g, 1, none⟩ = some (.pointer (some ⟨S.q, 0, none⟩))) (by kernel_rfl) (by rw [hwD]; exact hS0) (fun hHeld => ?_)
 rw [hwD] at hHeld ⊢
 clear hS0 hwD cm
 refine tw 0 15 hHeld ?_
 refine tw 1 16 hHeld ?_
 refine tw 2 17 hHeld ?_
 refine tw 3 18 hHeld ?_
 refine tw 4 19 hHeld ?_
 refine tw 5 20 hHeld ?_
 refine tc 6 (fun K hK => ?_)
 go_simp
 refine cc.mono ?_
 rintro e w5 ⟨v5, rfl, r5, f5⟩
 have hHx := f5.cell (by simp) hHeld
 refine hK.out _ _ hHx (fun hHy => ?_)
 clear hK cc hHeld hHy
 have hHeld := hHx
 clear hHx
 try simp only [Act.put, p1, p2, p3]
 obtain ⟨A5, c5, rfl, -⟩ := r5.shape
 have cs := srtSet_any (HS.out.1.keep_nil f5) hn x hx (.slice A5 512 c5) rfl
 refine tc 7 (fun K hK => ?_)
 go_simp
 refine cs.mono ?_
 rintro e w6 ⟨rfl, hs6, f6⟩
 have hHx := f6.cell (by simpa using hno) hHeld
 refine hK.out _ _ hHx (fun hHy => ?_)
 clear hK cs hHeld hHy hHx
 try simp only [Act.put, p1, p2, p3]
 refine wpAnyH_done (by kernel_rfl) ?_ _
 have H6 := Lib.hid (And.intro r5 (And.intro f5 (And.intro hs6 f6)))
 clear r5 f5 hs6 f6
 go_wp2_with fail
 go_ret
 obtain ⟨r5, f5, hs6, f6⟩ := H6.out
 obtain ⟨-, hd, fD⟩ := HS.out
 have fw : Fr [S.m] w w6 := ((fD.trans_nil f5).mono (by simp)).trans f6 (fun i hi => .inl hi)
 have n8 : NoTy w5 [S.m] 5 := (HH.out.keep_nil (fD.trans_nil f5)).no8
 obtain ⟨i1, i2, -⟩ := insL_up (x := x) (b := b) M.st HH.out.up
 refine ⟨rfl, HH.out.map (L := insL M.st x b) fw hs6 (fun y hy => ?_) i1 (fun p hp => ?_), fw⟩
 ·rw [lkL_ins _ _ HH.out.up]
  by_cases e : y = x
  ·subst e
   exact .inr ⟨_, b, by unfold fput; rw [if_pos rfl], if_pos rfl, hB.out, (r5.keepT f6 n8).mono (Nat.zero_le _)⟩
  ·rw [if_neg e, show fput f x (.slice A5 512 c5) y = f y from by unfold fput; rw [if_neg e]]
   exact ((hd.keepT f5 (NoTy.nil _ _)).keepT f6 n8) y hy
 ·rcases i2 p hp with h | h
  ·exact HH.out.wf p h
  ·rw [h]; exact hx
end
end
section
open Go.RowKit
set_option maxRecDepth 100000
theorem trIsCount_any (n : Nat) (w : World) (h : 1 ≤ n ∧ n ≤ 4096) : Calls Tryz.prog 103 #[.int .i64 n] w fun e w' => e = .returned (.bool true) ∧ w = w' := by
 have d0 : decide ((n : Int) ≥ 1) = true := by simp; omega
 have d1 : decide ((n : Int) ≤ 4096) = true := by simp; omega
 clear h
 go_enter Tryz.func103, Tryz.ntmps103
 go_wp2_with fail
 go_ret
 exact ⟨rfl, rfl⟩
theorem trUp_any (n : Nat) (w : World) (h : n ≤ 100000) : Calls Tryz.prog 155 #[.int .i64 n] w fun e w' => e = .returned (.int .i64 (upN n : Nat)) ∧ w = w' := by
 have HE := Lib.hid (show ((upN n : Nat) : Int) = ((n : Int) + 16 - 1) / 16 by unfold upN; omega)
 go_enter Tryz.func155, Tryz.ntmps155
 go_wp2_with fail
 go_ret
 exact ⟨by rw [HE.out]; rfl, rfl⟩
theorem trChild_any (g o c i : Nat) (w : World) (hc : 512 ≤ c) (hi : i ≤ 100000) : Calls Tryz.prog 83 #[.slice (some ⟨g, o, none⟩) 512 c, .int .i64 i] w fun e w' => e = .returned (.slice (some ⟨g, o + 32 * (i % 16), none⟩) 32 (c - 32 * (i % 16))) ∧ w = w' := by
 have E1 : (i : Int).tmod 16 = ((i % 16 : Nat) : Int) := (Int.ofNat_tmod _ _).symm
 have hm : i % 16 < 16 := Nat.mod_lt _ (by decide)
 obtain ⟨m, hmm⟩ : ∃ m, i % 16 = m := ⟨_, rfl⟩
 rw [hmm] at E1 hm ⊢
 have E2 : (i : Int) % 16 = (m : Int) := by omega
 clear hmm
 have K1 : 32 * (m : Int) + 32 ≤ c := by omega
 have N1 : ¬ (c = 32 * m) := by omega
 go_enter Tryz.func83, Tryz.ntmps83
 go_wp2_with fail
 rw [show 32 * m + 32 - 32 * m = 32 by omega]
 go_ret
 exact ⟨rfl, rfl⟩
def LevC (w : World) (n : Nat) (e : Ending) (w' : World) : Prop := ∃ v, e = .returned v ∧ Row w' w.heap.size 3 1 v (levsN n).length (ivs (levsN n)) ∧ Fr [] w w'
set_option maxHeartbeats 1000000 in
theorem trLevels_any (n : Nat) (w : World) (h : 1 ≤ n ∧ n ≤ 128) : Calls Tryz.prog 104 #[.int .i64 n] w (LevC w n) := by
 have hu := upN_b h
 have huu := upup h
 have c0 := trIsCount_any n w (by omega)
 have c1 := fun w => trUp_any n w (by omega)
 have c2 := fun w => trUp_any (upN n) w (by omega)
 have c3 := fun w => trUp_any 1 w (by omega)
 rw [huu] at c2
 rw [show upN 1 = 1 from rfl] at c3
 have HL1 := Lib.hid (show upN n = 1 → levsN n = [1] from fun h => if_pos h)
 have HL2 := Lib.hid (show upN n ≠ 1 → levsN n = [upN n, 1] from fun h => if_neg h)
 obtain ⟨u, hU⟩ : ∃ u, upN n = u := ⟨_, rfl⟩
 rw [hU] at hu HL1 HL2 c1 c2
 have C1 := Lib.hid c1
 have C2 := Lib.hid c2
 have C3 := Lib.hid c3
 clear hU huu c1 c2 c3
 go_enter Tryz.func104, Tryz.ntmps104
 go_wp2_with fail
 refine c0.mono ?_
 rintro e w1 ⟨rfl, rfl⟩
 go_wp2_with fail
 refine (C1.out _).mono ?_
 rintro e w1 ⟨rfl, rfl⟩
 go_wp2_with fail
 refine (C1.out _).mono ?_
 rintro e w1 ⟨rfl, rfl⟩
 have r1 : Row (w.alloc (.cells #[.int .i64 (u : Int)] 3)) w.heap.size 3 1 (.slice (some ⟨w.heap.size, 0, none⟩) 1 1) 1 (ivs [u]) := Row.new w #[.int .i64 (u : Int)] 3 1 1 (0, 0) (free_zero _) (by unfold maxLen; omega) rfl (Nat.le_refl _)
 have f1 : Fr [] w (w.alloc (.cells #[.int .i64 (u : Int)] 3)) := (Fr.refl _ _).alloc _
 go_wp2_with fail
 go_loopw [0, 3] (fun i v wr => Fr [] w wr ∧ ((i = .int .i64 (u : Int) ∧ Row wr w.heap.size 3 1 v 1 (ivs [u])) ∨ (u ≠ 1 ∧ i = .int .i64 ((1 : Nat) : Int) ∧ Row wr w.heap.size 3 1 v 2 (ivs [u, 1])))) (fun i _ _ => (intOf i).toNat)
 case atStart => exact ⟨f1, .inl ⟨rfl, r1⟩⟩
 case round =>
  clear r1 f1
  obtain ⟨F, ⟨rfl, R⟩ | ⟨hu1, rfl, R⟩⟩ := hrel
  ·by_cases hu1 : u = 1
   ·subst hu1
    have HLL := Lib.hid (HL1.out rfl)
    obtain ⟨A3, c3, rfl, -, -, -, -, -⟩ := R.shape
    go_wp2_with fail
    go_ret
    exact ⟨_, rfl, by rw [HLL.out]; exact R, F⟩
   ·have d0 : (1 : Int) < u := by omega
    obtain ⟨A3, c3, rfl, -, -, -, -, -⟩ := R.shape
    go_wp2_with fail
    refine (C2.out _).mono ?_
    rintro e w2 ⟨rfl, rfl⟩
    go_wp2_with (at_builtin; refine wpList_app rfl rfl slI w.heap.size _ 1 (ivs [u]) rfl (R.alloc _) _ 1 1 [_] rfl rfl (Rd.one _ _ _) (by intro u hu; rw [List.mem_singleton.1 hu]; rfl) (fun h => by cases h) (by omega) (by have := F.size; simp; omega) ?_; intro v7 w7 q1 q2 q3 q4)
    refine (C2.out _).mono ?_
    rintro e w8 ⟨rfl, rfl⟩
    obtain ⟨A7, c7, rfl, -, -, -, -, -⟩ := q1.shape
    have F7 : Fr [] w w7 := (F.alloc _).trans q2 (fun i hi => .inr (R.lt i (mem_own.1 hi)).1)
    go_wp2_with fail
    exact ⟨⟨F7, .inr ⟨hu1, rfl, q1⟩⟩, by simp [intOf]; omega⟩
  ·have HLL := Lib.hid (HL2.out hu1)
   obtain ⟨A3, c3, rfl, -, -, -, -, -⟩ := R.shape
   go_wp2_with fail
   go_ret
   exact ⟨_, rfl, by rw [HLL.out]; exact R, F⟩
set_option maxHeartbeats 1000000 in
theorem xtLevels_any (n : Nat) (w : World) (h : 1 ≤ n ∧ n ≤ 128) : Calls Tryz.prog 51 #[.int .i64 n] w (LevC w n) := by
 have hu := upN_b h
 have huu := upup h
 have HL1 := Lib.hid (show upN n = 1 → levsN n = [1] from fun h => if_pos h)
 have HL2 := Lib.hid (show upN n ≠ 1 → levsN n = [upN n, 1] from fun h => if_neg h)
 have E1 : ((n : Int) + 15) / 16 = ((upN n : Nat) : Int) := by unfold upN; omega
 have E2 : (((upN n : Nat) : Int) + 15) / 16 = ((1 : Nat) : Int) := by rw [← huu]; unfold upN; omega
 obtain ⟨u, hU⟩ : ∃ u, upN n = u := ⟨_, rfl⟩
 rw [hU] at hu HL1 HL2 E1 E2
 clear hU huu
 have d0 : decide ((n : Int) < 1) = false := by simp; omega
 have d1 : decide ((n : Int) > 4096) = false := by simp; omega
 go_enter Tryz.func51, Tryz.ntmps51
 go_wp2_with fail
 clear d0 d1
 go_loopw [0, 3] (fun i v wr => Fr [] w wr ∧ ((i = .int .i64 (u : Int) ∧ v = .slice none 0 0) ∨ (u ≠ 1 ∧ i = .int .i64 ((1 : Nat) : Int) ∧ Row wr w.heap.size 3 1 v 1 (ivs [u])))) (fun i _ _ => (intOf i).toNat)
 case atStart => exact ⟨Fr.refl _ _, .inl ⟨by rw [E1], rfl⟩⟩
 case round =>
  clear E1
  obtain ⟨F, ⟨rfl, rfl⟩ | ⟨hu1, rfl, R⟩⟩ := hrel
  ·by_cases hu1 : u = 1
   ·subst hu1
    have HLL := Lib.hid (HL1.out rfl)
    go_wp2_with (at_builtin; refine wpList_app rfl rfl slI w.heap.size _ 0 [] rfl (Row.nil _ _ _ _) _ 1 1 [_] rfl rfl (Rd.one _ _ _) (by intro u hu; rw [List.mem_singleton.1 hu]; rfl) (fun h => by cases h) (by omega) (by have := F.size; simp; omega) ?_; intro v7 w7 q1 q2 q3 q4)
    obtain ⟨A7, c7, rfl, -, -, -, -, -⟩ := q1.shape
    go_wp2_with fail
    go_ret
    exact ⟨_, rfl, by rw [HLL.out]; exact q1, (F.alloc _).trans q2 (fun i hi => (own_nil.1 hi).elim)⟩
   ·have d0 : (1 : Int) < u := by omega
    go_wp2_with (at_builtin; refine wpList_app rfl rfl slI w.heap.size _ 0 [] rfl (Row.nil _ _ _ _) _ 1 1 [_] rfl rfl (Rd.one _ _ _) (by intro u hu; rw [List.mem_singleton.1 hu]; rfl) (fun h => by cases h) (by omega) (by have := F.size; simp; omega) ?_; intro v7 w7 q1 q2 q3 q4)
    obtain ⟨A7, c7, rfl, -, -, -, -, -⟩ := q1.shape
    have F7 : Fr [] w w7 := (F.alloc _).trans q2 (fun i hi => (own_nil.1 hi).elim)
    exact ⟨⟨F7, .inr ⟨hu1, by rw [E2], q1⟩⟩, by simp [intOf]; omega⟩
  ·have HLL := Lib.hid (HL2.out hu1)
   obtain ⟨A3, c3, rfl, -, -, -, -, -⟩ := R.shape
   go_wp2_with (at_builtin; refine wpList_app rfl rfl slI w.heap.size _ 1 (ivs [u]) rfl (R.alloc _) _ 1 1 [_] rfl rfl (Rd.one _ _ _) (by intro u hu; rw [List.mem_singleton.1 hu]; rfl) (fun h => by cases h) (by omega) (by have := F.size; simp; omega) ?_; intro v7 w7 q1 q2 q3 q4)
   obtain ⟨A7, c7, rfl, -, -, -, -, -⟩ := q1.shape
   go_wp2_with fail
   go_ret
   exact ⟨_, rfl, by rw [HLL.out]; exact q1, (F.alloc _).trans q2 (fun i hi => .inr (R.lt i (mem_own.1 hi)).1)⟩
end
section
open Go.RowKit
theorem brd_one {w : World} {A : Option Addr} {n c : Nat} {l : List UInt8} (hn : l.length = n) (h : SlB w (.slice A n c) l) : BRd (w.alloc (.cells #[.slice A n c] 27)) (some ⟨w.heap.size, 0, none⟩) [.slice A n c] [l] :=
 ⟨Rd.one w _ _, rfl, fun i h1 h2 => by
  obtain rfl : i = 0 := by simp at h1; omega
  exact h.keep_nil ((Fr.refl _ _).alloc _)⟩
set_option maxRecDepth 100000 in
set_option maxHeartbeats 4000000 in
theorem trDigest_any {w : World} {n c n0 c0 : Nat} {A A0 : Option Addr} {mk : List UInt8} {vs : List Value} {bs : List (List UInt8)} (h0 : mk.length = n0) (r0 : Rd w A0 (bvs mk)) (a0 : A0 = none → n0 = 0) (hn : bs.length = n) (hr : BRd w A vs bs) (hb : mk.length + bs.flatten.length ≤ 140737488355200) (hn2 : n ≤ 140737488355328) (hK : KG w) :
  Calls Tryz.prog 86 #[.slice A0 n0 c0, .slice A n c] w fun e w' => e = .returned (.agg (bvs (shaSum (mk ++ bs.flatten))).toArray) ∧ Fr [] w w' := by
 have HN := Lib.hid hn
 have HB := Lib.hid hb
 have HM := Lib.hid h0
 have p0 := hK.pos
 clear hn hb h0
 go_enter Tryz.func86, Tryz.ntmps86
 go_wp2_with
  (first
   | (refine wpList_alS stA32 (o := ⟨some 4, _, _, _, _, _⟩) rfl rfl ?_; intro w1 h1 f1 z1; have Z1 := Lib.hid z1; clear z1; obtain ⟨g1, hg1⟩ : ∃ g1, w.heap.size = g1 := ⟨_, rfl⟩; rw [hg1] at h1; rw [hg1]; have HG1 := Lib.hid hg1; clear hg1))
 refine (newHash_any w1).mono ?_
 rintro e w2 ⟨g, rfl, hg, hh, f2⟩
 have F2 := f1.trans_nil f2
 have b2 := h1.keep_nil f2
 have gw : w.heap.size < g := by have := Z1.out; omega
 have hgl := hh.blk.lt
 have g1g : g1 < g := by have := HG1.out; omega
 clear h1 f1 f2
 obtain ⟨B, hB⟩ : ∃ B, w2.heap.size = B := ⟨_, rfl⟩
 rw [hB] at hh hgl
 have hgB : g < B := hgl
 clear hgl
 have cc := hWrite_any hh A0 n0 c0 mk HM.out (r0.keep_nil F2) a0 (fun g' o e hne => by
  obtain ⟨g2, o2, e2, h2⟩ := r0.lt (by intro h0; apply hne; simpa [bvs] using h0)
  rw [e] at e2
  cases e2
  omega) (by have := HB.out; have := HM.out; simp; omega) (hK.keep F2) (by omega) (by omega)
 clear hB
 go_wp2_with fail
 refine cc.mono ?_
 clear cc hh
 rintro e w3 ⟨rfl, v3, h3, f3, -⟩
 rw [List.nil_append] at h3
 have F3 : Fr [] w w3 := F2.trans f3 (fun i hi => .inr (by
  rcases List.mem_cons.1 hi with rfl | hi
  ·omega
  ·exact absurd hi (by simp [Value.ownBlock])))
 have b3 := b2.keep f3 (fun hm => by
  rcases List.mem_cons.1 hm with e | hm
  ·omega
  ·exact absurd hm (by simp [Value.ownBlock]))
 clear b2 F2 f3
 go_wp2_with fail
 go_loopw [14] (fun i wr => ∃ k : Nat, k ≤ n ∧ i = .int .i64 k ∧ (∃ v, Hsh wr g B v (mk ++ (bs.take k).flatten)) ∧ Blk wr g1 39 (bvs (zB 32)).toArray ∧ Fr [] w wr) (fun i _ => n - (intOf i).toNat)
 case atStart => exact ⟨0, Nat.zero_le _, rfl, ⟨v3, by simpa using h3⟩, b3, F3⟩
 case round =>
  clear h3 b3 F3
  obtain ⟨k, hk, rfl, ⟨v, hh⟩, b3, F3⟩ := hrel
  have hbase := hh.base
  by_cases hlt : k < n
  ·have hkl : k < bs.length := by rw [HN.out]; exact hlt
   have hkv : k < vs.length := by rw [hr.len]; exact hkl
   have hr3 := hr.keep_nil F3
   obtain ⟨ga, oa, rfl, hc⟩ := hr3.rd (by intro h; rw [h] at hkv; simp at hkv)
   have ck := hc k vs[k] (List.getElem?_eq_getElem hkv)
   obtain ⟨Ak, cK, hv, hrd, hnil, hcap⟩ := hr3.each k hkv hkl
   obtain ⟨Aw, cw, hvw, hrdw, -⟩ := hr.each k hkv hkl
   rw [hv] at ck
   have eA : Ak = Aw := by rw [hv] at hvw; injection hvw
   have hft : mk ++ (bs.take (k + 1)).flatten = (mk ++ (bs.take k).flatten) ++ bs[k] := by rw [flat_take_succ bs k hkl, List.append_assoc]
   have hfl := flat_take_le bs (k + 1)
   rw [flat_take_succ bs k hkl, List.length_append] at hfl
   obtain ⟨b, hbk⟩ : ∃ b, bs[k] = b := ⟨_, rfl⟩
   rw [hbk] at ck hrd hnil hft hfl hrdw hcap
   have hml : (mk ++ (bs.take k).flatten).length = mk.length + (bs.take k).flatten.length := List.length_append
   obtain ⟨l, hll⟩ : ∃ l, mk ++ (bs.take k).flatten = l := ⟨_, rfl⟩
   rw [hll] at hh hft hml
   have HFT := Lib.hid hft
   obtain ⟨nb, hnb⟩ : ∃ nb, b.length = nb := ⟨_, rfl⟩
   rw [hnb] at ck hnil hfl hcap
   have HB2 := HB.out
   have cc := hWrite_any hh Ak nb cK b hnb hrd hnil (fun g' o e hne => by
    obtain ⟨g2, o2, e2, h2⟩ := hrdw.lt (by intro h0; apply hne; simpa [bvs] using h0)
    rw [← eA, e] at e2
    cases e2
    omega) (by omega) (hK.keep F3) (by omega) (by omega)
   have hown : ∀ i, v.ownBlock = some i → B ≤ i := fun i hi => (hh.row.lt i hi).1
   clear hc hv hrd hnil hcap hvw hrdw eA hft hfl hbk hll hml hnb hr3 HB2
   go_wp2_with fail
   refine cc.mono ?_
   clear cc
   rintro e w4 ⟨rfl, v4, h4, f4, -⟩
   have b4 := b3.keep f4 (fun hm => by
    rcases List.mem_cons.1 hm with e | hm
    ·omega
    ·have := hown _ (mem_own.1 hm); omega)
   have F4 : Fr [] w w4 := F3.trans f4 (fun i hi => .inr (by
    rcases List.mem_cons.1 hi with e | hi
    ·omega
    ·have := hown _ (mem_own.1 hi); omega))
   go_wp2_with fail
   exact ⟨⟨k + 1, by omega, by go_num, ⟨v4, by rw [HFT.out]; exact h4⟩, b4, F4⟩, by simp [intOf]; omega⟩
  ·obtain rfl : k = n := by omega
   rw [List.take_of_length_le (by rw [HN.out]; exact Nat.le_refl _)] at hh
   go_wp2_with fail
   refine (hSum_any hh (by rw [List.length_append]; exact HB.out) (hK.keep F3)).mono ?_
   rintro e w5 ⟨rfl, f5⟩
   have F5 := F3.trans_nil f5
   have b5 := b3.keep_nil f5
   obtain ⟨D, hD⟩ : ∃ D, shaSum (mk ++ bs.flatten) = D := ⟨_, rfl⟩
   have hdl : D.length = 32 := by rw [← hD, shaSum_length]
   rw [hD]
   have HDL := Lib.hid hdl
   have HDD := Lib.hid (fun _ : Unit => hD)
   clear hD hdl hh b3 F3 f5
   go_wp2_with
    (first
     | (refine wpList_stB stA32 rfl rfl g1 rfl (bvs D) rfl (by rw [bvs_length, HDL.out]) (bvs_one _) (bvs (zB 32)) rfl b5 ?_; intro wb hb fb zb; have ZB := Lib.hid zb; clear zb))
   try simp only [Exit.inBlock, Exit.then]
   refine bodyPost_ret (results_cell stA32 rfl rfl (by rw [bvs_length, HDL.out]) hb) rfl ?_
   exact ⟨by rw [HDD.out ()], F5.trans fb (fun i hi => .inr (by have := HG1.out; simp at hi; omega))⟩
set_option maxRecDepth 100000 in
set_option maxHeartbeats 1000000 in
theorem trLeaf_any (A : Option Addr) (l : List UInt8) (n c : Nat) (w : World) (hn : l.length = n) (hr : Rd w A (bvs l)) (hA : A = none → n = 0) (hc : n ≤ c) (hN : n ≤ 70368744177664) (hK : KG w) :
  Calls Tryz.prog 44 #[.slice A n c] w fun e w' => e = .returned (.agg (bvs (leafH l)).toArray) ∧ Fr [] w w' := by
 have HS : SlB w (.slice A n c) l := ⟨A, c, by rw [hn], hr, by rw [hn]; exact hA, by omega⟩
 have HN := Lib.hid hn
 have hD : shaSum ([0] ++ [l].flatten) = leafH l := by simp [leafH]
 have hDL : (leafH l).length = 32 := shaSum_length _
 obtain ⟨D, hDD⟩ : ∃ D, leafH l = D := ⟨_, rfl⟩
 rw [hDD] at hD hDL ⊢
 have HD := Lib.hid hD
 have HDL := Lib.hid hDL
 clear hn hr hA hD hDL hDD
 go_enter Tryz.func44, Tryz.ntmps44
 go_wp2_with
  (first
   | (refine wpList_alS stA32 (o := ⟨some 2, _, _, _, _, _⟩) rfl rfl ?_; intro w1 h1 f1 z1; have Z1 := Lib.hid z1; clear z1; obtain ⟨g1, hg1⟩ : ∃ g1, w.heap.size = g1 := ⟨_, rfl⟩; rw [hg1] at h1; rw [hg1]; have HG1 := Lib.hid hg1; clear hg1)
   | fail)
 have fa : Fr [] w1 (w1.alloc (.cells #[.int .u8 0] 5)) := (Fr.refl _ _).alloc _
 have fb : Fr [] (w1.alloc (.cells #[.int .u8 0] 5)) ((w1.alloc (.cells #[.int .u8 0] 5)).alloc (.cells #[.slice A n c] 27)) := (Fr.refl _ _).alloc _
 have r0 : Rd (w1.alloc (.cells #[.int .u8 0] 5)) (some ⟨w1.heap.size, 0, none⟩) (bvs [0]) := Rd.one w1 _ _
 have r1 := brd_one HN.out ((HS.keep_nil f1).keep_nil fa)
 have fz := (f1.trans_nil fa).trans_nil fb
 have cc := trDigest_any (mk := [0]) (n0 := 1) (c0 := 1) (n := 1) (c := 1) (bs := [l]) rfl (r0.keep_nil fb) (by simp) rfl r1 (by have := HN.out; simp; omega) (by omega) (hK.keep fz)
 rw [HD.out, show (w1.alloc (.cells #[.int .u8 0] 5)).heap.size = w1.heap.size + 1 by simp] at cc
 have i2 := (h1.keep_nil fa).keep_nil fb
 have FZ := Lib.hid fz
 clear fa fb r0 r1 fz h1 f1
 refine cc.mono ?_
 rintro e w3 ⟨rfl, f3⟩
 have i3 := i2.keep_nil f3
 have F3 := FZ.out.trans_nil f3
 clear i2 f3 cc
 go_wp2_with (first | (refine wpList_stB stA32 rfl rfl g1 rfl (bvs D) rfl (by rw [bvs_length, HDL.out]) (bvs_one _) (bvs (zB 32)) rfl i3 ?_; intro wc hc fc zc; clear zc))
 try simp only [Exit.inBlock, Exit.then]
 refine bodyPost_ret (results_cell stA32 rfl rfl (by rw [bvs_length, HDL.out]) hc) rfl ?_
 exact ⟨rfl, F3.trans fc (fun i hi => .inr (by have := HG1.out; simp at hi; omega))⟩
theorem root_head {m : Nat} (h : m ≤ 4096) : #[Value.int .u8 2, Value.int .u8 ((m : Int) % 256), Value.int .u8 ((m : Int) / 256), Value.int .u8 ((m : Int) / 65536), Value.int .u8 ((m : Int) / 16777216)] = (bvs [2, UInt8.ofNat m, UInt8.ofNat (m / 256), UInt8.ofNat (m / 65536), UInt8.ofNat (m / 16777216)]).toArray := by
 have e : ∀ x : Nat, bv (UInt8.ofNat x) = Value.int .u8 ((x % 256 : Nat) : Int) := fun x => by unfold bv; simp
 simp only [bvs, List.map_cons, List.map_nil, e]
 congr 2
 rw [show ((m : Int) / 256) = ((m / 256 % 256 : Nat) : Int) by omega, show ((m : Int) / 65536) = ((m / 65536 % 256 : Nat) : Int) by omega, show ((m : Int) / 16777216) = ((m / 16777216 % 256 : Nat) : Int) by omega]
 rfl
theorem ofNat_toNat {k : Nat} (h : k < 256) : Value.int .u8 (k : Int) = bv (UInt8.ofNat k) := by
 unfold bv; congr 1; simp; omega
set_option maxRecDepth 100000 in
set_option maxHeartbeats 1000000 in
theorem trNode_any (k : Nat) (hk : k ≤ 200) (A : Option Addr) (l : List UInt8) (n c : Nat) (w : World) (hn : l.length = n) (hr : Rd w A (bvs l)) (hA : A = none → n = 0) (hc : n ≤ c) (hN : n ≤ 70368744177664) (hK : KG w) :
  Calls Tryz.prog 84 #[.int .i64 k, .slice A n c] w fun e w' => e = .returned (.agg (bvs (nodeH (UInt8.ofNat k) l)).toArray) ∧ Fr [] w w' := by
 have HS : SlB w (.slice A n c) l := ⟨A, c, by rw [hn], hr, by rw [hn]; exact hA, by omega⟩
 have HN := Lib.hid hn
 have hD : shaSum ([1, UInt8.ofNat k] ++ [l].flatten) = nodeH (UInt8.ofNat k) l := by simp [nodeH]
 have hDL : (nodeH (UInt8.ofNat k) l).length = 32 := shaSum_length _
 obtain ⟨D, hDD⟩ : ∃ D, nodeH (UInt8.ofNat k) l = D := ⟨_, rfl⟩
 rw [hDD] at hD hDL ⊢
 have HD := Lib.hid hD
 have HDL := Lib.hid hDL
 have U : IntKind.u8.wrap (k : Int) = k := by rw [IntKind.wrap_u8]; omega
 have HB := Lib.hid (ofNat_toNat (k := k) (by omega))
 clear hn hr hA hD hDL hDD
 go_enter Tryz.func84, Tryz.ntmps84
 go_wp2_with
  (first
   | (refine wpList_alS stA32 (o := ⟨some 4, _, _, _, _, _⟩) rfl rfl ?_; intro w1 h1 f1 z1; have Z1 := Lib.hid z1; clear z1; obtain ⟨g1, hg1⟩ : ∃ g1, w.heap.size = g1 := ⟨_, rfl⟩; rw [hg1] at h1; rw [hg1]; have HG1 := Lib.hid hg1; clear hg1)
   | fail)
 have fa : Fr [] w1 (w1.alloc (.cells #[.int .u8 1, .int .u8 k] 5)) := (Fr.refl _ _).alloc _
 have fb : Fr [] (w1.alloc (.cells #[.int .u8 1, .int .u8 k] 5)) ((w1.alloc (.cells #[.int .u8 1, .int .u8 k] 5)).alloc (.cells #[.slice A n c] 27)) := (Fr.refl _ _).alloc _
 have r0 : Rd (w1.alloc (.cells #[.int .u8 1, .int .u8 k] 5)) (some ⟨w1.heap.size, 0, none⟩) (bvs [1, UInt8.ofNat k]) := by
  refine Rd.of_blk (Blk.new w1 5 #[.int .u8 1, .int .u8 k]) 0 _ (fun j u hu => ?_)
  rw [Nat.zero_add]
  rw [HB.out]
  simpa [bvs, bv] using hu
 have r1 := brd_one HN.out ((HS.keep_nil f1).keep_nil fa)
 have fz := (f1.trans_nil fa).trans_nil fb
 have cc := trDigest_any (mk := [1, UInt8.ofNat k]) (n0 := 2) (c0 := 2) (n := 1) (c := 1) (bs := [l]) rfl (r0.keep_nil fb) (by simp) rfl r1 (by have := HN.out; simp; omega) (by omega) (hK.keep fz)
 rw [HD.out, show (w1.alloc (.cells #[.int .u8 1, .int .u8 k] 5)).heap.size = w1.heap.size + 1 by simp] at cc
 have i2 := (h1.keep_nil fa).keep_nil fb
 have FZ := Lib.hid fz
 clear fa fb r0 r1 fz h1 f1
 refine cc.mono ?_
 rintro e w3 ⟨rfl, f3⟩
 have i3 := i2.keep_nil f3
 have F3 := FZ.out.trans_nil f3
 clear i2 f3 cc
 go_wp2_with (first | (refine wpList_stB stA32 rfl rfl g1 rfl (bvs D) rfl (by rw [bvs_length, HDL.out]) (bvs_one _) (bvs (zB 32)) rfl i3 ?_; intro wc hc fc zc; clear zc))
 try simp only [Exit.inBlock, Exit.then]
 refine bodyPost_ret (results_cell stA32 rfl rfl (by rw [bvs_length, HDL.out]) hc) rfl ?_
 exact ⟨rfl, F3.trans fc (fun i hi => .inr (by have := HG1.out; simp at hi; omega))⟩
set_option maxRecDepth 100000 in
set_option maxHeartbeats 1000000 in
theorem trRoot_any (m k : Nat) (hm : m ≤ 4096) (hk : k ≤ 200) (A : Option Addr) (l : List UInt8) (n c : Nat) (w : World) (hn : l.length = n) (hr : Rd w A (bvs l)) (hA : A = none → n = 0) (hc : n ≤ c) (hN : n ≤ 70368744177664) (hK : KG w) :
  Calls Tryz.prog 106 #[.int .i64 m, .int .i64 k, .slice A n c] w fun e w' => e = .returned (.agg (bvs (rootH m (UInt8.ofNat k) l)).toArray) ∧ Fr [] w w' := by
 have HN := Lib.hid hn
 obtain ⟨N, hNN⟩ : ∃ N, nodeH (UInt8.ofNat k) l = N := ⟨_, rfl⟩
 have hNL : N.length = 32 := by rw [← hNN]; exact shaSum_length _
 have hD : shaSum ([2, UInt8.ofNat m, UInt8.ofNat (m / 256), UInt8.ofNat (m / 65536), UInt8.ofNat (m / 16777216)] ++ [N].flatten) = rootH m (UInt8.ofNat k) l := by rw [← hNN]; simp [rootH]
 have hDL : (rootH m (UInt8.ofNat k) l).length = 32 := shaSum_length _
 obtain ⟨D, hDD⟩ : ∃ D, rootH m (UInt8.ofNat k) l = D := ⟨_, rfl⟩
 rw [hDD] at hD hDL ⊢
 have HD := Lib.hid hD
 have HDL := Lib.hid hDL
 have HNL := Lib.hid hNL
 clear hD hDL hDD hNL
 have cn := fun w1 (f : Fr [] w w1) => trNode_any k hk A l n c w1 HN.out (hr.keep_nil f) hA hc hN (hK.keep f)
 rw [hNN] at cn
 have CN := Lib.hid cn
 have HCC := Lib.hid (root_head (m := m) (by omega))
 clear hn hr hA hNN cn
 go_enter Tryz.func106, Tryz.ntmps106
 go_wp2_with
  (first
   | (refine wpList_alS stA32 (o := ⟨some 6, _, _, _, _, _⟩) rfl rfl ?_; intro w1 h1 f1 z1; have Z1 := Lib.hid z1; clear z1; obtain ⟨g1, hg1⟩ : ∃ g1, w.heap.size = g1 := ⟨_, rfl⟩; rw [hg1] at h1; rw [hg1]; have HG1 := Lib.hid hg1; clear hg1)
   | fail)
 refine (CN.out w1 f1).mono ?_
 rintro e w2 ⟨rfl, f2⟩
 have F2 := f1.trans_nil f2
 have i2 := h1.keep_nil f2
 clear f1 f2 h1
 go_wp2_with
  (first
   | (refine wpList_alS stA32 (o := ⟨some 7, _, _, _, _, _⟩) rfl rfl ?_; intro w3 h3 f3 z3; have Z3 := Lib.hid z3; clear z3; obtain ⟨g3, hg3⟩ : ∃ g3, w2.heap.size = g3 := ⟨_, rfl⟩; rw [hg3] at h3; rw [hg3]; have HG3 := Lib.hid hg3; clear hg3)
   | (refine wpList_stB stA32 rfl rfl g3 rfl (bvs N) rfl (by rw [bvs_length, HNL.out]) (bvs_one _) (bvs (zB 32)) rfl h3 ?_; intro w4 h4 f4 z4; have Z4 := Lib.hid z4; clear z4))
 obtain ⟨cs, hcs⟩ : ∃ cs, #[Value.int .u8 2, Value.int .u8 ((m : Int) % 256), Value.int .u8 ((m : Int) / 256), Value.int .u8 ((m : Int) / 65536), Value.int .u8 ((m : Int) / 16777216)] = cs := ⟨_, rfl⟩
 rw [hcs]
 have hcb : cs = (bvs [2, UInt8.ofNat m, UInt8.ofNat (m / 256), UInt8.ofNat (m / 65536), UInt8.ofNat (m / 16777216)]).toArray := by rw [← hcs]; exact HCC.out
 have f5 : Fr [] w2 w4 := f3.trans f4 (fun i hi => .inr (by have := HG3.out; simp at hi; omega))
 have i4 := i2.keep_nil f5
 have F4 := F2.trans_nil f5
 have fa : Fr [] w4 (w4.alloc (.cells cs 5)) := (Fr.refl _ _).alloc _
 have fb : Fr [] (w4.alloc (.cells cs 5)) ((w4.alloc (.cells cs 5)).alloc (.cells #[.slice (some ⟨g3, 0, none⟩) 32 32] 27)) := (Fr.refl _ _).alloc _
 have r0 : Rd (w4.alloc (.cells cs 5)) (some ⟨w4.heap.size, 0, none⟩) (bvs [2, UInt8.ofNat m, UInt8.ofNat (m / 256), UInt8.ofNat (m / 65536), UInt8.ofNat (m / 16777216)]) := by
  refine Rd.of_blk (Blk.new w4 5 cs) 0 _ (fun j u hu => ?_)
  rw [Nat.zero_add, hcb]
  simpa using hu
 have HS : SlB w4 (.slice (some ⟨g3, 0, none⟩) 32 32) N := ⟨_, 32, by rw [HNL.out], Rd.of_blk h4 0 _ (fun j u hu => by rw [Nat.zero_add]; simpa using hu), by simp, by rw [HNL.out]; exact Nat.le_refl _⟩
 have r1 := brd_one HNL.out (HS.keep_nil fa)
 have fz := (F4.trans_nil fa).trans_nil fb
 have cc := trDigest_any (mk := [2, UInt8.ofNat m, UInt8.ofNat (m / 256), UInt8.ofNat (m / 65536), UInt8.ofNat (m / 16777216)]) (n0 := 5) (c0 := 5) (n := 1) (c := 1) (bs := [N]) rfl (r0.keep_nil fb) (by simp) rfl r1 (by have := HNL.out; simp; omega) (by omega) (hK.keep fz)
 rw [HD.out, show (w4.alloc (.cells cs 5)).heap.size = w4.heap.size + 1 by simp] at cc
 have i2 := (i4.keep_nil fa).keep_nil fb
 have FZ := Lib.hid fz
 clear fa fb r0 r1 fz i4 f3 f4 h3 h4 F2 F4 f5 hcs hcb HS
 refine cc.mono ?_
 rintro e w5 ⟨rfl, f5⟩
 have i3 := i2.keep_nil f5
 have F3 := FZ.out.trans_nil f5
 clear i2 f5 cc
 go_wp2_with (first | (refine wpList_stB stA32 rfl rfl g1 rfl (bvs D) rfl (by rw [bvs_length, HDL.out]) (bvs_one _) (bvs (zB 32)) rfl i3 ?_; intro wc hc fc zc; clear zc))
 try simp only [Exit.inBlock, Exit.then]
 refine bodyPost_ret (results_cell stA32 rfl rfl (by rw [bvs_length, HDL.out]) hc) rfl ?_
 exact ⟨rfl, F3.trans fc (fun i hi => .inr (by have := HG1.out; simp at hi; omega))⟩
end
end Go.Proofs.YtbanogfljpkbkaaGreatDoor
