/-
  Texts of this claim, one behind the other: CacH, CacI, CacJ, CacK, CacM, MerA.
-/
import Derived.Test.YtbanogfljpkbkaaGreatDoorF36
import Derived.Test.YtbanogfljpkbkaaGreatDoorF33
import Derived.Test.YtbanogfljpkbkaaGreatDoorF34
set_option linter.unusedSimpArgs false
set_option linter.unusedVariables false
set_option linter.unnecessarySimpa false
namespace Go.Proofs.YtbanogfljpkbkaaGreatDoor
section
open Go.RowKit
set_option maxRecDepth 100000
section
variable {w w' : World} {g p : Nat} {O : List Nat} {J : JrM} {D : DkM}
theorem jnRoom_q (h : Jr w g p J) (ok : J.ok) : Calls Tryz.prog 91 #[.pointer (some ⟨g, 0, none⟩)] w fun e w' => e = .returned (.int .i64 J.room) ∧ ∃ q, w' = w.drewN q := by
 have c2 : w.cell? ⟨g, 2, none⟩ = some (.int .i64 J.count) := Blk.cell h 2
 have c4 : w.cell? ⟨g, 4, none⟩ = some (.int .i64 J.used) := Blk.cell h 4
 have c5 : w.cell? ⟨g, 5, none⟩ = some (.bool J.begun) := Blk.cell h 5
 have cs := jnState_any h
 have hc := ok.c
 have hu := ok.u
 have HS := Lib.hid (show J.room = if J.bad = true ∨ J.begun = false then 0 else max (min (J.count - 3 - J.used) 64) 0 from rfl)
 rw [JrM.stE] at cs
 obtain ⟨bad, hb⟩ : ∃ b, J.bad = b := ⟨_, rfl⟩
 obtain ⟨beg, hg⟩ : ∃ b, J.begun = b := ⟨_, rfl⟩
 rw [hb, hg] at HS
 rw [hg] at c5
 rw [hb] at cs
 clear h hb hg
 have e1 : IntKind.i64.wrap (J.count - 3) = J.count - 3 := IntWalk.i64_in _ (by omega)
 have e2 : IntKind.i64.wrap (J.count - 3 - J.used) = J.count - 3 - J.used := IntWalk.i64_in _ (by omega)
 cases bad
 ·cases beg
  ·go_enter Tryz.func91, Tryz.ntmps91
   go_wp2_with (go_at_call 141; refine cs.mono ?_; rintro e w' ⟨rfl, rfl⟩)
   go_ret
   exact ⟨by rw [HS.out]; rfl, 0, rfl⟩
  ·go_enter Tryz.func91, Tryz.ntmps91
   go_upto_region 3 with (go_at_call 141; refine cs.mono ?_; rintro e w' ⟨rfl, rfl⟩)
   go_quiet (fail)
   obtain ⟨m, hm⟩ : ∃ m, max (min (J.count - 3 - J.used) 64) 0 = m := ⟨_, rfl⟩
   obtain ⟨m2, hm2⟩ : ∃ m, min (J.count - 3 - J.used) 64 = m := ⟨_, rfl⟩
   rw [hm] at HS ⊢
   rw [hm2]
   go_wp2_with fail
   go_ret
   exact ⟨by rw [HS.out, if_neg (by simp)]; rfl, _, rfl⟩
 ·go_enter Tryz.func91, Tryz.ntmps91
  go_wp2_with (go_at_call 141; refine cs.mono ?_; rintro e w' ⟨rfl, rfl⟩)
  go_ret
  exact ⟨by rw [HS.out]; rfl, 0, rfl⟩
end
section
variable {w w' : World} {P : CaP} {O : List Nat} {M : CaM} {N : Nat}
set_option maxHeartbeats 1000000 in
theorem caCommit1_any (h : CaW w P O M) (G : CaG N M) (hm : M.J.num + 600 < 9223372036854775808) (hK : KG w) (hz : 0 ∉ P.own O) (hu : ∀ x, (M.D.uns x).length + 5000 ≤ 4398046511104) {gl gc n c : Nat} {A : Option Addr}
  (kl : Blk w gl 87 #[.slice A n c]) (kc : Blk w gc 81 #[.pointer (some ⟨P.c, 0, none⟩)]) :
  Calls Tryz.prog 90 #[.pointer (some ⟨gl, 0, none⟩), .pointer (some ⟨gc, 0, none⟩)] w fun e w' => e = .returned (.int .i64 0) ∧ AftC w P O (roomM M n) w' := by
 have cl := kl.cell 0
 have cc := kc.cell 0
 have c1 := h.c1
 have HH := Lib.hid (And.intro h (And.intro G (And.intro hm (And.intro hK (And.intro hz (And.intro hu kc))))))
 have CR := Lib.hid (show ∀ q, Calls Tryz.prog 91 #[.pointer (some ⟨P.g, 0, none⟩)] (w.drewN q) fun e w' => e = .returned (.int .i64 M.J.room) ∧ ∃ m, w' = (w.drewN q).drewN m from fun q => jnRoom_q (h.jr.keep_nil ((Fr.refl _ _).drewN q)) G.jok)
 have CM := Lib.hid (show ∀ q, Calls Tryz.prog 92 #[.pointer (some ⟨P.g, 0, none⟩)] (w.drewN q) fun e w' => e = .returned (.int .i64 M.J.most) ∧ w.drewN q = w' from fun q => jnMost_any (h.jr.keep_nil ((Fr.refl _ _).drewN q)) G.jok)
 obtain ⟨ro, hro⟩ : ∃ ro, M.J.room = ro := ⟨_, rfl⟩
 obtain ⟨mo, hmo⟩ : ∃ mo, M.J.most = mo := ⟨_, rfl⟩
 rw [hro] at CR
 rw [hmo] at CM
 have HRM := Lib.hid (show roomM M n = if (n : Int) ≤ ro ∨ mo < n then M else chkC M by rw [roomM, hro, hmo])
 clear h G hm hK hz hu kl kc hro hmo
 by_cases h1 : (n : Int) ≤ ro
 ·go_enter Tryz.func90, Tryz.ntmps90
  go_upto_region 1 with fail
  go_quiet (first | (go_at_call 91; exact Calls.quiet_of (CR.out _)) | (go_at_call 92; exact Calls.quiet_of_same ((CM.out _).mono fun e w' h => ⟨h.1, h.2.symm⟩)))
  go_wp2_with fail
  go_ret
  exact ⟨rfl, by rw [HRM.out, if_pos (.inl h1)]; exact AftC.same (HH.out.1.keep_nil ((Fr.refl _ _).drewN _)) ((Fr.refl _ _).drewN _)⟩
 ·by_cases h2 : mo < n
  ·go_enter Tryz.func90, Tryz.ntmps90
   go_upto_region 1 with fail
   go_quiet (first | (go_at_call 91; exact Calls.quiet_of (CR.out _)) | (go_at_call 92; exact Calls.quiet_of_same ((CM.out _).mono fun e w' h => ⟨h.1, h.2.symm⟩)))
   go_wp2_with fail
   go_ret
   exact ⟨rfl, by rw [HRM.out, if_pos (.inr h2)]; exact AftC.same (HH.out.1.keep_nil ((Fr.refl _ _).drewN _)) ((Fr.refl _ _).drewN _)⟩
  ·have HR2 := Lib.hid (show roomM M n = chkC M by rw [HRM.out, if_neg (by omega)])
   go_enter Tryz.func90, Tryz.ntmps90
   go_upto_region 1 with fail
   go_quiet (first | (go_at_call 91; exact Calls.quiet_of (CR.out _)) | (go_at_call 92; exact Calls.quiet_of_same ((CM.out _).mono fun e w' h => ⟨h.1, h.2.symm⟩)))
   have fE : Fr [] w (w.drewN nq) := (Fr.refl _ _).drewN _
   obtain ⟨wE, hwE⟩ : ∃ y, w.drewN nq = y := ⟨_, rfl⟩
   rw [hwE] at fE ⊢
   have ccE := fE.cell (by simp) cc
   obtain ⟨h, G, hm, hK, hz, hu, kc⟩ := HH.out
   have ck := caCheck_any (h.keep_nil fE) G hm (hK.keep fE) hz hu
   have HF := Lib.hid fE
   clear h G hm hK hz hu kc fE hwE cc cl c1
   go_wp2_with fail
   refine ck.mono ?_
   rintro e w5 ⟨rfl, ha⟩
   have HA := Lib.hid ha
   clear ck ha
   go_wp2_with fail
   go_ret
   exact ⟨rfl, by rw [HR2.out]; exact HA.out.pre HF.out⟩
end
end
section
open Go.RowKit
set_option maxRecDepth 100000
section
variable {w w' w1 : World} {P : CaP} {O : List Nat} {M : CaM} {N : Nat}
theorem AftC.set3 (h : AftC w P O M w1) : AftC w P O M (w1.setCell ⟨P.c, 3, none⟩ (.bool false)) := by
 obtain ⟨O', h1, h2, h3⟩ := h
 have fs : Fr [P.c] w1 (w1.setCell ⟨P.c, 3, none⟩ (.bool false)) := (Fr.refl _ _).setCell (.inl (by simp)) _
 obtain ⟨e1, e2, e3, e4, e5, e6⟩ := h1.ne
 obtain ⟨v, s1, s2⟩ := h1.srt
 have h8 : NoTy w1 [P.c] 5 := fun i hi cs fz hc => by
  rw [List.mem_singleton.1 hi, show w1.heap[P.c]? = _ from h1.blk] at hc
  cases hc
 exact ⟨O', ⟨Blk.set_ h1.blk 3 (.bool false), h1.dsk.keep fs (fun i hi hm => h1.nO.1 (by rw [← List.mem_singleton.1 hm]; exact hi)) h8, h1.jr.keep fs (fun hm => e1 (List.mem_singleton.1 hm).symm), ⟨v, s1.keep fs (fun hm => e2 (List.mem_singleton.1 hm).symm) (fun hm => e3 (List.mem_singleton.1 hm).symm), s2.keepT fs h8⟩, h1.nO⟩, h2, h3.trans fs (fun i hi => .inl (by rw [List.mem_singleton.1 hi]; unfold CaP.own; simp))⟩
theorem AftC.c3 (h : AftC w P O M w1) : w1.cell? ⟨P.c, 3, none⟩ = some (.bool false) ∧ w1.frozen? ⟨P.c, 3, none⟩ = false := by
 obtain ⟨O', h1, -, -⟩ := h
 exact ⟨h1.c3, h1.blk.frozen 3⟩
set_option maxHeartbeats 1000000 in
theorem caCommit2_any (h : CaW w P O M) (ok : M.J.ok) (hK : KG w) (hu : ∀ x, (M.D.uns x).length + 70 ≤ 4398046511104) {gl gc n c : Nat} {A : Option Addr} {rs : List (Int × List UInt8)} (hr : RdR w A n c rs)
  (kl : Blk w gl 87 #[.slice A n c]) (kc : Blk w gc 81 #[.pointer (some ⟨P.c, 0, none⟩)]) (n1 : gl ∉ P.own O) (n2 : gc ∉ P.own O) :
  Calls Tryz.prog 95 #[.pointer (some ⟨gc, 0, none⟩), .pointer (some ⟨gl, 0, none⟩)] w fun e w' => e = .returned (.int .i64 (appM M.D M.J rs).1) ∧ AftC w P O { M with D := (appM M.D M.J rs).2.1, J := (appM M.D M.J rs).2.2 } w' := by
 obtain ⟨wD, hwD⟩ : ∃ wD, w.drew = wD := ⟨_, rfl⟩
 have fD : Fr [] w wD := by rw [← hwD]; exact (Fr.refl [] _).drew
 have hw := h.keep_nil fD
 have ca := jnAppend_any hw.dsk hw.jr hw.nO.2.1 ok (hr.keep_nil fD) (hK.keep fD) hu
 obtain ⟨⟨z, D', J'⟩, hz⟩ : ∃ r, appM M.D M.J rs = r := ⟨_, rfl⟩
 rw [hz] at ca ⊢
 have hD : wD.cell? ⟨gc, 0, none⟩ = some (.pointer (some ⟨P.c, 0, none⟩)) ∧ wD.cell? ⟨P.c, 1, none⟩ = some (.pointer (some ⟨P.g, 0, none⟩)) ∧ wD.cell? ⟨gl, 0, none⟩ = some (.slice A n c) := ⟨(kc.keep_nil fD).cell 0, hw.c1, (kl.keep_nil fD).cell 0⟩
 have HW := Lib.hid (And.intro hw (And.intro fD (And.intro n1 n2)))
 clear h hr kl kc hK hu hz hw fD n1 n2
 go_enter Tryz.func95, Tryz.ntmps95
 go_upto_region 1 with fail
 refine wp_region_held_drew (S := fun w' => w'.cell? ⟨gc, 0, none⟩ = some (.pointer (some ⟨P.c, 0, none⟩)) ∧ w'.cell? ⟨P.c, 1, none⟩ = some (.pointer (some ⟨P.g, 0, none⟩)) ∧ w'.cell? ⟨gl, 0, none⟩ = some (.slice A n c)) (by kernel_rfl) (by rw [hwD]; exact hD) (fun hHeld => ?_)
 rw [hwD] at hHeld ⊢
 clear hD hwD
 refine tw 0 3 hHeld ?_
 refine tw 1 4 hHeld ?_
 refine tw 2 5 hHeld ?_
 refine tw 3 6 hHeld ?_
 refine tw 4 7 hHeld ?_
 refine tc 5 (fun K hK => ?_)
 go_simp
 refine ca.mono ?_
 intro e w5 hj
 obtain ⟨rfl, ha⟩ := HW.out.1.journal hj
 have hHx : w5.cell? ⟨gc, 0, none⟩ = some (.pointer (some ⟨P.c, 0, none⟩)) ∧ w5.cell? ⟨P.c, 1, none⟩ = some (.pointer (some ⟨P.g, 0, none⟩)) ∧ w5.cell? ⟨gl, 0, none⟩ = some (.slice A n c) := ⟨ha.fr.cell HW.out.2.2.2 hHeld.1, by obtain ⟨O', h1, -, -⟩ := ha; exact h1.c1, ha.fr.cell HW.out.2.2.1 hHeld.2.2⟩
 refine hK.out _ _ hHx (fun hHy => ?_)
 clear hK ca hHeld hHy hj
 have hHeld := hHx
 clear hHx
 try simp only [Act.put, p1, p2, p3]
 refine tw 6 2 hHeld ?_
 refine wpAnyH_done (by kernel_rfl) ?_ _
 clear hHeld
 go_wp2_with fail
 go_ret
 exact ⟨rfl, ha.pre HW.out.2.1⟩
end
end
section
open Go.RowKit
set_option maxRecDepth 100000
section
variable {w w' w1 : World} {P : CaP} {O : List Nat} {M : CaM} {N : Nat}
theorem own_zero {O' : List Nat} (hz : 0 ∉ P.own O) (ho : ∀ i ∈ O', i ∈ O ∨ w.heap.size ≤ i) (hw : 0 < w.heap.size) : 0 ∉ P.own O' := fun hm => by
 unfold CaP.own at hz hm
 simp only [List.mem_cons, not_or] at hz hm
 rcases hm with h | h | h | h
 ·exact hz.1 h
 ·exact hz.2.1 h
 ·exact hz.2.2.1 h
 ·rcases ho 0 h with h | h
  ·exact hz.2.2.2 h
  ·omega
theorem own_new {O' : List Nat} {g : Nat} (hg : g ∉ P.own O) (ho : ∀ i ∈ O', i ∈ O ∨ w.heap.size ≤ i) (hw : g < w.heap.size) : g ∉ P.own O' := fun hm => by
 unfold CaP.own at hg hm
 simp only [List.mem_cons, not_or] at hg hm
 rcases hm with h | h | h | h
 ·exact hg.1 h
 ·exact hg.2.1 h
 ·exact hg.2.2.1 h
 ·rcases ho g h with h | h
  ·exact hg.2.2.2 h
  ·omega
def coM (M : CaM) (n : Nat) (rs : List (Int × List UInt8)) : Nat → CaM
 | 0 => M
 | 1 => roomM M n
 | _ => { roomM M n with D := (appM (roomM M n).D (roomM M n).J rs).2.1, J := (appM (roomM M n).D (roomM M n).J rs).2.2 }
set_option maxHeartbeats 2000000 in
theorem caCommit_any (h : CaW w P O M) (G : CaG N M) (hm : M.J.num + 1200 < 9223372036854775808) (hK : KG w) (hz : 0 ∉ P.own O) (hu : ∀ x, (M.D.uns x).length + 6000 ≤ 4398046511104) {A : Option Addr} {n c : Nat} {rs : List (Int × List UInt8)} (hl : rs.length = n)
  (hr : ∀ w', Fr (P.own O) w w' → RdR w' A n c rs) :
  Calls Tryz.prog 49 #[.pointer (some ⟨P.c, 0, none⟩), .slice A n c] w fun e w' => e = .returned (.int .i64 (comE M rs)) ∧ AftC w P O (comM M rs) w' := by
 subst hl
 obtain ⟨kC, fC, zC⟩ := box1D w 81 (.pointer (some ⟨P.c, 0, none⟩))
 obtain ⟨w1, hw1⟩ : ∃ x, w.alloc (.cells #[.pointer (some ⟨P.c, 0, none⟩)] 81) = x := ⟨_, rfl⟩
 rw [hw1] at kC fC zC
 obtain ⟨kL, fL, zL⟩ := box1D w1 87 (.slice A rs.length c)
 obtain ⟨w2, hw2⟩ : ∃ x, w1.alloc (.cells #[.slice A rs.length c] 87) = x := ⟨_, rfl⟩
 rw [hw2] at kL fL zL
 obtain ⟨gC, hgC⟩ : ∃ g, w.heap.size = g := ⟨_, rfl⟩
 rw [hgC] at kC zC
 rw [zC] at kL zL
 have hlt := h.lts
 have hwz : 0 < w.heap.size := Nat.lt_of_le_of_lt (Nat.zero_le _) hlt.1
 rw [hgC] at hlt
 have hown : ∀ i ∈ P.own O, i < gC := fun i hi => by
  obtain ⟨a1, a2, a3, a4, a5⟩ := hlt
  unfold CaP.own at hi
  simp only [List.mem_cons] at hi
  rcases hi with rfl | rfl | rfl | hi
  ·exact a1
  ·exact a2
  ·exact a4
  ·exact a5 i hi
 obtain ⟨fs, hfs⟩ : ∃ fs : List Value, [.func (.func 90) #[] #[.pointer (some ⟨gC + 1, 0, none⟩), .pointer (some ⟨gC, 0, none⟩)], .func (.func 95) #[] #[.pointer (some ⟨gC, 0, none⟩), .pointer (some ⟨gC + 1, 0, none⟩)]] = fs := ⟨_, rfl⟩
 have f3 : Fr [] w2 (w2.alloc (.cells fs.toArray 47)) := (Fr.refl _ _).alloc _
 have r3 : Row (w2.alloc (.cells fs.toArray 47)) w2.heap.size 47 1 (.slice (some ⟨gC + 1 + 1, 0, none⟩) 2 2) 2 fs := by
  have := Row.new w2 fs.toArray 47 1 2 (0, 0) (free_zero _) (by unfold maxLen; omega) (by rw [← hfs]; rfl) (Nat.le_refl _)
  rw [← zL]
  simpa using this
 obtain ⟨w3, hw3⟩ : ∃ x, w2.alloc (.cells fs.toArray 47) = x := ⟨_, rfl⟩
 rw [hw3] at f3 r3
 have fw3 := fC.trans_nil (fL.trans_nil f3)
 have h3 := h.keep_nil fw3
 have kC3 := (kC.keep_nil fL).keep_nil f3
 have kL3 := kL.keep_nil f3
 have h3z : w2.heap.size ≤ w3.heap.size := f3.size
 obtain ⟨G1, -, -, -, hn1, hu1⟩ := G.room (by omega) rs.length
 have ha := G1.app (rs := rs) (by omega)
 have nC : gC ∉ P.own O := fun hm => by have := hown _ hm; omega
 have nL : gC + 1 ∉ P.own O := fun hm => by have := hown _ hm; omega
 have cr := caRun_any (w := w3) (c := P.c) (r3.mono (Nat.zero_le _)) (by omega) (P.own O) (fun g hg hm => by have := (r3.lt g hg).1; have := hown g hm; omega) (fun k w' => AftC w3 P O (coM M rs.length rs k) w' ∧ (2 ≤ k → comE M rs = 0)) (fun z w' => z = comE M rs ∧ z ≠ 0 ∧ AftC w3 P O (roomM M rs.length) w') (caState_any h3) ⟨AftC.same h3 (Fr.refl _ _), fun h => by omega⟩ (fun k w' hp => hp.1.fr) (fun k hk w' hp => by
  obtain ⟨O', hw', ho, f⟩ := hp.1
  have hz' : 0 ∉ P.own O' := own_zero hz ho (by have := fw3.size; omega)
  have kC' := kC3.keep f nC
  have kL' := kL3.keep f nL
  have hK' := (hK.keep fw3).keepO f hz
  subst hfs
  match k, hk with
  | 0, _ =>
   refine ⟨_, _, _, rfl, enters_of Tryz.func90 (by kernel_rfl) rfl, ?_⟩
   rw [Array.empty_append]
   refine (caCommit1_any hw' G (show M.J.num + 600 < _ by omega) hK' hz' (fun x => by have := hu x; show (M.D.uns x).length + 5000 ≤ _; omega) kL' kC').mono ?_
   rintro e w'' ⟨he, hq⟩
   exact .inl ⟨he, AftC.trans h3 ho f hq, fun h => by omega⟩
  | 1, _ =>
   refine ⟨_, _, _, rfl, enters_of Tryz.func95 (by kernel_rfl) rfl, ?_⟩
   rw [Array.empty_append]
   refine (caCommit2_any hw' (show (roomM M rs.length).J.ok from G1.jok) hK' (fun x => by have a := hu x; have b := hu1 x; show ((roomM M rs.length).D.uns x).length + 70 ≤ _; omega) (hr w' (fw3.nil.trans f (fun i hi => .inl hi))) kL' kC' (own_new nL ho (by omega)) (own_new nC ho (by omega))).mono ?_
   rintro e w'' ⟨he, hq⟩
   have hq' := AftC.trans h3 ho f hq
   by_cases e0 : (appM (roomM M rs.length).D (roomM M rs.length).J rs).1 = 0
   ·exact .inl ⟨by rw [he]; show Ending.returned (.int .i64 (appM (roomM M rs.length).D (roomM M rs.length).J rs).1) = _; rw [e0], hq', fun _ => e0⟩
   ·refine .inr ⟨_, e0, by have := ha.2.1; omega, he, hq'.c3.1, hq'.c3.2, rfl, e0, ?_⟩
    have e1 := ha.2.2.1 e0
    have hq2 : AftC w3 P O { roomM M rs.length with D := (appM (roomM M rs.length).D (roomM M rs.length).J rs).2.1, J := (appM (roomM M rs.length).D (roomM M rs.length).J rs).2.2 } w'' := hq'
    rw [e1] at hq2
    exact AftC.set3 hq2)
 have HE := Lib.hid (fun _ : Unit => show comM M rs = if comE M rs = 0 then ⟨(appM (roomM M rs.length).D (roomM M rs.length).J rs).2.1, (appM (roomM M rs.length).D (roomM M rs.length).J rs).2.2, putD (roomM M rs.length).dirty rs⟩ else roomM M rs.length from rfl)
 obtain ⟨M1, hM1⟩ : ∃ M1, roomM M rs.length = M1 := ⟨_, rfl⟩
 obtain ⟨M2, hM2⟩ : ∃ M2, coM M rs.length rs 2 = M2 := ⟨_, rfl⟩
 obtain ⟨z0, hz0⟩ : ∃ z0, comE M rs = z0 := ⟨_, rfl⟩
 obtain ⟨M3, hM3⟩ : ∃ M3, comM M rs = M3 := ⟨_, rfl⟩
 have HM := Lib.hid (fun _ : Unit => show z0 = 0 → (∀ r ∈ rs, r.2.length = 512) ∧ rs.length ≤ 4096 ∧ (∀ r ∈ rs, 0 ≤ r.1 ∧ r.1 < 4096) ∧ M3 = { M2 with dirty := putD M2.dirty rs } from fun e => by
  have e' : comE M rs = 0 := hz0.trans e
  obtain ⟨a1, a2, -, -, -, -, -, a8⟩ := ha.2.2.2 e'
  have hN4 := G.n4
  exact ⟨a1, by omega, fun r hr => ⟨(a8 r hr).1, by have := (a8 r hr).2; omega⟩, by rw [← hM3, ← hM2, HE.out (), if_pos e']; rfl⟩)
 have HM1 := Lib.hid (fun _ : Unit => show z0 ≠ 0 → M3 = M1 from fun e => by rw [← hM3, ← hM1, HE.out (), if_neg (by rw [hz0]; exact e)])
 have HZ : (z0 = 0) = (comE M rs = 0) := by rw [hz0]
 rw [hM2, hM1, hz0] at cr
 rw [hz0, hM3]
 have hcr0 : z0 = 0 ∨ z0 ≠ 0 := by omega
 have H3 := Lib.hid (And.intro fw3 (And.intro kC3 (And.intro kL3 (And.intro hown (And.intro nC (And.intro nL hr))))))
 have hz00 : z0 = (appM M1.D M1.J rs).1 := by rw [← hz0, ← hM1]; rfl
 have H00 := Lib.hid (fun _ : Unit => And.intro hz00 (And.intro hM1 hM2))
 subst hfs
 have cC2 : w2.cell? ⟨gC, 0, none⟩ = some (.pointer (some ⟨P.c, 0, none⟩)) := (kC.keep_nil fL).cell 0
 clear h G hm hK hz hu hr kC fC kL fL f3 r3 fw3 h3 kC3 kL3 G1 ha hn1 hu1 hlt hown nC nL hM1 hM2 hM3 hz0 HZ hz00 HE h3z hcr0
 go_enter Tryz.func49, Tryz.ntmps49
 go_wp2_with fail
 refine cr.mono ?_
 rintro e w5 (⟨rfl, hp, hp2⟩ | ⟨z, rfl, rfl, hz, hq⟩)
 ·have hz1 := hp2 (Nat.le_refl _)
  subst hz1
  obtain ⟨fw3, kC3, kL3, hown, nC, nL, hr⟩ := H3.out
  obtain ⟨l5, ln, lk, hM3⟩ := HM.out () rfl
  obtain ⟨O5, h5, ho5, f5⟩ := id hp
  have cC5 := f5.cell nC (kC3.cell 0)
  have cL5 := f5.cell nL (kL3.cell 0)
  have cp := caPut_any h5 (c := c) (A := A) rfl ln (fun w' f => (hr w' ((fw3.nil.trans f5 (fun i hi => .inl hi)).trans f (fun i hi => .inl (by rw [List.mem_singleton.1 hi]; unfold CaP.own; simp)))).rdx) l5 lk
  have H5 := Lib.hid (And.intro ho5 (And.intro f5 (And.intro fw3 hM3)))
  clear hp hp2 h5 ho5 f5 fw3 kC3 kL3 hown nC nL hr hM3 cr
  go_wp2_with fail
  refine cp.mono ?_
  rintro e w6 ⟨rfl, h6, f6⟩
  have H6 := Lib.hid (And.intro h6 f6)
  clear cp h6 f6 cC5 cL5
  go_wp2_with fail
  go_ret
  obtain ⟨ho5, f5, fw3, hM3⟩ := H5.out
  refine ⟨rfl, ?_⟩
  rw [hM3]
  refine AftC.pre fw3 ⟨O5, H6.out.1, ho5, f5.trans H6.out.2 (fun i hi => .inl (by rw [List.mem_singleton.1 hi]; unfold CaP.own; simp))⟩
 ·have dz : (z == 0) = false := by simpa using hz
  have hM := HM1.out () hz
  have HQ := Lib.hid (And.intro hq hM)
  clear hq hM cr
  go_wp2_with fail
  go_ret
  exact ⟨rfl, by rw [HQ.out.2]; exact HQ.out.1.pre H3.out.1⟩
end
end
section
open Go.RowKit
set_option maxRecDepth 100000
section
variable {w w' w1 : World} {P : CaP} {O : List Nat} {M : CaM} {N : Nat}
theorem CaW.own_lt (h : CaW w P O M) : ∀ i ∈ P.own O, i < w.heap.size := fun i hi => by
 obtain ⟨a1, a2, a3, a4, a5⟩ := h.lts
 unfold CaP.own at hi
 simp only [List.mem_cons] at hi
 rcases hi with rfl | rfl | rfl | hi
 ·exact a1
 ·exact a2
 ·exact a4
 ·exact a5 i hi
end
end
section
open Go.RowKit
set_option maxRecDepth 100000
theorem kg_pos {w : World} (hK : KG w) : 0 < w.heap.size := by
 rcases Nat.eq_zero_or_pos w.heap.size with h | h
 ·have e1 := hK 0 _ rfl
  unfold World.cell? at e1
  dsimp only at e1
  rw [Array.getElem?_eq_none (by omega)] at e1
  cases e1
 ·exact h
end
section
open Go.RowKit
set_option maxRecDepth 100000
theorem cells_ne {cs cs' : Array Value} {t t' : TypeId} {fz fz' : Nat × Nat} (h : t ≠ t') : some (Obj.cells cs t fz) ≠ some (Obj.cells cs' t' fz') := fun e => by
 injection e with e
 injection e with _ e
 exact h e
structure SgP where
 ca : CaP
 g : Nat
 q : Nat
 m : Nat
def SgD (w : World) (f : Int → Option Value) (L : List (Int × List UInt8)) : Prop := ∀ x, wfZ x → ((f x = none ∧ lkL L x = none) ∨ ∃ v l, f x = some v ∧ lkL L x = some l ∧ BlkB w v l)
structure SgW (w : World) (S : SgP) (O : List Nat) (M : StM) (n : Nat) : Prop where
 ca : CaW w S.ca O M.C
 blk : Blk w S.g 99 #[.pointer (some ⟨S.ca.c, 0, none⟩), .pointer (some ⟨S.q, 0, none⟩)]
 srt : ∃ f, SrtW w S.q S.m n f ∧ SgD w f M.st
 up : UpL M.st
 wf : ∀ p ∈ M.st, wfZ p.1
 nO : S.g ∉ O ∧ S.q ∉ O ∧ S.m ∉ O ∧ S.q ≠ S.ca.s ∧ S.m ≠ S.ca.b
def SgP.own (S : SgP) (O : List Nat) : List Nat := S.m :: S.ca.own O
section
variable {w w' w1 w2 : World} {S : SgP} {O F : List Nat} {M M' : StM} {n : Nat} {C : CaM}
theorem SgD.keepT {f : Int → Option Value} {L : List (Int × List UInt8)} (h : SgD w f L) (fr : Fr F w w') (h8 : NoTy w F 5) : SgD w' f L := fun x hx => by
 rcases h x hx with h | ⟨v, l, h1, h2, h3⟩
 ·exact .inl h
 ·exact .inr ⟨v, l, h1, h2, h3.keepT fr h8⟩
theorem SgW.keep (h : SgW w S O M n) (f : Fr F w w') (hc : S.ca.c ∉ F) (hg : S.ca.g ∉ F) (hs : S.ca.s ∉ F) (hb : S.ca.b ∉ F) (hO : ∀ i ∈ O, i ∉ F) (h8 : NoTy w F 5) (h1 : S.g ∉ F) (h2 : S.q ∉ F) (h3 : S.m ∉ F) : SgW w' S O M n := by
 obtain ⟨v, k1, k2⟩ := h.srt
 exact ⟨h.ca.keep f hc hg hs hb hO h8, h.blk.keep f h1, ⟨v, k1.keep f h2 h3, k2.keepT f h8⟩, h.up, h.wf, h.nO⟩
theorem SgW.keep_nil (h : SgW w S O M n) (f : Fr [] w w') : SgW w' S O M n := h.keep f (by simp) (by simp) (by simp) (by simp) (fun i _ => by simp) (NoTy.nil _ _) (by simp) (by simp) (by simp)
theorem SgW.mono (h : SgW w S O M n) {m : Nat} (hm : n ≤ m) : SgW w S O M m := by
 obtain ⟨f, h1, h2⟩ := h.srt
 exact ⟨h.ca, h.blk, ⟨f, ⟨h1.blk, h1.map.mono hm⟩, h2⟩, h.up, h.wf, h.nO⟩
theorem SgW.lts (h : SgW w S O M n) : S.g < w.heap.size ∧ S.q < w.heap.size ∧ S.m < w.heap.size := by
 obtain ⟨v, k1, -⟩ := h.srt
 exact ⟨h.blk.lt, k1.blk.lt, k1.map.lt⟩
theorem SgW.own_lt (h : SgW w S O M n) : ∀ i ∈ S.own O, i < w.heap.size := fun i hi => by
 rcases List.mem_cons.1 hi with rfl | hi
 ·exact h.lts.2.2
 ·exact h.ca.own_lt i hi
theorem SgW.off (h : SgW w S O M n) : S.g ∉ S.ca.own O ∧ S.q ∉ S.ca.own O ∧ S.m ∉ S.ca.own O := by
 obtain ⟨v, k1, -⟩ := h.srt
 obtain ⟨u, c1, -⟩ := h.ca.srt
 obtain ⟨n1, n2, n3, n4, n5⟩ := h.nO
 have a := h.blk
 have b := h.ca.blk
 have c := h.ca.jr
 have d := k1.blk
 have e1 : ∀ e cs fz, w.heap[S.ca.b]? ≠ some (.cells cs e fz) := fun e cs fz => c1.noTy e S.ca.b (List.mem_singleton.2 rfl) cs fz
 have e2 : ∀ e cs fz, w.heap[S.m]? ≠ some (.cells cs e fz) := fun e cs fz => k1.noTy e S.m (List.mem_singleton.2 rfl) cs fz
 unfold Jr at c
 unfold Blk at a b c d
 unfold CaP.own
 simp only [List.mem_cons, not_or]
 refine ⟨⟨fun e => ?_, fun e => ?_, fun e => ?_, n1⟩, ⟨fun e => ?_, fun e => ?_, fun e => ?_, n2⟩, ⟨fun e => ?_, fun e => ?_, n5, n3⟩⟩
 ·rw [e, b] at a; exact absurd a (cells_ne (by decide))
 ·rw [e, c] at a; exact absurd a (cells_ne (by decide))
 ·rw [e] at a; exact e1 _ _ _ a
 ·rw [e, b] at d; exact absurd d (cells_ne (by decide))
 ·rw [e, c] at d; exact absurd d (cells_ne (by decide))
 ·rw [e] at d; exact e1 _ _ _ d
 ·rw [← e] at b; exact e2 _ _ _ b
 ·rw [← e] at c; exact e2 _ _ _ c
theorem SgW.off2 (h : SgW w S O M n) : S.g ≠ S.m ∧ S.q ≠ S.m ∧ S.ca.s ≠ S.m ∧ S.g ≠ S.q := by
 obtain ⟨v, k1, -⟩ := h.srt
 obtain ⟨u, c1, -⟩ := h.ca.srt
 have a := h.blk
 have d := k1.blk
 have b := c1.blk
 have e2 : ∀ e cs fz, w.heap[S.m]? ≠ some (.cells cs e fz) := fun e cs fz => k1.noTy e S.m (List.mem_singleton.2 rfl) cs fz
 unfold Blk at a b d
 refine ⟨fun e => ?_, fun e => ?_, fun e => ?_, fun e => ?_⟩
 ·rw [e] at a; exact e2 _ _ _ a
 ·rw [e] at d; exact e2 _ _ _ d
 ·rw [e] at b; exact e2 _ _ _ b
 ·rw [e, d] at a; exact absurd a (cells_ne (by decide))
def AftS (w : World) (S : SgP) (O : List Nat) (M' : StM) (n : Nat) (w' : World) : Prop := ∃ O', SgW w' S O' M' n ∧ (∀ i ∈ O', i ∈ O ∨ w.heap.size ≤ i) ∧ Fr (S.own O) w w'
theorem AftS.same (h : SgW w' S O M n) (f : Fr [] w w') : AftS w S O M n w' := ⟨O, h, fun i hi => .inl hi, f.nil⟩
theorem AftS.pre (f : Fr [] w w1) (h : AftS w1 S O M n w2) : AftS w S O M n w2 := by
 obtain ⟨O', h1, h2, h3⟩ := h
 refine ⟨O', h1, fun i hi => ?_, f.nil.trans h3 (fun i hi => .inl hi)⟩
 rcases h2 i hi with h | h
 ·exact .inl h
 ·exact .inr (Nat.le_trans f.size h)
theorem AftS.post (h : AftS w S O M n w1) (f : Fr [] w1 w2) : AftS w S O M n w2 := by
 obtain ⟨O', h1, h2, h3⟩ := h
 exact ⟨O', h1.keep_nil f, h2, h3.trans_nil f⟩
theorem SgP.own_sub {O O' : List Nat} {B : Nat} (ho : ∀ i ∈ O', i ∈ O ∨ B ≤ i) : ∀ i ∈ S.own O', i ∈ S.own O ∨ B ≤ i := fun i hi => by
 unfold SgP.own CaP.own at hi ⊢
 simp only [List.mem_cons] at hi ⊢
 rcases hi with h | h | h | h | h
 ·exact .inl (.inl h)
 ·exact .inl (.inr (.inl h))
 ·exact .inl (.inr (.inr (.inl h)))
 ·exact .inl (.inr (.inr (.inr (.inl h))))
 ·rcases ho i h with h | h
  ·exact .inl (.inr (.inr (.inr (.inr h))))
  ·exact .inr h
theorem AftS.trans {O1 : List Nat} (ho : ∀ i ∈ O1, i ∈ O ∨ w.heap.size ≤ i) (f : Fr (S.own O) w w1) (h2 : AftS w1 S O1 M' n w2) : AftS w S O M' n w2 := by
 obtain ⟨O2, k1, k2, k3⟩ := h2
 refine ⟨O2, k1, fun i hi => ?_, f.trans k3 (SgP.own_sub ho)⟩
 rcases k2 i hi with h | h
 ·exact ho i h
 ·exact .inr (Nat.le_trans f.size h)
theorem SgW.cache (h : SgW w S O M n) (ha : AftC w S.ca O C w') : AftS w S O { M with C := C } n w' := by
 obtain ⟨O', k1, k2, k3⟩ := ha
 obtain ⟨v, s1, s2⟩ := h.srt
 obtain ⟨n1, n2, n3, n4, n5⟩ := h.nO
 obtain ⟨l1, l2, l3⟩ := h.lts
 obtain ⟨o1, o2, o3⟩ := h.off
 have key : ∀ i, i < w.heap.size → i ∉ O → i ∉ O' := fun i hi hn hm => by
  rcases k2 i hm with h | h
  ·exact hn h
  ·omega
 exact ⟨O', ⟨k1, h.blk.keep k3 o1, ⟨v, s1.keep k3 o2 o3, s2.keepT k3 h.ca.no8⟩, h.up, h.wf, key _ l1 n1, key _ l2 n2, key _ l3 n3, n4, n5⟩, k2, k3.mono (fun i hi => List.mem_cons_of_mem _ hi)⟩
theorem SgW.no8 (h : SgW w S O M n) : NoTy w [S.m] 5 := by
 obtain ⟨v, k1, -⟩ := h.srt
 exact k1.noTy _
theorem SgW.map (h : SgW w S O M n) {f' : Int → Option Value} {L : List (Int × List UInt8)} {n' : Nat} (fr : Fr [S.m] w w') (hs : SrtW w' S.q S.m n' f') (hd : SgD w' f' L) (up : UpL L) (wf : ∀ p ∈ L, wfZ p.1) : SgW w' S O { M with st := L } n' := by
 obtain ⟨o1, o2, o3⟩ := h.off
 obtain ⟨p1, p2, p3, -⟩ := h.off2
 unfold CaP.own at o3
 simp only [List.mem_cons, not_or] at o3
 exact ⟨h.ca.keep fr (by simpa using Ne.symm o3.1) (by simpa using Ne.symm o3.2.1) (by simpa using p3) (by simpa using Ne.symm o3.2.2.1) (fun i hi hm => o3.2.2.2 (by rw [← List.mem_singleton.1 hm]; exact hi)) h.no8, h.blk.keep fr (by simpa using p1), ⟨f', hs, hd⟩, up, wf, h.nO⟩
theorem SgD.keys {f : Int → Option Value} {L : List (Int × List UInt8)} (h : SgD w f L) (up : UpL L) (wf : ∀ p ∈ L, wfZ p.1) : KeyL f (L.map (·.1)) := by
 refine ⟨upL_keys up, fun x => ⟨fun hx => ?_, fun ⟨hx, hf⟩ => ?_⟩⟩
 ·obtain ⟨p, hp, rfl⟩ := List.mem_map.1 hx
  refine ⟨wf p hp, ?_⟩
  rcases h p.1 (wf p hp) with ⟨-, h2⟩ | ⟨v, l, h1, -, -⟩
  ·have := lkL_some_iff.2 hx
   rw [h2] at this; cases this
  ·rw [h1]; rfl
 ·rcases h x hx with ⟨h1, -⟩ | ⟨v, l, -, h2, -⟩
  ·rw [h1] at hf; cases hf
  ·exact lkL_some_iff.1 (by rw [h2]; rfl)
theorem SgW.c0 (h : SgW w S O M n) : w.cell? ⟨S.g, 0, none⟩ = some (.pointer (some ⟨S.ca.c, 0, none⟩)) := h.blk.cell 0
theorem SgW.c1 (h : SgW w S O M n) : w.cell? ⟨S.g, 1, none⟩ = some (.pointer (some ⟨S.q, 0, none⟩)) := h.blk.cell 1
theorem sgMade_any (h : SgW w S O M n) : Calls Tryz.prog 46 #[.pointer (some ⟨S.g, 0, none⟩)] w fun e w' => e = .returned (.bool true) ∧ w = w' := by
 have c0 := h.c0
 clear h
 go_enter Tryz.func46, Tryz.ntmps46
 go_wp2_with fail
 go_ret
 exact ⟨rfl, rfl⟩
set_option maxHeartbeats 1000000 in
theorem meNew_any {P : CaP} (h : CaW w P O C) : Calls Tryz.prog 25 #[.pointer (some ⟨P.c, 0, none⟩)] w fun e w' => ∃ S : SgP, S.ca = P ∧ e = .returned (.pointer (some ⟨S.g, 0, none⟩)) ∧ SgW w' S O ⟨C, []⟩ 0 ∧ Fr [] w w' ∧ w.heap.size ≤ S.g ∧ w.heap.size ≤ S.q ∧ w.heap.size ≤ S.m := by
 have cn := srtNew_any w
 have HH := Lib.hid h
 clear h
 go_enter Tryz.func25, Tryz.ntmps25
 go_wp2_with fail
 refine cn.mono ?_
 rintro e w3 ⟨rfl, hs3, f3, z3⟩
 have HS := Lib.hid (And.intro hs3 (And.intro f3 z3))
 clear cn hs3 f3 z3
 go_wp2_with fail
 go_ret
 obtain ⟨hs3, f3, z3⟩ := HS.out
 have kb := Blk.new w3 99 #[.pointer (some ⟨P.c, 0, none⟩), .pointer (some ⟨w.heap.size + 1, 0, none⟩)]
 have fb : Fr [] w3 (w3.alloc (.cells #[.pointer (some ⟨P.c, 0, none⟩), .pointer (some ⟨w.heap.size + 1, 0, none⟩)] 99)) := (Fr.refl _ _).alloc _
 have fw := f3.trans_nil fb
 have hO : ∀ i ∈ O, i < w.heap.size := HH.out.lts.2.2.2.2
 have hl := HH.out.lts
 refine ⟨⟨P, w3.heap.size, w.heap.size + 1, w.heap.size⟩, rfl, rfl, ⟨HH.out.keep_nil fw, kb, ⟨_, ⟨(hs3.keep_nil fb).blk, (hs3.keep_nil fb).map⟩, fun x _ => .inl ⟨rfl, rfl⟩⟩, List.Pairwise.nil, fun p hp => (by cases hp), fun hm => ?_, fun hm => ?_, fun hm => ?_, ?_, ?_⟩, fw, by dsimp only; omega, by dsimp only; omega, Nat.le_refl _⟩
 ·have := hO _ hm; dsimp only at this; omega
 ·have := hO _ hm; dsimp only at this; omega
 ·have := hO _ hm; dsimp only at this; omega
 ·dsimp only; omega
 ·dsimp only; omega
end
end
end Go.Proofs.YtbanogfljpkbkaaGreatDoor
