/-
  Texts of this claim, one behind the other: CacI, CacJ, CacK, CacQ, CacL, CacM, RowA.
-/
import Derived.Test.YtamifdfkgbaobaaGreatDoorM21
import Derived.ProofKit
import Derived.OpenShut
import Derived.ShutString
import Derived.ChangeOld
import Derived.ChangeSlices
import Derived.SizedLaws
import Derived.Below
import Derived.Carry
/-
  Layer 15: Commit, Flush, Clean.
-/
set_option linter.unusedSimpArgs false
set_option linter.unusedVariables false
set_option linter.unnecessarySimpa false
namespace Go.Proofs.YtamifdfkgbaobaaGreatDoor
open Go.RowKit
set_option maxRecDepth 100000

section
variable {w w' w1 : World} {P : CaP} {O : List Nat} {M : CaM} {N : Nat}
theorem AftC.set3 (h : AftC w P O M w1) : AftC w P O M (w1.setCell ⟨P.c, 3, none⟩ (.bool false)) := by
  obtain ⟨O', h1, h2, h3⟩ := h
  have fs : Fr [P.c] w1 (w1.setCell ⟨P.c, 3, none⟩ (.bool false)) := (Fr.refl _ _).setCell (.inl (by simp)) _
  obtain ⟨e1, e2, e3, e4, e5, e6⟩ := h1.ne
  obtain ⟨v, s1, s2⟩ := h1.srt
  have h8 : NoTy w1 [P.c] 5 := fun i hi cs fz hc => by
    rw [List.mem_singleton.1 hi, show w1.heap[P.c]? = _ from h1.blk] at hc
    cases hc
  exact ⟨O', ⟨Blk.set_ h1.blk 3 (.bool false), h1.dsk.keep fs (fun i hi hm => h1.nO.1 (by rw [← List.mem_singleton.1 hm]; exact hi)) h8, h1.jr.keep fs (fun hm => e1 (List.mem_singleton.1 hm).symm), ⟨v, s1.keep fs (fun hm => e2 (List.mem_singleton.1 hm).symm) (fun hm => e3 (List.mem_singleton.1 hm).symm), s2.keepT fs h8⟩, h1.nO⟩, h2, h3.trans fs (fun i hi => .inl (by rw [List.mem_singleton.1 hi]; unfold CaP.own; simp))⟩
theorem AftC.c3 (h : AftC w P O M w1) : w1.cell? ⟨P.c, 3, none⟩ = some (.bool false) ∧ w1.frozen? ⟨P.c, 3, none⟩ = false := by
  obtain ⟨O', h1, -, -⟩ := h
  exact ⟨h1.c3, h1.blk.frozen 3⟩
set_option maxHeartbeats 1000000 in
theorem caCommit2_any (h : CaW w P O M) (ok : M.J.ok) (hK : KG w) (hu : ∀ x, (M.D.uns x).length + 70 ≤ 4398046511104) {gl gc n c : Nat} {A : Option Addr} {rs : List (Int × List UInt8)} (hr : RdR w A n c rs)
    (kl : Blk w gl 32 #[.slice A n c]) (kc : Blk w gc 29 #[.pointer (some ⟨P.c, 0, none⟩)]) (n1 : gl ∉ P.own O) (n2 : gc ∉ P.own O) :
    Calls Tryz.prog 30 #[.pointer (some ⟨gc, 0, none⟩), .pointer (some ⟨gl, 0, none⟩)] w fun e w' => e = .returned (.int .i64 (appM M.D M.J rs).1) ∧ AftC w P O { M with D := (appM M.D M.J rs).2.1, J := (appM M.D M.J rs).2.2 } w' := by
  obtain ⟨wD, hwD⟩ : ∃ wD, w.drew = wD := ⟨_, rfl⟩
  have fD : Fr [] w wD := by rw [← hwD]; exact (Fr.refl [] _).drew
  have hw := h.keep_nil fD
  have ca := jnAppend_any hw.dsk hw.jr hw.nO.2.1 ok (hr.keep_nil fD) (hK.keep fD) hu
  obtain ⟨⟨z, D', J'⟩, hz⟩ : ∃ r, appM M.D M.J rs = r := ⟨_, rfl⟩
  rw [hz] at ca ⊢
  have hD : wD.cell? ⟨gc, 0, none⟩ = some (.pointer (some ⟨P.c, 0, none⟩)) ∧ wD.cell? ⟨P.c, 1, none⟩ = some (.pointer (some ⟨P.g, 0, none⟩)) ∧ wD.cell? ⟨gl, 0, none⟩ = some (.slice A n c) := ⟨(kc.keep_nil fD).cell 0, hw.c1, (kl.keep_nil fD).cell 0⟩
  have HW := Lib.hid (And.intro hw (And.intro fD (And.intro n1 n2)))
  clear h hr kl kc hK hu hz hw fD n1 n2
  go_enter Tryz.func30, Tryz.ntmps30
  go_upto_region 1 with fail
  refine wp_region_held_drew (S := fun w' => w'.cell? ⟨gc, 0, none⟩ = some (.pointer (some ⟨P.c, 0, none⟩)) ∧ w'.cell? ⟨P.c, 1, none⟩ = some (.pointer (some ⟨P.g, 0, none⟩)) ∧ w'.cell? ⟨gl, 0, none⟩ = some (.slice A n c)) (by kernel_rfl) (by rw [hwD]; exact hD) (fun hHeld => ?_)
  rw [hwD] at hHeld ⊢
  clear hD hwD
  refine take_w 0 (some 3) (v := ?_) rfl rfl (by kernel_rfl) (by kernel_rfl) (by kernel_rfl) (fun _ _ _ h => h) (by rfl) ?_ hHeld ?_
  rotate_left
  · (intro w hSw; (try dsimp only at hSw); go_simp; try with_reducible rfl)
  simp only [Act.put, List.setIfInBounds_toArray, List.set_cons_zero, List.set_cons_succ]
  refine take_w 1 (some 4) (v := ?_) rfl rfl (by kernel_rfl) (by kernel_rfl) (by kernel_rfl) (fun _ _ _ h => h) (by rfl) ?_ hHeld ?_
  rotate_left
  · (intro w hSw; (try dsimp only at hSw); go_simp; try with_reducible rfl)
  simp only [Act.put, List.setIfInBounds_toArray, List.set_cons_zero, List.set_cons_succ]
  refine take_w 2 (some 5) (v := ?_) rfl rfl (by kernel_rfl) (by kernel_rfl) (by kernel_rfl) (fun _ _ _ h => h) (by rfl) ?_ hHeld ?_
  rotate_left
  · (intro w hSw; (try dsimp only at hSw); go_simp; try with_reducible rfl)
  simp only [Act.put, List.setIfInBounds_toArray, List.set_cons_zero, List.set_cons_succ]
  refine take_w 3 (some 6) (v := ?_) rfl rfl (by kernel_rfl) (by kernel_rfl) (by kernel_rfl) (fun _ _ _ h => h) (by rfl) ?_ hHeld ?_
  rotate_left
  · (intro w hSw; (try dsimp only at hSw); go_simp; try with_reducible rfl)
  simp only [Act.put, List.setIfInBounds_toArray, List.set_cons_zero, List.set_cons_succ]
  refine take_w 4 (some 7) (v := ?_) rfl rfl (by kernel_rfl) (by kernel_rfl) (by kernel_rfl) (fun _ _ _ h => h) (by rfl) ?_ hHeld ?_
  rotate_left
  · (intro w hSw; (try dsimp only at hSw); go_simp; try with_reducible rfl)
  simp only [Act.put, List.setIfInBounds_toArray, List.set_cons_zero, List.set_cons_succ]
  refine take_c 5 rfl (by kernel_rfl) (by rfl) (fun K hK => ?_)
  go_simp
  refine ca.mono ?_
  intro e w5 hj
  obtain ⟨rfl, ha⟩ := HW.out.1.journal hj
  have hHx : w5.cell? ⟨gc, 0, none⟩ = some (.pointer (some ⟨P.c, 0, none⟩)) ∧ w5.cell? ⟨P.c, 1, none⟩ = some (.pointer (some ⟨P.g, 0, none⟩)) ∧ w5.cell? ⟨gl, 0, none⟩ = some (.slice A n c) := ⟨ha.fr.cell HW.out.2.2.2 hHeld.1, by obtain ⟨O', h1, -, -⟩ := ha; exact h1.c1, ha.fr.cell HW.out.2.2.1 hHeld.2.2⟩
  refine hK.out _ _ hHx (fun hHy => ?_)
  clear hK ca hHeld hHy hj
  have hHeld := hHx
  clear hHx
  try simp only [Act.put, List.setIfInBounds_toArray, List.set_cons_zero, List.set_cons_succ]
  refine take_w 6 (some 2) (v := ?_) rfl rfl (by kernel_rfl) (by kernel_rfl) (by kernel_rfl) (fun _ _ _ h => h) (by rfl) ?_ hHeld ?_
  rotate_left
  · (intro w hSw; (try dsimp only at hSw); go_simp; try with_reducible rfl)
  simp only [Act.put, List.setIfInBounds_toArray, List.set_cons_zero, List.set_cons_succ]
  refine wpAnyH_done (by kernel_rfl) ?_ _
  clear hHeld
  go_wp2_with fail
  go_ret
  exact ⟨rfl, ha.pre HW.out.2.1⟩
theorem caFlush1_any (h : CaW w P O M) {gc : Nat} (kc : Blk w gc 29 #[.pointer (some ⟨P.c, 0, none⟩)]) :
    Calls Tryz.prog 41 #[.pointer (some ⟨gc, 0, none⟩)] w fun e w' => e = .returned (.int .i64 M.D.flushE) ∧ AftC w P O { M with D := M.D.flush } w' := by
  have cc := kc.cell 0
  have c0 := h.c0
  have cf := dkFlush_any h.dsk
  have HH := Lib.hid h
  obtain ⟨z, hz⟩ : ∃ z, M.D.flushE = z := ⟨_, rfl⟩
  rw [hz] at cf ⊢
  clear h kc hz
  go_enter Tryz.func41, Tryz.ntmps41
  go_wp2_with (go_at_call 42; refine cf.mono ?_; rintro e w' ⟨rfl, ha⟩)
  go_ret
  exact ⟨rfl, HH.out.disk ha⟩
theorem caClean1_any (h : CaW w P O M) (ok : M.J.ok) (hu : ∀ x, (M.D.uns x).length + 300 ≤ 4398046511104) {gc : Nat} (kc : Blk w gc 29 #[.pointer (some ⟨P.c, 0, none⟩)]) :
    Calls Tryz.prog 32 #[.pointer (some ⟨gc, 0, none⟩)] w fun e w' => e = .returned (.int .i64 (scrM M.D M.J).1) ∧ AftC w P O { M with D := (scrM M.D M.J).2.1, J := (scrM M.D M.J).2.2 } w' := by
  have cc := kc.cell 0
  have c1 := h.c1
  have cf := jnScrub_any h.dsk h.jr h.nO.2.1 ok hu
  have HH := Lib.hid h
  obtain ⟨⟨z, D', J'⟩, hz⟩ : ∃ r, scrM M.D M.J = r := ⟨_, rfl⟩
  rw [hz] at cf ⊢
  clear h kc hz hu
  go_enter Tryz.func32, Tryz.ntmps32
  go_wp2_with fail
  refine cf.mono ?_
  intro e w5 hj
  obtain ⟨rfl, ha⟩ := HH.out.journal hj
  have HA := Lib.hid ha
  clear cf hj ha
  go_wp2_with fail
  go_ret
  exact ⟨rfl, HA.out⟩
end
end Go.Proofs.YtamifdfkgbaobaaGreatDoor
/-
  Layer 15: Commit.
-/
set_option linter.unusedSimpArgs false
set_option linter.unusedVariables false
set_option linter.unnecessarySimpa false
namespace Go.Proofs.YtamifdfkgbaobaaGreatDoor
open Go.RowKit
set_option maxRecDepth 100000

section
variable {w w' w1 : World} {P : CaP} {O : List Nat} {M : CaM} {N : Nat}
theorem own_zero {O' : List Nat} (hz : 0 ∉ P.own O) (ho : ∀ i ∈ O', i ∈ O ∨ w.heap.size ≤ i) (hw : 0 < w.heap.size) : 0 ∉ P.own O' := fun hm => by
  unfold CaP.own at hz hm
  simp only [List.mem_cons, not_or] at hz hm
  rcases hm with h | h | h | h
  · exact hz.1 h
  · exact hz.2.1 h
  · exact hz.2.2.1 h
  · rcases ho 0 h with h | h
    · exact hz.2.2.2 h
    · omega
theorem own_new {O' : List Nat} {g : Nat} (hg : g ∉ P.own O) (ho : ∀ i ∈ O', i ∈ O ∨ w.heap.size ≤ i) (hw : g < w.heap.size) : g ∉ P.own O' := fun hm => by
  unfold CaP.own at hg hm
  simp only [List.mem_cons, not_or] at hg hm
  rcases hm with h | h | h | h
  · exact hg.1 h
  · exact hg.2.1 h
  · exact hg.2.2.1 h
  · rcases ho g h with h | h
    · exact hg.2.2.2 h
    · omega
def coM (M : CaM) (n : Nat) (rs : List (Int × List UInt8)) : Nat → CaM
  | 0 => M
  | 1 => roomM M n
  | _ => { roomM M n with D := (appM (roomM M n).D (roomM M n).J rs).2.1, J := (appM (roomM M n).D (roomM M n).J rs).2.2 }
set_option maxHeartbeats 2000000 in
theorem caCommit_any (h : CaW w P O M) (G : CaG N M) (hm : M.J.num + 1200 < 9223372036854775808) (hK : KG w) (hz : 0 ∉ P.own O) (hu : ∀ x, (M.D.uns x).length + 6000 ≤ 4398046511104) {A : Option Addr} {n c : Nat} {rs : List (Int × List UInt8)} (hl : rs.length = n)
    (hr : ∀ w', Fr (P.own O) w w' → RdR w' A n c rs) :
    Calls Tryz.prog 10 #[.pointer (some ⟨P.c, 0, none⟩), .slice A n c] w fun e w' => e = .returned (.int .i64 (comE M rs)) ∧ AftC w P O (comM M rs) w' := by
  subst hl
  obtain ⟨kC, fC, zC⟩ := box1D w 29 (.pointer (some ⟨P.c, 0, none⟩))
  obtain ⟨w1, hw1⟩ : ∃ x, w.alloc (.cells #[.pointer (some ⟨P.c, 0, none⟩)] 29) = x := ⟨_, rfl⟩
  rw [hw1] at kC fC zC
  obtain ⟨kL, fL, zL⟩ := box1D w1 32 (.slice A rs.length c)
  obtain ⟨w2, hw2⟩ : ∃ x, w1.alloc (.cells #[.slice A rs.length c] 32) = x := ⟨_, rfl⟩
  rw [hw2] at kL fL zL
  obtain ⟨gC, hgC⟩ : ∃ g, w.heap.size = g := ⟨_, rfl⟩
  rw [hgC] at kC zC
  rw [zC] at kL zL
  have hlt := h.lts
  have hwz : 0 < w.heap.size := Nat.lt_of_le_of_lt (Nat.zero_le _) hlt.1
  rw [hgC] at hlt
  have hown : ∀ i ∈ P.own O, i < gC := fun i hi => by
    obtain ⟨a1, a2, a3, a4, a5⟩ := hlt
    unfold CaP.own at hi
    simp only [List.mem_cons] at hi
    rcases hi with rfl | rfl | rfl | hi
    · exact a1
    · exact a2
    · exact a4
    · exact a5 i hi
  obtain ⟨fs, hfs⟩ : ∃ fs : List Value, [.func (.func 26) #[] #[.pointer (some ⟨gC + 1, 0, none⟩), .pointer (some ⟨gC, 0, none⟩)], .func (.func 30) #[] #[.pointer (some ⟨gC, 0, none⟩), .pointer (some ⟨gC + 1, 0, none⟩)]] = fs := ⟨_, rfl⟩
  have f3 : Fr [] w2 (w2.alloc (.cells fs.toArray 37)) := (Fr.refl _ _).alloc _
  have r3 : Row (w2.alloc (.cells fs.toArray 37)) w2.heap.size 37 1 (.slice (some ⟨gC + 1 + 1, 0, none⟩) 2 2) 2 fs := by
    have := Row.new w2 fs.toArray 37 1 2 (0, 0) (free_zero _) (by unfold maxLen; omega) (by rw [← hfs]; rfl) (Nat.le_refl _)
    rw [← zL]
    simpa using this
  obtain ⟨w3, hw3⟩ : ∃ x, w2.alloc (.cells fs.toArray 37) = x := ⟨_, rfl⟩
  rw [hw3] at f3 r3
  have fw3 := fC.trans_nil (fL.trans_nil f3)
  have h3 := h.keep_nil fw3
  have kC3 := (kC.keep_nil fL).keep_nil f3
  have kL3 := kL.keep_nil f3
  have h3z : w2.heap.size ≤ w3.heap.size := f3.size
  obtain ⟨G1, -, -, -, hn1, hu1⟩ := G.room (by omega) rs.length
  have ha := G1.app (rs := rs) (by omega)
  have nC : gC ∉ P.own O := fun hm => by have := hown _ hm; omega
  have nL : gC + 1 ∉ P.own O := fun hm => by have := hown _ hm; omega
  have cr := caRun_any (w := w3) (c := P.c) (r3.mono (Nat.zero_le _)) (by omega) (P.own O) (fun g hg hm => by have := (r3.lt g hg).1; have := hown g hm; omega) (fun k w' => AftC w3 P O (coM M rs.length rs k) w' ∧ (2 ≤ k → comE M rs = 0)) (fun z w' => z = comE M rs ∧ z ≠ 0 ∧ AftC w3 P O (roomM M rs.length) w') (caState_any h3) ⟨AftC.same h3 (Fr.refl _ _), fun h => by omega⟩ (fun k w' hp => hp.1.fr) (fun k hk w' hp => by
    obtain ⟨O', hw', ho, f⟩ := hp.1
    have hz' : 0 ∉ P.own O' := own_zero hz ho (by have := fw3.size; omega)
    have kC' := kC3.keep f nC
    have kL' := kL3.keep f nL
    have hK' := (hK.keep fw3).keepO f hz
    subst hfs
    match k, hk with
    | 0, _ =>
      refine ⟨_, _, _, rfl, enters_of Tryz.func26 (by kernel_rfl) rfl, ?_⟩
      rw [Array.empty_append]
      refine (caCommit1_any hw' G (show M.J.num + 600 < _ by omega) hK' hz' (fun x => by have := hu x; show (M.D.uns x).length + 5000 ≤ _; omega) kL' kC').mono ?_
      rintro e w'' ⟨he, hq⟩
      exact .inl ⟨he, AftC.trans h3 ho f hq, fun h => by omega⟩
    | 1, _ =>
      refine ⟨_, _, _, rfl, enters_of Tryz.func30 (by kernel_rfl) rfl, ?_⟩
      rw [Array.empty_append]
      refine (caCommit2_any hw' (show (roomM M rs.length).J.ok from G1.jok) hK' (fun x => by have a := hu x; have b := hu1 x; show ((roomM M rs.length).D.uns x).length + 70 ≤ _; omega) (hr w' (fw3.nil.trans f (fun i hi => .inl hi))) kL' kC' (own_new nL ho (by omega)) (own_new nC ho (by omega))).mono ?_
      rintro e w'' ⟨he, hq⟩
      have hq' := AftC.trans h3 ho f hq
      by_cases e0 : (appM (roomM M rs.length).D (roomM M rs.length).J rs).1 = 0
      · exact .inl ⟨by rw [he]; show Ending.returned (.int .i64 (appM (roomM M rs.length).D (roomM M rs.length).J rs).1) = _; rw [e0], hq', fun _ => e0⟩
      · refine .inr ⟨_, e0, by have := ha.2.1; omega, he, hq'.c3.1, hq'.c3.2, rfl, e0, ?_⟩
        have e1 := ha.2.2.1 e0
        have hq2 : AftC w3 P O { roomM M rs.length with D := (appM (roomM M rs.length).D (roomM M rs.length).J rs).2.1, J := (appM (roomM M rs.length).D (roomM M rs.length).J rs).2.2 } w'' := hq'
        rw [e1] at hq2
        exact AftC.set3 hq2)
  have HE := Lib.hid (fun _ : Unit => show comM M rs = if comE M rs = 0 then ⟨(appM (roomM M rs.length).D (roomM M rs.length).J rs).2.1, (appM (roomM M rs.length).D (roomM M rs.length).J rs).2.2, putD (roomM M rs.length).dirty rs⟩ else roomM M rs.length from rfl)
  obtain ⟨M1, hM1⟩ : ∃ M1, roomM M rs.length = M1 := ⟨_, rfl⟩
  obtain ⟨M2, hM2⟩ : ∃ M2, coM M rs.length rs 2 = M2 := ⟨_, rfl⟩
  obtain ⟨z0, hz0⟩ : ∃ z0, comE M rs = z0 := ⟨_, rfl⟩
  obtain ⟨M3, hM3⟩ : ∃ M3, comM M rs = M3 := ⟨_, rfl⟩
  have HM := Lib.hid (fun _ : Unit => show z0 = 0 → (∀ r ∈ rs, r.2.length = 512) ∧ rs.length ≤ 4096 ∧ (∀ r ∈ rs, 0 ≤ r.1 ∧ r.1 < 4096) ∧ M3 = { M2 with dirty := putD M2.dirty rs } from fun e => by
    have e' : comE M rs = 0 := hz0.trans e
    obtain ⟨a1, a2, -, -, -, -, -, a8⟩ := ha.2.2.2 e'
    have hN4 := G.n4
    exact ⟨a1, by omega, fun r hr => ⟨(a8 r hr).1, by have := (a8 r hr).2; omega⟩, by rw [← hM3, ← hM2, HE.out (), if_pos e']; rfl⟩)
  have HM1 := Lib.hid (fun _ : Unit => show z0 ≠ 0 → M3 = M1 from fun e => by rw [← hM3, ← hM1, HE.out (), if_neg (by rw [hz0]; exact e)])
  have HZ : (z0 = 0) = (comE M rs = 0) := by rw [hz0]
  rw [hM2, hM1, hz0] at cr
  rw [hz0, hM3]
  have hcr0 : z0 = 0 ∨ z0 ≠ 0 := by omega
  have H3 := Lib.hid (And.intro fw3 (And.intro kC3 (And.intro kL3 (And.intro hown (And.intro nC (And.intro nL hr))))))
  have hz00 : z0 = (appM M1.D M1.J rs).1 := by rw [← hz0, ← hM1]; rfl
  have H00 := Lib.hid (fun _ : Unit => And.intro hz00 (And.intro hM1 hM2))
  subst hfs
  have cC2 : w2.cell? ⟨gC, 0, none⟩ = some (.pointer (some ⟨P.c, 0, none⟩)) := (kC.keep_nil fL).cell 0
  clear h G hm hK hz hu hr kC fC kL fL f3 r3 fw3 h3 kC3 kL3 G1 ha hn1 hu1 hlt hown nC nL hM1 hM2 hM3 hz0 HZ hz00 HE h3z hcr0
  go_enter Tryz.func10, Tryz.ntmps10
  go_wp2_with fail
  refine cr.mono ?_
  rintro e w5 (⟨rfl, hp, hp2⟩ | ⟨z, rfl, rfl, hz, hq⟩)
  · have hz1 := hp2 (Nat.le_refl _)
    subst hz1
    obtain ⟨fw3, kC3, kL3, hown, nC, nL, hr⟩ := H3.out
    obtain ⟨l5, ln, lk, hM3⟩ := HM.out () rfl
    obtain ⟨O5, h5, ho5, f5⟩ := id hp
    have cC5 := f5.cell nC (kC3.cell 0)
    have cL5 := f5.cell nL (kL3.cell 0)
    have cp := caPut_any h5 (c := c) (A := A) rfl ln (fun w' f => (hr w' ((fw3.nil.trans f5 (fun i hi => .inl hi)).trans f (fun i hi => .inl (by rw [List.mem_singleton.1 hi]; unfold CaP.own; simp)))).rdx) l5 lk
    have H5 := Lib.hid (And.intro ho5 (And.intro f5 (And.intro fw3 hM3)))
    clear hp hp2 h5 ho5 f5 fw3 kC3 kL3 hown nC nL hr hM3 cr
    go_wp2_with fail
    refine cp.mono ?_
    rintro e w6 ⟨rfl, h6, f6⟩
    have H6 := Lib.hid (And.intro h6 f6)
    clear cp h6 f6 cC5 cL5
    go_wp2_with fail
    go_ret
    obtain ⟨ho5, f5, fw3, hM3⟩ := H5.out
    refine ⟨rfl, ?_⟩
    rw [hM3]
    refine AftC.pre fw3 ⟨O5, H6.out.1, ho5, f5.trans H6.out.2 (fun i hi => .inl (by rw [List.mem_singleton.1 hi]; unfold CaP.own; simp))⟩
  · have dz : (z == 0) = false := by simpa using hz
    have hM := HM1.out () hz
    have HQ := Lib.hid (And.intro hq hM)
    clear hq hM cr
    go_wp2_with fail
    go_ret
    exact ⟨rfl, by rw [HQ.out.2]; exact HQ.out.1.pre H3.out.1⟩
end
end Go.Proofs.YtamifdfkgbaobaaGreatDoor
/-
  Layer 15: Flush, Clean; a nil cache.
-/
set_option linter.unusedSimpArgs false
set_option linter.unusedVariables false
set_option linter.unnecessarySimpa false
namespace Go.Proofs.YtamifdfkgbaobaaGreatDoor
open Go.RowKit
set_option maxRecDepth 100000

section
variable {w w' w1 : World} {P : CaP} {O : List Nat} {M : CaM} {N : Nat}
theorem CaW.own_lt (h : CaW w P O M) : ∀ i ∈ P.own O, i < w.heap.size := fun i hi => by
  obtain ⟨a1, a2, a3, a4, a5⟩ := h.lts
  unfold CaP.own at hi
  simp only [List.mem_cons] at hi
  rcases hi with rfl | rfl | rfl | hi
  · exact a1
  · exact a2
  · exact a4
  · exact a5 i hi
set_option maxHeartbeats 1000000 in
theorem caFlush_any (h : CaW w P O M) (ho : On M.D N) :
    Calls Tryz.prog 16 #[.pointer (some ⟨P.c, 0, none⟩)] w fun e w' => e = .returned (.int .i64 0) ∧ AftC w P O { M with D := M.D.flush } w' := by
  obtain ⟨kC, fC, zC⟩ := box1D w 29 (.pointer (some ⟨P.c, 0, none⟩))
  obtain ⟨w1, hw1⟩ : ∃ x, w.alloc (.cells #[.pointer (some ⟨P.c, 0, none⟩)] 29) = x := ⟨_, rfl⟩
  rw [hw1] at kC fC zC
  obtain ⟨gC, hgC⟩ : ∃ g, w.heap.size = g := ⟨_, rfl⟩
  have hown := h.own_lt
  rw [hgC] at kC zC hown
  obtain ⟨fs, hfs⟩ : ∃ fs : List Value, [.func (.func 41) #[] #[.pointer (some ⟨gC, 0, none⟩)]] = fs := ⟨_, rfl⟩
  have f3 : Fr [] w1 (w1.alloc (.cells fs.toArray 37)) := (Fr.refl _ _).alloc _
  have r3 : Row (w1.alloc (.cells fs.toArray 37)) w1.heap.size 37 1 (.slice (some ⟨gC + 1, 0, none⟩) 1 1) 1 fs := by
    have := Row.new w1 fs.toArray 37 1 1 (0, 0) (free_zero _) (by unfold maxLen; omega) (by rw [← hfs]; rfl) (Nat.le_refl _)
    rw [← zC]
    simpa using this
  obtain ⟨w3, hw3⟩ : ∃ x, w1.alloc (.cells fs.toArray 37) = x := ⟨_, rfl⟩
  rw [hw3] at f3 r3
  have fw3 := fC.trans_nil f3
  have h3 := h.keep_nil fw3
  have kC3 := kC.keep_nil f3
  have nC : gC ∉ P.own O := fun hm => by have := hown _ hm; omega
  have cr := caRun_any (w := w3) (c := P.c) (r3.mono (Nat.zero_le _)) (by omega) (P.own O) (fun g hg hm => by have := (r3.lt g hg).1; have := hown g hm; omega) (fun k w' => AftC w3 P O (match k with | 0 => M | _ => { M with D := M.D.flush }) w') (fun _ _ => False) (caState_any h3) (AftC.same h3 (Fr.refl _ _)) (fun k w' hp => hp.fr) (fun k hk w' hp => by
    obtain ⟨O', hw', ho', f⟩ := id hp
    have kC' := kC3.keep f nC
    subst hfs
    match k, hk with
    | 0, _ =>
      refine ⟨_, _, _, rfl, enters_of Tryz.func41 (by kernel_rfl) rfl, ?_⟩
      rw [Array.empty_append]
      refine (caFlush1_any hw' kC').mono ?_
      rintro e w'' ⟨he, hq⟩
      exact .inl ⟨by rw [he]; show Ending.returned (.int .i64 M.D.flushE) = _; rw [ho.flush.1], AftC.trans h3 ho' f hq⟩)
  have H3 := Lib.hid fw3
  have cC1 : w1.cell? ⟨gC, 0, none⟩ = some (.pointer (some ⟨P.c, 0, none⟩)) := kC.cell 0
  subst hfs
  clear h ho kC fC f3 r3 fw3 h3 kC3 hown nC
  go_enter Tryz.func16, Tryz.ntmps16
  go_wp2_with fail
  refine cr.mono ?_
  rintro e w5 (⟨rfl, hp⟩ | ⟨z, -, hq⟩)
  · have HP := Lib.hid hp
    clear cr hp
    go_wp2_with fail
    go_ret
    exact ⟨rfl, HP.out.pre H3.out⟩
  · exact hq.elim
set_option maxHeartbeats 1000000 in
theorem caClean_any (h : CaW w P O M) (G : CaG N M) (hm : M.J.num + 1200 < 9223372036854775808) (hK : KG w) (hz : 0 ∉ P.own O) (hu : ∀ x, (M.D.uns x).length + 6000 ≤ 4398046511104) :
    Calls Tryz.prog 11 #[.pointer (some ⟨P.c, 0, none⟩)] w fun e w' => e = .returned (.int .i64 0) ∧ AftC w P O (cleanM M) w' := by
  obtain ⟨kC, fC, zC⟩ := box1D w 29 (.pointer (some ⟨P.c, 0, none⟩))
  obtain ⟨w1, hw1⟩ : ∃ x, w.alloc (.cells #[.pointer (some ⟨P.c, 0, none⟩)] 29) = x := ⟨_, rfl⟩
  rw [hw1] at kC fC zC
  obtain ⟨gC, hgC⟩ : ∃ g, w.heap.size = g := ⟨_, rfl⟩
  have hown := h.own_lt
  rw [hgC] at kC zC hown
  obtain ⟨fs, hfs⟩ : ∃ fs : List Value, [.func (.func 17) #[.pointer (some ⟨P.c, 0, none⟩)] #[], .func (.func 32) #[] #[.pointer (some ⟨gC, 0, none⟩)]] = fs := ⟨_, rfl⟩
  have f3 : Fr [] w1 (w1.alloc (.cells fs.toArray 37)) := (Fr.refl _ _).alloc _
  have r3 : Row (w1.alloc (.cells fs.toArray 37)) w1.heap.size 37 1 (.slice (some ⟨gC + 1, 0, none⟩) 2 2) 2 fs := by
    have := Row.new w1 fs.toArray 37 1 2 (0, 0) (free_zero _) (by unfold maxLen; omega) (by rw [← hfs]; rfl) (Nat.le_refl _)
    rw [← zC]
    simpa using this
  obtain ⟨w3, hw3⟩ : ∃ x, w1.alloc (.cells fs.toArray 37) = x := ⟨_, rfl⟩
  rw [hw3] at f3 r3
  have fw3 := fC.trans_nil f3
  have h3 := h.keep_nil fw3
  have kC3 := kC.keep_nil f3
  have nC : gC ∉ P.own O := fun hm => by have := hown _ hm; omega
  obtain ⟨G1, -, -, -, -, -, -, -, hu1⟩ := G.chkC (by omega)
  obtain ⟨s1, s2, -⟩ := G.clean (by omega)
  have hwz : 0 < w.heap.size := Nat.lt_of_le_of_lt (Nat.zero_le _) h.lts.1
  have cr := caRun_any (w := w3) (c := P.c) (r3.mono (Nat.zero_le _)) (by omega) (P.own O) (fun g hg hm => by have := (r3.lt g hg).1; have := hown g hm; omega) (fun k w' => AftC w3 P O (match k with | 0 => M | 1 => chkC M | _ => cleanM M) w') (fun _ _ => False) (caState_any h3) (AftC.same h3 (Fr.refl _ _)) (fun k w' hp => hp.fr) (fun k hk w' hp => by
    obtain ⟨O', hw', ho', f⟩ := id hp
    have hz' : 0 ∉ P.own O' := own_zero hz ho' (by have := fw3.size; omega)
    have kC' := kC3.keep f nC
    have hK' := (hK.keep fw3).keepO f hz
    subst hfs
    match k, hk with
    | 0, _ =>
      refine ⟨_, _, _, rfl, enters_of Tryz.func17 (by kernel_rfl) rfl, ?_⟩
      rw [Array.append_empty]
      refine (caCheck_any hw' G (show M.J.num + 600 < _ by omega) hK' hz' (fun x => by have := hu x; show (M.D.uns x).length + 5000 ≤ _; omega)).mono ?_
      rintro e w'' ⟨he, hq⟩
      exact .inl ⟨he, AftC.trans h3 ho' f hq⟩
    | 1, _ =>
      refine ⟨_, _, _, rfl, enters_of Tryz.func32 (by kernel_rfl) rfl, ?_⟩
      rw [Array.empty_append]
      refine (caClean1_any hw' (show (chkC M).J.ok from G1.jok) (fun x => by have a := hu x; have b := hu1 x; show ((chkC M).D.uns x).length + 300 ≤ _; omega) kC').mono ?_
      rintro e w'' ⟨he, hq⟩
      have hq' : AftC w' P O' { chkC M with D := (scrM (chkC M).D (chkC M).J).2.1, J := (scrM (chkC M).D (chkC M).J).2.2 } w'' := hq
      rw [s2] at hq'
      exact .inl ⟨by rw [he]; show Ending.returned (.int .i64 (scrM (chkC M).D (chkC M).J).1) = _; rw [s1], AftC.trans h3 ho' f hq'⟩)
  have H3 := Lib.hid fw3
  have cC1 : w1.cell? ⟨gC, 0, none⟩ = some (.pointer (some ⟨P.c, 0, none⟩)) := kC.cell 0
  subst hfs
  obtain ⟨M3, hM3⟩ : ∃ M3, cleanM M = M3 := ⟨_, rfl⟩
  have cr' : Calls Tryz.prog 29 #[.pointer (some ⟨P.c, 0, none⟩), .slice (some ⟨gC + 1, 0, none⟩) 2 2] w3 fun e w' => e = .returned (.int .i64 0) ∧ AftC w3 P O M3 w' := cr.mono (by
    rintro e w' (⟨he, hp⟩ | ⟨z, -, hq⟩)
    · exact ⟨he, by rw [← hM3]; exact hp⟩
    · exact hq.elim)
  rw [hM3]
  clear h G hm hK hz hu kC fC f3 r3 fw3 h3 kC3 hown nC G1 hu1 s1 s2 cr hM3
  go_enter Tryz.func11, Tryz.ntmps11
  go_wp2_with fail
  refine cr'.mono ?_
  rintro e w5 ⟨rfl, hp⟩
  have HP := Lib.hid hp
  clear cr' hp
  go_wp2_with fail
  go_ret
  exact ⟨rfl, HP.out.pre H3.out⟩
theorem caFlush_nil (w : World) : Calls Tryz.prog 16 #[.pointer none] w fun e w' => e = .returned (.int .i64 6) ∧ Fr [] w w' := by
  go_enter Tryz.func16, Tryz.ntmps16
  go_wp2_with (go_at_call 29; refine (caRun_nil _ _).mono ?_; rintro e w' ⟨rfl, rfl⟩)
  go_ret
  exact ⟨rfl, ((Fr.refl _ _).alloc _).alloc _⟩
theorem caClean_nil (w : World) : Calls Tryz.prog 11 #[.pointer none] w fun e w' => e = .returned (.int .i64 6) ∧ Fr [] w w' := by
  go_enter Tryz.func11, Tryz.ntmps11
  go_wp2_with (go_at_call 29; refine (caRun_nil _ _).mono ?_; rintro e w' ⟨rfl, rfl⟩)
  go_ret
  exact ⟨rfl, ((Fr.refl _ _).alloc _).alloc _⟩
theorem caCommit_nil (w : World) (A : Option Addr) (n c : Nat) : Calls Tryz.prog 10 #[.pointer none, .slice A n c] w fun e w' => e = .returned (.int .i64 6) ∧ Fr [] w w' := by
  go_enter Tryz.func10, Tryz.ntmps10
  go_wp2_with (go_at_call 29; refine (caRun_nil _ _).mono ?_; rintro e w' ⟨rfl, rfl⟩)
  go_ret
  exact ⟨rfl, (((Fr.refl _ _).alloc _).alloc _).alloc _⟩
theorem caCheck_nil (w : World) : Calls Tryz.prog 17 #[.pointer none] w fun e w' => e = .returned (.int .i64 6) ∧ Fr [] w w' := by
  go_enter Tryz.func17, Tryz.ntmps17
  go_wp2_with (go_at_call 38; refine (caState_nil _).mono ?_; rintro e w' ⟨rfl, rfl⟩)
  go_ret
  exact ⟨rfl, (Fr.refl _ _).alloc _⟩
end
end Go.Proofs.YtamifdfkgbaobaaGreatDoor
/-
  Layer 15: commits and reads, in plain words.
-/
set_option linter.unusedSimpArgs false
set_option linter.unusedVariables false
set_option linter.unnecessarySimpa false
namespace Go.Proofs.YtamifdfkgbaobaaGreatDoor
open Go.RowKit
set_option maxRecDepth 100000

def rdU (f : Int → List UInt8) (rs : List (Int × List UInt8)) : Int → List UInt8 := rs.foldl (fun f r x => if x = r.1 then r.2 else f x) f
theorem rdU_snoc (f : Int → List UInt8) (rs : List (Int × List UInt8)) (r : Int × List UInt8) (x : Int) : rdU f (rs ++ [r]) x = if x = r.1 then r.2 else rdU f rs x := by
  rw [rdU, List.foldl_append]
  rfl
theorem rdU_congr : ∀ (rs : List (Int × List UInt8)) (f g : Int → List UInt8) (x : Int), f x = g x → rdU f rs x = rdU g rs x
  | [], f, g, x, h => h
  | r :: t, f, g, x, h => by
    show rdU (fun x => if x = r.1 then r.2 else f x) t x = rdU (fun x => if x = r.1 then r.2 else g x) t x
    exact rdU_congr t _ _ x (by show (if x = r.1 then r.2 else f x) = (if x = r.1 then r.2 else g x); rw [h])
theorem rd_put (R : Int → List UInt8) : ∀ (rs : List (Int × List UInt8)) (d : Int → Option (List UInt8)) (x : Int), (match putD d rs x with | some l => l | none => R x) = rdU (fun x => match d x with | some l => l | none => R x) rs x
  | [], d, x => rfl
  | r :: t, d, x => by
    have ih := rd_put R t (updD d r) x
    show (match putD (updD d r) t x with | some l => l | none => R x) = _
    rw [ih]
    show _ = rdU (fun x => if x = r.1 then r.2 else match d x with | some l => l | none => R x) t x
    refine rdU_congr t _ _ x ?_
    show (match (if x = r.1 then some r.2 else d x) with | some l => l | none => R x) = if x = r.1 then r.2 else match d x with | some l => l | none => R x
    by_cases e : x = r.1
    · simp [e]
    · simp [e]
section
variable {N : Nat} {M : CaM} {rs : List (Int × List UInt8)}
/-- A commit of a cache in good order. -/
theorem CaG.com (G : CaG N M) (hm : M.J.num + 1200 < 9223372036854775808) : 0 ≤ comE M rs ∧ comE M rs ≤ 3 ∧ CaG N (comM M rs) ∧ (comM M rs).J.first = M.J.first ∧ (comM M rs).J.count = M.J.count ∧ (comM M rs).J.num ≤ M.J.num + 257 ∧ (∀ x, ((comM M rs).D.uns x).length ≤ (M.D.uns x).length + 67) ∧
    (comE M rs = 0 → (∀ r ∈ rs, r.2.length = 512) ∧ rs.length ≤ 64 ∧ (∀ r ∈ rs, 0 ≤ r.1 ∧ r.1 < N) ∧ ∀ x, x < M.J.first ∨ M.J.first + M.J.count ≤ x → rdM (comM M rs) x = rdU (rdM M) rs x) ∧
    (comE M rs ≠ 0 → ∀ x, x < M.J.first ∨ M.J.first + M.J.count ≤ x → rdM (comM M rs) x = rdM M x) := by
  have hc := G.c
  obtain ⟨h1, h2, h3, h4, h5, h6⟩ := G.room (by omega) rs.length
  have ha := h1.app (rs := rs) (by omega)
  have hun : ∀ x, ((appM (roomM M rs.length).D (roomM M rs.length).J rs).2.1.uns x).length ≤ (M.D.uns x).length + 67 := fun x => by
    have := appM_uns (roomM M rs.length).D (roomM M rs.length).J rs x
    have := h6 x
    omega
  obtain ⟨a1, a2, a3, a4⟩ := ha
  refine ⟨a1, a2, ?_⟩
  by_cases hz : comE M rs = 0
  · obtain ⟨b1, b2, b3, b4, b5, b6, b7, b8⟩ := a4 hz
    have hM : comM M rs = ⟨(appM (roomM M rs.length).D (roomM M rs.length).J rs).2.1, (appM (roomM M rs.length).D (roomM M rs.length).J rs).2.2, putD (roomM M rs.length).dirty rs⟩ := if_pos hz
    rw [hM]
    refine ⟨b3, b4.trans h2, b5.trans h3, by show (appM _ _ rs).2.2.num ≤ _; omega, hun, fun _ => ⟨b1, b2, b8, fun x hx => ?_⟩, fun h => absurd hz h⟩
    show (match putD (roomM M rs.length).dirty rs x with | some l => l | none => (appM (roomM M rs.length).D (roomM M rs.length).J rs).2.1.readR x) = _
    rw [b7 x (by rw [h2, h3]; omega)]
    have := rd_put (roomM M rs.length).D.readR rs (roomM M rs.length).dirty x
    rw [this]
    exact rdU_congr rs _ _ x (h4 x (by omega))
  · have hM : comM M rs = roomM M rs.length := if_neg hz
    rw [hM]
    exact ⟨h1, h2, h3, by omega, fun x => by have := h6 x; omega, fun h => absurd h hz, fun _ x hx => h4 x (by omega)⟩
/-- The start of it. -/
theorem CaG.start {N : Nat} {c : Int} (hN : N ≤ 4096) (hc : 16 ≤ c ∧ c ≤ 256) (hN2 : c ≤ N) : (mkE (newD N) 0 1).1 = 0 ∧ jRight (newD N) 0 c = true ∧ jRight (mkE (newD N) 0 1).2 0 c = true ∧ (mkE (newD N) 0 1).2.off = false ∧ rmV ((mkE (newD N) 0 1).2.readR 0) = some 1 ∧ scanA (mkE (newD N) 0 1).2 0 c 1 = ([], 0, 1) ∧
    CaG N ⟨(mkE (newD N) 0 1).2, openJ 0 c 1 0, fun _ => none⟩ ∧ (∀ x : Int, 0 < x → x < (N : Int) → (mkE (newD N) 0 1).2.readR x = zB512) ∧ ∀ x, ((mkE (newD N) 0 1).2.uns x).length ≤ 2 := by
  obtain ⟨k1, k2, k3, -⟩ := mkE_ok (On.new N) (x := 0) (by omega) (by omega) (m := 1) (by decide)
  have hun : ∀ x, ((mkE (newD N) 0 1).2.uns x).length ≤ 2 := fun x => by have := mkE_uns (newD N) 0 1 x; have e : ((newD N).uns x).length = 0 := rfl; omega
  obtain ⟨E, hE⟩ : ∃ E, (mkE (newD N) 0 1).2 = E := ⟨_, rfl⟩
  rw [hE] at k2 k3 hun ⊢
  have hz : ∀ x : Int, 0 < x → x < (N : Int) → E.readR x = zB512 := fun x h0 h1 => by
    rw [k3, if_neg (by omega)]
    exact (On.new_read N (by omega) (by omega)).1
  have hjr : ∀ D, On D N → jRight D 0 c = true := fun D h => by
    rw [jRight, h.len]
    simp only [Bool.and_eq_true, decide_eq_true_eq]
    omega
  refine ⟨k1, hjr _ (On.new N), hjr _ k2, k2.off, by rw [k3, if_pos rfl]; exact rmV_mark (by decide) (by decide), ?_, ⟨k2, hN, hc, ⟨Int.le_refl _, by show 0 + c ≤ N; omega⟩, ⟨Int.le_refl _, by show 0 + 1 ≤ c; omega⟩, rfl, by show 1 ≠ 0; decide, by show 1 < 9223372036854775808; decide, fun x l h => (by cases h), fun _ _ x => rfl⟩, hz, hun⟩
  rw [scanA]
  refine scanJ_no (trV_zero ?_)
  intro b hb
  obtain ⟨i, hi, rfl⟩ := List.mem_map.1 hb
  have := List.mem_range.1 hi
  show E.readR (0 + 1 + ((i : Nat) : Int)) = zB512
  exact hz (0 + 1 + ((i : Nat) : Int)) (by omega) (by omega)
end
end Go.Proofs.YtamifdfkgbaobaaGreatDoor
/-
  Layer 15: what lives() does, in plain words.
-/
set_option linter.unusedSimpArgs false
set_option linter.unusedVariables false
set_option linter.unnecessarySimpa false
namespace Go.Proofs.YtamifdfkgbaobaaGreatDoor
open Go.RowKit
set_option maxRecDepth 100000

theorem app_gen {D : DkM} {J : JrM} {N : Nat} {rs : List (Int × List UInt8)} (h : On D N) (hb : J.bad = false) (hr : rcOk J.num rs) (hm : J.num + 1 < 18446744073709551616) (hj : jMay N J rs = true) (h1 : (rs.length : Int) ≤ J.most) (h2 : (rs.length : Int) ≤ J.room)
    (h0 : 0 ≤ J.first + 1 + J.used) (hN : J.first + 1 + J.used + rs.length + 2 ≤ N) :
    ∃ E, appM D J rs = (0, E, { J with used := J.used + ((rs.length + 2 : Nat) : Int), num := J.num + 1 }) ∧ On E N ∧
      (∀ y, E.readR y = if J.first + 1 + J.used ≤ y ∧ y < J.first + 1 + J.used + (blkL J.num rs ++ [doneB J.num (blkL J.num rs).flatten]).length then (blkL J.num rs ++ [doneB J.num (blkL J.num rs).flatten]).getD (y - (J.first + 1 + J.used)).toNat [] else D.readR y) ∧
      ∀ x, (E.uns x).length ≤ (D.uns x).length + 67 := by
  obtain ⟨k1, k2, k3, -⟩ := runS_appS (blkL J.num rs) (doneB J.num (blkL J.num rs).flatten) D N (J.first + 1 + J.used) h h0 (by rw [blkL_len]; omega) (blk_512 hr) (doneB_len _ _)
  have hu := appM_uns D J rs
  have ha : appM D J rs = (0, (runS D (appS (J.first + 1 + J.used) (blkL J.num rs) (doneB J.num (blkL J.num rs).flatten))).2, { J with used := J.used + ((rs.length + 2 : Nat) : Int), num := J.num + 1 }) := by
    unfold appM
    rw [if_neg (by rw [hb]; simp), if_neg (by simp [hr]), h.len, if_neg (by rw [hj]; simp), if_neg (by omega), if_neg (by omega), k1, if_pos rfl, Nat.mod_eq_of_lt hm]
  exact ⟨_, ha, k2, k3, fun x => by have := hu x; rwa [ha] at this⟩
def rsZ : List (Int × List UInt8) := [(30, bX)]
theorem rsZ_ok {n : Nat} (h : n ≠ 0) : rcOk n rsZ := ⟨h, by decide, by intro r hr; rw [List.mem_singleton.1 hr]; exact bX_len, by decide⟩
/-- What lives() comes by. -/
theorem l15 : ∃ D1 D3 D4 D5, (initE (newD 40) 0 16 = (0, D1) ∧ (∀ x, (D1.uns x).length ≤ 2) ∧ jRight D1 0 16 = true ∧ D1.off = false ∧ rmV (D1.readR 0) = some 1 ∧ scanA D1 0 16 1 = ([], 0, 1)) ∧ CaG 40 ⟨D1, openJ 0 16 1 0, fun _ => none⟩ ∧
    (comE ⟨D1, openJ 0 16 1 0, fun _ => none⟩ rsZ = 0 ∧ comM ⟨D1, openJ 0 16 1 0, fun _ => none⟩ rsZ = ⟨D3, ⟨0, 16, 18, 3, true, false⟩, putD (fun _ => none) rsZ⟩ ∧ (∀ x, (D3.uns x).length ≤ 100)) ∧
    (D3.flushE = 0 ∧ D3.flush = D4) ∧ (D4.crashE [] = 0 ∧ D4.crash [] = D5 ∧ (∀ x, D5.uns x = []) ∧ On D5 40 ∧ jRight D5 0 16 = true ∧ D5.off = false ∧ rmV (D5.readR 0) = some 17 ∧ scanA D5 0 16 17 = (rsZ, 3, 18)) := by
  obtain ⟨s1, s2, s3, s4, s5, s6, s7, s8, s9⟩ := CaG.start (N := 40) (c := 16) (by omega) (by omega) (by omega)
  obtain ⟨D1, hD1⟩ : ∃ D1, (mkE (newD 40) 0 1).2 = D1 := ⟨_, rfl⟩
  have hi0 : initE (newD 40) 0 16 = (0, D1) := by rw [initE, if_pos s2]; exact Prod.ext s1 hD1
  rw [hD1] at s3 s4 s5 s6 s7 s8 s9
  obtain ⟨M1, hM1⟩ : ∃ M, (⟨D1, openJ 0 16 1 0, fun _ => none⟩ : CaM) = M := ⟨_, rfl⟩
  have hJ1 : M1.J = openJ 0 16 1 0 := by rw [← hM1]
  have hd1 : M1.dirty = fun _ => none := by rw [← hM1]
  have hDD : M1.D = D1 := by rw [← hM1]
  refine ⟨D1, ?_⟩
  rw [hM1] at s7 ⊢
  obtain ⟨c0, c1, c2, c3, c4, c5, c6⟩ := s7.chk (by rw [hJ1]; decide)
  have hnx : M1.J.next = 17 := by rw [hJ1]; rfl
  have hroom : roomM M1 rsZ.length = chkM M1 := by
    unfold roomM chkC
    rw [if_neg (by rw [hJ1]; decide), if_neg (by rw [hJ1]; decide)]
  obtain ⟨M2, hM2⟩ : ∃ M, chkM M1 = M := ⟨_, rfl⟩
  rw [hM2] at c1 c2 c3 c4 c5 hroom
  rw [hnx, hJ1] at c2
  have hJ2 : M2.J = ⟨0, 16, 17, 0, true, false⟩ := c2
  obtain ⟨E, e1, e2, e3, e4⟩ := app_gen (D := M2.D) (J := M2.J) (N := 40) (rs := rsZ) c1.on (by rw [hJ2]) (by rw [hJ2]; exact rsZ_ok (by decide)) (by rw [hJ2]; decide) (by rw [hJ2]; decide) (by rw [hJ2]; decide) (by rw [hJ2]; decide) (by rw [hJ2]; decide) (by rw [hJ2]; decide)
  have hE : comE M1 rsZ = 0 := by rw [comE, hroom, e1]
  have hdm : M2.dirty = fun _ => none := by rw [← hM2]; rfl
  have hC : comM M1 rsZ = ⟨E, ⟨0, 16, 18, 3, true, false⟩, putD (fun _ => none) rsZ⟩ := by
    rw [comM, if_pos hE, hroom, e1, hJ2, hdm]
    rfl
  obtain ⟨f1, f2, f3⟩ := e2.flush
  obtain ⟨k1, k2, k3, k4⟩ := f3.crash0
  have hrd : ∀ y, (E.flush1.crash []).readR y = E.readR y := fun y => by rw [k3, e2.flush_sure]
  refine ⟨E, E.flush1, E.flush1.crash [], ⟨hi0, s9, s3, s4, s5, s6⟩, s7, ⟨hE, hC, fun x => by have := e4 x; rw [c5] at this; simpa using Nat.le_trans this (by decide)⟩, ⟨f1, f2⟩, k1, rfl, k4, k2, by rw [jRight, k2.len]; decide, k2.off, ?_, ?_⟩
  · rw [hrd, e3, hJ2, if_neg (by simp), c3, hnx, hJ1, if_pos (show (0 : Int) = (openJ 0 16 1 0).first from rfl)]
    exact rmV_mark (by decide) (by decide)
  · have hz : ∀ i : Nat, i < 15 → M2.D.readR (0 + 1 + (i : Nat)) = zB512 := fun i hi => by
      rw [c3, hJ1, if_neg (by show ¬ (0 : Int) + 1 + (i : Nat) = 0; omega), rdM, hd1]
      show M1.D.readR _ = _
      rw [hDD]
      exact s8 _ (by omega) (by omega)
    have w5 : areaK (E.flush1.crash []) (openJ 0 16 0 0) 15 = areaK E (openJ 0 16 0 0) 15 := areaK_congr rfl fun i hi => hrd _
    have z2 : areaK M2.D (openJ 0 16 0 0) 15 = List.replicate 15 zB512 := by
      apply List.ext_getElem
      · rw [areaK_len, List.length_replicate]
      · intro i h1 h2
        rw [areaK_len] at h1
        rw [List.getElem_replicate]
        simp only [areaK, List.getElem_map, List.getElem_range]
        exact hz i h1
    rw [hJ2] at e3
    have w4 := areaK_write (E := E) (D := M2.D) (J := openJ 0 16 0 0) (k := 15) (u := 0) (L := blkL 17 rsZ ++ [doneB 17 (blkL 17 rsZ).flatten]) e3 (by rw [blk_len2]; decide)
    have hl1 : (blkL 17 rsZ ++ [doneB 17 (blkL 17 rsZ).flatten]).length = 3 := blk_len2 _ _ _
    obtain ⟨bs, hbs⟩ : ∃ bs, blkL 17 rsZ ++ [doneB 17 (blkL 17 rsZ).flatten] = bs := ⟨_, rfl⟩
    rw [hbs] at hl1 w4
    rw [z2, List.take_zero, List.nil_append, hl1, List.drop_replicate] at w4
    have hA : areaK (E.flush1.crash []) (openJ 0 16 0 0) 15 = bsOf 17 [rsZ] ++ List.replicate 12 zB512 := by
      rw [w5, w4, bsOf, bsOf, List.append_nil, hbs]
    show scanJ (E.flush1.crash []).sure.length (openJ 0 16 0 0) 15 17 (areaK (E.flush1.crash []) (openJ 0 16 0 0) 15) = _
    rw [hA, k2.len, scanJ_tx (n := ((40 : Nat) : Int)) (J := openJ 0 16 0 0) (rest := List.replicate 12 zB512) [rsZ] 17 15 ⟨rsZ_ok (by decide), by decide, trivial⟩ (by decide) (by decide) (trV_zero fun b hb => List.eq_of_mem_replicate hb)]
    rw [bsOf, bsOf, List.append_nil, hbs, hl1]
    rfl
end Go.Proofs.YtamifdfkgbaobaaGreatDoor
/-
  Layer 15: what must come of every program.
-/
set_option linter.unusedSimpArgs false
set_option linter.unusedVariables false
set_option linter.unnecessarySimpa false
namespace Go.Proofs.YtamifdfkgbaobaaGreatDoor
open Go.RowKit
set_option maxRecDepth 100000

/-- No row of bytes is touched. -/
def U8 (w w' : World) : Prop := ∃ F, Fr F w w' ∧ NoTy w F 5
theorem U8.nil {w w' : World} (f : Fr [] w w') : U8 w w' := ⟨[], f, NoTy.nil _ _⟩
theorem U8.row {w w' : World} (h : U8 w w') {B s n : Nat} {v : Value} {xs : List Value} (r : Row w B 5 s v n xs) : Row w' B 5 s v n xs := by
  obtain ⟨F, f, h8⟩ := h
  exact r.keepT f h8
/-- A cache that was made behind W, as it lies in w. -/
def LCa (W w : World) (P : CaP) (M : CaM) : Prop := ∃ O, CaW w P O M ∧ (∀ i ∈ P.own O, W.heap.size ≤ i) ∧ W.heap.size ≤ P.s ∧ Fr [] W w
section
variable {W w w' : World} {P : CaP} {M M' : CaM}
theorem LCa.fr (h : LCa W w P M) : Fr [] W w := by obtain ⟨O, -, -, -, f⟩ := h; exact f
theorem LCa.keep (h : LCa W w P M) (f : Fr [] w w') : LCa W w' P M := by
  obtain ⟨O, h1, h2, h3, h4⟩ := h
  exact ⟨O, h1.keep_nil f, h2, h3, h4.trans_nil f⟩
theorem LCa.aft {O : List Nat} (h1 : CaW w P O M) (h2 : ∀ i ∈ P.own O, W.heap.size ≤ i) (h3 : W.heap.size ≤ P.s) (h4 : Fr [] W w) (ha : AftC w P O M' w') : LCa W w' P M' ∧ U8 w w' := by
  obtain ⟨O', k1, k2, k3⟩ := ha
  refine ⟨⟨O', k1, fun i hi => ?_, h3, h4.trans k3 (fun i hi => .inr (h2 i hi))⟩, _, k3, h1.no8⟩
  unfold CaP.own at hi h2
  simp only [List.mem_cons] at hi h2
  rcases hi with h | h | h | h
  · exact h2 i (.inl h)
  · exact h2 i (.inr (.inl h))
  · exact h2 i (.inr (.inr (.inl h)))
  · rcases k2 i h with h | h
    · exact h2 i (.inr (.inr (.inr h)))
    · exact Nat.le_trans h4.size h
theorem LCa.op {f : Nat} {args : Array Value} {r : Ending} (hW : 0 < W.heap.size) (h : LCa W w P M) (hc : ∀ O, CaW w P O M → 0 ∉ P.own O → (∀ i ∈ P.own O, i < w.heap.size) → Calls Tryz.prog f args w fun e w' => e = r ∧ AftC w P O M' w') :
    Calls Tryz.prog f args w fun e w' => e = r ∧ LCa W w' P M' ∧ U8 w w' := by
  obtain ⟨O, h1, h2, h3, h4⟩ := h
  refine (hc O h1 (fun hm => by have := h2 0 hm; omega) h1.own_lt).mono ?_
  rintro e w' ⟨he, ha⟩
  exact ⟨he, LCa.aft h1 h2 h3 h4 ha⟩
theorem LCa.made {D : DkM} {J : JrM} {d : Int → Option (List UInt8)} {O : List Nat} {w0 : World} (hO : ∀ i ∈ O, W.heap.size ≤ i) (h0 : Fr [] W w0) (h : CaW w P O ⟨D, J, d⟩) (f : Fr [] w0 w) (h1 : w0.heap.size ≤ P.c) (h2 : w0.heap.size ≤ P.g) (h3 : w0.heap.size ≤ P.s) (h4 : w0.heap.size ≤ P.b) : LCa W w P ⟨D, J, d⟩ := by
  have hs := h0.size
  refine ⟨O, h, fun i hi => ?_, by omega, h0.trans_nil f⟩
  unfold CaP.own at hi
  simp only [List.mem_cons] at hi
  rcases hi with h | h | h | h
  · omega
  · omega
  · omega
  · exact hO i h
theorem rdR_own {g : Nat} {x : Int} {v : Value} {l : List UInt8} {B : Nat} (kb : Blk w g 49 #[.int .i64 x, v]) (r : Row w B 5 1 v l.length (bvs l)) (hx : in64 x) (hl : l.length ≤ 140737488355328) {F : List Nat} (f : Fr F w w') (h1 : g ∉ F) (h2 : ∀ b, v.ownBlock = some b → b ∉ F) : RdR w' (some ⟨g, 0, none⟩) 1 1 [(x, l)] := by
  have B2 := kb.keep f h1
  refine ⟨rfl, fun _ => ⟨_, _, rfl, B2.lt, fun i hi => ?_⟩, fun h => (by cases h), by omega, by omega⟩
  obtain rfl : i = 0 := by simp at hi; omega
  exact ⟨hx, B2.cell 0, v, B2.cell 1, (r.keep f h2).slb, hl⟩
end
theorem kg_pos {w : World} (hK : KG w) : 0 < w.heap.size := by
  rcases Nat.eq_zero_or_pos w.heap.size with h | h
  · have e1 := hK 0 _ rfl
    unfold World.cell? at e1
    dsimp only at e1
    rw [Array.getElem?_eq_none (by omega)] at e1
    cases e1
  · exact h
theorem keysZ_one (b : List UInt8) : keysZ (putD (fun _ => none) [(30, b)]) = [30] := by
  have hs := keysZ_sorted (putD (fun _ => none) [(30, b)])
  have hm : ∀ x, x ∈ keysZ (putD (fun _ => none) [(30, b)]) ↔ x = 30 := fun x => by
    rw [keysZ_mem]
    show _ ∧ _ ∧ (updD (fun _ => none) (30, b) x).isSome = true ↔ _
    unfold updD
    constructor
    · rintro ⟨-, -, h⟩
      by_cases e : x = 30
      · exact e
      · rw [if_neg e] at h; cases h
    · rintro rfl
      exact ⟨by omega, by omega, rfl⟩
  generalize keysZ (putD (fun _ => none) [(30, b)]) = zs at hs hm
  match zs, hs, hm with
  | [], _, hm => exact absurd ((hm 30).2 rfl) (by simp)
  | [a], _, hm => rw [(hm a).1 (by simp)]
  | a :: c :: r, hs, hm =>
    have h1 := (hm a).1 (by simp)
    have h2 := (hm c).1 (by simp)
    have := (List.pairwise_cons.1 hs).1 c (by simp)
    omega
theorem rdZ (D : DkM) (J : JrM) : rdM ⟨D, J, putD (fun _ => none) rsZ⟩ 30 = bX ∧ rdE ⟨D, J, putD (fun _ => none) rsZ⟩ 30 = 0 := by
  have : putD (fun _ => none) rsZ 30 = some bX := by simp [putD, rsZ, updD]
  exact ⟨by rw [rdM]; dsimp only; rw [this], by rw [rdE]; dsimp only; rw [this]⟩
theorem bX_0 : (bvs bX)[0]? = some (.int .u8 120) := by simp [bvs, bX, blkOf, blkK, bv]
set_option maxHeartbeats 8000000 in
theorem lives15_any (w : World) (hK : KG w) : Calls Tryz.prog 7 #[] w fun e w' => e = .returned (.bool true) ∧ Fr [] w w' := by
  obtain ⟨D1, D3, D4, D5, hi1, hg1, hc1, hf1, hd1⟩ := l15
  have hW := kg_pos hK
  have I1 := Lib.hid (fun _ : Unit => hi1)
  have G1 := Lib.hid (fun _ : Unit => hg1)
  have C1 := Lib.hid (fun _ : Unit => hc1)
  have F1 := Lib.hid (fun _ : Unit => hf1)
  have E1 := Lib.hid (fun _ : Unit => hd1)
  have hcom := hc1.2.1
  clear hi1 hg1 hc1 hf1 hd1
  have cn := dkNew_any w 40 (by omega)
  have kc := fun (w : World) (C : Array Value) (n c : Nat) => Lib.run_convert_bytes_const (P := Tryz.prog) w 41 5 C n c Tryz.underlying41 Tryz.underlying5
  clear hcom
  go_enter Tryz.func7, Tryz.ntmps7
  go_wp2_with fail
  refine cn.mono ?_
  intro e w1 hn
  obtain ⟨p, rfl, h1⟩ := LV.of_new (by omega) hn
  clear cn hn
  change LV w w1 p (newD 40) at h1
  obtain ⟨O, hd, hO, hf⟩ := h1
  have ci := jnInit_any hd 0 16 (wfZ_of (by decide)) (hK.keep hf) (fun x => by show 0 + 2 ≤ _; omega)
  rw [(I1.out ()).1] at ci
  go_wp2_with fail
  refine ci.mono ?_
  rintro e w2 ⟨rfl, ha⟩
  have h2 : LV w w2 p D1 := LV.aft hO hf ha
  clear ci ha hd hO hf
  obtain ⟨O2, hd2, hO2, hf2⟩ := h2
  have co := caOpen_yes hd2 0 16 (wfZ_of (by decide)) (hK.keep hf2) (I1.out ()).2.2.1 (I1.out ()).2.2.2.1 (I1.out ()).2.2.2.2.1 (by rw [(I1.out ()).2.2.2.2.2]; exact Nat.zero_le _) (by rw [(I1.out ()).2.2.2.2.2]; intro r hr; cases hr) (by rw [(I1.out ()).2.2.2.2.2]; intro r hr; cases hr)
  rw [(I1.out ()).2.2.2.2.2] at co
  go_wp2_with fail
  refine co.mono ?_
  rintro e w3 ⟨P, hP, rfl, hcw, f3, p1, p2, p3, p4⟩
  have LL : LCa w w3 P ⟨D1, openJ 0 16 1 0, fun _ => none⟩ := LCa.made hO2 hf2 hcw f3 p1 p2 p3 p4
  clear hcw f3 p1 p2 p3 p4 hd2 hO2 hf2 co
  go_wp2_with fail
  refine (dkBlock_any _ _ 1 1 [120] rfl (Rd.mark w3 [120] 5 (1, 2)) (by omega)).mono ?_
  rintro e w4 ⟨v4, rfl, r4, f4⟩
  obtain ⟨A4, c4, rfl, -, -, -, -, -⟩ := r4.shape
  have fa3 : Fr [] w3 (w3.alloc (.cells (bvs [120]).toArray 5 (1, 2))) := (Fr.refl _ _).alloc _
  have hs3 := fa3.size
  replace r4 : Row w4 (w3.alloc (.cells (bvs [120]).toArray 5 (1, 2))).heap.size 5 1 (.slice A4 512 c4) bX.length (bvs bX) := by rw [bX_len]; exact r4
  have hs4 := f4.size
  obtain ⟨B4, hB4⟩ : ∃ B4, (w3.alloc (.cells (bvs [120]).toArray 5 (1, 2))).heap.size = B4 := ⟨_, rfl⟩
  obtain ⟨O, hc3, hq2, hq3, hq4⟩ := LL
  have hown := hc3.own_lt
  have kX := Blk.new w4 49 #[.int .i64 30, .slice A4 512 c4]
  have fX : Fr [] w4 (w4.alloc (.cells #[.int .i64 30, .slice A4 512 c4] 49)) := (Fr.refl _ _).alloc _
  have fX3 := fa3.trans_nil (f4.trans_nil fX)
  have hcX := hc3.keep_nil fX3
  have rX := r4.keep_nil fX
  have hz : 0 ∉ P.own O := fun hm => by have := hq2 0 hm; omega
  have ccm := caCommit_any hcX (G1.out ()) (show (1 : Nat) + 1200 < _ by decide) (hK.keep (hq4.trans_nil fX3)) hz (fun x => by have := (I1.out ()).2.1 x; show (D1.uns x).length + 6000 ≤ _; omega) (A := some ⟨w4.heap.size, 0, none⟩) (c := 1) (rs := rsZ) rfl (fun w' f => rdR_own kX rX ⟨by decide, by decide⟩ (by rw [bX_len]; omega) f (fun hm => by have := hown _ hm; omega) (fun b hb hm => by have := (r4.lt b hb).1; have := hown _ hm; omega))
  rw [(C1.out ()).1, (C1.out ()).2.1] at ccm
  have HQ := Lib.hid (And.intro hcX (And.intro hq2 (And.intro hq3 (hq4.trans_nil fX3))))
  obtain ⟨wX, hwX⟩ : ∃ y, w4.alloc (.cells #[.int .i64 30, .slice A4 512 c4] 49) = y := ⟨_, rfl⟩
  rw [hwX] at ccm HQ
  clear hc3 hq2 hq3 hq4 hown kX fX fX3 hcX rX hz r4 f4 fa3 hs3 hs4 hB4
  go_wp2_with fail
  refine ccm.mono ?_
  rintro e w5 ⟨rfl, ha⟩
  obtain ⟨LL, -⟩ := LCa.aft HQ.out.1 HQ.out.2.1 HQ.out.2.2.1 HQ.out.2.2.2 ha
  clear ccm ha HQ hwX
  obtain ⟨O, h1, h2, h3, h4⟩ := id LL
  have cr := caRead_any h1 30 (wfZ_of (by decide))
  rw [(rdZ _ _).1, (rdZ _ _).2] at cr
  clear h1 h2 h3 h4
  go_wp2_with fail
  refine cr.mono ?_
  rintro e w6 ⟨v, rfl, rb, f6⟩
  obtain ⟨gb, cb, rfl⟩ := rb.hdD (by rw [bX_len]; decide)
  rw [bX_len] at rb ⊢
  replace LL := LL.keep f6
  clear cr f6
  have hon : On D3 40 := by
    have := ((G1.out ()).com (rs := rsZ) (show (1 : Nat) + 1200 < _ by decide)).2.2.1
    rw [(C1.out ()).2.1] at this
    exact this.on
  have cf := LCa.op hW LL (fun O h _ _ => caFlush_any h hon)
  clear hon
  go_wp2_with fail
  refine cf.mono ?_
  rintro e w7 ⟨rfl, LL7, u7⟩
  have LL7' : LCa w w7 P ⟨D3.flush, ⟨0, 16, 18, 3, true, false⟩, putD (fun _ => none) rsZ⟩ := LL7
  rw [(F1.out ()).2] at LL7'
  replace rb := u7.row rb
  clear cf LL LL7 u7
  have cx := LCa.op (r := .returned (.int .i64 (D4.crashE []))) (M' := ⟨D4.crash [], ⟨0, 16, 18, 3, true, false⟩, putD (fun _ => none) rsZ⟩) hW LL7' (fun O h _ _ => (dkCrash_any h.dsk none 0 0 [] ⟨rfl, fun i h => by simp at h, fun p h => by cases h⟩ (by omega)).mono fun e w' ⟨he, ha⟩ => ⟨he, h.disk ha⟩)
  rw [(E1.out ()).1, (E1.out ()).2.1, hP] at cx
  clear LL7'
  go_wp2_with fail
  refine cx.mono ?_
  rintro e w8 ⟨rfl, LL, u8⟩
  replace rb := u8.row rb
  clear cx u8
  obtain ⟨O, h1, h2, h3, h4⟩ := LL
  obtain ⟨d1, d2, d3, d4, d5, d6, d7, d8⟩ := E1.out ()
  have hdk := h1.dsk
  rw [hP] at hdk
  have co := caOpen_yes hdk 0 16 (wfZ_of (by decide)) (hK.keep h4) d5 d6 d7 (by rw [d8]; decide) (by rw [d8]; intro r hr; rw [List.mem_singleton.1 hr]; exact bX_len) (by rw [d8]; intro r hr; rw [List.mem_singleton.1 hr]; exact ⟨by decide, by decide⟩)
  rw [d8] at co
  have H4 := Lib.hid h4
  clear h1 h2 h3 h4 hdk d1 d2 d3 d4 d5 d6 d7 d8
  go_wp2_with fail
  refine co.mono ?_
  rintro e w9 ⟨P2, hP2, rfl, hc2, f9, -⟩
  replace rb := rb.keep_nil f9
  have x0 : w9.cell? ⟨gb, 0, none⟩ = some (.int .u8 120) := by
    obtain ⟨g', o', e', hc⟩ := rb.rdD.1 (by intro h; have := bX_0; rw [h] at this; cases this)
    cases e'
    exact hc 0 _ bX_0
  have c2 := hc2.c2
  obtain ⟨fv, hsr, hdv⟩ := hc2.srt
  have hkl := keyL_dirty hdv
  rw [show putD (fun _ => none) rsZ = putD (fun _ => none) [(30, bX)] from rfl, keysZ_one] at hkl
  have cd := caDirty_at c2 hsr hkl (Nat.le_refl _)
  have FW := Lib.hid (H4.out.trans_nil f9)
  have H2 := Lib.hid hc2
  clear co f9 rb c2 hsr hdv hkl hc2
  go_wp2_with fail
  refine cd.mono ?_
  rintro e wA ⟨vA, rfl, rA, fA⟩
  obtain ⟨gA, cA, rfl⟩ := rA.hdD (by decide)
  have hcA := H2.out.keep_nil fA
  have cu := caUsed_any hcA
  have cm := caMost_any hcA (show (openJ 0 16 18 3).ok from ⟨by decide, by decide, by decide, by decide⟩)
  change Calls _ _ _ _ (fun e w' => e = .returned (.int .i64 3) ∧ wA = w') at cu
  change Calls _ _ _ _ (fun e w' => e = .returned (.int .i64 13) ∧ wA = w') at cm
  have FA := Lib.hid (FW.out.trans_nil fA)
  clear cd rA fA hcA x0
  go_wp2_with (first | (go_at_call 12; refine cu.mono ?_; rintro e w' ⟨rfl, rfl⟩) | (go_at_call 18; refine cm.mono ?_; rintro e w' ⟨rfl, rfl⟩))
  go_ret
  exact ⟨rfl, FA.out⟩
end Go.Proofs.YtamifdfkgbaobaaGreatDoor
/-
  From a row's reading of its arguments to the words of the walks: slices of bytes.
-/
set_option linter.unusedSimpArgs false
set_option linter.unusedVariables false
set_option linter.unnecessarySimpa false
namespace Go.Proofs.YtamifdfkgbaobaaGreatDoor
open Go.ChangeShapes Go.WideShapes Go.ChangeAt Go.RowKit

/-- A slice of bytes that came in. -/
structure ArgB (W : World) (A : Option Addr) (n cap : Nat) (l : List UInt8) : Prop where
  len : l.length = n
  rd : Rd W A (bvs l)
  nil : A = none → n = 0
  le : n ≤ cap
  cap : cap ≤ maxLen
  reach : n ≤ 140737488351232
  blk : ∀ g o, A = some ⟨g, o, none⟩ → l ≠ [] → g < W.heap.size

theorem byte_of_int {z : Int} (h : (Lit.int .u8 z).wf = true) : Value.int .u8 z = bv (UInt8.ofNat z.toNat) := by
  simp [Lit.wf, IntKind.min, IntKind.max, IntKind.signed, IntKind.bits] at h
  unfold bv
  have : z.toNat < 256 := by omega
  rw [UInt8.toNat_ofNat', Nat.mod_eq_of_lt this]
  congr 1
  omega

theorem open_bytes {H : Type} {enc : TypeId × Value → H} {P : Program} {W : World} {t e : TypeId} {fuel : Nat} {cs : List Value} {x : DataW H × List MemPlace} {held : Bool}
    (ht : P.underlying t = some (.slice e)) (he : P.underlying e = some (.int .u8)) (hc : P.cellsOf e = 1) (hB : P.bytesOf e = 1)
    (h : DataW.trod enc P W 0 (fun _ => true) held fuel t cs = some x) (hw : (DataW.weights P t x.1).all (· ≤ reachBytes) = true) :
    ∃ A n cap l, cs = [.slice A n cap] ∧ ArgB W A n cap l := by
  rcases open_ints ht he hc h with ⟨rfl, rfl⟩ | ⟨a, len, cap, zs, rfl, _, hl, hm, hz, hx, hcell, hwz⟩
  · exact ⟨none, 0, 0, [], rfl, rfl, Rd.nil _ _, fun _ => rfl, Nat.le_refl _, by unfold maxLen; omega, by omega, fun g o e => by cases e⟩
  · simp only [if_true] at hz
    refine ⟨some a, len, cap, (zs.take len).map fun z => UInt8.ofNat z.toNat, rfl, by simp; omega, ?_, fun h => (by cases h), hl, hm, ?_, ?_⟩
    · intro hne
      have hpos : 0 < zs.length := by
        cases zs with
        | nil => simp [bvs] at hne
        | cons z r => simp
      obtain ⟨g, o, sp⟩ := a
      have hsp : sp = none := by simpa [Addr.add] using World.cell?_spot (hcell 0 hpos)
      subst hsp
      refine ⟨g, o, rfl, fun j u hu => ?_⟩
      have hj : j < (zs.take len).length := by
        have := (List.getElem?_eq_some_iff.1 hu).1
        simpa [bvs] using this
      have hj' : j < zs.length := by rw [List.length_take] at hj; omega
      have h1 := hcell j hj'
      rw [addr_add] at h1
      rw [h1]
      have h2 : zs.getD j 0 = zs[j] := by simp [List.getD, hj']
      rw [h2, byte_of_int (hwz _ (List.getElem_mem hj'))]
      simp only [bvs, List.map_map, List.getElem?_map, List.getElem?_eq_getElem hj, Option.map_some, Function.comp, List.getElem_take] at hu
      exact hu
    · subst hx
      have h1 : (lits (H := H) .u8 (zs.take len)).length + (lits (H := H) .u8 (zs.drop len)).length = zs.length := by
        simp [lits]
        omega
      have h2 := List.all_eq_true.1 hw (((lits (H := H) .u8 (zs.take len)).length + (lits (H := H) .u8 (zs.drop len)).length) * P.bytesOf e) (by simp [DataW.weights, ht])
      rw [h1, hB] at h2
      have : zs.length * 1 ≤ reachBytes := by simpa using h2
      unfold reachBytes at this
      omega
    · intro g o e1 hne
      cases e1
      have hpos : 0 < zs.length := by
        cases zs with
        | nil => simp at hne
        | cons z r => simp
      have h1 := hcell 0 hpos
      exact World.block_lt_of_cell? W _ (by rw [addr_add] at h1; exact h1)

theorem weights_at {H : Type} {P : Program} {ts : List TypeId} {ds : List (DataW H)} (h : (DataW.weightsEach P ts ds).all (· ≤ reachBytes) = true) {j : Nat} {t : TypeId} {d : DataW H} (ht : ts[j]? = some t) (hd : ds[j]? = some d) :
    (DataW.weights P t d).all (· ≤ reachBytes) = true := by
  rw [List.all_eq_true] at h ⊢
  exact fun n hn => h n (DataW.weights_mem_each ht hd n hn)

/-- An argument that is one slice of bytes. -/
theorem arg_bytes {H : Type} {enc : TypeId × Value → H} {P : Program} {W : World} {t e : TypeId} {v : Value} {d : DataW H} {ps : List MemPlace} {held : Bool} {r : Reach} {b0 : Nat}
    (ht : P.underlying t = some (.slice e)) (he : P.underlying e = some (.int .u8)) (hc : P.cellsOf e = 1) (hB : P.bytesOf e = 1)
    (hv : Value.okWide P W r b0 t v) (h : DataW.Trod enc P W 0 (fun _ => true) held t v d ps) (hw : (DataW.weights P t d).all (· ≤ reachBytes) = true) :
    ∃ A n cap l, v = .slice A n cap ∧ ArgB W A n cap l := by
  obtain ⟨a, len, cap, rfl⟩ := okWide_slice ht hv
  obtain ⟨fuel, hf⟩ := h
  obtain ⟨A, n, c, l, h1, h2⟩ := open_bytes ht he hc hB hf hw
  simp [Value.cells] at h1
  obtain ⟨rfl, rfl, rfl⟩ := h1
  exact ⟨a, len, cap, l, rfl, h2⟩

theorem wf_i64 {z : Int} (h : (Lit.int .i64 z).wf = true) : -9223372036854775808 ≤ z ∧ z ≤ 9223372036854775807 := by
  simp [Lit.wf, IntKind.min, IntKind.max, IntKind.signed, IntKind.bits] at h
  exact h
theorem wf_u64 {z : Int} (h : (Lit.int .u64 z).wf = true) : ∃ n : Nat, z = n ∧ n < 18446744073709551616 := by
  simp [Lit.wf, IntKind.min, IntKind.max, IntKind.signed, IntKind.bits] at h
  exact ⟨z.toNat, by omega, by omega⟩
theorem wf_u8 {z : Int} (h : (Lit.int .u8 z).wf = true) : ∃ x : UInt8, z = (x.toNat : Int) := by
  simp [Lit.wf, IntKind.min, IntKind.max, IntKind.signed, IntKind.bits] at h
  refine ⟨UInt8.ofNat z.toNat, ?_⟩
  rw [UInt8.toNat_ofNat', Nat.mod_eq_of_lt (show z.toNat < 2 ^ 8 by omega)]
  omega
end Go.Proofs.YtamifdfkgbaobaaGreatDoor
