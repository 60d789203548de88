/-
  Texts of this claim, one behind the other: CacE, CacF.
-/
import Derived.Test.YtbanogfljpkbkaaGreatDoorF34
import Derived.Test.YtbanogfljpkbkaaGreatDoorF8
set_option linter.unusedSimpArgs false
set_option linter.unusedVariables false
set_option linter.unnecessarySimpa false
namespace Go.Proofs.YtbanogfljpkbkaaGreatDoor
section
open Go.RowKit
set_option maxRecDepth 100000
def WrV (w : World) (lo : Nat) (P : CaP) (v : Value) (x : Int) (l : List UInt8) : Prop := ∃ g1 g2 g3 u, v = .func (.func 144) #[] #[.pointer (some ⟨g1, 0, none⟩), .pointer (some ⟨g2, 0, none⟩), .pointer (some ⟨g3, 0, none⟩)] ∧
 Blk w g1 81 #[.pointer (some ⟨P.c, 0, none⟩)] ∧ Blk w g2 3 #[.int .i64 x] ∧ Blk w g3 27 #[u] ∧ BlkB w u l ∧ lo ≤ g1 ∧ lo ≤ g2 ∧ lo ≤ g3
inductive CSt where
 | st (s : Stp)
 | rs
def CStV (w : World) (lo : Nat) (P : CaP) (v : Value) : CSt → Prop
 | .st .fl => v = .func (.func 112) #[.pointer (some ⟨P.p, 0, none⟩)] #[]
 | .st (.wr x l) => WrV w lo P v x l
 | .rs => v = .func (.func 145) #[.pointer (some ⟨P.g, 0, none⟩)] #[]
section
variable {w w' : World} {P : CaP} {O : List Nat} {M : CaM} {lo : Nat}
theorem CStV.keepT {F : List Nat} {v : Value} {s : CSt} (h : CStV w lo P v s) (f : Fr F w w') (hF : ∀ e, e ≠ 47 → e ≠ 186 → NoTy w F e) : CStV w' lo P v s := by
 cases s with
 | rs => exact h
 | st s =>
  cases s with
  | fl => exact h
  | wr x l =>
   obtain ⟨g1, g2, g3, u, e, k1, k2, k3, hb, hl⟩ := h
   exact ⟨g1, g2, g3, u, e, k1.keep f (k1.notin (hF _ (by decide) (by decide))), k2.keep f (k2.notin (hF _ (by decide) (by decide))), k3.keep f (k3.notin (hF _ (by decide) (by decide))), hb.keepT f (hF _ (by decide) (by decide)), hl⟩
theorem CStV.keepF {F : List Nat} {v : Value} {s : CSt} (h : CStV w lo P v s) (f : Fr F w w') (hF : ∀ i ∈ F, i < lo) (h8 : NoTy w F 5) : CStV w' lo P v s := by
 cases s with
 | rs => exact h
 | st s =>
  cases s with
  | fl => exact h
  | wr x l =>
   obtain ⟨g1, g2, g3, u, e, k1, k2, k3, hb, l1, l2, l3⟩ := h
   exact ⟨g1, g2, g3, u, e, k1.keep f (fun hm => by have := hF _ hm; omega), k2.keep f (fun hm => by have := hF _ hm; omega), k3.keep f (fun hm => by have := hF _ hm; omega), hb.keepT f h8, l1, l2, l3⟩
structure CRow (w : World) (B lo : Nat) (P : CaP) (v : Value) (fs : List Value) (ss : List CSt) : Prop where
 row : Row w B 47 1 v ss.length fs
 each : ∀ i (h : i < fs.length) (h' : i < ss.length), CStV w lo P fs[i] ss[i]
theorem CRow.len {B : Nat} {v : Value} {fs : List Value} {ss : List CSt} (h : CRow w B lo P v fs ss) : fs.length = ss.length := by have := h.row.1; omega
theorem CRow.keep_nil {B : Nat} {v : Value} {fs : List Value} {ss : List CSt} (h : CRow w B lo P v fs ss) (f : Fr [] w w') : CRow w' B lo P v fs ss :=
 ⟨h.row.keep_nil f, fun i a b => (h.each i a b).keepT f (fun _ _ _ => NoTy.nil _ _)⟩
theorem CRow.app {B : Nat} {v v' : Value} {fs us : List Value} {ss ts : List CSt} (h : CRow w B lo P v fs ss) (hu : ∀ i (h : i < us.length) (h' : i < ts.length), CStV w lo P us[i] ts[i]) (f : Fr v.ownBlock.toList w w') (hr : Row w' B 47 1 v' (ss.length + ts.length) (fs ++ us)) : CRow w' B lo P v' (fs ++ us) (ss ++ ts) := by
 have kp : ∀ {v : Value} {s : CSt}, CStV w lo P v s → CStV w' lo P v s := fun hx => hx.keepT f (fun e he _ => h.row.noTy (Ne.symm he))
 have hl := h.len
 have hr1 := hr.1
 refine ⟨by rw [List.length_append]; exact hr, fun i h1 h2 => ?_⟩
 rw [List.length_append] at h1 h2
 by_cases hi : i < fs.length
 ·rw [List.getElem_append_left hi, List.getElem_append_left (by omega)]
  exact kp (h.each i hi (by omega))
 ·rw [List.getElem_append_right (by omega), List.getElem_append_right (by omega)]
  have := hu (i - fs.length) (by omega) (by omega)
  simpa [hl] using kp this
set_option maxHeartbeats 1000000 in
theorem caCheck1_any (h : CaW w P O M) {g1 g2 g3 : Nat} {u : Value} {x : Int} {l : List UInt8} (k1 : Blk w g1 81 #[.pointer (some ⟨P.c, 0, none⟩)]) (k2 : Blk w g2 3 #[.int .i64 x]) (k3 : Blk w g3 27 #[u]) (hb : BlkB w u l) (hu : (M.D.uns x).length ≤ 4398046511104)
  (n1 : g1 ∉ O) (n2 : g2 ∉ O) (n3 : g3 ∉ O) :
  Calls Tryz.prog 144 #[.pointer (some ⟨g1, 0, none⟩), .pointer (some ⟨g2, 0, none⟩), .pointer (some ⟨g3, 0, none⟩)] w fun e w' => e = .returned (.int .i64 (Stp.E M.D (.wr x l))) ∧ AftC w P O { M with D := Stp.D M.D (.wr x l) } w' := by
 obtain ⟨wD, hwD⟩ : ∃ wD, w.drew = wD := ⟨_, rfl⟩
 have fD : Fr [] w wD := by rw [← hwD]; exact (Fr.refl [] _).drew
 have hw := h.keep_nil fD
 obtain ⟨A, cc, rfl, -⟩ := hb.2.shape
 have r := hb.2.keep_nil fD
 have cw := dkWrite_any hw.dsk x A 512 cc l hb.1 r.rdD.1 r.rdD.2.2 hu
 obtain ⟨z, hz⟩ : ∃ z, M.D.writeE x 512 = z := ⟨_, rfl⟩
 have HZ := Lib.hid (show Stp.E M.D (.wr x l) = z by rw [Stp.E, hb.1, hz])
 rw [hz] at cw
 have hS : ∀ (F : List Nat) (w' : World), Fr F wD w' → (∀ j ∈ F, j ∈ O) → (w'.cell? ⟨g1, 0, none⟩ = some (.pointer (some ⟨P.c, 0, none⟩)) ∧ w'.cell? ⟨P.c, 0, none⟩ = some (.pointer (some ⟨P.p, 0, none⟩)) ∧ w'.cell? ⟨g2, 0, none⟩ = some (.int .i64 x) ∧ w'.cell? ⟨g3, 0, none⟩ = some (.slice A 512 cc)) := fun F w' f hF =>
  ⟨f.cell (fun hm => n1 (hF _ hm)) ((k1.keep_nil fD).cell 0), f.cell (fun hm => hw.nO.1 (hF _ hm)) hw.c0, f.cell (fun hm => n2 (hF _ hm)) ((k2.keep_nil fD).cell 0), f.cell (fun hm => n3 (hF _ hm)) ((k3.keep_nil fD).cell 0)⟩
 have SF := Lib.hid hS
 have hD := hS [] _ (Fr.refl _ _) (by simp)
 have HW := Lib.hid (And.intro hw fD)
 clear hz hS hw r hb k1 k2 k3 h n1 n2 n3 fD
 go_enter Tryz.func144, Tryz.ntmps144
 go_upto_region 1 with fail
 refine wp_region_held_drew (S := fun w' => w'.cell? ⟨g1, 0, none⟩ = some (.pointer (some ⟨P.c, 0, none⟩)) ∧ w'.cell? ⟨P.c, 0, none⟩ = some (.pointer (some ⟨P.p, 0, none⟩)) ∧ w'.cell? ⟨g2, 0, none⟩ = some (.int .i64 x) ∧ w'.cell? ⟨g3, 0, none⟩ = some (.slice A 512 cc)) (by kernel_rfl) (by rw [hwD]; exact hD) (fun hHeld => ?_)
 rw [hwD] at hHeld ⊢
 clear hD hwD
 refine tw 0 4 hHeld ?_
 refine tw 1 5 hHeld ?_
 refine tw 2 6 hHeld ?_
 refine tw 3 7 hHeld ?_
 refine tw 4 8 hHeld ?_
 refine tw 5 9 hHeld ?_
 refine tc 6 (fun K hK => ?_)
 go_simp
 refine cw.mono ?_
 rintro e w5 ⟨rfl, ha⟩
 have hHx := SF.out O w5 (by obtain ⟨O', -, -, f⟩ := ha; exact f) (fun _ h => h)
 refine hK.out _ _ hHx (fun hHy => ?_)
 clear hK cw hHeld hHy
 have hHeld := hHx
 clear hHx
 try simp only [Act.put, p1, p2, p3]
 refine tw 7 3 hHeld ?_
 refine wpAnyH_done (by kernel_rfl) ?_ _
 clear hHeld
 go_wp2_with fail
 go_ret
 exact ⟨by rw [HZ.out]; rfl, (HW.out.1.disk ha).pre HW.out.2⟩
def stD (D : DkM) (ss : List Stp) (k : Nat) : DkM := (runS D (ss.take k)).2
theorem runS_pre : ∀ (a b : List Stp) (D : DkM), (runS D (a ++ b)).1 = 0 → (runS D a).1 = 0
 | [], b, D, _ => rfl
 | s :: r, b, D, h => by
  rw [List.cons_append, runS] at h
  rw [runS]
  by_cases e : s.E D = 0
  ·rw [if_pos e] at h ⊢
   exact runS_pre r b _ h
  ·rw [if_neg e] at h
   exact absurd h e
theorem stD_step {D : DkM} {ss : List Stp} (h : (runS D ss).1 = 0) {k : Nat} (hk : k < ss.length) : ss[k].E (stD D ss k) = 0 ∧ stD D ss (k + 1) = ss[k].D (stD D ss k) := by
 have h1 : (runS D (ss.take (k + 1))).1 = 0 := runS_pre _ (ss.drop (k + 1)) D (by rw [List.take_append_drop]; exact h)
 have h0 : (runS D (ss.take k)).1 = 0 := runS_pre _ (ss.drop k) D (by rw [List.take_append_drop]; exact h)
 have e1 : ss.take (k + 1) = ss.take k ++ [ss[k]] := by rw [List.take_add_one, List.getElem?_eq_getElem hk]; rfl
 have e2 : runS D (ss.take (k + 1)) = runS (stD D ss k) [ss[k]] := by rw [e1, runS_app _ _ _ h0, stD]
 rw [e2, runS] at h1
 by_cases e : ss[k].E (stD D ss k) = 0
 ·refine ⟨e, ?_⟩
  rw [stD, e2, runS, if_pos e]
  rfl
 ·rw [if_neg e] at h1
  exact absurd h1 e
theorem stD_zero (D : DkM) (ss : List Stp) : stD D ss 0 = D := rfl
theorem stD_end (D : DkM) (ss : List Stp) : stD D ss ss.length = (runS D ss).2 := by rw [stD, List.take_length]
end
end
section
open Go.RowKit
set_option maxRecDepth 100000
section
variable {w w' : World} {P : CaP} {O : List Nat} {M : CaM} {lo : Nat}
def ckM (M : CaM) (ss : List Stp) (k : Nat) : CaM := if k ≤ ss.length then { M with D := stD M.D ss k } else ⟨(resM (runS M.D ss).2 M.J).2.1, (resM (runS M.D ss).2 M.J).2.2, M.dirty⟩
set_option maxHeartbeats 1000000 in
theorem caSteps_any (h : CaW w P O M) {ss : List Stp} (h0 : (runS M.D ss).1 = 0) (hr0 : (resM (runS M.D ss).2 M.J).1 = 0) (ok : M.J.ok) (hK : KG w) {A : Option Addr} {n cap : Nat} {fs : List Value} (hc : CRow w 0 lo P (.slice A n cap) fs (ss.map .st ++ [.rs])) (hn : n = ss.length + 1) (hn4 : n ≤ 100000)
  (hlo : ∀ i ∈ P.own O, i < lo) (hA : ∀ g, (Value.slice A n cap).ownBlock = some g → lo ≤ g) (hz : 0 ∉ P.own O) (hu : ∀ x, (M.D.uns x).length + n + 2 ≤ 4398046511104) :
  Calls Tryz.prog 94 #[.pointer (some ⟨P.c, 0, none⟩), .slice A n cap] w fun e w' => e = .returned (.int .i64 0) ∧ AftC w P O ⟨(resM (runS M.D ss).2 M.J).2.1, (resM (runS M.D ss).2 M.J).2.2, M.dirty⟩ w' := by
 have hsl : (ss.map CSt.st ++ [CSt.rs]).length = n := by rw [List.length_append, List.length_map, hn]; rfl
 have hr := hc.row
 rw [hsl] at hr
 have hfl := hc.len
 rw [hsl] at hfl
 have hO0 : ∀ i ∈ O, i < lo := fun i hi => hlo i (by unfold CaP.own; simp [hi])
 have hlts := h.lts
 refine (caRun_any hr (by omega) (P.own O) (fun g hg hm => by have := hA g hg; have := hlo g hm; omega) (fun k w' => AftC w P O (ckM M ss k) w') (fun _ _ => False) (caState_any h) ?_ (fun k w' hp => hp.fr) ?_).mono ?_
 ·show AftC w P O (ckM M ss 0) w
  rw [ckM, if_pos (Nat.zero_le _), stD_zero]
  exact AftC.same h (Fr.refl _ _)
 ·intro k hk w' hp
  obtain ⟨O', hw', ho, f⟩ := id hp
  have hg' : P.g ∉ O' := hw'.nO.2.1
  have hun : ∀ x, ((stD M.D ss k).uns x).length ≤ (M.D.uns x).length + ss.length := fun x => by
   have := runS_uns (ss.take k) M.D x
   rw [List.length_take] at this
   show ((runS M.D (ss.take k)).2.uns x).length ≤ _
   omega
  have hst := hc.each k hk (by rw [hsl, ← hfl]; exact hk)
  by_cases hk2 : k < ss.length
  ·have e1 : (ss.map CSt.st ++ [CSt.rs])[k]'(by rw [hsl, ← hfl]; exact hk) = .st ss[k] := by
    rw [List.getElem_append_left (by rw [List.length_map]; exact hk2), List.getElem_map]
   rw [e1] at hst
   obtain ⟨d1, d2⟩ := stD_step h0 hk2
   have m1 : ckM M ss k = { M with D := stD M.D ss k } := if_pos (by omega)
   have m2 : ckM M ss (k + 1) = { M with D := ss[k].D (stD M.D ss k) } := by rw [ckM, if_pos (by omega), d2]
   rw [m1] at hw'
   rw [m2]
   obtain ⟨s, hs⟩ : ∃ s, ss[k] = s := ⟨_, rfl⟩
   rw [hs] at hst d1 ⊢
   cases s with
   | fl =>
    refine ⟨_, _, _, hst, enters_of Tryz.func112 (by kernel_rfl) rfl, ?_⟩
    rw [Array.append_empty]
    refine (dkFlush_any hw'.dsk).mono ?_
    rintro e w'' ⟨rfl, ha⟩
    exact .inl ⟨by rw [show (stD M.D ss k).flushE = 0 from d1], AftC.trans h ho f (hw'.disk ha)⟩
   | wr x l =>
    obtain ⟨g1, g2, g3, u, hv, k1, k2, k3, hb, l1, l2, l3⟩ := hst
    have hno : ∀ g, lo ≤ g → g < w.heap.size → g ∉ O' := fun g a b hm => by
     rcases ho g hm with h | h
     ·have := hO0 g h; omega
     ·omega
    have hnf : ∀ g, lo ≤ g → g ∉ P.own O := fun g a hm => by have := hlo g hm; omega
    refine ⟨_, _, _, hv, enters_of Tryz.func144 (by kernel_rfl) rfl, ?_⟩
    rw [Array.empty_append]
    refine (caCheck1_any hw' (k1.keep f (hnf _ l1)) (k2.keep f (hnf _ l2)) (k3.keep f (hnf _ l3)) (hb.keepT f h.no8) (by have := hun x; have := hu x; show ((stD M.D ss k).uns x).length ≤ _; omega) (hno _ l1 k1.lt) (hno _ l2 k2.lt) (hno _ l3 k3.lt)).mono ?_
    rintro e w'' ⟨rfl, ha⟩
    exact .inl ⟨by rw [show Stp.E (stD M.D ss k) (.wr x l) = 0 from d1], AftC.trans h ho f ha⟩
  ·obtain rfl : k = ss.length := by omega
   have e1 : (ss.map CSt.st ++ [CSt.rs])[ss.length]'(by rw [hsl, ← hfl]; exact hk) = .rs := by
    rw [List.getElem_append_right (by rw [List.length_map]; exact Nat.le_refl _)]
    simp
   rw [e1] at hst
   have m1 : ckM M ss ss.length = { M with D := (runS M.D ss).2 } := by rw [ckM, if_pos (Nat.le_refl _), stD_end]
   have m2 : ckM M ss (ss.length + 1) = ⟨(resM (runS M.D ss).2 M.J).2.1, (resM (runS M.D ss).2 M.J).2.2, M.dirty⟩ := if_neg (by omega)
   rw [m1] at hw'
   rw [m2]
   rw [stD_end] at hun
   refine ⟨_, _, _, hst, enters_of Tryz.func145 (by kernel_rfl) rfl, ?_⟩
   rw [Array.append_empty]
   refine (jnReset_any hw'.dsk hw'.jr hg' ok (hK.keepO f hz) (fun x => by have := hun x; have := hu x; show ((runS M.D ss).2.uns x).length + 2 ≤ _; omega)).mono ?_
   intro e w'' hj
   obtain ⟨he, ha⟩ := hw'.journal hj
   exact .inl ⟨by rw [he]; show Ending.returned (.int .i64 (resM (runS M.D ss).2 M.J).1) = _; rw [hr0], AftC.trans h ho f ha⟩
 ·rintro e w' (⟨he, hp⟩ | ⟨z, -, hq⟩)
  ·refine ⟨he, ?_⟩
   have m2 : ckM M ss n = ⟨(resM (runS M.D ss).2 M.J).2.1, (resM (runS M.D ss).2 M.J).2.2, M.dirty⟩ := if_neg (by omega)
   rw [m2] at hp
   exact hp
  ·exact hq.elim
end
end
end Go.Proofs.YtbanogfljpkbkaaGreatDoor
