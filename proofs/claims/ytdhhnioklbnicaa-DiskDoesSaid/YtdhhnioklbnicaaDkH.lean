/-
  Layer 10 (disk): Tamper.
-/
import Derived.Test.YtdhhnioklbnicaaDkG
set_option linter.unusedSimpArgs false
set_option linter.unusedVariables false
set_option linter.unnecessarySimpa false
namespace Go.Proofs.Ytdhhnioklbnicaa
open Go.RowKit
set_option maxRecDepth 100000

def DkM.delU (D : DkM) (x : Int) : DkM := { D with uns := fun y => if y = x then [] else D.uns y }
section
variable {w w' : World} {p : Nat} {O : List Nat} {D : DkM} {X : DkX}
/-- One block has no unsure writes any more. -/
theorem DskX.del (h : DskX w p O D X) {x : Int} (f : Fr [X.m] w w') (m : MapZ w' X.m 4096 (fdel X.f x)) : DskX w' p O (D.delU x) { X with f := fdel X.f x } := by
  have n8 := h.mT 5
  have hf : ∀ y u, fdel X.f x y = some u → y ≠ x ∧ X.f y = some u := fun y u hy => by
    unfold fdel at hy
    by_cases e : y = x
    · rw [if_pos e] at hy; cases hy
    · rw [if_neg e] at hy; exact ⟨e, hy⟩
  refine ⟨h.pO, h.gO, h.mO, h.blk.keep f (by simpa using fun e => h.mp e.symm), h.n1, h.row.keep f (fun g hg hm => ?_), fun i a b => (h.su i a b).keepT f n8, m, fun y => ?_, fun y v hy => ?_, fun y hy => ?_, fun y z u v hne hy hz => ?_, fun j hj cs fz hc => ?_, fun j hj => Nat.lt_of_lt_of_le (h.lt j hj) f.size, h.calls⟩
  · have : g = X.g := by simpa [Value.ownBlock] using hg.symm
    exact h.mg (by rw [← this]; exact (List.mem_singleton.1 hm).symm)
  · show fdel X.f x y = none ↔ (if y = x then [] else D.uns y) = []
    unfold fdel
    by_cases e : y = x
    · rw [if_pos e, if_pos e]; simp
    · rw [if_neg e, if_neg e]; exact h.iff y
  · obtain ⟨e, hy2⟩ := hf y v hy
    show UR w' v (if y = x then [] else D.uns y) ∧ _
    rw [if_neg e]
    obtain ⟨h1, g, h2, h3, h4⟩ := h.un y v hy2
    exact ⟨h1.keep f n8 (fun g' hg' hm => by rw [List.mem_singleton.1 hm] at hg'; exact (h.um hy2).1 hg'), g, h2, h3, h4⟩
  · replace hy : (if y = x then [] else D.uns y) ≠ [] := hy
    by_cases e : y = x
    · rw [if_pos e] at hy; exact absurd rfl hy
    · rw [if_neg e] at hy; exact h.rng y hy
  · exact h.apart y z u v hne (hf y u hy).2 (hf z v hz).2
  · by_cases e2 : j = X.m
    · obtain ⟨D4, ⟨es, clock, hb, _⟩, _⟩ := m
      rw [e2, hb] at hc
      cases hc
    · rw [f.same j (h.lt j hj) (by simpa using e2)] at hc
      exact h.no8 j hj cs fz hc
def DkM.tamper (D : DkM) (x : Int) (b : List UInt8) : DkM := if D.mayE x b.length ≠ 0 then D else { D with sure := D.sure.set x.toNat (some b), uns := fun y => if y = x then [] else D.uns y }
theorem dkTamper_nil (w : World) (x : Int) (A : Option Addr) (n c : Nat) : Calls Try.prog 22 #[.pointer none, .int .i64 x, .slice A n c] w fun e w' => e = .returned (.int .i64 6) ∧ w = w' := by
  go_enter Try.func22, Try.ntmps22
  go_wp2_with fail
  refine (dkMay_nil w x _).mono ?_
  rintro e w4 ⟨rfl, rfl⟩
  go_wp2_with fail
  go_ret
  exact ⟨rfl, rfl⟩
set_option maxHeartbeats 1000000 in
theorem dkTamper_any (h : Dsk w p O D) (x : Int) (A : Option Addr) (n c : Nat) (b : List UInt8) (hb : b.length = n) (rd : Rd w A (bvs b)) (hA : A = none → n = 0) :
    Calls Try.prog 22 #[.pointer (some ⟨p, 0, none⟩), .int .i64 x, .slice A n c] w fun e w' => e = .returned (.int .i64 (D.mayE x n)) ∧ AftD w p O (D.tamper x b) w' := by
  have HB := Lib.hid hb
  have cm := dkMay_any h x A n c
  by_cases hm : D.mayE x n = 0
  · obtain ⟨hx, rfl⟩ := DkM.may0 hm
    rw [hm] at cm
    have HM := Lib.hid hm
    have HT := Lib.hid (show D.tamper x b = { D with sure := D.sure.set x.toNat (some b), uns := fun y => if y = x then [] else D.uns y } by rw [DkM.tamper, hb, if_neg (by simpa using hm)])
    obtain ⟨X, h⟩ := h
    have c0 := h.c0
    have c1 := h.c1
    have wf := DkM.wf_is h hx
    obtain ⟨hx0, hx1⟩ := DkM.is_iff.1 hx
    obtain ⟨k, rfl⟩ : ∃ k : Nat, x = k := ⟨x.toNat, by omega⟩
    have hk : k < D.sure.length := by omega
    obtain ⟨N, hN⟩ : ∃ N, D.sure.length = N := ⟨_, rfl⟩
    rw [hN] at c0 hk
    have HK := Lib.hid (And.intro hN hk)
    have HH := Lib.hid h
    clear hb hm hx h hN hx0 hx1
    go_enter Try.func22, Try.ntmps22
    go_wp2_with fail
    refine cm.mono ?_
    rintro e w1 ⟨rfl, rfl⟩
    clear cm
    go_upto_region 4 with fail
    have fz := (Fr.refl [] w).drew
    obtain ⟨w1, hw1⟩ : ∃ w1, w.drew = w1 := ⟨_, rfl⟩
    rw [hw1] at fz
    refine wp_region_held_drew (S := fun w' => w'.cell? ⟨p, 0, none⟩ = some (.slice (some ⟨X.g, 0, none⟩) N X.c)) (by kernel_rfl) (by rw [hw1]; exact fz.cell (by simp) c0) (fun hHeld => ?_)
    rw [hw1] at hHeld ⊢
    clear hw1
    refine take_w 0 (some 15) (v := ?_) rfl rfl (by kernel_rfl) (by kernel_rfl) (by kernel_rfl) (fun _ _ _ h => h) (by rfl) ?_ hHeld ?_
    rotate_left
    · (intro w hSw; (try dsimp only at hSw); go_simp; try with_reducible rfl)
    simp only [Act.put, List.setIfInBounds_toArray, List.set_cons_zero, List.set_cons_succ]
    refine take_w 1 (some 16) (v := ?_) rfl rfl (by kernel_rfl) (by kernel_rfl) (by kernel_rfl) (fun _ _ _ h => h) (by rfl) ?_ hHeld ?_
    rotate_left
    · (intro w hSw; (try dsimp only at hSw); go_simp; try with_reducible rfl)
    simp only [Act.put, List.setIfInBounds_toArray, List.set_cons_zero, List.set_cons_succ]
    refine take_w 2 (some 17) (v := ?_) rfl rfl (by kernel_rfl) (by kernel_rfl) (by kernel_rfl) (fun _ _ _ h => h) (by rfl) ?_ hHeld ?_
    rotate_left
    · (intro w hSw; (try dsimp only at hSw); go_simp; try with_reducible rfl)
    simp only [Act.put, List.setIfInBounds_toArray, List.set_cons_zero, List.set_cons_succ]
    refine take_w 3 (some 18) (v := ?_) rfl rfl (by kernel_rfl) (by kernel_rfl) (by kernel_rfl) (fun _ _ _ h => h) (by rfl) ?_ hHeld ?_
    rotate_left
    · (intro w hSw; (try dsimp only at hSw); go_simp; try with_reducible rfl)
    simp only [Act.put, List.setIfInBounds_toArray, List.set_cons_zero, List.set_cons_succ]
    refine take_w 4 (some 19) (v := ?_) rfl rfl (by kernel_rfl) (by kernel_rfl) (by kernel_rfl) (fun _ _ _ h => h) (by rfl) ?_ hHeld ?_
    rotate_left
    · (intro w hSw; (try dsimp only at hSw); go_simp; try with_reducible rfl)
    simp only [Act.put, List.setIfInBounds_toArray, List.set_cons_zero, List.set_cons_succ]
    refine take_w 5 (some 20) (v := ?_) rfl rfl (by kernel_rfl) (by kernel_rfl) (by kernel_rfl) (fun _ _ _ h => h) (by rfl) ?_ hHeld ?_
    rotate_left
    · (intro w hSw; (try dsimp only at hSw); go_simp; try with_reducible rfl)
    simp only [Act.put, List.setIfInBounds_toArray, List.set_cons_zero, List.set_cons_succ]
    refine take_c 6 rfl (by kernel_rfl) (by rfl) (fun K hK => ?_)
    go_simp
    refine (clone_any A b 512 c w1 HB.out (rd.keep_nil fz) hA (by omega)).mono ?_
    rintro e w2 ⟨v2, rfl, r2, f2⟩
    obtain ⟨A2, c2, rfl, -, -, -, -, -⟩ := r2.shape
    have f02 := fz.trans_nil f2
    have h2 := HH.out.keep_nil f02
    have srow := h2.row
    rw [HK.out.1] at srow
    obtain ⟨x0, y0, -⟩ := srow.setD k hk .nilFunc
    have hvk : k < X.vs.length := by have := srow.1; omega
    rw [List.getElem?_eq_getElem hvk] at x0
    have hset := h2.setS (i := k) (by rw [HK.out.1]; exact hk) (v := .slice A2 512 c2) (s := some b) ⟨HB.out, r2.mono (Nat.zero_le _)⟩
    have fs : Fr [X.g] w2 (w2.setCell ⟨X.g, k, none⟩ (.slice A2 512 c2)) := (Fr.refl [X.g] w2).setCell (.inl (by simp)) _
    refine hK.out _ _ (f2.cell (by simp) hHeld) (fun hHx => ?_)
    clear hHeld
    have hHeld := hHx
    clear hHx
    clear hK K
    try simp only [Act.put, List.setIfInBounds_toArray, List.set_cons_zero, List.set_cons_succ]
    refine take_w 7 (some 22) (v := ?_) rfl rfl (by kernel_rfl) (by kernel_rfl) (by kernel_rfl) (fun _ _ _ h => h) (by rfl) ?_ hHeld ?_
    rotate_left
    · (intro w hSw; (try dsimp only at hSw); go_simp; try with_reducible rfl)
    simp only [Act.put, List.setIfInBounds_toArray, List.set_cons_zero, List.set_cons_succ]
    refine take_cd 8 none rfl rfl (by kernel_rfl) (by rfl) (fun K hK => ?_)
    refine wp_st1 rfl (by kernel_rfl) X.g k rfl (.slice A2 512 c2) rfl rfl rfl x0 y0 ?_
    refine hK _ _ (fs.cell (by simpa using h2.pg) hHeld) (fun hHx => ?_)
    clear hHx hHeld
    have HS := Lib.hid hset
    have c1s := hset.c1
    have mz := hset.map
    have F3 : Fr O w (w2.setCell ⟨X.g, k, none⟩ (.slice A2 512 c2)) := (f02.mono (by simp)).trans fs (fun i hi => .inl (by rw [List.mem_singleton.1 hi]; exact HH.out.gO))
    generalize w2.setCell ⟨X.g, k, none⟩ (.slice A2 512 c2) = w3 at *
    clear srow x0 y0 fs h2 hset
    clear hK K
    try simp only [Act.put, List.setIfInBounds_toArray, List.set_cons_zero, List.set_cons_succ]
    refine wpAnyH_done (by kernel_rfl) ?_ _
    go_wp2_with (refine wpList_delZ rfl rfl Try.underlying73 rfl mz _ rfl wf ?_; intro w4 m4 f4 s4)
    have hd := HS.out.del f4 m4
    have FIN : AftD w p O (D.tamper k b) w4 := by
      rw [HT.out]
      exact ⟨O, ⟨_, hd⟩, fun i hi => .inl hi, F3.trans f4 (fun i hi => .inl (by rw [List.mem_singleton.1 hi]; exact HH.out.mO))⟩
    have HF := Lib.hid FIN
    clear FIN hd
    go_ret
    exact ⟨by rw [HM.out]; rfl, HF.out⟩
  · have HT := Lib.hid (show D = D.tamper x b by rw [DkM.tamper, hb, if_pos hm])
    obtain ⟨k, hk⟩ : ∃ k, D.mayE x n = k := ⟨_, rfl⟩
    rw [hk] at hm cm
    have d : (k != 0) = true := by simp only [bne_iff_ne]; exact hm
    have HK := Lib.hid hk
    have FIN := Lib.hid ((AftD.same h).eq HT.out)
    clear hb hm hk h
    go_enter Try.func22, Try.ntmps22
    go_wp2_with fail
    refine cm.mono ?_
    rintro e w1 ⟨rfl, rfl⟩
    clear cm
    go_wp2_with fail
    go_ret
    exact ⟨by rw [HK.out]; rfl, FIN.out⟩
end
end Go.Proofs.Ytdhhnioklbnicaa
