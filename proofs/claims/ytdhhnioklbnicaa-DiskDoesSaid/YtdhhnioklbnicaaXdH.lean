/-
  Layer 10: a disk and the reference's; looks.
-/
import Derived.Test.YtdhhnioklbnicaaXdF
import Derived.Test.YtdhhnioklbnicaaXdG
import Derived.Test.YtdhhnioklbnicaaDkSa
set_option linter.unusedSimpArgs false
set_option linter.unusedVariables false
set_option linter.unnecessarySimpa false
namespace Go.Proofs.Ytdhhnioklbnicaa
open Go.RowKit
set_option maxRecDepth 100000

theorem Xdk.no8s {w : World} {p : Nat} {O : List Nat} {D : DkM} (h : Xdk w p O D) : NoTy w O 5 := by obtain ⟨X, h⟩ := h; exact h.no8
theorem Xdk.lts {w : World} {p : Nat} {O : List Nat} {D : DkM} (h : Xdk w p O D) : ∀ i ∈ O, i < w.heap.size := by obtain ⟨X, h⟩ := h; exact h.lt
/-- A disk and a reference's disk, both made behind w. -/
def TX (w w' : World) (p : Nat) (D : DkM) (q : Nat) (E : DkM) : Prop := ∃ O1 O2, Dsk w' p O1 D ∧ Xdk w' q O2 E ∧ (∀ i ∈ O1, w.heap.size ≤ i) ∧ (∀ i ∈ O2, w.heap.size ≤ i) ∧ (∀ i ∈ O1, i ∉ O2) ∧ Fr [] w w'
section
variable {w w1 w2 : World} {p q : Nat} {D D' E E' : DkM}
theorem TX.fr (h : TX w w1 p D q E) : Fr [] w w1 := by obtain ⟨_, _, _, _, _, _, _, f⟩ := h; exact f
theorem TX.keep (h : TX w w1 p D q E) (f : Fr [] w1 w2) : TX w w2 p D q E := by
  obtain ⟨O1, O2, h1, h2, h3, h4, h5, h6⟩ := h
  exact ⟨O1, O2, h1.keep_nil f, h2.keep_nil f, h3, h4, h5, h6.trans_nil f⟩
theorem TX.fst (h : TX w w1 p D q E) : ∃ O, Dsk w1 p O D := by obtain ⟨O1, O2, h1, _⟩ := h; exact ⟨O1, h1⟩
theorem TX.snd (h : TX w w1 p D q E) : ∃ O, Xdk w1 q O E := by obtain ⟨O1, O2, _, h2, _⟩ := h; exact ⟨O2, h2⟩
theorem TX.aftD {O1 O2 : List Nat} (h1 : Dsk w1 p O1 D) (h2 : Xdk w1 q O2 E) (h3 : ∀ i ∈ O1, w.heap.size ≤ i) (h4 : ∀ i ∈ O2, w.heap.size ≤ i) (h5 : ∀ i ∈ O1, i ∉ O2) (h6 : Fr [] w w1) (ha : AftD w1 p O1 D' w2) : TX w w2 p D' q E := by
  obtain ⟨O', k1, k2, k3⟩ := ha
  refine ⟨O', O2, k1, h2.keep k3 (fun i hi hm => h5 i hm hi), fun i hi => ?_, h4, fun i hi hm => ?_, h6.trans k3 (fun i hi => .inr (h3 i hi))⟩
  · rcases k2 i hi with h | h
    · exact h3 i h
    · exact Nat.le_trans h6.size h
  · rcases k2 i hi with h | h
    · exact h5 i h hm
    · have := h2.lts i hm; omega
theorem TX.aftX {O1 O2 : List Nat} (h1 : Dsk w1 p O1 D) (h2 : Xdk w1 q O2 E) (h3 : ∀ i ∈ O1, w.heap.size ≤ i) (h4 : ∀ i ∈ O2, w.heap.size ≤ i) (h5 : ∀ i ∈ O1, i ∉ O2) (h6 : Fr [] w w1) (ha : AftX w1 q O2 E' w2) : TX w w2 p D q E' := by
  obtain ⟨O', k1, k2, k3⟩ := ha
  refine ⟨O1, O', h1.keep k3 h5 h2.no8s, k1, h3, fun i hi => ?_, fun i hi hm => ?_, h6.trans k3 (fun i hi => .inr (h4 i hi))⟩
  · rcases k2 i hi with h | h
    · exact h4 i h
    · exact Nat.le_trans h6.size h
  · rcases k2 i hm with h | h
    · exact h5 i hi h
    · have := h1.lts i hi; omega
/-- A call on the disk. -/
theorem TX.dC (h : TX w w1 p D q E) {f : FuncId} {args : Array Value} {R : Ending → Prop} (hc : ∀ O, Dsk w1 p O D → Calls Try.prog f args w1 fun e w' => R e ∧ AftD w1 p O D' w') : Calls Try.prog f args w1 fun e w' => R e ∧ TX w w' p D' q E := by
  obtain ⟨O1, O2, h1, h2, h3, h4, h5, h6⟩ := h
  exact (hc O1 h1).mono fun e w' ⟨he, ha⟩ => ⟨he, TX.aftD h1 h2 h3 h4 h5 h6 ha⟩
/-- A call on the reference's disk. -/
theorem TX.xC (h : TX w w1 p D q E) {f : FuncId} {args : Array Value} {R : Ending → Prop} (hc : ∀ O, Xdk w1 q O E → (∀ i ∈ O, w.heap.size ≤ i) → Calls Try.prog f args w1 fun e w' => R e ∧ AftX w1 q O E' w') : Calls Try.prog f args w1 fun e w' => R e ∧ TX w w' p D q E' := by
  obtain ⟨O1, O2, h1, h2, h3, h4, h5, h6⟩ := h
  exact (hc O2 h2 h4).mono fun e w' ⟨he, ha⟩ => ⟨he, TX.aftX h1 h2 h3 h4 h5 h6 ha⟩
end
theorem kcells_0 (ps : List (Int × Int)) (i : Nat) (h : i < ps.length) : (kcells ps)[i * 2]? = some (.int .i64 ps[i].1) ∧ (kcells ps)[i * 2 + 1]? = some (.int .i64 ps[i].2) := by
  induction ps generalizing i with
  | nil => cases h
  | cons p r ih =>
    cases i with
    | zero => exact ⟨rfl, rfl⟩
    | succ i =>
      have e : kcells (p :: r) = .int .i64 p.1 :: .int .i64 p.2 :: kcells r := rfl
      obtain ⟨h1, h2⟩ := ih i (by simpa using h)
      rw [e]
      refine ⟨?_, ?_⟩
      · rw [show (i + 1) * 2 = i * 2 + 1 + 1 by omega, List.getElem?_cons_succ, List.getElem?_cons_succ, h1]; rfl
      · rw [show (i + 1) * 2 + 1 = i * 2 + 1 + 1 + 1 by omega, List.getElem?_cons_succ, List.getElem?_cons_succ, h2]; rfl
theorem kcells_row {w : World} {B : Nat} {A : Option Addr} {n c : Nat} {ks : List (Int × Int)} (h : Row w B 77 2 (.slice A n c) ks.length (kcells ks)) (i : Nat) (hi : i < ks.length) : ∃ g, A = some ⟨g, 0, none⟩ ∧ w.cell? ⟨g, i * 2, none⟩ = some (.int .i64 ks[i].1) ∧ w.cell? ⟨g, i * 2 + 1, none⟩ = some (.int .i64 ks[i].2) := by
  obtain ⟨g, c', e⟩ := h.hdD (by omega)
  obtain ⟨g', o', e', hc⟩ := h.rdD.1 (by intro h0; have := kcells_len ks; rw [h0] at this; simp at this; omega)
  cases e
  cases e'
  obtain ⟨k1, k2⟩ := kcells_0 ks i hi
  exact ⟨g, rfl, by have := hc _ _ k1; rwa [Nat.zero_add] at this, by have := hc _ _ k2; rwa [Nat.zero_add] at this⟩
section
variable {w w' : World} {p q : Nat} {O O2 : List Nat} {D : DkM}
set_option maxHeartbeats 4000000 in
theorem dkLooks_any (hd : Dsk w p O D) (hx : Xdk w q O2 D) : Calls Try.prog 20 #[.pointer (some ⟨p, 0, none⟩), .pointer (some ⟨q, 0, none⟩)] w fun e w' => e = .returned (.bool true) ∧ Fr [] w w' := by
  obtain ⟨X, hx⟩ := hx
  obtain ⟨n, hn⟩ : ∃ n, D.sure.length = n := ⟨_, rfl⟩
  have HN := Lib.hid hn
  have hn1 := hx.n1.2
  rw [hn] at hn1
  clear hn
  have cu := dkUnsure_any hd
  have HD := Lib.hid hd
  have HX := Lib.hid hx
  clear hd hx
  go_enter Try.func20, Try.ntmps20
  go_wp2_with fail
  refine cu.mono ?_
  rintro e w1 ⟨v1, rfl, r1, f1⟩
  clear cu
  have cx := xdUnsure_any ⟨X, HX.out.keep_nil f1⟩
  go_wp2_with fail
  refine cx.mono ?_
  rintro e w2 ⟨v2, rfl, r2, f2⟩
  clear cx
  obtain ⟨L, hL⟩ : ∃ L, D.unsL = L := ⟨_, rfl⟩
  rw [hL] at r1 r2
  obtain ⟨m, hm⟩ : ∃ m, L.length = m := ⟨_, rfl⟩
  have R1 := r1.keep_nil f2
  have R2 := r2
  rw [hm] at R1 R2
  obtain ⟨A1, c1, rfl, -, hc1, -, -, -⟩ := R1.shape
  obtain ⟨A2, c2, rfl, -, -, -, -, -⟩ := R2.shape
  have hm64 : m ≤ 9223372036854775807 := by obtain ⟨_, _, _, h1, h2, -⟩ := R1.shape; unfold maxLen at h2; omega
  rw [← hm] at R1 R2
  have HR := Lib.hid (And.intro R1 R2)
  have HM := Lib.hid hm
  have F2 := Lib.hid (f1.trans_nil f2)
  clear hL r1 r2 R1 R2 f1 f2 hc1 hm
  go_upto_region 2 with fail
  obtain ⟨wD, hwD⟩ : ∃ wD, w2.drew = wD := ⟨_, rfl⟩
  have fD : Fr [] w2 wD := by rw [← hwD]; exact (Fr.refl [] w2).drew
  have FD := Lib.hid (F2.out.trans_nil fD)
  have HR := Lib.hid (And.intro (HR.out.1.keep_nil fD) (HR.out.2.keep_nil fD))
  have HDD := Lib.hid (HD.out.keep_nil FD.out)
  have HXX := Lib.hid (HX.out.keep_nil FD.out)
  have cD := HXX.out.c0
  rw [HN.out] at cD
  refine wp_region_held_drew (S := fun w' => w'.cell? ⟨q, 0, none⟩ = some (.slice (some ⟨X.g, 0, none⟩) n X.c)) (by kernel_rfl) (by rw [hwD]; exact cD) (fun hHeld => ?_)
  rw [hwD] at hHeld ⊢
  clear hwD fD cD
  have cl := dkLen_any HDD.out
  rw [HN.out] at cl
  have co := dkOff_any HDD.out
  have cxo := xdOff_any ⟨X, HXX.out⟩
  obtain ⟨b, hb⟩ : ∃ b, D.off = b := ⟨_, rfl⟩
  rw [hb] at co cxo
  clear hb
  refine take_w 0 (some 13) (v := ?_) rfl rfl (by kernel_rfl) (by kernel_rfl) (by kernel_rfl) (fun _ _ _ h => h) (by rfl) ?_ hHeld ?_
  rotate_left
  · (intro w hSw; (try dsimp only at hSw); go_simp; try with_reducible rfl)
  simp only [Act.put, List.setIfInBounds_toArray, List.set_cons_zero, List.set_cons_succ]
  refine take_w 2 (some 15) (v := ?_) rfl rfl (by kernel_rfl) (by kernel_rfl) (by kernel_rfl) (fun _ _ _ h => h) (by rfl) ?_ hHeld ?_
  rotate_left
  · (intro w hSw; (try dsimp only at hSw); go_simp; try with_reducible rfl)
  simp only [Act.put, List.setIfInBounds_toArray, List.set_cons_zero, List.set_cons_succ]
  refine take_w 3 (some 16) (v := ?_) rfl rfl (by kernel_rfl) (by kernel_rfl) (by kernel_rfl) (fun _ _ _ h => h) (by rfl) ?_ hHeld ?_
  rotate_left
  · (intro w hSw; (try dsimp only at hSw); go_simp; try with_reducible rfl)
  simp only [Act.put, List.setIfInBounds_toArray, List.set_cons_zero, List.set_cons_succ]
  refine take_w 4 (some 17) (v := ?_) rfl rfl (by kernel_rfl) (by kernel_rfl) (by kernel_rfl) (fun _ _ _ h => h) (by rfl) ?_ hHeld ?_
  rotate_left
  · (intro w hSw; (try dsimp only at hSw); go_simp; try with_reducible rfl)
  simp only [Act.put, List.setIfInBounds_toArray, List.set_cons_zero, List.set_cons_succ]
  refine take_w 5 (some 18) (v := ?_) rfl rfl (by kernel_rfl) (by kernel_rfl) (by kernel_rfl) (fun _ _ _ h => h) (by rfl) ?_ hHeld ?_
  rotate_left
  · (intro w hSw; (try dsimp only at hSw); go_simp; try with_reducible rfl)
  simp only [Act.put, List.setIfInBounds_toArray, List.set_cons_zero, List.set_cons_succ]
  refine take_w 6 (some 19) (v := ?_) rfl rfl (by kernel_rfl) (by kernel_rfl) (by kernel_rfl) (fun _ _ _ h => h) (by rfl) ?_ hHeld ?_
  rotate_left
  · (intro w hSw; (try dsimp only at hSw); go_simp; try with_reducible rfl)
  simp only [Act.put, List.setIfInBounds_toArray, List.set_cons_zero, List.set_cons_succ]
  refine take_c 1 rfl (by kernel_rfl) (by rfl) (fun K hK => ?_)
  go_simp
  refine (cl).mono ?_
  rintro e w' ⟨rfl, rfl⟩
  refine hK.out _ _ hHeld (fun hHn => ?_)
  clear hHn
  clear hK K
  try simp only [Act.put, List.setIfInBounds_toArray, List.set_cons_zero, List.set_cons_succ]
  refine take_w 7 (some 20) (v := ?_) rfl rfl (by kernel_rfl) (by kernel_rfl) (by kernel_rfl) (fun _ _ _ h => h) (by rfl) ?_ hHeld ?_
  rotate_left
  · (intro w hSw; (try dsimp only at hSw); go_simp; try with_reducible rfl)
  simp only [Act.put, List.setIfInBounds_toArray, List.set_cons_zero, List.set_cons_succ]
  refine take_w 8 (some 21) (v := ?_) rfl rfl (by kernel_rfl) (by kernel_rfl) (by kernel_rfl) (fun _ _ _ h => h) (by rfl) ?_ hHeld ?_
  rotate_left
  · (intro w hSw; (try dsimp only at hSw); go_simp; try with_reducible rfl)
  simp only [Act.put, List.setIfInBounds_toArray, List.set_cons_zero, List.set_cons_succ]
  refine take_w 9 (some 22) (v := ?_) rfl rfl (by kernel_rfl) (by kernel_rfl) (by kernel_rfl) (fun _ _ _ h => h) (by rfl) ?_ hHeld ?_
  rotate_left
  · (intro w hSw; (try dsimp only at hSw); go_simp; try with_reducible rfl)
  simp only [Act.put, List.setIfInBounds_toArray, List.set_cons_zero, List.set_cons_succ]
  refine take_w 11 (some 24) (v := ?_) rfl rfl (by kernel_rfl) (by kernel_rfl) (by kernel_rfl) (fun _ _ _ h => h) (by rfl) ?_ hHeld ?_
  rotate_left
  · (intro w hSw; (try dsimp only at hSw); go_simp; try with_reducible rfl)
  simp only [Act.put, List.setIfInBounds_toArray, List.set_cons_zero, List.set_cons_succ]
  refine take_c 10 rfl (by kernel_rfl) (by rfl) (fun K hK => ?_)
  go_simp
  refine (co).mono ?_
  rintro e w' ⟨rfl, rfl⟩
  refine hK.out _ _ hHeld (fun hHn => ?_)
  clear hHn
  clear hK K
  try simp only [Act.put, List.setIfInBounds_toArray, List.set_cons_zero, List.set_cons_succ]
  refine take_c 12 rfl (by kernel_rfl) (by rfl) (fun K hK => ?_)
  go_simp
  refine (cxo).mono ?_
  rintro e w' ⟨rfl, rfl⟩
  refine hK.out _ _ hHeld (fun hHn => ?_)
  clear hHn
  clear hK K
  try simp only [Act.put, List.setIfInBounds_toArray, List.set_cons_zero, List.set_cons_succ]
  refine take_w 13 (some 26) (v := ?_) rfl rfl (by kernel_rfl) (by kernel_rfl) (by kernel_rfl) (fun _ _ _ h => h) (by rfl) ?_ hHeld ?_
  rotate_left
  · (intro w hSw; (try dsimp only at hSw); go_simp; try with_reducible rfl)
  simp only [Act.put, List.setIfInBounds_toArray, List.set_cons_zero, List.set_cons_succ]
  refine take_w 14 (some 27) (v := ?_) rfl rfl (by kernel_rfl) (by kernel_rfl) (by kernel_rfl) (fun _ _ _ h => h) (by rfl) ?_ hHeld ?_
  rotate_left
  · (intro w hSw; (try dsimp only at hSw); go_simp; try with_reducible rfl)
  simp only [Act.put, List.setIfInBounds_toArray, List.set_cons_zero, List.set_cons_succ]
  refine take_w 15 (some 28) (v := ?_) rfl rfl (by kernel_rfl) (by kernel_rfl) (by kernel_rfl) (fun _ _ _ h => h) (by rfl) ?_ hHeld ?_
  rotate_left
  · (intro w hSw; (try dsimp only at hSw); go_simp; try with_reducible rfl)
  simp only [Act.put, List.setIfInBounds_toArray, List.set_cons_zero, List.set_cons_succ]
  refine take_w 16 (some 29) (v := ?_) rfl rfl (by kernel_rfl) (by kernel_rfl) (by kernel_rfl) (fun _ _ _ h => h) (by rfl) ?_ hHeld ?_
  rotate_left
  · (intro w hSw; (try dsimp only at hSw); go_simp; try with_reducible rfl)
  simp only [Act.put, List.setIfInBounds_toArray, List.set_cons_zero, List.set_cons_succ]
  refine take_w 17 (some 30) (v := ?_) rfl rfl (by kernel_rfl) (by kernel_rfl) (by kernel_rfl) (fun _ _ _ h => h) (by rfl) ?_ hHeld ?_
  rotate_left
  · (intro w hSw; (try dsimp only at hSw); go_simp; try with_reducible rfl)
  simp only [Act.put, List.setIfInBounds_toArray, List.set_cons_zero, List.set_cons_succ]
  refine take_w 18 (some 31) (v := ?_) rfl rfl (by kernel_rfl) (by kernel_rfl) (by kernel_rfl) (fun _ _ _ h => h) (by rfl) ?_ hHeld ?_
  rotate_left
  · (intro w hSw; (try dsimp only at hSw); go_simp; try with_reducible rfl)
  simp only [Act.put, List.setIfInBounds_toArray, List.set_cons_zero, List.set_cons_succ]
  refine take_w 19 (some 32) (v := ?_) rfl rfl (by kernel_rfl) (by kernel_rfl) (by kernel_rfl) (fun _ _ _ h => h) (by rfl) ?_ hHeld ?_
  rotate_left
  · (intro w hSw; (try dsimp only at hSw); go_simp; try with_reducible rfl)
  simp only [Act.put, List.setIfInBounds_toArray, List.set_cons_zero, List.set_cons_succ]
  refine take_w 20 (some 33) (v := ?_) rfl rfl (by kernel_rfl) (by kernel_rfl) (by kernel_rfl) (fun _ _ _ h => h) (by rfl) ?_ hHeld ?_
  rotate_left
  · (intro w hSw; (try dsimp only at hSw); go_simp; try with_reducible rfl)
  simp only [Act.put, List.setIfInBounds_toArray, List.set_cons_zero, List.set_cons_succ]
  refine take_w 21 (some 34) (v := ?_) rfl rfl (by kernel_rfl) (by kernel_rfl) (by kernel_rfl) (fun _ _ _ h => h) (by rfl) ?_ hHeld ?_
  rotate_left
  · (intro w hSw; (try dsimp only at hSw); go_simp; try with_reducible rfl)
  simp only [Act.put, List.setIfInBounds_toArray, List.set_cons_zero, List.set_cons_succ]
  refine wpAnyH_done (by kernel_rfl) ?_ _
  clear hHeld cl co cxo
  go_wp2_with fail
  go_loopw [7] (fun i wr => ∃ k : Nat, k ≤ m ∧ i = .int .i64 k ∧ Fr [] wD wr) (fun i _ => m - (intOf i).toNat)
  case atStart => exact ⟨0, by omega, rfl, Fr.refl _ _⟩
  case round =>
    obtain ⟨k, hkm, rfl, F⟩ := hrel
    by_cases hlt : k < m
    · have d0 : (k : Int) < m := by omega
      have hkL : k < L.length := by rw [HM.out]; exact hlt
      obtain ⟨g1, rfl, a0, a1⟩ := kcells_row HR.out.1 k hkL
      obtain ⟨g2, rfl, b0, b1⟩ := kcells_row HR.out.2 k hkL
      obtain ⟨x, hx⟩ : ∃ x, L[k].1 = x := ⟨_, rfl⟩
      obtain ⟨y, hy⟩ : ∃ y, L[k].2 = y := ⟨_, rfl⟩
      rw [hx] at a0 b0
      rw [hy] at a1 b1
      clear hx hy hkL
      go_upto_region 7 with fail
      obtain ⟨wE, hwE⟩ : ∃ wE, wr.drew = wE := ⟨_, rfl⟩
      have fE : Fr [] wr wE := by rw [← hwE]; exact (Fr.refl [] wr).drew
      replace F := F.trans_nil fE
      replace a0 := F.cell (by simp) a0
      replace a1 := F.cell (by simp) a1
      replace b0 := F.cell (by simp) b0
      replace b1 := F.cell (by simp) b1
      refine wp_region_held_drew (S := fun w' => w'.cell? ⟨g1, k * 2, none⟩ = some (.int .i64 x) ∧ w'.cell? ⟨g1, k * 2 + 1, none⟩ = some (.int .i64 y) ∧ w'.cell? ⟨g2, k * 2, none⟩ = some (.int .i64 x) ∧ w'.cell? ⟨g2, k * 2 + 1, none⟩ = some (.int .i64 y)) (by kernel_rfl) (by rw [hwE]; exact ⟨a0, a1, b0, b1⟩) (fun hHeld => ?_)
      rw [hwE] at hHeld ⊢
      clear hwE fE a0 a1 b0 b1
      refine take_w 0 (some 41) (v := ?_) rfl rfl (by kernel_rfl) (by kernel_rfl) (by kernel_rfl) (fun _ _ _ h => h) (by rfl) ?_ hHeld ?_
      rotate_left
      · (intro w hSw; (try dsimp only at hSw); go_simp; try with_reducible rfl)
      simp only [Act.put, List.setIfInBounds_toArray, List.set_cons_zero, List.set_cons_succ]
      refine take_w 1 (some 42) (v := ?_) rfl rfl (by kernel_rfl) (by kernel_rfl) (by kernel_rfl) (fun _ _ _ h => h) (by rfl) ?_ hHeld ?_
      rotate_left
      · (intro w hSw; (try dsimp only at hSw); go_simp; try with_reducible rfl)
      simp only [Act.put, List.setIfInBounds_toArray, List.set_cons_zero, List.set_cons_succ]
      refine take_w 2 (some 43) (v := ?_) rfl rfl (by kernel_rfl) (by kernel_rfl) (by kernel_rfl) (fun _ _ _ h => h) (by rfl) ?_ hHeld ?_
      rotate_left
      · (intro w hSw; (try dsimp only at hSw); go_simp; try with_reducible rfl)
      simp only [Act.put, List.setIfInBounds_toArray, List.set_cons_zero, List.set_cons_succ]
      refine take_w 3 (some 44) (v := ?_) rfl rfl (by kernel_rfl) (by kernel_rfl) (by kernel_rfl) (fun _ _ _ h => h) (by rfl) ?_ hHeld ?_
      rotate_left
      · (intro w hSw; (try dsimp only at hSw); go_simp; try with_reducible rfl)
      simp only [Act.put, List.setIfInBounds_toArray, List.set_cons_zero, List.set_cons_succ]
      refine take_w 4 (some 45) (v := ?_) rfl rfl (by kernel_rfl) (by kernel_rfl) (by kernel_rfl) (fun _ _ _ h => h) (by rfl) ?_ hHeld ?_
      rotate_left
      · (intro w hSw; (try dsimp only at hSw); go_simp; try with_reducible rfl)
      simp only [Act.put, List.setIfInBounds_toArray, List.set_cons_zero, List.set_cons_succ]
      refine take_w 5 (some 46) (v := ?_) rfl rfl (by kernel_rfl) (by kernel_rfl) (by kernel_rfl) (fun _ _ _ h => h) (by rfl) ?_ hHeld ?_
      rotate_left
      · (intro w hSw; (try dsimp only at hSw); go_simp; try with_reducible rfl)
      simp only [Act.put, List.setIfInBounds_toArray, List.set_cons_zero, List.set_cons_succ]
      refine take_w 6 (some 47) (v := ?_) rfl rfl (by kernel_rfl) (by kernel_rfl) (by kernel_rfl) (fun _ _ _ h => h) (by rfl) ?_ hHeld ?_
      rotate_left
      · (intro w hSw; (try dsimp only at hSw); go_simp; try with_reducible rfl)
      simp only [Act.put, List.setIfInBounds_toArray, List.set_cons_zero, List.set_cons_succ]
      refine take_w 7 (some 48) (v := ?_) rfl rfl (by kernel_rfl) (by kernel_rfl) (by kernel_rfl) (fun _ _ _ h => h) (by rfl) ?_ hHeld ?_
      rotate_left
      · (intro w hSw; (try dsimp only at hSw); go_simp; try with_reducible rfl)
      simp only [Act.put, List.setIfInBounds_toArray, List.set_cons_zero, List.set_cons_succ]
      refine take_w 8 (some 49) (v := ?_) rfl rfl (by kernel_rfl) (by kernel_rfl) (by kernel_rfl) (fun _ _ _ h => h) (by rfl) ?_ hHeld ?_
      rotate_left
      · (intro w hSw; (try dsimp only at hSw); go_simp; try with_reducible rfl)
      simp only [Act.put, List.setIfInBounds_toArray, List.set_cons_zero, List.set_cons_succ]
      refine wpAnyH_done (by kernel_rfl) ?_ _
      clear hHeld
      go_wp2_with fail
      exact ⟨⟨k + 1, by omega, by go_num, F⟩, by simp [intOf]; omega⟩
    · obtain rfl : k = m := by omega
      have d0 : ¬ ((k : Int) < k) := by omega
      obtain ⟨wB, rfl⟩ : ∃ wB, wB = wr := ⟨_, rfl⟩
      have FB := Lib.hid (FD.out.trans_nil F)
      have HDB := Lib.hid (HDD.out.keep_nil F)
      have HXB := Lib.hid (HXX.out.keep_nil F)
      clear F HDD HXX HR
      go_wp2_with fail
      go_loopw [8] (fun i wr => ∃ k : Nat, k ≤ n ∧ k ≤ 40 ∧ i = .int .i64 k ∧ Fr [] wB wr) (fun i _ => n - (intOf i).toNat)
      case atStart => exact ⟨0, by omega, by omega, rfl, Fr.refl _ _⟩
      case round =>
        obtain ⟨j, hjn, hj4, rfl, F⟩ := hrel
        have hXr := HXB.out.keep_nil F
        have c0 := hXr.c0
        rw [HN.out] at c0
        by_cases hlt : j < n
        · have d0 : (j : Int) < n := by omega
          by_cases hl4 : j < 40
          · have d1 : (j : Int) < 40 := by omega
            obtain ⟨v, q0, -, -, -⟩ := hXr.cp (i := j) (by rw [HN.out]; exact hlt)
            have cs := dkSure_any (HDB.out.keep_nil (F.trans_nil (Fr.refl [] wr).drew)) (j : Int)
            obtain ⟨R, hR⟩ : ∃ R, D.sureR j = R := ⟨_, rfl⟩
            rw [hR] at cs q0
            obtain ⟨S, hS⟩ : ∃ S : ByteArray, (⟨R.toArray⟩ : ByteArray) = S := ⟨_, rfl⟩
            have HS := Lib.hid (show strV R = .string S from congrArg Value.string hS)
            rw [HS.out] at q0
            clear hXr hR hS
            go_upto_region 12 with fail
            obtain ⟨wE, hwE⟩ : ∃ wE, wr.drew = wE := ⟨_, rfl⟩
            have fE : Fr [] wr wE := by rw [← hwE]; exact (Fr.refl [] wr).drew
            rw [hwE] at cs
            replace F := F.trans_nil fE
            replace c0 := fE.cell (by simp) c0
            replace q0 := fE.cell (by simp) q0
            refine wp_region_held_drew (S := fun w' => w'.cell? ⟨q, 0, none⟩ = some (.slice (some ⟨X.g, 0, none⟩) n X.c) ∧ w'.cell? ⟨X.g, j * 2, none⟩ = some (.string S)) (by kernel_rfl) (by rw [hwE]; exact ⟨c0, q0⟩) (fun hHeld => ?_)
            rw [hwE] at hHeld ⊢
            clear hwE fE
            refine take_w 0 (some 63) (v := ?_) rfl rfl (by kernel_rfl) (by kernel_rfl) (by kernel_rfl) (fun _ _ _ h => h) (by rfl) ?_ hHeld ?_
            rotate_left
            · (intro w hSw; (try dsimp only at hSw); go_simp; try with_reducible rfl)
            simp only [Act.put, List.setIfInBounds_toArray, List.set_cons_zero, List.set_cons_succ]
            refine take_w 1 (some 64) (v := ?_) rfl rfl (by kernel_rfl) (by kernel_rfl) (by kernel_rfl) (fun _ _ _ h => h) (by rfl) ?_ hHeld ?_
            rotate_left
            · (intro w hSw; (try dsimp only at hSw); go_simp; try with_reducible rfl)
            simp only [Act.put, List.setIfInBounds_toArray, List.set_cons_zero, List.set_cons_succ]
            refine take_w 4 (some 67) (v := ?_) rfl rfl (by kernel_rfl) (by kernel_rfl) (by kernel_rfl) (fun _ _ _ h => h) (by rfl) ?_ hHeld ?_
            rotate_left
            · (intro w hSw; (try dsimp only at hSw); go_simp; try with_reducible rfl)
            simp only [Act.put, List.setIfInBounds_toArray, List.set_cons_zero, List.set_cons_succ]
            refine take_w 5 (some 68) (v := ?_) rfl rfl (by kernel_rfl) (by kernel_rfl) (by kernel_rfl) (fun _ _ _ h => h) (by rfl) ?_ hHeld ?_
            rotate_left
            · (intro w hSw; (try dsimp only at hSw); go_simp; try with_reducible rfl)
            simp only [Act.put, List.setIfInBounds_toArray, List.set_cons_zero, List.set_cons_succ]
            refine take_w 6 (some 69) (v := ?_) rfl rfl (by kernel_rfl) (by kernel_rfl) (by kernel_rfl) (fun _ _ _ h => h) (by rfl) ?_ hHeld ?_
            rotate_left
            · (intro w hSw; (try dsimp only at hSw); go_simp; try with_reducible rfl)
            simp only [Act.put, List.setIfInBounds_toArray, List.set_cons_zero, List.set_cons_succ]
            refine take_w 7 (some 70) (v := ?_) rfl rfl (by kernel_rfl) (by kernel_rfl) (by kernel_rfl) (fun _ _ _ h => h) (by rfl) ?_ hHeld ?_
            rotate_left
            · (intro w hSw; (try dsimp only at hSw); go_simp; try with_reducible rfl)
            simp only [Act.put, List.setIfInBounds_toArray, List.set_cons_zero, List.set_cons_succ]
            refine take_w 8 (some 71) (v := ?_) rfl rfl (by kernel_rfl) (by kernel_rfl) (by kernel_rfl) (fun _ _ _ h => h) (by rfl) ?_ hHeld ?_
            rotate_left
            · (intro w hSw; (try dsimp only at hSw); go_simp; try with_reducible rfl)
            simp only [Act.put, List.setIfInBounds_toArray, List.set_cons_zero, List.set_cons_succ]
            refine take_w 9 (some 72) (v := ?_) rfl rfl (by kernel_rfl) (by kernel_rfl) (by kernel_rfl) (fun _ _ _ h => h) (by rfl) ?_ hHeld ?_
            rotate_left
            · (intro w hSw; (try dsimp only at hSw); go_simp; try with_reducible rfl)
            simp only [Act.put, List.setIfInBounds_toArray, List.set_cons_zero, List.set_cons_succ]
            refine take_w 10 (some 73) (v := ?_) rfl rfl (by kernel_rfl) (by kernel_rfl) (by kernel_rfl) (fun _ _ _ h => h) (by rfl) ?_ hHeld ?_
            rotate_left
            · (intro w hSw; (try dsimp only at hSw); go_simp; try with_reducible rfl)
            simp only [Act.put, List.setIfInBounds_toArray, List.set_cons_zero, List.set_cons_succ]
            refine take_w 11 (some 74) (v := ?_) rfl rfl (by kernel_rfl) (by kernel_rfl) (by kernel_rfl) (fun _ _ _ h => h) (by rfl) ?_ hHeld ?_
            rotate_left
            · (intro w hSw; (try dsimp only at hSw); go_simp; try with_reducible rfl)
            simp only [Act.put, List.setIfInBounds_toArray, List.set_cons_zero, List.set_cons_succ]
            refine take_c 2 rfl (by kernel_rfl) (by rfl) (fun K hK => ?_)
            go_simp
            refine cs.mono ?_
            rintro e wG ⟨vE, rfl, rE, fG⟩
            obtain ⟨AE, cE, rfl, -, -, -, -, -⟩ := rE.shape
            have hcv : (convert 31 9 (.slice AE R.length cE)).run Try.prog wG = .ok (.string S) wG := by
              rw [← HS.out]
              exact conv_str Try.underlying31 Try.underlying5 Try.underlying9 wG _ R _ cE rfl rE.rdD.1 rE.rdD.2.2
            replace c0 := fG.cell (by simp) c0
            replace q0 := fG.cell (by simp) q0
            refine hK.out _ _ ⟨c0, q0⟩ (fun hHx => ?_)
            clear hK hHeld cs rE
            have hHeld := hHx
            clear hHx
            try simp only [Act.put, List.setIfInBounds_toArray, List.set_cons_zero, List.set_cons_succ]
            refine take_c 3 rfl (by kernel_rfl) (by rfl) (fun K hK => ?_)
            go_simp
            refine hK.out _ _ hHeld (fun hHx => ?_)
            clear hK hHx hcv
            try simp only [Act.put, List.setIfInBounds_toArray, List.set_cons_zero, List.set_cons_succ]
            refine take_w 12 (some 75) (v := ?_) rfl rfl (by kernel_rfl) (by kernel_rfl) (by kernel_rfl) (fun _ _ _ h => h) (by rfl) ?_ hHeld ?_
            rotate_left
            · (intro w hSw; (try dsimp only at hSw); go_simp; try with_reducible rfl)
            simp only [Act.put, List.setIfInBounds_toArray, List.set_cons_zero, List.set_cons_succ]
            refine wpAnyH_done (by kernel_rfl) ?_ _
            clear hHeld c0 q0
            go_wp2_with fail
            exact ⟨⟨j + 1, by omega, by omega, by go_num, F.trans_nil fG⟩, by simp [intOf]; omega⟩
          · have d1 : ¬ ((j : Int) < 40) := by omega
            have FF := Lib.hid (FB.out.trans_nil F)
            clear hXr F
            go_wp2_with fail
            go_ret
            exact ⟨rfl, FF.out⟩
        · have d0 : ¬ ((j : Int) < n) := by omega
          have FF := Lib.hid (FB.out.trans_nil F)
          clear hXr F
          go_wp2_with fail
          go_ret
          exact ⟨rfl, FF.out⟩
end
end Go.Proofs.Ytdhhnioklbnicaa
