/-
  CodecSorted, the walk.
-/
import Derived.Test.YtdhhnioklbnicaaSrV
import Derived.Test.YtdhhnioklbnicaaCodH
import Derived.Test.YtdhhnioklbnicaaRow9S
import Derived.Test.YtdhhnioklbnicaaReg
import Derived.Deep.DeepCutAuto
import Derived.Deep.CutBlock
import Derived.Deep.LoopGhost
set_option linter.unusedSimpArgs false
set_option linter.unusedVariables false
set_option linter.unnecessarySimpa false
namespace Go.Proofs.Ytdhhnioklbnicaa
open Go.RowKit
set_option maxRecDepth 100000

/-- A Sorted and its reference, both made behind w, alike. -/
def SX (w w' : World) (p b q : Nat) (f : Int → Option Value) (L : List PairB) (k : Nat) : Prop := ∃ O n, SrtW w' p b n f ∧ XsD w' q O L ∧ RelS f L ∧ n ≤ k ∧ L.length ≤ k ∧ w.heap.size ≤ p ∧ w.heap.size ≤ b ∧ (∀ i ∈ O, w.heap.size ≤ i ∧ i ≠ b ∧ i ≠ p) ∧ q ∈ O ∧ Fr [] w w'
/-- The map's own half has been changed. -/
theorem setL_len (L : List PairB) (n : Int) (t : ByteArray) : (setL L n t).length ≤ L.length + 1 := by
  have h1 := delL_le L n
  have h2 := congrArg List.length (List.takeWhile_append_dropWhile (p := fun p : PairB => decide (p.1 < n)) (l := delL L n))
  rw [List.length_append] at h2
  unfold setL
  simp only [List.length_append, List.length_singleton]
  omega
section
variable {w w1 w2 : World} {p b q k : Nat} {f f' : Int → Option Value} {L L' : List PairB}
theorem SX.keep (h : SX w w1 p b q f L k) (fr : Fr [] w1 w2) : SX w w2 p b q f L k := by
  obtain ⟨O, n, h1, h2, h3, h4, h5, h6, h7, h8, h9, F⟩ := h
  exact ⟨O, n, h1.keep_nil fr, h2.keep_nil fr, h3, h4, h5, h6, h7, h8, h9, F.trans_nil fr⟩
theorem SX.mono (h : SX w w1 p b q f L k) {k' : Nat} (hk : k ≤ k') : SX w w1 p b q f L k' := by
  obtain ⟨O, n, h1, h2, h3, h4, h5, h6, h7, h8, h9, F⟩ := h
  exact ⟨O, n, h1, h2, h3, by omega, by omega, h6, h7, h8, h9, F⟩
theorem SX.fr (h : SX w w1 p b q f L k) : Fr [] w w1 := by obtain ⟨O, n, h1, h2, h3, h4, h5, h6, h7, h8, h9, F⟩ := h; exact F
theorem SX.rel (h : SX w w1 p b q f L k) : RelS f L := by obtain ⟨O, n, h1, h2, h3, h4, h5, h6, h7, h8, h9, F⟩ := h; exact h3
theorem SX.len (h : SX w w1 p b q f L k) : L.length ≤ k := by obtain ⟨O, n, h1, h2, h3, h4, h5, h6, h7, h8, h9, F⟩ := h; exact h5
/-- One call of each: first the map's, then the reference's. -/
theorem SX.two (h : SX w w1 p b q f L k) {fi gi : FuncId} {fa ga : Array Value} {R : Ending → Prop} {R' : Ending → Prop} {k' : Nat} (hkk : k ≤ k')
    (hc : ∀ n, n ≤ k → SrtW w1 p b n f → Calls Try.prog fi fa w1 fun e w' => R e ∧ (∃ n', n' ≤ k' ∧ SrtW w' p b n' f') ∧ Fr [b] w1 w')
    (hx : ∀ w2 O, XsD w2 q O L → Calls Try.prog gi ga w2 fun e w' => R' e ∧ AftS w2 q O L' w') (hr : RelS f' L') (hl : L'.length ≤ k') :
    Calls Try.prog fi fa w1 fun e w2 => R e ∧ Fr [b] w1 w2 ∧ ∀ w3, Fr [] w2 w3 → Calls Try.prog gi ga w3 fun e w' => R' e ∧ SX w w' p b q f' L' k' ∧ Fr [q] w3 w' := by
  obtain ⟨O, n, h1, h2, h3, h4, h5, h6, h7, h8, h9, F⟩ := h
  refine (hc n h4 h1).mono fun e w2 ⟨hR, ⟨n', hn', hs⟩, fr⟩ => ⟨hR, fr, fun w3 f3 => ?_⟩
  have hx2 : XsD w3 q O L := (h2.keep fr (fun i hi hm => (h8 i hi).2.1 (List.mem_singleton.1 hm))).keep_nil f3
  refine (hx w3 O hx2).mono fun e w' ⟨hR', O', k1, k2, k3⟩ => ⟨hR', ⟨O', n', (hs.keep_nil f3).keep k3 (fun hm => (h8 q h9).2.2 (List.mem_singleton.1 hm).symm) (fun hm => (h8 q h9).2.1 (List.mem_singleton.1 hm).symm), k1, hr, hn', hl, h6, h7, fun i hi => ?_, ?_, ?_⟩, k3⟩
  · rcases k2 i hi with h | h
    · exact h8 i h
    · have := hs.map.lt; have := hs.blk.lt; have := f3.size; have := F.size; have := fr.size; omega
  · obtain ⟨v, hv⟩ := k1
    exact hv.qO
  · exact ((F.trans fr (fun i hi => .inr (by rw [List.mem_singleton.1 hi]; exact h7))).trans_nil f3).trans k3 (fun i hi => .inr (by rw [List.mem_singleton.1 hi]; exact (h8 q h9).1))
/-- A round's last test: the lengths, and over. -/
theorem SX.qc (h : SX w w1 p b q f L k) : ∃ A c, w1.cell? ⟨q, 0, none⟩ = some (.slice A L.length c) := by
  obtain ⟨O, n, h1, ⟨v, h2⟩, h3, h4, h5, h6, h7, h8, h9, F⟩ := h
  obtain ⟨A, c, rfl, -, -, -, -, -⟩ := h2.row.shape
  exact ⟨A, c, h2.c0⟩
theorem SX.lenC (h : SX w w1 p b q f L k) : Calls Try.prog 35 #[.pointer (some ⟨p, 0, none⟩)] w1 fun e w' => e = .returned (.int .i64 L.length) ∧ w1 = w' := by
  obtain ⟨O, n, h1, h2, h3, h4, h5, h6, h7, h8, h9, F⟩ := h
  have := srtLen_any h1 h3.keys
  rwa [List.length_map] at this
theorem SX.overC (h : SX w w1 p b q f L k) (hk : k ≤ 17592186044416) (most : Int) : Calls Try.prog 36 #[.pointer (some ⟨p, 0, none⟩), .pointer (some ⟨q, 0, none⟩), .int .i64 most] w1 fun e w' => e = .returned (.bool true) ∧ Fr [] w1 w' := by
  obtain ⟨O, n, h1, h2, h3, h4, h5, h6, h7, h8, h9, F⟩ := h
  exact over_any h1 h2 h3 (by omega) most
theorem SX.lts (h : SX w w1 p b q f L k) : b < w1.heap.size ∧ p < w1.heap.size ∧ q < w1.heap.size := by
  obtain ⟨O, n, h1, h2, h3, h4, h5, h6, h7, h8, h9, F⟩ := h
  exact ⟨h1.map.lt, h1.blk.lt, h2.lts q h9⟩
theorem SX.setC (h : SX w w1 p b q f L k) (hk : k ≤ 4611686018426) {n : Int} (hn : wfZ n) (t : ByteArray) :
    Calls Try.prog 28 #[.pointer (some ⟨p, 0, none⟩), .int .i64 n, .string t] w1 fun e w2 => e = .returned (.tuple #[]) ∧ Fr [b] w1 w2 ∧ ∀ w3, Fr [] w2 w3 → Calls Try.prog 29 #[.pointer (some ⟨q, 0, none⟩), .int .i64 n, .string t] w3 fun e w' => e = .returned (.tuple #[]) ∧ SX w w' p b q (fput f n (.string t)) (setL L n t) (k + 1) ∧ Fr [q] w3 w' :=
  h.two (Nat.le_succ k) (fun m hm hs => (srtSet_any hs (by unfold maxLen; omega) n hn (.string t) rfl).mono fun e w' ⟨a, b, c⟩ => ⟨a, ⟨_, by omega, b⟩, c⟩) (fun w2 O hx => xsSet_any hx n t (by have := h.len; omega)) (h.rel.set hn t) (by have := setL_len L n t; have := h.len; omega)
theorem SX.delC (h : SX w w1 p b q f L k) (hk : k ≤ 4611686018426) {n : Int} (hn : wfZ n) :
    Calls Try.prog 32 #[.pointer (some ⟨p, 0, none⟩), .int .i64 n] w1 fun e w2 => e = .returned (.bool (getL L n).isSome) ∧ Fr [b] w1 w2 ∧ ∀ w3, Fr [] w2 w3 → Calls Try.prog 33 #[.pointer (some ⟨q, 0, none⟩), .int .i64 n] w3 fun e w' => e = .returned (.bool (getL L n).isSome) ∧ SX w w' p b q (fdel f n) (delL L n) (k + 1) ∧ Fr [q] w3 w' :=
  h.two (Nat.le_succ k) (fun m hm hs => (srtDelete_any hs n hn).mono fun e w' ⟨a, b, c⟩ => ⟨by rw [a, h.rel.eq]; cases getL L n <;> rfl, ⟨_, by omega, b⟩, c⟩) (fun w2 O hx => xsDelete_any hx n (by have := h.len; omega)) (h.rel.del n) (by have := delL_le L n; have := h.len; omega)
theorem SX.getC (h : SX w w1 p b q f L k) {n : Int} (hn : wfZ n) :
    Calls Try.prog 30 #[.pointer (some ⟨p, 0, none⟩), .int .i64 n] w1 (fun e w' => e = .returned (.tuple #[.string ((getL L n).getD ⟨#[]⟩), .bool (getL L n).isSome]) ∧ w1 = w') ∧
    Calls Try.prog 31 #[.pointer (some ⟨q, 0, none⟩), .int .i64 n] w1 (fun e w' => e = .returned (.tuple #[.string ((getL L n).getD ⟨#[]⟩), .bool (getL L n).isSome]) ∧ w1 = w') := by
  have hr := h.rel
  obtain ⟨O, m, h1, h2, h3, h4, h5, h6, h7, h8, h9, F⟩ := h
  refine ⟨(srtGet_any h1 n hn).mono fun e w' ⟨a, c⟩ => ⟨?_, c⟩, xsGet_any h2 n⟩
  rw [a, hr.eq]
  cases getL L n <;> rfl
theorem SX.clrC (h : SX w w1 p b q f L k) :
    Calls Try.prog 34 #[.pointer (some ⟨p, 0, none⟩)] w1 fun e w2 => e = .returned (.tuple #[]) ∧ Fr [b] w1 w2 ∧ ∃ v, w2.cell? ⟨q, 0, none⟩ = some v ∧ w2.frozen? ⟨q, 0, none⟩ = false ∧ SX w (w2.setCell ⟨q, 0, none⟩ (.slice none 0 0)) p b q (fun _ => none) [] (k + 1) := by
  obtain ⟨O, n, h1, h2, h3, h4, h5, h6, h7, h8, h9, F⟩ := h
  refine (srtClear_any h1).mono fun e w2 ⟨he, hs, fr⟩ => ⟨he, fr, ?_⟩
  obtain ⟨v, h2⟩ := h2.keep fr (fun i hi hm => (h8 i hi).2.1 (List.mem_singleton.1 hm))
  have f2 : Fr [q] w2 (w2.setCell ⟨q, 0, none⟩ (.slice none 0 0)) := (Fr.refl _ _).setCell (.inl (by simp)) _
  have hbs := h2.blk.set_ 0 (.slice none 0 0)
  refine ⟨v, h2.c0, h2.blk.frozen 0, [q], 0, hs.keep f2 (by simpa using (h8 q h9).2.2.symm) (by simpa using (h8 q h9).2.1.symm), ⟨.slice none 0 0, ⟨by simp, fun g hg => (by cases hg), by simpa using hbs, Row.nil _ _ _ _, fun i hi => by rw [List.mem_singleton.1 hi]; exact hbs.lt⟩⟩, RelS.nil, by omega, by simp, h6, h7, fun i hi => by rw [List.mem_singleton.1 hi]; exact h8 q h9, by simp, ?_⟩
  exact (F.trans fr (fun i hi => .inr (by rw [List.mem_singleton.1 hi]; exact h7))).trans f2 (fun i hi => .inr (by rw [List.mem_singleton.1 hi]; exact (h8 q h9).1))
end
set_option maxHeartbeats 4000000 in
theorem codecSorted_any (w : World) (A : Option Addr) (n c : Nat) (l : List OA) (ha : ArgA w A n c l) :
    Calls Try.prog 7 #[.slice A n c] w fun e w' => e = .returned (.bool true) ∧ Fr [] w w' := by
  have eF := eqFn
  have hr : n * 32 ≤ 140737488351232 := ha.reach
  have HA := Lib.hid ha
  clear ha
  go_enter Try.func7, Try.ntmps7
  go_wp2_with fail
  refine (srtNew_any w).mono ?_
  rintro e w1 ⟨rfl, hs, f1, z1⟩
  obtain ⟨p, hp⟩ : ∃ p, w.heap.size + 1 = p := ⟨_, rfl⟩
  obtain ⟨b, hb⟩ : ∃ b, w.heap.size = b := ⟨_, rfl⟩
  rw [hp, hb] at hs
  rw [hp]
  have hX := Blk.new w1 60 #[.slice none 0 0]
  have f2 : Fr [] w1 (w1.alloc (.cells #[.slice none 0 0] 60)) := (Fr.refl _ _).alloc _
  have h2 : SX w (w1.alloc (.cells #[.slice none 0 0] 60)) p b w1.heap.size (fun _ => none) [] 0 := ⟨[w1.heap.size], 0, hs.keep_nil f2, ⟨.slice none 0 0, ⟨by simp, fun g hg => (by cases hg), hX, Row.nil _ _ _ _, fun i hi => by rw [List.mem_singleton.1 hi]; exact hX.lt⟩⟩, RelS.nil, by omega, by simp, by omega, by omega, fun i hi => by rw [List.mem_singleton.1 hi]; omega, by simp, f1.trans_nil f2⟩
  obtain ⟨q, hq⟩ : ∃ q, w1.heap.size = q := ⟨_, rfl⟩
  rw [hq] at h2
  have H2 := Lib.hid h2
  clear hs f1 z1 hX f2 h2 hp hb
  go_wp2_with fail
  refine (lives09_any _).mono ?_
  rintro e w3 ⟨rfl, f3⟩
  have H3 := Lib.hid (H2.out.keep f3)
  clear f3 H2
  go_wp2_with fail
  refine (srtAll_any _ _).mono ?_
  rintro e w4 ⟨rfl, rfl⟩
  have f4 : Fr [] w3 (w3.alloc (.cells #[.pointer (some ⟨p, 0, none⟩)] 55)) := (Fr.refl _ _).alloc _
  have H4 := Lib.hid (H3.out.keep f4)
  clear H3 f4
  go_wp2_with fail
  go_loopw [5] (fun i wr => ∃ k : Nat, k ≤ n ∧ i = .int .i64 k ∧ ∃ f L, SX w wr p b q f L k) (fun i _ => n - (intOf i).toNat)
  case atStart => exact ⟨0, by omega, rfl, _, _, H4.out⟩
  case round =>
    clear H4
    obtain ⟨k, hkn, rfl, f, L, hT⟩ := hrel
    by_cases hlt : k < n
    · have d0 : (k : Int) < n := by omega
      obtain ⟨o, g, bb, rfl, ok, c0, c1, c2⟩ := HA.out.cells hT.fr hlt
      obtain ⟨kd, nn, t⟩ := o
      have HT := Lib.hid hT
      have OK := Lib.hid ok
      clear hT ok
      dsimp only at c0 c1 c2
      go_upto_region 10 with fail
      have kA := Blk.new wr 65 #[.int .i64 kd, .int .i64 nn, .string t]
      have fA : Fr [] wr (wr.alloc (.cells #[.int .i64 kd, .int .i64 nn, .string t] 65)) := (Fr.refl _ _).alloc _
      obtain ⟨wA, hwA⟩ : ∃ x, wr.alloc (.cells #[.int .i64 kd, .int .i64 nn, .string t] 65) = x := ⟨_, rfl⟩
      rw [hwA] at kA fA ⊢
      obtain ⟨bl, pl, ql⟩ := HT.out.lts
      obtain ⟨gA, hgA⟩ : ∃ x, wr.heap.size = x := ⟨_, rfl⟩
      rw [hgA] at kA bl pl ql ⊢
      have HTA := Lib.hid (HT.out.keep fA)
      have cn : wA.cell? ⟨gA, 1, none⟩ = some (.int .i64 nn) := kA.cell 1
      have ct : wA.cell? ⟨gA, 2, none⟩ = some (.string t) := kA.cell 2
      clear hwA hgA kA fA HT c0 c1 c2
      by_cases h1 : kd = 1
      · subst h1
        have cs := HTA.out.setC (by omega) OK.out t
        go_wp2_with fail
        refine cs.mono ?_
        rintro e w2 ⟨rfl, fb, cx⟩
        replace cn := fb.cell (by simp; omega) cn
        replace ct := fb.cell (by simp; omega) ct
        replace cx := cx w2 (Fr.refl _ _)
        have hgw := fb.size
        have HFB := Lib.hid fb
        clear cs fb
        go_wp2_with fail
        refine cx.mono ?_
        rintro e w5 ⟨rfl, hS, fq⟩
        have HQ := Lib.hid hS
        replace cn := fq.cell (by simp; omega) cn
        clear cx hS fq ct
        go_upto_region 22 with fail
        obtain ⟨A, cc, cq⟩ := HQ.out.qc
        obtain ⟨N, hN⟩ : ∃ N, (setL L nn t).length = N := ⟨_, rfl⟩
        obtain ⟨wD, hwD⟩ : ∃ wD, World.drew w5 = wD := ⟨_, rfl⟩
        have fD : Fr [] w5 wD := by rw [← hwD]; exact (Fr.refl [] _).drew
        have cl := (HQ.out.keep fD).lenC
        have co := (HQ.out.keep fD).overC (by omega) nn
        rw [hN] at cl cq
        have HQD := Lib.hid (HQ.out.keep fD)
        have hSD : wD.cell? ⟨gA, 1, none⟩ = some (.int .i64 nn) ∧ wD.cell? ⟨q, 0, none⟩ = some (.slice A N cc) := ⟨fD.cell (by simp) cn, fD.cell (by simp) cq⟩
        refine wp_region_held_drew (S := fun w' => w'.cell? ⟨gA, 1, none⟩ = some (.int .i64 nn) ∧ w'.cell? ⟨q, 0, none⟩ = some (.slice A N cc)) (by kernel_rfl) (by rw [hwD]; exact hSD) (fun hHeld => ?_)
        rw [hwD] at hHeld ⊢
        clear hwD fD hSD cq cn
        refine take_w 0 (some 94) (v := ?_) rfl rfl (by kernel_rfl) (by kernel_rfl) (by kernel_rfl) (fun _ _ _ h => h) (by rfl) ?_ hHeld ?_
        rotate_left
        · (intro w hSw; (try dsimp only at hSw); go_simp; try with_reducible rfl)
        simp only [Act.put, List.setIfInBounds_toArray, List.set_cons_zero, List.set_cons_succ]
        refine take_w 1 (some 95) (v := ?_) rfl rfl (by kernel_rfl) (by kernel_rfl) (by kernel_rfl) (fun _ _ _ h => h) (by rfl) ?_ hHeld ?_
        rotate_left
        · (intro w hSw; (try dsimp only at hSw); go_simp; try with_reducible rfl)
        simp only [Act.put, List.setIfInBounds_toArray, List.set_cons_zero, List.set_cons_succ]
        refine take_w 2 (some 96) (v := ?_) rfl rfl (by kernel_rfl) (by kernel_rfl) (by kernel_rfl) (fun _ _ _ h => h) (by rfl) ?_ hHeld ?_
        rotate_left
        · (intro w hSw; (try dsimp only at hSw); go_simp; try with_reducible rfl)
        simp only [Act.put, List.setIfInBounds_toArray, List.set_cons_zero, List.set_cons_succ]
        refine take_w 3 (some 97) (v := ?_) rfl rfl (by kernel_rfl) (by kernel_rfl) (by kernel_rfl) (fun _ _ _ h => h) (by rfl) ?_ hHeld ?_
        rotate_left
        · (intro w hSw; (try dsimp only at hSw); go_simp; try with_reducible rfl)
        simp only [Act.put, List.setIfInBounds_toArray, List.set_cons_zero, List.set_cons_succ]
        refine take_w 5 (some 99) (v := ?_) rfl rfl (by kernel_rfl) (by kernel_rfl) (by kernel_rfl) (fun _ _ _ h => h) (by rfl) ?_ hHeld ?_
        rotate_left
        · (intro w hSw; (try dsimp only at hSw); go_simp; try with_reducible rfl)
        simp only [Act.put, List.setIfInBounds_toArray, List.set_cons_zero, List.set_cons_succ]
        refine take_w 6 (some 100) (v := ?_) rfl rfl (by kernel_rfl) (by kernel_rfl) (by kernel_rfl) (fun _ _ _ h => h) (by rfl) ?_ hHeld ?_
        rotate_left
        · (intro w hSw; (try dsimp only at hSw); go_simp; try with_reducible rfl)
        simp only [Act.put, List.setIfInBounds_toArray, List.set_cons_zero, List.set_cons_succ]
        refine take_w 7 (some 101) (v := ?_) rfl rfl (by kernel_rfl) (by kernel_rfl) (by kernel_rfl) (fun _ _ _ h => h) (by rfl) ?_ hHeld ?_
        rotate_left
        · (intro w hSw; (try dsimp only at hSw); go_simp; try with_reducible rfl)
        simp only [Act.put, List.setIfInBounds_toArray, List.set_cons_zero, List.set_cons_succ]
        refine take_w 8 (some 102) (v := ?_) rfl rfl (by kernel_rfl) (by kernel_rfl) (by kernel_rfl) (fun _ _ _ h => h) (by rfl) ?_ hHeld ?_
        rotate_left
        · (intro w hSw; (try dsimp only at hSw); go_simp; try with_reducible rfl)
        simp only [Act.put, List.setIfInBounds_toArray, List.set_cons_zero, List.set_cons_succ]
        refine take_w 9 (some 103) (v := ?_) rfl rfl (by kernel_rfl) (by kernel_rfl) (by kernel_rfl) (fun _ _ _ h => h) (by rfl) ?_ hHeld ?_
        rotate_left
        · (intro w hSw; (try dsimp only at hSw); go_simp; try with_reducible rfl)
        simp only [Act.put, List.setIfInBounds_toArray, List.set_cons_zero, List.set_cons_succ]
        refine take_c 4 rfl (by kernel_rfl) (by rfl) (fun K hK => ?_)
        go_simp
        refine cl.mono ?_
        rintro e w' ⟨rfl, rfl⟩
        refine hK.out _ _ hHeld (fun hHx => ?_)
        clear hK cl hHx
        try simp only [Act.put, List.setIfInBounds_toArray, List.set_cons_zero, List.set_cons_succ]
        refine take_w 10 (some 104) (v := ?_) rfl rfl (by kernel_rfl) (by kernel_rfl) (by kernel_rfl) (fun _ _ _ h => h) (by rfl) ?_ hHeld ?_
        rotate_left
        · (intro w hSw; (try dsimp only at hSw); go_simp; try with_reducible rfl)
        simp only [Act.put, List.setIfInBounds_toArray, List.set_cons_zero, List.set_cons_succ]
        refine take_w 11 (some 105) (v := ?_) rfl rfl (by kernel_rfl) (by kernel_rfl) (by kernel_rfl) (fun _ _ _ h => h) (by rfl) ?_ hHeld ?_
        rotate_left
        · (intro w hSw; (try dsimp only at hSw); go_simp; try with_reducible rfl)
        simp only [Act.put, List.setIfInBounds_toArray, List.set_cons_zero, List.set_cons_succ]
        refine take_w 12 (some 106) (v := ?_) rfl rfl (by kernel_rfl) (by kernel_rfl) (by kernel_rfl) (fun _ _ _ h => h) (by rfl) ?_ hHeld ?_
        rotate_left
        · (intro w hSw; (try dsimp only at hSw); go_simp; try with_reducible rfl)
        simp only [Act.put, List.setIfInBounds_toArray, List.set_cons_zero, List.set_cons_succ]
        refine take_w 13 (some 107) (v := ?_) rfl rfl (by kernel_rfl) (by kernel_rfl) (by kernel_rfl) (fun _ _ _ h => h) (by rfl) ?_ hHeld ?_
        rotate_left
        · (intro w hSw; (try dsimp only at hSw); go_simp; try with_reducible rfl)
        simp only [Act.put, List.setIfInBounds_toArray, List.set_cons_zero, List.set_cons_succ]
        refine take_w 14 (some 108) (v := ?_) rfl rfl (by kernel_rfl) (by kernel_rfl) (by kernel_rfl) (fun _ _ _ h => h) (by rfl) ?_ hHeld ?_
        rotate_left
        · (intro w hSw; (try dsimp only at hSw); go_simp; try with_reducible rfl)
        simp only [Act.put, List.setIfInBounds_toArray, List.set_cons_zero, List.set_cons_succ]
        refine take_w 15 (some 109) (v := ?_) rfl rfl (by kernel_rfl) (by kernel_rfl) (by kernel_rfl) (fun _ _ _ h => h) (by rfl) ?_ hHeld ?_
        rotate_left
        · (intro w hSw; (try dsimp only at hSw); go_simp; try with_reducible rfl)
        simp only [Act.put, List.setIfInBounds_toArray, List.set_cons_zero, List.set_cons_succ]
        refine take_w 16 (some 110) (v := ?_) rfl rfl (by kernel_rfl) (by kernel_rfl) (by kernel_rfl) (fun _ _ _ h => h) (by rfl) ?_ hHeld ?_
        rotate_left
        · (intro w hSw; (try dsimp only at hSw); go_simp; try with_reducible rfl)
        simp only [Act.put, List.setIfInBounds_toArray, List.set_cons_zero, List.set_cons_succ]
        refine take_c 17 rfl (by kernel_rfl) (by rfl) (fun K hK => ?_)
        go_simp
        refine co.mono ?_
        rintro e w' ⟨rfl, fo⟩
        refine hK.out _ _ ⟨fo.cell (by simp) hHeld.1, fo.cell (by simp) hHeld.2⟩ (fun hHx => ?_)
        have HF := Lib.hid (HQD.out.keep fo)
        clear hK co hHeld fo
        have hHeld := hHx
        clear hHx
        try simp only [Act.put, List.setIfInBounds_toArray, List.set_cons_zero, List.set_cons_succ]
        refine take_w 18 (some 112) (v := ?_) rfl rfl (by kernel_rfl) (by kernel_rfl) (by kernel_rfl) (fun _ _ _ h => h) (by rfl) ?_ hHeld ?_
        rotate_left
        · (intro w hSw; (try dsimp only at hSw); go_simp; try with_reducible rfl)
        simp only [Act.put, List.setIfInBounds_toArray, List.set_cons_zero, List.set_cons_succ]
        refine take_w 19 (some 113) (v := ?_) rfl rfl (by kernel_rfl) (by kernel_rfl) (by kernel_rfl) (fun _ _ _ h => h) (by rfl) ?_ hHeld ?_
        rotate_left
        · (intro w hSw; (try dsimp only at hSw); go_simp; try with_reducible rfl)
        simp only [Act.put, List.setIfInBounds_toArray, List.set_cons_zero, List.set_cons_succ]
        refine wpAnyH_done (by kernel_rfl) ?_ _
        clear hHeld
        go_wp2_with fail
        exact ⟨⟨k + 1, by omega, by go_num, _, _, HF.out⟩, by simp [intOf]; omega⟩
      have d1 : (kd == 1) = false := by simpa using h1
      by_cases h2 : kd = 2
      · subst h2
        obtain ⟨cs, cx⟩ := HTA.out.getC OK.out
        obtain ⟨S, hS⟩ : ∃ S, (getL L nn).getD ⟨#[]⟩ = S := ⟨_, rfl⟩
        obtain ⟨z, hz⟩ : ∃ z, (getL L nn).isSome = z := ⟨_, rfl⟩
        rw [hS, hz] at cs cx
        clear hS hz
        go_wp2_with fail
        refine cs.mono ?_
        rintro e w2 ⟨rfl, rfl⟩
        clear cs
        go_wp2_with fail
        refine cx.mono ?_
        rintro e w2 ⟨rfl, rfl⟩
        clear cx
        have HQ := Lib.hid (HTA.out.mono (Nat.le_succ k))
        go_upto_region 22 with fail
        obtain ⟨A, cc, cq⟩ := HQ.out.qc
        obtain ⟨N, hN⟩ : ∃ N, L.length = N := ⟨_, rfl⟩
        obtain ⟨wD, hwD⟩ : ∃ wD, World.drew wA = wD := ⟨_, rfl⟩
        have fD : Fr [] wA wD := by rw [← hwD]; exact (Fr.refl [] _).drew
        have cl := (HQ.out.keep fD).lenC
        have co := (HQ.out.keep fD).overC (by omega) nn
        rw [hN] at cl cq
        have HQD := Lib.hid (HQ.out.keep fD)
        have hSD : wD.cell? ⟨gA, 1, none⟩ = some (.int .i64 nn) ∧ wD.cell? ⟨q, 0, none⟩ = some (.slice A N cc) := ⟨fD.cell (by simp) cn, fD.cell (by simp) cq⟩
        refine wp_region_held_drew (S := fun w' => w'.cell? ⟨gA, 1, none⟩ = some (.int .i64 nn) ∧ w'.cell? ⟨q, 0, none⟩ = some (.slice A N cc)) (by kernel_rfl) (by rw [hwD]; exact hSD) (fun hHeld => ?_)
        rw [hwD] at hHeld ⊢
        clear hwD fD hSD cq cn
        refine take_w 0 (some 94) (v := ?_) rfl rfl (by kernel_rfl) (by kernel_rfl) (by kernel_rfl) (fun _ _ _ h => h) (by rfl) ?_ hHeld ?_
        rotate_left
        · (intro w hSw; (try dsimp only at hSw); go_simp; try with_reducible rfl)
        simp only [Act.put, List.setIfInBounds_toArray, List.set_cons_zero, List.set_cons_succ]
        refine take_w 1 (some 95) (v := ?_) rfl rfl (by kernel_rfl) (by kernel_rfl) (by kernel_rfl) (fun _ _ _ h => h) (by rfl) ?_ hHeld ?_
        rotate_left
        · (intro w hSw; (try dsimp only at hSw); go_simp; try with_reducible rfl)
        simp only [Act.put, List.setIfInBounds_toArray, List.set_cons_zero, List.set_cons_succ]
        refine take_w 2 (some 96) (v := ?_) rfl rfl (by kernel_rfl) (by kernel_rfl) (by kernel_rfl) (fun _ _ _ h => h) (by rfl) ?_ hHeld ?_
        rotate_left
        · (intro w hSw; (try dsimp only at hSw); go_simp; try with_reducible rfl)
        simp only [Act.put, List.setIfInBounds_toArray, List.set_cons_zero, List.set_cons_succ]
        refine take_w 3 (some 97) (v := ?_) rfl rfl (by kernel_rfl) (by kernel_rfl) (by kernel_rfl) (fun _ _ _ h => h) (by rfl) ?_ hHeld ?_
        rotate_left
        · (intro w hSw; (try dsimp only at hSw); go_simp; try with_reducible rfl)
        simp only [Act.put, List.setIfInBounds_toArray, List.set_cons_zero, List.set_cons_succ]
        refine take_w 5 (some 99) (v := ?_) rfl rfl (by kernel_rfl) (by kernel_rfl) (by kernel_rfl) (fun _ _ _ h => h) (by rfl) ?_ hHeld ?_
        rotate_left
        · (intro w hSw; (try dsimp only at hSw); go_simp; try with_reducible rfl)
        simp only [Act.put, List.setIfInBounds_toArray, List.set_cons_zero, List.set_cons_succ]
        refine take_w 6 (some 100) (v := ?_) rfl rfl (by kernel_rfl) (by kernel_rfl) (by kernel_rfl) (fun _ _ _ h => h) (by rfl) ?_ hHeld ?_
        rotate_left
        · (intro w hSw; (try dsimp only at hSw); go_simp; try with_reducible rfl)
        simp only [Act.put, List.setIfInBounds_toArray, List.set_cons_zero, List.set_cons_succ]
        refine take_w 7 (some 101) (v := ?_) rfl rfl (by kernel_rfl) (by kernel_rfl) (by kernel_rfl) (fun _ _ _ h => h) (by rfl) ?_ hHeld ?_
        rotate_left
        · (intro w hSw; (try dsimp only at hSw); go_simp; try with_reducible rfl)
        simp only [Act.put, List.setIfInBounds_toArray, List.set_cons_zero, List.set_cons_succ]
        refine take_w 8 (some 102) (v := ?_) rfl rfl (by kernel_rfl) (by kernel_rfl) (by kernel_rfl) (fun _ _ _ h => h) (by rfl) ?_ hHeld ?_
        rotate_left
        · (intro w hSw; (try dsimp only at hSw); go_simp; try with_reducible rfl)
        simp only [Act.put, List.setIfInBounds_toArray, List.set_cons_zero, List.set_cons_succ]
        refine take_w 9 (some 103) (v := ?_) rfl rfl (by kernel_rfl) (by kernel_rfl) (by kernel_rfl) (fun _ _ _ h => h) (by rfl) ?_ hHeld ?_
        rotate_left
        · (intro w hSw; (try dsimp only at hSw); go_simp; try with_reducible rfl)
        simp only [Act.put, List.setIfInBounds_toArray, List.set_cons_zero, List.set_cons_succ]
        refine take_c 4 rfl (by kernel_rfl) (by rfl) (fun K hK => ?_)
        go_simp
        refine cl.mono ?_
        rintro e w' ⟨rfl, rfl⟩
        refine hK.out _ _ hHeld (fun hHx => ?_)
        clear hK cl hHx
        try simp only [Act.put, List.setIfInBounds_toArray, List.set_cons_zero, List.set_cons_succ]
        refine take_w 10 (some 104) (v := ?_) rfl rfl (by kernel_rfl) (by kernel_rfl) (by kernel_rfl) (fun _ _ _ h => h) (by rfl) ?_ hHeld ?_
        rotate_left
        · (intro w hSw; (try dsimp only at hSw); go_simp; try with_reducible rfl)
        simp only [Act.put, List.setIfInBounds_toArray, List.set_cons_zero, List.set_cons_succ]
        refine take_w 11 (some 105) (v := ?_) rfl rfl (by kernel_rfl) (by kernel_rfl) (by kernel_rfl) (fun _ _ _ h => h) (by rfl) ?_ hHeld ?_
        rotate_left
        · (intro w hSw; (try dsimp only at hSw); go_simp; try with_reducible rfl)
        simp only [Act.put, List.setIfInBounds_toArray, List.set_cons_zero, List.set_cons_succ]
        refine take_w 12 (some 106) (v := ?_) rfl rfl (by kernel_rfl) (by kernel_rfl) (by kernel_rfl) (fun _ _ _ h => h) (by rfl) ?_ hHeld ?_
        rotate_left
        · (intro w hSw; (try dsimp only at hSw); go_simp; try with_reducible rfl)
        simp only [Act.put, List.setIfInBounds_toArray, List.set_cons_zero, List.set_cons_succ]
        refine take_w 13 (some 107) (v := ?_) rfl rfl (by kernel_rfl) (by kernel_rfl) (by kernel_rfl) (fun _ _ _ h => h) (by rfl) ?_ hHeld ?_
        rotate_left
        · (intro w hSw; (try dsimp only at hSw); go_simp; try with_reducible rfl)
        simp only [Act.put, List.setIfInBounds_toArray, List.set_cons_zero, List.set_cons_succ]
        refine take_w 14 (some 108) (v := ?_) rfl rfl (by kernel_rfl) (by kernel_rfl) (by kernel_rfl) (fun _ _ _ h => h) (by rfl) ?_ hHeld ?_
        rotate_left
        · (intro w hSw; (try dsimp only at hSw); go_simp; try with_reducible rfl)
        simp only [Act.put, List.setIfInBounds_toArray, List.set_cons_zero, List.set_cons_succ]
        refine take_w 15 (some 109) (v := ?_) rfl rfl (by kernel_rfl) (by kernel_rfl) (by kernel_rfl) (fun _ _ _ h => h) (by rfl) ?_ hHeld ?_
        rotate_left
        · (intro w hSw; (try dsimp only at hSw); go_simp; try with_reducible rfl)
        simp only [Act.put, List.setIfInBounds_toArray, List.set_cons_zero, List.set_cons_succ]
        refine take_w 16 (some 110) (v := ?_) rfl rfl (by kernel_rfl) (by kernel_rfl) (by kernel_rfl) (fun _ _ _ h => h) (by rfl) ?_ hHeld ?_
        rotate_left
        · (intro w hSw; (try dsimp only at hSw); go_simp; try with_reducible rfl)
        simp only [Act.put, List.setIfInBounds_toArray, List.set_cons_zero, List.set_cons_succ]
        refine take_c 17 rfl (by kernel_rfl) (by rfl) (fun K hK => ?_)
        go_simp
        refine co.mono ?_
        rintro e w' ⟨rfl, fo⟩
        refine hK.out _ _ ⟨fo.cell (by simp) hHeld.1, fo.cell (by simp) hHeld.2⟩ (fun hHx => ?_)
        have HF := Lib.hid (HQD.out.keep fo)
        clear hK co hHeld fo
        have hHeld := hHx
        clear hHx
        try simp only [Act.put, List.setIfInBounds_toArray, List.set_cons_zero, List.set_cons_succ]
        refine take_w 18 (some 112) (v := ?_) rfl rfl (by kernel_rfl) (by kernel_rfl) (by kernel_rfl) (fun _ _ _ h => h) (by rfl) ?_ hHeld ?_
        rotate_left
        · (intro w hSw; (try dsimp only at hSw); go_simp; try with_reducible rfl)
        simp only [Act.put, List.setIfInBounds_toArray, List.set_cons_zero, List.set_cons_succ]
        refine take_w 19 (some 113) (v := ?_) rfl rfl (by kernel_rfl) (by kernel_rfl) (by kernel_rfl) (fun _ _ _ h => h) (by rfl) ?_ hHeld ?_
        rotate_left
        · (intro w hSw; (try dsimp only at hSw); go_simp; try with_reducible rfl)
        simp only [Act.put, List.setIfInBounds_toArray, List.set_cons_zero, List.set_cons_succ]
        refine wpAnyH_done (by kernel_rfl) ?_ _
        clear hHeld
        go_wp2_with fail
        exact ⟨⟨k + 1, by omega, by go_num, _, _, HF.out⟩, by simp [intOf]; omega⟩
      have d2 : (kd == 2) = false := by simpa using h2
      by_cases h3 : kd = 3
      · subst h3
        have cs := HTA.out.delC (by omega) OK.out
        obtain ⟨z, hz⟩ : ∃ z, (getL L nn).isSome = z := ⟨_, rfl⟩
        rw [hz] at cs
        clear hz ct
        go_upto_region 18 with fail
        obtain ⟨wD, hwD⟩ : ∃ wD, World.drew wA = wD := ⟨_, rfl⟩
        have fD : Fr [] wA wD := by rw [← hwD]; exact (Fr.refl [] _).drew
        clear cs
        have cs := (HTA.out.keep fD).delC (by omega) OK.out
        obtain ⟨z, hz⟩ : ∃ z, (getL L nn).isSome = z := ⟨_, rfl⟩
        rw [hz] at cs
        have cnD := fD.cell (by simp) cn
        refine wp_region_held_drew (S := fun w' => w'.cell? ⟨gA, 1, none⟩ = some (.int .i64 nn)) (by kernel_rfl) (by rw [hwD]; exact cnD) (fun hHeld => ?_)
        rw [hwD] at hHeld ⊢
        have hgD := fD.size
        clear hwD fD cn cnD hz
        refine take_w 0 (some 78) (v := ?_) rfl rfl (by kernel_rfl) (by kernel_rfl) (by kernel_rfl) (fun _ _ _ h => h) (by rfl) ?_ hHeld ?_
        rotate_left
        · (intro w hSw; (try dsimp only at hSw); go_simp; try with_reducible rfl)
        simp only [Act.put, List.setIfInBounds_toArray, List.set_cons_zero, List.set_cons_succ]
        refine take_w 1 (some 79) (v := ?_) rfl rfl (by kernel_rfl) (by kernel_rfl) (by kernel_rfl) (fun _ _ _ h => h) (by rfl) ?_ hHeld ?_
        rotate_left
        · (intro w hSw; (try dsimp only at hSw); go_simp; try with_reducible rfl)
        simp only [Act.put, List.setIfInBounds_toArray, List.set_cons_zero, List.set_cons_succ]
        refine take_w 2 (some 80) (v := ?_) rfl rfl (by kernel_rfl) (by kernel_rfl) (by kernel_rfl) (fun _ _ _ h => h) (by rfl) ?_ hHeld ?_
        rotate_left
        · (intro w hSw; (try dsimp only at hSw); go_simp; try with_reducible rfl)
        simp only [Act.put, List.setIfInBounds_toArray, List.set_cons_zero, List.set_cons_succ]
        refine take_w 4 (some 82) (v := ?_) rfl rfl (by kernel_rfl) (by kernel_rfl) (by kernel_rfl) (fun _ _ _ h => h) (by rfl) ?_ hHeld ?_
        rotate_left
        · (intro w hSw; (try dsimp only at hSw); go_simp; try with_reducible rfl)
        simp only [Act.put, List.setIfInBounds_toArray, List.set_cons_zero, List.set_cons_succ]
        refine take_w 5 (some 83) (v := ?_) rfl rfl (by kernel_rfl) (by kernel_rfl) (by kernel_rfl) (fun _ _ _ h => h) (by rfl) ?_ hHeld ?_
        rotate_left
        · (intro w hSw; (try dsimp only at hSw); go_simp; try with_reducible rfl)
        simp only [Act.put, List.setIfInBounds_toArray, List.set_cons_zero, List.set_cons_succ]
        refine take_w 6 (some 84) (v := ?_) rfl rfl (by kernel_rfl) (by kernel_rfl) (by kernel_rfl) (fun _ _ _ h => h) (by rfl) ?_ hHeld ?_
        rotate_left
        · (intro w hSw; (try dsimp only at hSw); go_simp; try with_reducible rfl)
        simp only [Act.put, List.setIfInBounds_toArray, List.set_cons_zero, List.set_cons_succ]
        refine take_c 3 rfl (by kernel_rfl) (by rfl) (fun K hK => ?_)
        go_simp
        refine cs.mono ?_
        rintro e w2 ⟨rfl, fb, cx⟩
        have cn := fb.cell (p := ⟨gA, 1, none⟩) (by simp; omega) hHeld
        replace cx := cx w2 (Fr.refl _ _)
        refine hK.out _ _ cn (fun hHx => ?_)
        clear hK cs hHeld hHx
        try simp only [Act.put, List.setIfInBounds_toArray, List.set_cons_zero, List.set_cons_succ]
        refine take_c 7 rfl (by kernel_rfl) (by rfl) (fun K hK => ?_)
        go_simp
        refine cx.mono ?_
        rintro e w5 ⟨rfl, hS, fq⟩
        have HQ := Lib.hid hS
        have hHeld := fq.cell (p := ⟨gA, 1, none⟩) (by simp; omega) cn
        refine hK.out _ _ hHeld (fun hHx => ?_)
        clear hK cx hS fq hHx cn
        try simp only [Act.put, List.setIfInBounds_toArray, List.set_cons_zero, List.set_cons_succ]
        refine take_w 8 (some 86) (v := ?_) rfl rfl (by kernel_rfl) (by kernel_rfl) (by kernel_rfl) (fun _ _ _ h => h) (by rfl) ?_ hHeld ?_
        rotate_left
        · (intro w hSw; (try dsimp only at hSw); go_simp; try with_reducible rfl)
        simp only [Act.put, List.setIfInBounds_toArray, List.set_cons_zero, List.set_cons_succ]
        refine take_w 9 (some 7) (v := ?_) rfl rfl (by kernel_rfl) (by kernel_rfl) (by kernel_rfl) (fun _ _ _ h => h) (by rfl) ?_ hHeld ?_
        rotate_left
        · (intro w hSw; (try dsimp only at hSw); go_simp; try with_reducible rfl)
        simp only [Act.put, List.setIfInBounds_toArray, List.set_cons_zero, List.set_cons_succ]
        refine wpAnyH_done (by kernel_rfl) ?_ _
        have cn := hHeld
        clear hHeld fb
        go_upto_region 22 with fail
        obtain ⟨A, cc, cq⟩ := HQ.out.qc
        obtain ⟨N, hN⟩ : ∃ N, (delL L nn).length = N := ⟨_, rfl⟩
        obtain ⟨wD, hwD⟩ : ∃ wD, World.drew w5 = wD := ⟨_, rfl⟩
        have fD : Fr [] w5 wD := by rw [← hwD]; exact (Fr.refl [] _).drew
        have cl := (HQ.out.keep fD).lenC
        have co := (HQ.out.keep fD).overC (by omega) nn
        rw [hN] at cl cq
        have HQD := Lib.hid (HQ.out.keep fD)
        have hSD : wD.cell? ⟨gA, 1, none⟩ = some (.int .i64 nn) ∧ wD.cell? ⟨q, 0, none⟩ = some (.slice A N cc) := ⟨fD.cell (by simp) cn, fD.cell (by simp) cq⟩
        refine wp_region_held_drew (S := fun w' => w'.cell? ⟨gA, 1, none⟩ = some (.int .i64 nn) ∧ w'.cell? ⟨q, 0, none⟩ = some (.slice A N cc)) (by kernel_rfl) (by rw [hwD]; exact hSD) (fun hHeld => ?_)
        rw [hwD] at hHeld ⊢
        clear hwD fD hSD cq cn
        refine take_w 0 (some 94) (v := ?_) rfl rfl (by kernel_rfl) (by kernel_rfl) (by kernel_rfl) (fun _ _ _ h => h) (by rfl) ?_ hHeld ?_
        rotate_left
        · (intro w hSw; (try dsimp only at hSw); go_simp; try with_reducible rfl)
        simp only [Act.put, List.setIfInBounds_toArray, List.set_cons_zero, List.set_cons_succ]
        refine take_w 1 (some 95) (v := ?_) rfl rfl (by kernel_rfl) (by kernel_rfl) (by kernel_rfl) (fun _ _ _ h => h) (by rfl) ?_ hHeld ?_
        rotate_left
        · (intro w hSw; (try dsimp only at hSw); go_simp; try with_reducible rfl)
        simp only [Act.put, List.setIfInBounds_toArray, List.set_cons_zero, List.set_cons_succ]
        refine take_w 2 (some 96) (v := ?_) rfl rfl (by kernel_rfl) (by kernel_rfl) (by kernel_rfl) (fun _ _ _ h => h) (by rfl) ?_ hHeld ?_
        rotate_left
        · (intro w hSw; (try dsimp only at hSw); go_simp; try with_reducible rfl)
        simp only [Act.put, List.setIfInBounds_toArray, List.set_cons_zero, List.set_cons_succ]
        refine take_w 3 (some 97) (v := ?_) rfl rfl (by kernel_rfl) (by kernel_rfl) (by kernel_rfl) (fun _ _ _ h => h) (by rfl) ?_ hHeld ?_
        rotate_left
        · (intro w hSw; (try dsimp only at hSw); go_simp; try with_reducible rfl)
        simp only [Act.put, List.setIfInBounds_toArray, List.set_cons_zero, List.set_cons_succ]
        refine take_w 5 (some 99) (v := ?_) rfl rfl (by kernel_rfl) (by kernel_rfl) (by kernel_rfl) (fun _ _ _ h => h) (by rfl) ?_ hHeld ?_
        rotate_left
        · (intro w hSw; (try dsimp only at hSw); go_simp; try with_reducible rfl)
        simp only [Act.put, List.setIfInBounds_toArray, List.set_cons_zero, List.set_cons_succ]
        refine take_w 6 (some 100) (v := ?_) rfl rfl (by kernel_rfl) (by kernel_rfl) (by kernel_rfl) (fun _ _ _ h => h) (by rfl) ?_ hHeld ?_
        rotate_left
        · (intro w hSw; (try dsimp only at hSw); go_simp; try with_reducible rfl)
        simp only [Act.put, List.setIfInBounds_toArray, List.set_cons_zero, List.set_cons_succ]
        refine take_w 7 (some 101) (v := ?_) rfl rfl (by kernel_rfl) (by kernel_rfl) (by kernel_rfl) (fun _ _ _ h => h) (by rfl) ?_ hHeld ?_
        rotate_left
        · (intro w hSw; (try dsimp only at hSw); go_simp; try with_reducible rfl)
        simp only [Act.put, List.setIfInBounds_toArray, List.set_cons_zero, List.set_cons_succ]
        refine take_w 8 (some 102) (v := ?_) rfl rfl (by kernel_rfl) (by kernel_rfl) (by kernel_rfl) (fun _ _ _ h => h) (by rfl) ?_ hHeld ?_
        rotate_left
        · (intro w hSw; (try dsimp only at hSw); go_simp; try with_reducible rfl)
        simp only [Act.put, List.setIfInBounds_toArray, List.set_cons_zero, List.set_cons_succ]
        refine take_w 9 (some 103) (v := ?_) rfl rfl (by kernel_rfl) (by kernel_rfl) (by kernel_rfl) (fun _ _ _ h => h) (by rfl) ?_ hHeld ?_
        rotate_left
        · (intro w hSw; (try dsimp only at hSw); go_simp; try with_reducible rfl)
        simp only [Act.put, List.setIfInBounds_toArray, List.set_cons_zero, List.set_cons_succ]
        refine take_c 4 rfl (by kernel_rfl) (by rfl) (fun K hK => ?_)
        go_simp
        refine cl.mono ?_
        rintro e w' ⟨rfl, rfl⟩
        refine hK.out _ _ hHeld (fun hHx => ?_)
        clear hK cl hHx
        try simp only [Act.put, List.setIfInBounds_toArray, List.set_cons_zero, List.set_cons_succ]
        refine take_w 10 (some 104) (v := ?_) rfl rfl (by kernel_rfl) (by kernel_rfl) (by kernel_rfl) (fun _ _ _ h => h) (by rfl) ?_ hHeld ?_
        rotate_left
        · (intro w hSw; (try dsimp only at hSw); go_simp; try with_reducible rfl)
        simp only [Act.put, List.setIfInBounds_toArray, List.set_cons_zero, List.set_cons_succ]
        refine take_w 11 (some 105) (v := ?_) rfl rfl (by kernel_rfl) (by kernel_rfl) (by kernel_rfl) (fun _ _ _ h => h) (by rfl) ?_ hHeld ?_
        rotate_left
        · (intro w hSw; (try dsimp only at hSw); go_simp; try with_reducible rfl)
        simp only [Act.put, List.setIfInBounds_toArray, List.set_cons_zero, List.set_cons_succ]
        refine take_w 12 (some 106) (v := ?_) rfl rfl (by kernel_rfl) (by kernel_rfl) (by kernel_rfl) (fun _ _ _ h => h) (by rfl) ?_ hHeld ?_
        rotate_left
        · (intro w hSw; (try dsimp only at hSw); go_simp; try with_reducible rfl)
        simp only [Act.put, List.setIfInBounds_toArray, List.set_cons_zero, List.set_cons_succ]
        refine take_w 13 (some 107) (v := ?_) rfl rfl (by kernel_rfl) (by kernel_rfl) (by kernel_rfl) (fun _ _ _ h => h) (by rfl) ?_ hHeld ?_
        rotate_left
        · (intro w hSw; (try dsimp only at hSw); go_simp; try with_reducible rfl)
        simp only [Act.put, List.setIfInBounds_toArray, List.set_cons_zero, List.set_cons_succ]
        refine take_w 14 (some 108) (v := ?_) rfl rfl (by kernel_rfl) (by kernel_rfl) (by kernel_rfl) (fun _ _ _ h => h) (by rfl) ?_ hHeld ?_
        rotate_left
        · (intro w hSw; (try dsimp only at hSw); go_simp; try with_reducible rfl)
        simp only [Act.put, List.setIfInBounds_toArray, List.set_cons_zero, List.set_cons_succ]
        refine take_w 15 (some 109) (v := ?_) rfl rfl (by kernel_rfl) (by kernel_rfl) (by kernel_rfl) (fun _ _ _ h => h) (by rfl) ?_ hHeld ?_
        rotate_left
        · (intro w hSw; (try dsimp only at hSw); go_simp; try with_reducible rfl)
        simp only [Act.put, List.setIfInBounds_toArray, List.set_cons_zero, List.set_cons_succ]
        refine take_w 16 (some 110) (v := ?_) rfl rfl (by kernel_rfl) (by kernel_rfl) (by kernel_rfl) (fun _ _ _ h => h) (by rfl) ?_ hHeld ?_
        rotate_left
        · (intro w hSw; (try dsimp only at hSw); go_simp; try with_reducible rfl)
        simp only [Act.put, List.setIfInBounds_toArray, List.set_cons_zero, List.set_cons_succ]
        refine take_c 17 rfl (by kernel_rfl) (by rfl) (fun K hK => ?_)
        go_simp
        refine co.mono ?_
        rintro e w' ⟨rfl, fo⟩
        refine hK.out _ _ ⟨fo.cell (by simp) hHeld.1, fo.cell (by simp) hHeld.2⟩ (fun hHx => ?_)
        have HF := Lib.hid (HQD.out.keep fo)
        clear hK co hHeld fo
        have hHeld := hHx
        clear hHx
        try simp only [Act.put, List.setIfInBounds_toArray, List.set_cons_zero, List.set_cons_succ]
        refine take_w 18 (some 112) (v := ?_) rfl rfl (by kernel_rfl) (by kernel_rfl) (by kernel_rfl) (fun _ _ _ h => h) (by rfl) ?_ hHeld ?_
        rotate_left
        · (intro w hSw; (try dsimp only at hSw); go_simp; try with_reducible rfl)
        simp only [Act.put, List.setIfInBounds_toArray, List.set_cons_zero, List.set_cons_succ]
        refine take_w 19 (some 113) (v := ?_) rfl rfl (by kernel_rfl) (by kernel_rfl) (by kernel_rfl) (fun _ _ _ h => h) (by rfl) ?_ hHeld ?_
        rotate_left
        · (intro w hSw; (try dsimp only at hSw); go_simp; try with_reducible rfl)
        simp only [Act.put, List.setIfInBounds_toArray, List.set_cons_zero, List.set_cons_succ]
        refine wpAnyH_done (by kernel_rfl) ?_ _
        clear hHeld
        go_wp2_with fail
        exact ⟨⟨k + 1, by omega, by go_num, _, _, HF.out⟩, by simp [intOf]; omega⟩
      have d3 : (kd == 3) = false := by simpa using h3
      by_cases h4 : kd = 4
      · subst h4
        have cs := HTA.out.clrC
        go_wp2_with fail
        refine cs.mono ?_
        rintro e w2 ⟨rfl, fb, v, cq, zq, hS⟩
        replace cn := fb.cell (by simp; omega) cn
        have HQ := Lib.hid hS
        replace cn := (show Fr [q] w2 (w2.setCell ⟨q, 0, none⟩ (.slice none 0 0)) from (Fr.refl _ _).setCell (.inl (by simp)) _).cell (p := ⟨gA, 1, none⟩) (by simp; omega) cn
        clear cs hS ct
        go_upto_region 22 with fail
        obtain ⟨wS, hwS⟩ : ∃ x, w2.setCell ⟨q, 0, none⟩ (.slice none 0 0) = x := ⟨_, rfl⟩
        rw [hwS] at HQ cn ⊢
        clear hwS cq zq
        go_upto_region 22 with fail
        obtain ⟨A, cc, cq⟩ := HQ.out.qc
        obtain ⟨N, hN⟩ : ∃ N, ([] : List PairB).length = N := ⟨_, rfl⟩
        obtain ⟨wD, hwD⟩ : ∃ wD, World.drew wS = wD := ⟨_, rfl⟩
        have fD : Fr [] wS wD := by rw [← hwD]; exact (Fr.refl [] _).drew
        have cl := (HQ.out.keep fD).lenC
        have co := (HQ.out.keep fD).overC (by omega) nn
        rw [hN] at cl cq
        have HQD := Lib.hid (HQ.out.keep fD)
        have hSD : wD.cell? ⟨gA, 1, none⟩ = some (.int .i64 nn) ∧ wD.cell? ⟨q, 0, none⟩ = some (.slice A N cc) := ⟨fD.cell (by simp) cn, fD.cell (by simp) cq⟩
        refine wp_region_held_drew (S := fun w' => w'.cell? ⟨gA, 1, none⟩ = some (.int .i64 nn) ∧ w'.cell? ⟨q, 0, none⟩ = some (.slice A N cc)) (by kernel_rfl) (by rw [hwD]; exact hSD) (fun hHeld => ?_)
        rw [hwD] at hHeld ⊢
        clear hwD fD hSD cq cn
        refine take_w 0 (some 94) (v := ?_) rfl rfl (by kernel_rfl) (by kernel_rfl) (by kernel_rfl) (fun _ _ _ h => h) (by rfl) ?_ hHeld ?_
        rotate_left
        · (intro w hSw; (try dsimp only at hSw); go_simp; try with_reducible rfl)
        simp only [Act.put, List.setIfInBounds_toArray, List.set_cons_zero, List.set_cons_succ]
        refine take_w 1 (some 95) (v := ?_) rfl rfl (by kernel_rfl) (by kernel_rfl) (by kernel_rfl) (fun _ _ _ h => h) (by rfl) ?_ hHeld ?_
        rotate_left
        · (intro w hSw; (try dsimp only at hSw); go_simp; try with_reducible rfl)
        simp only [Act.put, List.setIfInBounds_toArray, List.set_cons_zero, List.set_cons_succ]
        refine take_w 2 (some 96) (v := ?_) rfl rfl (by kernel_rfl) (by kernel_rfl) (by kernel_rfl) (fun _ _ _ h => h) (by rfl) ?_ hHeld ?_
        rotate_left
        · (intro w hSw; (try dsimp only at hSw); go_simp; try with_reducible rfl)
        simp only [Act.put, List.setIfInBounds_toArray, List.set_cons_zero, List.set_cons_succ]
        refine take_w 3 (some 97) (v := ?_) rfl rfl (by kernel_rfl) (by kernel_rfl) (by kernel_rfl) (fun _ _ _ h => h) (by rfl) ?_ hHeld ?_
        rotate_left
        · (intro w hSw; (try dsimp only at hSw); go_simp; try with_reducible rfl)
        simp only [Act.put, List.setIfInBounds_toArray, List.set_cons_zero, List.set_cons_succ]
        refine take_w 5 (some 99) (v := ?_) rfl rfl (by kernel_rfl) (by kernel_rfl) (by kernel_rfl) (fun _ _ _ h => h) (by rfl) ?_ hHeld ?_
        rotate_left
        · (intro w hSw; (try dsimp only at hSw); go_simp; try with_reducible rfl)
        simp only [Act.put, List.setIfInBounds_toArray, List.set_cons_zero, List.set_cons_succ]
        refine take_w 6 (some 100) (v := ?_) rfl rfl (by kernel_rfl) (by kernel_rfl) (by kernel_rfl) (fun _ _ _ h => h) (by rfl) ?_ hHeld ?_
        rotate_left
        · (intro w hSw; (try dsimp only at hSw); go_simp; try with_reducible rfl)
        simp only [Act.put, List.setIfInBounds_toArray, List.set_cons_zero, List.set_cons_succ]
        refine take_w 7 (some 101) (v := ?_) rfl rfl (by kernel_rfl) (by kernel_rfl) (by kernel_rfl) (fun _ _ _ h => h) (by rfl) ?_ hHeld ?_
        rotate_left
        · (intro w hSw; (try dsimp only at hSw); go_simp; try with_reducible rfl)
        simp only [Act.put, List.setIfInBounds_toArray, List.set_cons_zero, List.set_cons_succ]
        refine take_w 8 (some 102) (v := ?_) rfl rfl (by kernel_rfl) (by kernel_rfl) (by kernel_rfl) (fun _ _ _ h => h) (by rfl) ?_ hHeld ?_
        rotate_left
        · (intro w hSw; (try dsimp only at hSw); go_simp; try with_reducible rfl)
        simp only [Act.put, List.setIfInBounds_toArray, List.set_cons_zero, List.set_cons_succ]
        refine take_w 9 (some 103) (v := ?_) rfl rfl (by kernel_rfl) (by kernel_rfl) (by kernel_rfl) (fun _ _ _ h => h) (by rfl) ?_ hHeld ?_
        rotate_left
        · (intro w hSw; (try dsimp only at hSw); go_simp; try with_reducible rfl)
        simp only [Act.put, List.setIfInBounds_toArray, List.set_cons_zero, List.set_cons_succ]
        refine take_c 4 rfl (by kernel_rfl) (by rfl) (fun K hK => ?_)
        go_simp
        refine cl.mono ?_
        rintro e w' ⟨rfl, rfl⟩
        refine hK.out _ _ hHeld (fun hHx => ?_)
        clear hK cl hHx
        try simp only [Act.put, List.setIfInBounds_toArray, List.set_cons_zero, List.set_cons_succ]
        refine take_w 10 (some 104) (v := ?_) rfl rfl (by kernel_rfl) (by kernel_rfl) (by kernel_rfl) (fun _ _ _ h => h) (by rfl) ?_ hHeld ?_
        rotate_left
        · (intro w hSw; (try dsimp only at hSw); go_simp; try with_reducible rfl)
        simp only [Act.put, List.setIfInBounds_toArray, List.set_cons_zero, List.set_cons_succ]
        refine take_w 11 (some 105) (v := ?_) rfl rfl (by kernel_rfl) (by kernel_rfl) (by kernel_rfl) (fun _ _ _ h => h) (by rfl) ?_ hHeld ?_
        rotate_left
        · (intro w hSw; (try dsimp only at hSw); go_simp; try with_reducible rfl)
        simp only [Act.put, List.setIfInBounds_toArray, List.set_cons_zero, List.set_cons_succ]
        refine take_w 12 (some 106) (v := ?_) rfl rfl (by kernel_rfl) (by kernel_rfl) (by kernel_rfl) (fun _ _ _ h => h) (by rfl) ?_ hHeld ?_
        rotate_left
        · (intro w hSw; (try dsimp only at hSw); go_simp; try with_reducible rfl)
        simp only [Act.put, List.setIfInBounds_toArray, List.set_cons_zero, List.set_cons_succ]
        refine take_w 13 (some 107) (v := ?_) rfl rfl (by kernel_rfl) (by kernel_rfl) (by kernel_rfl) (fun _ _ _ h => h) (by rfl) ?_ hHeld ?_
        rotate_left
        · (intro w hSw; (try dsimp only at hSw); go_simp; try with_reducible rfl)
        simp only [Act.put, List.setIfInBounds_toArray, List.set_cons_zero, List.set_cons_succ]
        refine take_w 14 (some 108) (v := ?_) rfl rfl (by kernel_rfl) (by kernel_rfl) (by kernel_rfl) (fun _ _ _ h => h) (by rfl) ?_ hHeld ?_
        rotate_left
        · (intro w hSw; (try dsimp only at hSw); go_simp; try with_reducible rfl)
        simp only [Act.put, List.setIfInBounds_toArray, List.set_cons_zero, List.set_cons_succ]
        refine take_w 15 (some 109) (v := ?_) rfl rfl (by kernel_rfl) (by kernel_rfl) (by kernel_rfl) (fun _ _ _ h => h) (by rfl) ?_ hHeld ?_
        rotate_left
        · (intro w hSw; (try dsimp only at hSw); go_simp; try with_reducible rfl)
        simp only [Act.put, List.setIfInBounds_toArray, List.set_cons_zero, List.set_cons_succ]
        refine take_w 16 (some 110) (v := ?_) rfl rfl (by kernel_rfl) (by kernel_rfl) (by kernel_rfl) (fun _ _ _ h => h) (by rfl) ?_ hHeld ?_
        rotate_left
        · (intro w hSw; (try dsimp only at hSw); go_simp; try with_reducible rfl)
        simp only [Act.put, List.setIfInBounds_toArray, List.set_cons_zero, List.set_cons_succ]
        refine take_c 17 rfl (by kernel_rfl) (by rfl) (fun K hK => ?_)
        go_simp
        refine co.mono ?_
        rintro e w' ⟨rfl, fo⟩
        refine hK.out _ _ ⟨fo.cell (by simp) hHeld.1, fo.cell (by simp) hHeld.2⟩ (fun hHx => ?_)
        have HF := Lib.hid (HQD.out.keep fo)
        clear hK co hHeld fo
        have hHeld := hHx
        clear hHx
        try simp only [Act.put, List.setIfInBounds_toArray, List.set_cons_zero, List.set_cons_succ]
        refine take_w 18 (some 112) (v := ?_) rfl rfl (by kernel_rfl) (by kernel_rfl) (by kernel_rfl) (fun _ _ _ h => h) (by rfl) ?_ hHeld ?_
        rotate_left
        · (intro w hSw; (try dsimp only at hSw); go_simp; try with_reducible rfl)
        simp only [Act.put, List.setIfInBounds_toArray, List.set_cons_zero, List.set_cons_succ]
        refine take_w 19 (some 113) (v := ?_) rfl rfl (by kernel_rfl) (by kernel_rfl) (by kernel_rfl) (fun _ _ _ h => h) (by rfl) ?_ hHeld ?_
        rotate_left
        · (intro w hSw; (try dsimp only at hSw); go_simp; try with_reducible rfl)
        simp only [Act.put, List.setIfInBounds_toArray, List.set_cons_zero, List.set_cons_succ]
        refine wpAnyH_done (by kernel_rfl) ?_ _
        clear hHeld
        go_wp2_with fail
        exact ⟨⟨k + 1, by omega, by go_num, _, _, HF.out⟩, by simp [intOf]; omega⟩
      have d4 : (kd == 4) = false := by simpa using h4
      have HQ := Lib.hid (HTA.out.mono (Nat.le_succ k))
      go_upto_region 22 with fail
      obtain ⟨A, cc, cq⟩ := HQ.out.qc
      obtain ⟨N, hN⟩ : ∃ N, L.length = N := ⟨_, rfl⟩
      obtain ⟨wD, hwD⟩ : ∃ wD, World.drew wA = wD := ⟨_, rfl⟩
      have fD : Fr [] wA wD := by rw [← hwD]; exact (Fr.refl [] _).drew
      have cl := (HQ.out.keep fD).lenC
      have co := (HQ.out.keep fD).overC (by omega) nn
      rw [hN] at cl cq
      have HQD := Lib.hid (HQ.out.keep fD)
      have hSD : wD.cell? ⟨gA, 1, none⟩ = some (.int .i64 nn) ∧ wD.cell? ⟨q, 0, none⟩ = some (.slice A N cc) := ⟨fD.cell (by simp) cn, fD.cell (by simp) cq⟩
      refine wp_region_held_drew (S := fun w' => w'.cell? ⟨gA, 1, none⟩ = some (.int .i64 nn) ∧ w'.cell? ⟨q, 0, none⟩ = some (.slice A N cc)) (by kernel_rfl) (by rw [hwD]; exact hSD) (fun hHeld => ?_)
      rw [hwD] at hHeld ⊢
      clear hwD fD hSD cq cn
      refine take_w 0 (some 94) (v := ?_) rfl rfl (by kernel_rfl) (by kernel_rfl) (by kernel_rfl) (fun _ _ _ h => h) (by rfl) ?_ hHeld ?_
      rotate_left
      · (intro w hSw; (try dsimp only at hSw); go_simp; try with_reducible rfl)
      simp only [Act.put, List.setIfInBounds_toArray, List.set_cons_zero, List.set_cons_succ]
      refine take_w 1 (some 95) (v := ?_) rfl rfl (by kernel_rfl) (by kernel_rfl) (by kernel_rfl) (fun _ _ _ h => h) (by rfl) ?_ hHeld ?_
      rotate_left
      · (intro w hSw; (try dsimp only at hSw); go_simp; try with_reducible rfl)
      simp only [Act.put, List.setIfInBounds_toArray, List.set_cons_zero, List.set_cons_succ]
      refine take_w 2 (some 96) (v := ?_) rfl rfl (by kernel_rfl) (by kernel_rfl) (by kernel_rfl) (fun _ _ _ h => h) (by rfl) ?_ hHeld ?_
      rotate_left
      · (intro w hSw; (try dsimp only at hSw); go_simp; try with_reducible rfl)
      simp only [Act.put, List.setIfInBounds_toArray, List.set_cons_zero, List.set_cons_succ]
      refine take_w 3 (some 97) (v := ?_) rfl rfl (by kernel_rfl) (by kernel_rfl) (by kernel_rfl) (fun _ _ _ h => h) (by rfl) ?_ hHeld ?_
      rotate_left
      · (intro w hSw; (try dsimp only at hSw); go_simp; try with_reducible rfl)
      simp only [Act.put, List.setIfInBounds_toArray, List.set_cons_zero, List.set_cons_succ]
      refine take_w 5 (some 99) (v := ?_) rfl rfl (by kernel_rfl) (by kernel_rfl) (by kernel_rfl) (fun _ _ _ h => h) (by rfl) ?_ hHeld ?_
      rotate_left
      · (intro w hSw; (try dsimp only at hSw); go_simp; try with_reducible rfl)
      simp only [Act.put, List.setIfInBounds_toArray, List.set_cons_zero, List.set_cons_succ]
      refine take_w 6 (some 100) (v := ?_) rfl rfl (by kernel_rfl) (by kernel_rfl) (by kernel_rfl) (fun _ _ _ h => h) (by rfl) ?_ hHeld ?_
      rotate_left
      · (intro w hSw; (try dsimp only at hSw); go_simp; try with_reducible rfl)
      simp only [Act.put, List.setIfInBounds_toArray, List.set_cons_zero, List.set_cons_succ]
      refine take_w 7 (some 101) (v := ?_) rfl rfl (by kernel_rfl) (by kernel_rfl) (by kernel_rfl) (fun _ _ _ h => h) (by rfl) ?_ hHeld ?_
      rotate_left
      · (intro w hSw; (try dsimp only at hSw); go_simp; try with_reducible rfl)
      simp only [Act.put, List.setIfInBounds_toArray, List.set_cons_zero, List.set_cons_succ]
      refine take_w 8 (some 102) (v := ?_) rfl rfl (by kernel_rfl) (by kernel_rfl) (by kernel_rfl) (fun _ _ _ h => h) (by rfl) ?_ hHeld ?_
      rotate_left
      · (intro w hSw; (try dsimp only at hSw); go_simp; try with_reducible rfl)
      simp only [Act.put, List.setIfInBounds_toArray, List.set_cons_zero, List.set_cons_succ]
      refine take_w 9 (some 103) (v := ?_) rfl rfl (by kernel_rfl) (by kernel_rfl) (by kernel_rfl) (fun _ _ _ h => h) (by rfl) ?_ hHeld ?_
      rotate_left
      · (intro w hSw; (try dsimp only at hSw); go_simp; try with_reducible rfl)
      simp only [Act.put, List.setIfInBounds_toArray, List.set_cons_zero, List.set_cons_succ]
      refine take_c 4 rfl (by kernel_rfl) (by rfl) (fun K hK => ?_)
      go_simp
      refine cl.mono ?_
      rintro e w' ⟨rfl, rfl⟩
      refine hK.out _ _ hHeld (fun hHx => ?_)
      clear hK cl hHx
      try simp only [Act.put, List.setIfInBounds_toArray, List.set_cons_zero, List.set_cons_succ]
      refine take_w 10 (some 104) (v := ?_) rfl rfl (by kernel_rfl) (by kernel_rfl) (by kernel_rfl) (fun _ _ _ h => h) (by rfl) ?_ hHeld ?_
      rotate_left
      · (intro w hSw; (try dsimp only at hSw); go_simp; try with_reducible rfl)
      simp only [Act.put, List.setIfInBounds_toArray, List.set_cons_zero, List.set_cons_succ]
      refine take_w 11 (some 105) (v := ?_) rfl rfl (by kernel_rfl) (by kernel_rfl) (by kernel_rfl) (fun _ _ _ h => h) (by rfl) ?_ hHeld ?_
      rotate_left
      · (intro w hSw; (try dsimp only at hSw); go_simp; try with_reducible rfl)
      simp only [Act.put, List.setIfInBounds_toArray, List.set_cons_zero, List.set_cons_succ]
      refine take_w 12 (some 106) (v := ?_) rfl rfl (by kernel_rfl) (by kernel_rfl) (by kernel_rfl) (fun _ _ _ h => h) (by rfl) ?_ hHeld ?_
      rotate_left
      · (intro w hSw; (try dsimp only at hSw); go_simp; try with_reducible rfl)
      simp only [Act.put, List.setIfInBounds_toArray, List.set_cons_zero, List.set_cons_succ]
      refine take_w 13 (some 107) (v := ?_) rfl rfl (by kernel_rfl) (by kernel_rfl) (by kernel_rfl) (fun _ _ _ h => h) (by rfl) ?_ hHeld ?_
      rotate_left
      · (intro w hSw; (try dsimp only at hSw); go_simp; try with_reducible rfl)
      simp only [Act.put, List.setIfInBounds_toArray, List.set_cons_zero, List.set_cons_succ]
      refine take_w 14 (some 108) (v := ?_) rfl rfl (by kernel_rfl) (by kernel_rfl) (by kernel_rfl) (fun _ _ _ h => h) (by rfl) ?_ hHeld ?_
      rotate_left
      · (intro w hSw; (try dsimp only at hSw); go_simp; try with_reducible rfl)
      simp only [Act.put, List.setIfInBounds_toArray, List.set_cons_zero, List.set_cons_succ]
      refine take_w 15 (some 109) (v := ?_) rfl rfl (by kernel_rfl) (by kernel_rfl) (by kernel_rfl) (fun _ _ _ h => h) (by rfl) ?_ hHeld ?_
      rotate_left
      · (intro w hSw; (try dsimp only at hSw); go_simp; try with_reducible rfl)
      simp only [Act.put, List.setIfInBounds_toArray, List.set_cons_zero, List.set_cons_succ]
      refine take_w 16 (some 110) (v := ?_) rfl rfl (by kernel_rfl) (by kernel_rfl) (by kernel_rfl) (fun _ _ _ h => h) (by rfl) ?_ hHeld ?_
      rotate_left
      · (intro w hSw; (try dsimp only at hSw); go_simp; try with_reducible rfl)
      simp only [Act.put, List.setIfInBounds_toArray, List.set_cons_zero, List.set_cons_succ]
      refine take_c 17 rfl (by kernel_rfl) (by rfl) (fun K hK => ?_)
      go_simp
      refine co.mono ?_
      rintro e w' ⟨rfl, fo⟩
      refine hK.out _ _ ⟨fo.cell (by simp) hHeld.1, fo.cell (by simp) hHeld.2⟩ (fun hHx => ?_)
      have HF := Lib.hid (HQD.out.keep fo)
      clear hK co hHeld fo
      have hHeld := hHx
      clear hHx
      try simp only [Act.put, List.setIfInBounds_toArray, List.set_cons_zero, List.set_cons_succ]
      refine take_w 18 (some 112) (v := ?_) rfl rfl (by kernel_rfl) (by kernel_rfl) (by kernel_rfl) (fun _ _ _ h => h) (by rfl) ?_ hHeld ?_
      rotate_left
      · (intro w hSw; (try dsimp only at hSw); go_simp; try with_reducible rfl)
      simp only [Act.put, List.setIfInBounds_toArray, List.set_cons_zero, List.set_cons_succ]
      refine take_w 19 (some 113) (v := ?_) rfl rfl (by kernel_rfl) (by kernel_rfl) (by kernel_rfl) (fun _ _ _ h => h) (by rfl) ?_ hHeld ?_
      rotate_left
      · (intro w hSw; (try dsimp only at hSw); go_simp; try with_reducible rfl)
      simp only [Act.put, List.setIfInBounds_toArray, List.set_cons_zero, List.set_cons_succ]
      refine wpAnyH_done (by kernel_rfl) ?_ _
      clear hHeld
      go_wp2_with fail
      exact ⟨⟨k + 1, by omega, by go_num, _, _, HF.out⟩, by simp [intOf]; omega⟩
    · obtain rfl : k = n := by omega
      have d0 : ¬ ((k : Int) < k) := by omega
      have co := hT.overC (by omega) 1
      have HT := Lib.hid hT
      clear hT
      go_wp2_with fail
      refine co.mono ?_
      rintro e w7 ⟨rfl, f7⟩
      go_wp2_with fail
      go_ret
      exact ⟨rfl, HT.out.fr.trans_nil f7⟩
end Go.Proofs.Ytdhhnioklbnicaa
