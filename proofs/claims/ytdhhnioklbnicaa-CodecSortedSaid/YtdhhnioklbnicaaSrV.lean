/-
  Sorted and its reference: over: all values are gone over, again and again.
-/
import Derived.Test.YtdhhnioklbnicaaSrP
import Derived.Test.YtdhhnioklbnicaaDkF
import Derived.Test.YtdhhnioklbnicaaRngB
import Derived.Handy
import Derived.Sort.CutIn
import Derived.Sort.QuietIn
import Derived.BigQuiet
import Derived.Deep.QuietTactic
set_option linter.unusedSimpArgs false
set_option linter.unusedVariables false
set_option linter.unnecessarySimpa false
namespace Go.Proofs.Ytdhhnioklbnicaa
open Go.RowKit Go.Shelf
attribute [local go_sem] Oper.semAt_some encP
theorem eqFn (cs : Array Value) (w : World) : (binOp .eql 62 (.func (.func 62) #[] cs) .nilFunc).run Try.prog w = .ok (.bool false) w := by kernel_rfl
set_option maxRecDepth 100000

theorem fr_putObj {w : World} {D : Nat} (o : Obj) : Fr [D] w (w.putObj D o) := ⟨rfl, rfl, rfl, by simp [World.putObj], fun k _ hF => World.putObj_heap_other (by simpa using hF)⟩
/-- The three marks are taken, last first. -/
theorem over_end {w W : World} {D1 D2 D3 g : Nat} {t : TypeId} {v u : Value} (k : Blk W g t #[v]) (f : Fr [] w W) (h1 : W.heap[D1]? = some (.deferred (some []))) (h2 : W.heap[D2]? = some (.deferred (some []))) (h3 : W.heap[D3]? = some (.deferred (some [])))
    (a1 : w.heap.size ≤ g) (a2 : g < D1) (a3 : D1 < D2) (a4 : D2 < D3) :
    ∃ X Y Z : World, (W.setCell ⟨g, 0, none⟩ u).heap[D3]? = some (.deferred (some [])) ∧ (W.setCell ⟨g, 0, none⟩ u).putObj D3 (.deferred none) = X ∧ X.heap[D2]? = some (.deferred (some [])) ∧ X.putObj D2 (.deferred none) = Y ∧ Y.heap[D1]? = some (.deferred (some [])) ∧ Y.putObj D1 (.deferred none) = Z ∧
      Z.cell? ⟨g, 0, none⟩ = some u ∧ Fr [] w Z := by
  have f1 : Fr [g] W (W.setCell ⟨g, 0, none⟩ u) := (Fr.refl _ _).setCell (.inl (by simp)) _
  have k1 : Blk (W.setCell ⟨g, 0, none⟩ u) g t #[u] := by simpa using k.set_ 0 u
  have hw := f.size
  refine ⟨_, _, _, f1.blk (by simp; omega) h3, rfl, (fr_putObj _).blk (by simp; omega) (f1.blk (by simp; omega) h2), rfl, (fr_putObj _).blk (by simp; omega) ((fr_putObj _).blk (by simp; omega) (f1.blk (by simp; omega) h1)), rfl, ?_, ?_⟩
  · exact (fr_putObj _).cell (by simp; omega) ((fr_putObj _).cell (by simp; omega) ((fr_putObj _).cell (by simp; omega) (k1.cell 0)))
  · exact (((f.trans f1 (fun i hi => .inr (by have := List.mem_singleton.1 hi; omega))).trans (fr_putObj _) (fun i hi => .inr (by have := List.mem_singleton.1 hi; omega))).trans (fr_putObj _) (fun i hi => .inr (by have := List.mem_singleton.1 hi; omega))).trans (fr_putObj _) (fun i hi => .inr (by have := List.mem_singleton.1 hi; omega))
/-- All of nil: no rounds. -/
theorem srtAll1_none (m : Nat) (g : Nat) {f : Int → Option Value} {Kp : World → World → Prop} (w : World) (hc : w.cell? ⟨g, 0, none⟩ = some (.pointer none)) (hgl : g < w.heap.size) :
    SeqStopsK Fence.wide m Try.prog 62 #[.pointer (some ⟨g, 0, none⟩)] (encP f) Kp (fun xs => xs = []) (fun _ => False) 0 w := fun l J Jx W hW hJ _ hY h0 => by
  have hc' : W.cell? ⟨g, 0, none⟩ = some (.pointer none) := (hW.cell (p := ⟨g, 0, none⟩) hgl).trans hc
  have HJ := Lib.hid h0
  clear hY hJ h0 hW hc
  refine callsIn_of_wp Try.func62 rfl trivial ?_ rfl
  simp only [Try.ntmps62, List.size_toArray, List.length_cons, List.length_nil, Nat.reduceAdd, Nat.reduceSub, Array.replicate_succ, Array.replicate_zero, List.push_toArray, List.append_toArray, List.nil_append, List.cons_append]
  gi_wp2
  refine bodyPost_ret (results_none rfl _ _ _) rfl ?_
  exact ⟨⟨_, rfl⟩, .inl ⟨_, rfl, HJ.out⟩⟩

def BadP (f : Int → Option Value) (L : List PairB) (pre : List (PairF f)) : Prop := ∃ pre' x, pre = pre' ++ [x] ∧ ∀ h : pre'.length < L.length, x.1 ≠ (L[pre'.length].1, .string L[pre'.length].2)
theorem BadP.no {f : Int → Option Value} {L : List PairB} (h : RelS f L) {pre : List (PairF f)} (hp : pre <+: pairsF h.keys) (hb : BadP f L pre) : False := by
  obtain ⟨pre', x, rfl, hx⟩ := hb
  have hle := hp.length_le
  rw [pairsF_len, List.length_append, List.length_map] at hle
  have hk : pre'.length < L.length := by simp at hle; omega
  obtain ⟨y, e1, e2⟩ := pairsF_rel h hk
  obtain ⟨t, ht⟩ := hp
  have : (pairsF h.keys)[pre'.length]? = some x := by
    rw [← ht]
    simp
  rw [e1] at this
  cases this
  exact hx hk e2
/-- Between two rounds. -/
def OvI (wL : World) (g8 : Nat) (f : Int → Option Value) (pre : List (PairF f)) (W : World) : Prop := Blk W g8 3 #[.int .i64 pre.length] ∧ Fr [g8] wL W
def OvX (wL : World) (g8 : Nat) (f : Int → Option Value) (L : List PairB) (most rd : Int) (c : Code) (pre : List (PairF f)) (W : World) : Prop := (c = .ret ∧ BadP f L pre) ∨ (c = .exit 2 ∧ (pre.length : Int) = most ∧ rd = 0 ∧ OvI wL g8 f pre W)
theorem ovI_own {wL : World} {g8 : Nat} {f : Int → Option Value} : OwnFrom wL.heap.size (OvI wL g8 f) := OwnFrom.and (ownFrom_blk (cs := fun (pre : List (PairF f)) => #[.int .i64 pre.length])) ownFrom_fr
theorem ovX_own {wL : World} {g8 : Nat} {f : Int → Option Value} {L : List PairB} {most rd : Int} (c : Code) : OwnFrom wL.heap.size (OvX wL g8 f L most rd c) := fun s W W' row hs hg hr => by
  rcases hs with h | ⟨h1, h2, h3, h4⟩
  · exact .inl h
  · exact .inr ⟨h1, h2, h3, ovI_own s W W' row h4 hg hr⟩
theorem ovI_next {wL W wD : World} {g8 k : Nat} {f : Int → Option Value} {pre : List (PairF f)} {x : PairF f} (h : OvI wL g8 f pre W) (hk : pre.length = k) (f0 : Fr [] W wD) :
    KeepsOthers W (wD.setCell ⟨g8, 0, none⟩ (.int .i64 ((k : Int) + 1))) ∧ KeepC [g8] wL.heap.size W (wD.setCell ⟨g8, 0, none⟩ (.int .i64 ((k : Int) + 1))) ∧ OvI wL g8 f (pre ++ [x]) (wD.setCell ⟨g8, 0, none⟩ (.int .i64 ((k : Int) + 1))) := by
  have f1 : Fr [g8] W (wD.setCell ⟨g8, 0, none⟩ (.int .i64 ((k : Int) + 1))) := (f0.mono (by simp)).setCell (.inl (by simp)) _
  refine ⟨keepsO_of_fr f1 (fun j hj o ho => ?_), KeepC.of_fr f1, ?_, h.2.trans f1 (fun i hi => .inl hi)⟩
  · rw [List.mem_singleton.1 hj] at ho
    have hb := h.1
    unfold Blk at hb
    rw [hb] at ho
    cases ho
    rfl
  · have := (h.1.keep_nil f0).set_ 0 (.int .i64 ((k : Int) + 1))
    rw [List.length_append, hk]
    simpa using this
section
variable {w w' : World} {p b n q : Nat} {O : List Nat} {f : Int → Option Value} {L : List PairB}
set_option maxHeartbeats 4000000 in
theorem over_any (h : SrtW w p b n f) (hx : XsD w q O L) (hr : RelS f L) (hn : n ≤ 17592186044416) (most : Int) :
    Calls Try.prog 36 #[.pointer (some ⟨p, 0, none⟩), .pointer (some ⟨q, 0, none⟩), .int .i64 most] w fun e w' => e = .returned (.bool true) ∧ Fr [] w w' := by
  have eF := eqFn
  refine (callsIn_wide (n := 5)).1 ?_
  refine callsIn_of_wp_marks Try.func36 rfl trivial ?_ rfl
  simp only [Try.ntmps36, List.size_toArray, List.length_cons, List.length_nil, Nat.reduceAdd, Nat.reduceSub, Array.replicate_succ, Array.replicate_zero, List.push_toArray, List.append_toArray, List.nil_append, List.cons_append]
  refine wpIn_wide.2 ?_
  go_wp2_with fail
  obtain ⟨k4, k5, k6, f3⟩ := boxes3 w 57 3 4 (.pointer (some ⟨q, 0, none⟩)) (.int .i64 most) (.bool false)
  have z3 : (((w.alloc (.cells #[.pointer (some ⟨q, 0, none⟩)] 57)).alloc (.cells #[.int .i64 most] 3)).alloc (.cells #[.bool false] 4)).heap.size = w.heap.size + 1 + 1 + 1 := by simp
  obtain ⟨w3, hw3⟩ : ∃ x, ((w.alloc (.cells #[.pointer (some ⟨q, 0, none⟩)] 57)).alloc (.cells #[.int .i64 most] 3)).alloc (.cells #[.bool false] 4) = x := ⟨_, rfl⟩
  rw [hw3] at k4 k5 k6 f3 z3 ⊢
  have k7 := Blk.new w3 3 #[.int .i64 0]
  have f4 : Fr [] w3 (w3.alloc (.cells #[.int .i64 0] 3)) := (Fr.refl _ _).alloc _
  obtain ⟨wr, hwr⟩ : ∃ x, w3.alloc (.cells #[.int .i64 0] 3) = x := ⟨_, rfl⟩
  rw [hwr, z3] at k7
  rw [hwr] at f4 ⊢
  replace k4 := k4.keep_nil f4
  replace k5 := k5.keep_nil f4
  replace k6 := k6.keep_nil f4
  obtain ⟨g4, hg4⟩ : ∃ g, w.heap.size = g := ⟨_, rfl⟩
  rw [hg4] at k4 k5 k6 k7 ⊢
  have FW := Lib.hid (f3.trans_nil f4)
  have HG4 := Lib.hid hg4
  clear hw3 hwr f3 f4 z3 hg4
  obtain ⟨g7, hg7⟩ : ∃ g, g4 + 1 + 1 + 1 = g := ⟨_, rfl⟩
  rw [hg7] at k7 ⊢
  have h7 : g4 + 3 = g7 := hg7
  have c7 : wr.cell? ⟨g7, 0, none⟩ = some (.int .i64 0) := k7.cell 0
  have hg4w := HG4.out
  clear hg7
  refine wp_loop_rounds 3 ?_
  rw [rounds_succ]
  go_wp2_with (go_at_call 27; refine (srtAll_any _ _).mono ?_; rintro e w' ⟨rfl, rfl⟩)
  obtain ⟨k8, -, kA, fL⟩ := boxes3 wr 3 55 55 (.int .i64 0) (.pointer (some ⟨p, 0, none⟩)) (.pointer (some ⟨p, 0, none⟩))
  obtain ⟨wL, hwL⟩ : ∃ x, ((wr.alloc (.cells #[.int .i64 0] 3)).alloc (.cells #[.pointer (some ⟨p, 0, none⟩)] 55)).alloc (.cells #[.pointer (some ⟨p, 0, none⟩)] 55) = x := ⟨_, rfl⟩
  rw [hwL] at k8 kA fL ⊢
  obtain ⟨g8, hg8⟩ : ∃ g, wr.heap.size = g := ⟨_, rfl⟩
  rw [hg8] at k8 kA ⊢
  have FL := Lib.hid (FW.out.trans_nil fL)
  have hLS := h.keep_nil FL.out
  have hwl := FL.out.size
  have hws : w.heap.size ≤ g8 := by have := FW.out.size; omega
  have hgl := k8.lt
  have hg7l := k7.lt
  have hg8l : wr.heap.size ≤ g8 := by omega
  have hpl := h.blk.lt
  have hbl := h.map.lt
  have HSEQ := Lib.hid (srtAll1_stops 4 (by omega) (g8 + 1 + 1) p b n [g8] wL.heap.size hr.keys hn wL (kA.cell 0) (by simp; omega) hLS (by simp; omega) (by simp; omega) (by omega) (fun i hi => by rw [List.mem_singleton.1 hi]; exact hgl))
  clear hwL hg8 c7
  refine (wpIn_wide (n := 5)).1 ?_
  apply wpIn_rangeFunc_ownF (hro := rfl) (h1 := by omega) (gf := 62) (lb := #[.pointer (some ⟨g8 + 1 + 1, 0, none⟩)]) (hg := rfl) (hFg := trivial) (eg := enters_of Try.func62 (by kernel_rfl) rfl) (encs := encP f) (Kp := KeepC [g8] wL.heap.size) (hseq := HSEQ.out) (hKt := keepC_t) (hKb := keepC_b (Nat.le_refl _)) (hb0 := Below.refl _ _) (hps := fun _ => rfl) (I := OvI wL g8 f) (Ix := OvX wL g8 f L most 0) (hI := ovI_own) (hIx := ovX_own) (h0 := ⟨k8, Fr.refl _ _⟩)
  case hassign =>
    intro l x W K hK
    gi_wp2
    exact hK
  case hbody =>
    rintro l pre ⟨⟨y, u⟩, hwf, hfu⟩ W hI hlen
    have hfu : f y = some u := hfu
    have hu : ∃ t, u = .string t := by
      rw [hr.eq] at hfu
      obtain ⟨t, _, e⟩ := Option.map_eq_some_iff.1 hfu
      exact ⟨t, e.symm⟩
    obtain ⟨t, rfl⟩ := hu
    obtain ⟨k, hk⟩ : ∃ k, pre.length = k := ⟨_, rfl⟩
    have hI2 := hI
    obtain ⟨b8, F8⟩ := hI
    rw [hk] at b8 hlen
    have c8 : W.cell? ⟨g8, 0, none⟩ = some (.int .i64 k) := b8.cell 0
    have B8 := b8
    have c4 : W.cell? ⟨g4, 0, none⟩ = some (.pointer (some ⟨q, 0, none⟩)) := ((k4.keep_nil fL).keep F8 (by simp; omega)).cell 0
    have c5 : W.cell? ⟨g4 + 1, 0, none⟩ = some (.int .i64 most) := ((k5.keep_nil fL).keep F8 (by simp; omega)).cell 0
    have b6 := (k6.keep_nil fL).keep F8 (show g4 + 1 + 1 ∉ [g8] by simp; omega)
    have c6 : W.cell? ⟨g4 + 1 + 1, 0, none⟩ = some (.bool false) := b6.cell 0
    have z6 := b6.frozen 0
    have HK6 := Lib.hid b6
    have c7 : W.cell? ⟨g7, 0, none⟩ = some (.int .i64 0) := ((k7.keep_nil fL).keep F8 (by simp; omega)).cell 0
    obtain ⟨v, hxw⟩ := id hx
    have hxW := (hxw.keep_nil FL.out).keep F8 (fun i hi hm => by have := hxw.lt i hi; have := List.mem_singleton.1 hm; omega)
    have cq := hxW.c0
    have rq := hxW.row
    obtain ⟨A, cc, rfl, -, hcm, -, -, -⟩ := rq.shape
    obtain ⟨N, hN⟩ : ∃ N, L.length = N := ⟨_, rfl⟩
    rw [hN] at cq
    have HRQ := Lib.hid rq
    have HN := Lib.hid hN
    have HI := Lib.hid (And.intro hI2 hk)
    have HF8 := Lib.hid F8
    have HFU := Lib.hid (And.intro hwf hfu)
    clear hI2 hk hxw hxW rq hN b8 b6 F8
    have HI8 := Lib.hid B8
    clear B8
    by_cases hA : N ≤ k
    · have dA : decide (N ≤ k) = true := by simpa using hA
      gi_upto_region 10 with (fail)
      refine wpIn_region_round 99 (S := fun w' => w'.cell? ⟨g8, 0, none⟩ = some (.int .i64 k) ∧ w'.cell? ⟨g4, 0, none⟩ = some (.pointer (some ⟨q, 0, none⟩)) ∧ w'.cell? ⟨q, 0, none⟩ = some (.slice A N cc)) (by kernel_rfl) (by kernel_rfl) (by rintro ⟨a, w, h⟩; exact h) ?_
      obtain ⟨wD, hwD⟩ : ∃ x, W.drew = x := ⟨_, rfl⟩
      have fD : Fr [] W wD := by rw [← hwD]; exact (Fr.refl _ _).drew
      have hHeld : wD.cell? ⟨g8, 0, none⟩ = some (.int .i64 k) ∧ wD.cell? ⟨g4, 0, none⟩ = some (.pointer (some ⟨q, 0, none⟩)) ∧ wD.cell? ⟨q, 0, none⟩ = some (.slice A N cc) := ⟨fD.cell (by simp) c8, fD.cell (by simp) c4, fD.cell (by simp) cq⟩
      rw [hwD]
      replace c6 := fD.cell (by simp) c6
      replace z6 := (HK6.out.keep_nil fD).frozen 0
      replace c7 := fD.cell (by simp) c7
      replace c5 := fD.cell (by simp) c5
      have c8D := hHeld.1
      have z8D := (HI8.out.keep_nil fD).frozen 0
      have FD := Lib.hid fD
      clear fD hwD c4 cq
      refine takeT_w 0 (some 25) (v := ?_) rfl rfl (by kernel_rfl) (by kernel_rfl) (by kernel_rfl) (by kernel_rfl) (fun _ _ _ h => h) (by rfl) ?_ hHeld ?_
      rotate_left
      · (intro w hSw; (try dsimp only at hSw); go_simp; try with_reducible rfl)
      simp only [Act.put, List.setIfInBounds_toArray, List.set_cons_zero, List.set_cons_succ]
      refine takeT_w 1 (some 26) (v := ?_) rfl rfl (by kernel_rfl) (by kernel_rfl) (by kernel_rfl) (by kernel_rfl) (fun _ _ _ h => h) (by rfl) ?_ hHeld ?_
      rotate_left
      · (intro w hSw; (try dsimp only at hSw); go_simp; try with_reducible rfl)
      simp only [Act.put, List.setIfInBounds_toArray, List.set_cons_zero, List.set_cons_succ]
      refine takeT_w 2 (some 27) (v := ?_) rfl rfl (by kernel_rfl) (by kernel_rfl) (by kernel_rfl) (by kernel_rfl) (fun _ _ _ h => h) (by rfl) ?_ hHeld ?_
      rotate_left
      · (intro w hSw; (try dsimp only at hSw); go_simp; try with_reducible rfl)
      simp only [Act.put, List.setIfInBounds_toArray, List.set_cons_zero, List.set_cons_succ]
      refine takeT_w 3 (some 28) (v := ?_) rfl rfl (by kernel_rfl) (by kernel_rfl) (by kernel_rfl) (by kernel_rfl) (fun _ _ _ h => h) (by rfl) ?_ hHeld ?_
      rotate_left
      · (intro w hSw; (try dsimp only at hSw); go_simp; try with_reducible rfl)
      simp only [Act.put, List.setIfInBounds_toArray, List.set_cons_zero, List.set_cons_succ]
      refine takeT_w 4 (some 29) (v := ?_) rfl rfl (by kernel_rfl) (by kernel_rfl) (by kernel_rfl) (by kernel_rfl) (fun _ _ _ h => h) (by rfl) ?_ hHeld ?_
      rotate_left
      · (intro w hSw; (try dsimp only at hSw); go_simp; try with_reducible rfl)
      simp only [Act.put, List.setIfInBounds_toArray, List.set_cons_zero, List.set_cons_succ]
      refine takeT_w 5 (some 30) (v := ?_) rfl rfl (by kernel_rfl) (by kernel_rfl) (by kernel_rfl) (by kernel_rfl) (fun _ _ _ h => h) (by rfl) ?_ hHeld ?_
      rotate_left
      · (intro w hSw; (try dsimp only at hSw); go_simp; try with_reducible rfl)
      simp only [Act.put, List.setIfInBounds_toArray, List.set_cons_zero, List.set_cons_succ]
      refine takeT_w 6 (some 31) (v := ?_) rfl rfl (by kernel_rfl) (by kernel_rfl) (by kernel_rfl) (by kernel_rfl) (fun _ _ _ h => h) (by rfl) ?_ hHeld ?_
      rotate_left
      · (intro w hSw; (try dsimp only at hSw); go_simp; try with_reducible rfl)
      simp only [Act.put, List.setIfInBounds_toArray, List.set_cons_zero, List.set_cons_succ]
      refine takeT_w 7 (some 32) (v := ?_) rfl rfl (by kernel_rfl) (by kernel_rfl) (by kernel_rfl) (by kernel_rfl) (fun _ _ _ h => h) (by rfl) ?_ hHeld ?_
      rotate_left
      · (intro w hSw; (try dsimp only at hSw); go_simp; try with_reducible rfl)
      simp only [Act.put, List.setIfInBounds_toArray, List.set_cons_zero, List.set_cons_succ]
      refine takeT_u 8 (some 33) rfl rfl (by kernel_rfl) (by kernel_rfl) (by kernel_rfl) (by kernel_rfl) (fun _ _ _ h => h) (by rfl) hHeld ?_
      simp only [Act.put, List.setIfInBounds_toArray, List.set_cons_zero, List.set_cons_succ]
      refine takeT_u 9 (some 34) rfl rfl (by kernel_rfl) (by kernel_rfl) (by kernel_rfl) (by kernel_rfl) (fun _ _ _ h => h) (by rfl) hHeld ?_
      simp only [Act.put, List.setIfInBounds_toArray, List.set_cons_zero, List.set_cons_succ]
      refine takeT_u 10 (some 35) rfl rfl (by kernel_rfl) (by kernel_rfl) (by kernel_rfl) (by kernel_rfl) (fun _ _ _ h => h) (by rfl) hHeld ?_
      simp only [Act.put, List.setIfInBounds_toArray, List.set_cons_zero, List.set_cons_succ]
      refine takeT_u 11 (some 36) rfl rfl (by kernel_rfl) (by kernel_rfl) (by kernel_rfl) (by kernel_rfl) (fun _ _ _ h => h) (by rfl) hHeld ?_
      simp only [Act.put, List.setIfInBounds_toArray, List.set_cons_zero, List.set_cons_succ]
      refine takeT_u 12 (some 37) rfl rfl (by kernel_rfl) (by kernel_rfl) (by kernel_rfl) (by kernel_rfl) (fun _ _ _ h => h) (by rfl) hHeld ?_
      simp only [Act.put, List.setIfInBounds_toArray, List.set_cons_zero, List.set_cons_succ]
      refine takeT_u 13 (some 38) rfl rfl (by kernel_rfl) (by kernel_rfl) (by kernel_rfl) (by kernel_rfl) (fun _ _ _ h => h) (by rfl) hHeld ?_
      simp only [Act.put, List.setIfInBounds_toArray, List.set_cons_zero, List.set_cons_succ]
      refine takeT_u 14 (some 39) rfl rfl (by kernel_rfl) (by kernel_rfl) (by kernel_rfl) (by kernel_rfl) (fun _ _ _ h => h) (by rfl) hHeld ?_
      simp only [Act.put, List.setIfInBounds_toArray, List.set_cons_zero, List.set_cons_succ]
      refine takeT_u 15 (some 40) rfl rfl (by kernel_rfl) (by kernel_rfl) (by kernel_rfl) (by kernel_rfl) (fun _ _ _ h => h) (by rfl) hHeld ?_
      simp only [Act.put, List.setIfInBounds_toArray, List.set_cons_zero, List.set_cons_succ]
      refine takeT_u 16 (some 41) rfl rfl (by kernel_rfl) (by kernel_rfl) (by kernel_rfl) (by kernel_rfl) (fun _ _ _ h => h) (by rfl) hHeld ?_
      simp only [Act.put, List.setIfInBounds_toArray, List.set_cons_zero, List.set_cons_succ]
      refine takeT_u 17 (some 42) rfl rfl (by kernel_rfl) (by kernel_rfl) (by kernel_rfl) (by kernel_rfl) (fun _ _ _ h => h) (by rfl) hHeld ?_
      simp only [Act.put, List.setIfInBounds_toArray, List.set_cons_zero, List.set_cons_succ]
      refine takeT_u 18 (some 43) rfl rfl (by kernel_rfl) (by kernel_rfl) (by kernel_rfl) (by kernel_rfl) (fun _ _ _ h => h) (by rfl) hHeld ?_
      simp only [Act.put, List.setIfInBounds_toArray, List.set_cons_zero, List.set_cons_succ]
      refine takeT_w 19 (some 44) (v := ?_) rfl rfl (by kernel_rfl) (by kernel_rfl) (by kernel_rfl) (by kernel_rfl) (fun _ _ _ h => h) (by rfl) ?_ hHeld ?_
      rotate_left
      · (intro w hSw; (try dsimp only at hSw); go_simp; try with_reducible rfl)
      simp only [Act.put, List.setIfInBounds_toArray, List.set_cons_zero, List.set_cons_succ]
      refine wpAnyT_done (by kernel_rfl) ?_ _
      clear hHeld c5 c7 c8D z8D
      gi_wp2
      refine ⟨keepsO_of_fr ((FD.out.mono (by simp)).setCell (F := [g4 + 1 + 1]) (.inl (by simp)) _) (fun j hj o ho => by rw [List.mem_singleton.1 hj, show W.heap[g4 + 1 + 1]? = _ from HK6.out] at ho; cases ho; rfl), .inl ⟨rfl, ⟨pre, _, rfl, fun hh => ?_⟩⟩⟩
      exact absurd hh (by rw [HN.out, HI.out.2]; omega)
    have dA : decide (N ≤ k) = false := by simpa using hA
    have hkN : k < N := by omega
    have dk : (k : Int) < N := by omega
    have hkl : k < L.length := by rw [HN.out]; exact hkN
    obtain ⟨gq, rfl, q0, q1⟩ := qcells_row HRQ.out k hkl
    obtain ⟨⟨y', t'⟩, hyt⟩ : ∃ p, L[k] = p := ⟨_, rfl⟩
    rw [hyt] at q0 q1
    have HY := Lib.hid hyt
    clear hyt
    by_cases e1 : y' = y
    · by_cases e2 : t' = t
      · subst e1 e2
        gi_upto_region 10 with (fail)
        refine wpIn_region_round 99 (S := fun w' => w'.cell? ⟨g8, 0, none⟩ = some (.int .i64 k) ∧ w'.cell? ⟨g4, 0, none⟩ = some (.pointer (some ⟨q, 0, none⟩)) ∧ w'.cell? ⟨q, 0, none⟩ = some (.slice (some ⟨gq, 0, none⟩) N cc) ∧ w'.cell? ⟨gq, k * 2, none⟩ = some (.int .i64 y') ∧ w'.cell? ⟨gq, k * 2 + 1, none⟩ = some (.string t')) (by kernel_rfl) (by kernel_rfl) (by rintro ⟨a, w, h⟩; exact h) ?_
        obtain ⟨wD, hwD⟩ : ∃ x, W.drew = x := ⟨_, rfl⟩
        have fD : Fr [] W wD := by rw [← hwD]; exact (Fr.refl _ _).drew
        have hHeld : wD.cell? ⟨g8, 0, none⟩ = some (.int .i64 k) ∧ wD.cell? ⟨g4, 0, none⟩ = some (.pointer (some ⟨q, 0, none⟩)) ∧ wD.cell? ⟨q, 0, none⟩ = some (.slice (some ⟨gq, 0, none⟩) N cc) ∧ wD.cell? ⟨gq, k * 2, none⟩ = some (.int .i64 y') ∧ wD.cell? ⟨gq, k * 2 + 1, none⟩ = some (.string t') := ⟨fD.cell (by simp) c8, fD.cell (by simp) c4, fD.cell (by simp) cq, fD.cell (by simp) q0, fD.cell (by simp) q1⟩
        rw [hwD]
        replace c6 := fD.cell (by simp) c6
        replace z6 := (HK6.out.keep_nil fD).frozen 0
        replace c7 := fD.cell (by simp) c7
        replace c5 := fD.cell (by simp) c5
        have c8D := hHeld.1
        have z8D := (HI8.out.keep_nil fD).frozen 0
        have FD := Lib.hid fD
        clear fD hwD c4 cq
        refine takeT_w 0 (some 25) (v := ?_) rfl rfl (by kernel_rfl) (by kernel_rfl) (by kernel_rfl) (by kernel_rfl) (fun _ _ _ h => h) (by rfl) ?_ hHeld ?_
        rotate_left
        · (intro w hSw; (try dsimp only at hSw); go_simp; try with_reducible rfl)
        simp only [Act.put, List.setIfInBounds_toArray, List.set_cons_zero, List.set_cons_succ]
        refine takeT_w 1 (some 26) (v := ?_) rfl rfl (by kernel_rfl) (by kernel_rfl) (by kernel_rfl) (by kernel_rfl) (fun _ _ _ h => h) (by rfl) ?_ hHeld ?_
        rotate_left
        · (intro w hSw; (try dsimp only at hSw); go_simp; try with_reducible rfl)
        simp only [Act.put, List.setIfInBounds_toArray, List.set_cons_zero, List.set_cons_succ]
        refine takeT_w 2 (some 27) (v := ?_) rfl rfl (by kernel_rfl) (by kernel_rfl) (by kernel_rfl) (by kernel_rfl) (fun _ _ _ h => h) (by rfl) ?_ hHeld ?_
        rotate_left
        · (intro w hSw; (try dsimp only at hSw); go_simp; try with_reducible rfl)
        simp only [Act.put, List.setIfInBounds_toArray, List.set_cons_zero, List.set_cons_succ]
        refine takeT_w 3 (some 28) (v := ?_) rfl rfl (by kernel_rfl) (by kernel_rfl) (by kernel_rfl) (by kernel_rfl) (fun _ _ _ h => h) (by rfl) ?_ hHeld ?_
        rotate_left
        · (intro w hSw; (try dsimp only at hSw); go_simp; try with_reducible rfl)
        simp only [Act.put, List.setIfInBounds_toArray, List.set_cons_zero, List.set_cons_succ]
        refine takeT_w 4 (some 29) (v := ?_) rfl rfl (by kernel_rfl) (by kernel_rfl) (by kernel_rfl) (by kernel_rfl) (fun _ _ _ h => h) (by rfl) ?_ hHeld ?_
        rotate_left
        · (intro w hSw; (try dsimp only at hSw); go_simp; try with_reducible rfl)
        simp only [Act.put, List.setIfInBounds_toArray, List.set_cons_zero, List.set_cons_succ]
        refine takeT_w 5 (some 30) (v := ?_) rfl rfl (by kernel_rfl) (by kernel_rfl) (by kernel_rfl) (by kernel_rfl) (fun _ _ _ h => h) (by rfl) ?_ hHeld ?_
        rotate_left
        · (intro w hSw; (try dsimp only at hSw); go_simp; try with_reducible rfl)
        simp only [Act.put, List.setIfInBounds_toArray, List.set_cons_zero, List.set_cons_succ]
        refine takeT_w 6 (some 31) (v := ?_) rfl rfl (by kernel_rfl) (by kernel_rfl) (by kernel_rfl) (by kernel_rfl) (fun _ _ _ h => h) (by rfl) ?_ hHeld ?_
        rotate_left
        · (intro w hSw; (try dsimp only at hSw); go_simp; try with_reducible rfl)
        simp only [Act.put, List.setIfInBounds_toArray, List.set_cons_zero, List.set_cons_succ]
        refine takeT_w 7 (some 32) (v := ?_) rfl rfl (by kernel_rfl) (by kernel_rfl) (by kernel_rfl) (by kernel_rfl) (fun _ _ _ h => h) (by rfl) ?_ hHeld ?_
        rotate_left
        · (intro w hSw; (try dsimp only at hSw); go_simp; try with_reducible rfl)
        simp only [Act.put, List.setIfInBounds_toArray, List.set_cons_zero, List.set_cons_succ]
        refine takeT_w 8 (some 33) (v := ?_) rfl rfl (by kernel_rfl) (by kernel_rfl) (by kernel_rfl) (by kernel_rfl) (fun _ _ _ h => h) (by rfl) ?_ hHeld ?_
        rotate_left
        · (intro w hSw; (try dsimp only at hSw); go_simp; try with_reducible rfl)
        simp only [Act.put, List.setIfInBounds_toArray, List.set_cons_zero, List.set_cons_succ]
        refine takeT_w 9 (some 34) (v := ?_) rfl rfl (by kernel_rfl) (by kernel_rfl) (by kernel_rfl) (by kernel_rfl) (fun _ _ _ h => h) (by rfl) ?_ hHeld ?_
        rotate_left
        · (intro w hSw; (try dsimp only at hSw); go_simp; try with_reducible rfl)
        simp only [Act.put, List.setIfInBounds_toArray, List.set_cons_zero, List.set_cons_succ]
        refine takeT_w 10 (some 35) (v := ?_) rfl rfl (by kernel_rfl) (by kernel_rfl) (by kernel_rfl) (by kernel_rfl) (fun _ _ _ h => h) (by rfl) ?_ hHeld ?_
        rotate_left
        · (intro w hSw; (try dsimp only at hSw); go_simp; try with_reducible rfl)
        simp only [Act.put, List.setIfInBounds_toArray, List.set_cons_zero, List.set_cons_succ]
        refine takeT_w 11 (some 36) (v := ?_) rfl rfl (by kernel_rfl) (by kernel_rfl) (by kernel_rfl) (by kernel_rfl) (fun _ _ _ h => h) (by rfl) ?_ hHeld ?_
        rotate_left
        · (intro w hSw; (try dsimp only at hSw); go_simp; try with_reducible rfl)
        simp only [Act.put, List.setIfInBounds_toArray, List.set_cons_zero, List.set_cons_succ]
        refine takeT_w 12 (some 37) (v := ?_) rfl rfl (by kernel_rfl) (by kernel_rfl) (by kernel_rfl) (by kernel_rfl) (fun _ _ _ h => h) (by rfl) ?_ hHeld ?_
        rotate_left
        · (intro w hSw; (try dsimp only at hSw); go_simp; try with_reducible rfl)
        simp only [Act.put, List.setIfInBounds_toArray, List.set_cons_zero, List.set_cons_succ]
        refine takeT_w 13 (some 38) (v := ?_) rfl rfl (by kernel_rfl) (by kernel_rfl) (by kernel_rfl) (by kernel_rfl) (fun _ _ _ h => h) (by rfl) ?_ hHeld ?_
        rotate_left
        · (intro w hSw; (try dsimp only at hSw); go_simp; try with_reducible rfl)
        simp only [Act.put, List.setIfInBounds_toArray, List.set_cons_zero, List.set_cons_succ]
        refine takeT_w 14 (some 39) (v := ?_) rfl rfl (by kernel_rfl) (by kernel_rfl) (by kernel_rfl) (by kernel_rfl) (fun _ _ _ h => h) (by rfl) ?_ hHeld ?_
        rotate_left
        · (intro w hSw; (try dsimp only at hSw); go_simp; try with_reducible rfl)
        simp only [Act.put, List.setIfInBounds_toArray, List.set_cons_zero, List.set_cons_succ]
        refine takeT_w 15 (some 40) (v := ?_) rfl rfl (by kernel_rfl) (by kernel_rfl) (by kernel_rfl) (by kernel_rfl) (fun _ _ _ h => h) (by rfl) ?_ hHeld ?_
        rotate_left
        · (intro w hSw; (try dsimp only at hSw); go_simp; try with_reducible rfl)
        simp only [Act.put, List.setIfInBounds_toArray, List.set_cons_zero, List.set_cons_succ]
        refine takeT_w 16 (some 41) (v := ?_) rfl rfl (by kernel_rfl) (by kernel_rfl) (by kernel_rfl) (by kernel_rfl) (fun _ _ _ h => h) (by rfl) ?_ hHeld ?_
        rotate_left
        · (intro w hSw; (try dsimp only at hSw); go_simp; try with_reducible rfl)
        simp only [Act.put, List.setIfInBounds_toArray, List.set_cons_zero, List.set_cons_succ]
        refine takeT_w 17 (some 42) (v := ?_) rfl rfl (by kernel_rfl) (by kernel_rfl) (by kernel_rfl) (by kernel_rfl) (fun _ _ _ h => h) (by rfl) ?_ hHeld ?_
        rotate_left
        · (intro w hSw; (try dsimp only at hSw); go_simp; try with_reducible rfl)
        simp only [Act.put, List.setIfInBounds_toArray, List.set_cons_zero, List.set_cons_succ]
        refine takeT_w 18 (some 43) (v := ?_) rfl rfl (by kernel_rfl) (by kernel_rfl) (by kernel_rfl) (by kernel_rfl) (fun _ _ _ h => h) (by rfl) ?_ hHeld ?_
        rotate_left
        · (intro w hSw; (try dsimp only at hSw); go_simp; try with_reducible rfl)
        simp only [Act.put, List.setIfInBounds_toArray, List.set_cons_zero, List.set_cons_succ]
        refine takeT_w 19 (some 44) (v := ?_) rfl rfl (by kernel_rfl) (by kernel_rfl) (by kernel_rfl) (by kernel_rfl) (fun _ _ _ h => h) (by rfl) ?_ hHeld ?_
        rotate_left
        · (intro w hSw; (try dsimp only at hSw); go_simp; try with_reducible rfl)
        simp only [Act.put, List.setIfInBounds_toArray, List.set_cons_zero, List.set_cons_succ]
        refine wpAnyT_done (by kernel_rfl) ?_ _
        clear hHeld
        gi_wp2
        all_goals first | exact ovI_next HI.out.1 HI.out.2 FD.out | skip
        all_goals (
          rename_i hb
          have hb := eq_of_beq hb
          obtain ⟨a1, a2, a3⟩ := ovI_next (x := ⟨(y', Value.string t'), ⟨HFU.out.1, HFU.out.2⟩⟩) HI.out.1 HI.out.2 FD.out
          exact ⟨a1, .inr ⟨rfl, by rw [List.length_append, HI.out.2, ← hb]; rfl, rfl, a3⟩⟩)
      · have d1 : (y' == y) = true := by simpa using e1
        have d2 : ¬ t'.toList = t.toList := fun h => e2 (ByteArray.ext (Array.toList_inj.1 (by rw [← ByteArray.toList_eq, ← ByteArray.toList_eq]; exact h)))
        gi_upto_region 10 with (fail)
        refine wpIn_region_round 99 (S := fun w' => w'.cell? ⟨g8, 0, none⟩ = some (.int .i64 k) ∧ w'.cell? ⟨g4, 0, none⟩ = some (.pointer (some ⟨q, 0, none⟩)) ∧ w'.cell? ⟨q, 0, none⟩ = some (.slice (some ⟨gq, 0, none⟩) N cc) ∧ w'.cell? ⟨gq, k * 2, none⟩ = some (.int .i64 y') ∧ w'.cell? ⟨gq, k * 2 + 1, none⟩ = some (.string t')) (by kernel_rfl) (by kernel_rfl) (by rintro ⟨a, w, h⟩; exact h) ?_
        obtain ⟨wD, hwD⟩ : ∃ x, W.drew = x := ⟨_, rfl⟩
        have fD : Fr [] W wD := by rw [← hwD]; exact (Fr.refl _ _).drew
        have hHeld : wD.cell? ⟨g8, 0, none⟩ = some (.int .i64 k) ∧ wD.cell? ⟨g4, 0, none⟩ = some (.pointer (some ⟨q, 0, none⟩)) ∧ wD.cell? ⟨q, 0, none⟩ = some (.slice (some ⟨gq, 0, none⟩) N cc) ∧ wD.cell? ⟨gq, k * 2, none⟩ = some (.int .i64 y') ∧ wD.cell? ⟨gq, k * 2 + 1, none⟩ = some (.string t') := ⟨fD.cell (by simp) c8, fD.cell (by simp) c4, fD.cell (by simp) cq, fD.cell (by simp) q0, fD.cell (by simp) q1⟩
        rw [hwD]
        replace c6 := fD.cell (by simp) c6
        replace z6 := (HK6.out.keep_nil fD).frozen 0
        replace c7 := fD.cell (by simp) c7
        replace c5 := fD.cell (by simp) c5
        have c8D := hHeld.1
        have z8D := (HI8.out.keep_nil fD).frozen 0
        have FD := Lib.hid fD
        clear fD hwD c4 cq
        refine takeT_w 0 (some 25) (v := ?_) rfl rfl (by kernel_rfl) (by kernel_rfl) (by kernel_rfl) (by kernel_rfl) (fun _ _ _ h => h) (by rfl) ?_ hHeld ?_
        rotate_left
        · (intro w hSw; (try dsimp only at hSw); go_simp; try with_reducible rfl)
        simp only [Act.put, List.setIfInBounds_toArray, List.set_cons_zero, List.set_cons_succ]
        refine takeT_w 1 (some 26) (v := ?_) rfl rfl (by kernel_rfl) (by kernel_rfl) (by kernel_rfl) (by kernel_rfl) (fun _ _ _ h => h) (by rfl) ?_ hHeld ?_
        rotate_left
        · (intro w hSw; (try dsimp only at hSw); go_simp; try with_reducible rfl)
        simp only [Act.put, List.setIfInBounds_toArray, List.set_cons_zero, List.set_cons_succ]
        refine takeT_w 2 (some 27) (v := ?_) rfl rfl (by kernel_rfl) (by kernel_rfl) (by kernel_rfl) (by kernel_rfl) (fun _ _ _ h => h) (by rfl) ?_ hHeld ?_
        rotate_left
        · (intro w hSw; (try dsimp only at hSw); go_simp; try with_reducible rfl)
        simp only [Act.put, List.setIfInBounds_toArray, List.set_cons_zero, List.set_cons_succ]
        refine takeT_w 3 (some 28) (v := ?_) rfl rfl (by kernel_rfl) (by kernel_rfl) (by kernel_rfl) (by kernel_rfl) (fun _ _ _ h => h) (by rfl) ?_ hHeld ?_
        rotate_left
        · (intro w hSw; (try dsimp only at hSw); go_simp; try with_reducible rfl)
        simp only [Act.put, List.setIfInBounds_toArray, List.set_cons_zero, List.set_cons_succ]
        refine takeT_w 4 (some 29) (v := ?_) rfl rfl (by kernel_rfl) (by kernel_rfl) (by kernel_rfl) (by kernel_rfl) (fun _ _ _ h => h) (by rfl) ?_ hHeld ?_
        rotate_left
        · (intro w hSw; (try dsimp only at hSw); go_simp; try with_reducible rfl)
        simp only [Act.put, List.setIfInBounds_toArray, List.set_cons_zero, List.set_cons_succ]
        refine takeT_w 5 (some 30) (v := ?_) rfl rfl (by kernel_rfl) (by kernel_rfl) (by kernel_rfl) (by kernel_rfl) (fun _ _ _ h => h) (by rfl) ?_ hHeld ?_
        rotate_left
        · (intro w hSw; (try dsimp only at hSw); go_simp; try with_reducible rfl)
        simp only [Act.put, List.setIfInBounds_toArray, List.set_cons_zero, List.set_cons_succ]
        refine takeT_w 6 (some 31) (v := ?_) rfl rfl (by kernel_rfl) (by kernel_rfl) (by kernel_rfl) (by kernel_rfl) (fun _ _ _ h => h) (by rfl) ?_ hHeld ?_
        rotate_left
        · (intro w hSw; (try dsimp only at hSw); go_simp; try with_reducible rfl)
        simp only [Act.put, List.setIfInBounds_toArray, List.set_cons_zero, List.set_cons_succ]
        refine takeT_w 7 (some 32) (v := ?_) rfl rfl (by kernel_rfl) (by kernel_rfl) (by kernel_rfl) (by kernel_rfl) (fun _ _ _ h => h) (by rfl) ?_ hHeld ?_
        rotate_left
        · (intro w hSw; (try dsimp only at hSw); go_simp; try with_reducible rfl)
        simp only [Act.put, List.setIfInBounds_toArray, List.set_cons_zero, List.set_cons_succ]
        refine takeT_w 8 (some 33) (v := ?_) rfl rfl (by kernel_rfl) (by kernel_rfl) (by kernel_rfl) (by kernel_rfl) (fun _ _ _ h => h) (by rfl) ?_ hHeld ?_
        rotate_left
        · (intro w hSw; (try dsimp only at hSw); go_simp; try with_reducible rfl)
        simp only [Act.put, List.setIfInBounds_toArray, List.set_cons_zero, List.set_cons_succ]
        refine takeT_w 9 (some 34) (v := ?_) rfl rfl (by kernel_rfl) (by kernel_rfl) (by kernel_rfl) (by kernel_rfl) (fun _ _ _ h => h) (by rfl) ?_ hHeld ?_
        rotate_left
        · (intro w hSw; (try dsimp only at hSw); go_simp; try with_reducible rfl)
        simp only [Act.put, List.setIfInBounds_toArray, List.set_cons_zero, List.set_cons_succ]
        refine takeT_w 10 (some 35) (v := ?_) rfl rfl (by kernel_rfl) (by kernel_rfl) (by kernel_rfl) (by kernel_rfl) (fun _ _ _ h => h) (by rfl) ?_ hHeld ?_
        rotate_left
        · (intro w hSw; (try dsimp only at hSw); go_simp; try with_reducible rfl)
        simp only [Act.put, List.setIfInBounds_toArray, List.set_cons_zero, List.set_cons_succ]
        refine takeT_w 11 (some 36) (v := ?_) rfl rfl (by kernel_rfl) (by kernel_rfl) (by kernel_rfl) (by kernel_rfl) (fun _ _ _ h => h) (by rfl) ?_ hHeld ?_
        rotate_left
        · (intro w hSw; (try dsimp only at hSw); go_simp; try with_reducible rfl)
        simp only [Act.put, List.setIfInBounds_toArray, List.set_cons_zero, List.set_cons_succ]
        refine takeT_w 12 (some 37) (v := ?_) rfl rfl (by kernel_rfl) (by kernel_rfl) (by kernel_rfl) (by kernel_rfl) (fun _ _ _ h => h) (by rfl) ?_ hHeld ?_
        rotate_left
        · (intro w hSw; (try dsimp only at hSw); go_simp; try with_reducible rfl)
        simp only [Act.put, List.setIfInBounds_toArray, List.set_cons_zero, List.set_cons_succ]
        refine takeT_w 13 (some 38) (v := ?_) rfl rfl (by kernel_rfl) (by kernel_rfl) (by kernel_rfl) (by kernel_rfl) (fun _ _ _ h => h) (by rfl) ?_ hHeld ?_
        rotate_left
        · (intro w hSw; (try dsimp only at hSw); go_simp; try with_reducible rfl)
        simp only [Act.put, List.setIfInBounds_toArray, List.set_cons_zero, List.set_cons_succ]
        refine takeT_w 14 (some 39) (v := ?_) rfl rfl (by kernel_rfl) (by kernel_rfl) (by kernel_rfl) (by kernel_rfl) (fun _ _ _ h => h) (by rfl) ?_ hHeld ?_
        rotate_left
        · (intro w hSw; (try dsimp only at hSw); go_simp; try with_reducible rfl)
        simp only [Act.put, List.setIfInBounds_toArray, List.set_cons_zero, List.set_cons_succ]
        refine takeT_w 15 (some 40) (v := ?_) rfl rfl (by kernel_rfl) (by kernel_rfl) (by kernel_rfl) (by kernel_rfl) (fun _ _ _ h => h) (by rfl) ?_ hHeld ?_
        rotate_left
        · (intro w hSw; (try dsimp only at hSw); go_simp; try with_reducible rfl)
        simp only [Act.put, List.setIfInBounds_toArray, List.set_cons_zero, List.set_cons_succ]
        refine takeT_w 16 (some 41) (v := ?_) rfl rfl (by kernel_rfl) (by kernel_rfl) (by kernel_rfl) (by kernel_rfl) (fun _ _ _ h => h) (by rfl) ?_ hHeld ?_
        rotate_left
        · (intro w hSw; (try dsimp only at hSw); go_simp; try with_reducible rfl)
        simp only [Act.put, List.setIfInBounds_toArray, List.set_cons_zero, List.set_cons_succ]
        refine takeT_w 17 (some 42) (v := ?_) rfl rfl (by kernel_rfl) (by kernel_rfl) (by kernel_rfl) (by kernel_rfl) (fun _ _ _ h => h) (by rfl) ?_ hHeld ?_
        rotate_left
        · (intro w hSw; (try dsimp only at hSw); go_simp; try with_reducible rfl)
        simp only [Act.put, List.setIfInBounds_toArray, List.set_cons_zero, List.set_cons_succ]
        refine takeT_w 18 (some 43) (v := ?_) rfl rfl (by kernel_rfl) (by kernel_rfl) (by kernel_rfl) (by kernel_rfl) (fun _ _ _ h => h) (by rfl) ?_ hHeld ?_
        rotate_left
        · (intro w hSw; (try dsimp only at hSw); go_simp; try with_reducible rfl)
        simp only [Act.put, List.setIfInBounds_toArray, List.set_cons_zero, List.set_cons_succ]
        refine takeT_w 19 (some 44) (v := ?_) rfl rfl (by kernel_rfl) (by kernel_rfl) (by kernel_rfl) (by kernel_rfl) (fun _ _ _ h => h) (by rfl) ?_ hHeld ?_
        rotate_left
        · (intro w hSw; (try dsimp only at hSw); go_simp; try with_reducible rfl)
        simp only [Act.put, List.setIfInBounds_toArray, List.set_cons_zero, List.set_cons_succ]
        refine wpAnyT_done (by kernel_rfl) ?_ _
        clear hHeld c5 c7 c8D z8D
        gi_wp2
        refine ⟨keepsO_of_fr ((FD.out.mono (by simp)).setCell (F := [g4 + 1 + 1]) (.inl (by simp)) _) (fun j hj o ho => by rw [List.mem_singleton.1 hj, show W.heap[g4 + 1 + 1]? = _ from HK6.out] at ho; cases ho; rfl), .inl ⟨rfl, ⟨pre, _, rfl, fun hh => ?_⟩⟩⟩
        intro heq
        have := congrArg Prod.snd heq
        refine e2 ?_
        simp only [HI.out.2, HY.out] at this
        cases this
        rfl
    · have d1 : (y' == y) = false := by simpa using e1
      gi_upto_region 10 with (fail)
      refine wpIn_region_round 99 (S := fun w' => w'.cell? ⟨g8, 0, none⟩ = some (.int .i64 k) ∧ w'.cell? ⟨g4, 0, none⟩ = some (.pointer (some ⟨q, 0, none⟩)) ∧ w'.cell? ⟨q, 0, none⟩ = some (.slice (some ⟨gq, 0, none⟩) N cc) ∧ w'.cell? ⟨gq, k * 2, none⟩ = some (.int .i64 y') ∧ w'.cell? ⟨gq, k * 2 + 1, none⟩ = some (.string t')) (by kernel_rfl) (by kernel_rfl) (by rintro ⟨a, w, h⟩; exact h) ?_
      obtain ⟨wD, hwD⟩ : ∃ x, W.drew = x := ⟨_, rfl⟩
      have fD : Fr [] W wD := by rw [← hwD]; exact (Fr.refl _ _).drew
      have hHeld : wD.cell? ⟨g8, 0, none⟩ = some (.int .i64 k) ∧ wD.cell? ⟨g4, 0, none⟩ = some (.pointer (some ⟨q, 0, none⟩)) ∧ wD.cell? ⟨q, 0, none⟩ = some (.slice (some ⟨gq, 0, none⟩) N cc) ∧ wD.cell? ⟨gq, k * 2, none⟩ = some (.int .i64 y') ∧ wD.cell? ⟨gq, k * 2 + 1, none⟩ = some (.string t') := ⟨fD.cell (by simp) c8, fD.cell (by simp) c4, fD.cell (by simp) cq, fD.cell (by simp) q0, fD.cell (by simp) q1⟩
      rw [hwD]
      replace c6 := fD.cell (by simp) c6
      replace z6 := (HK6.out.keep_nil fD).frozen 0
      replace c7 := fD.cell (by simp) c7
      replace c5 := fD.cell (by simp) c5
      have c8D := hHeld.1
      have z8D := (HI8.out.keep_nil fD).frozen 0
      have FD := Lib.hid fD
      clear fD hwD c4 cq
      refine takeT_w 0 (some 25) (v := ?_) rfl rfl (by kernel_rfl) (by kernel_rfl) (by kernel_rfl) (by kernel_rfl) (fun _ _ _ h => h) (by rfl) ?_ hHeld ?_
      rotate_left
      · (intro w hSw; (try dsimp only at hSw); go_simp; try with_reducible rfl)
      simp only [Act.put, List.setIfInBounds_toArray, List.set_cons_zero, List.set_cons_succ]
      refine takeT_w 1 (some 26) (v := ?_) rfl rfl (by kernel_rfl) (by kernel_rfl) (by kernel_rfl) (by kernel_rfl) (fun _ _ _ h => h) (by rfl) ?_ hHeld ?_
      rotate_left
      · (intro w hSw; (try dsimp only at hSw); go_simp; try with_reducible rfl)
      simp only [Act.put, List.setIfInBounds_toArray, List.set_cons_zero, List.set_cons_succ]
      refine takeT_w 2 (some 27) (v := ?_) rfl rfl (by kernel_rfl) (by kernel_rfl) (by kernel_rfl) (by kernel_rfl) (fun _ _ _ h => h) (by rfl) ?_ hHeld ?_
      rotate_left
      · (intro w hSw; (try dsimp only at hSw); go_simp; try with_reducible rfl)
      simp only [Act.put, List.setIfInBounds_toArray, List.set_cons_zero, List.set_cons_succ]
      refine takeT_w 3 (some 28) (v := ?_) rfl rfl (by kernel_rfl) (by kernel_rfl) (by kernel_rfl) (by kernel_rfl) (fun _ _ _ h => h) (by rfl) ?_ hHeld ?_
      rotate_left
      · (intro w hSw; (try dsimp only at hSw); go_simp; try with_reducible rfl)
      simp only [Act.put, List.setIfInBounds_toArray, List.set_cons_zero, List.set_cons_succ]
      refine takeT_w 4 (some 29) (v := ?_) rfl rfl (by kernel_rfl) (by kernel_rfl) (by kernel_rfl) (by kernel_rfl) (fun _ _ _ h => h) (by rfl) ?_ hHeld ?_
      rotate_left
      · (intro w hSw; (try dsimp only at hSw); go_simp; try with_reducible rfl)
      simp only [Act.put, List.setIfInBounds_toArray, List.set_cons_zero, List.set_cons_succ]
      refine takeT_w 5 (some 30) (v := ?_) rfl rfl (by kernel_rfl) (by kernel_rfl) (by kernel_rfl) (by kernel_rfl) (fun _ _ _ h => h) (by rfl) ?_ hHeld ?_
      rotate_left
      · (intro w hSw; (try dsimp only at hSw); go_simp; try with_reducible rfl)
      simp only [Act.put, List.setIfInBounds_toArray, List.set_cons_zero, List.set_cons_succ]
      refine takeT_w 6 (some 31) (v := ?_) rfl rfl (by kernel_rfl) (by kernel_rfl) (by kernel_rfl) (by kernel_rfl) (fun _ _ _ h => h) (by rfl) ?_ hHeld ?_
      rotate_left
      · (intro w hSw; (try dsimp only at hSw); go_simp; try with_reducible rfl)
      simp only [Act.put, List.setIfInBounds_toArray, List.set_cons_zero, List.set_cons_succ]
      refine takeT_w 7 (some 32) (v := ?_) rfl rfl (by kernel_rfl) (by kernel_rfl) (by kernel_rfl) (by kernel_rfl) (fun _ _ _ h => h) (by rfl) ?_ hHeld ?_
      rotate_left
      · (intro w hSw; (try dsimp only at hSw); go_simp; try with_reducible rfl)
      simp only [Act.put, List.setIfInBounds_toArray, List.set_cons_zero, List.set_cons_succ]
      refine takeT_w 8 (some 33) (v := ?_) rfl rfl (by kernel_rfl) (by kernel_rfl) (by kernel_rfl) (by kernel_rfl) (fun _ _ _ h => h) (by rfl) ?_ hHeld ?_
      rotate_left
      · (intro w hSw; (try dsimp only at hSw); go_simp; try with_reducible rfl)
      simp only [Act.put, List.setIfInBounds_toArray, List.set_cons_zero, List.set_cons_succ]
      refine takeT_w 9 (some 34) (v := ?_) rfl rfl (by kernel_rfl) (by kernel_rfl) (by kernel_rfl) (by kernel_rfl) (fun _ _ _ h => h) (by rfl) ?_ hHeld ?_
      rotate_left
      · (intro w hSw; (try dsimp only at hSw); go_simp; try with_reducible rfl)
      simp only [Act.put, List.setIfInBounds_toArray, List.set_cons_zero, List.set_cons_succ]
      refine takeT_w 10 (some 35) (v := ?_) rfl rfl (by kernel_rfl) (by kernel_rfl) (by kernel_rfl) (by kernel_rfl) (fun _ _ _ h => h) (by rfl) ?_ hHeld ?_
      rotate_left
      · (intro w hSw; (try dsimp only at hSw); go_simp; try with_reducible rfl)
      simp only [Act.put, List.setIfInBounds_toArray, List.set_cons_zero, List.set_cons_succ]
      refine takeT_w 11 (some 36) (v := ?_) rfl rfl (by kernel_rfl) (by kernel_rfl) (by kernel_rfl) (by kernel_rfl) (fun _ _ _ h => h) (by rfl) ?_ hHeld ?_
      rotate_left
      · (intro w hSw; (try dsimp only at hSw); go_simp; try with_reducible rfl)
      simp only [Act.put, List.setIfInBounds_toArray, List.set_cons_zero, List.set_cons_succ]
      refine takeT_w 12 (some 37) (v := ?_) rfl rfl (by kernel_rfl) (by kernel_rfl) (by kernel_rfl) (by kernel_rfl) (fun _ _ _ h => h) (by rfl) ?_ hHeld ?_
      rotate_left
      · (intro w hSw; (try dsimp only at hSw); go_simp; try with_reducible rfl)
      simp only [Act.put, List.setIfInBounds_toArray, List.set_cons_zero, List.set_cons_succ]
      refine takeT_w 13 (some 38) (v := ?_) rfl rfl (by kernel_rfl) (by kernel_rfl) (by kernel_rfl) (by kernel_rfl) (fun _ _ _ h => h) (by rfl) ?_ hHeld ?_
      rotate_left
      · (intro w hSw; (try dsimp only at hSw); go_simp; try with_reducible rfl)
      simp only [Act.put, List.setIfInBounds_toArray, List.set_cons_zero, List.set_cons_succ]
      refine takeT_w 14 (some 39) (v := ?_) rfl rfl (by kernel_rfl) (by kernel_rfl) (by kernel_rfl) (by kernel_rfl) (fun _ _ _ h => h) (by rfl) ?_ hHeld ?_
      rotate_left
      · (intro w hSw; (try dsimp only at hSw); go_simp; try with_reducible rfl)
      simp only [Act.put, List.setIfInBounds_toArray, List.set_cons_zero, List.set_cons_succ]
      refine takeT_w 15 (some 40) (v := ?_) rfl rfl (by kernel_rfl) (by kernel_rfl) (by kernel_rfl) (by kernel_rfl) (fun _ _ _ h => h) (by rfl) ?_ hHeld ?_
      rotate_left
      · (intro w hSw; (try dsimp only at hSw); go_simp; try with_reducible rfl)
      simp only [Act.put, List.setIfInBounds_toArray, List.set_cons_zero, List.set_cons_succ]
      refine takeT_w 16 (some 41) (v := ?_) rfl rfl (by kernel_rfl) (by kernel_rfl) (by kernel_rfl) (by kernel_rfl) (fun _ _ _ h => h) (by rfl) ?_ hHeld ?_
      rotate_left
      · (intro w hSw; (try dsimp only at hSw); go_simp; try with_reducible rfl)
      simp only [Act.put, List.setIfInBounds_toArray, List.set_cons_zero, List.set_cons_succ]
      refine takeT_w 17 (some 42) (v := ?_) rfl rfl (by kernel_rfl) (by kernel_rfl) (by kernel_rfl) (by kernel_rfl) (fun _ _ _ h => h) (by rfl) ?_ hHeld ?_
      rotate_left
      · (intro w hSw; (try dsimp only at hSw); go_simp; try with_reducible rfl)
      simp only [Act.put, List.setIfInBounds_toArray, List.set_cons_zero, List.set_cons_succ]
      refine takeT_w 18 (some 43) (v := ?_) rfl rfl (by kernel_rfl) (by kernel_rfl) (by kernel_rfl) (by kernel_rfl) (fun _ _ _ h => h) (by rfl) ?_ hHeld ?_
      rotate_left
      · (intro w hSw; (try dsimp only at hSw); go_simp; try with_reducible rfl)
      simp only [Act.put, List.setIfInBounds_toArray, List.set_cons_zero, List.set_cons_succ]
      refine takeT_w 19 (some 44) (v := ?_) rfl rfl (by kernel_rfl) (by kernel_rfl) (by kernel_rfl) (by kernel_rfl) (fun _ _ _ h => h) (by rfl) ?_ hHeld ?_
      rotate_left
      · (intro w hSw; (try dsimp only at hSw); go_simp; try with_reducible rfl)
      simp only [Act.put, List.setIfInBounds_toArray, List.set_cons_zero, List.set_cons_succ]
      refine wpAnyT_done (by kernel_rfl) ?_ _
      clear hHeld c5 c7 c8D z8D
      gi_wp2
      refine ⟨keepsO_of_fr ((FD.out.mono (by simp)).setCell (F := [g4 + 1 + 1]) (.inl (by simp)) _) (fun j hj o ho => by rw [List.mem_singleton.1 hj, show W.heap[g4 + 1 + 1]? = _ from HK6.out] at ho; cases ho; rfl), .inl ⟨rfl, ⟨pre, _, rfl, fun hh => ?_⟩⟩⟩
      intro heq
      have := congrArg Prod.fst heq
      refine e1 ?_
      simp only [HI.out.2, HY.out] at this
      exact this.symm
  case hdone =>
    intro D xs W hD hS hI hK
    subst hS
    obtain ⟨b8, F8⟩ := hI
    obtain ⟨N, hN⟩ : ∃ N, L.length = N := ⟨_, rfl⟩
    rw [pairsF_len, List.length_map, hN] at b8
    have c8 : W.cell? ⟨g8, 0, none⟩ = some (.int .i64 N) := b8.cell 0
    have c4 : W.cell? ⟨g4, 0, none⟩ = some (.pointer (some ⟨q, 0, none⟩)) := ((k4.keep_nil fL).keep F8 (by simp; omega)).cell 0
    have c5 : W.cell? ⟨g4 + 1, 0, none⟩ = some (.int .i64 most) := ((k5.keep_nil fL).keep F8 (by simp; omega)).cell 0
    have c7 : W.cell? ⟨g7, 0, none⟩ = some (.int .i64 0) := ((k7.keep_nil fL).keep F8 (by simp; omega)).cell 0
    obtain ⟨v, hxw⟩ := id hx
    have hxW := (hxw.keep_nil FL.out).keep F8 (fun i hi hm => by have := hxw.lt i hi; have := List.mem_singleton.1 hm; omega)
    have cq := hxW.c0
    have rq := hxW.row
    obtain ⟨A, cc, rfl, -, hcm, -, -, -⟩ := rq.shape
    rw [hN] at cq
    go_upto_region 14 with fail
    go_quiet (fail)
    have fE : Fr [] W (W.drewN nq) := (Fr.refl _ _).drewN _
    obtain ⟨wE, hwE⟩ : ∃ x, W.drewN nq = x := ⟨_, rfl⟩
    rw [hwE] at fE ⊢
    replace c7 := fE.cell (by simp) c7
    have FWE := Lib.hid ((FL.out.trans F8 (fun i hi => .inr (by have := List.mem_singleton.1 hi; omega))).trans_nil fE)
    have hKE := fE.blk (by simp) hK
    have kn4 := ((k4.keep_nil fL).keep F8 (by simp; omega)).keep_nil fE
    have kn5 := ((k5.keep_nil fL).keep F8 (by simp; omega)).keep_nil fE
    have kn6 := ((k6.keep_nil fL).keep F8 (by simp; omega)).keep_nil fE
    have fLE := (F8.trans_nil fE)
    have hDl : D < wE.heap.size := (Array.getElem?_eq_some_iff.1 hKE).1
    have hgE : wL.heap.size ≤ wE.heap.size := fLE.size
    clear k4 k5 k6 k7 c8 c4 c5 cq rq hxW hxw F8 hK b8
    go_wp2
    have k7 := Blk.new wE 3 #[.int .i64 1]
    have fA : Fr [] wE (wE.alloc (.cells #[.int .i64 1] 3)) := (Fr.refl _ _).alloc _
    obtain ⟨wr, hwr⟩ : ∃ x, wE.alloc (.cells #[.int .i64 1] 3) = x := ⟨_, rfl⟩
    rw [hwr] at k7 fA ⊢
    have k4 := kn4.keep_nil fA
    have k5 := kn5.keep_nil fA
    have k6 := kn6.keep_nil fA
    have hK1 := fA.blk (by simp) hKE
    have FW := Lib.hid (FWE.out.trans_nil fA)
    obtain ⟨g7, hg7⟩ : ∃ g, wE.heap.size = g := ⟨_, rfl⟩
    rw [hg7] at k7 hDl hgE ⊢
    have c7 : wr.cell? ⟨g7, 0, none⟩ = some (.int .i64 1) := k7.cell 0
    clear hwr hwE fE kn4 kn5 kn6 hg7 hKE
    rw [rounds_succ]
    go_wp2_with (go_at_call 27; refine (srtAll_any _ _).mono ?_; rintro e w' ⟨rfl, rfl⟩)
    obtain ⟨k8, -, kA, fL⟩ := boxes3 wr 3 55 55 (.int .i64 0) (.pointer (some ⟨p, 0, none⟩)) (.pointer (some ⟨p, 0, none⟩))
    obtain ⟨wL, hwL⟩ : ∃ x, ((wr.alloc (.cells #[.int .i64 0] 3)).alloc (.cells #[.pointer (some ⟨p, 0, none⟩)] 55)).alloc (.cells #[.pointer (some ⟨p, 0, none⟩)] 55) = x := ⟨_, rfl⟩
    rw [hwL] at k8 kA fL ⊢
    obtain ⟨g8, hg8⟩ : ∃ g, wr.heap.size = g := ⟨_, rfl⟩
    rw [hg8] at k8 kA ⊢
    have FL := Lib.hid (FW.out.trans_nil fL)
    have hLS := h.keep_nil FL.out
    have hwl := FL.out.size
    have hws : w.heap.size ≤ g8 := by have := FW.out.size; omega
    have hgl := k8.lt
    have hg7l := k7.lt
    have hg8l : wr.heap.size ≤ g8 := by omega
    have hpl := h.blk.lt
    have hbl := h.map.lt
    have HSEQ := Lib.hid (srtAll1_stops 4 (by omega) (g8 + 1 + 1) p b n [g8] wL.heap.size hr.keys hn wL (kA.cell 0) (by simp; omega) hLS (by simp; omega) (by simp; omega) (by omega) (fun i hi => by rw [List.mem_singleton.1 hi]; exact hgl))
    clear hwL hg8 c7
    refine (wpIn_wide (n := 5)).1 ?_
    apply wpIn_rangeFunc_ownF (hro := rfl) (h1 := by omega) (gf := 62) (lb := #[.pointer (some ⟨g8 + 1 + 1, 0, none⟩)]) (hg := rfl) (hFg := trivial) (eg := enters_of Try.func62 (by kernel_rfl) rfl) (encs := encP f) (Kp := KeepC [g8] wL.heap.size) (hseq := HSEQ.out) (hKt := keepC_t) (hKb := keepC_b (Nat.le_refl _)) (hb0 := Below.refl _ _) (hps := fun _ => rfl) (I := OvI wL g8 f) (Ix := OvX wL g8 f L most 1) (hI := ovI_own) (hIx := ovX_own) (h0 := ⟨k8, Fr.refl _ _⟩)
    case hassign =>
      intro l x W K hK
      gi_wp2
      exact hK
    case hbody =>
      rintro l pre ⟨⟨y, u⟩, hwf, hfu⟩ W hI hlen
      have hfu : f y = some u := hfu
      have hu : ∃ t, u = .string t := by
        rw [hr.eq] at hfu
        obtain ⟨t, _, e⟩ := Option.map_eq_some_iff.1 hfu
        exact ⟨t, e.symm⟩
      obtain ⟨t, rfl⟩ := hu
      obtain ⟨k, hk⟩ : ∃ k, pre.length = k := ⟨_, rfl⟩
      have hI2 := hI
      obtain ⟨b8, F8⟩ := hI
      rw [hk] at b8 hlen
      have c8 : W.cell? ⟨g8, 0, none⟩ = some (.int .i64 k) := b8.cell 0
      have B8 := b8
      have c4 : W.cell? ⟨g4, 0, none⟩ = some (.pointer (some ⟨q, 0, none⟩)) := ((k4.keep_nil fL).keep F8 (by simp; omega)).cell 0
      have c5 : W.cell? ⟨g4 + 1, 0, none⟩ = some (.int .i64 most) := ((k5.keep_nil fL).keep F8 (by simp; omega)).cell 0
      have b6 := (k6.keep_nil fL).keep F8 (show g4 + 1 + 1 ∉ [g8] by simp; omega)
      have c6 : W.cell? ⟨g4 + 1 + 1, 0, none⟩ = some (.bool false) := b6.cell 0
      have z6 := b6.frozen 0
      have HK6 := Lib.hid b6
      have c7 : W.cell? ⟨g7, 0, none⟩ = some (.int .i64 1) := ((k7.keep_nil fL).keep F8 (by simp; omega)).cell 0
      obtain ⟨v, hxw⟩ := id hx
      have hxW := (hxw.keep_nil FL.out).keep F8 (fun i hi hm => by have := hxw.lt i hi; have := List.mem_singleton.1 hm; omega)
      have cq := hxW.c0
      have rq := hxW.row
      obtain ⟨A, cc, rfl, -, hcm, -, -, -⟩ := rq.shape
      obtain ⟨N, hN⟩ : ∃ N, L.length = N := ⟨_, rfl⟩
      rw [hN] at cq
      have HRQ := Lib.hid rq
      have HN := Lib.hid hN
      have HI := Lib.hid (And.intro hI2 hk)
      have HF8 := Lib.hid F8
      have HFU := Lib.hid (And.intro hwf hfu)
      clear hI2 hk hxw hxW rq hN b8 b6 F8
      have HI8 := Lib.hid B8
      clear B8
      by_cases hA : N ≤ k
      · have dA : decide (N ≤ k) = true := by simpa using hA
        gi_upto_region 10 with (fail)
        refine wpIn_region_round 99 (S := fun w' => w'.cell? ⟨g8, 0, none⟩ = some (.int .i64 k) ∧ w'.cell? ⟨g4, 0, none⟩ = some (.pointer (some ⟨q, 0, none⟩)) ∧ w'.cell? ⟨q, 0, none⟩ = some (.slice A N cc)) (by kernel_rfl) (by kernel_rfl) (by rintro ⟨a, w, h⟩; exact h) ?_
        obtain ⟨wD, hwD⟩ : ∃ x, W.drew = x := ⟨_, rfl⟩
        have fD : Fr [] W wD := by rw [← hwD]; exact (Fr.refl _ _).drew
        have hHeld : wD.cell? ⟨g8, 0, none⟩ = some (.int .i64 k) ∧ wD.cell? ⟨g4, 0, none⟩ = some (.pointer (some ⟨q, 0, none⟩)) ∧ wD.cell? ⟨q, 0, none⟩ = some (.slice A N cc) := ⟨fD.cell (by simp) c8, fD.cell (by simp) c4, fD.cell (by simp) cq⟩
        rw [hwD]
        replace c6 := fD.cell (by simp) c6
        replace z6 := (HK6.out.keep_nil fD).frozen 0
        replace c7 := fD.cell (by simp) c7
        replace c5 := fD.cell (by simp) c5
        have c8D := hHeld.1
        have z8D := (HI8.out.keep_nil fD).frozen 0
        have FD := Lib.hid fD
        clear fD hwD c4 cq
        refine takeT_w 0 (some 25) (v := ?_) rfl rfl (by kernel_rfl) (by kernel_rfl) (by kernel_rfl) (by kernel_rfl) (fun _ _ _ h => h) (by rfl) ?_ hHeld ?_
        rotate_left
        · (intro w hSw; (try dsimp only at hSw); go_simp; try with_reducible rfl)
        simp only [Act.put, List.setIfInBounds_toArray, List.set_cons_zero, List.set_cons_succ]
        refine takeT_w 1 (some 26) (v := ?_) rfl rfl (by kernel_rfl) (by kernel_rfl) (by kernel_rfl) (by kernel_rfl) (fun _ _ _ h => h) (by rfl) ?_ hHeld ?_
        rotate_left
        · (intro w hSw; (try dsimp only at hSw); go_simp; try with_reducible rfl)
        simp only [Act.put, List.setIfInBounds_toArray, List.set_cons_zero, List.set_cons_succ]
        refine takeT_w 2 (some 27) (v := ?_) rfl rfl (by kernel_rfl) (by kernel_rfl) (by kernel_rfl) (by kernel_rfl) (fun _ _ _ h => h) (by rfl) ?_ hHeld ?_
        rotate_left
        · (intro w hSw; (try dsimp only at hSw); go_simp; try with_reducible rfl)
        simp only [Act.put, List.setIfInBounds_toArray, List.set_cons_zero, List.set_cons_succ]
        refine takeT_w 3 (some 28) (v := ?_) rfl rfl (by kernel_rfl) (by kernel_rfl) (by kernel_rfl) (by kernel_rfl) (fun _ _ _ h => h) (by rfl) ?_ hHeld ?_
        rotate_left
        · (intro w hSw; (try dsimp only at hSw); go_simp; try with_reducible rfl)
        simp only [Act.put, List.setIfInBounds_toArray, List.set_cons_zero, List.set_cons_succ]
        refine takeT_w 4 (some 29) (v := ?_) rfl rfl (by kernel_rfl) (by kernel_rfl) (by kernel_rfl) (by kernel_rfl) (fun _ _ _ h => h) (by rfl) ?_ hHeld ?_
        rotate_left
        · (intro w hSw; (try dsimp only at hSw); go_simp; try with_reducible rfl)
        simp only [Act.put, List.setIfInBounds_toArray, List.set_cons_zero, List.set_cons_succ]
        refine takeT_w 5 (some 30) (v := ?_) rfl rfl (by kernel_rfl) (by kernel_rfl) (by kernel_rfl) (by kernel_rfl) (fun _ _ _ h => h) (by rfl) ?_ hHeld ?_
        rotate_left
        · (intro w hSw; (try dsimp only at hSw); go_simp; try with_reducible rfl)
        simp only [Act.put, List.setIfInBounds_toArray, List.set_cons_zero, List.set_cons_succ]
        refine takeT_w 6 (some 31) (v := ?_) rfl rfl (by kernel_rfl) (by kernel_rfl) (by kernel_rfl) (by kernel_rfl) (fun _ _ _ h => h) (by rfl) ?_ hHeld ?_
        rotate_left
        · (intro w hSw; (try dsimp only at hSw); go_simp; try with_reducible rfl)
        simp only [Act.put, List.setIfInBounds_toArray, List.set_cons_zero, List.set_cons_succ]
        refine takeT_w 7 (some 32) (v := ?_) rfl rfl (by kernel_rfl) (by kernel_rfl) (by kernel_rfl) (by kernel_rfl) (fun _ _ _ h => h) (by rfl) ?_ hHeld ?_
        rotate_left
        · (intro w hSw; (try dsimp only at hSw); go_simp; try with_reducible rfl)
        simp only [Act.put, List.setIfInBounds_toArray, List.set_cons_zero, List.set_cons_succ]
        refine takeT_u 8 (some 33) rfl rfl (by kernel_rfl) (by kernel_rfl) (by kernel_rfl) (by kernel_rfl) (fun _ _ _ h => h) (by rfl) hHeld ?_
        simp only [Act.put, List.setIfInBounds_toArray, List.set_cons_zero, List.set_cons_succ]
        refine takeT_u 9 (some 34) rfl rfl (by kernel_rfl) (by kernel_rfl) (by kernel_rfl) (by kernel_rfl) (fun _ _ _ h => h) (by rfl) hHeld ?_
        simp only [Act.put, List.setIfInBounds_toArray, List.set_cons_zero, List.set_cons_succ]
        refine takeT_u 10 (some 35) rfl rfl (by kernel_rfl) (by kernel_rfl) (by kernel_rfl) (by kernel_rfl) (fun _ _ _ h => h) (by rfl) hHeld ?_
        simp only [Act.put, List.setIfInBounds_toArray, List.set_cons_zero, List.set_cons_succ]
        refine takeT_u 11 (some 36) rfl rfl (by kernel_rfl) (by kernel_rfl) (by kernel_rfl) (by kernel_rfl) (fun _ _ _ h => h) (by rfl) hHeld ?_
        simp only [Act.put, List.setIfInBounds_toArray, List.set_cons_zero, List.set_cons_succ]
        refine takeT_u 12 (some 37) rfl rfl (by kernel_rfl) (by kernel_rfl) (by kernel_rfl) (by kernel_rfl) (fun _ _ _ h => h) (by rfl) hHeld ?_
        simp only [Act.put, List.setIfInBounds_toArray, List.set_cons_zero, List.set_cons_succ]
        refine takeT_u 13 (some 38) rfl rfl (by kernel_rfl) (by kernel_rfl) (by kernel_rfl) (by kernel_rfl) (fun _ _ _ h => h) (by rfl) hHeld ?_
        simp only [Act.put, List.setIfInBounds_toArray, List.set_cons_zero, List.set_cons_succ]
        refine takeT_u 14 (some 39) rfl rfl (by kernel_rfl) (by kernel_rfl) (by kernel_rfl) (by kernel_rfl) (fun _ _ _ h => h) (by rfl) hHeld ?_
        simp only [Act.put, List.setIfInBounds_toArray, List.set_cons_zero, List.set_cons_succ]
        refine takeT_u 15 (some 40) rfl rfl (by kernel_rfl) (by kernel_rfl) (by kernel_rfl) (by kernel_rfl) (fun _ _ _ h => h) (by rfl) hHeld ?_
        simp only [Act.put, List.setIfInBounds_toArray, List.set_cons_zero, List.set_cons_succ]
        refine takeT_u 16 (some 41) rfl rfl (by kernel_rfl) (by kernel_rfl) (by kernel_rfl) (by kernel_rfl) (fun _ _ _ h => h) (by rfl) hHeld ?_
        simp only [Act.put, List.setIfInBounds_toArray, List.set_cons_zero, List.set_cons_succ]
        refine takeT_u 17 (some 42) rfl rfl (by kernel_rfl) (by kernel_rfl) (by kernel_rfl) (by kernel_rfl) (fun _ _ _ h => h) (by rfl) hHeld ?_
        simp only [Act.put, List.setIfInBounds_toArray, List.set_cons_zero, List.set_cons_succ]
        refine takeT_u 18 (some 43) rfl rfl (by kernel_rfl) (by kernel_rfl) (by kernel_rfl) (by kernel_rfl) (fun _ _ _ h => h) (by rfl) hHeld ?_
        simp only [Act.put, List.setIfInBounds_toArray, List.set_cons_zero, List.set_cons_succ]
        refine takeT_w 19 (some 44) (v := ?_) rfl rfl (by kernel_rfl) (by kernel_rfl) (by kernel_rfl) (by kernel_rfl) (fun _ _ _ h => h) (by rfl) ?_ hHeld ?_
        rotate_left
        · (intro w hSw; (try dsimp only at hSw); go_simp; try with_reducible rfl)
        simp only [Act.put, List.setIfInBounds_toArray, List.set_cons_zero, List.set_cons_succ]
        refine wpAnyT_done (by kernel_rfl) ?_ _
        clear hHeld c5 c7 c8D z8D
        gi_wp2
        refine ⟨keepsO_of_fr ((FD.out.mono (by simp)).setCell (F := [g4 + 1 + 1]) (.inl (by simp)) _) (fun j hj o ho => by rw [List.mem_singleton.1 hj, show W.heap[g4 + 1 + 1]? = _ from HK6.out] at ho; cases ho; rfl), .inl ⟨rfl, ⟨pre, _, rfl, fun hh => ?_⟩⟩⟩
        exact absurd hh (by rw [HN.out, HI.out.2]; omega)
      have dA : decide (N ≤ k) = false := by simpa using hA
      have hkN : k < N := by omega
      have dk : (k : Int) < N := by omega
      have hkl : k < L.length := by rw [HN.out]; exact hkN
      obtain ⟨gq, rfl, q0, q1⟩ := qcells_row HRQ.out k hkl
      obtain ⟨⟨y', t'⟩, hyt⟩ : ∃ p, L[k] = p := ⟨_, rfl⟩
      rw [hyt] at q0 q1
      have HY := Lib.hid hyt
      clear hyt
      by_cases e1 : y' = y
      · by_cases e2 : t' = t
        · subst e1 e2
          gi_upto_region 10 with (fail)
          refine wpIn_region_round 99 (S := fun w' => w'.cell? ⟨g8, 0, none⟩ = some (.int .i64 k) ∧ w'.cell? ⟨g4, 0, none⟩ = some (.pointer (some ⟨q, 0, none⟩)) ∧ w'.cell? ⟨q, 0, none⟩ = some (.slice (some ⟨gq, 0, none⟩) N cc) ∧ w'.cell? ⟨gq, k * 2, none⟩ = some (.int .i64 y') ∧ w'.cell? ⟨gq, k * 2 + 1, none⟩ = some (.string t')) (by kernel_rfl) (by kernel_rfl) (by rintro ⟨a, w, h⟩; exact h) ?_
          obtain ⟨wD, hwD⟩ : ∃ x, W.drew = x := ⟨_, rfl⟩
          have fD : Fr [] W wD := by rw [← hwD]; exact (Fr.refl _ _).drew
          have hHeld : wD.cell? ⟨g8, 0, none⟩ = some (.int .i64 k) ∧ wD.cell? ⟨g4, 0, none⟩ = some (.pointer (some ⟨q, 0, none⟩)) ∧ wD.cell? ⟨q, 0, none⟩ = some (.slice (some ⟨gq, 0, none⟩) N cc) ∧ wD.cell? ⟨gq, k * 2, none⟩ = some (.int .i64 y') ∧ wD.cell? ⟨gq, k * 2 + 1, none⟩ = some (.string t') := ⟨fD.cell (by simp) c8, fD.cell (by simp) c4, fD.cell (by simp) cq, fD.cell (by simp) q0, fD.cell (by simp) q1⟩
          rw [hwD]
          replace c6 := fD.cell (by simp) c6
          replace z6 := (HK6.out.keep_nil fD).frozen 0
          replace c7 := fD.cell (by simp) c7
          replace c5 := fD.cell (by simp) c5
          have c8D := hHeld.1
          have z8D := (HI8.out.keep_nil fD).frozen 0
          have FD := Lib.hid fD
          clear fD hwD c4 cq
          refine takeT_w 0 (some 25) (v := ?_) rfl rfl (by kernel_rfl) (by kernel_rfl) (by kernel_rfl) (by kernel_rfl) (fun _ _ _ h => h) (by rfl) ?_ hHeld ?_
          rotate_left
          · (intro w hSw; (try dsimp only at hSw); go_simp; try with_reducible rfl)
          simp only [Act.put, List.setIfInBounds_toArray, List.set_cons_zero, List.set_cons_succ]
          refine takeT_w 1 (some 26) (v := ?_) rfl rfl (by kernel_rfl) (by kernel_rfl) (by kernel_rfl) (by kernel_rfl) (fun _ _ _ h => h) (by rfl) ?_ hHeld ?_
          rotate_left
          · (intro w hSw; (try dsimp only at hSw); go_simp; try with_reducible rfl)
          simp only [Act.put, List.setIfInBounds_toArray, List.set_cons_zero, List.set_cons_succ]
          refine takeT_w 2 (some 27) (v := ?_) rfl rfl (by kernel_rfl) (by kernel_rfl) (by kernel_rfl) (by kernel_rfl) (fun _ _ _ h => h) (by rfl) ?_ hHeld ?_
          rotate_left
          · (intro w hSw; (try dsimp only at hSw); go_simp; try with_reducible rfl)
          simp only [Act.put, List.setIfInBounds_toArray, List.set_cons_zero, List.set_cons_succ]
          refine takeT_w 3 (some 28) (v := ?_) rfl rfl (by kernel_rfl) (by kernel_rfl) (by kernel_rfl) (by kernel_rfl) (fun _ _ _ h => h) (by rfl) ?_ hHeld ?_
          rotate_left
          · (intro w hSw; (try dsimp only at hSw); go_simp; try with_reducible rfl)
          simp only [Act.put, List.setIfInBounds_toArray, List.set_cons_zero, List.set_cons_succ]
          refine takeT_w 4 (some 29) (v := ?_) rfl rfl (by kernel_rfl) (by kernel_rfl) (by kernel_rfl) (by kernel_rfl) (fun _ _ _ h => h) (by rfl) ?_ hHeld ?_
          rotate_left
          · (intro w hSw; (try dsimp only at hSw); go_simp; try with_reducible rfl)
          simp only [Act.put, List.setIfInBounds_toArray, List.set_cons_zero, List.set_cons_succ]
          refine takeT_w 5 (some 30) (v := ?_) rfl rfl (by kernel_rfl) (by kernel_rfl) (by kernel_rfl) (by kernel_rfl) (fun _ _ _ h => h) (by rfl) ?_ hHeld ?_
          rotate_left
          · (intro w hSw; (try dsimp only at hSw); go_simp; try with_reducible rfl)
          simp only [Act.put, List.setIfInBounds_toArray, List.set_cons_zero, List.set_cons_succ]
          refine takeT_w 6 (some 31) (v := ?_) rfl rfl (by kernel_rfl) (by kernel_rfl) (by kernel_rfl) (by kernel_rfl) (fun _ _ _ h => h) (by rfl) ?_ hHeld ?_
          rotate_left
          · (intro w hSw; (try dsimp only at hSw); go_simp; try with_reducible rfl)
          simp only [Act.put, List.setIfInBounds_toArray, List.set_cons_zero, List.set_cons_succ]
          refine takeT_w 7 (some 32) (v := ?_) rfl rfl (by kernel_rfl) (by kernel_rfl) (by kernel_rfl) (by kernel_rfl) (fun _ _ _ h => h) (by rfl) ?_ hHeld ?_
          rotate_left
          · (intro w hSw; (try dsimp only at hSw); go_simp; try with_reducible rfl)
          simp only [Act.put, List.setIfInBounds_toArray, List.set_cons_zero, List.set_cons_succ]
          refine takeT_w 8 (some 33) (v := ?_) rfl rfl (by kernel_rfl) (by kernel_rfl) (by kernel_rfl) (by kernel_rfl) (fun _ _ _ h => h) (by rfl) ?_ hHeld ?_
          rotate_left
          · (intro w hSw; (try dsimp only at hSw); go_simp; try with_reducible rfl)
          simp only [Act.put, List.setIfInBounds_toArray, List.set_cons_zero, List.set_cons_succ]
          refine takeT_w 9 (some 34) (v := ?_) rfl rfl (by kernel_rfl) (by kernel_rfl) (by kernel_rfl) (by kernel_rfl) (fun _ _ _ h => h) (by rfl) ?_ hHeld ?_
          rotate_left
          · (intro w hSw; (try dsimp only at hSw); go_simp; try with_reducible rfl)
          simp only [Act.put, List.setIfInBounds_toArray, List.set_cons_zero, List.set_cons_succ]
          refine takeT_w 10 (some 35) (v := ?_) rfl rfl (by kernel_rfl) (by kernel_rfl) (by kernel_rfl) (by kernel_rfl) (fun _ _ _ h => h) (by rfl) ?_ hHeld ?_
          rotate_left
          · (intro w hSw; (try dsimp only at hSw); go_simp; try with_reducible rfl)
          simp only [Act.put, List.setIfInBounds_toArray, List.set_cons_zero, List.set_cons_succ]
          refine takeT_w 11 (some 36) (v := ?_) rfl rfl (by kernel_rfl) (by kernel_rfl) (by kernel_rfl) (by kernel_rfl) (fun _ _ _ h => h) (by rfl) ?_ hHeld ?_
          rotate_left
          · (intro w hSw; (try dsimp only at hSw); go_simp; try with_reducible rfl)
          simp only [Act.put, List.setIfInBounds_toArray, List.set_cons_zero, List.set_cons_succ]
          refine takeT_w 12 (some 37) (v := ?_) rfl rfl (by kernel_rfl) (by kernel_rfl) (by kernel_rfl) (by kernel_rfl) (fun _ _ _ h => h) (by rfl) ?_ hHeld ?_
          rotate_left
          · (intro w hSw; (try dsimp only at hSw); go_simp; try with_reducible rfl)
          simp only [Act.put, List.setIfInBounds_toArray, List.set_cons_zero, List.set_cons_succ]
          refine takeT_w 13 (some 38) (v := ?_) rfl rfl (by kernel_rfl) (by kernel_rfl) (by kernel_rfl) (by kernel_rfl) (fun _ _ _ h => h) (by rfl) ?_ hHeld ?_
          rotate_left
          · (intro w hSw; (try dsimp only at hSw); go_simp; try with_reducible rfl)
          simp only [Act.put, List.setIfInBounds_toArray, List.set_cons_zero, List.set_cons_succ]
          refine takeT_w 14 (some 39) (v := ?_) rfl rfl (by kernel_rfl) (by kernel_rfl) (by kernel_rfl) (by kernel_rfl) (fun _ _ _ h => h) (by rfl) ?_ hHeld ?_
          rotate_left
          · (intro w hSw; (try dsimp only at hSw); go_simp; try with_reducible rfl)
          simp only [Act.put, List.setIfInBounds_toArray, List.set_cons_zero, List.set_cons_succ]
          refine takeT_w 15 (some 40) (v := ?_) rfl rfl (by kernel_rfl) (by kernel_rfl) (by kernel_rfl) (by kernel_rfl) (fun _ _ _ h => h) (by rfl) ?_ hHeld ?_
          rotate_left
          · (intro w hSw; (try dsimp only at hSw); go_simp; try with_reducible rfl)
          simp only [Act.put, List.setIfInBounds_toArray, List.set_cons_zero, List.set_cons_succ]
          refine takeT_w 16 (some 41) (v := ?_) rfl rfl (by kernel_rfl) (by kernel_rfl) (by kernel_rfl) (by kernel_rfl) (fun _ _ _ h => h) (by rfl) ?_ hHeld ?_
          rotate_left
          · (intro w hSw; (try dsimp only at hSw); go_simp; try with_reducible rfl)
          simp only [Act.put, List.setIfInBounds_toArray, List.set_cons_zero, List.set_cons_succ]
          refine takeT_w 17 (some 42) (v := ?_) rfl rfl (by kernel_rfl) (by kernel_rfl) (by kernel_rfl) (by kernel_rfl) (fun _ _ _ h => h) (by rfl) ?_ hHeld ?_
          rotate_left
          · (intro w hSw; (try dsimp only at hSw); go_simp; try with_reducible rfl)
          simp only [Act.put, List.setIfInBounds_toArray, List.set_cons_zero, List.set_cons_succ]
          refine takeT_w 18 (some 43) (v := ?_) rfl rfl (by kernel_rfl) (by kernel_rfl) (by kernel_rfl) (by kernel_rfl) (fun _ _ _ h => h) (by rfl) ?_ hHeld ?_
          rotate_left
          · (intro w hSw; (try dsimp only at hSw); go_simp; try with_reducible rfl)
          simp only [Act.put, List.setIfInBounds_toArray, List.set_cons_zero, List.set_cons_succ]
          refine takeT_w 19 (some 44) (v := ?_) rfl rfl (by kernel_rfl) (by kernel_rfl) (by kernel_rfl) (by kernel_rfl) (fun _ _ _ h => h) (by rfl) ?_ hHeld ?_
          rotate_left
          · (intro w hSw; (try dsimp only at hSw); go_simp; try with_reducible rfl)
          simp only [Act.put, List.setIfInBounds_toArray, List.set_cons_zero, List.set_cons_succ]
          refine wpAnyT_done (by kernel_rfl) ?_ _
          clear hHeld
          gi_wp2
          all_goals first | exact ovI_next HI.out.1 HI.out.2 FD.out | skip
          all_goals (
            rename_i hb
            have hb := eq_of_beq hb
            obtain ⟨a1, a2, a3⟩ := ovI_next (x := ⟨(y', Value.string t'), ⟨HFU.out.1, HFU.out.2⟩⟩) HI.out.1 HI.out.2 FD.out
            exact ⟨a1, .inr ⟨rfl, by rw [List.length_append, HI.out.2, ← hb]; rfl, rfl, a3⟩⟩)
        · have d1 : (y' == y) = true := by simpa using e1
          have d2 : ¬ t'.toList = t.toList := fun h => e2 (ByteArray.ext (Array.toList_inj.1 (by rw [← ByteArray.toList_eq, ← ByteArray.toList_eq]; exact h)))
          gi_upto_region 10 with (fail)
          refine wpIn_region_round 99 (S := fun w' => w'.cell? ⟨g8, 0, none⟩ = some (.int .i64 k) ∧ w'.cell? ⟨g4, 0, none⟩ = some (.pointer (some ⟨q, 0, none⟩)) ∧ w'.cell? ⟨q, 0, none⟩ = some (.slice (some ⟨gq, 0, none⟩) N cc) ∧ w'.cell? ⟨gq, k * 2, none⟩ = some (.int .i64 y') ∧ w'.cell? ⟨gq, k * 2 + 1, none⟩ = some (.string t')) (by kernel_rfl) (by kernel_rfl) (by rintro ⟨a, w, h⟩; exact h) ?_
          obtain ⟨wD, hwD⟩ : ∃ x, W.drew = x := ⟨_, rfl⟩
          have fD : Fr [] W wD := by rw [← hwD]; exact (Fr.refl _ _).drew
          have hHeld : wD.cell? ⟨g8, 0, none⟩ = some (.int .i64 k) ∧ wD.cell? ⟨g4, 0, none⟩ = some (.pointer (some ⟨q, 0, none⟩)) ∧ wD.cell? ⟨q, 0, none⟩ = some (.slice (some ⟨gq, 0, none⟩) N cc) ∧ wD.cell? ⟨gq, k * 2, none⟩ = some (.int .i64 y') ∧ wD.cell? ⟨gq, k * 2 + 1, none⟩ = some (.string t') := ⟨fD.cell (by simp) c8, fD.cell (by simp) c4, fD.cell (by simp) cq, fD.cell (by simp) q0, fD.cell (by simp) q1⟩
          rw [hwD]
          replace c6 := fD.cell (by simp) c6
          replace z6 := (HK6.out.keep_nil fD).frozen 0
          replace c7 := fD.cell (by simp) c7
          replace c5 := fD.cell (by simp) c5
          have c8D := hHeld.1
          have z8D := (HI8.out.keep_nil fD).frozen 0
          have FD := Lib.hid fD
          clear fD hwD c4 cq
          refine takeT_w 0 (some 25) (v := ?_) rfl rfl (by kernel_rfl) (by kernel_rfl) (by kernel_rfl) (by kernel_rfl) (fun _ _ _ h => h) (by rfl) ?_ hHeld ?_
          rotate_left
          · (intro w hSw; (try dsimp only at hSw); go_simp; try with_reducible rfl)
          simp only [Act.put, List.setIfInBounds_toArray, List.set_cons_zero, List.set_cons_succ]
          refine takeT_w 1 (some 26) (v := ?_) rfl rfl (by kernel_rfl) (by kernel_rfl) (by kernel_rfl) (by kernel_rfl) (fun _ _ _ h => h) (by rfl) ?_ hHeld ?_
          rotate_left
          · (intro w hSw; (try dsimp only at hSw); go_simp; try with_reducible rfl)
          simp only [Act.put, List.setIfInBounds_toArray, List.set_cons_zero, List.set_cons_succ]
          refine takeT_w 2 (some 27) (v := ?_) rfl rfl (by kernel_rfl) (by kernel_rfl) (by kernel_rfl) (by kernel_rfl) (fun _ _ _ h => h) (by rfl) ?_ hHeld ?_
          rotate_left
          · (intro w hSw; (try dsimp only at hSw); go_simp; try with_reducible rfl)
          simp only [Act.put, List.setIfInBounds_toArray, List.set_cons_zero, List.set_cons_succ]
          refine takeT_w 3 (some 28) (v := ?_) rfl rfl (by kernel_rfl) (by kernel_rfl) (by kernel_rfl) (by kernel_rfl) (fun _ _ _ h => h) (by rfl) ?_ hHeld ?_
          rotate_left
          · (intro w hSw; (try dsimp only at hSw); go_simp; try with_reducible rfl)
          simp only [Act.put, List.setIfInBounds_toArray, List.set_cons_zero, List.set_cons_succ]
          refine takeT_w 4 (some 29) (v := ?_) rfl rfl (by kernel_rfl) (by kernel_rfl) (by kernel_rfl) (by kernel_rfl) (fun _ _ _ h => h) (by rfl) ?_ hHeld ?_
          rotate_left
          · (intro w hSw; (try dsimp only at hSw); go_simp; try with_reducible rfl)
          simp only [Act.put, List.setIfInBounds_toArray, List.set_cons_zero, List.set_cons_succ]
          refine takeT_w 5 (some 30) (v := ?_) rfl rfl (by kernel_rfl) (by kernel_rfl) (by kernel_rfl) (by kernel_rfl) (fun _ _ _ h => h) (by rfl) ?_ hHeld ?_
          rotate_left
          · (intro w hSw; (try dsimp only at hSw); go_simp; try with_reducible rfl)
          simp only [Act.put, List.setIfInBounds_toArray, List.set_cons_zero, List.set_cons_succ]
          refine takeT_w 6 (some 31) (v := ?_) rfl rfl (by kernel_rfl) (by kernel_rfl) (by kernel_rfl) (by kernel_rfl) (fun _ _ _ h => h) (by rfl) ?_ hHeld ?_
          rotate_left
          · (intro w hSw; (try dsimp only at hSw); go_simp; try with_reducible rfl)
          simp only [Act.put, List.setIfInBounds_toArray, List.set_cons_zero, List.set_cons_succ]
          refine takeT_w 7 (some 32) (v := ?_) rfl rfl (by kernel_rfl) (by kernel_rfl) (by kernel_rfl) (by kernel_rfl) (fun _ _ _ h => h) (by rfl) ?_ hHeld ?_
          rotate_left
          · (intro w hSw; (try dsimp only at hSw); go_simp; try with_reducible rfl)
          simp only [Act.put, List.setIfInBounds_toArray, List.set_cons_zero, List.set_cons_succ]
          refine takeT_w 8 (some 33) (v := ?_) rfl rfl (by kernel_rfl) (by kernel_rfl) (by kernel_rfl) (by kernel_rfl) (fun _ _ _ h => h) (by rfl) ?_ hHeld ?_
          rotate_left
          · (intro w hSw; (try dsimp only at hSw); go_simp; try with_reducible rfl)
          simp only [Act.put, List.setIfInBounds_toArray, List.set_cons_zero, List.set_cons_succ]
          refine takeT_w 9 (some 34) (v := ?_) rfl rfl (by kernel_rfl) (by kernel_rfl) (by kernel_rfl) (by kernel_rfl) (fun _ _ _ h => h) (by rfl) ?_ hHeld ?_
          rotate_left
          · (intro w hSw; (try dsimp only at hSw); go_simp; try with_reducible rfl)
          simp only [Act.put, List.setIfInBounds_toArray, List.set_cons_zero, List.set_cons_succ]
          refine takeT_w 10 (some 35) (v := ?_) rfl rfl (by kernel_rfl) (by kernel_rfl) (by kernel_rfl) (by kernel_rfl) (fun _ _ _ h => h) (by rfl) ?_ hHeld ?_
          rotate_left
          · (intro w hSw; (try dsimp only at hSw); go_simp; try with_reducible rfl)
          simp only [Act.put, List.setIfInBounds_toArray, List.set_cons_zero, List.set_cons_succ]
          refine takeT_w 11 (some 36) (v := ?_) rfl rfl (by kernel_rfl) (by kernel_rfl) (by kernel_rfl) (by kernel_rfl) (fun _ _ _ h => h) (by rfl) ?_ hHeld ?_
          rotate_left
          · (intro w hSw; (try dsimp only at hSw); go_simp; try with_reducible rfl)
          simp only [Act.put, List.setIfInBounds_toArray, List.set_cons_zero, List.set_cons_succ]
          refine takeT_w 12 (some 37) (v := ?_) rfl rfl (by kernel_rfl) (by kernel_rfl) (by kernel_rfl) (by kernel_rfl) (fun _ _ _ h => h) (by rfl) ?_ hHeld ?_
          rotate_left
          · (intro w hSw; (try dsimp only at hSw); go_simp; try with_reducible rfl)
          simp only [Act.put, List.setIfInBounds_toArray, List.set_cons_zero, List.set_cons_succ]
          refine takeT_w 13 (some 38) (v := ?_) rfl rfl (by kernel_rfl) (by kernel_rfl) (by kernel_rfl) (by kernel_rfl) (fun _ _ _ h => h) (by rfl) ?_ hHeld ?_
          rotate_left
          · (intro w hSw; (try dsimp only at hSw); go_simp; try with_reducible rfl)
          simp only [Act.put, List.setIfInBounds_toArray, List.set_cons_zero, List.set_cons_succ]
          refine takeT_w 14 (some 39) (v := ?_) rfl rfl (by kernel_rfl) (by kernel_rfl) (by kernel_rfl) (by kernel_rfl) (fun _ _ _ h => h) (by rfl) ?_ hHeld ?_
          rotate_left
          · (intro w hSw; (try dsimp only at hSw); go_simp; try with_reducible rfl)
          simp only [Act.put, List.setIfInBounds_toArray, List.set_cons_zero, List.set_cons_succ]
          refine takeT_w 15 (some 40) (v := ?_) rfl rfl (by kernel_rfl) (by kernel_rfl) (by kernel_rfl) (by kernel_rfl) (fun _ _ _ h => h) (by rfl) ?_ hHeld ?_
          rotate_left
          · (intro w hSw; (try dsimp only at hSw); go_simp; try with_reducible rfl)
          simp only [Act.put, List.setIfInBounds_toArray, List.set_cons_zero, List.set_cons_succ]
          refine takeT_w 16 (some 41) (v := ?_) rfl rfl (by kernel_rfl) (by kernel_rfl) (by kernel_rfl) (by kernel_rfl) (fun _ _ _ h => h) (by rfl) ?_ hHeld ?_
          rotate_left
          · (intro w hSw; (try dsimp only at hSw); go_simp; try with_reducible rfl)
          simp only [Act.put, List.setIfInBounds_toArray, List.set_cons_zero, List.set_cons_succ]
          refine takeT_w 17 (some 42) (v := ?_) rfl rfl (by kernel_rfl) (by kernel_rfl) (by kernel_rfl) (by kernel_rfl) (fun _ _ _ h => h) (by rfl) ?_ hHeld ?_
          rotate_left
          · (intro w hSw; (try dsimp only at hSw); go_simp; try with_reducible rfl)
          simp only [Act.put, List.setIfInBounds_toArray, List.set_cons_zero, List.set_cons_succ]
          refine takeT_w 18 (some 43) (v := ?_) rfl rfl (by kernel_rfl) (by kernel_rfl) (by kernel_rfl) (by kernel_rfl) (fun _ _ _ h => h) (by rfl) ?_ hHeld ?_
          rotate_left
          · (intro w hSw; (try dsimp only at hSw); go_simp; try with_reducible rfl)
          simp only [Act.put, List.setIfInBounds_toArray, List.set_cons_zero, List.set_cons_succ]
          refine takeT_w 19 (some 44) (v := ?_) rfl rfl (by kernel_rfl) (by kernel_rfl) (by kernel_rfl) (by kernel_rfl) (fun _ _ _ h => h) (by rfl) ?_ hHeld ?_
          rotate_left
          · (intro w hSw; (try dsimp only at hSw); go_simp; try with_reducible rfl)
          simp only [Act.put, List.setIfInBounds_toArray, List.set_cons_zero, List.set_cons_succ]
          refine wpAnyT_done (by kernel_rfl) ?_ _
          clear hHeld c5 c7 c8D z8D
          gi_wp2
          refine ⟨keepsO_of_fr ((FD.out.mono (by simp)).setCell (F := [g4 + 1 + 1]) (.inl (by simp)) _) (fun j hj o ho => by rw [List.mem_singleton.1 hj, show W.heap[g4 + 1 + 1]? = _ from HK6.out] at ho; cases ho; rfl), .inl ⟨rfl, ⟨pre, _, rfl, fun hh => ?_⟩⟩⟩
          intro heq
          have := congrArg Prod.snd heq
          refine e2 ?_
          simp only [HI.out.2, HY.out] at this
          cases this
          rfl
      · have d1 : (y' == y) = false := by simpa using e1
        gi_upto_region 10 with (fail)
        refine wpIn_region_round 99 (S := fun w' => w'.cell? ⟨g8, 0, none⟩ = some (.int .i64 k) ∧ w'.cell? ⟨g4, 0, none⟩ = some (.pointer (some ⟨q, 0, none⟩)) ∧ w'.cell? ⟨q, 0, none⟩ = some (.slice (some ⟨gq, 0, none⟩) N cc) ∧ w'.cell? ⟨gq, k * 2, none⟩ = some (.int .i64 y') ∧ w'.cell? ⟨gq, k * 2 + 1, none⟩ = some (.string t')) (by kernel_rfl) (by kernel_rfl) (by rintro ⟨a, w, h⟩; exact h) ?_
        obtain ⟨wD, hwD⟩ : ∃ x, W.drew = x := ⟨_, rfl⟩
        have fD : Fr [] W wD := by rw [← hwD]; exact (Fr.refl _ _).drew
        have hHeld : wD.cell? ⟨g8, 0, none⟩ = some (.int .i64 k) ∧ wD.cell? ⟨g4, 0, none⟩ = some (.pointer (some ⟨q, 0, none⟩)) ∧ wD.cell? ⟨q, 0, none⟩ = some (.slice (some ⟨gq, 0, none⟩) N cc) ∧ wD.cell? ⟨gq, k * 2, none⟩ = some (.int .i64 y') ∧ wD.cell? ⟨gq, k * 2 + 1, none⟩ = some (.string t') := ⟨fD.cell (by simp) c8, fD.cell (by simp) c4, fD.cell (by simp) cq, fD.cell (by simp) q0, fD.cell (by simp) q1⟩
        rw [hwD]
        replace c6 := fD.cell (by simp) c6
        replace z6 := (HK6.out.keep_nil fD).frozen 0
        replace c7 := fD.cell (by simp) c7
        replace c5 := fD.cell (by simp) c5
        have c8D := hHeld.1
        have z8D := (HI8.out.keep_nil fD).frozen 0
        have FD := Lib.hid fD
        clear fD hwD c4 cq
        refine takeT_w 0 (some 25) (v := ?_) rfl rfl (by kernel_rfl) (by kernel_rfl) (by kernel_rfl) (by kernel_rfl) (fun _ _ _ h => h) (by rfl) ?_ hHeld ?_
        rotate_left
        · (intro w hSw; (try dsimp only at hSw); go_simp; try with_reducible rfl)
        simp only [Act.put, List.setIfInBounds_toArray, List.set_cons_zero, List.set_cons_succ]
        refine takeT_w 1 (some 26) (v := ?_) rfl rfl (by kernel_rfl) (by kernel_rfl) (by kernel_rfl) (by kernel_rfl) (fun _ _ _ h => h) (by rfl) ?_ hHeld ?_
        rotate_left
        · (intro w hSw; (try dsimp only at hSw); go_simp; try with_reducible rfl)
        simp only [Act.put, List.setIfInBounds_toArray, List.set_cons_zero, List.set_cons_succ]
        refine takeT_w 2 (some 27) (v := ?_) rfl rfl (by kernel_rfl) (by kernel_rfl) (by kernel_rfl) (by kernel_rfl) (fun _ _ _ h => h) (by rfl) ?_ hHeld ?_
        rotate_left
        · (intro w hSw; (try dsimp only at hSw); go_simp; try with_reducible rfl)
        simp only [Act.put, List.setIfInBounds_toArray, List.set_cons_zero, List.set_cons_succ]
        refine takeT_w 3 (some 28) (v := ?_) rfl rfl (by kernel_rfl) (by kernel_rfl) (by kernel_rfl) (by kernel_rfl) (fun _ _ _ h => h) (by rfl) ?_ hHeld ?_
        rotate_left
        · (intro w hSw; (try dsimp only at hSw); go_simp; try with_reducible rfl)
        simp only [Act.put, List.setIfInBounds_toArray, List.set_cons_zero, List.set_cons_succ]
        refine takeT_w 4 (some 29) (v := ?_) rfl rfl (by kernel_rfl) (by kernel_rfl) (by kernel_rfl) (by kernel_rfl) (fun _ _ _ h => h) (by rfl) ?_ hHeld ?_
        rotate_left
        · (intro w hSw; (try dsimp only at hSw); go_simp; try with_reducible rfl)
        simp only [Act.put, List.setIfInBounds_toArray, List.set_cons_zero, List.set_cons_succ]
        refine takeT_w 5 (some 30) (v := ?_) rfl rfl (by kernel_rfl) (by kernel_rfl) (by kernel_rfl) (by kernel_rfl) (fun _ _ _ h => h) (by rfl) ?_ hHeld ?_
        rotate_left
        · (intro w hSw; (try dsimp only at hSw); go_simp; try with_reducible rfl)
        simp only [Act.put, List.setIfInBounds_toArray, List.set_cons_zero, List.set_cons_succ]
        refine takeT_w 6 (some 31) (v := ?_) rfl rfl (by kernel_rfl) (by kernel_rfl) (by kernel_rfl) (by kernel_rfl) (fun _ _ _ h => h) (by rfl) ?_ hHeld ?_
        rotate_left
        · (intro w hSw; (try dsimp only at hSw); go_simp; try with_reducible rfl)
        simp only [Act.put, List.setIfInBounds_toArray, List.set_cons_zero, List.set_cons_succ]
        refine takeT_w 7 (some 32) (v := ?_) rfl rfl (by kernel_rfl) (by kernel_rfl) (by kernel_rfl) (by kernel_rfl) (fun _ _ _ h => h) (by rfl) ?_ hHeld ?_
        rotate_left
        · (intro w hSw; (try dsimp only at hSw); go_simp; try with_reducible rfl)
        simp only [Act.put, List.setIfInBounds_toArray, List.set_cons_zero, List.set_cons_succ]
        refine takeT_w 8 (some 33) (v := ?_) rfl rfl (by kernel_rfl) (by kernel_rfl) (by kernel_rfl) (by kernel_rfl) (fun _ _ _ h => h) (by rfl) ?_ hHeld ?_
        rotate_left
        · (intro w hSw; (try dsimp only at hSw); go_simp; try with_reducible rfl)
        simp only [Act.put, List.setIfInBounds_toArray, List.set_cons_zero, List.set_cons_succ]
        refine takeT_w 9 (some 34) (v := ?_) rfl rfl (by kernel_rfl) (by kernel_rfl) (by kernel_rfl) (by kernel_rfl) (fun _ _ _ h => h) (by rfl) ?_ hHeld ?_
        rotate_left
        · (intro w hSw; (try dsimp only at hSw); go_simp; try with_reducible rfl)
        simp only [Act.put, List.setIfInBounds_toArray, List.set_cons_zero, List.set_cons_succ]
        refine takeT_w 10 (some 35) (v := ?_) rfl rfl (by kernel_rfl) (by kernel_rfl) (by kernel_rfl) (by kernel_rfl) (fun _ _ _ h => h) (by rfl) ?_ hHeld ?_
        rotate_left
        · (intro w hSw; (try dsimp only at hSw); go_simp; try with_reducible rfl)
        simp only [Act.put, List.setIfInBounds_toArray, List.set_cons_zero, List.set_cons_succ]
        refine takeT_w 11 (some 36) (v := ?_) rfl rfl (by kernel_rfl) (by kernel_rfl) (by kernel_rfl) (by kernel_rfl) (fun _ _ _ h => h) (by rfl) ?_ hHeld ?_
        rotate_left
        · (intro w hSw; (try dsimp only at hSw); go_simp; try with_reducible rfl)
        simp only [Act.put, List.setIfInBounds_toArray, List.set_cons_zero, List.set_cons_succ]
        refine takeT_w 12 (some 37) (v := ?_) rfl rfl (by kernel_rfl) (by kernel_rfl) (by kernel_rfl) (by kernel_rfl) (fun _ _ _ h => h) (by rfl) ?_ hHeld ?_
        rotate_left
        · (intro w hSw; (try dsimp only at hSw); go_simp; try with_reducible rfl)
        simp only [Act.put, List.setIfInBounds_toArray, List.set_cons_zero, List.set_cons_succ]
        refine takeT_w 13 (some 38) (v := ?_) rfl rfl (by kernel_rfl) (by kernel_rfl) (by kernel_rfl) (by kernel_rfl) (fun _ _ _ h => h) (by rfl) ?_ hHeld ?_
        rotate_left
        · (intro w hSw; (try dsimp only at hSw); go_simp; try with_reducible rfl)
        simp only [Act.put, List.setIfInBounds_toArray, List.set_cons_zero, List.set_cons_succ]
        refine takeT_w 14 (some 39) (v := ?_) rfl rfl (by kernel_rfl) (by kernel_rfl) (by kernel_rfl) (by kernel_rfl) (fun _ _ _ h => h) (by rfl) ?_ hHeld ?_
        rotate_left
        · (intro w hSw; (try dsimp only at hSw); go_simp; try with_reducible rfl)
        simp only [Act.put, List.setIfInBounds_toArray, List.set_cons_zero, List.set_cons_succ]
        refine takeT_w 15 (some 40) (v := ?_) rfl rfl (by kernel_rfl) (by kernel_rfl) (by kernel_rfl) (by kernel_rfl) (fun _ _ _ h => h) (by rfl) ?_ hHeld ?_
        rotate_left
        · (intro w hSw; (try dsimp only at hSw); go_simp; try with_reducible rfl)
        simp only [Act.put, List.setIfInBounds_toArray, List.set_cons_zero, List.set_cons_succ]
        refine takeT_w 16 (some 41) (v := ?_) rfl rfl (by kernel_rfl) (by kernel_rfl) (by kernel_rfl) (by kernel_rfl) (fun _ _ _ h => h) (by rfl) ?_ hHeld ?_
        rotate_left
        · (intro w hSw; (try dsimp only at hSw); go_simp; try with_reducible rfl)
        simp only [Act.put, List.setIfInBounds_toArray, List.set_cons_zero, List.set_cons_succ]
        refine takeT_w 17 (some 42) (v := ?_) rfl rfl (by kernel_rfl) (by kernel_rfl) (by kernel_rfl) (by kernel_rfl) (fun _ _ _ h => h) (by rfl) ?_ hHeld ?_
        rotate_left
        · (intro w hSw; (try dsimp only at hSw); go_simp; try with_reducible rfl)
        simp only [Act.put, List.setIfInBounds_toArray, List.set_cons_zero, List.set_cons_succ]
        refine takeT_w 18 (some 43) (v := ?_) rfl rfl (by kernel_rfl) (by kernel_rfl) (by kernel_rfl) (by kernel_rfl) (fun _ _ _ h => h) (by rfl) ?_ hHeld ?_
        rotate_left
        · (intro w hSw; (try dsimp only at hSw); go_simp; try with_reducible rfl)
        simp only [Act.put, List.setIfInBounds_toArray, List.set_cons_zero, List.set_cons_succ]
        refine takeT_w 19 (some 44) (v := ?_) rfl rfl (by kernel_rfl) (by kernel_rfl) (by kernel_rfl) (by kernel_rfl) (fun _ _ _ h => h) (by rfl) ?_ hHeld ?_
        rotate_left
        · (intro w hSw; (try dsimp only at hSw); go_simp; try with_reducible rfl)
        simp only [Act.put, List.setIfInBounds_toArray, List.set_cons_zero, List.set_cons_succ]
        refine wpAnyT_done (by kernel_rfl) ?_ _
        clear hHeld c5 c7 c8D z8D
        gi_wp2
        refine ⟨keepsO_of_fr ((FD.out.mono (by simp)).setCell (F := [g4 + 1 + 1]) (.inl (by simp)) _) (fun j hj o ho => by rw [List.mem_singleton.1 hj, show W.heap[g4 + 1 + 1]? = _ from HK6.out] at ho; cases ho; rfl), .inl ⟨rfl, ⟨pre, _, rfl, fun hh => ?_⟩⟩⟩
        intro heq
        have := congrArg Prod.fst heq
        refine e1 ?_
        simp only [HI.out.2, HY.out] at this
        exact this.symm
    case hdone =>
      intro D2 xs W hD2 hS hI hK
      subst hS
      obtain ⟨b8, F8⟩ := hI
      obtain ⟨N, hN⟩ : ∃ N, L.length = N := ⟨_, rfl⟩
      rw [pairsF_len, List.length_map, hN] at b8
      have c8 : W.cell? ⟨g8, 0, none⟩ = some (.int .i64 N) := b8.cell 0
      have c4 : W.cell? ⟨g4, 0, none⟩ = some (.pointer (some ⟨q, 0, none⟩)) := ((k4.keep_nil fL).keep F8 (by simp; omega)).cell 0
      have c5 : W.cell? ⟨g4 + 1, 0, none⟩ = some (.int .i64 most) := ((k5.keep_nil fL).keep F8 (by simp; omega)).cell 0
      have c7 : W.cell? ⟨g7, 0, none⟩ = some (.int .i64 1) := ((k7.keep_nil fL).keep F8 (by simp; omega)).cell 0
      obtain ⟨v, hxw⟩ := id hx
      have hxW := (hxw.keep_nil FL.out).keep F8 (fun i hi hm => by have := hxw.lt i hi; have := List.mem_singleton.1 hm; omega)
      have cq := hxW.c0
      have rq := hxW.row
      obtain ⟨A, cc, rfl, -, hcm, -, -, -⟩ := rq.shape
      rw [hN] at cq
      have hK1W := F8.blk (show D ∉ [g8] by simp; omega) (fL.blk (by simp) hK1)
      go_upto_region 14 with fail
      go_quiet (fail)
      have fE : Fr [] W (W.drewN nq) := (Fr.refl _ _).drewN _
      obtain ⟨wE, hwE⟩ : ∃ x, W.drewN nq = x := ⟨_, rfl⟩
      rw [hwE] at fE ⊢
      replace c7 := fE.cell (by simp) c7
      have FWE := Lib.hid ((FL.out.trans F8 (fun i hi => .inr (by have := List.mem_singleton.1 hi; omega))).trans_nil fE)
      have hKE := fE.blk (by simp) hK
      have kn4 := ((k4.keep_nil fL).keep F8 (by simp; omega)).keep_nil fE
      have kn5 := ((k5.keep_nil fL).keep F8 (by simp; omega)).keep_nil fE
      have kn6 := ((k6.keep_nil fL).keep F8 (by simp; omega)).keep_nil fE
      have fLE := (F8.trans_nil fE)
      have hDl : D2 < wE.heap.size := (Array.getElem?_eq_some_iff.1 hKE).1
      have hgE : wL.heap.size ≤ wE.heap.size := fLE.size
      clear k4 k5 k6 k7 c8 c4 c5 cq rq hxW hxw F8 hK b8
      have hK1E := fE.blk (by simp) hK1W
      go_wp2
      have k7 := Blk.new wE 3 #[.int .i64 2]
      have fA : Fr [] wE (wE.alloc (.cells #[.int .i64 2] 3)) := (Fr.refl _ _).alloc _
      obtain ⟨wt, hwr⟩ : ∃ x, wE.alloc (.cells #[.int .i64 2] 3) = x := ⟨_, rfl⟩
      rw [hwr] at k7 fA ⊢
      have k4 := kn4.keep_nil fA
      have k5 := kn5.keep_nil fA
      have k6 := kn6.keep_nil fA
      have hK2 := fA.blk (by simp) hKE
      have FW := Lib.hid (FWE.out.trans_nil fA)
      obtain ⟨g7, hg7⟩ : ∃ g, wE.heap.size = g := ⟨_, rfl⟩
      rw [hg7] at k7 hDl hgE ⊢
      have c7 : wt.cell? ⟨g7, 0, none⟩ = some (.int .i64 2) := k7.cell 0
      clear hwr hwE fE kn4 kn5 kn6 hg7 hKE
      have hKt := fA.blk (by simp) hK1E
      rw [rounds_succ]
      go_wp2_with (first
        | (go_at_call 28; refine (srtSet_nil _ _ _).mono ?_; rintro e w' ⟨rfl, rfl⟩)
        | (go_at_call 34; refine (srtClear_nil _).mono ?_; rintro e w' ⟨rfl, rfl⟩)
        | (go_at_call 30; refine (srtGet_nil _ _).mono ?_; rintro e w' ⟨rfl, rfl⟩)
        | (go_at_call 27; refine (srtAll_any _ _).mono ?_; rintro e w' ⟨rfl, rfl⟩))
      obtain ⟨kB, fB, -⟩ := box1D (wt.alloc (.cells #[.pointer none] 55)) 55 (.pointer none)
      have zB : (wt.alloc (.cells #[.pointer none] 55)).heap.size = wt.heap.size + 1 := by simp
      have fB0 : Fr [] wt (wt.alloc (.cells #[.pointer none] 55)) := (Fr.refl _ _).alloc _
      replace fB := fB0.trans_nil fB
      rw [zB] at kB
      obtain ⟨wB, hwB⟩ : ∃ x, (wt.alloc (.cells #[.pointer none] 55)).alloc (.cells #[.pointer none] 55) = x := ⟨_, rfl⟩
      rw [hwB] at kB fB ⊢
      have k6B := k6.keep_nil fB
      have hKB := fB.blk (by simp) hKt
      have hK2B := fB.blk (by simp) hK2
      have FB := Lib.hid (FW.out.trans_nil fB)
      have h7t := k7.lt
      have hBs := fB.size
      clear hwB zB fB0 k4 k5 k6 k7 c7 hKt hK2 kA
      refine (wpIn_wide (n := 5)).1 ?_
      apply wpIn_rangeFunc_ownF (hro := rfl) (h1 := by omega) (gf := 62) (lb := #[.pointer (some ⟨wt.heap.size + 1, 0, none⟩)]) (hg := rfl) (hFg := trivial) (eg := enters_of Try.func62 (by kernel_rfl) rfl) (encs := encP (fun _ => none)) (Kp := KeepC [] wB.heap.size) (hseq := srtAll1_none 4 (wt.heap.size + 1) wB (kB.cell 0) kB.lt) (hKt := keepC_t) (hKb := keepC_b (Nat.le_refl _)) (hb0 := Below.refl _ _) (hps := fun _ => rfl) (I := fun _ W => Fr [] wB W) (Ix := fun _ _ _ => False) (hI := ownFrom_fr) (hIx := fun _ _ _ _ _ h => h.elim) (h0 := Fr.refl _ _)
      case hassign =>
        intro l x W K hK
        gi_wp2
        exact hK
      case hbody =>
        intro l pre x W hI hlen
        exact absurd hlen (Nat.not_lt_zero _)
      case hstop =>
        intro D c pre W hD h
        exact h.elim
      case hdone =>
        intro D3 xs W3 hD3 hS hI hK3
        have k6W := k6B.keep_nil hI
        have c6 : W3.cell? ⟨g4 + 1 + 1, 0, none⟩ = some (.bool false) := k6W.cell 0
        have z6 := k6W.frozen 0
        have H1 := Lib.hid (hI.blk (by simp) hKB)
        have H2 := Lib.hid (hI.blk (by simp) hK2B)
        have H3 := Lib.hid hK3
        have K6 := Lib.hid k6W
        have FB3 := Lib.hid (FB.out.trans_nil hI)
        clear hKB hK2B hK3 k6B k6W hI
        go_wp2_with (first
          | (go_at_call 32; refine (srtDelete_nil _ _).mono ?_; rintro e w' ⟨rfl, rfl⟩)
          | (go_at_call 35; refine (srtLen_nil _).mono ?_; rintro e w' ⟨rfl, rfl⟩))
        obtain ⟨X, Y, Z, e3, rfl, e2, rfl, e1, rfl, eZc, eF⟩ := over_end (w := w) (u := .bool true) K6.out FB3.out H1.out H2.out H3.out (by omega) (by omega) (by omega) (by omega)
        refine ⟨by simp, .inl ⟨_, _, rfl, run_takeDeferred e3, ?_⟩⟩
        refine ⟨by simp, .inl ⟨_, _, rfl, run_takeDeferred e2, ?_⟩⟩
        refine ⟨by simp, .inl ⟨_, _, rfl, run_takeDeferred e1, ?_⟩⟩
        refine ⟨.bool true, ?_, rfl, eF⟩
        simp [results, Try.f36, go_sem, eZc]
    case hstop =>
      intro D2 c pre W hD2 hS hIx hK
      rcases hIx with ⟨rfl, hb⟩ | ⟨-, -, h10, -⟩
      · exact (BadP.no hr hS hb).elim
      · cases h10
  case hstop =>
    intro D c pre W hD hS hIx hK
    rcases hIx with ⟨rfl, hb⟩ | ⟨rfl, hm, -, b8, F8⟩
    · exact (BadP.no hr hS hb).elim
    refine wpIn_wide.2 ?_
    obtain ⟨N, hN⟩ : ∃ N, L.length = N := ⟨_, rfl⟩
    rw [hm] at b8
    have c8 : W.cell? ⟨g8, 0, none⟩ = some (.int .i64 most) := b8.cell 0
    have c4 : W.cell? ⟨g4, 0, none⟩ = some (.pointer (some ⟨q, 0, none⟩)) := ((k4.keep_nil fL).keep F8 (by simp; omega)).cell 0
    have c5 : W.cell? ⟨g4 + 1, 0, none⟩ = some (.int .i64 most) := ((k5.keep_nil fL).keep F8 (by simp; omega)).cell 0
    have c7 : W.cell? ⟨g7, 0, none⟩ = some (.int .i64 0) := ((k7.keep_nil fL).keep F8 (by simp; omega)).cell 0
    obtain ⟨v, hxw⟩ := id hx
    have hxW := (hxw.keep_nil FL.out).keep F8 (fun i hi hm => by have := hxw.lt i hi; have := List.mem_singleton.1 hm; omega)
    have cq := hxW.c0
    have rq := hxW.row
    obtain ⟨A, cc, rfl, -, hcm, -, -, -⟩ := rq.shape
    rw [hN] at cq
    by_cases hmN : most = N
    · have hmN' := hmN
      rw [hmN] at c8 c5
      go_upto_region 14 with fail
      go_quiet (fail)
      have fE : Fr [] W (W.drewN nq) := (Fr.refl _ _).drewN _
      obtain ⟨wE, hwE⟩ : ∃ x, W.drewN nq = x := ⟨_, rfl⟩
      rw [hwE] at fE ⊢
      replace c7 := fE.cell (by simp) c7
      have FWE := Lib.hid ((FL.out.trans F8 (fun i hi => .inr (by have := List.mem_singleton.1 hi; omega))).trans_nil fE)
      have hKE := fE.blk (by simp) hK
      have kn4 := ((k4.keep_nil fL).keep F8 (by simp; omega)).keep_nil fE
      have kn5 := ((k5.keep_nil fL).keep F8 (by simp; omega)).keep_nil fE
      have kn6 := ((k6.keep_nil fL).keep F8 (by simp; omega)).keep_nil fE
      have fLE := (F8.trans_nil fE)
      have hDl : D < wE.heap.size := (Array.getElem?_eq_some_iff.1 hKE).1
      have hgE : wL.heap.size ≤ wE.heap.size := fLE.size
      clear k4 k5 k6 k7 c8 c4 c5 cq rq hxW hxw F8 hK b8
      go_wp2
      have k7 := Blk.new wE 3 #[.int .i64 1]
      have fA : Fr [] wE (wE.alloc (.cells #[.int .i64 1] 3)) := (Fr.refl _ _).alloc _
      obtain ⟨wr, hwr⟩ : ∃ x, wE.alloc (.cells #[.int .i64 1] 3) = x := ⟨_, rfl⟩
      rw [hwr] at k7 fA ⊢
      have k4 := kn4.keep_nil fA
      have k5 := kn5.keep_nil fA
      have k6 := kn6.keep_nil fA
      have hK1 := fA.blk (by simp) hKE
      have FW := Lib.hid (FWE.out.trans_nil fA)
      obtain ⟨g7, hg7⟩ : ∃ g, wE.heap.size = g := ⟨_, rfl⟩
      rw [hg7] at k7 hDl hgE ⊢
      have c7 : wr.cell? ⟨g7, 0, none⟩ = some (.int .i64 1) := k7.cell 0
      clear hwr hwE fE kn4 kn5 kn6 hg7 hKE
      rw [rounds_succ]
      go_wp2_with (go_at_call 27; refine (srtAll_any _ _).mono ?_; rintro e w' ⟨rfl, rfl⟩)
      obtain ⟨k8, -, kA, fL⟩ := boxes3 wr 3 55 55 (.int .i64 0) (.pointer (some ⟨p, 0, none⟩)) (.pointer (some ⟨p, 0, none⟩))
      obtain ⟨wL, hwL⟩ : ∃ x, ((wr.alloc (.cells #[.int .i64 0] 3)).alloc (.cells #[.pointer (some ⟨p, 0, none⟩)] 55)).alloc (.cells #[.pointer (some ⟨p, 0, none⟩)] 55) = x := ⟨_, rfl⟩
      rw [hwL] at k8 kA fL ⊢
      obtain ⟨g8, hg8⟩ : ∃ g, wr.heap.size = g := ⟨_, rfl⟩
      rw [hg8] at k8 kA ⊢
      have FL := Lib.hid (FW.out.trans_nil fL)
      have hLS := h.keep_nil FL.out
      have hwl := FL.out.size
      have hws : w.heap.size ≤ g8 := by have := FW.out.size; omega
      have hgl := k8.lt
      have hg7l := k7.lt
      have hg8l : wr.heap.size ≤ g8 := by omega
      have hpl := h.blk.lt
      have hbl := h.map.lt
      have HSEQ := Lib.hid (srtAll1_stops 4 (by omega) (g8 + 1 + 1) p b n [g8] wL.heap.size hr.keys hn wL (kA.cell 0) (by simp; omega) hLS (by simp; omega) (by simp; omega) (by omega) (fun i hi => by rw [List.mem_singleton.1 hi]; exact hgl))
      clear hwL hg8 c7
      refine (wpIn_wide (n := 5)).1 ?_
      apply wpIn_rangeFunc_ownF (hro := rfl) (h1 := by omega) (gf := 62) (lb := #[.pointer (some ⟨g8 + 1 + 1, 0, none⟩)]) (hg := rfl) (hFg := trivial) (eg := enters_of Try.func62 (by kernel_rfl) rfl) (encs := encP f) (Kp := KeepC [g8] wL.heap.size) (hseq := HSEQ.out) (hKt := keepC_t) (hKb := keepC_b (Nat.le_refl _)) (hb0 := Below.refl _ _) (hps := fun _ => rfl) (I := OvI wL g8 f) (Ix := OvX wL g8 f L most 1) (hI := ovI_own) (hIx := ovX_own) (h0 := ⟨k8, Fr.refl _ _⟩)
      case hassign =>
        intro l x W K hK
        gi_wp2
        exact hK
      case hbody =>
        rintro l pre ⟨⟨y, u⟩, hwf, hfu⟩ W hI hlen
        have hfu : f y = some u := hfu
        have hu : ∃ t, u = .string t := by
          rw [hr.eq] at hfu
          obtain ⟨t, _, e⟩ := Option.map_eq_some_iff.1 hfu
          exact ⟨t, e.symm⟩
        obtain ⟨t, rfl⟩ := hu
        obtain ⟨k, hk⟩ : ∃ k, pre.length = k := ⟨_, rfl⟩
        have hI2 := hI
        obtain ⟨b8, F8⟩ := hI
        rw [hk] at b8 hlen
        have c8 : W.cell? ⟨g8, 0, none⟩ = some (.int .i64 k) := b8.cell 0
        have B8 := b8
        have c4 : W.cell? ⟨g4, 0, none⟩ = some (.pointer (some ⟨q, 0, none⟩)) := ((k4.keep_nil fL).keep F8 (by simp; omega)).cell 0
        have c5 : W.cell? ⟨g4 + 1, 0, none⟩ = some (.int .i64 most) := ((k5.keep_nil fL).keep F8 (by simp; omega)).cell 0
        have b6 := (k6.keep_nil fL).keep F8 (show g4 + 1 + 1 ∉ [g8] by simp; omega)
        have c6 : W.cell? ⟨g4 + 1 + 1, 0, none⟩ = some (.bool false) := b6.cell 0
        have z6 := b6.frozen 0
        have HK6 := Lib.hid b6
        have c7 : W.cell? ⟨g7, 0, none⟩ = some (.int .i64 1) := ((k7.keep_nil fL).keep F8 (by simp; omega)).cell 0
        obtain ⟨v, hxw⟩ := id hx
        have hxW := (hxw.keep_nil FL.out).keep F8 (fun i hi hm => by have := hxw.lt i hi; have := List.mem_singleton.1 hm; omega)
        have cq := hxW.c0
        have rq := hxW.row
        obtain ⟨A, cc, rfl, -, hcm, -, -, -⟩ := rq.shape
        obtain ⟨N, hN⟩ : ∃ N, L.length = N := ⟨_, rfl⟩
        rw [hN] at cq
        have HRQ := Lib.hid rq
        have HN := Lib.hid hN
        have HI := Lib.hid (And.intro hI2 hk)
        have HF8 := Lib.hid F8
        have HFU := Lib.hid (And.intro hwf hfu)
        clear hI2 hk hxw hxW rq hN b8 b6 F8
        have HI8 := Lib.hid B8
        clear B8
        by_cases hA : N ≤ k
        · have dA : decide (N ≤ k) = true := by simpa using hA
          gi_upto_region 10 with (fail)
          refine wpIn_region_round 99 (S := fun w' => w'.cell? ⟨g8, 0, none⟩ = some (.int .i64 k) ∧ w'.cell? ⟨g4, 0, none⟩ = some (.pointer (some ⟨q, 0, none⟩)) ∧ w'.cell? ⟨q, 0, none⟩ = some (.slice A N cc)) (by kernel_rfl) (by kernel_rfl) (by rintro ⟨a, w, h⟩; exact h) ?_
          obtain ⟨wD, hwD⟩ : ∃ x, W.drew = x := ⟨_, rfl⟩
          have fD : Fr [] W wD := by rw [← hwD]; exact (Fr.refl _ _).drew
          have hHeld : wD.cell? ⟨g8, 0, none⟩ = some (.int .i64 k) ∧ wD.cell? ⟨g4, 0, none⟩ = some (.pointer (some ⟨q, 0, none⟩)) ∧ wD.cell? ⟨q, 0, none⟩ = some (.slice A N cc) := ⟨fD.cell (by simp) c8, fD.cell (by simp) c4, fD.cell (by simp) cq⟩
          rw [hwD]
          replace c6 := fD.cell (by simp) c6
          replace z6 := (HK6.out.keep_nil fD).frozen 0
          replace c7 := fD.cell (by simp) c7
          replace c5 := fD.cell (by simp) c5
          have c8D := hHeld.1
          have z8D := (HI8.out.keep_nil fD).frozen 0
          have FD := Lib.hid fD
          clear fD hwD c4 cq
          refine takeT_w 0 (some 25) (v := ?_) rfl rfl (by kernel_rfl) (by kernel_rfl) (by kernel_rfl) (by kernel_rfl) (fun _ _ _ h => h) (by rfl) ?_ hHeld ?_
          rotate_left
          · (intro w hSw; (try dsimp only at hSw); go_simp; try with_reducible rfl)
          simp only [Act.put, List.setIfInBounds_toArray, List.set_cons_zero, List.set_cons_succ]
          refine takeT_w 1 (some 26) (v := ?_) rfl rfl (by kernel_rfl) (by kernel_rfl) (by kernel_rfl) (by kernel_rfl) (fun _ _ _ h => h) (by rfl) ?_ hHeld ?_
          rotate_left
          · (intro w hSw; (try dsimp only at hSw); go_simp; try with_reducible rfl)
          simp only [Act.put, List.setIfInBounds_toArray, List.set_cons_zero, List.set_cons_succ]
          refine takeT_w 2 (some 27) (v := ?_) rfl rfl (by kernel_rfl) (by kernel_rfl) (by kernel_rfl) (by kernel_rfl) (fun _ _ _ h => h) (by rfl) ?_ hHeld ?_
          rotate_left
          · (intro w hSw; (try dsimp only at hSw); go_simp; try with_reducible rfl)
          simp only [Act.put, List.setIfInBounds_toArray, List.set_cons_zero, List.set_cons_succ]
          refine takeT_w 3 (some 28) (v := ?_) rfl rfl (by kernel_rfl) (by kernel_rfl) (by kernel_rfl) (by kernel_rfl) (fun _ _ _ h => h) (by rfl) ?_ hHeld ?_
          rotate_left
          · (intro w hSw; (try dsimp only at hSw); go_simp; try with_reducible rfl)
          simp only [Act.put, List.setIfInBounds_toArray, List.set_cons_zero, List.set_cons_succ]
          refine takeT_w 4 (some 29) (v := ?_) rfl rfl (by kernel_rfl) (by kernel_rfl) (by kernel_rfl) (by kernel_rfl) (fun _ _ _ h => h) (by rfl) ?_ hHeld ?_
          rotate_left
          · (intro w hSw; (try dsimp only at hSw); go_simp; try with_reducible rfl)
          simp only [Act.put, List.setIfInBounds_toArray, List.set_cons_zero, List.set_cons_succ]
          refine takeT_w 5 (some 30) (v := ?_) rfl rfl (by kernel_rfl) (by kernel_rfl) (by kernel_rfl) (by kernel_rfl) (fun _ _ _ h => h) (by rfl) ?_ hHeld ?_
          rotate_left
          · (intro w hSw; (try dsimp only at hSw); go_simp; try with_reducible rfl)
          simp only [Act.put, List.setIfInBounds_toArray, List.set_cons_zero, List.set_cons_succ]
          refine takeT_w 6 (some 31) (v := ?_) rfl rfl (by kernel_rfl) (by kernel_rfl) (by kernel_rfl) (by kernel_rfl) (fun _ _ _ h => h) (by rfl) ?_ hHeld ?_
          rotate_left
          · (intro w hSw; (try dsimp only at hSw); go_simp; try with_reducible rfl)
          simp only [Act.put, List.setIfInBounds_toArray, List.set_cons_zero, List.set_cons_succ]
          refine takeT_w 7 (some 32) (v := ?_) rfl rfl (by kernel_rfl) (by kernel_rfl) (by kernel_rfl) (by kernel_rfl) (fun _ _ _ h => h) (by rfl) ?_ hHeld ?_
          rotate_left
          · (intro w hSw; (try dsimp only at hSw); go_simp; try with_reducible rfl)
          simp only [Act.put, List.setIfInBounds_toArray, List.set_cons_zero, List.set_cons_succ]
          refine takeT_u 8 (some 33) rfl rfl (by kernel_rfl) (by kernel_rfl) (by kernel_rfl) (by kernel_rfl) (fun _ _ _ h => h) (by rfl) hHeld ?_
          simp only [Act.put, List.setIfInBounds_toArray, List.set_cons_zero, List.set_cons_succ]
          refine takeT_u 9 (some 34) rfl rfl (by kernel_rfl) (by kernel_rfl) (by kernel_rfl) (by kernel_rfl) (fun _ _ _ h => h) (by rfl) hHeld ?_
          simp only [Act.put, List.setIfInBounds_toArray, List.set_cons_zero, List.set_cons_succ]
          refine takeT_u 10 (some 35) rfl rfl (by kernel_rfl) (by kernel_rfl) (by kernel_rfl) (by kernel_rfl) (fun _ _ _ h => h) (by rfl) hHeld ?_
          simp only [Act.put, List.setIfInBounds_toArray, List.set_cons_zero, List.set_cons_succ]
          refine takeT_u 11 (some 36) rfl rfl (by kernel_rfl) (by kernel_rfl) (by kernel_rfl) (by kernel_rfl) (fun _ _ _ h => h) (by rfl) hHeld ?_
          simp only [Act.put, List.setIfInBounds_toArray, List.set_cons_zero, List.set_cons_succ]
          refine takeT_u 12 (some 37) rfl rfl (by kernel_rfl) (by kernel_rfl) (by kernel_rfl) (by kernel_rfl) (fun _ _ _ h => h) (by rfl) hHeld ?_
          simp only [Act.put, List.setIfInBounds_toArray, List.set_cons_zero, List.set_cons_succ]
          refine takeT_u 13 (some 38) rfl rfl (by kernel_rfl) (by kernel_rfl) (by kernel_rfl) (by kernel_rfl) (fun _ _ _ h => h) (by rfl) hHeld ?_
          simp only [Act.put, List.setIfInBounds_toArray, List.set_cons_zero, List.set_cons_succ]
          refine takeT_u 14 (some 39) rfl rfl (by kernel_rfl) (by kernel_rfl) (by kernel_rfl) (by kernel_rfl) (fun _ _ _ h => h) (by rfl) hHeld ?_
          simp only [Act.put, List.setIfInBounds_toArray, List.set_cons_zero, List.set_cons_succ]
          refine takeT_u 15 (some 40) rfl rfl (by kernel_rfl) (by kernel_rfl) (by kernel_rfl) (by kernel_rfl) (fun _ _ _ h => h) (by rfl) hHeld ?_
          simp only [Act.put, List.setIfInBounds_toArray, List.set_cons_zero, List.set_cons_succ]
          refine takeT_u 16 (some 41) rfl rfl (by kernel_rfl) (by kernel_rfl) (by kernel_rfl) (by kernel_rfl) (fun _ _ _ h => h) (by rfl) hHeld ?_
          simp only [Act.put, List.setIfInBounds_toArray, List.set_cons_zero, List.set_cons_succ]
          refine takeT_u 17 (some 42) rfl rfl (by kernel_rfl) (by kernel_rfl) (by kernel_rfl) (by kernel_rfl) (fun _ _ _ h => h) (by rfl) hHeld ?_
          simp only [Act.put, List.setIfInBounds_toArray, List.set_cons_zero, List.set_cons_succ]
          refine takeT_u 18 (some 43) rfl rfl (by kernel_rfl) (by kernel_rfl) (by kernel_rfl) (by kernel_rfl) (fun _ _ _ h => h) (by rfl) hHeld ?_
          simp only [Act.put, List.setIfInBounds_toArray, List.set_cons_zero, List.set_cons_succ]
          refine takeT_w 19 (some 44) (v := ?_) rfl rfl (by kernel_rfl) (by kernel_rfl) (by kernel_rfl) (by kernel_rfl) (fun _ _ _ h => h) (by rfl) ?_ hHeld ?_
          rotate_left
          · (intro w hSw; (try dsimp only at hSw); go_simp; try with_reducible rfl)
          simp only [Act.put, List.setIfInBounds_toArray, List.set_cons_zero, List.set_cons_succ]
          refine wpAnyT_done (by kernel_rfl) ?_ _
          clear hHeld c5 c7 c8D z8D
          gi_wp2
          refine ⟨keepsO_of_fr ((FD.out.mono (by simp)).setCell (F := [g4 + 1 + 1]) (.inl (by simp)) _) (fun j hj o ho => by rw [List.mem_singleton.1 hj, show W.heap[g4 + 1 + 1]? = _ from HK6.out] at ho; cases ho; rfl), .inl ⟨rfl, ⟨pre, _, rfl, fun hh => ?_⟩⟩⟩
          exact absurd hh (by rw [HN.out, HI.out.2]; omega)
        have dA : decide (N ≤ k) = false := by simpa using hA
        have hkN : k < N := by omega
        have dk : (k : Int) < N := by omega
        have hkl : k < L.length := by rw [HN.out]; exact hkN
        obtain ⟨gq, rfl, q0, q1⟩ := qcells_row HRQ.out k hkl
        obtain ⟨⟨y', t'⟩, hyt⟩ : ∃ p, L[k] = p := ⟨_, rfl⟩
        rw [hyt] at q0 q1
        have HY := Lib.hid hyt
        clear hyt
        by_cases e1 : y' = y
        · by_cases e2 : t' = t
          · subst e1 e2
            gi_upto_region 10 with (fail)
            refine wpIn_region_round 99 (S := fun w' => w'.cell? ⟨g8, 0, none⟩ = some (.int .i64 k) ∧ w'.cell? ⟨g4, 0, none⟩ = some (.pointer (some ⟨q, 0, none⟩)) ∧ w'.cell? ⟨q, 0, none⟩ = some (.slice (some ⟨gq, 0, none⟩) N cc) ∧ w'.cell? ⟨gq, k * 2, none⟩ = some (.int .i64 y') ∧ w'.cell? ⟨gq, k * 2 + 1, none⟩ = some (.string t')) (by kernel_rfl) (by kernel_rfl) (by rintro ⟨a, w, h⟩; exact h) ?_
            obtain ⟨wD, hwD⟩ : ∃ x, W.drew = x := ⟨_, rfl⟩
            have fD : Fr [] W wD := by rw [← hwD]; exact (Fr.refl _ _).drew
            have hHeld : wD.cell? ⟨g8, 0, none⟩ = some (.int .i64 k) ∧ wD.cell? ⟨g4, 0, none⟩ = some (.pointer (some ⟨q, 0, none⟩)) ∧ wD.cell? ⟨q, 0, none⟩ = some (.slice (some ⟨gq, 0, none⟩) N cc) ∧ wD.cell? ⟨gq, k * 2, none⟩ = some (.int .i64 y') ∧ wD.cell? ⟨gq, k * 2 + 1, none⟩ = some (.string t') := ⟨fD.cell (by simp) c8, fD.cell (by simp) c4, fD.cell (by simp) cq, fD.cell (by simp) q0, fD.cell (by simp) q1⟩
            rw [hwD]
            replace c6 := fD.cell (by simp) c6
            replace z6 := (HK6.out.keep_nil fD).frozen 0
            replace c7 := fD.cell (by simp) c7
            replace c5 := fD.cell (by simp) c5
            have c8D := hHeld.1
            have z8D := (HI8.out.keep_nil fD).frozen 0
            have FD := Lib.hid fD
            clear fD hwD c4 cq
            refine takeT_w 0 (some 25) (v := ?_) rfl rfl (by kernel_rfl) (by kernel_rfl) (by kernel_rfl) (by kernel_rfl) (fun _ _ _ h => h) (by rfl) ?_ hHeld ?_
            rotate_left
            · (intro w hSw; (try dsimp only at hSw); go_simp; try with_reducible rfl)
            simp only [Act.put, List.setIfInBounds_toArray, List.set_cons_zero, List.set_cons_succ]
            refine takeT_w 1 (some 26) (v := ?_) rfl rfl (by kernel_rfl) (by kernel_rfl) (by kernel_rfl) (by kernel_rfl) (fun _ _ _ h => h) (by rfl) ?_ hHeld ?_
            rotate_left
            · (intro w hSw; (try dsimp only at hSw); go_simp; try with_reducible rfl)
            simp only [Act.put, List.setIfInBounds_toArray, List.set_cons_zero, List.set_cons_succ]
            refine takeT_w 2 (some 27) (v := ?_) rfl rfl (by kernel_rfl) (by kernel_rfl) (by kernel_rfl) (by kernel_rfl) (fun _ _ _ h => h) (by rfl) ?_ hHeld ?_
            rotate_left
            · (intro w hSw; (try dsimp only at hSw); go_simp; try with_reducible rfl)
            simp only [Act.put, List.setIfInBounds_toArray, List.set_cons_zero, List.set_cons_succ]
            refine takeT_w 3 (some 28) (v := ?_) rfl rfl (by kernel_rfl) (by kernel_rfl) (by kernel_rfl) (by kernel_rfl) (fun _ _ _ h => h) (by rfl) ?_ hHeld ?_
            rotate_left
            · (intro w hSw; (try dsimp only at hSw); go_simp; try with_reducible rfl)
            simp only [Act.put, List.setIfInBounds_toArray, List.set_cons_zero, List.set_cons_succ]
            refine takeT_w 4 (some 29) (v := ?_) rfl rfl (by kernel_rfl) (by kernel_rfl) (by kernel_rfl) (by kernel_rfl) (fun _ _ _ h => h) (by rfl) ?_ hHeld ?_
            rotate_left
            · (intro w hSw; (try dsimp only at hSw); go_simp; try with_reducible rfl)
            simp only [Act.put, List.setIfInBounds_toArray, List.set_cons_zero, List.set_cons_succ]
            refine takeT_w 5 (some 30) (v := ?_) rfl rfl (by kernel_rfl) (by kernel_rfl) (by kernel_rfl) (by kernel_rfl) (fun _ _ _ h => h) (by rfl) ?_ hHeld ?_
            rotate_left
            · (intro w hSw; (try dsimp only at hSw); go_simp; try with_reducible rfl)
            simp only [Act.put, List.setIfInBounds_toArray, List.set_cons_zero, List.set_cons_succ]
            refine takeT_w 6 (some 31) (v := ?_) rfl rfl (by kernel_rfl) (by kernel_rfl) (by kernel_rfl) (by kernel_rfl) (fun _ _ _ h => h) (by rfl) ?_ hHeld ?_
            rotate_left
            · (intro w hSw; (try dsimp only at hSw); go_simp; try with_reducible rfl)
            simp only [Act.put, List.setIfInBounds_toArray, List.set_cons_zero, List.set_cons_succ]
            refine takeT_w 7 (some 32) (v := ?_) rfl rfl (by kernel_rfl) (by kernel_rfl) (by kernel_rfl) (by kernel_rfl) (fun _ _ _ h => h) (by rfl) ?_ hHeld ?_
            rotate_left
            · (intro w hSw; (try dsimp only at hSw); go_simp; try with_reducible rfl)
            simp only [Act.put, List.setIfInBounds_toArray, List.set_cons_zero, List.set_cons_succ]
            refine takeT_w 8 (some 33) (v := ?_) rfl rfl (by kernel_rfl) (by kernel_rfl) (by kernel_rfl) (by kernel_rfl) (fun _ _ _ h => h) (by rfl) ?_ hHeld ?_
            rotate_left
            · (intro w hSw; (try dsimp only at hSw); go_simp; try with_reducible rfl)
            simp only [Act.put, List.setIfInBounds_toArray, List.set_cons_zero, List.set_cons_succ]
            refine takeT_w 9 (some 34) (v := ?_) rfl rfl (by kernel_rfl) (by kernel_rfl) (by kernel_rfl) (by kernel_rfl) (fun _ _ _ h => h) (by rfl) ?_ hHeld ?_
            rotate_left
            · (intro w hSw; (try dsimp only at hSw); go_simp; try with_reducible rfl)
            simp only [Act.put, List.setIfInBounds_toArray, List.set_cons_zero, List.set_cons_succ]
            refine takeT_w 10 (some 35) (v := ?_) rfl rfl (by kernel_rfl) (by kernel_rfl) (by kernel_rfl) (by kernel_rfl) (fun _ _ _ h => h) (by rfl) ?_ hHeld ?_
            rotate_left
            · (intro w hSw; (try dsimp only at hSw); go_simp; try with_reducible rfl)
            simp only [Act.put, List.setIfInBounds_toArray, List.set_cons_zero, List.set_cons_succ]
            refine takeT_w 11 (some 36) (v := ?_) rfl rfl (by kernel_rfl) (by kernel_rfl) (by kernel_rfl) (by kernel_rfl) (fun _ _ _ h => h) (by rfl) ?_ hHeld ?_
            rotate_left
            · (intro w hSw; (try dsimp only at hSw); go_simp; try with_reducible rfl)
            simp only [Act.put, List.setIfInBounds_toArray, List.set_cons_zero, List.set_cons_succ]
            refine takeT_w 12 (some 37) (v := ?_) rfl rfl (by kernel_rfl) (by kernel_rfl) (by kernel_rfl) (by kernel_rfl) (fun _ _ _ h => h) (by rfl) ?_ hHeld ?_
            rotate_left
            · (intro w hSw; (try dsimp only at hSw); go_simp; try with_reducible rfl)
            simp only [Act.put, List.setIfInBounds_toArray, List.set_cons_zero, List.set_cons_succ]
            refine takeT_w 13 (some 38) (v := ?_) rfl rfl (by kernel_rfl) (by kernel_rfl) (by kernel_rfl) (by kernel_rfl) (fun _ _ _ h => h) (by rfl) ?_ hHeld ?_
            rotate_left
            · (intro w hSw; (try dsimp only at hSw); go_simp; try with_reducible rfl)
            simp only [Act.put, List.setIfInBounds_toArray, List.set_cons_zero, List.set_cons_succ]
            refine takeT_w 14 (some 39) (v := ?_) rfl rfl (by kernel_rfl) (by kernel_rfl) (by kernel_rfl) (by kernel_rfl) (fun _ _ _ h => h) (by rfl) ?_ hHeld ?_
            rotate_left
            · (intro w hSw; (try dsimp only at hSw); go_simp; try with_reducible rfl)
            simp only [Act.put, List.setIfInBounds_toArray, List.set_cons_zero, List.set_cons_succ]
            refine takeT_w 15 (some 40) (v := ?_) rfl rfl (by kernel_rfl) (by kernel_rfl) (by kernel_rfl) (by kernel_rfl) (fun _ _ _ h => h) (by rfl) ?_ hHeld ?_
            rotate_left
            · (intro w hSw; (try dsimp only at hSw); go_simp; try with_reducible rfl)
            simp only [Act.put, List.setIfInBounds_toArray, List.set_cons_zero, List.set_cons_succ]
            refine takeT_w 16 (some 41) (v := ?_) rfl rfl (by kernel_rfl) (by kernel_rfl) (by kernel_rfl) (by kernel_rfl) (fun _ _ _ h => h) (by rfl) ?_ hHeld ?_
            rotate_left
            · (intro w hSw; (try dsimp only at hSw); go_simp; try with_reducible rfl)
            simp only [Act.put, List.setIfInBounds_toArray, List.set_cons_zero, List.set_cons_succ]
            refine takeT_w 17 (some 42) (v := ?_) rfl rfl (by kernel_rfl) (by kernel_rfl) (by kernel_rfl) (by kernel_rfl) (fun _ _ _ h => h) (by rfl) ?_ hHeld ?_
            rotate_left
            · (intro w hSw; (try dsimp only at hSw); go_simp; try with_reducible rfl)
            simp only [Act.put, List.setIfInBounds_toArray, List.set_cons_zero, List.set_cons_succ]
            refine takeT_w 18 (some 43) (v := ?_) rfl rfl (by kernel_rfl) (by kernel_rfl) (by kernel_rfl) (by kernel_rfl) (fun _ _ _ h => h) (by rfl) ?_ hHeld ?_
            rotate_left
            · (intro w hSw; (try dsimp only at hSw); go_simp; try with_reducible rfl)
            simp only [Act.put, List.setIfInBounds_toArray, List.set_cons_zero, List.set_cons_succ]
            refine takeT_w 19 (some 44) (v := ?_) rfl rfl (by kernel_rfl) (by kernel_rfl) (by kernel_rfl) (by kernel_rfl) (fun _ _ _ h => h) (by rfl) ?_ hHeld ?_
            rotate_left
            · (intro w hSw; (try dsimp only at hSw); go_simp; try with_reducible rfl)
            simp only [Act.put, List.setIfInBounds_toArray, List.set_cons_zero, List.set_cons_succ]
            refine wpAnyT_done (by kernel_rfl) ?_ _
            clear hHeld
            gi_wp2
            all_goals first | exact ovI_next HI.out.1 HI.out.2 FD.out | skip
            all_goals (
              rename_i hb
              have hb := eq_of_beq hb
              obtain ⟨a1, a2, a3⟩ := ovI_next (x := ⟨(y', Value.string t'), ⟨HFU.out.1, HFU.out.2⟩⟩) HI.out.1 HI.out.2 FD.out
              exact ⟨a1, .inr ⟨rfl, by rw [List.length_append, HI.out.2, ← hb]; rfl, rfl, a3⟩⟩)
          · have d1 : (y' == y) = true := by simpa using e1
            have d2 : ¬ t'.toList = t.toList := fun h => e2 (ByteArray.ext (Array.toList_inj.1 (by rw [← ByteArray.toList_eq, ← ByteArray.toList_eq]; exact h)))
            gi_upto_region 10 with (fail)
            refine wpIn_region_round 99 (S := fun w' => w'.cell? ⟨g8, 0, none⟩ = some (.int .i64 k) ∧ w'.cell? ⟨g4, 0, none⟩ = some (.pointer (some ⟨q, 0, none⟩)) ∧ w'.cell? ⟨q, 0, none⟩ = some (.slice (some ⟨gq, 0, none⟩) N cc) ∧ w'.cell? ⟨gq, k * 2, none⟩ = some (.int .i64 y') ∧ w'.cell? ⟨gq, k * 2 + 1, none⟩ = some (.string t')) (by kernel_rfl) (by kernel_rfl) (by rintro ⟨a, w, h⟩; exact h) ?_
            obtain ⟨wD, hwD⟩ : ∃ x, W.drew = x := ⟨_, rfl⟩
            have fD : Fr [] W wD := by rw [← hwD]; exact (Fr.refl _ _).drew
            have hHeld : wD.cell? ⟨g8, 0, none⟩ = some (.int .i64 k) ∧ wD.cell? ⟨g4, 0, none⟩ = some (.pointer (some ⟨q, 0, none⟩)) ∧ wD.cell? ⟨q, 0, none⟩ = some (.slice (some ⟨gq, 0, none⟩) N cc) ∧ wD.cell? ⟨gq, k * 2, none⟩ = some (.int .i64 y') ∧ wD.cell? ⟨gq, k * 2 + 1, none⟩ = some (.string t') := ⟨fD.cell (by simp) c8, fD.cell (by simp) c4, fD.cell (by simp) cq, fD.cell (by simp) q0, fD.cell (by simp) q1⟩
            rw [hwD]
            replace c6 := fD.cell (by simp) c6
            replace z6 := (HK6.out.keep_nil fD).frozen 0
            replace c7 := fD.cell (by simp) c7
            replace c5 := fD.cell (by simp) c5
            have c8D := hHeld.1
            have z8D := (HI8.out.keep_nil fD).frozen 0
            have FD := Lib.hid fD
            clear fD hwD c4 cq
            refine takeT_w 0 (some 25) (v := ?_) rfl rfl (by kernel_rfl) (by kernel_rfl) (by kernel_rfl) (by kernel_rfl) (fun _ _ _ h => h) (by rfl) ?_ hHeld ?_
            rotate_left
            · (intro w hSw; (try dsimp only at hSw); go_simp; try with_reducible rfl)
            simp only [Act.put, List.setIfInBounds_toArray, List.set_cons_zero, List.set_cons_succ]
            refine takeT_w 1 (some 26) (v := ?_) rfl rfl (by kernel_rfl) (by kernel_rfl) (by kernel_rfl) (by kernel_rfl) (fun _ _ _ h => h) (by rfl) ?_ hHeld ?_
            rotate_left
            · (intro w hSw; (try dsimp only at hSw); go_simp; try with_reducible rfl)
            simp only [Act.put, List.setIfInBounds_toArray, List.set_cons_zero, List.set_cons_succ]
            refine takeT_w 2 (some 27) (v := ?_) rfl rfl (by kernel_rfl) (by kernel_rfl) (by kernel_rfl) (by kernel_rfl) (fun _ _ _ h => h) (by rfl) ?_ hHeld ?_
            rotate_left
            · (intro w hSw; (try dsimp only at hSw); go_simp; try with_reducible rfl)
            simp only [Act.put, List.setIfInBounds_toArray, List.set_cons_zero, List.set_cons_succ]
            refine takeT_w 3 (some 28) (v := ?_) rfl rfl (by kernel_rfl) (by kernel_rfl) (by kernel_rfl) (by kernel_rfl) (fun _ _ _ h => h) (by rfl) ?_ hHeld ?_
            rotate_left
            · (intro w hSw; (try dsimp only at hSw); go_simp; try with_reducible rfl)
            simp only [Act.put, List.setIfInBounds_toArray, List.set_cons_zero, List.set_cons_succ]
            refine takeT_w 4 (some 29) (v := ?_) rfl rfl (by kernel_rfl) (by kernel_rfl) (by kernel_rfl) (by kernel_rfl) (fun _ _ _ h => h) (by rfl) ?_ hHeld ?_
            rotate_left
            · (intro w hSw; (try dsimp only at hSw); go_simp; try with_reducible rfl)
            simp only [Act.put, List.setIfInBounds_toArray, List.set_cons_zero, List.set_cons_succ]
            refine takeT_w 5 (some 30) (v := ?_) rfl rfl (by kernel_rfl) (by kernel_rfl) (by kernel_rfl) (by kernel_rfl) (fun _ _ _ h => h) (by rfl) ?_ hHeld ?_
            rotate_left
            · (intro w hSw; (try dsimp only at hSw); go_simp; try with_reducible rfl)
            simp only [Act.put, List.setIfInBounds_toArray, List.set_cons_zero, List.set_cons_succ]
            refine takeT_w 6 (some 31) (v := ?_) rfl rfl (by kernel_rfl) (by kernel_rfl) (by kernel_rfl) (by kernel_rfl) (fun _ _ _ h => h) (by rfl) ?_ hHeld ?_
            rotate_left
            · (intro w hSw; (try dsimp only at hSw); go_simp; try with_reducible rfl)
            simp only [Act.put, List.setIfInBounds_toArray, List.set_cons_zero, List.set_cons_succ]
            refine takeT_w 7 (some 32) (v := ?_) rfl rfl (by kernel_rfl) (by kernel_rfl) (by kernel_rfl) (by kernel_rfl) (fun _ _ _ h => h) (by rfl) ?_ hHeld ?_
            rotate_left
            · (intro w hSw; (try dsimp only at hSw); go_simp; try with_reducible rfl)
            simp only [Act.put, List.setIfInBounds_toArray, List.set_cons_zero, List.set_cons_succ]
            refine takeT_w 8 (some 33) (v := ?_) rfl rfl (by kernel_rfl) (by kernel_rfl) (by kernel_rfl) (by kernel_rfl) (fun _ _ _ h => h) (by rfl) ?_ hHeld ?_
            rotate_left
            · (intro w hSw; (try dsimp only at hSw); go_simp; try with_reducible rfl)
            simp only [Act.put, List.setIfInBounds_toArray, List.set_cons_zero, List.set_cons_succ]
            refine takeT_w 9 (some 34) (v := ?_) rfl rfl (by kernel_rfl) (by kernel_rfl) (by kernel_rfl) (by kernel_rfl) (fun _ _ _ h => h) (by rfl) ?_ hHeld ?_
            rotate_left
            · (intro w hSw; (try dsimp only at hSw); go_simp; try with_reducible rfl)
            simp only [Act.put, List.setIfInBounds_toArray, List.set_cons_zero, List.set_cons_succ]
            refine takeT_w 10 (some 35) (v := ?_) rfl rfl (by kernel_rfl) (by kernel_rfl) (by kernel_rfl) (by kernel_rfl) (fun _ _ _ h => h) (by rfl) ?_ hHeld ?_
            rotate_left
            · (intro w hSw; (try dsimp only at hSw); go_simp; try with_reducible rfl)
            simp only [Act.put, List.setIfInBounds_toArray, List.set_cons_zero, List.set_cons_succ]
            refine takeT_w 11 (some 36) (v := ?_) rfl rfl (by kernel_rfl) (by kernel_rfl) (by kernel_rfl) (by kernel_rfl) (fun _ _ _ h => h) (by rfl) ?_ hHeld ?_
            rotate_left
            · (intro w hSw; (try dsimp only at hSw); go_simp; try with_reducible rfl)
            simp only [Act.put, List.setIfInBounds_toArray, List.set_cons_zero, List.set_cons_succ]
            refine takeT_w 12 (some 37) (v := ?_) rfl rfl (by kernel_rfl) (by kernel_rfl) (by kernel_rfl) (by kernel_rfl) (fun _ _ _ h => h) (by rfl) ?_ hHeld ?_
            rotate_left
            · (intro w hSw; (try dsimp only at hSw); go_simp; try with_reducible rfl)
            simp only [Act.put, List.setIfInBounds_toArray, List.set_cons_zero, List.set_cons_succ]
            refine takeT_w 13 (some 38) (v := ?_) rfl rfl (by kernel_rfl) (by kernel_rfl) (by kernel_rfl) (by kernel_rfl) (fun _ _ _ h => h) (by rfl) ?_ hHeld ?_
            rotate_left
            · (intro w hSw; (try dsimp only at hSw); go_simp; try with_reducible rfl)
            simp only [Act.put, List.setIfInBounds_toArray, List.set_cons_zero, List.set_cons_succ]
            refine takeT_w 14 (some 39) (v := ?_) rfl rfl (by kernel_rfl) (by kernel_rfl) (by kernel_rfl) (by kernel_rfl) (fun _ _ _ h => h) (by rfl) ?_ hHeld ?_
            rotate_left
            · (intro w hSw; (try dsimp only at hSw); go_simp; try with_reducible rfl)
            simp only [Act.put, List.setIfInBounds_toArray, List.set_cons_zero, List.set_cons_succ]
            refine takeT_w 15 (some 40) (v := ?_) rfl rfl (by kernel_rfl) (by kernel_rfl) (by kernel_rfl) (by kernel_rfl) (fun _ _ _ h => h) (by rfl) ?_ hHeld ?_
            rotate_left
            · (intro w hSw; (try dsimp only at hSw); go_simp; try with_reducible rfl)
            simp only [Act.put, List.setIfInBounds_toArray, List.set_cons_zero, List.set_cons_succ]
            refine takeT_w 16 (some 41) (v := ?_) rfl rfl (by kernel_rfl) (by kernel_rfl) (by kernel_rfl) (by kernel_rfl) (fun _ _ _ h => h) (by rfl) ?_ hHeld ?_
            rotate_left
            · (intro w hSw; (try dsimp only at hSw); go_simp; try with_reducible rfl)
            simp only [Act.put, List.setIfInBounds_toArray, List.set_cons_zero, List.set_cons_succ]
            refine takeT_w 17 (some 42) (v := ?_) rfl rfl (by kernel_rfl) (by kernel_rfl) (by kernel_rfl) (by kernel_rfl) (fun _ _ _ h => h) (by rfl) ?_ hHeld ?_
            rotate_left
            · (intro w hSw; (try dsimp only at hSw); go_simp; try with_reducible rfl)
            simp only [Act.put, List.setIfInBounds_toArray, List.set_cons_zero, List.set_cons_succ]
            refine takeT_w 18 (some 43) (v := ?_) rfl rfl (by kernel_rfl) (by kernel_rfl) (by kernel_rfl) (by kernel_rfl) (fun _ _ _ h => h) (by rfl) ?_ hHeld ?_
            rotate_left
            · (intro w hSw; (try dsimp only at hSw); go_simp; try with_reducible rfl)
            simp only [Act.put, List.setIfInBounds_toArray, List.set_cons_zero, List.set_cons_succ]
            refine takeT_w 19 (some 44) (v := ?_) rfl rfl (by kernel_rfl) (by kernel_rfl) (by kernel_rfl) (by kernel_rfl) (fun _ _ _ h => h) (by rfl) ?_ hHeld ?_
            rotate_left
            · (intro w hSw; (try dsimp only at hSw); go_simp; try with_reducible rfl)
            simp only [Act.put, List.setIfInBounds_toArray, List.set_cons_zero, List.set_cons_succ]
            refine wpAnyT_done (by kernel_rfl) ?_ _
            clear hHeld c5 c7 c8D z8D
            gi_wp2
            refine ⟨keepsO_of_fr ((FD.out.mono (by simp)).setCell (F := [g4 + 1 + 1]) (.inl (by simp)) _) (fun j hj o ho => by rw [List.mem_singleton.1 hj, show W.heap[g4 + 1 + 1]? = _ from HK6.out] at ho; cases ho; rfl), .inl ⟨rfl, ⟨pre, _, rfl, fun hh => ?_⟩⟩⟩
            intro heq
            have := congrArg Prod.snd heq
            refine e2 ?_
            simp only [HI.out.2, HY.out] at this
            cases this
            rfl
        · have d1 : (y' == y) = false := by simpa using e1
          gi_upto_region 10 with (fail)
          refine wpIn_region_round 99 (S := fun w' => w'.cell? ⟨g8, 0, none⟩ = some (.int .i64 k) ∧ w'.cell? ⟨g4, 0, none⟩ = some (.pointer (some ⟨q, 0, none⟩)) ∧ w'.cell? ⟨q, 0, none⟩ = some (.slice (some ⟨gq, 0, none⟩) N cc) ∧ w'.cell? ⟨gq, k * 2, none⟩ = some (.int .i64 y') ∧ w'.cell? ⟨gq, k * 2 + 1, none⟩ = some (.string t')) (by kernel_rfl) (by kernel_rfl) (by rintro ⟨a, w, h⟩; exact h) ?_
          obtain ⟨wD, hwD⟩ : ∃ x, W.drew = x := ⟨_, rfl⟩
          have fD : Fr [] W wD := by rw [← hwD]; exact (Fr.refl _ _).drew
          have hHeld : wD.cell? ⟨g8, 0, none⟩ = some (.int .i64 k) ∧ wD.cell? ⟨g4, 0, none⟩ = some (.pointer (some ⟨q, 0, none⟩)) ∧ wD.cell? ⟨q, 0, none⟩ = some (.slice (some ⟨gq, 0, none⟩) N cc) ∧ wD.cell? ⟨gq, k * 2, none⟩ = some (.int .i64 y') ∧ wD.cell? ⟨gq, k * 2 + 1, none⟩ = some (.string t') := ⟨fD.cell (by simp) c8, fD.cell (by simp) c4, fD.cell (by simp) cq, fD.cell (by simp) q0, fD.cell (by simp) q1⟩
          rw [hwD]
          replace c6 := fD.cell (by simp) c6
          replace z6 := (HK6.out.keep_nil fD).frozen 0
          replace c7 := fD.cell (by simp) c7
          replace c5 := fD.cell (by simp) c5
          have c8D := hHeld.1
          have z8D := (HI8.out.keep_nil fD).frozen 0
          have FD := Lib.hid fD
          clear fD hwD c4 cq
          refine takeT_w 0 (some 25) (v := ?_) rfl rfl (by kernel_rfl) (by kernel_rfl) (by kernel_rfl) (by kernel_rfl) (fun _ _ _ h => h) (by rfl) ?_ hHeld ?_
          rotate_left
          · (intro w hSw; (try dsimp only at hSw); go_simp; try with_reducible rfl)
          simp only [Act.put, List.setIfInBounds_toArray, List.set_cons_zero, List.set_cons_succ]
          refine takeT_w 1 (some 26) (v := ?_) rfl rfl (by kernel_rfl) (by kernel_rfl) (by kernel_rfl) (by kernel_rfl) (fun _ _ _ h => h) (by rfl) ?_ hHeld ?_
          rotate_left
          · (intro w hSw; (try dsimp only at hSw); go_simp; try with_reducible rfl)
          simp only [Act.put, List.setIfInBounds_toArray, List.set_cons_zero, List.set_cons_succ]
          refine takeT_w 2 (some 27) (v := ?_) rfl rfl (by kernel_rfl) (by kernel_rfl) (by kernel_rfl) (by kernel_rfl) (fun _ _ _ h => h) (by rfl) ?_ hHeld ?_
          rotate_left
          · (intro w hSw; (try dsimp only at hSw); go_simp; try with_reducible rfl)
          simp only [Act.put, List.setIfInBounds_toArray, List.set_cons_zero, List.set_cons_succ]
          refine takeT_w 3 (some 28) (v := ?_) rfl rfl (by kernel_rfl) (by kernel_rfl) (by kernel_rfl) (by kernel_rfl) (fun _ _ _ h => h) (by rfl) ?_ hHeld ?_
          rotate_left
          · (intro w hSw; (try dsimp only at hSw); go_simp; try with_reducible rfl)
          simp only [Act.put, List.setIfInBounds_toArray, List.set_cons_zero, List.set_cons_succ]
          refine takeT_w 4 (some 29) (v := ?_) rfl rfl (by kernel_rfl) (by kernel_rfl) (by kernel_rfl) (by kernel_rfl) (fun _ _ _ h => h) (by rfl) ?_ hHeld ?_
          rotate_left
          · (intro w hSw; (try dsimp only at hSw); go_simp; try with_reducible rfl)
          simp only [Act.put, List.setIfInBounds_toArray, List.set_cons_zero, List.set_cons_succ]
          refine takeT_w 5 (some 30) (v := ?_) rfl rfl (by kernel_rfl) (by kernel_rfl) (by kernel_rfl) (by kernel_rfl) (fun _ _ _ h => h) (by rfl) ?_ hHeld ?_
          rotate_left
          · (intro w hSw; (try dsimp only at hSw); go_simp; try with_reducible rfl)
          simp only [Act.put, List.setIfInBounds_toArray, List.set_cons_zero, List.set_cons_succ]
          refine takeT_w 6 (some 31) (v := ?_) rfl rfl (by kernel_rfl) (by kernel_rfl) (by kernel_rfl) (by kernel_rfl) (fun _ _ _ h => h) (by rfl) ?_ hHeld ?_
          rotate_left
          · (intro w hSw; (try dsimp only at hSw); go_simp; try with_reducible rfl)
          simp only [Act.put, List.setIfInBounds_toArray, List.set_cons_zero, List.set_cons_succ]
          refine takeT_w 7 (some 32) (v := ?_) rfl rfl (by kernel_rfl) (by kernel_rfl) (by kernel_rfl) (by kernel_rfl) (fun _ _ _ h => h) (by rfl) ?_ hHeld ?_
          rotate_left
          · (intro w hSw; (try dsimp only at hSw); go_simp; try with_reducible rfl)
          simp only [Act.put, List.setIfInBounds_toArray, List.set_cons_zero, List.set_cons_succ]
          refine takeT_w 8 (some 33) (v := ?_) rfl rfl (by kernel_rfl) (by kernel_rfl) (by kernel_rfl) (by kernel_rfl) (fun _ _ _ h => h) (by rfl) ?_ hHeld ?_
          rotate_left
          · (intro w hSw; (try dsimp only at hSw); go_simp; try with_reducible rfl)
          simp only [Act.put, List.setIfInBounds_toArray, List.set_cons_zero, List.set_cons_succ]
          refine takeT_w 9 (some 34) (v := ?_) rfl rfl (by kernel_rfl) (by kernel_rfl) (by kernel_rfl) (by kernel_rfl) (fun _ _ _ h => h) (by rfl) ?_ hHeld ?_
          rotate_left
          · (intro w hSw; (try dsimp only at hSw); go_simp; try with_reducible rfl)
          simp only [Act.put, List.setIfInBounds_toArray, List.set_cons_zero, List.set_cons_succ]
          refine takeT_w 10 (some 35) (v := ?_) rfl rfl (by kernel_rfl) (by kernel_rfl) (by kernel_rfl) (by kernel_rfl) (fun _ _ _ h => h) (by rfl) ?_ hHeld ?_
          rotate_left
          · (intro w hSw; (try dsimp only at hSw); go_simp; try with_reducible rfl)
          simp only [Act.put, List.setIfInBounds_toArray, List.set_cons_zero, List.set_cons_succ]
          refine takeT_w 11 (some 36) (v := ?_) rfl rfl (by kernel_rfl) (by kernel_rfl) (by kernel_rfl) (by kernel_rfl) (fun _ _ _ h => h) (by rfl) ?_ hHeld ?_
          rotate_left
          · (intro w hSw; (try dsimp only at hSw); go_simp; try with_reducible rfl)
          simp only [Act.put, List.setIfInBounds_toArray, List.set_cons_zero, List.set_cons_succ]
          refine takeT_w 12 (some 37) (v := ?_) rfl rfl (by kernel_rfl) (by kernel_rfl) (by kernel_rfl) (by kernel_rfl) (fun _ _ _ h => h) (by rfl) ?_ hHeld ?_
          rotate_left
          · (intro w hSw; (try dsimp only at hSw); go_simp; try with_reducible rfl)
          simp only [Act.put, List.setIfInBounds_toArray, List.set_cons_zero, List.set_cons_succ]
          refine takeT_w 13 (some 38) (v := ?_) rfl rfl (by kernel_rfl) (by kernel_rfl) (by kernel_rfl) (by kernel_rfl) (fun _ _ _ h => h) (by rfl) ?_ hHeld ?_
          rotate_left
          · (intro w hSw; (try dsimp only at hSw); go_simp; try with_reducible rfl)
          simp only [Act.put, List.setIfInBounds_toArray, List.set_cons_zero, List.set_cons_succ]
          refine takeT_w 14 (some 39) (v := ?_) rfl rfl (by kernel_rfl) (by kernel_rfl) (by kernel_rfl) (by kernel_rfl) (fun _ _ _ h => h) (by rfl) ?_ hHeld ?_
          rotate_left
          · (intro w hSw; (try dsimp only at hSw); go_simp; try with_reducible rfl)
          simp only [Act.put, List.setIfInBounds_toArray, List.set_cons_zero, List.set_cons_succ]
          refine takeT_w 15 (some 40) (v := ?_) rfl rfl (by kernel_rfl) (by kernel_rfl) (by kernel_rfl) (by kernel_rfl) (fun _ _ _ h => h) (by rfl) ?_ hHeld ?_
          rotate_left
          · (intro w hSw; (try dsimp only at hSw); go_simp; try with_reducible rfl)
          simp only [Act.put, List.setIfInBounds_toArray, List.set_cons_zero, List.set_cons_succ]
          refine takeT_w 16 (some 41) (v := ?_) rfl rfl (by kernel_rfl) (by kernel_rfl) (by kernel_rfl) (by kernel_rfl) (fun _ _ _ h => h) (by rfl) ?_ hHeld ?_
          rotate_left
          · (intro w hSw; (try dsimp only at hSw); go_simp; try with_reducible rfl)
          simp only [Act.put, List.setIfInBounds_toArray, List.set_cons_zero, List.set_cons_succ]
          refine takeT_w 17 (some 42) (v := ?_) rfl rfl (by kernel_rfl) (by kernel_rfl) (by kernel_rfl) (by kernel_rfl) (fun _ _ _ h => h) (by rfl) ?_ hHeld ?_
          rotate_left
          · (intro w hSw; (try dsimp only at hSw); go_simp; try with_reducible rfl)
          simp only [Act.put, List.setIfInBounds_toArray, List.set_cons_zero, List.set_cons_succ]
          refine takeT_w 18 (some 43) (v := ?_) rfl rfl (by kernel_rfl) (by kernel_rfl) (by kernel_rfl) (by kernel_rfl) (fun _ _ _ h => h) (by rfl) ?_ hHeld ?_
          rotate_left
          · (intro w hSw; (try dsimp only at hSw); go_simp; try with_reducible rfl)
          simp only [Act.put, List.setIfInBounds_toArray, List.set_cons_zero, List.set_cons_succ]
          refine takeT_w 19 (some 44) (v := ?_) rfl rfl (by kernel_rfl) (by kernel_rfl) (by kernel_rfl) (by kernel_rfl) (fun _ _ _ h => h) (by rfl) ?_ hHeld ?_
          rotate_left
          · (intro w hSw; (try dsimp only at hSw); go_simp; try with_reducible rfl)
          simp only [Act.put, List.setIfInBounds_toArray, List.set_cons_zero, List.set_cons_succ]
          refine wpAnyT_done (by kernel_rfl) ?_ _
          clear hHeld c5 c7 c8D z8D
          gi_wp2
          refine ⟨keepsO_of_fr ((FD.out.mono (by simp)).setCell (F := [g4 + 1 + 1]) (.inl (by simp)) _) (fun j hj o ho => by rw [List.mem_singleton.1 hj, show W.heap[g4 + 1 + 1]? = _ from HK6.out] at ho; cases ho; rfl), .inl ⟨rfl, ⟨pre, _, rfl, fun hh => ?_⟩⟩⟩
          intro heq
          have := congrArg Prod.fst heq
          refine e1 ?_
          simp only [HI.out.2, HY.out] at this
          exact this.symm
      case hdone =>
        intro D2 xs W hD2 hS hI hK
        subst hS
        obtain ⟨b8, F8⟩ := hI
        obtain ⟨N, hN⟩ : ∃ N, L.length = N := ⟨_, rfl⟩
        rw [pairsF_len, List.length_map, hN] at b8
        have c8 : W.cell? ⟨g8, 0, none⟩ = some (.int .i64 N) := b8.cell 0
        have c4 : W.cell? ⟨g4, 0, none⟩ = some (.pointer (some ⟨q, 0, none⟩)) := ((k4.keep_nil fL).keep F8 (by simp; omega)).cell 0
        have c5 : W.cell? ⟨g4 + 1, 0, none⟩ = some (.int .i64 most) := ((k5.keep_nil fL).keep F8 (by simp; omega)).cell 0
        have c7 : W.cell? ⟨g7, 0, none⟩ = some (.int .i64 1) := ((k7.keep_nil fL).keep F8 (by simp; omega)).cell 0
        obtain ⟨v, hxw⟩ := id hx
        have hxW := (hxw.keep_nil FL.out).keep F8 (fun i hi hm => by have := hxw.lt i hi; have := List.mem_singleton.1 hm; omega)
        have cq := hxW.c0
        have rq := hxW.row
        obtain ⟨A, cc, rfl, -, hcm, -, -, -⟩ := rq.shape
        rw [hN] at cq
        have hK1W := F8.blk (show D ∉ [g8] by simp; omega) (fL.blk (by simp) hK1)
        go_upto_region 14 with fail
        go_quiet (fail)
        have fE : Fr [] W (W.drewN nq) := (Fr.refl _ _).drewN _
        obtain ⟨wE, hwE⟩ : ∃ x, W.drewN nq = x := ⟨_, rfl⟩
        rw [hwE] at fE ⊢
        replace c7 := fE.cell (by simp) c7
        have FWE := Lib.hid ((FL.out.trans F8 (fun i hi => .inr (by have := List.mem_singleton.1 hi; omega))).trans_nil fE)
        have hKE := fE.blk (by simp) hK
        have kn4 := ((k4.keep_nil fL).keep F8 (by simp; omega)).keep_nil fE
        have kn5 := ((k5.keep_nil fL).keep F8 (by simp; omega)).keep_nil fE
        have kn6 := ((k6.keep_nil fL).keep F8 (by simp; omega)).keep_nil fE
        have fLE := (F8.trans_nil fE)
        have hDl : D2 < wE.heap.size := (Array.getElem?_eq_some_iff.1 hKE).1
        have hgE : wL.heap.size ≤ wE.heap.size := fLE.size
        clear k4 k5 k6 k7 c8 c4 c5 cq rq hxW hxw F8 hK b8
        have hK1E := fE.blk (by simp) hK1W
        go_wp2
        have k7 := Blk.new wE 3 #[.int .i64 2]
        have fA : Fr [] wE (wE.alloc (.cells #[.int .i64 2] 3)) := (Fr.refl _ _).alloc _
        obtain ⟨wt, hwr⟩ : ∃ x, wE.alloc (.cells #[.int .i64 2] 3) = x := ⟨_, rfl⟩
        rw [hwr] at k7 fA ⊢
        have k4 := kn4.keep_nil fA
        have k5 := kn5.keep_nil fA
        have k6 := kn6.keep_nil fA
        have hK2 := fA.blk (by simp) hKE
        have FW := Lib.hid (FWE.out.trans_nil fA)
        obtain ⟨g7, hg7⟩ : ∃ g, wE.heap.size = g := ⟨_, rfl⟩
        rw [hg7] at k7 hDl hgE ⊢
        have c7 : wt.cell? ⟨g7, 0, none⟩ = some (.int .i64 2) := k7.cell 0
        clear hwr hwE fE kn4 kn5 kn6 hg7 hKE
        have hKt := fA.blk (by simp) hK1E
        rw [rounds_succ]
        go_wp2_with (first
          | (go_at_call 28; refine (srtSet_nil _ _ _).mono ?_; rintro e w' ⟨rfl, rfl⟩)
          | (go_at_call 34; refine (srtClear_nil _).mono ?_; rintro e w' ⟨rfl, rfl⟩)
          | (go_at_call 30; refine (srtGet_nil _ _).mono ?_; rintro e w' ⟨rfl, rfl⟩)
          | (go_at_call 27; refine (srtAll_any _ _).mono ?_; rintro e w' ⟨rfl, rfl⟩))
        obtain ⟨kB, fB, -⟩ := box1D (wt.alloc (.cells #[.pointer none] 55)) 55 (.pointer none)
        have zB : (wt.alloc (.cells #[.pointer none] 55)).heap.size = wt.heap.size + 1 := by simp
        have fB0 : Fr [] wt (wt.alloc (.cells #[.pointer none] 55)) := (Fr.refl _ _).alloc _
        replace fB := fB0.trans_nil fB
        rw [zB] at kB
        obtain ⟨wB, hwB⟩ : ∃ x, (wt.alloc (.cells #[.pointer none] 55)).alloc (.cells #[.pointer none] 55) = x := ⟨_, rfl⟩
        rw [hwB] at kB fB ⊢
        have k6B := k6.keep_nil fB
        have hKB := fB.blk (by simp) hKt
        have hK2B := fB.blk (by simp) hK2
        have FB := Lib.hid (FW.out.trans_nil fB)
        have h7t := k7.lt
        have hBs := fB.size
        clear hwB zB fB0 k4 k5 k6 k7 c7 hKt hK2 kA
        refine (wpIn_wide (n := 5)).1 ?_
        apply wpIn_rangeFunc_ownF (hro := rfl) (h1 := by omega) (gf := 62) (lb := #[.pointer (some ⟨wt.heap.size + 1, 0, none⟩)]) (hg := rfl) (hFg := trivial) (eg := enters_of Try.func62 (by kernel_rfl) rfl) (encs := encP (fun _ => none)) (Kp := KeepC [] wB.heap.size) (hseq := srtAll1_none 4 (wt.heap.size + 1) wB (kB.cell 0) kB.lt) (hKt := keepC_t) (hKb := keepC_b (Nat.le_refl _)) (hb0 := Below.refl _ _) (hps := fun _ => rfl) (I := fun _ W => Fr [] wB W) (Ix := fun _ _ _ => False) (hI := ownFrom_fr) (hIx := fun _ _ _ _ _ h => h.elim) (h0 := Fr.refl _ _)
        case hassign =>
          intro l x W K hK
          gi_wp2
          exact hK
        case hbody =>
          intro l pre x W hI hlen
          exact absurd hlen (Nat.not_lt_zero _)
        case hstop =>
          intro D c pre W hD h
          exact h.elim
        case hdone =>
          intro D3 xs W3 hD3 hS hI hK3
          have k6W := k6B.keep_nil hI
          have c6 : W3.cell? ⟨g4 + 1 + 1, 0, none⟩ = some (.bool false) := k6W.cell 0
          have z6 := k6W.frozen 0
          have H1 := Lib.hid (hI.blk (by simp) hKB)
          have H2 := Lib.hid (hI.blk (by simp) hK2B)
          have H3 := Lib.hid hK3
          have K6 := Lib.hid k6W
          have FB3 := Lib.hid (FB.out.trans_nil hI)
          clear hKB hK2B hK3 k6B k6W hI
          go_wp2_with (first
            | (go_at_call 32; refine (srtDelete_nil _ _).mono ?_; rintro e w' ⟨rfl, rfl⟩)
            | (go_at_call 35; refine (srtLen_nil _).mono ?_; rintro e w' ⟨rfl, rfl⟩))
          obtain ⟨X, Y, Z, e3, rfl, e2, rfl, e1, rfl, eZc, eF⟩ := over_end (w := w) (u := .bool true) K6.out FB3.out H1.out H2.out H3.out (by omega) (by omega) (by omega) (by omega)
          refine ⟨by simp, .inl ⟨_, _, rfl, run_takeDeferred e3, ?_⟩⟩
          refine ⟨by simp, .inl ⟨_, _, rfl, run_takeDeferred e2, ?_⟩⟩
          refine ⟨by simp, .inl ⟨_, _, rfl, run_takeDeferred e1, ?_⟩⟩
          refine ⟨.bool true, ?_, rfl, eF⟩
          simp [results, Try.f36, go_sem, eZc]
      case hstop =>
        intro D2 c pre W hD2 hS hIx hK
        rcases hIx with ⟨rfl, hb⟩ | ⟨-, -, h10, -⟩
        · exact (BadP.no hr hS hb).elim
        · cases h10
    · have hmd : (most == (N : Int)) = false := by simpa using hmN
      go_upto_region 14 with fail
      go_quiet (fail)
      have fE : Fr [] W (W.drewN nq) := (Fr.refl _ _).drewN _
      obtain ⟨wE, hwE⟩ : ∃ x, W.drewN nq = x := ⟨_, rfl⟩
      rw [hwE] at fE ⊢
      replace c7 := fE.cell (by simp) c7
      have FWE := Lib.hid ((FL.out.trans F8 (fun i hi => .inr (by have := List.mem_singleton.1 hi; omega))).trans_nil fE)
      have hKE := fE.blk (by simp) hK
      have kn4 := ((k4.keep_nil fL).keep F8 (by simp; omega)).keep_nil fE
      have kn5 := ((k5.keep_nil fL).keep F8 (by simp; omega)).keep_nil fE
      have kn6 := ((k6.keep_nil fL).keep F8 (by simp; omega)).keep_nil fE
      have fLE := (F8.trans_nil fE)
      have hDl : D < wE.heap.size := (Array.getElem?_eq_some_iff.1 hKE).1
      have hgE : wL.heap.size ≤ wE.heap.size := fLE.size
      clear k4 k5 k6 k7 c8 c4 c5 cq rq hxW hxw F8 hK b8
      go_wp2
      have k7 := Blk.new wE 3 #[.int .i64 1]
      have fA : Fr [] wE (wE.alloc (.cells #[.int .i64 1] 3)) := (Fr.refl _ _).alloc _
      obtain ⟨wr, hwr⟩ : ∃ x, wE.alloc (.cells #[.int .i64 1] 3) = x := ⟨_, rfl⟩
      rw [hwr] at k7 fA ⊢
      have k4 := kn4.keep_nil fA
      have k5 := kn5.keep_nil fA
      have k6 := kn6.keep_nil fA
      have hK1 := fA.blk (by simp) hKE
      have FW := Lib.hid (FWE.out.trans_nil fA)
      obtain ⟨g7, hg7⟩ : ∃ g, wE.heap.size = g := ⟨_, rfl⟩
      rw [hg7] at k7 hDl hgE ⊢
      have c7 : wr.cell? ⟨g7, 0, none⟩ = some (.int .i64 1) := k7.cell 0
      clear hwr hwE fE kn4 kn5 kn6 hg7 hKE
      rw [rounds_succ]
      go_wp2_with (go_at_call 27; refine (srtAll_any _ _).mono ?_; rintro e w' ⟨rfl, rfl⟩)
      obtain ⟨k8, -, kA, fL⟩ := boxes3 wr 3 55 55 (.int .i64 0) (.pointer (some ⟨p, 0, none⟩)) (.pointer (some ⟨p, 0, none⟩))
      obtain ⟨wL, hwL⟩ : ∃ x, ((wr.alloc (.cells #[.int .i64 0] 3)).alloc (.cells #[.pointer (some ⟨p, 0, none⟩)] 55)).alloc (.cells #[.pointer (some ⟨p, 0, none⟩)] 55) = x := ⟨_, rfl⟩
      rw [hwL] at k8 kA fL ⊢
      obtain ⟨g8, hg8⟩ : ∃ g, wr.heap.size = g := ⟨_, rfl⟩
      rw [hg8] at k8 kA ⊢
      have FL := Lib.hid (FW.out.trans_nil fL)
      have hLS := h.keep_nil FL.out
      have hwl := FL.out.size
      have hws : w.heap.size ≤ g8 := by have := FW.out.size; omega
      have hgl := k8.lt
      have hg7l := k7.lt
      have hg8l : wr.heap.size ≤ g8 := by omega
      have hpl := h.blk.lt
      have hbl := h.map.lt
      have HSEQ := Lib.hid (srtAll1_stops 4 (by omega) (g8 + 1 + 1) p b n [g8] wL.heap.size hr.keys hn wL (kA.cell 0) (by simp; omega) hLS (by simp; omega) (by simp; omega) (by omega) (fun i hi => by rw [List.mem_singleton.1 hi]; exact hgl))
      clear hwL hg8 c7
      refine (wpIn_wide (n := 5)).1 ?_
      apply wpIn_rangeFunc_ownF (hro := rfl) (h1 := by omega) (gf := 62) (lb := #[.pointer (some ⟨g8 + 1 + 1, 0, none⟩)]) (hg := rfl) (hFg := trivial) (eg := enters_of Try.func62 (by kernel_rfl) rfl) (encs := encP f) (Kp := KeepC [g8] wL.heap.size) (hseq := HSEQ.out) (hKt := keepC_t) (hKb := keepC_b (Nat.le_refl _)) (hb0 := Below.refl _ _) (hps := fun _ => rfl) (I := OvI wL g8 f) (Ix := OvX wL g8 f L most 1) (hI := ovI_own) (hIx := ovX_own) (h0 := ⟨k8, Fr.refl _ _⟩)
      case hassign =>
        intro l x W K hK
        gi_wp2
        exact hK
      case hbody =>
        rintro l pre ⟨⟨y, u⟩, hwf, hfu⟩ W hI hlen
        have hfu : f y = some u := hfu
        have hu : ∃ t, u = .string t := by
          rw [hr.eq] at hfu
          obtain ⟨t, _, e⟩ := Option.map_eq_some_iff.1 hfu
          exact ⟨t, e.symm⟩
        obtain ⟨t, rfl⟩ := hu
        obtain ⟨k, hk⟩ : ∃ k, pre.length = k := ⟨_, rfl⟩
        have hI2 := hI
        obtain ⟨b8, F8⟩ := hI
        rw [hk] at b8 hlen
        have c8 : W.cell? ⟨g8, 0, none⟩ = some (.int .i64 k) := b8.cell 0
        have B8 := b8
        have c4 : W.cell? ⟨g4, 0, none⟩ = some (.pointer (some ⟨q, 0, none⟩)) := ((k4.keep_nil fL).keep F8 (by simp; omega)).cell 0
        have c5 : W.cell? ⟨g4 + 1, 0, none⟩ = some (.int .i64 most) := ((k5.keep_nil fL).keep F8 (by simp; omega)).cell 0
        have b6 := (k6.keep_nil fL).keep F8 (show g4 + 1 + 1 ∉ [g8] by simp; omega)
        have c6 : W.cell? ⟨g4 + 1 + 1, 0, none⟩ = some (.bool false) := b6.cell 0
        have z6 := b6.frozen 0
        have HK6 := Lib.hid b6
        have c7 : W.cell? ⟨g7, 0, none⟩ = some (.int .i64 1) := ((k7.keep_nil fL).keep F8 (by simp; omega)).cell 0
        obtain ⟨v, hxw⟩ := id hx
        have hxW := (hxw.keep_nil FL.out).keep F8 (fun i hi hm => by have := hxw.lt i hi; have := List.mem_singleton.1 hm; omega)
        have cq := hxW.c0
        have rq := hxW.row
        obtain ⟨A, cc, rfl, -, hcm, -, -, -⟩ := rq.shape
        obtain ⟨N, hN⟩ : ∃ N, L.length = N := ⟨_, rfl⟩
        rw [hN] at cq
        have HRQ := Lib.hid rq
        have HN := Lib.hid hN
        have HI := Lib.hid (And.intro hI2 hk)
        have HF8 := Lib.hid F8
        have HFU := Lib.hid (And.intro hwf hfu)
        clear hI2 hk hxw hxW rq hN b8 b6 F8
        have HI8 := Lib.hid B8
        clear B8
        by_cases hA : N ≤ k
        · have dA : decide (N ≤ k) = true := by simpa using hA
          gi_upto_region 10 with (fail)
          refine wpIn_region_round 99 (S := fun w' => w'.cell? ⟨g8, 0, none⟩ = some (.int .i64 k) ∧ w'.cell? ⟨g4, 0, none⟩ = some (.pointer (some ⟨q, 0, none⟩)) ∧ w'.cell? ⟨q, 0, none⟩ = some (.slice A N cc)) (by kernel_rfl) (by kernel_rfl) (by rintro ⟨a, w, h⟩; exact h) ?_
          obtain ⟨wD, hwD⟩ : ∃ x, W.drew = x := ⟨_, rfl⟩
          have fD : Fr [] W wD := by rw [← hwD]; exact (Fr.refl _ _).drew
          have hHeld : wD.cell? ⟨g8, 0, none⟩ = some (.int .i64 k) ∧ wD.cell? ⟨g4, 0, none⟩ = some (.pointer (some ⟨q, 0, none⟩)) ∧ wD.cell? ⟨q, 0, none⟩ = some (.slice A N cc) := ⟨fD.cell (by simp) c8, fD.cell (by simp) c4, fD.cell (by simp) cq⟩
          rw [hwD]
          replace c6 := fD.cell (by simp) c6
          replace z6 := (HK6.out.keep_nil fD).frozen 0
          replace c7 := fD.cell (by simp) c7
          replace c5 := fD.cell (by simp) c5
          have c8D := hHeld.1
          have z8D := (HI8.out.keep_nil fD).frozen 0
          have FD := Lib.hid fD
          clear fD hwD c4 cq
          refine takeT_w 0 (some 25) (v := ?_) rfl rfl (by kernel_rfl) (by kernel_rfl) (by kernel_rfl) (by kernel_rfl) (fun _ _ _ h => h) (by rfl) ?_ hHeld ?_
          rotate_left
          · (intro w hSw; (try dsimp only at hSw); go_simp; try with_reducible rfl)
          simp only [Act.put, List.setIfInBounds_toArray, List.set_cons_zero, List.set_cons_succ]
          refine takeT_w 1 (some 26) (v := ?_) rfl rfl (by kernel_rfl) (by kernel_rfl) (by kernel_rfl) (by kernel_rfl) (fun _ _ _ h => h) (by rfl) ?_ hHeld ?_
          rotate_left
          · (intro w hSw; (try dsimp only at hSw); go_simp; try with_reducible rfl)
          simp only [Act.put, List.setIfInBounds_toArray, List.set_cons_zero, List.set_cons_succ]
          refine takeT_w 2 (some 27) (v := ?_) rfl rfl (by kernel_rfl) (by kernel_rfl) (by kernel_rfl) (by kernel_rfl) (fun _ _ _ h => h) (by rfl) ?_ hHeld ?_
          rotate_left
          · (intro w hSw; (try dsimp only at hSw); go_simp; try with_reducible rfl)
          simp only [Act.put, List.setIfInBounds_toArray, List.set_cons_zero, List.set_cons_succ]
          refine takeT_w 3 (some 28) (v := ?_) rfl rfl (by kernel_rfl) (by kernel_rfl) (by kernel_rfl) (by kernel_rfl) (fun _ _ _ h => h) (by rfl) ?_ hHeld ?_
          rotate_left
          · (intro w hSw; (try dsimp only at hSw); go_simp; try with_reducible rfl)
          simp only [Act.put, List.setIfInBounds_toArray, List.set_cons_zero, List.set_cons_succ]
          refine takeT_w 4 (some 29) (v := ?_) rfl rfl (by kernel_rfl) (by kernel_rfl) (by kernel_rfl) (by kernel_rfl) (fun _ _ _ h => h) (by rfl) ?_ hHeld ?_
          rotate_left
          · (intro w hSw; (try dsimp only at hSw); go_simp; try with_reducible rfl)
          simp only [Act.put, List.setIfInBounds_toArray, List.set_cons_zero, List.set_cons_succ]
          refine takeT_w 5 (some 30) (v := ?_) rfl rfl (by kernel_rfl) (by kernel_rfl) (by kernel_rfl) (by kernel_rfl) (fun _ _ _ h => h) (by rfl) ?_ hHeld ?_
          rotate_left
          · (intro w hSw; (try dsimp only at hSw); go_simp; try with_reducible rfl)
          simp only [Act.put, List.setIfInBounds_toArray, List.set_cons_zero, List.set_cons_succ]
          refine takeT_w 6 (some 31) (v := ?_) rfl rfl (by kernel_rfl) (by kernel_rfl) (by kernel_rfl) (by kernel_rfl) (fun _ _ _ h => h) (by rfl) ?_ hHeld ?_
          rotate_left
          · (intro w hSw; (try dsimp only at hSw); go_simp; try with_reducible rfl)
          simp only [Act.put, List.setIfInBounds_toArray, List.set_cons_zero, List.set_cons_succ]
          refine takeT_w 7 (some 32) (v := ?_) rfl rfl (by kernel_rfl) (by kernel_rfl) (by kernel_rfl) (by kernel_rfl) (fun _ _ _ h => h) (by rfl) ?_ hHeld ?_
          rotate_left
          · (intro w hSw; (try dsimp only at hSw); go_simp; try with_reducible rfl)
          simp only [Act.put, List.setIfInBounds_toArray, List.set_cons_zero, List.set_cons_succ]
          refine takeT_u 8 (some 33) rfl rfl (by kernel_rfl) (by kernel_rfl) (by kernel_rfl) (by kernel_rfl) (fun _ _ _ h => h) (by rfl) hHeld ?_
          simp only [Act.put, List.setIfInBounds_toArray, List.set_cons_zero, List.set_cons_succ]
          refine takeT_u 9 (some 34) rfl rfl (by kernel_rfl) (by kernel_rfl) (by kernel_rfl) (by kernel_rfl) (fun _ _ _ h => h) (by rfl) hHeld ?_
          simp only [Act.put, List.setIfInBounds_toArray, List.set_cons_zero, List.set_cons_succ]
          refine takeT_u 10 (some 35) rfl rfl (by kernel_rfl) (by kernel_rfl) (by kernel_rfl) (by kernel_rfl) (fun _ _ _ h => h) (by rfl) hHeld ?_
          simp only [Act.put, List.setIfInBounds_toArray, List.set_cons_zero, List.set_cons_succ]
          refine takeT_u 11 (some 36) rfl rfl (by kernel_rfl) (by kernel_rfl) (by kernel_rfl) (by kernel_rfl) (fun _ _ _ h => h) (by rfl) hHeld ?_
          simp only [Act.put, List.setIfInBounds_toArray, List.set_cons_zero, List.set_cons_succ]
          refine takeT_u 12 (some 37) rfl rfl (by kernel_rfl) (by kernel_rfl) (by kernel_rfl) (by kernel_rfl) (fun _ _ _ h => h) (by rfl) hHeld ?_
          simp only [Act.put, List.setIfInBounds_toArray, List.set_cons_zero, List.set_cons_succ]
          refine takeT_u 13 (some 38) rfl rfl (by kernel_rfl) (by kernel_rfl) (by kernel_rfl) (by kernel_rfl) (fun _ _ _ h => h) (by rfl) hHeld ?_
          simp only [Act.put, List.setIfInBounds_toArray, List.set_cons_zero, List.set_cons_succ]
          refine takeT_u 14 (some 39) rfl rfl (by kernel_rfl) (by kernel_rfl) (by kernel_rfl) (by kernel_rfl) (fun _ _ _ h => h) (by rfl) hHeld ?_
          simp only [Act.put, List.setIfInBounds_toArray, List.set_cons_zero, List.set_cons_succ]
          refine takeT_u 15 (some 40) rfl rfl (by kernel_rfl) (by kernel_rfl) (by kernel_rfl) (by kernel_rfl) (fun _ _ _ h => h) (by rfl) hHeld ?_
          simp only [Act.put, List.setIfInBounds_toArray, List.set_cons_zero, List.set_cons_succ]
          refine takeT_u 16 (some 41) rfl rfl (by kernel_rfl) (by kernel_rfl) (by kernel_rfl) (by kernel_rfl) (fun _ _ _ h => h) (by rfl) hHeld ?_
          simp only [Act.put, List.setIfInBounds_toArray, List.set_cons_zero, List.set_cons_succ]
          refine takeT_u 17 (some 42) rfl rfl (by kernel_rfl) (by kernel_rfl) (by kernel_rfl) (by kernel_rfl) (fun _ _ _ h => h) (by rfl) hHeld ?_
          simp only [Act.put, List.setIfInBounds_toArray, List.set_cons_zero, List.set_cons_succ]
          refine takeT_u 18 (some 43) rfl rfl (by kernel_rfl) (by kernel_rfl) (by kernel_rfl) (by kernel_rfl) (fun _ _ _ h => h) (by rfl) hHeld ?_
          simp only [Act.put, List.setIfInBounds_toArray, List.set_cons_zero, List.set_cons_succ]
          refine takeT_w 19 (some 44) (v := ?_) rfl rfl (by kernel_rfl) (by kernel_rfl) (by kernel_rfl) (by kernel_rfl) (fun _ _ _ h => h) (by rfl) ?_ hHeld ?_
          rotate_left
          · (intro w hSw; (try dsimp only at hSw); go_simp; try with_reducible rfl)
          simp only [Act.put, List.setIfInBounds_toArray, List.set_cons_zero, List.set_cons_succ]
          refine wpAnyT_done (by kernel_rfl) ?_ _
          clear hHeld c5 c7 c8D z8D
          gi_wp2
          refine ⟨keepsO_of_fr ((FD.out.mono (by simp)).setCell (F := [g4 + 1 + 1]) (.inl (by simp)) _) (fun j hj o ho => by rw [List.mem_singleton.1 hj, show W.heap[g4 + 1 + 1]? = _ from HK6.out] at ho; cases ho; rfl), .inl ⟨rfl, ⟨pre, _, rfl, fun hh => ?_⟩⟩⟩
          exact absurd hh (by rw [HN.out, HI.out.2]; omega)
        have dA : decide (N ≤ k) = false := by simpa using hA
        have hkN : k < N := by omega
        have dk : (k : Int) < N := by omega
        have hkl : k < L.length := by rw [HN.out]; exact hkN
        obtain ⟨gq, rfl, q0, q1⟩ := qcells_row HRQ.out k hkl
        obtain ⟨⟨y', t'⟩, hyt⟩ : ∃ p, L[k] = p := ⟨_, rfl⟩
        rw [hyt] at q0 q1
        have HY := Lib.hid hyt
        clear hyt
        by_cases e1 : y' = y
        · by_cases e2 : t' = t
          · subst e1 e2
            gi_upto_region 10 with (fail)
            refine wpIn_region_round 99 (S := fun w' => w'.cell? ⟨g8, 0, none⟩ = some (.int .i64 k) ∧ w'.cell? ⟨g4, 0, none⟩ = some (.pointer (some ⟨q, 0, none⟩)) ∧ w'.cell? ⟨q, 0, none⟩ = some (.slice (some ⟨gq, 0, none⟩) N cc) ∧ w'.cell? ⟨gq, k * 2, none⟩ = some (.int .i64 y') ∧ w'.cell? ⟨gq, k * 2 + 1, none⟩ = some (.string t')) (by kernel_rfl) (by kernel_rfl) (by rintro ⟨a, w, h⟩; exact h) ?_
            obtain ⟨wD, hwD⟩ : ∃ x, W.drew = x := ⟨_, rfl⟩
            have fD : Fr [] W wD := by rw [← hwD]; exact (Fr.refl _ _).drew
            have hHeld : wD.cell? ⟨g8, 0, none⟩ = some (.int .i64 k) ∧ wD.cell? ⟨g4, 0, none⟩ = some (.pointer (some ⟨q, 0, none⟩)) ∧ wD.cell? ⟨q, 0, none⟩ = some (.slice (some ⟨gq, 0, none⟩) N cc) ∧ wD.cell? ⟨gq, k * 2, none⟩ = some (.int .i64 y') ∧ wD.cell? ⟨gq, k * 2 + 1, none⟩ = some (.string t') := ⟨fD.cell (by simp) c8, fD.cell (by simp) c4, fD.cell (by simp) cq, fD.cell (by simp) q0, fD.cell (by simp) q1⟩
            rw [hwD]
            replace c6 := fD.cell (by simp) c6
            replace z6 := (HK6.out.keep_nil fD).frozen 0
            replace c7 := fD.cell (by simp) c7
            replace c5 := fD.cell (by simp) c5
            have c8D := hHeld.1
            have z8D := (HI8.out.keep_nil fD).frozen 0
            have FD := Lib.hid fD
            clear fD hwD c4 cq
            refine takeT_w 0 (some 25) (v := ?_) rfl rfl (by kernel_rfl) (by kernel_rfl) (by kernel_rfl) (by kernel_rfl) (fun _ _ _ h => h) (by rfl) ?_ hHeld ?_
            rotate_left
            · (intro w hSw; (try dsimp only at hSw); go_simp; try with_reducible rfl)
            simp only [Act.put, List.setIfInBounds_toArray, List.set_cons_zero, List.set_cons_succ]
            refine takeT_w 1 (some 26) (v := ?_) rfl rfl (by kernel_rfl) (by kernel_rfl) (by kernel_rfl) (by kernel_rfl) (fun _ _ _ h => h) (by rfl) ?_ hHeld ?_
            rotate_left
            · (intro w hSw; (try dsimp only at hSw); go_simp; try with_reducible rfl)
            simp only [Act.put, List.setIfInBounds_toArray, List.set_cons_zero, List.set_cons_succ]
            refine takeT_w 2 (some 27) (v := ?_) rfl rfl (by kernel_rfl) (by kernel_rfl) (by kernel_rfl) (by kernel_rfl) (fun _ _ _ h => h) (by rfl) ?_ hHeld ?_
            rotate_left
            · (intro w hSw; (try dsimp only at hSw); go_simp; try with_reducible rfl)
            simp only [Act.put, List.setIfInBounds_toArray, List.set_cons_zero, List.set_cons_succ]
            refine takeT_w 3 (some 28) (v := ?_) rfl rfl (by kernel_rfl) (by kernel_rfl) (by kernel_rfl) (by kernel_rfl) (fun _ _ _ h => h) (by rfl) ?_ hHeld ?_
            rotate_left
            · (intro w hSw; (try dsimp only at hSw); go_simp; try with_reducible rfl)
            simp only [Act.put, List.setIfInBounds_toArray, List.set_cons_zero, List.set_cons_succ]
            refine takeT_w 4 (some 29) (v := ?_) rfl rfl (by kernel_rfl) (by kernel_rfl) (by kernel_rfl) (by kernel_rfl) (fun _ _ _ h => h) (by rfl) ?_ hHeld ?_
            rotate_left
            · (intro w hSw; (try dsimp only at hSw); go_simp; try with_reducible rfl)
            simp only [Act.put, List.setIfInBounds_toArray, List.set_cons_zero, List.set_cons_succ]
            refine takeT_w 5 (some 30) (v := ?_) rfl rfl (by kernel_rfl) (by kernel_rfl) (by kernel_rfl) (by kernel_rfl) (fun _ _ _ h => h) (by rfl) ?_ hHeld ?_
            rotate_left
            · (intro w hSw; (try dsimp only at hSw); go_simp; try with_reducible rfl)
            simp only [Act.put, List.setIfInBounds_toArray, List.set_cons_zero, List.set_cons_succ]
            refine takeT_w 6 (some 31) (v := ?_) rfl rfl (by kernel_rfl) (by kernel_rfl) (by kernel_rfl) (by kernel_rfl) (fun _ _ _ h => h) (by rfl) ?_ hHeld ?_
            rotate_left
            · (intro w hSw; (try dsimp only at hSw); go_simp; try with_reducible rfl)
            simp only [Act.put, List.setIfInBounds_toArray, List.set_cons_zero, List.set_cons_succ]
            refine takeT_w 7 (some 32) (v := ?_) rfl rfl (by kernel_rfl) (by kernel_rfl) (by kernel_rfl) (by kernel_rfl) (fun _ _ _ h => h) (by rfl) ?_ hHeld ?_
            rotate_left
            · (intro w hSw; (try dsimp only at hSw); go_simp; try with_reducible rfl)
            simp only [Act.put, List.setIfInBounds_toArray, List.set_cons_zero, List.set_cons_succ]
            refine takeT_w 8 (some 33) (v := ?_) rfl rfl (by kernel_rfl) (by kernel_rfl) (by kernel_rfl) (by kernel_rfl) (fun _ _ _ h => h) (by rfl) ?_ hHeld ?_
            rotate_left
            · (intro w hSw; (try dsimp only at hSw); go_simp; try with_reducible rfl)
            simp only [Act.put, List.setIfInBounds_toArray, List.set_cons_zero, List.set_cons_succ]
            refine takeT_w 9 (some 34) (v := ?_) rfl rfl (by kernel_rfl) (by kernel_rfl) (by kernel_rfl) (by kernel_rfl) (fun _ _ _ h => h) (by rfl) ?_ hHeld ?_
            rotate_left
            · (intro w hSw; (try dsimp only at hSw); go_simp; try with_reducible rfl)
            simp only [Act.put, List.setIfInBounds_toArray, List.set_cons_zero, List.set_cons_succ]
            refine takeT_w 10 (some 35) (v := ?_) rfl rfl (by kernel_rfl) (by kernel_rfl) (by kernel_rfl) (by kernel_rfl) (fun _ _ _ h => h) (by rfl) ?_ hHeld ?_
            rotate_left
            · (intro w hSw; (try dsimp only at hSw); go_simp; try with_reducible rfl)
            simp only [Act.put, List.setIfInBounds_toArray, List.set_cons_zero, List.set_cons_succ]
            refine takeT_w 11 (some 36) (v := ?_) rfl rfl (by kernel_rfl) (by kernel_rfl) (by kernel_rfl) (by kernel_rfl) (fun _ _ _ h => h) (by rfl) ?_ hHeld ?_
            rotate_left
            · (intro w hSw; (try dsimp only at hSw); go_simp; try with_reducible rfl)
            simp only [Act.put, List.setIfInBounds_toArray, List.set_cons_zero, List.set_cons_succ]
            refine takeT_w 12 (some 37) (v := ?_) rfl rfl (by kernel_rfl) (by kernel_rfl) (by kernel_rfl) (by kernel_rfl) (fun _ _ _ h => h) (by rfl) ?_ hHeld ?_
            rotate_left
            · (intro w hSw; (try dsimp only at hSw); go_simp; try with_reducible rfl)
            simp only [Act.put, List.setIfInBounds_toArray, List.set_cons_zero, List.set_cons_succ]
            refine takeT_w 13 (some 38) (v := ?_) rfl rfl (by kernel_rfl) (by kernel_rfl) (by kernel_rfl) (by kernel_rfl) (fun _ _ _ h => h) (by rfl) ?_ hHeld ?_
            rotate_left
            · (intro w hSw; (try dsimp only at hSw); go_simp; try with_reducible rfl)
            simp only [Act.put, List.setIfInBounds_toArray, List.set_cons_zero, List.set_cons_succ]
            refine takeT_w 14 (some 39) (v := ?_) rfl rfl (by kernel_rfl) (by kernel_rfl) (by kernel_rfl) (by kernel_rfl) (fun _ _ _ h => h) (by rfl) ?_ hHeld ?_
            rotate_left
            · (intro w hSw; (try dsimp only at hSw); go_simp; try with_reducible rfl)
            simp only [Act.put, List.setIfInBounds_toArray, List.set_cons_zero, List.set_cons_succ]
            refine takeT_w 15 (some 40) (v := ?_) rfl rfl (by kernel_rfl) (by kernel_rfl) (by kernel_rfl) (by kernel_rfl) (fun _ _ _ h => h) (by rfl) ?_ hHeld ?_
            rotate_left
            · (intro w hSw; (try dsimp only at hSw); go_simp; try with_reducible rfl)
            simp only [Act.put, List.setIfInBounds_toArray, List.set_cons_zero, List.set_cons_succ]
            refine takeT_w 16 (some 41) (v := ?_) rfl rfl (by kernel_rfl) (by kernel_rfl) (by kernel_rfl) (by kernel_rfl) (fun _ _ _ h => h) (by rfl) ?_ hHeld ?_
            rotate_left
            · (intro w hSw; (try dsimp only at hSw); go_simp; try with_reducible rfl)
            simp only [Act.put, List.setIfInBounds_toArray, List.set_cons_zero, List.set_cons_succ]
            refine takeT_w 17 (some 42) (v := ?_) rfl rfl (by kernel_rfl) (by kernel_rfl) (by kernel_rfl) (by kernel_rfl) (fun _ _ _ h => h) (by rfl) ?_ hHeld ?_
            rotate_left
            · (intro w hSw; (try dsimp only at hSw); go_simp; try with_reducible rfl)
            simp only [Act.put, List.setIfInBounds_toArray, List.set_cons_zero, List.set_cons_succ]
            refine takeT_w 18 (some 43) (v := ?_) rfl rfl (by kernel_rfl) (by kernel_rfl) (by kernel_rfl) (by kernel_rfl) (fun _ _ _ h => h) (by rfl) ?_ hHeld ?_
            rotate_left
            · (intro w hSw; (try dsimp only at hSw); go_simp; try with_reducible rfl)
            simp only [Act.put, List.setIfInBounds_toArray, List.set_cons_zero, List.set_cons_succ]
            refine takeT_w 19 (some 44) (v := ?_) rfl rfl (by kernel_rfl) (by kernel_rfl) (by kernel_rfl) (by kernel_rfl) (fun _ _ _ h => h) (by rfl) ?_ hHeld ?_
            rotate_left
            · (intro w hSw; (try dsimp only at hSw); go_simp; try with_reducible rfl)
            simp only [Act.put, List.setIfInBounds_toArray, List.set_cons_zero, List.set_cons_succ]
            refine wpAnyT_done (by kernel_rfl) ?_ _
            clear hHeld
            gi_wp2
            all_goals first | exact ovI_next HI.out.1 HI.out.2 FD.out | skip
            all_goals (
              rename_i hb
              have hb := eq_of_beq hb
              obtain ⟨a1, a2, a3⟩ := ovI_next (x := ⟨(y', Value.string t'), ⟨HFU.out.1, HFU.out.2⟩⟩) HI.out.1 HI.out.2 FD.out
              exact ⟨a1, .inr ⟨rfl, by rw [List.length_append, HI.out.2, ← hb]; rfl, rfl, a3⟩⟩)
          · have d1 : (y' == y) = true := by simpa using e1
            have d2 : ¬ t'.toList = t.toList := fun h => e2 (ByteArray.ext (Array.toList_inj.1 (by rw [← ByteArray.toList_eq, ← ByteArray.toList_eq]; exact h)))
            gi_upto_region 10 with (fail)
            refine wpIn_region_round 99 (S := fun w' => w'.cell? ⟨g8, 0, none⟩ = some (.int .i64 k) ∧ w'.cell? ⟨g4, 0, none⟩ = some (.pointer (some ⟨q, 0, none⟩)) ∧ w'.cell? ⟨q, 0, none⟩ = some (.slice (some ⟨gq, 0, none⟩) N cc) ∧ w'.cell? ⟨gq, k * 2, none⟩ = some (.int .i64 y') ∧ w'.cell? ⟨gq, k * 2 + 1, none⟩ = some (.string t')) (by kernel_rfl) (by kernel_rfl) (by rintro ⟨a, w, h⟩; exact h) ?_
            obtain ⟨wD, hwD⟩ : ∃ x, W.drew = x := ⟨_, rfl⟩
            have fD : Fr [] W wD := by rw [← hwD]; exact (Fr.refl _ _).drew
            have hHeld : wD.cell? ⟨g8, 0, none⟩ = some (.int .i64 k) ∧ wD.cell? ⟨g4, 0, none⟩ = some (.pointer (some ⟨q, 0, none⟩)) ∧ wD.cell? ⟨q, 0, none⟩ = some (.slice (some ⟨gq, 0, none⟩) N cc) ∧ wD.cell? ⟨gq, k * 2, none⟩ = some (.int .i64 y') ∧ wD.cell? ⟨gq, k * 2 + 1, none⟩ = some (.string t') := ⟨fD.cell (by simp) c8, fD.cell (by simp) c4, fD.cell (by simp) cq, fD.cell (by simp) q0, fD.cell (by simp) q1⟩
            rw [hwD]
            replace c6 := fD.cell (by simp) c6
            replace z6 := (HK6.out.keep_nil fD).frozen 0
            replace c7 := fD.cell (by simp) c7
            replace c5 := fD.cell (by simp) c5
            have c8D := hHeld.1
            have z8D := (HI8.out.keep_nil fD).frozen 0
            have FD := Lib.hid fD
            clear fD hwD c4 cq
            refine takeT_w 0 (some 25) (v := ?_) rfl rfl (by kernel_rfl) (by kernel_rfl) (by kernel_rfl) (by kernel_rfl) (fun _ _ _ h => h) (by rfl) ?_ hHeld ?_
            rotate_left
            · (intro w hSw; (try dsimp only at hSw); go_simp; try with_reducible rfl)
            simp only [Act.put, List.setIfInBounds_toArray, List.set_cons_zero, List.set_cons_succ]
            refine takeT_w 1 (some 26) (v := ?_) rfl rfl (by kernel_rfl) (by kernel_rfl) (by kernel_rfl) (by kernel_rfl) (fun _ _ _ h => h) (by rfl) ?_ hHeld ?_
            rotate_left
            · (intro w hSw; (try dsimp only at hSw); go_simp; try with_reducible rfl)
            simp only [Act.put, List.setIfInBounds_toArray, List.set_cons_zero, List.set_cons_succ]
            refine takeT_w 2 (some 27) (v := ?_) rfl rfl (by kernel_rfl) (by kernel_rfl) (by kernel_rfl) (by kernel_rfl) (fun _ _ _ h => h) (by rfl) ?_ hHeld ?_
            rotate_left
            · (intro w hSw; (try dsimp only at hSw); go_simp; try with_reducible rfl)
            simp only [Act.put, List.setIfInBounds_toArray, List.set_cons_zero, List.set_cons_succ]
            refine takeT_w 3 (some 28) (v := ?_) rfl rfl (by kernel_rfl) (by kernel_rfl) (by kernel_rfl) (by kernel_rfl) (fun _ _ _ h => h) (by rfl) ?_ hHeld ?_
            rotate_left
            · (intro w hSw; (try dsimp only at hSw); go_simp; try with_reducible rfl)
            simp only [Act.put, List.setIfInBounds_toArray, List.set_cons_zero, List.set_cons_succ]
            refine takeT_w 4 (some 29) (v := ?_) rfl rfl (by kernel_rfl) (by kernel_rfl) (by kernel_rfl) (by kernel_rfl) (fun _ _ _ h => h) (by rfl) ?_ hHeld ?_
            rotate_left
            · (intro w hSw; (try dsimp only at hSw); go_simp; try with_reducible rfl)
            simp only [Act.put, List.setIfInBounds_toArray, List.set_cons_zero, List.set_cons_succ]
            refine takeT_w 5 (some 30) (v := ?_) rfl rfl (by kernel_rfl) (by kernel_rfl) (by kernel_rfl) (by kernel_rfl) (fun _ _ _ h => h) (by rfl) ?_ hHeld ?_
            rotate_left
            · (intro w hSw; (try dsimp only at hSw); go_simp; try with_reducible rfl)
            simp only [Act.put, List.setIfInBounds_toArray, List.set_cons_zero, List.set_cons_succ]
            refine takeT_w 6 (some 31) (v := ?_) rfl rfl (by kernel_rfl) (by kernel_rfl) (by kernel_rfl) (by kernel_rfl) (fun _ _ _ h => h) (by rfl) ?_ hHeld ?_
            rotate_left
            · (intro w hSw; (try dsimp only at hSw); go_simp; try with_reducible rfl)
            simp only [Act.put, List.setIfInBounds_toArray, List.set_cons_zero, List.set_cons_succ]
            refine takeT_w 7 (some 32) (v := ?_) rfl rfl (by kernel_rfl) (by kernel_rfl) (by kernel_rfl) (by kernel_rfl) (fun _ _ _ h => h) (by rfl) ?_ hHeld ?_
            rotate_left
            · (intro w hSw; (try dsimp only at hSw); go_simp; try with_reducible rfl)
            simp only [Act.put, List.setIfInBounds_toArray, List.set_cons_zero, List.set_cons_succ]
            refine takeT_w 8 (some 33) (v := ?_) rfl rfl (by kernel_rfl) (by kernel_rfl) (by kernel_rfl) (by kernel_rfl) (fun _ _ _ h => h) (by rfl) ?_ hHeld ?_
            rotate_left
            · (intro w hSw; (try dsimp only at hSw); go_simp; try with_reducible rfl)
            simp only [Act.put, List.setIfInBounds_toArray, List.set_cons_zero, List.set_cons_succ]
            refine takeT_w 9 (some 34) (v := ?_) rfl rfl (by kernel_rfl) (by kernel_rfl) (by kernel_rfl) (by kernel_rfl) (fun _ _ _ h => h) (by rfl) ?_ hHeld ?_
            rotate_left
            · (intro w hSw; (try dsimp only at hSw); go_simp; try with_reducible rfl)
            simp only [Act.put, List.setIfInBounds_toArray, List.set_cons_zero, List.set_cons_succ]
            refine takeT_w 10 (some 35) (v := ?_) rfl rfl (by kernel_rfl) (by kernel_rfl) (by kernel_rfl) (by kernel_rfl) (fun _ _ _ h => h) (by rfl) ?_ hHeld ?_
            rotate_left
            · (intro w hSw; (try dsimp only at hSw); go_simp; try with_reducible rfl)
            simp only [Act.put, List.setIfInBounds_toArray, List.set_cons_zero, List.set_cons_succ]
            refine takeT_w 11 (some 36) (v := ?_) rfl rfl (by kernel_rfl) (by kernel_rfl) (by kernel_rfl) (by kernel_rfl) (fun _ _ _ h => h) (by rfl) ?_ hHeld ?_
            rotate_left
            · (intro w hSw; (try dsimp only at hSw); go_simp; try with_reducible rfl)
            simp only [Act.put, List.setIfInBounds_toArray, List.set_cons_zero, List.set_cons_succ]
            refine takeT_w 12 (some 37) (v := ?_) rfl rfl (by kernel_rfl) (by kernel_rfl) (by kernel_rfl) (by kernel_rfl) (fun _ _ _ h => h) (by rfl) ?_ hHeld ?_
            rotate_left
            · (intro w hSw; (try dsimp only at hSw); go_simp; try with_reducible rfl)
            simp only [Act.put, List.setIfInBounds_toArray, List.set_cons_zero, List.set_cons_succ]
            refine takeT_w 13 (some 38) (v := ?_) rfl rfl (by kernel_rfl) (by kernel_rfl) (by kernel_rfl) (by kernel_rfl) (fun _ _ _ h => h) (by rfl) ?_ hHeld ?_
            rotate_left
            · (intro w hSw; (try dsimp only at hSw); go_simp; try with_reducible rfl)
            simp only [Act.put, List.setIfInBounds_toArray, List.set_cons_zero, List.set_cons_succ]
            refine takeT_w 14 (some 39) (v := ?_) rfl rfl (by kernel_rfl) (by kernel_rfl) (by kernel_rfl) (by kernel_rfl) (fun _ _ _ h => h) (by rfl) ?_ hHeld ?_
            rotate_left
            · (intro w hSw; (try dsimp only at hSw); go_simp; try with_reducible rfl)
            simp only [Act.put, List.setIfInBounds_toArray, List.set_cons_zero, List.set_cons_succ]
            refine takeT_w 15 (some 40) (v := ?_) rfl rfl (by kernel_rfl) (by kernel_rfl) (by kernel_rfl) (by kernel_rfl) (fun _ _ _ h => h) (by rfl) ?_ hHeld ?_
            rotate_left
            · (intro w hSw; (try dsimp only at hSw); go_simp; try with_reducible rfl)
            simp only [Act.put, List.setIfInBounds_toArray, List.set_cons_zero, List.set_cons_succ]
            refine takeT_w 16 (some 41) (v := ?_) rfl rfl (by kernel_rfl) (by kernel_rfl) (by kernel_rfl) (by kernel_rfl) (fun _ _ _ h => h) (by rfl) ?_ hHeld ?_
            rotate_left
            · (intro w hSw; (try dsimp only at hSw); go_simp; try with_reducible rfl)
            simp only [Act.put, List.setIfInBounds_toArray, List.set_cons_zero, List.set_cons_succ]
            refine takeT_w 17 (some 42) (v := ?_) rfl rfl (by kernel_rfl) (by kernel_rfl) (by kernel_rfl) (by kernel_rfl) (fun _ _ _ h => h) (by rfl) ?_ hHeld ?_
            rotate_left
            · (intro w hSw; (try dsimp only at hSw); go_simp; try with_reducible rfl)
            simp only [Act.put, List.setIfInBounds_toArray, List.set_cons_zero, List.set_cons_succ]
            refine takeT_w 18 (some 43) (v := ?_) rfl rfl (by kernel_rfl) (by kernel_rfl) (by kernel_rfl) (by kernel_rfl) (fun _ _ _ h => h) (by rfl) ?_ hHeld ?_
            rotate_left
            · (intro w hSw; (try dsimp only at hSw); go_simp; try with_reducible rfl)
            simp only [Act.put, List.setIfInBounds_toArray, List.set_cons_zero, List.set_cons_succ]
            refine takeT_w 19 (some 44) (v := ?_) rfl rfl (by kernel_rfl) (by kernel_rfl) (by kernel_rfl) (by kernel_rfl) (fun _ _ _ h => h) (by rfl) ?_ hHeld ?_
            rotate_left
            · (intro w hSw; (try dsimp only at hSw); go_simp; try with_reducible rfl)
            simp only [Act.put, List.setIfInBounds_toArray, List.set_cons_zero, List.set_cons_succ]
            refine wpAnyT_done (by kernel_rfl) ?_ _
            clear hHeld c5 c7 c8D z8D
            gi_wp2
            refine ⟨keepsO_of_fr ((FD.out.mono (by simp)).setCell (F := [g4 + 1 + 1]) (.inl (by simp)) _) (fun j hj o ho => by rw [List.mem_singleton.1 hj, show W.heap[g4 + 1 + 1]? = _ from HK6.out] at ho; cases ho; rfl), .inl ⟨rfl, ⟨pre, _, rfl, fun hh => ?_⟩⟩⟩
            intro heq
            have := congrArg Prod.snd heq
            refine e2 ?_
            simp only [HI.out.2, HY.out] at this
            cases this
            rfl
        · have d1 : (y' == y) = false := by simpa using e1
          gi_upto_region 10 with (fail)
          refine wpIn_region_round 99 (S := fun w' => w'.cell? ⟨g8, 0, none⟩ = some (.int .i64 k) ∧ w'.cell? ⟨g4, 0, none⟩ = some (.pointer (some ⟨q, 0, none⟩)) ∧ w'.cell? ⟨q, 0, none⟩ = some (.slice (some ⟨gq, 0, none⟩) N cc) ∧ w'.cell? ⟨gq, k * 2, none⟩ = some (.int .i64 y') ∧ w'.cell? ⟨gq, k * 2 + 1, none⟩ = some (.string t')) (by kernel_rfl) (by kernel_rfl) (by rintro ⟨a, w, h⟩; exact h) ?_
          obtain ⟨wD, hwD⟩ : ∃ x, W.drew = x := ⟨_, rfl⟩
          have fD : Fr [] W wD := by rw [← hwD]; exact (Fr.refl _ _).drew
          have hHeld : wD.cell? ⟨g8, 0, none⟩ = some (.int .i64 k) ∧ wD.cell? ⟨g4, 0, none⟩ = some (.pointer (some ⟨q, 0, none⟩)) ∧ wD.cell? ⟨q, 0, none⟩ = some (.slice (some ⟨gq, 0, none⟩) N cc) ∧ wD.cell? ⟨gq, k * 2, none⟩ = some (.int .i64 y') ∧ wD.cell? ⟨gq, k * 2 + 1, none⟩ = some (.string t') := ⟨fD.cell (by simp) c8, fD.cell (by simp) c4, fD.cell (by simp) cq, fD.cell (by simp) q0, fD.cell (by simp) q1⟩
          rw [hwD]
          replace c6 := fD.cell (by simp) c6
          replace z6 := (HK6.out.keep_nil fD).frozen 0
          replace c7 := fD.cell (by simp) c7
          replace c5 := fD.cell (by simp) c5
          have c8D := hHeld.1
          have z8D := (HI8.out.keep_nil fD).frozen 0
          have FD := Lib.hid fD
          clear fD hwD c4 cq
          refine takeT_w 0 (some 25) (v := ?_) rfl rfl (by kernel_rfl) (by kernel_rfl) (by kernel_rfl) (by kernel_rfl) (fun _ _ _ h => h) (by rfl) ?_ hHeld ?_
          rotate_left
          · (intro w hSw; (try dsimp only at hSw); go_simp; try with_reducible rfl)
          simp only [Act.put, List.setIfInBounds_toArray, List.set_cons_zero, List.set_cons_succ]
          refine takeT_w 1 (some 26) (v := ?_) rfl rfl (by kernel_rfl) (by kernel_rfl) (by kernel_rfl) (by kernel_rfl) (fun _ _ _ h => h) (by rfl) ?_ hHeld ?_
          rotate_left
          · (intro w hSw; (try dsimp only at hSw); go_simp; try with_reducible rfl)
          simp only [Act.put, List.setIfInBounds_toArray, List.set_cons_zero, List.set_cons_succ]
          refine takeT_w 2 (some 27) (v := ?_) rfl rfl (by kernel_rfl) (by kernel_rfl) (by kernel_rfl) (by kernel_rfl) (fun _ _ _ h => h) (by rfl) ?_ hHeld ?_
          rotate_left
          · (intro w hSw; (try dsimp only at hSw); go_simp; try with_reducible rfl)
          simp only [Act.put, List.setIfInBounds_toArray, List.set_cons_zero, List.set_cons_succ]
          refine takeT_w 3 (some 28) (v := ?_) rfl rfl (by kernel_rfl) (by kernel_rfl) (by kernel_rfl) (by kernel_rfl) (fun _ _ _ h => h) (by rfl) ?_ hHeld ?_
          rotate_left
          · (intro w hSw; (try dsimp only at hSw); go_simp; try with_reducible rfl)
          simp only [Act.put, List.setIfInBounds_toArray, List.set_cons_zero, List.set_cons_succ]
          refine takeT_w 4 (some 29) (v := ?_) rfl rfl (by kernel_rfl) (by kernel_rfl) (by kernel_rfl) (by kernel_rfl) (fun _ _ _ h => h) (by rfl) ?_ hHeld ?_
          rotate_left
          · (intro w hSw; (try dsimp only at hSw); go_simp; try with_reducible rfl)
          simp only [Act.put, List.setIfInBounds_toArray, List.set_cons_zero, List.set_cons_succ]
          refine takeT_w 5 (some 30) (v := ?_) rfl rfl (by kernel_rfl) (by kernel_rfl) (by kernel_rfl) (by kernel_rfl) (fun _ _ _ h => h) (by rfl) ?_ hHeld ?_
          rotate_left
          · (intro w hSw; (try dsimp only at hSw); go_simp; try with_reducible rfl)
          simp only [Act.put, List.setIfInBounds_toArray, List.set_cons_zero, List.set_cons_succ]
          refine takeT_w 6 (some 31) (v := ?_) rfl rfl (by kernel_rfl) (by kernel_rfl) (by kernel_rfl) (by kernel_rfl) (fun _ _ _ h => h) (by rfl) ?_ hHeld ?_
          rotate_left
          · (intro w hSw; (try dsimp only at hSw); go_simp; try with_reducible rfl)
          simp only [Act.put, List.setIfInBounds_toArray, List.set_cons_zero, List.set_cons_succ]
          refine takeT_w 7 (some 32) (v := ?_) rfl rfl (by kernel_rfl) (by kernel_rfl) (by kernel_rfl) (by kernel_rfl) (fun _ _ _ h => h) (by rfl) ?_ hHeld ?_
          rotate_left
          · (intro w hSw; (try dsimp only at hSw); go_simp; try with_reducible rfl)
          simp only [Act.put, List.setIfInBounds_toArray, List.set_cons_zero, List.set_cons_succ]
          refine takeT_w 8 (some 33) (v := ?_) rfl rfl (by kernel_rfl) (by kernel_rfl) (by kernel_rfl) (by kernel_rfl) (fun _ _ _ h => h) (by rfl) ?_ hHeld ?_
          rotate_left
          · (intro w hSw; (try dsimp only at hSw); go_simp; try with_reducible rfl)
          simp only [Act.put, List.setIfInBounds_toArray, List.set_cons_zero, List.set_cons_succ]
          refine takeT_w 9 (some 34) (v := ?_) rfl rfl (by kernel_rfl) (by kernel_rfl) (by kernel_rfl) (by kernel_rfl) (fun _ _ _ h => h) (by rfl) ?_ hHeld ?_
          rotate_left
          · (intro w hSw; (try dsimp only at hSw); go_simp; try with_reducible rfl)
          simp only [Act.put, List.setIfInBounds_toArray, List.set_cons_zero, List.set_cons_succ]
          refine takeT_w 10 (some 35) (v := ?_) rfl rfl (by kernel_rfl) (by kernel_rfl) (by kernel_rfl) (by kernel_rfl) (fun _ _ _ h => h) (by rfl) ?_ hHeld ?_
          rotate_left
          · (intro w hSw; (try dsimp only at hSw); go_simp; try with_reducible rfl)
          simp only [Act.put, List.setIfInBounds_toArray, List.set_cons_zero, List.set_cons_succ]
          refine takeT_w 11 (some 36) (v := ?_) rfl rfl (by kernel_rfl) (by kernel_rfl) (by kernel_rfl) (by kernel_rfl) (fun _ _ _ h => h) (by rfl) ?_ hHeld ?_
          rotate_left
          · (intro w hSw; (try dsimp only at hSw); go_simp; try with_reducible rfl)
          simp only [Act.put, List.setIfInBounds_toArray, List.set_cons_zero, List.set_cons_succ]
          refine takeT_w 12 (some 37) (v := ?_) rfl rfl (by kernel_rfl) (by kernel_rfl) (by kernel_rfl) (by kernel_rfl) (fun _ _ _ h => h) (by rfl) ?_ hHeld ?_
          rotate_left
          · (intro w hSw; (try dsimp only at hSw); go_simp; try with_reducible rfl)
          simp only [Act.put, List.setIfInBounds_toArray, List.set_cons_zero, List.set_cons_succ]
          refine takeT_w 13 (some 38) (v := ?_) rfl rfl (by kernel_rfl) (by kernel_rfl) (by kernel_rfl) (by kernel_rfl) (fun _ _ _ h => h) (by rfl) ?_ hHeld ?_
          rotate_left
          · (intro w hSw; (try dsimp only at hSw); go_simp; try with_reducible rfl)
          simp only [Act.put, List.setIfInBounds_toArray, List.set_cons_zero, List.set_cons_succ]
          refine takeT_w 14 (some 39) (v := ?_) rfl rfl (by kernel_rfl) (by kernel_rfl) (by kernel_rfl) (by kernel_rfl) (fun _ _ _ h => h) (by rfl) ?_ hHeld ?_
          rotate_left
          · (intro w hSw; (try dsimp only at hSw); go_simp; try with_reducible rfl)
          simp only [Act.put, List.setIfInBounds_toArray, List.set_cons_zero, List.set_cons_succ]
          refine takeT_w 15 (some 40) (v := ?_) rfl rfl (by kernel_rfl) (by kernel_rfl) (by kernel_rfl) (by kernel_rfl) (fun _ _ _ h => h) (by rfl) ?_ hHeld ?_
          rotate_left
          · (intro w hSw; (try dsimp only at hSw); go_simp; try with_reducible rfl)
          simp only [Act.put, List.setIfInBounds_toArray, List.set_cons_zero, List.set_cons_succ]
          refine takeT_w 16 (some 41) (v := ?_) rfl rfl (by kernel_rfl) (by kernel_rfl) (by kernel_rfl) (by kernel_rfl) (fun _ _ _ h => h) (by rfl) ?_ hHeld ?_
          rotate_left
          · (intro w hSw; (try dsimp only at hSw); go_simp; try with_reducible rfl)
          simp only [Act.put, List.setIfInBounds_toArray, List.set_cons_zero, List.set_cons_succ]
          refine takeT_w 17 (some 42) (v := ?_) rfl rfl (by kernel_rfl) (by kernel_rfl) (by kernel_rfl) (by kernel_rfl) (fun _ _ _ h => h) (by rfl) ?_ hHeld ?_
          rotate_left
          · (intro w hSw; (try dsimp only at hSw); go_simp; try with_reducible rfl)
          simp only [Act.put, List.setIfInBounds_toArray, List.set_cons_zero, List.set_cons_succ]
          refine takeT_w 18 (some 43) (v := ?_) rfl rfl (by kernel_rfl) (by kernel_rfl) (by kernel_rfl) (by kernel_rfl) (fun _ _ _ h => h) (by rfl) ?_ hHeld ?_
          rotate_left
          · (intro w hSw; (try dsimp only at hSw); go_simp; try with_reducible rfl)
          simp only [Act.put, List.setIfInBounds_toArray, List.set_cons_zero, List.set_cons_succ]
          refine takeT_w 19 (some 44) (v := ?_) rfl rfl (by kernel_rfl) (by kernel_rfl) (by kernel_rfl) (by kernel_rfl) (fun _ _ _ h => h) (by rfl) ?_ hHeld ?_
          rotate_left
          · (intro w hSw; (try dsimp only at hSw); go_simp; try with_reducible rfl)
          simp only [Act.put, List.setIfInBounds_toArray, List.set_cons_zero, List.set_cons_succ]
          refine wpAnyT_done (by kernel_rfl) ?_ _
          clear hHeld c5 c7 c8D z8D
          gi_wp2
          refine ⟨keepsO_of_fr ((FD.out.mono (by simp)).setCell (F := [g4 + 1 + 1]) (.inl (by simp)) _) (fun j hj o ho => by rw [List.mem_singleton.1 hj, show W.heap[g4 + 1 + 1]? = _ from HK6.out] at ho; cases ho; rfl), .inl ⟨rfl, ⟨pre, _, rfl, fun hh => ?_⟩⟩⟩
          intro heq
          have := congrArg Prod.fst heq
          refine e1 ?_
          simp only [HI.out.2, HY.out] at this
          exact this.symm
      case hdone =>
        intro D2 xs W hD2 hS hI hK
        subst hS
        obtain ⟨b8, F8⟩ := hI
        obtain ⟨N, hN⟩ : ∃ N, L.length = N := ⟨_, rfl⟩
        rw [pairsF_len, List.length_map, hN] at b8
        have c8 : W.cell? ⟨g8, 0, none⟩ = some (.int .i64 N) := b8.cell 0
        have c4 : W.cell? ⟨g4, 0, none⟩ = some (.pointer (some ⟨q, 0, none⟩)) := ((k4.keep_nil fL).keep F8 (by simp; omega)).cell 0
        have c5 : W.cell? ⟨g4 + 1, 0, none⟩ = some (.int .i64 most) := ((k5.keep_nil fL).keep F8 (by simp; omega)).cell 0
        have c7 : W.cell? ⟨g7, 0, none⟩ = some (.int .i64 1) := ((k7.keep_nil fL).keep F8 (by simp; omega)).cell 0
        obtain ⟨v, hxw⟩ := id hx
        have hxW := (hxw.keep_nil FL.out).keep F8 (fun i hi hm => by have := hxw.lt i hi; have := List.mem_singleton.1 hm; omega)
        have cq := hxW.c0
        have rq := hxW.row
        obtain ⟨A, cc, rfl, -, hcm, -, -, -⟩ := rq.shape
        rw [hN] at cq
        have hK1W := F8.blk (show D ∉ [g8] by simp; omega) (fL.blk (by simp) hK1)
        go_upto_region 14 with fail
        go_quiet (fail)
        have fE : Fr [] W (W.drewN nq) := (Fr.refl _ _).drewN _
        obtain ⟨wE, hwE⟩ : ∃ x, W.drewN nq = x := ⟨_, rfl⟩
        rw [hwE] at fE ⊢
        replace c7 := fE.cell (by simp) c7
        have FWE := Lib.hid ((FL.out.trans F8 (fun i hi => .inr (by have := List.mem_singleton.1 hi; omega))).trans_nil fE)
        have hKE := fE.blk (by simp) hK
        have kn4 := ((k4.keep_nil fL).keep F8 (by simp; omega)).keep_nil fE
        have kn5 := ((k5.keep_nil fL).keep F8 (by simp; omega)).keep_nil fE
        have kn6 := ((k6.keep_nil fL).keep F8 (by simp; omega)).keep_nil fE
        have fLE := (F8.trans_nil fE)
        have hDl : D2 < wE.heap.size := (Array.getElem?_eq_some_iff.1 hKE).1
        have hgE : wL.heap.size ≤ wE.heap.size := fLE.size
        clear k4 k5 k6 k7 c8 c4 c5 cq rq hxW hxw F8 hK b8
        have hK1E := fE.blk (by simp) hK1W
        go_wp2
        have k7 := Blk.new wE 3 #[.int .i64 2]
        have fA : Fr [] wE (wE.alloc (.cells #[.int .i64 2] 3)) := (Fr.refl _ _).alloc _
        obtain ⟨wt, hwr⟩ : ∃ x, wE.alloc (.cells #[.int .i64 2] 3) = x := ⟨_, rfl⟩
        rw [hwr] at k7 fA ⊢
        have k4 := kn4.keep_nil fA
        have k5 := kn5.keep_nil fA
        have k6 := kn6.keep_nil fA
        have hK2 := fA.blk (by simp) hKE
        have FW := Lib.hid (FWE.out.trans_nil fA)
        obtain ⟨g7, hg7⟩ : ∃ g, wE.heap.size = g := ⟨_, rfl⟩
        rw [hg7] at k7 hDl hgE ⊢
        have c7 : wt.cell? ⟨g7, 0, none⟩ = some (.int .i64 2) := k7.cell 0
        clear hwr hwE fE kn4 kn5 kn6 hg7 hKE
        have hKt := fA.blk (by simp) hK1E
        rw [rounds_succ]
        go_wp2_with (first
          | (go_at_call 28; refine (srtSet_nil _ _ _).mono ?_; rintro e w' ⟨rfl, rfl⟩)
          | (go_at_call 34; refine (srtClear_nil _).mono ?_; rintro e w' ⟨rfl, rfl⟩)
          | (go_at_call 30; refine (srtGet_nil _ _).mono ?_; rintro e w' ⟨rfl, rfl⟩)
          | (go_at_call 27; refine (srtAll_any _ _).mono ?_; rintro e w' ⟨rfl, rfl⟩))
        obtain ⟨kB, fB, -⟩ := box1D (wt.alloc (.cells #[.pointer none] 55)) 55 (.pointer none)
        have zB : (wt.alloc (.cells #[.pointer none] 55)).heap.size = wt.heap.size + 1 := by simp
        have fB0 : Fr [] wt (wt.alloc (.cells #[.pointer none] 55)) := (Fr.refl _ _).alloc _
        replace fB := fB0.trans_nil fB
        rw [zB] at kB
        obtain ⟨wB, hwB⟩ : ∃ x, (wt.alloc (.cells #[.pointer none] 55)).alloc (.cells #[.pointer none] 55) = x := ⟨_, rfl⟩
        rw [hwB] at kB fB ⊢
        have k6B := k6.keep_nil fB
        have hKB := fB.blk (by simp) hKt
        have hK2B := fB.blk (by simp) hK2
        have FB := Lib.hid (FW.out.trans_nil fB)
        have h7t := k7.lt
        have hBs := fB.size
        clear hwB zB fB0 k4 k5 k6 k7 c7 hKt hK2 kA
        refine (wpIn_wide (n := 5)).1 ?_
        apply wpIn_rangeFunc_ownF (hro := rfl) (h1 := by omega) (gf := 62) (lb := #[.pointer (some ⟨wt.heap.size + 1, 0, none⟩)]) (hg := rfl) (hFg := trivial) (eg := enters_of Try.func62 (by kernel_rfl) rfl) (encs := encP (fun _ => none)) (Kp := KeepC [] wB.heap.size) (hseq := srtAll1_none 4 (wt.heap.size + 1) wB (kB.cell 0) kB.lt) (hKt := keepC_t) (hKb := keepC_b (Nat.le_refl _)) (hb0 := Below.refl _ _) (hps := fun _ => rfl) (I := fun _ W => Fr [] wB W) (Ix := fun _ _ _ => False) (hI := ownFrom_fr) (hIx := fun _ _ _ _ _ h => h.elim) (h0 := Fr.refl _ _)
        case hassign =>
          intro l x W K hK
          gi_wp2
          exact hK
        case hbody =>
          intro l pre x W hI hlen
          exact absurd hlen (Nat.not_lt_zero _)
        case hstop =>
          intro D c pre W hD h
          exact h.elim
        case hdone =>
          intro D3 xs W3 hD3 hS hI hK3
          have k6W := k6B.keep_nil hI
          have c6 : W3.cell? ⟨g4 + 1 + 1, 0, none⟩ = some (.bool false) := k6W.cell 0
          have z6 := k6W.frozen 0
          have H1 := Lib.hid (hI.blk (by simp) hKB)
          have H2 := Lib.hid (hI.blk (by simp) hK2B)
          have H3 := Lib.hid hK3
          have K6 := Lib.hid k6W
          have FB3 := Lib.hid (FB.out.trans_nil hI)
          clear hKB hK2B hK3 k6B k6W hI
          go_wp2_with (first
            | (go_at_call 32; refine (srtDelete_nil _ _).mono ?_; rintro e w' ⟨rfl, rfl⟩)
            | (go_at_call 35; refine (srtLen_nil _).mono ?_; rintro e w' ⟨rfl, rfl⟩))
          obtain ⟨X, Y, Z, e3, rfl, e2, rfl, e1, rfl, eZc, eF⟩ := over_end (w := w) (u := .bool true) K6.out FB3.out H1.out H2.out H3.out (by omega) (by omega) (by omega) (by omega)
          refine ⟨by simp, .inl ⟨_, _, rfl, run_takeDeferred e3, ?_⟩⟩
          refine ⟨by simp, .inl ⟨_, _, rfl, run_takeDeferred e2, ?_⟩⟩
          refine ⟨by simp, .inl ⟨_, _, rfl, run_takeDeferred e1, ?_⟩⟩
          refine ⟨.bool true, ?_, rfl, eF⟩
          simp [results, Try.f36, go_sem, eZc]
      case hstop =>
        intro D2 c pre W hD2 hS hIx hK
        rcases hIx with ⟨rfl, hb⟩ | ⟨-, -, h10, -⟩
        · exact (BadP.no hr hS hb).elim
        · cases h10
end
end Go.Proofs.Ytdhhnioklbnicaa
