/-
  Contracts of layer 12: Get of epochs, and what it calls.
-/
import Derived.Test.YtmonedfafechcaaKeysE
import Derived.Test.YtmonedfafechcaaSlotD
set_option linter.unusedSimpArgs false
set_option linter.unusedVariables false
set_option linter.unnecessarySimpa false
namespace Go.Proofs.Ytmonedfafechcaa
open Go.RowKit

def epOf (l : List UInt8) : EpM := ⟨leN (l.take 4), (l.drop 4).take 64⟩
theorem epOf_ok {l : List UInt8} (h : 68 ≤ l.length) : (epOf l).fit := by
  have := leN_take_lt l 4
  have h2 : (256 : Nat) ^ 4 = 4294967296 := by decide
  exact ⟨⟨by simp only [epOf]; omega, by simp only [epOf]; omega, by simp only [epOf, List.length_take, List.length_drop]; omega⟩, by simp only [epOf]; omega, by simp only [epOf]; omega⟩
def epsOf (l : List UInt8) (n : Nat) : List EpM := (List.range n).map fun i => epOf (l.drop (68 * i))
theorem epsOf_length (l : List UInt8) (n : Nat) : (epsOf l n).length = n := by simp [epsOf]
theorem epsOf_succ (l : List UInt8) (n : Nat) : epsOf l (n + 1) = epsOf l n ++ [epOf (l.drop (68 * n))] := by simp [epsOf, List.range_succ]
theorem epsOf_fit {l : List UInt8} {n : Nat} (h : 68 * n ≤ l.length) : ∀ e ∈ epsOf l n, e.fit := by
  intro e he
  obtain ⟨i, hi, rfl⟩ := List.mem_map.1 he
  have := List.mem_range.1 hi
  exact epOf_ok (by rw [List.length_drop]; omega)

set_option maxRecDepth 100000 in
theorem epBuild (y : Int) (w : World) : (Instr.build 102 #[(0, .int .i64 y)]).run Try.prog w = .ok (.agg (⟨y, List.replicate 64 0⟩ : EpM).cells.toArray) w := by kernel_rfl
theorem set_ep {e : EpM} (h : e.ok) (q : List UInt8) (hq : q.length = 64) : (e.cells.toArray.toList.take 1 ++ bvs q ++ e.cells.toArray.toList.drop (1 + (bvs q).length)).toArray = ({ e with wr := q } : EpM).cells.toArray := by
  have e1 : e.cells.toArray.toList.take 1 = [.int .i64 e.ep] := rfl
  have e2 : e.cells.toArray.toList.drop (1 + (bvs q).length) = [] := List.drop_of_length_le (by rw [bvs_length, hq]; show e.cells.length ≤ _; rw [EpM.len h]; omega)
  rw [e1, e2, List.append_nil]
  rfl
def epY (y : Int) : EpM := ⟨y, List.replicate 64 0⟩

section
variable {w w' : World} {p : Nat} {G : List Nat} {l : List UInt8}
set_option maxRecDepth 100000 in
set_option maxHeartbeats 2000000 in
theorem decKeys1_ok (h : Rdr 95 w p G l false) (hl : 68 ≤ l.length) (hG : ∀ g ∈ G, g < w.heap.size) :
    Calls Try.prog 68 #[.pointer (some ⟨p, 0, none⟩)] w fun e w' => e = .returned (.agg (epOf l).cells.toArray) ∧ Rdr 95 w' p G (l.drop 68) false ∧ Fr [p] w w' := by
  have hp := h.lt
  have hl4 := leN_take_lt l 4
  rw [show (256 : Nat) ^ 4 = 4294967296 by decide] at hl4
  have he : epOf l = ⟨leN (l.take 4), (l.drop 4).take 64⟩ := rfl
  have HE := Lib.hid he
  clear he
  go_enter Try.func68, Try.ntmps68
  go_wp2_with
    (first
      | (refine wpList_alS stEp rfl rfl ?_; intro wb hb fb zb; have ZB := Lib.hid zb; clear zb))
  have cc := rUint_ok (h.keep fb (by simp) (by simp)) 4 (by omega) rfl
  generalize leN (l.take 4) = y at *
  have hw : IntKind.i64.wrap (y : Int) = y := IntWalk.i64_in _ (by omega)
  have oky : (epY y).ok := ⟨by simp only [epY]; omega, by simp only [epY]; omega, rfl⟩
  refine cc.mono ?_
  clear cc
  rintro e w1 ⟨rfl, h1, f1⟩
  have b1 := hb.keep f1 (by simp; omega)
  have F1 := fb.nil.trans f1 (fun i hi => .inl hi)
  go_wp2_with
    (first
      | (refine wpList_bld rfl rfl (.agg (epY y).cells.toArray) ?_ ?_; exact epBuild y _)
      | (refine wpList_alS stEp rfl rfl ?_; intro w2 b2 f2 z2; have Z2 := Lib.hid z2; clear z2; obtain ⟨gs, hgs⟩ : ∃ gs, w1.heap.size = gs := ⟨_, rfl⟩; rw [hgs] at b2; rw [hgs]; have HGS := Lib.hid hgs; clear hgs)
      | (refine wpList_stB stEp rfl rfl gs rfl (epY y).cells rfl (EpM.len oky) (epY y).ones zeroE.cells (EpM.len ⟨by decide, by decide, rfl⟩) b2 ?_; intro w3 b3 f3 z3; have Z3 := Lib.hid z3; clear z3))
  have gw : w.heap.size < gs := by have := HGS.out; have := b1.lt; omega
  have o3 := (b1.keep_nil f2).keep f3 (by simp; omega)
  have x3 := (h1.keep f2 (by simp) (by simp)).keep f3 (by simp; omega) (fun g hg => by have := hG g hg; simp; omega)
  have F3 : Fr [p] w w3 := (F1.trans_nil f2).trans f3 (fun i hi => .inr (by simp at hi; omega))
  clear h1 b1 hb b2
  try simp only [Act.put, List.setIfInBounds_toArray, List.set_cons_zero, List.set_cons_succ]
  refine wp_region_held_drew (S := fun _ => True) (by kernel_rfl) trivial (fun hHeld => ?_)
  refine take_w 0 (some 8) (v := ?_) rfl rfl (by kernel_rfl) (by kernel_rfl) (by kernel_rfl) (fun _ _ _ h => h) (by rfl) ?_ hHeld ?_
  rotate_left
  · (intro w hSw; (try dsimp only at hSw); go_simp; try with_reducible rfl)
  simp only [Act.put, List.setIfInBounds_toArray, List.set_cons_zero, List.set_cons_succ]
  refine take_w 1 (some 9) (v := ?_) rfl rfl (by kernel_rfl) (by kernel_rfl) (by kernel_rfl) (fun _ _ _ h => h) (by rfl) ?_ hHeld ?_
  rotate_left
  · (intro w hSw; (try dsimp only at hSw); go_simp; try with_reducible rfl)
  simp only [Act.put, List.setIfInBounds_toArray, List.set_cons_zero, List.set_cons_succ]
  refine take_w 2 (some 10) (v := ?_) rfl rfl (by kernel_rfl) (by kernel_rfl) (by kernel_rfl) (fun _ _ _ h => h) (by rfl) ?_ hHeld ?_
  rotate_left
  · (intro w hSw; (try dsimp only at hSw); go_simp; try with_reducible rfl)
  simp only [Act.put, List.setIfInBounds_toArray, List.set_cons_zero, List.set_cons_succ]
  refine take_c 3 rfl (by kernel_rfl) (by rfl) (fun K hK => ?_)
  go_simp
  refine (rBytes_ok (x3.keep ((Fr.refl [] _).drew) (by simp) (by simp)) 64 (by rw [List.length_drop]; omega)).mono ?_
  rintro e w7 ⟨v7, rfl, r7, x7, f7⟩
  obtain ⟨A7, cap7, rfl, -, -, rd7, -, -⟩ := r7.shape
  have F7 := F3.drew.trans f7 (fun i hi => .inl hi)
  have k7 : Blk w7 gs 102 (epY y).cells.toArray := (b3.keep_nil ((Fr.refl _ _).drew)).keep f7 (by simp; omega)
  have o7 := (o3.keep_nil ((Fr.refl _ _).drew)).keep f7 (by simp; omega)
  refine hK.out _ _ trivial (fun hHeld => ?_)
  clear hK K
  try simp only [Act.put, List.setIfInBounds_toArray, List.set_cons_zero, List.set_cons_succ]
  refine take_cd 4 (some 12) rfl rfl (by kernel_rfl) (by rfl) (fun K hK => wp_cp rfl Try.underlying22 (by kernel_rfl) _ _ 64 64 64 cap7 rfl rfl (bvs ((l.drop 4).take 64)) (by rw [bvs_length, List.length_take, List.length_drop]; show _ = min 64 64; omega) rd7 (bvs_one _) gs 1 (fun _ => rfl) (epY y).cells.toArray 102 (0, 0) k7 (free_zero _) (by rw [bvs_length, List.length_take, List.length_drop, List.size_toArray, EpM.len oky]; omega) fun w8 c1 c2 => hK _ w8 trivial fun hHeld => ?_)
  clear hK K
  try simp only [Act.put, List.setIfInBounds_toArray, List.set_cons_zero, List.set_cons_succ]
  refine wpAnyH_done (by kernel_rfl) ?_ _
  have k8 : Blk w8 gs 102 _ := c1
  rw [set_ep oky _ (by rw [List.length_take, List.length_drop]; omega)] at k8
  have x8 := x7.keep c2 (by simp; omega) (fun g hg => by have := hG g hg; simp; omega)
  have o8 := o7.keep c2 (by simp; omega)
  have F8 := F7.trans c2 (fun i hi => .inr (by simp at hi; omega))
  rw [List.drop_drop] at x8
  have ok8 : ({ epY y with wr := (l.drop 4).take 64 } : EpM).ok := ⟨oky.lo, oky.hi, by rw [List.length_take, List.length_drop]; omega⟩
  clear k7 o7 x7 F7 c1 c2 rd7 r7
  go_wp2_with
    (first
      | (refine wpList_ldS stEp rfl rfl gs 0 rfl ({ epY y with wr := (l.drop 4).take 64 } : EpM).cells (EpM.len ok8) k8.range0 ?_)
      | (refine wpList_stB stEp rfl rfl w.heap.size rfl ({ epY y with wr := (l.drop 4).take 64 } : EpM).cells rfl (EpM.len ok8) (EpM.ones _) zeroE.cells (EpM.len ⟨by decide, by decide, rfl⟩) o8 ?_; intro wc hc fc zc))
  try simp only [Exit.inBlock, Exit.then]
  refine bodyPost_ret (results_cell stEp rfl rfl (EpM.len ok8) hc) rfl ?_
  refine ⟨by rw [HE.out]; rfl, x8.keep fc (by simp; omega) (fun g hg => by have := hG g hg; simp; omega), F8.trans fc (fun i hi => .inr (by simp at hi; omega))⟩
theorem rdr_bad_set' {T : TypeId} {bad : Bool} (h : Rdr T w p G l bad) : w.cell? ⟨p, 1, none⟩ = some (.bool bad) ∧ w.frozen? ⟨p, 1, none⟩ = false := by
  obtain ⟨A, c, h1, _⟩ := h
  exact ⟨by have := h1.cell 1; simpa using this, h1.frozen 1⟩
end
end Go.Proofs.Ytmonedfafechcaa
