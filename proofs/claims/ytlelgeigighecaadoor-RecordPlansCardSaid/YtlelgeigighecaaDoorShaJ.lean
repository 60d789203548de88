/-
  SHA-256: Sum and its reference.
-/
import Derived.Test.YtlelgeigighecaaDoorShaI
set_option linter.unusedSimpArgs false
set_option linter.unusedVariables false
set_option linter.unnecessarySimpa false
namespace Go.Proofs.YtlelgeigighecaaDoor
open Go.RowKit

set_option maxRecDepth 100000 in
set_option maxHeartbeats 1000000 in
theorem sum_any (A : Option Addr) (l : List UInt8) (n c : Nat) (w : World) (hn : l.length = n) (hr : Rd w A (bvs l)) (hA : A = none → n = 0) (hN : n ≤ 140737488355200) (hK : KG w) :
    Calls Tryd.prog 42 #[.slice A n c] w fun e w' => e = .returned (.agg (bvs (shaSum l)).toArray) ∧ Fr [] w w' := by
  have p0 := hK.pos
  have HN := Lib.hid hn
  clear hn
  go_enter Tryd.func42, Tryd.ntmps42
  go_wp2_with
    (first
      | (refine wpList_alS stA32 (o := ⟨some 2, _, _, _, _, _⟩) rfl rfl ?_; intro w1 h1 f1 z1; have Z1 := Lib.hid z1; clear z1; obtain ⟨g1, hg1⟩ : ∃ g1, w.heap.size = g1 := ⟨_, rfl⟩; rw [hg1] at h1; rw [hg1]; have HG1 := Lib.hid hg1; clear hg1))
  have G1 : w.heap.size = g1 := HG1.out
  refine (newHash_any w1).mono ?_
  rintro e w2 ⟨g, rfl, hg, hh, f2⟩
  have s1 := h1.lt
  have F2 := f1.trans_nil f2
  have i1 := h1.keep_nil f2
  go_wp2_with fail
  have hgl := hh.blk.lt
  have cc := hWrite_any hh A n c l HN.out (hr.keep_nil F2) hA (fun g' o e hne => by
    obtain ⟨g2, o2, e2, h2⟩ := hr.lt (by intro h0; apply hne; simpa [bvs] using h0)
    rw [e] at e2
    cases e2
    have := F2.size
    have := f1.size
    omega) (by simp; omega) (hK.keep F2) (by omega) (by omega)
  refine cc.mono ?_
  clear cc
  rintro e w3 ⟨rfl, v3, h3, f3, -⟩
  rw [List.nil_append] at h3
  have F3 : Fr [] w w3 := F2.trans f3 (fun i hi => .inr (by
    rcases List.mem_cons.1 hi with rfl | hi
    · have := f1.size; omega
    · exact absurd hi (by simp [Value.ownBlock])))
  have i3 := i1.keep f3 (fun hi => by
    rcases List.mem_cons.1 hi with rfl | hi
    · omega
    · exact absurd hi (by simp [Value.ownBlock]))
  go_wp2_with fail
  refine (hSum_any h3 (by rw [HN.out]; omega) (hK.keep F3)).mono ?_
  rintro e w4 ⟨rfl, f4⟩
  have i4 := i3.keep_nil f4
  have hl := shaSum_length l
  have HL := Lib.hid hl
  clear hl
  obtain ⟨q, hq⟩ : ∃ q, shaSum l = q := ⟨_, rfl⟩
  rw [hq] at HL ⊢
  have HQ := Lib.hid (fun _ : Unit => hq)
  clear hq
  go_wp2_with
    (first
      | (refine wpList_stB stA32 rfl rfl g1 rfl (bvs q) rfl (by rw [bvs_length, HL.out]) (bvs_one _) (bvs (zB 32)) rfl i4 ?_; intro wc hc fc zc))
  try simp only [Exit.inBlock, Exit.then]
  refine bodyPost_ret (results_cell stA32 rfl rfl (by rw [bvs_length, HL.out]) hc) rfl ?_
  exact ⟨by rw [HQ.out ()], (F3.trans_nil f4).trans fc (fun i hi => .inr (by simp at hi; omega))⟩
end Go.Proofs.YtlelgeigighecaaDoor
