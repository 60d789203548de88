/-
  Contracts of layer 12: seal, Sealed, EncodeKeys.
-/
import Derived.Test.YtmonedfafechcaaKeysB
set_option linter.unusedSimpArgs false
set_option linter.unusedVariables false
set_option linter.unnecessarySimpa false
namespace Go.Proofs.Ytmonedfafechcaa
open Go.RowKit

theorem sealB_len {es : List EpM} (h : ∀ e ∈ es, e.ok) : (sealB es).length = 5 + 68 * es.length := by
  rw [sealB, List.length_append, encEs_len h]; rfl

section
variable {w w' : World} {p B : Nat} {v : Value} {size : Nat}

set_option maxRecDepth 100000 in
set_option maxHeartbeats 2000000 in
theorem seal12_ok (h : Wrt w p B v size false []) {A : Option Addr} {n c : Nat} {es : List EpM} {tg : List UInt8} (hK : KOk w A n c es tg) (hr : rightB es = true) (hC : ∀ g o, A = some ⟨g, o, none⟩ → es ≠ [] → g ≠ p ∧ v.ownBlock ≠ some g) (hs : 5 + 68 * n ≤ size) :
    Calls Try.prog 71 #[.pointer (some ⟨p, 0, none⟩), .agg (keyC A n c tg).toArray] w fun r w' => r = .returned (.tuple #[]) ∧ WPost w w' p B v size (sealB es) := by
  obtain ⟨h12, hfit⟩ := right_fit hr hK.each
  have HN := Lib.hid hK.len
  have h12' : n = 1 ∨ n = 2 := by rw [HN.out] at h12; exact h12
  clear h12 hr
  have kc := fun (w : World) (C : Array Value) (n c : Nat) => Lib.run_convert_bytes_const (P := Try.prog) w 22 5 C n c Try.underlying22 Try.underlying5
  have n2 : n ≤ 2 := by omega
  have hw : IntKind.u64.wrap (n : Int) = n := IntWalk.u64_in _ (by omega)
  go_enter Try.func71, Try.ntmps71
  go_wp2_with
    (first
      | (refine wpList_boxS rfl rfl (keyC A n c tg) rfl ?_; intro wb hb fb zb; have ZB := Lib.hid zb; clear zb; obtain ⟨gk, hgk⟩ : ∃ gk, w.heap.size = gk := ⟨_, rfl⟩; rw [hgk] at hb; rw [hgk]; have HGK := Lib.hid hgk; clear hgk))
  have ra := Rd.mark wb markK 5 (4, 5)
  have fa : Fr [] w (wb.alloc (.cells (bvs markK).toArray 5 (4, 5))) := fb.alloc _
  have hb1 := hb.keep_nil ((Fr.refl _ wb).alloc (.cells (bvs markK).toArray 5 (4, 5)))
  refine (wBytes_ok (h.keep_nil fa) _ 4 4 markK rfl ra (by simp) (fun g o e _ => by cases e; have := h.lt; have := fb.size; omega) (by simp; omega)).mono ?_
  rintro e w1 ⟨rfl, x1⟩
  have b1 := x1.blk (h.keep_nil fa) hb1 (by decide) (by decide)
  obtain ⟨v1, h1, f1, g1⟩ := WPost.trans (fa.mono (by simp)) (fun g hg => .inl hg) x1
  clear x1 ra fa hb1 hb kc
  have c1 := b1.cell 0
  rw [show (keyC A n c tg).toArray[0]? = some (.slice A n c) from rfl] at c1
  rw [List.nil_append] at h1
  go_wp2_with fail
  refine (wUint_ok h1 1 n rfl (by omega) (by omega) (by rw [show markK.length = 4 from rfl]; omega)).mono ?_
  rintro e w2 ⟨rfl, x2⟩
  have b2 := x2.blk h1 b1 (by decide) (by decide)
  obtain ⟨v2, h2, f2, g2⟩ := WPost.trans f1 g1 x2
  have hl2 : (markK ++ leB 1 n).length = 5 := by rw [List.length_append, leB_length]; rfl
  have c2 := b2.cell 0
  rw [show (keyC A n c tg).toArray[0]? = some (.slice A n c) from rfl] at c2
  clear x2 b1 c1 f1 g1 h1
  go_wp2_with fail
  refine (putE_ok h2 (hK.keep f2 (fun g o e hne hm => ?_)) hfit (fun g o e hne => ⟨(hC g o e hne).1, fun hv => ?_⟩) (by omega) (by omega)).mono ?_
  · rcases List.mem_cons.1 hm with e1 | hm
    · exact (hC g o e hne).1 e1
    · exact (hC g o e hne).2 (mem_own.1 hm)
  · rcases g2 g hv with e1 | e1
    · exact (hC g o e hne).2 e1
    · have := hK.blk g o e hne; omega
  rintro e w3 ⟨rfl, x3⟩
  have y3 := WPost.trans f2 g2 x3
  go_wp2_with fail
  go_returns
  refine ⟨rfl, ?_⟩
  have e1 : sealB es = markK ++ leB 1 n ++ encEs es := by
    rw [sealB, HN.out]
    congr 2
    have : n % 256 = n := by omega
    simp [leB, List.range_succ, this]
  rw [e1]
  exact y3
end

/-- Sealed, EncodeKeys: what comes of keys. -/
def keyBytes (es : List EpM) (tg : List UInt8) : List UInt8 := sealB es ++ tg ++ List.replicate (475 - 68 * es.length) 0
def EncK (w : World) (es : List EpM) (q : List UInt8) (e : Ending) (w' : World) : Prop :=
  ∃ v, e = .returned (.tuple #[v, .int .i64 (if rightB es then 0 else 1)]) ∧ Row w' w.heap.size 5 1 v (if rightB es then q.length else 0) (bvs (if rightB es then q else [])) ∧ Fr [] w w'

set_option maxRecDepth 100000 in
set_option maxHeartbeats 2000000 in
theorem sealed_any (w : World) {A : Option Addr} {n c : Nat} {es : List EpM} {tg : List UInt8} (hK : KOk w A n c es tg) :
    Calls Try.prog 46 #[.agg (keyC A n c tg).toArray] w (EncK w es (sealB es)) := by
  cases hr : rightB es
  · have HR := Lib.hid hr
    clear hr
    go_enter Try.func46, Try.ntmps46
    go_wp2_with
      (first
        | (refine wpList_boxS rfl rfl (keyC A n c tg) rfl ?_; intro wb hb fb zb; have ZB := Lib.hid zb; clear zb; have c0 := hb.cell 0; (rw [show (keyC A n c tg).toArray[0]? = some (.slice A n c) from rfl] at c0))
        | (refine wpList_ldS stKeys rfl rfl w.heap.size 0 rfl (keyC A n c tg) (keyC_len _ _ _ hK.tg) hb.range0 ?_))
    have cc := right_any wb (hK.keep_nil fb)
    rw [HR.out] at cc
    refine cc.mono ?_
    clear cc
    rintro e w1 ⟨rfl, f1⟩
    go_wp2_with fail
    go_ret2
    exact ⟨_, by rw [HR.out]; rfl, by rw [HR.out]; exact Row.nil _ _ _ _, fb.trans_nil f1⟩
  · have HR := Lib.hid hr
    obtain ⟨h12, hfit⟩ := right_fit hr hK.each
    have HN := Lib.hid hK.len
    have n2 : n ≤ 2 := by rw [HN.out] at h12; omega
    clear hr h12
    go_enter Try.func46, Try.ntmps46
    go_wp2_with
      (first
        | (refine wpList_boxS rfl rfl (keyC A n c tg) rfl ?_; intro wb hb fb zb; have ZB := Lib.hid zb; clear zb; have c0 := hb.cell 0; (rw [show (keyC A n c tg).toArray[0]? = some (.slice A n c) from rfl] at c0))
        | (refine wpList_ldS stKeys rfl rfl w.heap.size 0 rfl (keyC A n c tg) (keyC_len _ _ _ hK.tg) hb.range0 ?_))
    have cc := right_any wb (hK.keep_nil fb)
    rw [HR.out] at cc
    refine cc.mono ?_
    clear cc
    rintro e w1 ⟨rfl, f1⟩
    have b1 := hb.keep_nil f1
    have F1 := fb.trans_nil f1
    have c1 := b1.cell 0
    rw [show (keyC A n c tg).toArray[0]? = some (.slice A n c) from rfl] at c1
    clear c0 hb
    go_wp2_with fail
    have cc := newWriter_any (5 + (n : Int) * 68) w1
    rw [show sizeN (5 + (n : Int) * 68) = 5 + 68 * n by unfold sizeN; rw [if_neg (by omega)]; omega] at cc
    refine cc.mono ?_
    clear cc
    rintro e w2 ⟨rfl, h2, f2, z2⟩
    have F2 := F1.trans_nil f2
    have b2 := b1.keep_nil f2
    go_wp2_with
      (first
        | (refine wpList_ldS stKeys rfl rfl w.heap.size 0 rfl (keyC A n c tg) (keyC_len _ _ _ hK.tg) b2.range0 ?_))
    refine (seal12_ok h2 (hK.keep_nil F2) HR.out (fun g o e hne => ⟨by have := hK.blk g o e hne; have := F1.size; omega, by simp [Value.ownBlock]⟩) (Nat.le_refl _)).mono ?_
    rintro e w3 ⟨rfl, v3, h3, f3, g3⟩
    have F3 : Fr [] w w3 := F2.trans f3 (fun i hi => by
      rcases List.mem_cons.1 hi with rfl | hi
      · exact .inr F1.size
      · exact (own_nil.1 hi).elim)
    go_wp2_with fail
    refine (wDone_ok h3).mono ?_
    rintro e w4 ⟨r, rfl, h4, f4⟩
    go_wp2_with fail
    go_ret2
    have hlen := sealB_len hK.each
    rw [HN.out] at hlen
    rw [hlen, Nat.sub_self, List.replicate_zero, List.append_nil] at h4
    refine ⟨r, by rw [HR.out]; rfl, ?_, F3.trans_nil f4⟩
    rw [HR.out, if_pos rfl, if_pos rfl, hlen]
    exact h4.mono F3.size
end Go.Proofs.Ytmonedfafechcaa
