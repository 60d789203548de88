/-
  Contracts of layer 12: EncodeKeys.
-/
import Derived.Test.YtmonedfafechcaaKeysC
set_option linter.unusedSimpArgs false
set_option linter.unusedVariables false
set_option linter.unnecessarySimpa false
namespace Go.Proofs.Ytmonedfafechcaa
open Go.RowKit

section
variable {w w' : World} {p B : Nat} {v : Value}

theorem key_tg {A : Option Addr} {n c : Nat} {tg : List UInt8} : ∀ j u, (bvs tg)[j]? = some u → (keyC A n c tg).toArray[1 + j]? = some u := fun j u hu => by
  rw [List.getElem?_toArray, show 1 + j = j + 1 by omega, keyC, List.getElem?_cons_succ, hu]

set_option maxRecDepth 100000 in
set_option maxHeartbeats 2000000 in
theorem encKeys1_ok (h : Wrt w p B v 512 false []) {A : Option Addr} {n c : Nat} {es : List EpM} {tg : List UInt8} (hK : KOk w A n c es tg) (hr : rightB es = true) (hC : ∀ g o, A = some ⟨g, o, none⟩ → es ≠ [] → g ≠ p ∧ v.ownBlock ≠ some g) {gk : Nat} (hb : Blk w gk 68 (keyC A n c tg).toArray) :
    Calls Try.prog 70 #[.pointer (some ⟨p, 0, none⟩), .pointer (some ⟨gk, 0, none⟩)] w fun r w' => r = .returned (.tuple #[]) ∧ WPost w w' p B v 512 (sealB es ++ tg) := by
  have HN := Lib.hid hK.len
  have HR := Lib.hid hr
  have hlen := sealB_len hK.each
  rw [HN.out] at hlen
  have h12 := (right_fit hr hK.each).1
  rw [HN.out] at h12
  have n2 : n ≤ 2 := by omega
  have hpg : gk ≠ p := hb.ne_ h.1 (by decide)
  have HL := Lib.hid hlen
  clear hlen h12 hr
  go_enter Try.func70, Try.ntmps70
  go_wp2_with
    (first
      | (refine wpList_ldS stKeys rfl rfl gk 0 rfl (keyC A n c tg) (keyC_len _ _ _ hK.tg) hb.range0 ?_))
  refine (seal12_ok h hK HR.out hC (by omega)).mono ?_
  rintro e w1 ⟨rfl, x1⟩
  have b1 := x1.blk h hb (by decide) (by decide)
  obtain ⟨v1, h1, f1, g1⟩ := x1
  go_wp2_with fail
  refine (wBytes_ok h1 _ 32 32 tg hK.tg (Rd.of_blk b1 _ _ key_tg) (by simp) (fun g o e _ => by cases e; exact hpg) (by rw [HL.out]; omega)).mono ?_
  rintro e w2 ⟨rfl, x2⟩
  have y2 := WPost.trans f1 g1 x2
  go_wp2_with fail
  go_returns
  exact ⟨rfl, y2⟩
set_option maxHeartbeats 1000000 in
theorem sBlock_encKeys1 (w : World) (g : Nat) (q : List UInt8) (hq : q.length ≤ 512) (hc : ∀ w1 p B v, Fr [] w w1 → w.heap.size ≤ p → w.heap.size ≤ B → Wrt w1 p B v 512 false [] → Calls Try.prog 70 #[.pointer (some ⟨p, 0, none⟩), .pointer (some ⟨g, 0, none⟩)] w1 fun e w' => e = .returned (.tuple #[]) ∧ WPost w1 w' p B v 512 q) :
    Calls Try.prog 64 #[.func (.func 70) #[] #[.pointer (some ⟨g, 0, none⟩)]] w fun e w' => ∃ r, e = .returned (.tuple #[r, .int .i64 0]) ∧ Row w' w.heap.size 5 1 r 512 (bvs (q ++ List.replicate (512 - q.length) 0)) ∧ Fr [] w w' := by
  go_enter Try.func64, Try.ntmps64
  go_wp2_with fail
  have cc := newWriter_any 512 w
  rw [show sizeN 512 = 512 from rfl] at cc
  refine cc.mono ?_
  clear cc
  rintro e w1 ⟨rfl, h1, f1, z1⟩
  go_wp2_with fail
  refine (hc w1 _ _ _ f1 (Nat.le_refl _) (Nat.le_refl _) h1).mono ?_
  rintro e w2 ⟨rfl, v2, h2, f2, g2⟩
  have F2 : Fr [] w w2 := f1.trans f2 (fun i hi => by
    rcases List.mem_cons.1 hi with rfl | hi
    · exact .inr (Nat.le_refl _)
    · exact (own_nil.1 hi).elim)
  go_wp2_with fail
  refine (wDone_ok h2).mono ?_
  rintro e w3 ⟨r, rfl, h3, f3⟩
  go_wp2_with fail
  go_ret2
  exact ⟨r, rfl, h3.mono F2.size, F2.trans_nil f3⟩

theorem keyBytes_eq {es : List EpM} {tg : List UInt8} (h : ∀ e ∈ es, e.ok) (ht : tg.length = 32) : keyBytes es tg = sealB es ++ tg ++ List.replicate (512 - (sealB es ++ tg).length) 0 := by
  rw [keyBytes, List.length_append, sealB_len h, ht]
  congr 2
  omega
theorem keyBytes_len {es : List EpM} {tg : List UInt8} (h : ∀ e ∈ es, e.ok) (ht : tg.length = 32) (hl : es.length ≤ 2) : (keyBytes es tg).length = 512 := by
  rw [keyBytes, List.length_append, List.length_append, List.length_replicate, sealB_len h, ht]
  omega

set_option maxRecDepth 100000 in
set_option maxHeartbeats 2000000 in
theorem encKeys_any (w : World) {A : Option Addr} {n c : Nat} {es : List EpM} {tg : List UInt8} (hK : KOk w A n c es tg) :
    Calls Try.prog 44 #[.agg (keyC A n c tg).toArray] w (EncK w es (keyBytes es tg)) := by
  cases hr : rightB es
  · have HR := Lib.hid hr
    clear hr
    go_enter Try.func44, Try.ntmps44
    go_wp2_with
      (first
        | (refine wpList_boxS rfl rfl (keyC A n c tg) rfl ?_; intro wb hb fb zb; have ZB := Lib.hid zb; clear zb; have c0 := hb.cell 0; (rw [show (keyC A n c tg).toArray[0]? = some (.slice A n c) from rfl] at c0))
        | (refine wpList_ldS stKeys rfl rfl w.heap.size 0 rfl (keyC A n c tg) (keyC_len _ _ _ hK.tg) hb.range0 ?_))
    have cc := right_any wb (hK.keep_nil fb)
    rw [HR.out] at cc
    refine cc.mono ?_
    clear cc
    rintro e w1 ⟨rfl, f1⟩
    go_wp2_with fail
    go_ret2
    exact ⟨_, by rw [HR.out]; rfl, by rw [HR.out]; exact Row.nil _ _ _ _, fb.trans_nil f1⟩
  · have HR := Lib.hid hr
    obtain ⟨h12, hfit⟩ := right_fit hr hK.each
    have HN := Lib.hid hK.len
    have n2 : n ≤ 2 := by rw [HN.out] at h12; omega
    have hl2 : es.length ≤ 2 := by omega
    have HL2 := Lib.hid hl2
    clear hr h12 hl2
    go_enter Try.func44, Try.ntmps44
    go_wp2_with
      (first
        | (refine wpList_boxS rfl rfl (keyC A n c tg) rfl ?_; intro wb hb fb zb; have ZB := Lib.hid zb; clear zb; have c0 := hb.cell 0; (rw [show (keyC A n c tg).toArray[0]? = some (.slice A n c) from rfl] at c0))
        | (refine wpList_ldS stKeys rfl rfl w.heap.size 0 rfl (keyC A n c tg) (keyC_len _ _ _ hK.tg) hb.range0 ?_))
    have cc := right_any wb (hK.keep_nil fb)
    rw [HR.out] at cc
    refine cc.mono ?_
    clear cc
    rintro e w1 ⟨rfl, f1⟩
    have b1 := hb.keep_nil f1
    have F1 := fb.trans_nil f1
    clear c0 hb
    go_wp2_with fail
    have hq : (sealB es ++ tg).length ≤ 512 := by rw [List.length_append, sealB_len hK.each, hK.tg]; have := HL2.out; omega
    refine (sBlock_encKeys1 w1 w.heap.size (sealB es ++ tg) hq (fun w2 p B v f hp hB h => encKeys1_ok h (hK.keep_nil (F1.trans_nil f)) HR.out (fun g o e hne => ?_) (b1.keep_nil f))).mono ?_
    · have hgw := hK.blk g o e hne
      have := F1.size
      exact ⟨by omega, fun hv => by have := (h.vlt g hv).1; omega⟩
    rintro e w3 ⟨r, rfl, h4, f4⟩
    go_wp2_with fail
    go_ret2
    refine ⟨r, by rw [HR.out]; rfl, ?_, F1.trans_nil f4⟩
    rw [HR.out, if_pos rfl, if_pos rfl, keyBytes_len hK.each hK.tg HL2.out, keyBytes_eq hK.each hK.tg]
    exact h4.mono F1.size
end
end Go.Proofs.Ytmonedfafechcaa
