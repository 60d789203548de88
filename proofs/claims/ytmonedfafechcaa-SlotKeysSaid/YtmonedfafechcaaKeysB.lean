/-
  Contracts of layer 12: seal, and what it calls.
-/
import Derived.Test.YtmonedfafechcaaKeysA
set_option linter.unusedSimpArgs false
set_option linter.unusedVariables false
set_option linter.unnecessarySimpa false
namespace Go.Proofs.Ytmonedfafechcaa
open Go.RowKit

def markK : List UInt8 := [75, 69, 89, 83]
def encE (e : EpM) : List UInt8 := leB 4 e.ep.toNat ++ e.wr
def encEs (es : List EpM) : List UInt8 := es.flatMap encE
def sealB (es : List EpM) : List UInt8 := markK ++ [UInt8.ofNat es.length] ++ encEs es
structure EpM.fit (e : EpM) : Prop where
  ok : e.ok
  lo : 0 ≤ e.ep
  hi : e.ep ≤ 4294967295
theorem encE_len {e : EpM} (h : e.ok) : (encE e).length = 68 := by rw [encE, List.length_append, leB_length, h.wr]
theorem encEs_len : ∀ {es : List EpM}, (∀ e ∈ es, e.ok) → (encEs es).length = 68 * es.length
  | [], _ => rfl
  | e :: r, h => by
    show (encE e ++ encEs r).length = _
    rw [List.length_append, encE_len (h e (by simp)), encEs_len (fun x hx => h x (by simp [hx])), List.length_cons]; omega
theorem encEs_take_succ {es : List EpM} {k : Nat} (hk : k < es.length) : encEs (es.take (k + 1)) = encEs (es.take k) ++ encE es[k] := by
  rw [List.take_succ_eq_append_getElem hk, encEs, List.flatMap_append]
  simp [encEs]
theorem right_fit {es : List EpM} (hr : rightB es = true) (h : ∀ e ∈ es, e.ok) : (es.length = 1 ∨ es.length = 2) ∧ ∀ e ∈ es, e.fit := by
  match es, hr with
  | [a], hr =>
    have := of_decide_eq_true hr
    exact ⟨.inl rfl, fun e he => by rw [List.mem_singleton.1 he]; exact ⟨h a (by simp), by omega, by omega⟩⟩
  | [a, b], hr =>
    have := of_decide_eq_true hr
    refine ⟨.inr rfl, fun e he => ?_⟩
    simp at he
    rcases he with rfl | rfl
    · exact ⟨h e (by simp), by omega, by omega⟩
    · exact ⟨h e (by simp), by omega, by omega⟩

section
variable {w w' : World} {p B : Nat} {v : Value} {size : Nat} {l : List UInt8}

theorem ep_get {e : EpM} (h : e.ok) : ∀ j u, (bvs e.wr)[j]? = some u → e.cells.toArray[1 + j]? = some u := fun j u hu => by
  rw [List.getElem?_toArray, show 1 + j = j + 1 by omega, EpM.cells, List.getElem?_cons_succ, hu]

set_option maxRecDepth 100000 in
set_option maxHeartbeats 1000000 in
theorem seal121_ok (h : Wrt w p B v size false l) {e : EpM} (he : e.fit) (hl : l.length + 68 ≤ size) :
    Calls Try.prog 79 #[.pointer (some ⟨p, 0, none⟩), .agg e.cells.toArray] w fun r w' => r = .returned (.tuple #[]) ∧ WPost w w' p B v size (l ++ encE e) := by
  obtain ⟨x, hx⟩ := Int.eq_ofNat_of_zero_le he.lo
  have hx2 := he.hi
  rw [hx] at hx2
  have HX := Lib.hid hx
  have hw : IntKind.u64.wrap (x : Int) = x := IntWalk.u64_in _ (by omega)
  clear hx
  go_enter Try.func79, Try.ntmps79
  go_wp2_with
    (first
      | (refine wpList_boxS rfl rfl e.cells rfl ?_; intro wb hb fb zb; have ZB := Lib.hid zb; clear zb; obtain ⟨g, hg⟩ : ∃ g, w.heap.size = g := ⟨_, rfl⟩; rw [hg] at hb; rw [hg]; have HGG := Lib.hid hg; clear hg; have c0 := hb.cell 0; (rw [show e.cells.toArray[0]? = some (.int .i64 e.ep) from rfl, HX.out] at c0); have h1 := h.keep_nil fb))
  have gp : g ≠ p := by have := HGG.out; have := h.lt; omega
  refine (wUint_ok h1 4 x rfl (by omega) (by omega) (by omega)).mono ?_
  rintro r w2 ⟨rfl, x2⟩
  have b2 := x2.blk h1 hb (by decide) (by decide)
  obtain ⟨v2, h2, f2, g2⟩ := WPost.trans (fb.mono (by simp)) (fun g hg => .inl hg) x2
  clear x2 h1 hb c0
  go_wp2_with fail
  refine (wBytes_ok h2 _ 64 64 e.wr he.ok.wr (Rd.of_blk b2 _ _ (ep_get he.ok)) (by simp) (fun g' o' e' _ => by cases e'; exact gp) (by rw [List.length_append, leB_length]; omega)).mono ?_
  rintro r w3 ⟨rfl, x3⟩
  have y3 := WPost.trans f2 g2 x3
  go_wp2_with fail
  go_returns
  refine ⟨rfl, ?_⟩
  have e1 : encE e = leB 4 x ++ e.wr := by rw [encE, HX.out]; rfl
  rw [e1, ← List.append_assoc]
  exact y3

theorem KOk.range {w : World} {A : Option Addr} {n c : Nat} {es : List EpM} {tg : List UInt8} (h : KOk w A n c es tg) {k : Nat} (hk : k < es.length) : ∃ g o, A = some ⟨g, o, none⟩ ∧ g < w.heap.size ∧ ∀ k (hk : k < es.length), w.rangeAt g (o + k * 65) es[k].cells := by
  obtain ⟨g, o, e, hg, hc⟩ := h.cell hk
  refine ⟨g, o, e, hg, fun k hk j u hu => ?_⟩
  have hj : j < 65 := by have := (List.getElem?_eq_some_iff.1 hu).1; rw [EpM.len (h.each _ (List.getElem_mem hk))] at this; exact this
  rw [hc k hk j hj, hu]
theorem rangeAt_keep {w w' : World} {g o : Nat} {cs : List Value} (h : w.rangeAt g o cs) {F : List Nat} (hf : Fr F w w') (hn : g ∉ F) : w'.rangeAt g o cs := fun j u hu => hf.cell (p := ⟨g, o + j, none⟩) hn (h j u hu)

set_option maxRecDepth 100000 in
set_option maxHeartbeats 2000000 in
theorem putE_ok (h : Wrt w p B v size false l) {A : Option Addr} {n c : Nat} {es : List EpM} {tg : List UInt8} (hK : KOk w A n c es tg) (hf : ∀ e ∈ es, e.fit) (hC : ∀ g o, A = some ⟨g, o, none⟩ → es ≠ [] → g ≠ p ∧ v.ownBlock ≠ some g) (hs : l.length + 68 * n ≤ size) (hn1 : n ≤ 1000) :
    Calls Try.prog 78 #[.pointer (some ⟨p, 0, none⟩), .slice A n c, .func (.func 79) #[] #[]] w fun e w' => e = .returned (.tuple #[]) ∧ WPost w w' p B v size (l ++ encEs es) := by
  have HN := Lib.hid hK.len
  go_enter Try.func78, Try.ntmps78
  go_wp2_with fail
  go_loopw [10] (fun i wr => ∃ k : Nat, k ≤ n ∧ i = .int .i64 k ∧ WPost w wr p B v size (l ++ encEs (es.take k))) (fun i _ => n - (intOf i).toNat)
  case atStart => exact ⟨0, Nat.zero_le _, rfl, v, by simpa [encEs] using h, Fr.refl _ _, fun g hg => .inl hg⟩
  case round =>
    obtain ⟨k, hk, rfl, v1, k1, k2, k3⟩ := hrel
    by_cases hlt : k < n
    · have hkl : k < es.length := by rw [HN.out]; exact hlt
      obtain ⟨g, o, rfl, hgw, hc⟩ := hK.range hkl
      have hu0 : es ≠ [] := by rintro rfl; simp at hkl
      have hg := hC g o rfl hu0
      have ck := rangeAt_keep (hc k hkl) k2 (by simp only [List.mem_cons, not_or]; exact ⟨hg.1, fun hm => hg.2 (mem_own.1 hm)⟩)
      have hfk := hf _ (List.getElem_mem hkl)
      have T := Lib.hid (encEs_take_succ hkl)
      have hlen : (l ++ encEs (es.take k)).length = l.length + 68 * k := by rw [List.length_append, encEs_len (fun x hx => (hf x (List.mem_of_mem_take hx)).ok), List.length_take, Nat.min_eq_left (by omega)]
      have HL := Lib.hid hlen
      clear hlen hc
      generalize es[k] = x at *
      go_wp2_with
        (first
          | (refine wpList_ldS stEp rfl rfl g (o + k * 65) rfl x.cells (EpM.len hfk.ok) ck ?_)
          | (refine wpList_alS stEp rfl rfl ?_; intro w2 b2 f2 z2; have Z2 := Lib.hid z2; clear z2; obtain ⟨gb, hgb⟩ : ∃ gb, wr.heap.size = gb := ⟨_, rfl⟩; rw [hgb] at b2; rw [hgb]; have HGB := Lib.hid hgb; clear hgb)
          | (refine wpList_stB stEp rfl rfl gb rfl x.cells rfl (EpM.len hfk.ok) x.ones zeroE.cells (EpM.len ⟨by decide, by decide, rfl⟩) b2 ?_; intro w3 b3 f3 z3; have Z3 := Lib.hid z3; clear z3)
          | (refine wpList_ldS stEp rfl rfl gb 0 rfl x.cells (EpM.len hfk.ok) b3.range0 ?_))
      have gbw : wr.heap.size ≤ gb := Nat.le_of_eq HGB.out
      have f4 : Fr [] wr w3 := f2.trans f3 (fun i hi => .inr (by simp at hi; omega))
      refine (seal121_ok (k1.keep_nil f4) hfk (by rw [HL.out]; omega)).mono ?_
      rintro e w5 ⟨rfl, x5⟩
      have y5 := WPost.trans (f4.mono (by simp)) (fun g hg => .inl hg) x5
      clear x5 b2 b3 f2 f3 f4
      go_wp2
      refine ⟨⟨k + 1, by omega, by go_num, ?_⟩, by simp [intOf]; omega⟩
      rw [T.out, ← List.append_assoc]
      exact WPost.trans k2 k3 y5
    · have hk2 : es.take k = es := by rw [List.take_of_length_le]; rw [HN.out]; omega
      rw [hk2] at k1
      clear hk2
      go_wp2
      go_returns
      exact ⟨rfl, v1, k1, k2, k3⟩
end
end Go.Proofs.Ytmonedfafechcaa
