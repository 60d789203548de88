/-
  Keys (layer 12) as a value: epochs in a slice, and a tag; which keys may be.
-/
import Derived.Test.YtmonedfafechcaaSlotE
import Derived.IntWalk
set_option linter.unusedSimpArgs false
set_option linter.unusedVariables false
set_option linter.unnecessarySimpa false
namespace Go.Proofs.Ytmonedfafechcaa
open Go.RowKit

structure EpM where
  ep : Int
  wr : List UInt8
def EpM.cells (e : EpM) : List Value := .int .i64 e.ep :: bvs e.wr
structure EpM.ok (e : EpM) : Prop where
  lo : -9223372036854775808 ≤ e.ep
  hi : e.ep ≤ 9223372036854775807
  wr : e.wr.length = 64
def zeroE : EpM := ⟨0, List.replicate 64 0⟩
theorem EpM.len {e : EpM} (h : e.ok) : e.cells.length = 65 := by simp [EpM.cells, bvs, h.wr]
theorem EpM.ones (e : EpM) : ∀ u ∈ e.cells, u.oneCell' = true := by
  intro u hu
  rcases List.mem_cons.1 hu with rfl | hu
  · rfl
  · exact bvs_one _ u hu
def epsC (es : List EpM) : List Value := es.flatMap EpM.cells
theorem epsC_cons (e : EpM) (es : List EpM) : epsC (e :: es) = e.cells ++ epsC es := rfl
theorem epsC_append (a b : List EpM) : epsC (a ++ b) = epsC a ++ epsC b := by simp [epsC]
theorem epsC_length : ∀ (es : List EpM), (∀ e ∈ es, e.ok) → (epsC es).length = es.length * 65
  | [], _ => rfl
  | e :: es, h => by
    rw [epsC_cons, List.length_append, EpM.len (h e (by simp)), epsC_length es (fun x hx => h x (by simp [hx])), List.length_cons]
    omega
theorem epsC_at : ∀ (es : List EpM) (_ : ∀ e ∈ es, e.ok) (k j : Nat) (hk : k < es.length), j < 65 → (epsC es)[k * 65 + j]? = es[k].cells[j]?
  | [], _, k, j, hk, _ => by simp at hk
  | e :: r, h, 0, j, _, hj => by
    rw [epsC_cons, List.getElem?_append_left (by rw [EpM.len (h e (by simp))]; omega)]
    simp
  | e :: r, h, k + 1, j, hk, hj => by
    have he := EpM.len (h e (by simp))
    rw [epsC_cons, List.getElem?_append_right (by rw [he]; omega), he, show (k + 1) * 65 + j - 65 = k * 65 + j by omega, epsC_at r (fun x hx => h x (by simp [hx])) k j (by simpa using hk) hj]
    rfl

/-- The cells of keys. -/
def keyC (A : Option Addr) (n c : Nat) (tg : List UInt8) : List Value := .slice A n c :: bvs tg
theorem keyC_len (A : Option Addr) (n c : Nat) {tg : List UInt8} (h : tg.length = 32) : (keyC A n c tg).length = 33 := by simp [keyC, bvs, h]
theorem keyC_ones (A : Option Addr) (n c : Nat) (tg : List UInt8) : ∀ u ∈ keyC A n c tg, u.oneCell' = true := by
  intro u hu
  rcases List.mem_cons.1 hu with rfl | hu
  · rfl
  · exact bvs_one _ u hu
def zT : List UInt8 := List.replicate 32 0
theorem zT_len : zT.length = 32 := rfl
set_option maxRecDepth 100000 in
theorem stKeys : StT Try.prog 68 33 (keyC none 0 0 zT) := ⟨⟨_, Try.underlying68, rfl⟩, by kernel_rfl, by decide, by kernel_rfl, keyC_ones _ _ _ _⟩
set_option maxRecDepth 100000 in
theorem stEp : StT Try.prog 102 65 zeroE.cells := ⟨⟨_, Try.underlying102, rfl⟩, by kernel_rfl, by decide, by kernel_rfl, zeroE.ones⟩
set_option maxRecDepth 100000 in
theorem keysZero (w : World) : (Instr.build 68 #[]).run Try.prog w = .ok (.agg (keyC none 0 0 zT).toArray) w := by kernel_rfl
set_option maxRecDepth 100000 in
theorem slEp : SlT Try.prog 66 102 65 72 (.agg zeroE.cells.toArray) := ⟨Try.underlying66, by kernel_rfl, by rw [show (Value.agg zeroE.cells.toArray).cells = zeroE.cells.toArray from rfl]; decide, by decide, by decide⟩

/-- Keys whose epochs read as this list. -/
structure KOk (w : World) (A : Option Addr) (n c : Nat) (es : List EpM) (tg : List UInt8) : Prop where
  len : es.length = n
  rd : Rd w A (epsC es)
  nil : A = none → n = 0
  each : ∀ e ∈ es, e.ok
  tg : tg.length = 32
  reach : n ≤ 140737488351232
  blk : ∀ g o, A = some ⟨g, o, none⟩ → es ≠ [] → g < w.heap.size
theorem KOk.keep {w w' : World} {A : Option Addr} {n c : Nat} {es : List EpM} {tg : List UInt8} (h : KOk w A n c es tg) {F : List Nat} (hf : Fr F w w') (hn : ∀ g o, A = some ⟨g, o, none⟩ → es ≠ [] → g ∉ F) : KOk w' A n c es tg := by
  refine ⟨h.len, ?_, h.nil, h.each, h.tg, h.reach, fun g o e hne => by have := h.blk g o e hne; have := hf.size; omega⟩
  by_cases he : es = []
  · subst he; exact Rd.nil _ _
  · exact h.rd.keep hf (fun g o e => hn g o e he)
theorem KOk.keep_nil {w w' : World} {A : Option Addr} {n c : Nat} {es : List EpM} {tg : List UInt8} (h : KOk w A n c es tg) (hf : Fr [] w w') : KOk w' A n c es tg := h.keep hf (by simp)
/-- Its epochs' cells. -/
theorem KOk.cell {w : World} {A : Option Addr} {n c : Nat} {es : List EpM} {tg : List UInt8} (h : KOk w A n c es tg) {k : Nat} (hk : k < es.length) : ∃ g o, A = some ⟨g, o, none⟩ ∧ g < w.heap.size ∧ ∀ k (hk : k < es.length) j, j < 65 → w.cell? ⟨g, o + k * 65 + j, none⟩ = es[k].cells[j]? := by
  have hne : epsC es ≠ [] := fun e => by
    have := congrArg List.length e
    rw [epsC_length es h.each, List.length_nil] at this
    omega
  have hne2 : es ≠ [] := fun e => by rw [e] at hk; simp at hk
  obtain ⟨g, o, e, hc⟩ := h.rd hne
  refine ⟨g, o, e, h.blk g o e hne2, fun k hk j hj => ?_⟩
  have h1 := epsC_at es h.each k j hk hj
  have hl : j < es[k].cells.length := by rw [EpM.len (h.each _ (List.getElem_mem hk))]; exact hj
  rw [List.getElem?_eq_getElem hl] at h1 ⊢
  have := hc _ _ h1
  rw [← Nat.add_assoc] at this
  exact this

/-- May keys be? -/
def rightB : List EpM → Bool
  | [a] => decide (1 ≤ a.ep ∧ a.ep ≤ 4294967295)
  | [a, b] => decide (1 ≤ a.ep ∧ a.ep ≤ 4294967295 ∧ b.ep ≤ 4294967295 ∧ b.ep = a.ep + 1)
  | _ => false
theorem rightB_big {es : List EpM} (h : es.length = 0 ∨ 2 < es.length) : rightB es = false := by
  match es, h with
  | [], _ => rfl
  | a :: b :: c :: r, _ => rfl
  | [a], h => simp at h
  | [a, b], h => simp at h

set_option maxRecDepth 100000 in
set_option maxHeartbeats 2000000 in
theorem right_any (w : World) {A : Option Addr} {n c : Nat} {es : List EpM} {tg : List UInt8} (h : KOk w A n c es tg) :
    Calls Try.prog 69 #[.agg (keyC A n c tg).toArray] w fun e w' => e = .returned (.bool (rightB es)) ∧ Fr [] w w' := by
  by_cases hn : n < 1 ∨ 2 < n
  · have hr := rightB_big (es := es) (by rw [h.len]; omega)
    have HR := Lib.hid hr
    clear hr
    rcases hn with hn | hn
    all_goals
      have hn' : (n : Int) < 1 ∨ 2 < (n : Int) := by omega
      clear hn'
      go_enter Try.func69, Try.ntmps69
      go_wp2_with
        (first
          | (refine wpList_boxS rfl rfl (keyC A n c tg) rfl ?_; intro wb hb fb zb; have ZB := Lib.hid zb; clear zb; have c0 := hb.cell 0; (rw [show (keyC A n c tg).toArray[0]? = some (.slice A n c) from rfl] at c0)))
      go_ret
      exact ⟨by rw [HR.out]; rfl, fb⟩
  · have h12 : n = 1 ∨ n = 2 := by omega
    clear hn
    rcases h12 with rfl | rfl
    · match es, h with
      | [a], h =>
        obtain ⟨g, o, rfl, hg, hc⟩ := h.cell (k := 0) (by simp)
        have c1 := hc 0 (by simp) 0 (by omega)
        simp only [Nat.zero_mul, Nat.add_zero] at c1
        rw [show ([a] : List EpM)[0].cells[0]? = some (.int .i64 a.ep) from rfl] at c1
        clear hc
        have lo := (h.each a (by simp)).lo
        have hi := (h.each a (by simp)).hi
        go_enter Try.func69, Try.ntmps69
        go_wp2_with
          (first
            | (refine wpList_boxS rfl rfl (keyC _ _ c tg) rfl ?_; intro wb hb fb zb; have ZB := Lib.hid zb; clear zb; have c0 := hb.cell 0; (rw [show (keyC _ _ c tg).toArray[0]? = some (.slice _ _ c) from rfl] at c0); have c1' := fb.cell (p := ⟨g, o, none⟩) (by simp) c1; (try (have c2' := fb.cell (p := ⟨g, o + 65, none⟩) (by simp) c2)); clear hb))
        go_quiet (fail)
        go_wp2_with fail
        all_goals
          go_ret
          refine ⟨congrArg (fun b => Ending.returned (Value.bool b)) ?_, fb.drewN _⟩
          rw [Bool.eq_iff_iff]
          simp [rightB]
          try omega
      | [], h => exact absurd h.len (by simp)
      | _ :: _ :: _, h => exact absurd h.len (by simp)
    · match es, h with
      | [a, b], h =>
        obtain ⟨g, o, rfl, hg, hc⟩ := h.cell (k := 0) (by simp)
        have c1 := hc 0 (by simp) 0 (by omega)
        have c2 := hc 1 (by simp) 0 (by omega)
        simp only [Nat.zero_mul, Nat.one_mul, Nat.add_zero] at c1 c2
        rw [show ([a, b] : List EpM)[0].cells[0]? = some (.int .i64 a.ep) from rfl] at c1
        rw [show ([a, b] : List EpM)[1].cells[0]? = some (.int .i64 b.ep) from rfl] at c2
        clear hc
        have lo := (h.each a (by simp)).lo
        have hi := (h.each a (by simp)).hi
        go_enter Try.func69, Try.ntmps69
        go_wp2_with
          (first
            | (refine wpList_boxS rfl rfl (keyC _ _ c tg) rfl ?_; intro wb hb fb zb; have ZB := Lib.hid zb; clear zb; have c0 := hb.cell 0; (rw [show (keyC _ _ c tg).toArray[0]? = some (.slice _ _ c) from rfl] at c0); have c1' := fb.cell (p := ⟨g, o, none⟩) (by simp) c1; (try (have c2' := fb.cell (p := ⟨g, o + 65, none⟩) (by simp) c2)); clear hb))
        go_quiet (fail)
        go_wp2_with fail
        all_goals
          go_ret
          refine ⟨congrArg (fun b => Ending.returned (Value.bool b)) ?_, fb.drewN _⟩
          rw [Bool.eq_iff_iff]
          simp [rightB]
          try omega
      | [], h => exact absurd h.len (by simp)
      | [_], h => exact absurd h.len (by simp)
      | _ :: _ :: _ :: _, h => exact absurd h.len (by simp)
set_option maxRecDepth 100000 in
set_option maxHeartbeats 2000000 in
theorem xRight_any (w : World) {A : Option Addr} {n c : Nat} {es : List EpM} {tg : List UInt8} (h : KOk w A n c es tg) :
    Calls Try.prog 72 #[.agg (keyC A n c tg).toArray] w fun e w' => e = .returned (.bool (rightB es)) ∧ Fr [] w w' := by
  by_cases hn : n < 1 ∨ 2 < n
  · have hr := rightB_big (es := es) (by rw [h.len]; omega)
    have HR := Lib.hid hr
    clear hr
    rcases hn with hn | hn
    all_goals
      have hn' : (n : Int) < 1 ∨ 2 < (n : Int) := by omega
      clear hn'
      go_enter Try.func72, Try.ntmps72
      go_wp2_with
        (first
          | (refine wpList_boxS rfl rfl (keyC A n c tg) rfl ?_; intro wb hb fb zb; have ZB := Lib.hid zb; clear zb; have c0 := hb.cell 0; (rw [show (keyC A n c tg).toArray[0]? = some (.slice A n c) from rfl] at c0)))
      go_ret
      exact ⟨by rw [HR.out]; rfl, fb⟩
  · have h12 : n = 1 ∨ n = 2 := by omega
    clear hn
    rcases h12 with rfl | rfl
    · match es, h with
      | [a], h =>
        obtain ⟨g, o, rfl, hg, hc⟩ := h.cell (k := 0) (by simp)
        have c1 := hc 0 (by simp) 0 (by omega)
        simp only [Nat.zero_mul, Nat.add_zero] at c1
        rw [show ([a] : List EpM)[0].cells[0]? = some (.int .i64 a.ep) from rfl] at c1
        clear hc
        have lo := (h.each a (by simp)).lo
        have hi := (h.each a (by simp)).hi
        by_cases h1 : a.ep < 1
        · go_enter Try.func72, Try.ntmps72
          go_wp2_with
            (first
              | (refine wpList_boxS rfl rfl (keyC _ _ c tg) rfl ?_; intro wb hb fb zb; have ZB := Lib.hid zb; clear zb; have c0 := hb.cell 0; (rw [show (keyC _ _ c tg).toArray[0]? = some (.slice _ _ c) from rfl] at c0); have c1' := fb.cell (p := ⟨g, o, none⟩) (by simp) c1; (try (have c2' := fb.cell (p := ⟨g, o + 65, none⟩) (by simp) c2)); clear hb))
          go_ret
          refine ⟨congrArg (fun b => Ending.returned (Value.bool b)) ?_, fb⟩
          rw [Bool.eq_iff_iff]
          simp [rightB]
          try omega
        · by_cases h2 : 4294967295 < a.ep
          · go_enter Try.func72, Try.ntmps72
            go_wp2_with
              (first
                | (refine wpList_boxS rfl rfl (keyC _ _ c tg) rfl ?_; intro wb hb fb zb; have ZB := Lib.hid zb; clear zb; have c0 := hb.cell 0; (rw [show (keyC _ _ c tg).toArray[0]? = some (.slice _ _ c) from rfl] at c0); have c1' := fb.cell (p := ⟨g, o, none⟩) (by simp) c1; (try (have c2' := fb.cell (p := ⟨g, o + 65, none⟩) (by simp) c2)); clear hb))
            go_ret
            refine ⟨congrArg (fun b => Ending.returned (Value.bool b)) ?_, fb⟩
            rw [Bool.eq_iff_iff]
            simp [rightB]
            try omega
          · go_enter Try.func72, Try.ntmps72
            go_wp2_with
              (first
                | (refine wpList_boxS rfl rfl (keyC _ _ c tg) rfl ?_; intro wb hb fb zb; have ZB := Lib.hid zb; clear zb; have c0 := hb.cell 0; (rw [show (keyC _ _ c tg).toArray[0]? = some (.slice _ _ c) from rfl] at c0); have c1' := fb.cell (p := ⟨g, o, none⟩) (by simp) c1; (try (have c2' := fb.cell (p := ⟨g, o + 65, none⟩) (by simp) c2)); clear hb))
            go_quiet (fail)
            go_wp2_with fail
            go_ret
            refine ⟨congrArg (fun b => Ending.returned (Value.bool b)) ?_, (fb.drewN _)⟩
            rw [Bool.eq_iff_iff]
            simp [rightB]
            try omega
      | [], h => exact absurd h.len (by simp)
      | _ :: _ :: _, h => exact absurd h.len (by simp)
    · match es, h with
      | [a, b], h =>
        obtain ⟨g, o, rfl, hg, hc⟩ := h.cell (k := 0) (by simp)
        have c1 := hc 0 (by simp) 0 (by omega)
        have c2 := hc 1 (by simp) 0 (by omega)
        simp only [Nat.zero_mul, Nat.one_mul, Nat.add_zero] at c1 c2
        rw [show ([a, b] : List EpM)[0].cells[0]? = some (.int .i64 a.ep) from rfl] at c1
        rw [show ([a, b] : List EpM)[1].cells[0]? = some (.int .i64 b.ep) from rfl] at c2
        clear hc
        have lo := (h.each a (by simp)).lo
        have hi := (h.each a (by simp)).hi
        by_cases h1 : a.ep < 1
        · go_enter Try.func72, Try.ntmps72
          go_wp2_with
            (first
              | (refine wpList_boxS rfl rfl (keyC _ _ c tg) rfl ?_; intro wb hb fb zb; have ZB := Lib.hid zb; clear zb; have c0 := hb.cell 0; (rw [show (keyC _ _ c tg).toArray[0]? = some (.slice _ _ c) from rfl] at c0); have c1' := fb.cell (p := ⟨g, o, none⟩) (by simp) c1; (try (have c2' := fb.cell (p := ⟨g, o + 65, none⟩) (by simp) c2)); clear hb))
          go_ret
          refine ⟨congrArg (fun b => Ending.returned (Value.bool b)) ?_, fb⟩
          rw [Bool.eq_iff_iff]
          simp [rightB]
          try omega
        · by_cases h2 : 4294967295 < a.ep
          · go_enter Try.func72, Try.ntmps72
            go_wp2_with
              (first
                | (refine wpList_boxS rfl rfl (keyC _ _ c tg) rfl ?_; intro wb hb fb zb; have ZB := Lib.hid zb; clear zb; have c0 := hb.cell 0; (rw [show (keyC _ _ c tg).toArray[0]? = some (.slice _ _ c) from rfl] at c0); have c1' := fb.cell (p := ⟨g, o, none⟩) (by simp) c1; (try (have c2' := fb.cell (p := ⟨g, o + 65, none⟩) (by simp) c2)); clear hb))
            go_ret
            refine ⟨congrArg (fun b => Ending.returned (Value.bool b)) ?_, fb⟩
            rw [Bool.eq_iff_iff]
            simp [rightB]
            try omega
          · have hw : IntKind.i64.wrap (a.ep + 1) = a.ep + 1 := IntWalk.i64_in _ (by omega)
            cases hb : (b.ep == a.ep + 1)
            · go_enter Try.func72, Try.ntmps72
              go_wp2_with
                (first
                  | (refine wpList_boxS rfl rfl (keyC _ _ c tg) rfl ?_; intro wb hb fb zb; have ZB := Lib.hid zb; clear zb; have c0 := hb.cell 0; (rw [show (keyC _ _ c tg).toArray[0]? = some (.slice _ _ c) from rfl] at c0); have c1' := fb.cell (p := ⟨g, o, none⟩) (by simp) c1; (try (have c2' := fb.cell (p := ⟨g, o + 65, none⟩) (by simp) c2)); clear hb))
              go_quiet (fail)
              go_wp2_with fail
              go_ret
              have hb' := beq_eq_false_iff_ne.1 hb
              clear hw hb
              refine ⟨congrArg (fun b => Ending.returned (Value.bool b)) ?_, (fb.drewN _)⟩
              rw [Bool.eq_iff_iff]
              simp [rightB]
              try omega
            · go_enter Try.func72, Try.ntmps72
              go_wp2_with
                (first
                  | (refine wpList_boxS rfl rfl (keyC _ _ c tg) rfl ?_; intro wb hb fb zb; have ZB := Lib.hid zb; clear zb; have c0 := hb.cell 0; (rw [show (keyC _ _ c tg).toArray[0]? = some (.slice _ _ c) from rfl] at c0); have c1' := fb.cell (p := ⟨g, o, none⟩) (by simp) c1; (try (have c2' := fb.cell (p := ⟨g, o + 65, none⟩) (by simp) c2)); clear hb))
              go_quiet (fail)
              go_wp2_with fail
              all_goals
                go_ret
                have hb' := beq_iff_eq.1 hb
                clear hw hb
                refine ⟨congrArg (fun b => Ending.returned (Value.bool b)) ?_, (fb.drewN _)⟩
                rw [Bool.eq_iff_iff]
                simp [rightB]
                try omega
      | [], h => exact absurd h.len (by simp)
      | [_], h => exact absurd h.len (by simp)
      | _ :: _ :: _ :: _, h => exact absurd h.len (by simp)
end Go.Proofs.Ytmonedfafechcaa
