/-
  SlotEncodes, the walk: the block of any slot.
-/
import Derived.Test.YtmonedfafechcaaKeysJ
set_option linter.unusedSimpArgs false
set_option linter.unusedVariables false
set_option linter.unnecessarySimpa false
namespace Go.Proofs.Ytmonedfafechcaa
open Go.RowKit

theorem EncS.yes {w w' : World} {s : SlotM} {e : Ending} (h : EncS w s e w') (hg : s.good = true) : ∃ A c, e = .returned (.tuple #[.slice A 512 c, .int .i64 0]) ∧ Row w' w.heap.size 5 1 (.slice A 512 c) 512 (bvs s.bytes) ∧ Fr [] w w' := by
  obtain ⟨v, h1, h2, h3⟩ := h
  rw [hg] at h1 h2
  obtain ⟨A, c, rfl, -, -, -, -, -⟩ := h2.shape
  exact ⟨A, c, h1, h2, h3⟩
theorem EncS.no {w w' : World} {s : SlotM} {e : Ending} (h : EncS w s e w') (hg : s.good = false) : ∃ A c, e = .returned (.tuple #[.slice A 0 c, .int .i64 1]) ∧ Row w' w.heap.size 5 1 (.slice A 0 c) 0 (bvs []) ∧ Fr [] w w' := by
  obtain ⟨v, h1, h2, h3⟩ := h
  rw [hg] at h1 h2
  obtain ⟨A, c, rfl, -, -, -, -, -⟩ := h2.shape
  exact ⟨A, c, h1, h2, h3⟩
/-- A good slot is decoded to itself. -/
theorem dec_enc {s : SlotM} (hs : s.ok) (hg : s.good = true) : decS s.bytes = some s := by
  cases ha : s.act
  · have hz : s.eqB zeroS = true := by simpa [SlotM.good, ha] using hg
    have e := (SlotM.eqB_iff s zeroS).1 hz
    rw [e]
    have hb := SlotM.bytes_len zeroS_ok
    have hz2 : allZ zeroS.bytes = true := by rw [SlotM.bytes, if_neg (by decide), allZ_iff, List.length_replicate]
    rw [decS, if_pos hb, if_pos hz2]
  · have hb := SlotM.bytes_len hs
    have eb : s.bytes = s.body ++ List.replicate 428 0 := by rw [SlotM.bytes, if_pos ha]
    have l0 : s.sa.length = 16 := hs.sa
    have l1 : s.wr.length = 32 := hs.wr
    have l2 : s.tg.length = 32 := hs.tg
    have e4 : s.bytes = markS ++ (s.sa ++ (s.wr ++ (s.tg ++ List.replicate 428 0))) := by rw [eb, SlotM.body]; simp only [List.append_assoc]
    have t4 : s.bytes.take 4 = markS := by rw [e4]; exact List.take_left' rfl
    have p4 : s.bytes.drop 4 = s.sa ++ (s.wr ++ (s.tg ++ List.replicate 428 0)) := by rw [e4]; exact List.drop_left' rfl
    have p20 : s.bytes.drop 20 = s.wr ++ (s.tg ++ List.replicate 428 0) := by rw [show (20 : Nat) = 4 + 16 from rfl, ← List.drop_drop, p4]; exact List.drop_left' l0
    have p52 : s.bytes.drop 52 = s.tg ++ List.replicate 428 0 := by rw [show (52 : Nat) = 20 + 32 from rfl, ← List.drop_drop, p20]; exact List.drop_left' l1
    have p84 : s.bytes.drop 84 = List.replicate 428 0 := by rw [show (84 : Nat) = 52 + 32 from rfl, ← List.drop_drop, p52]; exact List.drop_left' l2
    have hz : allZ s.bytes = false := by
      rw [Bool.eq_false_iff]
      intro hz
      have h1 : (83 : UInt8) ∈ s.bytes := by rw [e4]; exact List.mem_append_left _ (by decide)
      have := List.all_eq_true.1 hz _ h1
      exact absurd this (by decide)
    have z84 : allZ (s.bytes.drop 84) = true := by rw [p84, allZ_iff, List.length_replicate]
    rw [decS, if_pos hb, hz, if_neg (by decide), if_pos ⟨t4, z84⟩, p4, p20, p52, List.take_left' l0, List.take_left' l1, List.take_left' l2, ← ha]

set_option maxRecDepth 100000 in
set_option maxHeartbeats 4000000 in
theorem slotEnc_any (w : World) (s : SlotM) (hs : s.ok) : Calls Try.prog 8 #[.agg s.cells.toArray] w fun e w' => e = .returned (.bool true) ∧ Fr [] w w' := by
  cases hg : s.good
  · have HG := Lib.hid hg
    clear hg
    go_enter Try.func8, Try.ntmps8
    go_wp2_with
      (first
        | (refine wpList_boxS rfl rfl s.cells rfl ?_; intro w1 h1 f1 z1; have Z1 := Lib.hid z1; clear z1; obtain ⟨g, hg⟩ : ∃ g, w.heap.size = g := ⟨_, rfl⟩; rw [hg] at h1; rw [hg]; have HGG := Lib.hid hg; clear hg)
        | (refine wpList_ldS stSlot rfl rfl g 0 rfl s.cells (SlotM.len hs) h1.range0 ?_))
    refine (encSlot_any w1 s hs).mono ?_
    intro e w2 hE
    obtain ⟨A2, c2, rfl, r2, f2⟩ := hE.no HG.out
    have h2 := h1.keep_nil f2
    have F2 := f1.trans_nil f2
    clear hE
    go_wp2_with
      (first
        | (refine wpList_ldS stSlot rfl rfl g 0 rfl s.cells (SlotM.len hs) h2.range0 ?_))
    refine (xEncSlot_any w2 s hs).mono ?_
    intro e w3 hE
    obtain ⟨A3, c3, rfl, r3, f3⟩ := hE.no HG.out
    have h3 := h2.keep_nil f3
    have F3 := F2.trans_nil f3
    have r2 := r2.keep_nil f3
    clear hE
    go_wp2_with fail
    refine (lives12_any w3).mono ?_
    rintro e w4 ⟨rfl, f4⟩
    have h4 := h3.keep_nil f4
    have F4 := F3.trans_nil f4
    have r4 := r2.keep_nil f4
    have E2 := (r2.keep_nil f4).str
    have E3 := (r3.keep_nil f4).str
    clear h1 h2 h3 f1 F2 F3 r2 r3
    go_wp2_with fail
    go_ret
    exact ⟨rfl, F4⟩
  · have HG := Lib.hid hg
    clear hg
    go_enter Try.func8, Try.ntmps8
    go_wp2_with
      (first
        | (refine wpList_boxS rfl rfl s.cells rfl ?_; intro w1 h1 f1 z1; have Z1 := Lib.hid z1; clear z1; obtain ⟨g, hg⟩ : ∃ g, w.heap.size = g := ⟨_, rfl⟩; rw [hg] at h1; rw [hg]; have HGG := Lib.hid hg; clear hg)
        | (refine wpList_ldS stSlot rfl rfl g 0 rfl s.cells (SlotM.len hs) h1.range0 ?_))
    refine (encSlot_any w1 s hs).mono ?_
    intro e w2 hE
    obtain ⟨A2, c2, rfl, r2, f2⟩ := hE.yes HG.out
    have h2 := h1.keep_nil f2
    have F2 := f1.trans_nil f2
    clear hE
    go_wp2_with
      (first
        | (refine wpList_ldS stSlot rfl rfl g 0 rfl s.cells (SlotM.len hs) h2.range0 ?_))
    refine (xEncSlot_any w2 s hs).mono ?_
    intro e w3 hE
    obtain ⟨A3, c3, rfl, r3, f3⟩ := hE.yes HG.out
    have h3 := h2.keep_nil f3
    have F3 := F2.trans_nil f3
    have r2 := r2.keep_nil f3
    clear hE
    go_wp2_with fail
    refine (lives12_any w3).mono ?_
    rintro e w4 ⟨rfl, f4⟩
    have h4 := h3.keep_nil f4
    have F4 := F3.trans_nil f4
    have r4 := r2.keep_nil f4
    have E2 := (r2.keep_nil f4).str
    have E3 := (r3.keep_nil f4).str
    clear h1 h2 h3 f1 F2 F3 r2 r3
    go_wp2_with fail
    have cc := decSlot_any w4 A2 s.bytes 512 c2 (SlotM.bytes_len hs) r4.rd.1 r4.rd.2.2 (by omega)
    unfold DecS at cc
    have hd := dec_enc hs HG.out
    rw [show decV s.bytes = s by rw [decV, hd]; rfl, hd] at cc
    clear E2 E3
    refine cc.mono ?_
    clear cc hd
    rintro e w5 ⟨rfl, f5⟩
    have h5 := h4.keep_nil f5
    have F5 := F4.trans_nil f5
    go_wp2_with
      (first
        | (refine wpList_alS stSlot rfl rfl ?_; intro w6 h6 f6 z6; have Z6 := Lib.hid z6; clear z6; obtain ⟨gx, hgx⟩ : ∃ gx, w5.heap.size = gx := ⟨_, rfl⟩; rw [hgx] at h6; rw [hgx]; have HGX := Lib.hid hgx; clear hgx)
        | (refine wpList_stB stSlot rfl rfl gx rfl s.cells rfl (SlotM.len hs) s.ones zeroS.cells (SlotM.len zeroS_ok) h6 ?_; intro w7 h7 f7 z7; have Z7 := Lib.hid z7; clear z7; have h8 := (h5.keep_nil f6).keep f7 (by have := HGX.out; have := h5.lt; simp; omega))
        | (refine wpList_ldS stSlot rfl rfl gx 0 rfl s.cells (SlotM.len hs) h7.range0 ?_)
        | (refine wpList_ldS stSlot rfl rfl g 0 rfl s.cells (SlotM.len hs) h8.range0 ?_)
        | (refine wpList_eqS stSlot rfl rfl (.inl rfl) rfl rfl true ((slot_eq hs hs _).trans (by rw [(SlotM.eqB_iff s s).2 rfl])) ?_))
    go_ret
    exact ⟨rfl, (F5.trans_nil f6).trans f7 (fun i hi => .inr (by have := HGX.out; have := F5.size; simp at hi; omega))⟩
end Go.Proofs.Ytmonedfafechcaa
