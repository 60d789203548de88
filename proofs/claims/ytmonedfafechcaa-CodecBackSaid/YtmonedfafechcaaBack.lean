/-
  CodecBack, the walk: what was written is read.
-/
import Derived.Test.YtmonedfafechcaaBackA
import Derived.Deep.DeepCutAuto
import Derived.Deep.CutBlock
import Derived.Deep.LoopGhost
import Derived.Test.YtmonedfafechcaaReg
set_option linter.unusedSimpArgs false
set_option linter.unusedVariables false
set_option linter.unnecessarySimpa false
namespace Go.Proofs.Ytmonedfafechcaa
open Go.RowKit

theorem kEnc_length {w : World} {o : OpM} (h : KGood o) (ho : o.ok w) : (kEnc o).length ≤ 1000 ∧ ((o.kind = 1 ∧ ((kEnc o).length : Int) = o.n) ∨ (o.kind = 2 ∧ (kEnc o).length = o.m)) := by
  unfold kEnc
  rcases h with ⟨h1, n, h2, h3, h4⟩ | ⟨h1, h2⟩
  · simp only [wide, Bool.or_eq_true, beq_iff_eq] at h3
    rw [if_pos h1, leB_length]
    exact ⟨by omega, .inl ⟨h1, by omega⟩⟩
  · have := ho.b.len
    rw [if_neg (by omega)]
    exact ⟨by omega, .inr ⟨h1, by omega⟩⟩

/-- What the first loop keeps. -/
def Kept (w wr : World) (s3 s4 : Value) (k : Nat) (D : List OpM) : Prop :=
  Row wr w.heap.size 36 4 s4 D.length (opsC D) ∧ (∀ o ∈ D, KGood o ∧ o.ok w) ∧ s3 = .int .i64 (((encA D).length : Nat) : Int) ∧ D.length ≤ k ∧ (encA D).length ≤ 1000 * k ∧ Fr [] w wr

/-- One call more, laid at a block of its own. -/
def KOne (w wr wx : World) (s3 s6 s4 : Value) (k : Nat) (D : List OpM) : Prop :=
  ∃ op b, s6 = .pointer (some ⟨b, 0, none⟩) ∧ KGood op ∧ op.ok w ∧ Blk wx b 36 op.cells.toArray ∧ s3 = .int .i64 (((encA D).length + (kEnc op).length : Nat) : Int) ∧ Row wx w.heap.size 36 4 s4 D.length (opsC D) ∧ Fr [] w wx ∧ wr.heap.size ≤ wx.heap.size

theorem Kept.one {w wr wx : World} {s3 s4 : Value} {k : Nat} {D : List OpM} (h : Kept w wr s3 s4 k D) (op : OpM) (hg : KGood op) (ho : op.ok w) {c3 : Value} (hc : c3 = .int .i64 (((encA D).length + (kEnc op).length : Nat) : Int)) (hb : Blk wx wr.heap.size 36 op.cells.toArray) (hf : Fr [wr.heap.size] wr wx) :
    KOne w wr wx c3 (.pointer (some ⟨wr.heap.size, 0, none⟩)) s4 k D :=
  ⟨op, wr.heap.size, rfl, hg, ho, hb, hc, h.1.keep hf (fun g hh => by have := h.1.lt g hh; simp; omega), h.2.2.2.2.2.trans hf (fun i hi => .inr (by have := h.2.2.2.2.2.size; simp at hi; omega)), hf.size⟩

set_option maxRecDepth 100000 in
set_option maxHeartbeats 4000000 in
theorem back_any (w : World) (B : Option Addr) (m bcap : Nat) (ops : List OpM) (ho : ArgOps w B m bcap ops) :
    Calls Try.prog 4 #[.slice B m bcap] w fun e w' => e = .returned (.bool true) ∧ Fr [] w w' := by
  have hm1 := ho.reach
  go_enter Try.func4, Try.ntmps4
  go_upto_block 0 with fail
  go_cut [3, 4] (fun s3 s4 wx => ∃ D, Kept w wx s3 s4 500 D)
  case first =>
    go_wp2_with fail
    go_loopw [3, 4, 5] (fun s3 s4 i wr => ∃ k : Nat, k ≤ m ∧ k ≤ 500 ∧ i = .int .i64 k ∧ ∃ D, Kept w wr s3 s4 k D) (fun _ _ i _ => 500 - (intOf i).toNat)
    case atStart => exact ⟨0, Nat.zero_le _, by omega, rfl, [], Row.nil _ _ _ _, by simp, rfl, by simp, by simp [encA], Fr.refl _ _⟩
    case round =>
      obtain ⟨k, hk, hk5, rfl, D, hD⟩ := hrel
      have hrow := hD.1
      obtain rfl := hD.2.2.1
      obtain ⟨A4, cap4, rfl, -, -, -, -, -⟩ := hrow.shape
      have hDk := hD.2.2.2.1
      have hLk := hD.2.2.2.2.1
      have F5 := hD.2.2.2.2.2
      have hend : ∃ D', Kept w wr (.int .i64 (((encA D).length : Nat) : Int)) (.slice A4 D.length cap4) 500 D' := ⟨D, hD.1, hD.2.1, rfl, by omega, by omega, hD.2.2.2.2.2⟩
      by_cases h5 : k < 500
      · by_cases hlt : k < m
        · have hkl : k < ops.length := by rw [ho.len]; exact hlt
          obtain ⟨g, o, rfl, hg, hc⟩ := ho.rd (by omega)
          have hok := ho.ok _ (List.getElem_mem hkl)
          have c0 := F5.cell (p := ⟨g, o + k * 4, none⟩) (by simp) (hc k hkl 0 (by omega))
          have c1 := F5.cell (p := ⟨g, o + k * 4 + 1, none⟩) (by simp) (hc k hkl 1 (by omega))
          have c2 := F5.cell (p := ⟨g, o + k * 4 + 2, none⟩) (by simp) (hc k hkl 2 (by omega))
          have c3 := F5.cell (p := ⟨g, o + k * 4 + 3, none⟩) (by simp) (hc k hkl 3 (by omega))
          clear hc hend
          generalize ops[k] = op at *
          obtain ⟨kd, num, x, OA, om, oc, ol⟩ := op
          obtain ⟨W, hW⟩ : ∃ W, wr.alloc (.cells #[.int .i64 kd, .int .i64 num, .int .u64 x, .slice OA om oc] 36) = W := ⟨_, rfl⟩
          obtain ⟨b9, hb9⟩ : ∃ b9, wr.heap.size = b9 := ⟨_, rfl⟩
          have k9 : Blk W b9 36 #[.int .i64 kd, .int .i64 num, .int .u64 x, .slice OA om oc] := by rw [← hW, ← hb9]; exact Blk.new _ _ _
          have f9 : Fr [] wr W := by rw [← hW]; exact (Fr.refl _ _).alloc _
          have HW := Lib.hid hW
          have HB9 := Lib.hid hb9
          clear hW hb9
          go_upto_block 2 with fail
          rw [HW.out, HB9.out]
          go_cut [3, 6] from 13 to 85 (fun s3 s6 wx => KOne w wr wx s3 s6 (.slice A4 D.length cap4) k D)
          case first =>
            have e0 := k9.cell 0
            have e1 := k9.cell 1
            have e2 := k9.cell 2
            have e3 := k9.cell 3
            have fz2 := k9.frozen 2
            simp at e0 e1 e2 e3
            have fin : ∀ (op : OpM) (wx : World) (c3 : Value), KGood op → op.ok w → c3 = .int .i64 (((encA D).length + (kEnc op).length : Nat) : Int) → Blk wx b9 36 op.cells.toArray → Fr [b9] W wx → KOne w wr wx c3 (.pointer (some ⟨b9, 0, none⟩)) (.slice A4 D.length cap4) k D := by
              intro op wx c3 hg ho hc hb hf
              have := hD.one (wx := wx) op hg ho hc (by rw [HB9.out]; exact hb) (by rw [HB9.out]; exact f9.nil.trans hf (fun i hi => .inl hi))
              rwa [HB9.out] at this
            have skip : ∃ D', Kept w W (.int .i64 (((encA D).length : Nat) : Int)) (.slice A4 D.length cap4) (k + 1) D' := ⟨D, hrow.keep_nil f9, hD.2.1, rfl, by omega, by omega, F5.trans_nil f9⟩
            clear hD hrow c0 c1 c2 c3
            by_cases k1 : kd = 1
            · subst k1
              by_cases n8 : num = 8
              · subst n8
                go_wp2_with fail
                go_meet
                exact fin ⟨1, 8, x, OA, om, oc, ol⟩ W _ (.inl ⟨rfl, 8, rfl, rfl, hok.x⟩) hok (by simp [kEnc, leB_length]) k9 (Fr.refl _ _)
              · have hn8 : (num == 8) = false := by rw [beq_eq_false_iff_ne]; exact n8
                by_cases n124 : num = 1 ∨ num = 2 ∨ num = 4
                · clear n8 hn8
                  rcases n124 with rfl | rfl | rfl
                  · have mk : bits .and .u64 (x : Int) 255 = ((x % 256 ^ 1 : Nat) : Int) := mask_and x 1 hok.x (by decide)
                    have hlow : x % 256 ^ 1 < 256 ^ 1 := Nat.mod_lt _ (by decide)
                    have h64 : x % 256 ^ 1 < 18446744073709551616 := Nat.lt_of_le_of_lt (Nat.mod_le _ _) hok.x
                    have MK := Lib.hid mk
                    clear mk
                    go_wp2_with fail
                    go_region
                    rw [MK.out]
                    generalize x % 256 ^ 1 = y at *
                    obtain ⟨W2, hW2⟩ : ∃ W2, (W.setCell ⟨b9, 2, none⟩ (.int .u64 (y : Int))).drew = W2 := ⟨_, rfl⟩
                    rw [hW2]
                    have k2 : Blk W2 b9 36 #[.int .i64 1, .int .i64 1, .int .u64 y, .slice OA om oc] := by rw [← hW2]; simpa using (k9.set_ 2 (.int .u64 y)).keep ((Fr.refl [] _).drew) (by simp)
                    have f2 : Fr [b9] W W2 := by rw [← hW2]; exact ((Fr.refl [b9] W).setCell (p := ⟨b9, 2, none⟩) (.inl (by simp)) _).drew
                    have g1 := k2.cell 1
                    simp at g1
                    clear hW2
                    go_wp2_with fail
                    go_meet
                    exact fin ⟨1, 1, y, OA, om, oc, ol⟩ W2 _ (.inl ⟨rfl, 1, rfl, rfl, hlow⟩) ⟨hok.kind, hok.n, h64, hok.b⟩ (by simp [kEnc, leB_length]) k2 f2
                  · have mk : bits .and .u64 (x : Int) 65535 = ((x % 256 ^ 2 : Nat) : Int) := mask_and x 2 hok.x (by decide)
                    have hlow : x % 256 ^ 2 < 256 ^ 2 := Nat.mod_lt _ (by decide)
                    have h64 : x % 256 ^ 2 < 18446744073709551616 := Nat.lt_of_le_of_lt (Nat.mod_le _ _) hok.x
                    have MK := Lib.hid mk
                    clear mk
                    go_wp2_with fail
                    go_region
                    rw [MK.out]
                    generalize x % 256 ^ 2 = y at *
                    obtain ⟨W2, hW2⟩ : ∃ W2, (W.setCell ⟨b9, 2, none⟩ (.int .u64 (y : Int))).drew = W2 := ⟨_, rfl⟩
                    rw [hW2]
                    have k2 : Blk W2 b9 36 #[.int .i64 1, .int .i64 2, .int .u64 y, .slice OA om oc] := by rw [← hW2]; simpa using (k9.set_ 2 (.int .u64 y)).keep ((Fr.refl [] _).drew) (by simp)
                    have f2 : Fr [b9] W W2 := by rw [← hW2]; exact ((Fr.refl [b9] W).setCell (p := ⟨b9, 2, none⟩) (.inl (by simp)) _).drew
                    have g1 := k2.cell 1
                    simp at g1
                    clear hW2
                    go_wp2_with fail
                    go_meet
                    exact fin ⟨1, 2, y, OA, om, oc, ol⟩ W2 _ (.inl ⟨rfl, 2, rfl, rfl, hlow⟩) ⟨hok.kind, hok.n, h64, hok.b⟩ (by simp [kEnc, leB_length]) k2 f2
                  · have mk : bits .and .u64 (x : Int) 4294967295 = ((x % 256 ^ 4 : Nat) : Int) := mask_and x 4 hok.x (by decide)
                    have hlow : x % 256 ^ 4 < 256 ^ 4 := Nat.mod_lt _ (by decide)
                    have h64 : x % 256 ^ 4 < 18446744073709551616 := Nat.lt_of_le_of_lt (Nat.mod_le _ _) hok.x
                    have MK := Lib.hid mk
                    clear mk
                    go_wp2_with fail
                    go_region
                    rw [MK.out]
                    generalize x % 256 ^ 4 = y at *
                    obtain ⟨W2, hW2⟩ : ∃ W2, (W.setCell ⟨b9, 2, none⟩ (.int .u64 (y : Int))).drew = W2 := ⟨_, rfl⟩
                    rw [hW2]
                    have k2 : Blk W2 b9 36 #[.int .i64 1, .int .i64 4, .int .u64 y, .slice OA om oc] := by rw [← hW2]; simpa using (k9.set_ 2 (.int .u64 y)).keep ((Fr.refl [] _).drew) (by simp)
                    have f2 : Fr [b9] W W2 := by rw [← hW2]; exact ((Fr.refl [b9] W).setCell (p := ⟨b9, 2, none⟩) (.inl (by simp)) _).drew
                    have g1 := k2.cell 1
                    simp at g1
                    clear hW2
                    go_wp2_with fail
                    go_meet
                    exact fin ⟨1, 4, y, OA, om, oc, ol⟩ W2 _ (.inl ⟨rfl, 4, rfl, rfl, hlow⟩) ⟨hok.kind, hok.n, h64, hok.b⟩ (by simp [kEnc, leB_length]) k2 f2
                · have m1 : (num == 1) = false := by rw [beq_eq_false_iff_ne]; exact fun h => n124 (.inl h)
                  have m2 : (num == 2) = false := by rw [beq_eq_false_iff_ne]; exact fun h => n124 (.inr (.inl h))
                  have m4 : (num == 4) = false := by rw [beq_eq_false_iff_ne]; exact fun h => n124 (.inr (.inr h))
                  go_wp2_with fail
                  exact ⟨⟨k + 1, by omega, by omega, by go_num, skip⟩, by simp [intOf]; omega⟩
            · have k1' : (kd == 1) = false := by rw [beq_eq_false_iff_ne]; exact k1
              by_cases k2 : kd = 2
              · subst k2
                by_cases hom : (om : Int) < 1000
                · go_wp2_with fail
                  go_meet
                  exact fin ⟨2, num, x, OA, om, oc, ol⟩ W _ (.inr ⟨rfl, by simpa using by omega⟩) hok (by simp [kEnc]; rw [hok.b.len]) k9 (Fr.refl _ _)
                · go_wp2_with fail
                  exact ⟨⟨k + 1, by omega, by omega, by go_num, skip⟩, by simp [intOf]; omega⟩
              · have k2' : (kd == 2) = false := by rw [beq_eq_false_iff_ne]; exact k2
                go_wp2_with fail
                exact ⟨⟨k + 1, by omega, by omega, by go_num, skip⟩, by simp [intOf]; omega⟩
          case rest =>
            obtain ⟨op2, b, rfl, hg, hok2, hb, rfl, hrow2, F2, hs2⟩ := hcut
            have d0 := hb.cell 0
            have d1 := hb.cell 1
            have d2 := hb.cell 2
            have d3 := hb.cell 3
            simp [OpM.cells] at d0 d1 d2 d3
            go_wp2_with (at_builtin; refine wpList_app rfl rfl slOp w.heap.size (.slice A4 D.length cap4) D.length (opsC D) rfl (hrow2.alloc _) _ 1 1 op2.cells rfl rfl (Rd.of_blk (Blk.new _ _ _) 0 _ (fun j u hu => by simpa [OpM.cells] using hu)) (cells_one op2) (fun h => by cases h) (by omega) (by have := F2.size; simp; omega) ?_; intro v3 w3 q1 q2 q3 q4)
            refine ⟨⟨k + 1, by omega, by omega, by go_num, D ++ [op2], ?_, ?_, ?_, ?_, ?_, ?_⟩, by simp [intOf]; omega⟩
            · rw [opsC_append, opsC_one, List.length_append]; exact q1
            · intro o' ho'
              rcases List.mem_append.1 ho' with h | h
              · exact hD.2.1 o' h
              · rw [List.mem_singleton.1 h]; exact ⟨hg, hok2⟩
            · rw [encA_append, encA_one, List.length_append]; push_cast; rfl
            · rw [List.length_append, List.length_singleton]; omega
            · have := (kEnc_length hg hok2).1
              rw [encA_append, encA_one, List.length_append]; omega
            · exact (F2.alloc _).trans q2 (fun i hi => .inr (hrow2.lt i (mem_own.1 hi)).1)
        · go_wp2_with fail
          go_meet
          exact hend
      · by_cases hlt : k < m
        · go_wp2_with fail
          go_meet
          exact hend
        · go_wp2_with fail
          go_meet
          exact hend
  case rest =>
    obtain ⟨D, hD⟩ := hcut
    have hrow := hD.1
    obtain rfl := hD.2.2.1
    obtain ⟨A4, cap4, rfl, -, -, -, -, -⟩ := hrow.shape
    have hgood := hD.2.1
    have hD5 := hD.2.2.2.1
    have hL5 := hD.2.2.2.2.1
    have F0 := hD.2.2.2.2.2
    clear hD
    go_wp2_with fail
    have cc := newWriter_any (((encA D).length : Int) + 3) wc
    rw [show sizeN (((encA D).length : Int) + 3) = (encA D).length + 3 by unfold sizeN; rw [if_neg (by omega)]; omega] at cc
    refine cc.mono ?_
    clear cc
    rintro e w1 ⟨rfl, h1, f1, z1⟩
    have F1 := F0.trans_nil f1
    go_wp2_with fail
    refine (lives09_any w1).mono ?_
    rintro e w2 ⟨rfl, f2⟩
    have h2 := h1.keep_nil f2
    have F2 := F1.trans_nil f2
    have row2 := (hrow.keep_nil f1).keep_nil f2
    obtain ⟨P, hP⟩ : ∃ P, wc.heap.size = P := ⟨_, rfl⟩
    rw [hP] at h2
    have hP2 : w.heap.size ≤ P := by have := F0.size; omega
    rw [hP]
    clear h1 hP f1 f2 F1 hrow z1
    go_wp2_with fail
    go_loopw [8] (fun i wr => ∃ k : Nat, k ≤ D.length ∧ i = .int .i64 k ∧ ∃ v, Wrt wr P P v ((encA D).length + 3) false (encA (D.take k)) ∧ Row wr w.heap.size 36 4 (.slice A4 D.length cap4) D.length (opsC D) ∧ Fr [] w wr) (fun i _ => D.length - (intOf i).toNat)
    case atStart => exact ⟨0, Nat.zero_le _, rfl, _, h2, row2, F2⟩
    case round =>
      obtain ⟨k, hk, rfl, v, h3, row3, F3⟩ := hrel
      clear h2 row2 F2
      by_cases hlt : k < D.length
      · have hg := hgood _ (List.getElem_mem hlt)
        have hrd := row3.rd.1
        obtain ⟨g, o, rfl, hc⟩ := hrd (by intro h; have := congrArg List.length h; rw [opsC_length, List.length_nil] at this; omega)
        have hat := fun j => opsC_at D k j hlt
        have e1 := take_succ_op hlt
        have e2 := encA_take_le D (k + 1)
        have hrow3 := row3
        generalize D[k] = op at *
        obtain ⟨kd, num, x, OA, om, oc, ol⟩ := op
        have c0 := hc (k * 4 + 0) (.int .i64 kd) (by rw [hat 0 (by omega)]; rfl)
        have c1 := hc (k * 4 + 1) (.int .i64 num) (by rw [hat 1 (by omega)]; rfl)
        have c2 := hc (k * 4 + 2) (.int .u64 x) (by rw [hat 2 (by omega)]; rfl)
        have c3 := hc (k * 4 + 3) (.slice OA om oc) (by rw [hat 3 (by omega)]; rfl)
        simp only [← Nat.add_assoc, Nat.add_zero] at c0 c1 c2 c3
        clear hat hc hrd
        go_upto_block 4 with fail
        go_cut [] from 95 to 125 (fun wx => ∃ v2, Wrt wx P P v2 ((encA D).length + 3) false (encA (D.take (k + 1))) ∧ Row wx w.heap.size 36 4 (.slice (some ⟨g, o, none⟩) D.length cap4) D.length (opsC D) ∧ Fr [] w wx)
        case first =>
          have hpne : ∀ q, v.ownBlock = some q → (Value.slice (some ⟨g, o, none⟩) D.length cap4).ownBlock ≠ some q := h3.2.1.ne_row row3 (by decide)
          have hp1 : (Value.slice (some ⟨g, o, none⟩) D.length cap4).ownBlock ≠ some P := row3.ne_blk h3.1 (by decide)
          have fin : ∀ (wx : World) (q : List UInt8), q = encA (D.take (k + 1)) → WPost wr wx P P v ((encA D).length + 3) q → ∃ v2, Wrt wx P P v2 ((encA D).length + 3) false (encA (D.take (k + 1))) ∧ Row wx w.heap.size 36 4 (.slice (some ⟨g, o, none⟩) D.length cap4) D.length (opsC D) ∧ Fr [] w wx := by
            rintro wx q rfl ⟨v2, r1, r2, r3⟩
            refine ⟨v2, r1, row3.keep r2 (fun q hq hm => ?_), F3.trans r2 (fun i hi => .inr ?_)⟩
            · rcases List.mem_cons.1 hm with rfl | hm
              · exact hp1 hq
              · exact hpne q (mem_own.1 hm) hq
            · rcases List.mem_cons.1 hi with rfl | hi
              · exact hP2
              · have := (h3.vlt i (mem_own.1 hi)).1; omega
          rcases hg with ⟨⟨hkd, n, hnum, hw, hx⟩ | ⟨hkd, hom⟩, hok⟩
          · have hkd' : kd = 1 := hkd
            have hnum' : num = n := hnum
            subst hkd' hnum'
            have ek : kEnc ⟨1, n, x, OA, om, oc, ol⟩ = leB n x := by simp [kEnc]
            rw [ek] at e1
            have hfit : (encA (D.take k)).length + n ≤ (encA D).length := by have := congrArg List.length e1; rw [List.length_append, leB_length] at this; omega
            have cc : ∀ wy, Fr [] wr wy → Calls Try.prog 21 #[.pointer (some ⟨P, 0, none⟩), .int .i64 n, .int .u64 x] wy fun e w' => e = .returned (.tuple #[]) ∧ WPost wy w' P P v ((encA D).length + 3) (encA (D.take k) ++ leB n x) := fun wy hy => wUint_ok (h3.keep_nil hy) n x hw hok.x hx (by omega)
            have E1 := Lib.hid e1
            clear e1 hx hw hnum hkd
            go_wp2_with fail
            go_region_with (go_at_call 21; refine (cc _ ((Fr.refl [] _).drew)).mono ?_; rintro e w7 ⟨rfl, x7⟩)
            all_goals
              go_wp2_with fail
              go_meet
              exact fin _ _ E1.out.symm (WPost.trans ((Fr.refl _ _).drew) (fun g hg => .inl hg) x7)
          · have hkd' : kd = 2 := hkd
            have hom' : om < 1000 := hom
            subst hkd'
            have ek : kEnc ⟨2, num, x, OA, om, oc, ol⟩ = ol := by simp [kEnc]
            rw [ek] at e1
            have hfit : (encA (D.take k)).length + om ≤ (encA D).length := by have := congrArg List.length e1; have h := hok.b.len; dsimp only at h; rw [List.length_append] at this; omega
            have cc := wBytes_ok h3 OA om oc ol hok.b.len (hok.b.rd.keep_nil F3) hok.b.nil (fun g o e hne => by have := hok.b.blk g o e hne; omega) (by omega)
            have E1 := Lib.hid e1
            clear e1 hom hkd
            go_wp2_with fail
            refine cc.mono ?_
            rintro e w7 ⟨rfl, x7⟩
            go_wp2_with fail
            go_meet
            exact fin _ _ E1.out.symm x7
        case rest =>
          obtain ⟨v2, g1, g2, g3⟩ := hcut
          go_wp2
          exact ⟨⟨k + 1, by omega, by go_num, v2, g1, g2, g3⟩, by simp [intOf]; omega⟩
      · obtain rfl : k = D.length := by omega
        rw [List.take_length] at h3
        go_wp2_with fail
        have cc := wDone_ok h3
        rw [show (encA D).length + 3 - (encA D).length = 3 by omega] at cc
        refine cc.mono ?_
        clear cc
        rintro e w4 ⟨r4, rfl, h4, f4⟩
        have F4 := F3.trans_nil f4
        have row4 := row3.keep_nil f4
        obtain ⟨R4, rc4, rfl, -, -, rd4, -, -⟩ := h4.shape
        have n4 := h4.rd.2.2
        have hl4 : (encA D ++ List.replicate 3 0).length = (encA D).length + 3 := by simp
        clear h3 row3 F3
        go_wp2_with fail
        refine (newReader_any R4 (encA D ++ List.replicate 3 0) ((encA D).length + 3) rc4 w4 hl4 rd4 n4 (by omega)).mono ?_
        rintro e w5 ⟨p5, G5, rfl, h5, f5, z5, g5⟩
        have F5 := F4.trans_nil f5
        have row5 := row4.keep_nil f5
        have p5w : w.heap.size ≤ p5 := by have := F4.size; omega
        clear h4 f4 F4 f5 row4 rd4 n4 hl4
        go_wp2_with fail
        go_loopw [12] (fun i wr => ∃ k : Nat, k ≤ D.length ∧ i = .int .i64 k ∧ Rdr 95 wr p5 G5 (encA (D.drop k) ++ List.replicate 3 0) false ∧ Row wr w.heap.size 36 4 (.slice A4 D.length cap4) D.length (opsC D) ∧ Fr [] w wr ∧ w5.heap.size ≤ wr.heap.size) (fun i _ => D.length - (intOf i).toNat)
        case atStart => exact ⟨0, Nat.zero_le _, rfl, h5, row5, F5, Nat.le_refl _⟩
        case round =>
          obtain ⟨k, hk, rfl, h6, row6, F6, s6⟩ := hrel
          clear h5 row5 F5
          by_cases hlt : k < D.length
          · have hg := hgood _ (List.getElem_mem hlt)
            have hrd := row6.rd.1
            obtain ⟨g, o, rfl, hc⟩ := hrd (by intro h; have := congrArg List.length h; rw [opsC_length, List.length_nil] at this; omega)
            have hat := fun j => opsC_at D k j hlt
            have e1 := encA_split hlt
            have hgp : g ≠ p5 := fun h => by
              obtain ⟨_, _, b5, _⟩ := h6
              exact row6.ne_blk b5 (by decide) (by simp [Value.ownBlock, h])
            generalize D[k] = op at *
            obtain ⟨kd, num, x, OA, om, oc, ol⟩ := op
            have c0 := hc (k * 4 + 0) (.int .i64 kd) (by rw [hat 0 (by omega)]; rfl)
            have c1 := hc (k * 4 + 1) (.int .i64 num) (by rw [hat 1 (by omega)]; rfl)
            have c2 := hc (k * 4 + 2) (.int .u64 x) (by rw [hat 2 (by omega)]; rfl)
            have c3 := hc (k * 4 + 3) (.slice OA om oc) (by rw [hat 3 (by omega)]; rfl)
            simp only [← Nat.add_assoc, Nat.add_zero] at c0 c1 c2 c3
            clear hat hc hrd
            rw [e1, List.append_assoc] at h6
            clear e1
            go_upto_block 6 with fail
            go_cut [] from 146 to 198 (fun wx => Rdr 95 wx p5 G5 (encA (D.drop (k + 1)) ++ List.replicate 3 0) false ∧ Row wx w.heap.size 36 4 (.slice (some ⟨g, o, none⟩) D.length cap4) D.length (opsC D) ∧ Fr [] w wx ∧ w5.heap.size ≤ wx.heap.size)
            case first =>
              generalize encA (D.drop (k + 1)) ++ List.replicate 3 0 = rest at *
              have fin : ∀ (wx : World), Fr [p5] wr wx → Rdr 95 wx p5 G5 rest false → Rdr 95 wx p5 G5 rest false ∧ Row wx w.heap.size 36 4 (.slice (some ⟨g, o, none⟩) D.length cap4) D.length (opsC D) ∧ Fr [] w wx ∧ w5.heap.size ≤ wx.heap.size := fun wx hf hr =>
                ⟨hr, row6.keep hf (fun q hq => by simp [Value.ownBlock] at hq; simp; omega), F6.trans hf (fun i hi => .inr (by simp at hi; omega)), by have := hf.size; omega⟩
              rcases hg with ⟨⟨hkd, n, hnum, hw, hx⟩ | ⟨hkd, hom⟩, hok⟩
              · have hkd' : kd = 1 := hkd
                have hnum' : num = n := hnum
                subst hkd' hnum'
                have ek : kEnc ⟨1, n, x, OA, om, oc, ol⟩ = leB n x := by simp [kEnc]
                rw [ek] at h6
                have cc := fun wy (hy : Fr [] wr wy) => rUint_ok (h6.keep hy (by simp) (by simp)) n (by simp [leB_length]) hw
                have t1 : (leB n x ++ rest).take n = leB n x := by rw [List.take_append_of_le_length (by rw [leB_length]; omega), List.take_of_length_le (by rw [leB_length]; omega)]
                have t2 : (leB n x ++ rest).drop n = rest := by rw [List.drop_append_of_le_length (by rw [leB_length]; omega), List.drop_of_length_le (by rw [leB_length]; omega), List.nil_append]
                rw [t1, t2, leN_leB n x hx] at cc
                clear t1 t2 ek hx hw hnum hkd
                go_wp2_with fail
                have hxx : ((x : Int) != (x : Int)) = false := by simp
                refine wp_region_held_drew (S := fun w' => w'.cell? ⟨g, o + k * 4, none⟩ = some (.int .i64 1) ∧ w'.cell? ⟨g, o + k * 4 + 1, none⟩ = some (.int .i64 n) ∧ w'.cell? ⟨g, o + k * 4 + 2, none⟩ = some (.int .u64 x)) (by kernel_rfl) ⟨c0, c1, c2⟩ (fun hHeld => ?_)
                refine take_w 0 (some 152) (v := ?_) rfl rfl (by kernel_rfl) (by kernel_rfl) (by kernel_rfl) (fun _ _ _ h => h) (by rfl) ?_ hHeld ?_
                rotate_left
                · (intro w hSw; (try dsimp only at hSw); go_simp; try with_reducible rfl)
                simp only [Act.put, List.setIfInBounds_toArray, List.set_cons_zero, List.set_cons_succ]
                refine take_w 1 (some 153) (v := ?_) rfl rfl (by kernel_rfl) (by kernel_rfl) (by kernel_rfl) (fun _ _ _ h => h) (by rfl) ?_ hHeld ?_
                rotate_left
                · (intro w hSw; (try dsimp only at hSw); go_simp; try with_reducible rfl)
                simp only [Act.put, List.setIfInBounds_toArray, List.set_cons_zero, List.set_cons_succ]
                refine take_w 2 (some 154) (v := ?_) rfl rfl (by kernel_rfl) (by kernel_rfl) (by kernel_rfl) (fun _ _ _ h => h) (by rfl) ?_ hHeld ?_
                rotate_left
                · (intro w hSw; (try dsimp only at hSw); go_simp; try with_reducible rfl)
                simp only [Act.put, List.setIfInBounds_toArray, List.set_cons_zero, List.set_cons_succ]
                refine take_w 3 (some 155) (v := ?_) rfl rfl (by kernel_rfl) (by kernel_rfl) (by kernel_rfl) (fun _ _ _ h => h) (by rfl) ?_ hHeld ?_
                rotate_left
                · (intro w hSw; (try dsimp only at hSw); go_simp; try with_reducible rfl)
                simp only [Act.put, List.setIfInBounds_toArray, List.set_cons_zero, List.set_cons_succ]
                refine take_w 4 (some 156) (v := ?_) rfl rfl (by kernel_rfl) (by kernel_rfl) (by kernel_rfl) (fun _ _ _ h => h) (by rfl) ?_ hHeld ?_
                rotate_left
                · (intro w hSw; (try dsimp only at hSw); go_simp; try with_reducible rfl)
                simp only [Act.put, List.setIfInBounds_toArray, List.set_cons_zero, List.set_cons_succ]
                refine take_w 5 (some 157) (v := ?_) rfl rfl (by kernel_rfl) (by kernel_rfl) (by kernel_rfl) (fun _ _ _ h => h) (by rfl) ?_ hHeld ?_
                rotate_left
                · (intro w hSw; (try dsimp only at hSw); go_simp; try with_reducible rfl)
                simp only [Act.put, List.setIfInBounds_toArray, List.set_cons_zero, List.set_cons_succ]
                refine take_w 6 (some 158) (v := ?_) rfl rfl (by kernel_rfl) (by kernel_rfl) (by kernel_rfl) (fun _ _ _ h => h) (by rfl) ?_ hHeld ?_
                rotate_left
                · (intro w hSw; (try dsimp only at hSw); go_simp; try with_reducible rfl)
                simp only [Act.put, List.setIfInBounds_toArray, List.set_cons_zero, List.set_cons_succ]
                refine take_w 7 (some 159) (v := ?_) rfl rfl (by kernel_rfl) (by kernel_rfl) (by kernel_rfl) (fun _ _ _ h => h) (by rfl) ?_ hHeld ?_
                rotate_left
                · (intro w hSw; (try dsimp only at hSw); go_simp; try with_reducible rfl)
                simp only [Act.put, List.setIfInBounds_toArray, List.set_cons_zero, List.set_cons_succ]
                refine take_w 8 (some 160) (v := ?_) rfl rfl (by kernel_rfl) (by kernel_rfl) (by kernel_rfl) (fun _ _ _ h => h) (by rfl) ?_ hHeld ?_
                rotate_left
                · (intro w hSw; (try dsimp only at hSw); go_simp; try with_reducible rfl)
                simp only [Act.put, List.setIfInBounds_toArray, List.set_cons_zero, List.set_cons_succ]
                refine take_w 9 (some 161) (v := ?_) rfl rfl (by kernel_rfl) (by kernel_rfl) (by kernel_rfl) (fun _ _ _ h => h) (by rfl) ?_ hHeld ?_
                rotate_left
                · (intro w hSw; (try dsimp only at hSw); go_simp; try with_reducible rfl)
                simp only [Act.put, List.setIfInBounds_toArray, List.set_cons_zero, List.set_cons_succ]
                refine take_w 10 (some 162) (v := ?_) rfl rfl (by kernel_rfl) (by kernel_rfl) (by kernel_rfl) (fun _ _ _ h => h) (by rfl) ?_ hHeld ?_
                rotate_left
                · (intro w hSw; (try dsimp only at hSw); go_simp; try with_reducible rfl)
                simp only [Act.put, List.setIfInBounds_toArray, List.set_cons_zero, List.set_cons_succ]
                refine take_w 11 (some 163) (v := ?_) rfl rfl (by kernel_rfl) (by kernel_rfl) (by kernel_rfl) (fun _ _ _ h => h) (by rfl) ?_ hHeld ?_
                rotate_left
                · (intro w hSw; (try dsimp only at hSw); go_simp; try with_reducible rfl)
                simp only [Act.put, List.setIfInBounds_toArray, List.set_cons_zero, List.set_cons_succ]
                refine take_w 12 (some 164) (v := ?_) rfl rfl (by kernel_rfl) (by kernel_rfl) (by kernel_rfl) (fun _ _ _ h => h) (by rfl) ?_ hHeld ?_
                rotate_left
                · (intro w hSw; (try dsimp only at hSw); go_simp; try with_reducible rfl)
                simp only [Act.put, List.setIfInBounds_toArray, List.set_cons_zero, List.set_cons_succ]
                refine take_w 14 (some 166) (v := ?_) rfl rfl (by kernel_rfl) (by kernel_rfl) (by kernel_rfl) (fun _ _ _ h => h) (by rfl) ?_ hHeld ?_
                rotate_left
                · (intro w hSw; (try dsimp only at hSw); go_simp; try with_reducible rfl)
                simp only [Act.put, List.setIfInBounds_toArray, List.set_cons_zero, List.set_cons_succ]
                refine take_w 15 (some 167) (v := ?_) rfl rfl (by kernel_rfl) (by kernel_rfl) (by kernel_rfl) (fun _ _ _ h => h) (by rfl) ?_ hHeld ?_
                rotate_left
                · (intro w hSw; (try dsimp only at hSw); go_simp; try with_reducible rfl)
                simp only [Act.put, List.setIfInBounds_toArray, List.set_cons_zero, List.set_cons_succ]
                refine take_w 16 (some 168) (v := ?_) rfl rfl (by kernel_rfl) (by kernel_rfl) (by kernel_rfl) (fun _ _ _ h => h) (by rfl) ?_ hHeld ?_
                rotate_left
                · (intro w hSw; (try dsimp only at hSw); go_simp; try with_reducible rfl)
                simp only [Act.put, List.setIfInBounds_toArray, List.set_cons_zero, List.set_cons_succ]
                refine take_w 17 (some 169) (v := ?_) rfl rfl (by kernel_rfl) (by kernel_rfl) (by kernel_rfl) (fun _ _ _ h => h) (by rfl) ?_ hHeld ?_
                rotate_left
                · (intro w hSw; (try dsimp only at hSw); go_simp; try with_reducible rfl)
                simp only [Act.put, List.setIfInBounds_toArray, List.set_cons_zero, List.set_cons_succ]
                refine take_w 18 (some 170) (v := ?_) rfl rfl (by kernel_rfl) (by kernel_rfl) (by kernel_rfl) (fun _ _ _ h => h) (by rfl) ?_ hHeld ?_
                rotate_left
                · (intro w hSw; (try dsimp only at hSw); go_simp; try with_reducible rfl)
                simp only [Act.put, List.setIfInBounds_toArray, List.set_cons_zero, List.set_cons_succ]
                refine take_c 13 rfl (by kernel_rfl) (by rfl) (fun K hK => ?_)
                go_simp
                refine (cc _ ((Fr.refl [] _).drew)).mono ?_
                rintro e w7 ⟨rfl, x7, f7⟩
                try dsimp only
                refine hK.out _ _ ⟨f7.cell (p := ⟨g, o + k * 4, none⟩) (by simpa using hgp) c0, f7.cell (p := ⟨g, o + k * 4 + 1, none⟩) (by simpa using hgp) c1, f7.cell (p := ⟨g, o + k * 4 + 2, none⟩) (by simpa using hgp) c2⟩ (fun hHeld => ?_)
                clear hK K
                try simp only [Act.put, List.setIfInBounds_toArray, List.set_cons_zero, List.set_cons_succ]
                refine take_w 19 (some 171) (v := ?_) rfl rfl (by kernel_rfl) (by kernel_rfl) (by kernel_rfl) (fun _ _ _ h => h) (by rfl) ?_ hHeld ?_
                rotate_left
                · (intro w hSw; (try dsimp only at hSw); go_simp; try with_reducible rfl)
                simp only [Act.put, List.setIfInBounds_toArray, List.set_cons_zero, List.set_cons_succ]
                refine take_w 20 (some 172) (v := ?_) rfl rfl (by kernel_rfl) (by kernel_rfl) (by kernel_rfl) (fun _ _ _ h => h) (by rfl) ?_ hHeld ?_
                rotate_left
                · (intro w hSw; (try dsimp only at hSw); go_simp; try with_reducible rfl)
                simp only [Act.put, List.setIfInBounds_toArray, List.set_cons_zero, List.set_cons_succ]
                refine take_w 21 (some 173) (v := ?_) rfl rfl (by kernel_rfl) (by kernel_rfl) (by kernel_rfl) (fun _ _ _ h => h) (by rfl) ?_ hHeld ?_
                rotate_left
                · (intro w hSw; (try dsimp only at hSw); go_simp; try with_reducible rfl)
                simp only [Act.put, List.setIfInBounds_toArray, List.set_cons_zero, List.set_cons_succ]
                refine take_w 22 (some 174) (v := ?_) rfl rfl (by kernel_rfl) (by kernel_rfl) (by kernel_rfl) (fun _ _ _ h => h) (by rfl) ?_ hHeld ?_
                rotate_left
                · (intro w hSw; (try dsimp only at hSw); go_simp; try with_reducible rfl)
                simp only [Act.put, List.setIfInBounds_toArray, List.set_cons_zero, List.set_cons_succ]
                refine take_w 23 (some 175) (v := ?_) rfl rfl (by kernel_rfl) (by kernel_rfl) (by kernel_rfl) (fun _ _ _ h => h) (by rfl) ?_ hHeld ?_
                rotate_left
                · (intro w hSw; (try dsimp only at hSw); go_simp; try with_reducible rfl)
                simp only [Act.put, List.setIfInBounds_toArray, List.set_cons_zero, List.set_cons_succ]
                refine take_w 24 (some 176) (v := ?_) rfl rfl (by kernel_rfl) (by kernel_rfl) (by kernel_rfl) (fun _ _ _ h => h) (by rfl) ?_ hHeld ?_
                rotate_left
                · (intro w hSw; (try dsimp only at hSw); go_simp; try with_reducible rfl)
                simp only [Act.put, List.setIfInBounds_toArray, List.set_cons_zero, List.set_cons_succ]
                refine take_w 25 (some 177) (v := ?_) rfl rfl (by kernel_rfl) (by kernel_rfl) (by kernel_rfl) (fun _ _ _ h => h) (by rfl) ?_ hHeld ?_
                rotate_left
                · (intro w hSw; (try dsimp only at hSw); go_simp; try with_reducible rfl)
                simp only [Act.put, List.setIfInBounds_toArray, List.set_cons_zero, List.set_cons_succ]
                refine take_w 26 (some 178) (v := ?_) rfl rfl (by kernel_rfl) (by kernel_rfl) (by kernel_rfl) (fun _ _ _ h => h) (by rfl) ?_ hHeld ?_
                rotate_left
                · (intro w hSw; (try dsimp only at hSw); go_simp; try with_reducible rfl)
                simp only [Act.put, List.setIfInBounds_toArray, List.set_cons_zero, List.set_cons_succ]
                refine take_w 27 (some 179) (v := ?_) rfl rfl (by kernel_rfl) (by kernel_rfl) (by kernel_rfl) (fun _ _ _ h => h) (by rfl) ?_ hHeld ?_
                rotate_left
                · (intro w hSw; (try dsimp only at hSw); go_simp; try with_reducible rfl)
                simp only [Act.put, List.setIfInBounds_toArray, List.set_cons_zero, List.set_cons_succ]
                refine take_w 28 (some 180) (v := ?_) rfl rfl (by kernel_rfl) (by kernel_rfl) (by kernel_rfl) (fun _ _ _ h => h) (by rfl) ?_ hHeld ?_
                rotate_left
                · (intro w hSw; (try dsimp only at hSw); go_simp; try with_reducible rfl)
                simp only [Act.put, List.setIfInBounds_toArray, List.set_cons_zero, List.set_cons_succ]
                refine take_u 29 (some 181) rfl rfl (by kernel_rfl) (by kernel_rfl) (by kernel_rfl) (fun _ _ _ h => h) (by rfl) hHeld ?_
                simp only [Act.put, List.setIfInBounds_toArray, List.set_cons_zero, List.set_cons_succ]
                refine take_u 30 (some 182) rfl rfl (by kernel_rfl) (by kernel_rfl) (by kernel_rfl) (fun _ _ _ h => h) (by rfl) hHeld ?_
                simp only [Act.put, List.setIfInBounds_toArray, List.set_cons_zero, List.set_cons_succ]
                refine take_u 31 (some 183) rfl rfl (by kernel_rfl) (by kernel_rfl) (by kernel_rfl) (fun _ _ _ h => h) (by rfl) hHeld ?_
                simp only [Act.put, List.setIfInBounds_toArray, List.set_cons_zero, List.set_cons_succ]
                refine take_u 32 (some 184) rfl rfl (by kernel_rfl) (by kernel_rfl) (by kernel_rfl) (fun _ _ _ h => h) (by rfl) hHeld ?_
                simp only [Act.put, List.setIfInBounds_toArray, List.set_cons_zero, List.set_cons_succ]
                refine take_u 33 (some 185) rfl rfl (by kernel_rfl) (by kernel_rfl) (by kernel_rfl) (fun _ _ _ h => h) (by rfl) hHeld ?_
                simp only [Act.put, List.setIfInBounds_toArray, List.set_cons_zero, List.set_cons_succ]
                refine take_u 34 (some 186) rfl rfl (by kernel_rfl) (by kernel_rfl) (by kernel_rfl) (fun _ _ _ h => h) (by rfl) hHeld ?_
                simp only [Act.put, List.setIfInBounds_toArray, List.set_cons_zero, List.set_cons_succ]
                refine take_u 35 (some 187) rfl rfl (by kernel_rfl) (by kernel_rfl) (by kernel_rfl) (fun _ _ _ h => h) (by rfl) hHeld ?_
                simp only [Act.put, List.setIfInBounds_toArray, List.set_cons_zero, List.set_cons_succ]
                refine take_u 36 (some 188) rfl rfl (by kernel_rfl) (by kernel_rfl) (by kernel_rfl) (fun _ _ _ h => h) (by rfl) hHeld ?_
                simp only [Act.put, List.setIfInBounds_toArray, List.set_cons_zero, List.set_cons_succ]
                refine take_u 37 (some 189) rfl rfl (by kernel_rfl) (by kernel_rfl) (by kernel_rfl) (fun _ _ _ h => h) (by rfl) hHeld ?_
                simp only [Act.put, List.setIfInBounds_toArray, List.set_cons_zero, List.set_cons_succ]
                refine take_u 38 (some 190) rfl rfl (by kernel_rfl) (by kernel_rfl) (by kernel_rfl) (fun _ _ _ h => h) (by rfl) hHeld ?_
                simp only [Act.put, List.setIfInBounds_toArray, List.set_cons_zero, List.set_cons_succ]
                refine take_u 39 (some 191) rfl rfl (by kernel_rfl) (by kernel_rfl) (by kernel_rfl) (fun _ _ _ h => h) (by rfl) hHeld ?_
                simp only [Act.put, List.setIfInBounds_toArray, List.set_cons_zero, List.set_cons_succ]
                refine take_u 40 (some 192) rfl rfl (by kernel_rfl) (by kernel_rfl) (by kernel_rfl) (fun _ _ _ h => h) (by rfl) hHeld ?_
                simp only [Act.put, List.setIfInBounds_toArray, List.set_cons_zero, List.set_cons_succ]
                refine take_u 41 (some 193) rfl rfl (by kernel_rfl) (by kernel_rfl) (by kernel_rfl) (fun _ _ _ h => h) (by rfl) hHeld ?_
                simp only [Act.put, List.setIfInBounds_toArray, List.set_cons_zero, List.set_cons_succ]
                refine take_u 42 (some 194) rfl rfl (by kernel_rfl) (by kernel_rfl) (by kernel_rfl) (fun _ _ _ h => h) (by rfl) hHeld ?_
                simp only [Act.put, List.setIfInBounds_toArray, List.set_cons_zero, List.set_cons_succ]
                refine take_u 43 (some 195) rfl rfl (by kernel_rfl) (by kernel_rfl) (by kernel_rfl) (fun _ _ _ h => h) (by rfl) hHeld ?_
                simp only [Act.put, List.setIfInBounds_toArray, List.set_cons_zero, List.set_cons_succ]
                refine take_u 44 (some 196) rfl rfl (by kernel_rfl) (by kernel_rfl) (by kernel_rfl) (fun _ _ _ h => h) (by rfl) hHeld ?_
                simp only [Act.put, List.setIfInBounds_toArray, List.set_cons_zero, List.set_cons_succ]
                refine take_w 45 (some 197) (v := ?_) rfl rfl (by kernel_rfl) (by kernel_rfl) (by kernel_rfl) (fun _ _ _ h => h) (by rfl) ?_ hHeld ?_
                rotate_left
                · (intro w hSw; (try dsimp only at hSw); go_simp; try with_reducible rfl)
                simp only [Act.put, List.setIfInBounds_toArray, List.set_cons_zero, List.set_cons_succ]
                refine take_w 46 (some 198) (v := ?_) rfl rfl (by kernel_rfl) (by kernel_rfl) (by kernel_rfl) (fun _ _ _ h => h) (by rfl) ?_ hHeld ?_
                rotate_left
                · (intro w hSw; (try dsimp only at hSw); go_simp; try with_reducible rfl)
                simp only [Act.put, List.setIfInBounds_toArray, List.set_cons_zero, List.set_cons_succ]
                refine wpAnyH_done (by kernel_rfl) ?_ _
                go_wp2_with fail
                go_meet
                exact fin w7 (((Fr.refl _ _).drew).trans f7 (fun i hi => .inl hi)) x7
              · have hkd' : kd = 2 := hkd
                have hom' : om < 1000 := hom
                subst hkd'
                have ek : kEnc ⟨2, num, x, OA, om, oc, ol⟩ = ol := by simp [kEnc]
                have hl := hok.b.len
                dsimp only at hl
                rw [ek] at h6
                have cc := fun wy (hy : Fr [] wr wy) => rBytes_ok (h6.keep hy (by simp) (by simp)) om (by rw [List.length_append]; omega)
                have t1 : (ol ++ rest).take om = ol := by rw [List.take_append_of_le_length (by omega), List.take_of_length_le (by omega)]
                have t2 : (ol ++ rest).drop om = rest := by rw [List.drop_append_of_le_length (by omega), List.drop_of_length_le (by omega), List.nil_append]
                rw [t1, t2] at cc
                have keepB : ∀ wy, Fr [p5] wr wy → (convert 22 9 (.slice OA om oc)).run Try.prog wy = .ok (.string ⟨ol.toArray⟩) wy := fun wy hy => by
                  refine strB wy OA ol om oc hl ?_ hok.b.nil
                  by_cases hx : ol = []
                  · rw [hx]; exact Rd.nil _ _
                  · exact (hok.b.rd.keep_nil F6).keep hy (fun g' o' e' hm => by
                      have := hok.b.blk g' o' e' hx
                      simp at hm; omega)
                have keep0 := keepB _ ((Fr.refl _ wr).drew)
                clear t1 t2 ek hkd hl
                go_wp2_with fail
                refine wp_region_held_drew (S := fun w' => w'.cell? ⟨g, o + k * 4, none⟩ = some (.int .i64 2) ∧ w'.cell? ⟨g, o + k * 4 + 3, none⟩ = some (.slice OA om oc) ∧ (convert 22 9 (.slice OA om oc)).run Try.prog w' = .ok (.string ⟨ol.toArray⟩) w') (by kernel_rfl) ⟨c0, c3, keep0⟩ (fun hHeld => ?_)
                refine take_w 0 (some 152) (v := ?_) rfl rfl (by kernel_rfl) (by kernel_rfl) (by kernel_rfl) (fun _ _ _ h => h) (by rfl) ?_ hHeld ?_
                rotate_left
                · (intro w hSw; (try dsimp only at hSw); go_simp; try with_reducible rfl)
                simp only [Act.put, List.setIfInBounds_toArray, List.set_cons_zero, List.set_cons_succ]
                refine take_w 1 (some 153) (v := ?_) rfl rfl (by kernel_rfl) (by kernel_rfl) (by kernel_rfl) (fun _ _ _ h => h) (by rfl) ?_ hHeld ?_
                rotate_left
                · (intro w hSw; (try dsimp only at hSw); go_simp; try with_reducible rfl)
                simp only [Act.put, List.setIfInBounds_toArray, List.set_cons_zero, List.set_cons_succ]
                refine take_w 2 (some 154) (v := ?_) rfl rfl (by kernel_rfl) (by kernel_rfl) (by kernel_rfl) (fun _ _ _ h => h) (by rfl) ?_ hHeld ?_
                rotate_left
                · (intro w hSw; (try dsimp only at hSw); go_simp; try with_reducible rfl)
                simp only [Act.put, List.setIfInBounds_toArray, List.set_cons_zero, List.set_cons_succ]
                refine take_w 3 (some 155) (v := ?_) rfl rfl (by kernel_rfl) (by kernel_rfl) (by kernel_rfl) (fun _ _ _ h => h) (by rfl) ?_ hHeld ?_
                rotate_left
                · (intro w hSw; (try dsimp only at hSw); go_simp; try with_reducible rfl)
                simp only [Act.put, List.setIfInBounds_toArray, List.set_cons_zero, List.set_cons_succ]
                refine take_w 4 (some 156) (v := ?_) rfl rfl (by kernel_rfl) (by kernel_rfl) (by kernel_rfl) (fun _ _ _ h => h) (by rfl) ?_ hHeld ?_
                rotate_left
                · (intro w hSw; (try dsimp only at hSw); go_simp; try with_reducible rfl)
                simp only [Act.put, List.setIfInBounds_toArray, List.set_cons_zero, List.set_cons_succ]
                refine take_w 5 (some 157) (v := ?_) rfl rfl (by kernel_rfl) (by kernel_rfl) (by kernel_rfl) (fun _ _ _ h => h) (by rfl) ?_ hHeld ?_
                rotate_left
                · (intro w hSw; (try dsimp only at hSw); go_simp; try with_reducible rfl)
                simp only [Act.put, List.setIfInBounds_toArray, List.set_cons_zero, List.set_cons_succ]
                refine take_w 6 (some 158) (v := ?_) rfl rfl (by kernel_rfl) (by kernel_rfl) (by kernel_rfl) (fun _ _ _ h => h) (by rfl) ?_ hHeld ?_
                rotate_left
                · (intro w hSw; (try dsimp only at hSw); go_simp; try with_reducible rfl)
                simp only [Act.put, List.setIfInBounds_toArray, List.set_cons_zero, List.set_cons_succ]
                refine take_u 7 (some 159) rfl rfl (by kernel_rfl) (by kernel_rfl) (by kernel_rfl) (fun _ _ _ h => h) (by rfl) hHeld ?_
                simp only [Act.put, List.setIfInBounds_toArray, List.set_cons_zero, List.set_cons_succ]
                refine take_u 8 (some 160) rfl rfl (by kernel_rfl) (by kernel_rfl) (by kernel_rfl) (fun _ _ _ h => h) (by rfl) hHeld ?_
                simp only [Act.put, List.setIfInBounds_toArray, List.set_cons_zero, List.set_cons_succ]
                refine take_u 9 (some 161) rfl rfl (by kernel_rfl) (by kernel_rfl) (by kernel_rfl) (fun _ _ _ h => h) (by rfl) hHeld ?_
                simp only [Act.put, List.setIfInBounds_toArray, List.set_cons_zero, List.set_cons_succ]
                refine take_u 10 (some 162) rfl rfl (by kernel_rfl) (by kernel_rfl) (by kernel_rfl) (fun _ _ _ h => h) (by rfl) hHeld ?_
                simp only [Act.put, List.setIfInBounds_toArray, List.set_cons_zero, List.set_cons_succ]
                refine take_u 11 (some 163) rfl rfl (by kernel_rfl) (by kernel_rfl) (by kernel_rfl) (fun _ _ _ h => h) (by rfl) hHeld ?_
                simp only [Act.put, List.setIfInBounds_toArray, List.set_cons_zero, List.set_cons_succ]
                refine take_u 12 (some 164) rfl rfl (by kernel_rfl) (by kernel_rfl) (by kernel_rfl) (fun _ _ _ h => h) (by rfl) hHeld ?_
                simp only [Act.put, List.setIfInBounds_toArray, List.set_cons_zero, List.set_cons_succ]
                refine take_u 13 (some 165) rfl rfl (by kernel_rfl) (by kernel_rfl) (by kernel_rfl) (fun _ _ _ h => h) (by rfl) hHeld ?_
                simp only [Act.put, List.setIfInBounds_toArray, List.set_cons_zero, List.set_cons_succ]
                refine take_u 14 (some 166) rfl rfl (by kernel_rfl) (by kernel_rfl) (by kernel_rfl) (fun _ _ _ h => h) (by rfl) hHeld ?_
                simp only [Act.put, List.setIfInBounds_toArray, List.set_cons_zero, List.set_cons_succ]
                refine take_u 15 (some 167) rfl rfl (by kernel_rfl) (by kernel_rfl) (by kernel_rfl) (fun _ _ _ h => h) (by rfl) hHeld ?_
                simp only [Act.put, List.setIfInBounds_toArray, List.set_cons_zero, List.set_cons_succ]
                refine take_u 16 (some 168) rfl rfl (by kernel_rfl) (by kernel_rfl) (by kernel_rfl) (fun _ _ _ h => h) (by rfl) hHeld ?_
                simp only [Act.put, List.setIfInBounds_toArray, List.set_cons_zero, List.set_cons_succ]
                refine take_u 17 (some 169) rfl rfl (by kernel_rfl) (by kernel_rfl) (by kernel_rfl) (fun _ _ _ h => h) (by rfl) hHeld ?_
                simp only [Act.put, List.setIfInBounds_toArray, List.set_cons_zero, List.set_cons_succ]
                refine take_u 18 (some 170) rfl rfl (by kernel_rfl) (by kernel_rfl) (by kernel_rfl) (fun _ _ _ h => h) (by rfl) hHeld ?_
                simp only [Act.put, List.setIfInBounds_toArray, List.set_cons_zero, List.set_cons_succ]
                refine take_u 19 (some 171) rfl rfl (by kernel_rfl) (by kernel_rfl) (by kernel_rfl) (fun _ _ _ h => h) (by rfl) hHeld ?_
                simp only [Act.put, List.setIfInBounds_toArray, List.set_cons_zero, List.set_cons_succ]
                refine take_w 20 (some 172) (v := ?_) rfl rfl (by kernel_rfl) (by kernel_rfl) (by kernel_rfl) (fun _ _ _ h => h) (by rfl) ?_ hHeld ?_
                rotate_left
                · (intro w hSw; (try dsimp only at hSw); go_simp; try with_reducible rfl)
                simp only [Act.put, List.setIfInBounds_toArray, List.set_cons_zero, List.set_cons_succ]
                refine take_w 21 (some 173) (v := ?_) rfl rfl (by kernel_rfl) (by kernel_rfl) (by kernel_rfl) (fun _ _ _ h => h) (by rfl) ?_ hHeld ?_
                rotate_left
                · (intro w hSw; (try dsimp only at hSw); go_simp; try with_reducible rfl)
                simp only [Act.put, List.setIfInBounds_toArray, List.set_cons_zero, List.set_cons_succ]
                refine take_w 22 (some 174) (v := ?_) rfl rfl (by kernel_rfl) (by kernel_rfl) (by kernel_rfl) (fun _ _ _ h => h) (by rfl) ?_ hHeld ?_
                rotate_left
                · (intro w hSw; (try dsimp only at hSw); go_simp; try with_reducible rfl)
                simp only [Act.put, List.setIfInBounds_toArray, List.set_cons_zero, List.set_cons_succ]
                refine take_w 23 (some 175) (v := ?_) rfl rfl (by kernel_rfl) (by kernel_rfl) (by kernel_rfl) (fun _ _ _ h => h) (by rfl) ?_ hHeld ?_
                rotate_left
                · (intro w hSw; (try dsimp only at hSw); go_simp; try with_reducible rfl)
                simp only [Act.put, List.setIfInBounds_toArray, List.set_cons_zero, List.set_cons_succ]
                refine take_w 24 (some 176) (v := ?_) rfl rfl (by kernel_rfl) (by kernel_rfl) (by kernel_rfl) (fun _ _ _ h => h) (by rfl) ?_ hHeld ?_
                rotate_left
                · (intro w hSw; (try dsimp only at hSw); go_simp; try with_reducible rfl)
                simp only [Act.put, List.setIfInBounds_toArray, List.set_cons_zero, List.set_cons_succ]
                refine take_w 25 (some 177) (v := ?_) rfl rfl (by kernel_rfl) (by kernel_rfl) (by kernel_rfl) (fun _ _ _ h => h) (by rfl) ?_ hHeld ?_
                rotate_left
                · (intro w hSw; (try dsimp only at hSw); go_simp; try with_reducible rfl)
                simp only [Act.put, List.setIfInBounds_toArray, List.set_cons_zero, List.set_cons_succ]
                refine take_w 26 (some 178) (v := ?_) rfl rfl (by kernel_rfl) (by kernel_rfl) (by kernel_rfl) (fun _ _ _ h => h) (by rfl) ?_ hHeld ?_
                rotate_left
                · (intro w hSw; (try dsimp only at hSw); go_simp; try with_reducible rfl)
                simp only [Act.put, List.setIfInBounds_toArray, List.set_cons_zero, List.set_cons_succ]
                refine take_w 27 (some 179) (v := ?_) rfl rfl (by kernel_rfl) (by kernel_rfl) (by kernel_rfl) (fun _ _ _ h => h) (by rfl) ?_ hHeld ?_
                rotate_left
                · (intro w hSw; (try dsimp only at hSw); go_simp; try with_reducible rfl)
                simp only [Act.put, List.setIfInBounds_toArray, List.set_cons_zero, List.set_cons_succ]
                refine take_w 28 (some 180) (v := ?_) rfl rfl (by kernel_rfl) (by kernel_rfl) (by kernel_rfl) (fun _ _ _ h => h) (by rfl) ?_ hHeld ?_
                rotate_left
                · (intro w hSw; (try dsimp only at hSw); go_simp; try with_reducible rfl)
                simp only [Act.put, List.setIfInBounds_toArray, List.set_cons_zero, List.set_cons_succ]
                refine take_w 29 (some 181) (v := ?_) rfl rfl (by kernel_rfl) (by kernel_rfl) (by kernel_rfl) (fun _ _ _ h => h) (by rfl) ?_ hHeld ?_
                rotate_left
                · (intro w hSw; (try dsimp only at hSw); go_simp; try with_reducible rfl)
                simp only [Act.put, List.setIfInBounds_toArray, List.set_cons_zero, List.set_cons_succ]
                refine take_w 30 (some 182) (v := ?_) rfl rfl (by kernel_rfl) (by kernel_rfl) (by kernel_rfl) (fun _ _ _ h => h) (by rfl) ?_ hHeld ?_
                rotate_left
                · (intro w hSw; (try dsimp only at hSw); go_simp; try with_reducible rfl)
                simp only [Act.put, List.setIfInBounds_toArray, List.set_cons_zero, List.set_cons_succ]
                refine take_w 31 (some 183) (v := ?_) rfl rfl (by kernel_rfl) (by kernel_rfl) (by kernel_rfl) (fun _ _ _ h => h) (by rfl) ?_ hHeld ?_
                rotate_left
                · (intro w hSw; (try dsimp only at hSw); go_simp; try with_reducible rfl)
                simp only [Act.put, List.setIfInBounds_toArray, List.set_cons_zero, List.set_cons_succ]
                refine take_w 32 (some 184) (v := ?_) rfl rfl (by kernel_rfl) (by kernel_rfl) (by kernel_rfl) (fun _ _ _ h => h) (by rfl) ?_ hHeld ?_
                rotate_left
                · (intro w hSw; (try dsimp only at hSw); go_simp; try with_reducible rfl)
                simp only [Act.put, List.setIfInBounds_toArray, List.set_cons_zero, List.set_cons_succ]
                refine take_w 33 (some 185) (v := ?_) rfl rfl (by kernel_rfl) (by kernel_rfl) (by kernel_rfl) (fun _ _ _ h => h) (by rfl) ?_ hHeld ?_
                rotate_left
                · (intro w hSw; (try dsimp only at hSw); go_simp; try with_reducible rfl)
                simp only [Act.put, List.setIfInBounds_toArray, List.set_cons_zero, List.set_cons_succ]
                refine take_w 34 (some 186) (v := ?_) rfl rfl (by kernel_rfl) (by kernel_rfl) (by kernel_rfl) (fun _ _ _ h => h) (by rfl) ?_ hHeld ?_
                rotate_left
                · (intro w hSw; (try dsimp only at hSw); go_simp; try with_reducible rfl)
                simp only [Act.put, List.setIfInBounds_toArray, List.set_cons_zero, List.set_cons_succ]
                refine take_w 35 (some 187) (v := ?_) rfl rfl (by kernel_rfl) (by kernel_rfl) (by kernel_rfl) (fun _ _ _ h => h) (by rfl) ?_ hHeld ?_
                rotate_left
                · (intro w hSw; (try dsimp only at hSw); go_simp; try with_reducible rfl)
                simp only [Act.put, List.setIfInBounds_toArray, List.set_cons_zero, List.set_cons_succ]
                refine take_w 38 (some 190) (v := ?_) rfl rfl (by kernel_rfl) (by kernel_rfl) (by kernel_rfl) (fun _ _ _ h => h) (by rfl) ?_ hHeld ?_
                rotate_left
                · (intro w hSw; (try dsimp only at hSw); go_simp; try with_reducible rfl)
                simp only [Act.put, List.setIfInBounds_toArray, List.set_cons_zero, List.set_cons_succ]
                refine take_w 39 (some 191) (v := ?_) rfl rfl (by kernel_rfl) (by kernel_rfl) (by kernel_rfl) (fun _ _ _ h => h) (by rfl) ?_ hHeld ?_
                rotate_left
                · (intro w hSw; (try dsimp only at hSw); go_simp; try with_reducible rfl)
                simp only [Act.put, List.setIfInBounds_toArray, List.set_cons_zero, List.set_cons_succ]
                refine take_w 40 (some 192) (v := ?_) rfl rfl (by kernel_rfl) (by kernel_rfl) (by kernel_rfl) (fun _ _ _ h => h) (by rfl) ?_ hHeld ?_
                rotate_left
                · (intro w hSw; (try dsimp only at hSw); go_simp; try with_reducible rfl)
                simp only [Act.put, List.setIfInBounds_toArray, List.set_cons_zero, List.set_cons_succ]
                refine take_w 41 (some 193) (v := ?_) rfl rfl (by kernel_rfl) (by kernel_rfl) (by kernel_rfl) (fun _ _ _ h => h) (by rfl) ?_ hHeld ?_
                rotate_left
                · (intro w hSw; (try dsimp only at hSw); go_simp; try with_reducible rfl)
                simp only [Act.put, List.setIfInBounds_toArray, List.set_cons_zero, List.set_cons_succ]
                refine take_w 42 (some 194) (v := ?_) rfl rfl (by kernel_rfl) (by kernel_rfl) (by kernel_rfl) (fun _ _ _ h => h) (by rfl) ?_ hHeld ?_
                rotate_left
                · (intro w hSw; (try dsimp only at hSw); go_simp; try with_reducible rfl)
                simp only [Act.put, List.setIfInBounds_toArray, List.set_cons_zero, List.set_cons_succ]
                refine take_w 43 (some 195) (v := ?_) rfl rfl (by kernel_rfl) (by kernel_rfl) (by kernel_rfl) (fun _ _ _ h => h) (by rfl) ?_ hHeld ?_
                rotate_left
                · (intro w hSw; (try dsimp only at hSw); go_simp; try with_reducible rfl)
                simp only [Act.put, List.setIfInBounds_toArray, List.set_cons_zero, List.set_cons_succ]
                refine take_c 36 rfl (by kernel_rfl) (by rfl) (fun K hK => ?_)
                go_simp
                refine (cc _ ((Fr.refl [] _).drew)).mono ?_
                rintro e w7 ⟨v7, rfl, r7, x7, f7⟩
                try dsimp only
                have E7 := r7.str
                obtain ⟨A7, cap7, rfl, -, -, -, -, -⟩ := r7.shape
                refine hK.out _ _ ⟨f7.cell (p := ⟨g, o + k * 4, none⟩) (by simpa using hgp) c0, f7.cell (p := ⟨g, o + k * 4 + 3, none⟩) (by simpa using hgp) c3, keepB _ (((Fr.refl _ wr).drew).trans f7 (fun i hi => .inl hi))⟩ (fun hHeld => ?_)
                clear hK K
                try simp only [Act.put, List.setIfInBounds_toArray, List.set_cons_zero, List.set_cons_succ]
                refine take_c 37 rfl (by kernel_rfl) (by rfl) (fun K hK => ?_)
                go_simp
                refine hK.out _ _ hHeld (fun hHeld => ?_)
                clear hK K
                try simp only [Act.put, List.setIfInBounds_toArray, List.set_cons_zero, List.set_cons_succ]
                refine take_w 44 (some 196) (v := ?_) rfl rfl (by kernel_rfl) (by kernel_rfl) (by kernel_rfl) (fun _ _ _ h => h) (by rfl) ?_ hHeld ?_
                rotate_left
                · (intro w hSw; (try dsimp only at hSw); go_simp; try with_reducible rfl)
                simp only [Act.put, List.setIfInBounds_toArray, List.set_cons_zero, List.set_cons_succ]
                refine take_w 45 (some 197) (v := ?_) rfl rfl (by kernel_rfl) (by kernel_rfl) (by kernel_rfl) (fun _ _ _ h => h) (by rfl) ?_ hHeld ?_
                rotate_left
                · (intro w hSw; (try dsimp only at hSw); go_simp; try with_reducible rfl)
                simp only [Act.put, List.setIfInBounds_toArray, List.set_cons_zero, List.set_cons_succ]
                refine take_w 46 (some 198) (v := ?_) rfl rfl (by kernel_rfl) (by kernel_rfl) (by kernel_rfl) (fun _ _ _ h => h) (by rfl) ?_ hHeld ?_
                rotate_left
                · (intro w hSw; (try dsimp only at hSw); go_simp; try with_reducible rfl)
                simp only [Act.put, List.setIfInBounds_toArray, List.set_cons_zero, List.set_cons_succ]
                refine wpAnyH_done (by kernel_rfl) ?_ _
                go_wp2_with fail
                go_meet
                exact fin w7 (((Fr.refl _ _).drew).trans f7 (fun i hi => .inl hi)) x7
            case rest =>
              obtain ⟨g1, g2, g3, g4⟩ := hcut
              go_wp2
              exact ⟨⟨k + 1, by omega, by go_num, g1, g2, g3, g4⟩, by simp [intOf]; omega⟩
          · obtain rfl : k = D.length := by omega
            rw [List.drop_length] at h6
            have cL := rLeft_any h6
            have cD := rDone_any h6
            rw [show (encA [] ++ List.replicate 3 0 : List UInt8) = [0, 0, 0] from rfl] at cL cD
            rw [show doneE [0, 0, 0] false = 0 from rfl] at cD
            go_wp2_with fail
            refine cL.mono ?_
            rintro e w9 ⟨rfl, rfl⟩
            go_wp2_with fail
            refine cD.mono ?_
            rintro e w9 ⟨rfl, rfl⟩
            go_wp2
            go_ret
            exact ⟨rfl, F6⟩
end Go.Proofs.Ytmonedfafechcaa
