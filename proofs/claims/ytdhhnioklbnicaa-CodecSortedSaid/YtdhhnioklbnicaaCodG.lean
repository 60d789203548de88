/-
  Contracts of codec's Writer: Uint, Done.
-/
import Derived.Test.YtdhhnioklbnicaaCodF
set_option linter.unusedSimpArgs false
set_option linter.unusedVariables false
set_option linter.unnecessarySimpa false
namespace Go.Proofs.Ytdhhnioklbnicaa
open Go.RowKit

def leB (n x : Nat) : List UInt8 := (List.range n).map fun i => UInt8.ofNat (x / 256 ^ i % 256)
theorem leB_length (n x : Nat) : (leB n x).length = n := by simp [leB]
theorem leB_succ (n x : Nat) : leB (n + 1) x = leB n x ++ [UInt8.ofNat (x / 256 ^ n % 256)] := by simp [leB, List.range_succ]

theorem leB_byte (x k : Nat) : Value.int .u8 (IntKind.u8.wrap ((x : Int) / 2 ^ (8 * (k : Int)).toNat)) = bv (UInt8.ofNat (x / 256 ^ k % 256)) := by
  unfold bv
  have e : (8 * (k : Int)).toNat = 8 * k := by omega
  rw [e, pow256]
  have e2 : ((x : Int) / 2 ^ (8 * k)) = ((x / 2 ^ (8 * k) : Nat) : Int) := by push_cast; rfl
  rw [e2, IntKind.wrap_u8]
  congr 1
  have h : x / 2 ^ (8 * k) % 256 < 256 := Nat.mod_lt _ (by omega)
  simp [UInt8.toNat_ofNat', Nat.mod_eq_of_lt h]

section
variable {w : World} {p B : Nat} {v : Value} {size : Nat} {bad : Bool} {l : List UInt8}

theorem WPost.trans {w1 w2 : World} {v1 : Value} {q : List UInt8} (hf : Fr (p :: v.ownBlock.toList) w w1) (hv : ∀ g, v1.ownBlock = some g → v.ownBlock = some g ∨ w.heap.size ≤ g) (h : WPost w1 w2 p B v1 size q) : WPost w w2 p B v size q := by
  obtain ⟨v2, h1, h2, h3⟩ := h
  refine ⟨v2, h1, hf.trans h2 (fun i hi => ?_), fun g hg => ?_⟩
  · rcases List.mem_cons.1 hi with rfl | hi
    · exact .inl (by simp)
    · exact (hv i (mem_own.1 hi)).imp (fun h => List.mem_cons_of_mem _ (mem_own.2 h)) id
  · rcases h3 g hg with h | h
    · exact hv g h
    · exact .inr (by have := hf.size; omega)

theorem WPost.blk {w w' : World} {g : Nat} {p B size : Nat} {v : Value} {bad : Bool} {l q : List UInt8} (h : WPost w w' p B v size q) (h0 : Wrt w p B v size bad l) {T : TypeId} {cs : Array Value} (hb : Blk w g T cs) (h1 : T ≠ 110) (h2 : T ≠ 5) : Blk w' g T cs := by
  obtain ⟨v', a, f, b⟩ := h
  refine hb.keep f (fun hm => ?_)
  rcases List.mem_cons.1 hm with e | hm
  · exact hb.ne_ h0.1 h1 e
  · exact h0.2.1.ne_blk hb h2 (mem_own.1 hm)

set_option maxHeartbeats 400000 in
theorem wUint_ok (h : Wrt w p B v size false l) (n x : Nat) (hw : wide n = true) (hx64 : x < 18446744073709551616) (hx : x < 256 ^ n) (hn : (l.length : Int) + n ≤ size) :
    Calls Try.prog 56 #[.pointer (some ⟨p, 0, none⟩), .int .i64 n, .int .u64 x] w fun e w' => e = .returned (.tuple #[]) ∧ WPost w w' p B v size (l ++ leB n x) := by
  have n8 : n ≤ 8 := by
    simp only [wide, Bool.or_eq_true, beq_iff_eq] at hw
    omega
  have HW := Lib.hid hw
  clear hw
  have m := h.2.2.2.1
  have d : ((x : Int) / 2 ^ (8 * n) != 0) = false := by
    rw [pow256] at hx
    have e : ((x : Int) / 2 ^ (8 * n)) = ((x / 2 ^ (8 * n) : Nat) : Int) := by push_cast; rfl
    rw [e, Nat.div_eq_of_lt hx]; rfl
  by_cases h8 : (n : Int) < 8
  all_goals
    go_enter Try.func56, Try.ntmps56
    go_wp2_with (first
      | (go_at_call 70; refine (isWide_any _ _).mono ?_; rw [HW.out]; rintro e w' ⟨rfl, rfl⟩)
      | (go_at_call 71; refine (wRoom_yes h n hn).mono ?_; rintro e w1 ⟨rfl, h1, h2⟩))
    clear d
    go_loopw [6, 25] (fun _ i wr => ∃ k : Nat, k ≤ n ∧ i = .int .i64 k ∧ WPost w wr p B v size (l ++ leB k x)) (fun _ i _ => n - (intOf i).toNat)
    case atStart => exact ⟨0, Nat.zero_le _, rfl, v, by simpa [leB] using h1, h2.mono (by simp), fun g hg => .inl hg⟩
    case round =>
      obtain ⟨k, hk, rfl, v1, k1, k2, k3⟩ := hrel
      by_cases hlt : k < n
      · obtain ⟨q, hq⟩ : ∃ q, l ++ leB k x = q := ⟨_, rfl⟩
        rw [hq] at k1
        have hl : q.length = l.length + k := by rw [← hq, List.length_append, leB_length]
        have c0 := k1.1.cell 0
        simp at c0
        have f0 := k1.1.frozen 0
        have HL := Lib.hid hl
        have HQ := Lib.hid hq
        have ql : q.length + 1 ≤ size := by omega
        clear hl hq
        obtain ⟨A1, cap1, rfl, -, -, -, -, -⟩ := k1.2.1.shape
        have ca : ∀ o, (wr.alloc o).cell? ⟨p, 0, none⟩ = some (.slice A1 q.length cap1) := fun o => by have := (k1.1.alloc o).cell 0; simpa using this
        have e8 : IntKind.i64.wrap (8 * (k : Int)) = 8 * (k : Int) := IntWalk.i64_in _ (by omega)
        go_wp2
        go_region_law (refine step_app rfl rfl slB B _ _ _ rfl (by exact (k1.2.1.alloc _).keep_nil ((Fr.refl _ _).drew)) _ 1 1 [_] rfl rfl (by exact (Rd.one _ _ _).keep_nil ((Fr.refl _ _).drew)) (by intro u hu; rw [List.mem_singleton.1 hu]; rfl) (fun h => by cases h) (by omega) (by simp; have := k1.2.2.2.2; omega) ?_; intro v2 w2 g1 g2 g3 g4; have b2 := (Blk.alloc (Blk.keep k1.1 ((Fr.refl _ _).drew) (F := []) (by simp)) _).keep g2 (fun hm => k1.ne (mem_own.1 hm)); have e0 := b2.cell 0; have e1 := b2.frozen 0; simp at e0; obtain ⟨A2, cap2, rfl, -, -, -, -, -⟩ := g1.shape)
        go_wp2
        all_goals
          refine ⟨⟨k + 1, by omega, by go_num, WPost.trans k2 k3 ?_⟩, by simp [intOf]; omega⟩
          have k1' : Wrt (wr.alloc (.cells #[.int .u8 (IntKind.u8.wrap ((x : Int) / 2 ^ (8 * (k : Int)).toNat))] 5)).drew p B (.slice A1 q.length cap1) size false q := k1.keep_nil (((Fr.refl _ _).alloc _).drew)
          rw [leB_succ, ← List.append_assoc, HQ.out]
          refine WPost.of_store k1' ((((Fr.refl _ _).alloc _).drew)) _ ?_ ?_ g2 (fun g hg => (g3 g hg).imp_right (by simp; omega))
          · simp; omega
          · rw [List.length_append, bvs_append]
            rw [leB_byte] at g1
            exact g1
      · obtain rfl : k = n := by omega
        go_wp2
        go_returns
        exact ⟨rfl, v1, k1, k2, k3⟩

theorem wUint_bad (h : Wrt w p B v size bad l) (n : Int) (x : Nat) (hn : bad = true ∨ wide n = false ∨ (n < 8 ∧ 256 ^ n.toNat ≤ x) ∨ (size : Int) - l.length < n) :
    Calls Try.prog 56 #[.pointer (some ⟨p, 0, none⟩), .int .i64 n, .int .u64 x] w fun e w' => e = .returned (.tuple #[]) ∧ Wrt w' p B v size true l ∧ Fr [p] w w' := by
  cases hw : wide n with
  | false =>
    have HW := Lib.hid hw
    clear hw hn
    go_enter Try.func56, Try.ntmps56
    go_wp2_with (first
      | (go_at_call 70; refine (isWide_any _ _).mono ?_; rw [HW.out]; rintro e w' ⟨rfl, rfl⟩)
      | (go_at_call 71; refine (wRoom_no h (-1) (.inr (.inl (by decide)))).mono ?_; rintro e w' ⟨rfl, h1, h2⟩))
    go_returns
    exact ⟨rfl, h1, h2⟩
  | true =>
    have h0 : 0 ≤ n := by
      simp only [wide, Bool.or_eq_true, beq_iff_eq] at hw
      omega
    obtain ⟨n, rfl⟩ := Int.eq_ofNat_of_zero_le h0
    have HW := Lib.hid hw
    clear h0
    by_cases h8 : (n : Int) < 8
    · by_cases hx : x < 256 ^ n
      · have d : ((x : Int) / 2 ^ (8 * n) != 0) = false := by
          rw [pow256] at hx
          have e : ((x : Int) / 2 ^ (8 * n)) = ((x / 2 ^ (8 * n) : Nat) : Int) := by push_cast; rfl
          rw [e, Nat.div_eq_of_lt hx]; rfl
        have hb : bad = true ∨ (n : Int) < 0 ∨ (size : Int) - l.length < n := by
          rcases hn with h | h | h | h
          · exact .inl h
          · rw [hw] at h; cases h
          · simp at h; omega
          · exact .inr (.inr h)
        have HB := Lib.hid hb
        clear hw hn hb
        go_enter Try.func56, Try.ntmps56
        go_wp2_with (first
          | (go_at_call 70; refine (isWide_any _ _).mono ?_; rw [HW.out]; rintro e w' ⟨rfl, rfl⟩)
          | (go_at_call 71; refine (wRoom_no h n HB.out).mono ?_; rintro e w' ⟨rfl, h1, h2⟩))
        go_returns
        exact ⟨rfl, h1, h2⟩
      · have d : ((x : Int) / 2 ^ (8 * n) != 0) = true := by
          rw [pow256] at hx
          have e : ((x : Int) / 2 ^ (8 * n)) = ((x / 2 ^ (8 * n) : Nat) : Int) := by push_cast; rfl
          rw [e]
          have := Nat.div_pos (Nat.not_lt.1 hx) (Nat.pow_pos (by omega))
          rw [bne_iff_ne]; omega
        clear hw hn
        go_enter Try.func56, Try.ntmps56
        go_wp2_with (first
          | (go_at_call 70; refine (isWide_any _ _).mono ?_; rw [HW.out]; rintro e w' ⟨rfl, rfl⟩)
          | (go_at_call 71; refine (wRoom_no h (-1) (.inr (.inl (by decide)))).mono ?_; rintro e w' ⟨rfl, h1, h2⟩))
        go_returns
        exact ⟨rfl, h1, h2⟩
    · have hb : bad = true ∨ (n : Int) < 0 ∨ (size : Int) - l.length < n := by
        rcases hn with h | h | h | h
        · exact .inl h
        · rw [hw] at h; cases h
        · omega
        · exact .inr (.inr h)
      have HB := Lib.hid hb
      clear hw hn hb
      go_enter Try.func56, Try.ntmps56
      go_wp2_with (first
        | (go_at_call 70; refine (isWide_any _ _).mono ?_; rw [HW.out]; rintro e w' ⟨rfl, rfl⟩)
        | (go_at_call 71; refine (wRoom_no h n HB.out).mono ?_; rintro e w' ⟨rfl, h1, h2⟩))
      go_returns
      exact ⟨rfl, h1, h2⟩

theorem wDone_bad (h : Wrt w p B v size true l) :
    Calls Try.prog 57 #[.pointer (some ⟨p, 0, none⟩)] w fun e w' => e = .returned (.tuple #[.slice none 0 0, .int .i64 90]) ∧ w = w' := by
  have c2 := h.1.cell 2
  simp at c2
  go_enter Try.func57, Try.ntmps57
  go_wp2
  go_ret2
  exact ⟨rfl, rfl⟩

set_option maxRecDepth 100000 in
set_option maxHeartbeats 400000 in
theorem wDone_ok (h : Wrt w p B v size false l) :
    Calls Try.prog 57 #[.pointer (some ⟨p, 0, none⟩)] w fun e w' => ∃ r, e = .returned (.tuple #[r, .int .i64 0]) ∧ Row w' w.heap.size 5 1 r size (bvs (l ++ List.replicate (size - l.length) 0)) ∧ Fr [] w w' := by
  have c2 := h.1.cell 2
  have c1 := h.1.cell 1
  have c0 := h.1.cell 0
  simp at c2 c1 c0
  have m := h.2.2.2.1
  have hlen := h.2.2.1
  obtain ⟨A1, cap1, rfl, hcap, -, hrd, hblk, -⟩ := h.2.1.shape
  go_enter Try.func57, Try.ntmps57
  go_wp2_with (first
    | (at_make; refine wpList_mk1 rfl rfl slB rfl .i64 .i64 _ _ size rfl rfl rfl rfl (by omega) ?_; intro w1 g1 g2 g3 g4; have k1 := h.1.keep g3 (by simp); have e0 := k1.cell 0; simp at e0)
    | (refine wpList_cp (o := ⟨some 23, _, _, _, _, _⟩) rfl rfl Try.underlying31 (by kernel_rfl) _ _ size size l.length cap1 rfl rfl (bvs l) (by rw [bvs_length]; exact (Nat.min_eq_left hlen).symm) (hrd.keep_nil g3) (bvs_one l) w.heap.size 0 (fun _ => rfl) _ 5 (0, 0) g1 (free_zero _) (by simp [bvs]; omega) ?_; intro w2 r1 r2))
  go_ret2
  refine ⟨_, rfl, ?_, g3.trans r2 (fun i hi => .inr (by simp at hi; omega))⟩
  refine ⟨by simp [bvs]; omega, .inr ⟨w.heap.size, size, _, (0, 0), rfl, Nat.le_refl _, r1, free_zero _, Nat.le_refl _, by unfold maxLen; omega, ?_, ?_⟩⟩
  · simp [bvs]; omega
  · rw [List.take_of_length_le (by simp [bvs_length]; omega), bvs_append, bvs_replicate]
    simp [bvs_length]
end
end Go.Proofs.Ytdhhnioklbnicaa
