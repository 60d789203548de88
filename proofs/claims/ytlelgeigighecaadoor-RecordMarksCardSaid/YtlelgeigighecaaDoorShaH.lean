/-
  SHA-256: Fork; plain laws for the digest's bytes.
-/
import Derived.Test.YtlelgeigighecaaDoorShaG
set_option linter.unusedSimpArgs false
set_option linter.unusedVariables false
set_option linter.unnecessarySimpa false
namespace Go.Proofs.YtlelgeigighecaaDoor
open Go.RowKit

theorem wp_boxS {P : Program} {o : Oper} {a : Act} {w : World} {K : Act → World → Prop} {Q : Exit → Act → World → Prop} {t : TypeId} {x : Operand} (ho : o.op = .box t x) (cs : List Value) (hx : a.eval x = .agg cs.toArray)
    (h : ∀ w', Blk w' w.heap.size t cs.toArray → Fr [] w w' → w'.heap.size = w.heap.size + 1 → K (a.put o.dst (.pointer (some ⟨w.heap.size, 0, none⟩))) w') : o.wp P a w K Q := by
  refine wp_val (.pointer (some ⟨w.heap.size, 0, none⟩)) (w.alloc (.cells cs.toArray t)) ?_ (h _ (Blk.new _ _ _) ((Fr.refl _ _).alloc _) (by simp))
  unfold execOp
  simp [ho, hx, Instr.box, newVar, newRow, Value.cells]

set_option maxRecDepth 100000 in
set_option maxHeartbeats 1000000 in
theorem hFork_any {w : World} {g B : Nat} {v : Value} {l : List UInt8} (h : Hsh w g B v l) :
    Calls Tryd.prog 98 #[.pointer (some ⟨g, 0, none⟩)] w fun e w' => ∃ g2 v2, e = .returned (.pointer (some ⟨g2, 0, none⟩)) ∧ w.heap.size ≤ g2 ∧ Hsh w' g2 w.heap.size v2 l ∧ Fr [] w w' := by
  obtain ⟨h1, h2, h3⟩ := h
  have hrl := rest_len l
  obtain ⟨q, hq⟩ : ∃ q, l.drop (64 * (l.length / 64)) = q := ⟨_, rfl⟩
  obtain ⟨s, hs⟩ : ∃ s, shaRun first8 l (l.length / 64) = s := ⟨_, rfl⟩
  obtain ⟨r, hr⟩ : ∃ r, l.length % 64 = r := ⟨_, rfl⟩
  rw [hq, hr] at h2 hrl
  rw [hs] at h1
  have hr64 : r < 64 := by omega
  have HQ := Lib.hid (fun _ : Unit => And.intro hq (And.intro hs hr))
  have HRL := Lib.hid hrl
  clear hq hs hr hrl
  obtain ⟨A, cap, rfl, -, -, rd, -, -⟩ := h2.shape
  have hA := h2.rd.2.2
  go_enter Tryd.func98, Tryd.ntmps98
  go_wp2_with fail
  refine wp_region_held_drew (S := fun w' => Blk w' g 117 (hashC s (.slice A r cap) l.length).toArray) (by kernel_rfl) (h1.keep_nil (Fr.refl [] w).drew) (fun hHeld => ?_)
  have FQ : Fr [] w w.drew := (Fr.refl [] w).drew
  have rd := rd.keep_nil FQ
  generalize w.drew = w0 at *
  refine take_w 0 (some 5) (v := ?_) rfl rfl (by kernel_rfl) (by kernel_rfl) (by kernel_rfl) (fun _ _ _ h => h) (by rfl) ?_ hHeld ?_
  rotate_left
  · (intro w hSw; (try dsimp only at hSw); go_simp; try with_reducible rfl)
  simp only [Act.put, List.setIfInBounds_toArray, List.set_cons_zero, List.set_cons_succ]
  refine take_w 1 (some 6) (v := ?_) rfl rfl (by kernel_rfl) (by kernel_rfl) (by kernel_rfl) (fun _ _ _ h => h) (by rfl) ?_ hHeld ?_
  rotate_left
  · (intro w hSw; (try dsimp only at hSw); go_simp; try with_reducible rfl)
  simp only [Act.put, List.setIfInBounds_toArray, List.set_cons_zero, List.set_cons_succ]
  refine take_w 2 (some 7) (v := ?_) rfl rfl (by kernel_rfl) (by kernel_rfl) (by kernel_rfl) (fun _ _ _ h => h) (by rfl) ?_ hHeld ?_
  rotate_left
  · (intro w hSw; (try dsimp only at hSw); go_simp; try with_reducible rfl)
  simp only [Act.put, List.setIfInBounds_toArray, List.set_cons_zero, List.set_cons_succ]
  refine take_w 3 (some 8) (v := .agg (wvs s.list).toArray) rfl rfl (by kernel_rfl) (by kernel_rfl) (by kernel_rfl) (fun _ _ _ h => h) (by rfl) (fun w hSw => hy_ld stW8 rfl g 0 rfl (wvs s.list) (by rw [wvs_length]; rfl) (hash_rng hSw)) hHeld ?_
  try simp only [Act.put, List.setIfInBounds_toArray, List.set_cons_zero, List.set_cons_succ]
  refine take_w 4 (some 9) (v := ?_) rfl rfl (by kernel_rfl) (by kernel_rfl) (by kernel_rfl) (fun _ _ _ h => h) (by rfl) ?_ hHeld ?_
  rotate_left
  · (intro w hSw; (try dsimp only at hSw); go_simp; try with_reducible rfl)
  simp only [Act.put, List.setIfInBounds_toArray, List.set_cons_zero, List.set_cons_succ]
  refine take_w 5 (some 10) (v := ?_) rfl rfl (by kernel_rfl) (by kernel_rfl) (by kernel_rfl) (fun _ _ _ h => h) (by rfl) ?_ hHeld ?_
  rotate_left
  · (intro w hSw; (try dsimp only at hSw); go_simp; try with_reducible rfl)
  simp only [Act.put, List.setIfInBounds_toArray, List.set_cons_zero, List.set_cons_succ]
  refine take_w 6 (some 11) (v := ?_) rfl rfl (by kernel_rfl) (by kernel_rfl) (by kernel_rfl) (fun _ _ _ h => h) (by rfl) ?_ hHeld ?_
  rotate_left
  · (intro w hSw; (try dsimp only at hSw); go_simp; try with_reducible rfl)
  simp only [Act.put, List.setIfInBounds_toArray, List.set_cons_zero, List.set_cons_succ]
  refine take_w 7 (some 12) (v := .slice A r cap) rfl rfl (by kernel_rfl) (by kernel_rfl) (by kernel_rfl) (fun _ _ _ h => h) (by rfl) (fun w hSw => by have c := (hash_cells hSw).1; go_simp) hHeld ?_
  try simp only [Act.put, List.setIfInBounds_toArray, List.set_cons_zero, List.set_cons_succ]
  refine take_w 9 (some 14) (v := ?_) rfl rfl (by kernel_rfl) (by kernel_rfl) (by kernel_rfl) (fun _ _ _ h => h) (by rfl) ?_ hHeld ?_
  rotate_left
  · (intro w hSw; (try dsimp only at hSw); go_simp; try with_reducible rfl)
  simp only [Act.put, List.setIfInBounds_toArray, List.set_cons_zero, List.set_cons_succ]
  refine take_w 10 (some 15) (v := ?_) rfl rfl (by kernel_rfl) (by kernel_rfl) (by kernel_rfl) (fun _ _ _ h => h) (by rfl) ?_ hHeld ?_
  rotate_left
  · (intro w hSw; (try dsimp only at hSw); go_simp; try with_reducible rfl)
  simp only [Act.put, List.setIfInBounds_toArray, List.set_cons_zero, List.set_cons_succ]
  refine take_w 11 (some 16) (v := ?_) rfl rfl (by kernel_rfl) (by kernel_rfl) (by kernel_rfl) (fun _ _ _ h => h) (by rfl) ?_ hHeld ?_
  rotate_left
  · (intro w hSw; (try dsimp only at hSw); go_simp; try with_reducible rfl)
  simp only [Act.put, List.setIfInBounds_toArray, List.set_cons_zero, List.set_cons_succ]
  refine take_w 12 (some 17) (v := .int .i64 l.length) rfl rfl (by kernel_rfl) (by kernel_rfl) (by kernel_rfl) (fun _ _ _ h => h) (by rfl) (fun w hSw => by have c := (hash_cells hSw).2; go_simp) hHeld ?_
  try simp only [Act.put, List.setIfInBounds_toArray, List.set_cons_zero, List.set_cons_succ]
  refine take_c 8 rfl (by kernel_rfl) (by rfl) (fun K hK => ?_)
  go_simp
  refine (clone_any A q r cap _ HRL.out rd hA (by omega)).mono ?_
  rintro e w2 ⟨v2, rfl, r2, f2⟩
  refine hK.out _ _ (hHeld.keep_nil f2) (fun hHx => ?_)
  clear hHeld
  have hHeld := hHx
  clear hHx
  clear hK K
  try simp only [Act.put, List.setIfInBounds_toArray, List.set_cons_zero, List.set_cons_succ]
  have F2 := FQ.trans_nil f2
  obtain ⟨A2, cap2, rfl, -, -, -, -, -⟩ := r2.shape
  refine take_w 13 (some 18) (v := .agg (hashC s (.slice A2 r cap2) l.length).toArray) rfl rfl (by kernel_rfl) (by kernel_rfl) (by kernel_rfl) (fun _ _ _ h => h) (by rfl) (fun w hSw => hy_bld (ps' := #[(0, .agg (wvs s.list).toArray), (1, .slice A2 r cap2), (2, .int .i64 (l.length : Int))]) rfl (by kernel_rfl) _ (bldHash w s A2 r cap2 l.length)) hHeld ?_
  try simp only [Act.put, List.setIfInBounds_toArray, List.set_cons_zero, List.set_cons_succ]
  refine take_cd 14 (some 19) rfl rfl (by kernel_rfl) (by rfl) (fun K hK => ?_)
  refine wp_boxS rfl (hashC s (.slice A2 r cap2) l.length) rfl (fun w3 h3' f3 z3 => hK _ w3 (hHeld.keep_nil f3) fun hHx => ?_)
  clear hHeld
  have hHeld := hHx
  clear hHx
  clear hK K
  try simp only [Act.put, List.setIfInBounds_toArray, List.set_cons_zero, List.set_cons_succ]
  refine take_w 15 (some 2) (v := ?_) rfl rfl (by kernel_rfl) (by kernel_rfl) (by kernel_rfl) (fun _ _ _ h => h) (by rfl) ?_ hHeld ?_
  rotate_left
  · (intro w hSw; (try dsimp only at hSw); go_simp; try with_reducible rfl)
  simp only [Act.put, List.setIfInBounds_toArray, List.set_cons_zero, List.set_cons_succ]
  refine wpAnyH_done (by kernel_rfl) ?_ _
  go_wp2_with fail
  go_ret
  obtain ⟨hq, hs, hr⟩ := HQ.out ()
  have s0 := FQ.size
  refine ⟨w2.heap.size, .slice A2 r cap2, rfl, F2.size, ⟨?_, ?_, ?_⟩, F2.trans_nil f3⟩
  · rw [hs]; exact h3'
  · rw [hq, hr]; exact (r2.keep_nil f3).mono s0
  · exact (F2.trans_nil f3).size

/-- Bytes of the digest so far, zeros behind. -/
def outA (s : S8) (k : Nat) : List UInt8 := (s.list.take k).flatMap wordB ++ List.replicate (32 - 4 * k) 0
theorem outA_len (s : S8) : ∀ k, k ≤ 8 → (outA s k).length = 32
  | 0, _ => rfl | 1, _ => rfl | 2, _ => rfl | 3, _ => rfl | 4, _ => rfl | 5, _ => rfl | 6, _ => rfl | 7, _ => rfl | 8, _ => rfl
  | n + 9, h => by omega
theorem outA_set (s : S8) : ∀ k, k < 8 → ∀ x, s.list.getD k 0 = x → ((((outA s k).set (4 * k) (UInt8.ofNat (x.toNat / 2 ^ 24))).set (4 * k + 1) (UInt8.ofNat (x.toNat / 2 ^ 16))).set (4 * k + 2) (UInt8.ofNat (x.toNat / 2 ^ 8))).set (4 * k + 3) (UInt8.ofNat x.toNat) = outA s (k + 1)
  | 0, _, _, rfl => rfl | 1, _, _, rfl => rfl | 2, _, _, rfl => rfl | 3, _, _, rfl => rfl | 4, _, _, rfl => rfl | 5, _, _, rfl => rfl | 6, _, _, rfl => rfl | 7, _, _, rfl => rfl
  | n + 8, h, _, _ => by omega
theorem outA_zero (s : S8) : outA s 0 = zB 32 := rfl
theorem outA_all (s : S8) : outA s 8 = s.list.flatMap wordB := rfl
theorem blkB_set {w : World} {g : Nat} {t : TypeId} {l : List UInt8} (hb : Blk w g t (bvs l).toArray) (i : Nat) (x : UInt8) : Blk (w.setCell ⟨g, i, none⟩ (bv x)) g t (bvs (l.set i x)).toArray := by
  have := hb.set_ i (bv x)
  rwa [List.setIfInBounds_toArray, show (bvs l).set i (bv x) = bvs (l.set i x) by simp [bvs, List.map_set]] at this
theorem u8_of (m : Nat) : Value.int .u8 (IntKind.u8.wrap (m : Int)) = bv (UInt8.ofNat m) := by
  unfold bv
  congr 1
theorem uw_byte_at (x : UInt32) (n : Nat) : Value.int .u8 (IntKind.u8.wrap (uw x / 2 ^ n)) = bv (UInt8.ofNat (x.toNat / 2 ^ n)) := by
  have e : (uw x / 2 ^ n) = ((x.toNat / 2 ^ n : Nat) : Int) := by unfold uw; push_cast; rfl
  rw [e, u8_of]
theorem uw_byte_0 (x : UInt32) : Value.int .u8 (IntKind.u8.wrap (uw x)) = bv (UInt8.ofNat x.toNat) := u8_of x.toNat
theorem be_byte (x k : Nat) (hk : k < 8) : Value.int .u8 (IntKind.u8.wrap ((x : Int) / 2 ^ (56 - 8 * (k : Int)).toNat)) = bv (UInt8.ofNat (x / 2 ^ (56 - 8 * k))) := by
  rw [show (56 - 8 * (k : Int)).toNat = 56 - 8 * k by omega, ← u8_of]
  congr 2
def beK (n k : Nat) : List UInt8 := (List.range k).map fun i => UInt8.ofNat (n / 2 ^ (56 - 8 * i))
theorem beK_succ (n k : Nat) : beK n (k + 1) = beK n k ++ [UInt8.ofNat (n / 2 ^ (56 - 8 * k))] := by simp [beK, List.range_succ]
theorem beK_all (n : Nat) : beK n 8 = be8 n := rfl
theorem beK_len (n k : Nat) : (beK n k).length = k := by simp [beK]
end Go.Proofs.YtlelgeigighecaaDoor
