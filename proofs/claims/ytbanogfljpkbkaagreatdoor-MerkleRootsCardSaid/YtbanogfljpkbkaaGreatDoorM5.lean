/-
  Texts of this claim, one behind the other: CodF, CodG, CodH, Bld, HeadA, HeadB, HeadD, ShaB, ShaC, ShaD.
-/
import Derived.Test.YtbanogfljpkbkaaGreatDoorM4
import Derived.Test.YtbanogfljpkbkaaGreatDoorM1
import Derived.Deep.RegionLaw
import Derived.Test.YtbanogfljpkbkaaGreatDoorM2
import Derived.Deep.DeepCutAuto
import Derived.Deep.CutBlock
import Derived.Test.YtbanogfljpkbkaaGreatDoorProg
import Derived.Laws.Bits64b
import Derived.Deep.RegionHeld3
set_option linter.unusedSimpArgs false
set_option linter.unusedVariables false
set_option linter.unnecessarySimpa false
namespace Go.Proofs.YtbanogfljpkbkaaGreatDoor
section
open Go.RowKit
def Wrt (w : World) (p B : Nat) (v : Value) (size : Nat) (bad : Bool) (l : List UInt8) : Prop :=
 Blk w p 223 #[v, .int .i64 size, .bool bad] ∧ Row w B 5 1 v l.length (bvs l) ∧ l.length ≤ size ∧ size ≤ 16777216 ∧ B ≤ w.heap.size
section
variable {w w' : World} {p B : Nat} {v : Value} {size : Nat} {bad : Bool} {l : List UInt8}
theorem Wrt.keep (h : Wrt w p B v size bad l) {F : List Nat} (hf : Fr F w w') (hp : p ∉ F) (hv : ∀ g, v.ownBlock = some g → g ∉ F) : Wrt w' p B v size bad l :=
 ⟨h.1.keep hf hp, h.2.1.keep hf hv, h.2.2.1, h.2.2.2.1, by have := hf.size; have := h.2.2.2.2; omega⟩
theorem Wrt.keep_nil (h : Wrt w p B v size bad l) (hf : Fr [] w w') : Wrt w' p B v size bad l := h.keep hf (by simp) (by simp)
theorem Wrt.lt (h : Wrt w p B v size bad l) : p < w.heap.size := h.1.lt
theorem Wrt.ne (h : Wrt w p B v size bad l) : v.ownBlock ≠ some p := h.2.1.ne_blk h.1 (by decide)
theorem Wrt.flag (h : Wrt w p B v size bad l) (b : Bool) : Wrt (w.setCell ⟨p, 2, none⟩ (.bool b)) p B v size b l :=
 ⟨by simpa using h.1.set_ 2 (.bool b), h.2.1.keep (F := [p]) ((Fr.refl _ _).setCell (.inl (by simp)) _) (fun g hg => by have := h.ne; rw [hg] at this; simpa using this), h.2.2.1, h.2.2.2.1, by have := h.2.2.2.2; simpa using this⟩
theorem Wrt.flagF (_h : Wrt w p B v size bad l) (b : Bool) : Fr [p] w (w.setCell ⟨p, 2, none⟩ (.bool b)) := (Fr.refl _ _).setCell (.inl (by simp)) _
end
def sizeN (n : Int) : Nat := if n < 0 ∨ 16777216 < n then 0 else n.toNat
theorem sizeN_le (n : Int) : sizeN n ≤ 16777216 := by unfold sizeN; split <;> omega
theorem newWriter_any (n : Int) (w : World) : Calls Tryz.prog 197 #[.int .i64 n] w fun e w' =>
  e = .returned (.pointer (some ⟨w.heap.size, 0, none⟩)) ∧ Wrt w' w.heap.size w.heap.size (.slice none 0 0) (sizeN n) false [] ∧ Fr [] w w' ∧ w'.heap.size = w.heap.size + 1 := by
 have fin : ∀ m : Nat, m = sizeN n → Wrt (w.alloc (.cells #[.slice none 0 0, .int .i64 m, .bool false] 223)) w.heap.size w.heap.size (.slice none 0 0) (sizeN n) false [] ∧ Fr [] w (w.alloc (.cells #[.slice none 0 0, .int .i64 m, .bool false] 223)) ∧ (w.alloc (.cells #[.slice none 0 0, .int .i64 m, .bool false] 223)).heap.size = w.heap.size + 1 := by
  rintro m rfl
  exact ⟨⟨Blk.new _ _ _, Row.nil _ _ _ _, by simp, sizeN_le n, by simp⟩, (Fr.refl _ _).alloc _, by simp⟩
 by_cases h0 : n < 0
 ·have H := fin 0 (if_pos (.inl h0)).symm
  have H2 := Lib.hid H
  clear H fin
  go_enter Tryz.func197, Tryz.ntmps197
  go_wp2
  go_ret
  exact ⟨rfl, H2.out⟩
 ·by_cases h1 : 16777216 < n
  ·have H := fin 0 (if_pos (.inr h1)).symm
   have H2 := Lib.hid H
   clear H fin
   go_enter Tryz.func197, Tryz.ntmps197
   go_wp2
   go_ret
   exact ⟨rfl, H2.out⟩
  ·obtain ⟨m, rfl⟩ := Int.eq_ofNat_of_zero_le (Int.not_lt.1 h0)
   have H := fin m (if_neg (by omega)).symm
   have H2 := Lib.hid H
   clear H fin
   go_enter Tryz.func197, Tryz.ntmps197
   go_wp2
   go_ret
   exact ⟨rfl, H2.out⟩
section
variable {w : World} {p B : Nat} {v : Value} {size : Nat} {bad : Bool} {l : List UInt8}
theorem wLeft_any (h : Wrt w p B v size bad l) :
  Calls Tryz.prog 224 #[.pointer (some ⟨p, 0, none⟩)] w fun e w' => e = .returned (.int .i64 ((size : Int) - l.length)) ∧ ∃ n, w' = w.drewN n := by
 obtain ⟨h1, h2, h3, h4, h5⟩ := h
 obtain ⟨A, cap, rfl, -, -, -, -, -⟩ := h2.shape
 have c0 := h1.cell 0
 have c1 := h1.cell 1
 simp at c0 c1
 go_enter Tryz.func224, Tryz.ntmps224
 go_wp2
 go_quiet (fail)
 go_wp2
 go_ret
 exact ⟨rfl, _, rfl⟩
theorem Wrt.drewN (h : Wrt w p B v size bad l) (n : Nat) : Wrt (w.drewN n) p B v size bad l := h.keep_nil ((Fr.refl _ _).drewN n)
set_option maxHeartbeats 400000 in
theorem wRoom_yes (h : Wrt w p B v size false l) (n : Nat) (hn : (l.length : Int) + n ≤ size) :
  Calls Tryz.prog 195 #[.pointer (some ⟨p, 0, none⟩), .int .i64 n] w fun e w' => e = .returned (.bool true) ∧ Wrt w' p B v size false l ∧ Fr [p] w w' := by
 have c2 := h.1.cell 2
 have f2 := h.1.frozen 2
 simp at c2
 have f' := fun k => (h.drewN k).flag false
 have ff' := fun k => (h.drewN k).flagF false
 have F := Lib.hid f'
 have FF := Lib.hid ff'
 clear f' ff'
 have d0 : decide ((n : Int) < 0) = false := by simp
 have d1 : decide ((size : Int) - l.length < n) = false := by simp; omega
 go_enter Tryz.func195, Tryz.ntmps195
 go_wp2_with (go_at_call 224; refine (wLeft_any h).mono ?_; rintro e w' ⟨rfl, k, rfl⟩)
 go_ret
 exact ⟨rfl, F.out k, ((Fr.refl _ _).drewN k).trans (FF.out k) (fun i hi => .inl hi)⟩
def WPost (w w' : World) (p B : Nat) (v : Value) (size : Nat) (l : List UInt8) : Prop :=
 ∃ v', Wrt w' p B v' size false l ∧ Fr (p :: v.ownBlock.toList) w w' ∧ ∀ g, v'.ownBlock = some g → v.ownBlock = some g ∨ w.heap.size ≤ g
theorem WPost.of_store {w0 w1 w2 : World} {v' : Value} (h0 : Wrt w1 p B v size false l) (hf0 : Fr [p] w0 w1) (q : List UInt8) (hq : q.length ≤ size) (hr : Row w2 B 5 1 v' q.length (bvs q)) (hf : Fr v.ownBlock.toList w1 w2) (hv : ∀ g, v'.ownBlock = some g → v.ownBlock = some g ∨ w1.heap.size ≤ g) :
  WPost w0 (w2.setCell ⟨p, 0, none⟩ v') p B v size q := by
 have hne := h0.ne
 have hb : Blk w2 p 223 #[v, .int .i64 size, .bool false] := h0.1.keep hf (fun hm => hne (mem_own.1 hm))
 refine ⟨v', ⟨by simpa using hb.set_ 0 v', hr.keep (F := [p]) ((Fr.refl _ _).setCell (.inl (by simp)) _) (fun g hg => by have := hr.ne_blk hb (by decide); rw [hg] at this; simpa using this), hq, h0.2.2.2.1, by have := h0.2.2.2.2; have := hf.size; simp; omega⟩, ?_, ?_⟩
 ·have h1 : Fr (p :: v.ownBlock.toList) w0 w1 := hf0.mono (by simp)
  have h2 : Fr (p :: v.ownBlock.toList) w0 w2 := h1.trans (hf.mono (G := p :: v.ownBlock.toList) (fun i hi => List.mem_cons_of_mem _ hi)) (fun i hi => .inl hi)
  exact h2.setCell (.inl (by simp)) _
 ·intro g hg
  rcases hv g hg with h | h
  ·exact .inl h
  ·exact .inr (by have := hf0.size; omega)
set_option maxHeartbeats 400000 in
theorem wBytes_ok (h : Wrt w p B v size false l) (A : Option Addr) (n c : Nat) (bs : List UInt8) (hb : bs.length = n) (hr : Rd w A (bvs bs)) (hA : A = none → n = 0) (hp : ∀ g o, A = some ⟨g, o, none⟩ → bs ≠ [] → g ≠ p) (hn : (l.length : Int) + n ≤ size) :
  Calls Tryz.prog 158 #[.pointer (some ⟨p, 0, none⟩), .slice A n c] w fun e w' => e = .returned (.tuple #[]) ∧ WPost w w' p B v size (l ++ bs) := by
 have H := Lib.hid hb
 clear hb
 obtain ⟨A0, cap, rfl, -, -, -, -, -⟩ := h.2.1.shape
 have m := h.2.2.2.1
 go_enter Tryz.func158, Tryz.ntmps158
 go_wp2_with (first
  | (go_at_call 195; refine (wRoom_yes h n hn).mono ?_; rintro e w1 ⟨rfl, h1, h2⟩; have c0 := h1.1.cell 0; simp at c0; have hr1 : Rd w1 A (bvs bs) := (by
    by_cases hx : bs = []
    ·subst hx; exact Rd.nil _ _
    ·exact hr.keep h2 (fun g o e => by simpa using hp g o e hx)))
  | (at_builtin; refine wpList_app rfl rfl slB B _ l.length (bvs l) rfl h1.2.1 A n c (bvs bs) rfl (by rw [bvs_length, H.out]; omega) hr1 (bvs_one _) hA (by omega) h1.2.2.2.2 ?_; intro v2 w2 g1 g2 g3 g4; have b2 := h1.1.keep g2 (fun hm => h1.ne (mem_own.1 hm)); have e0 := b2.cell 0; have e1 := b2.frozen 0; simp at e0; obtain ⟨A2, cap2, rfl, -, -, -, -, -⟩ := g1.shape))
 go_returns
 refine ⟨rfl, WPost.of_store h1 h2 _ ?_ ?_ g2 (fun g hg => (g3 g hg).imp_right (by omega))⟩
 ·rw [List.length_append, H.out]; omega
 ·rw [List.length_append, H.out, bvs_append]; exact g1
theorem bvs_replicate (n : Nat) : bvs (List.replicate n 0) = List.replicate n (.int .u8 0) := by simp [bvs, bv]
end
end
section
open Go.RowKit
def leB (n x : Nat) : List UInt8 := (List.range n).map fun i => UInt8.ofNat (x / 256 ^ i % 256)
theorem leB_length (n x : Nat) : (leB n x).length = n := by simp [leB]
theorem leB_succ (n x : Nat) : leB (n + 1) x = leB n x ++ [UInt8.ofNat (x / 256 ^ n % 256)] := by simp [leB, List.range_succ]
theorem leB_byte (x k : Nat) : Value.int .u8 (IntKind.u8.wrap ((x : Int) / 2 ^ (8 * (k : Int)).toNat)) = bv (UInt8.ofNat (x / 256 ^ k % 256)) := by
 unfold bv
 have e : (8 * (k : Int)).toNat = 8 * k := by omega
 rw [e, pow256]
 have e2 : ((x : Int) / 2 ^ (8 * k)) = ((x / 2 ^ (8 * k) : Nat) : Int) := by push_cast; rfl
 rw [e2, IntKind.wrap_u8]
 congr 1
 have h : x / 2 ^ (8 * k) % 256 < 256 := Nat.mod_lt _ (by omega)
 simp [UInt8.toNat_ofNat', Nat.mod_eq_of_lt h]
section
variable {w : World} {p B : Nat} {v : Value} {size : Nat} {bad : Bool} {l : List UInt8}
theorem WPost.trans {w1 w2 : World} {v1 : Value} {q : List UInt8} (hf : Fr (p :: v.ownBlock.toList) w w1) (hv : ∀ g, v1.ownBlock = some g → v.ownBlock = some g ∨ w.heap.size ≤ g) (h : WPost w1 w2 p B v1 size q) : WPost w w2 p B v size q := by
 obtain ⟨v2, h1, h2, h3⟩ := h
 refine ⟨v2, h1, hf.trans h2 (fun i hi => ?_), fun g hg => ?_⟩
 ·rcases List.mem_cons.1 hi with rfl | hi
  ·exact .inl (by simp)
  ·exact (hv i (mem_own.1 hi)).imp (fun h => List.mem_cons_of_mem _ (mem_own.2 h)) id
 ·rcases h3 g hg with h | h
  ·exact hv g h
  ·exact .inr (by have := hf.size; omega)
theorem WPost.blk {w w' : World} {g : Nat} {p B size : Nat} {v : Value} {bad : Bool} {l q : List UInt8} (h : WPost w w' p B v size q) (h0 : Wrt w p B v size bad l) {T : TypeId} {cs : Array Value} (hb : Blk w g T cs) (h1 : T ≠ 223) (h2 : T ≠ 5) : Blk w' g T cs := by
 obtain ⟨v', a, f, b⟩ := h
 refine hb.keep f (fun hm => ?_)
 rcases List.mem_cons.1 hm with e | hm
 ·exact hb.ne_ h0.1 h1 e
 ·exact h0.2.1.ne_blk hb h2 (mem_own.1 hm)
set_option maxHeartbeats 400000 in
theorem wUint_ok (h : Wrt w p B v size false l) (n x : Nat) (hw : wide n = true) (hx64 : x < 18446744073709551616) (hx : x < 256 ^ n) (hn : (l.length : Int) + n ≤ size) :
  Calls Tryz.prog 159 #[.pointer (some ⟨p, 0, none⟩), .int .i64 n, .int .u64 x] w fun e w' => e = .returned (.tuple #[]) ∧ WPost w w' p B v size (l ++ leB n x) := by
 have n8 : n ≤ 8 := by
  simp only [wide, Bool.or_eq_true, beq_iff_eq] at hw
  omega
 have HW := Lib.hid hw
 clear hw
 have m := h.2.2.2.1
 have d : ((x : Int) / 2 ^ (8 * n) != 0) = false := by
  rw [pow256] at hx
  have e : ((x : Int) / 2 ^ (8 * n)) = ((x / 2 ^ (8 * n) : Nat) : Int) := by push_cast; rfl
  rw [e, Nat.div_eq_of_lt hx]; rfl
 by_cases h8 : (n : Int) < 8
 all_goals
  go_enter Tryz.func159, Tryz.ntmps159
  go_wp2_with (first
   | (go_at_call 196; refine (isWide_any _ _).mono ?_; rw [HW.out]; rintro e w' ⟨rfl, rfl⟩)
   | (go_at_call 195; refine (wRoom_yes h n hn).mono ?_; rintro e w1 ⟨rfl, h1, h2⟩))
  clear d
  go_loopw [6, 25] (fun _ i wr => ∃ k : Nat, k ≤ n ∧ i = .int .i64 k ∧ WPost w wr p B v size (l ++ leB k x)) (fun _ i _ => n - (intOf i).toNat)
  case atStart => exact ⟨0, Nat.zero_le _, rfl, v, by simpa [leB] using h1, h2.mono (by simp), fun g hg => .inl hg⟩
  case round =>
   obtain ⟨k, hk, rfl, v1, k1, k2, k3⟩ := hrel
   by_cases hlt : k < n
   ·obtain ⟨q, hq⟩ : ∃ q, l ++ leB k x = q := ⟨_, rfl⟩
    rw [hq] at k1
    have hl : q.length = l.length + k := by rw [← hq, List.length_append, leB_length]
    have c0 := k1.1.cell 0
    simp at c0
    have f0 := k1.1.frozen 0
    have HL := Lib.hid hl
    have HQ := Lib.hid hq
    have ql : q.length + 1 ≤ size := by omega
    clear hl hq
    obtain ⟨A1, cap1, rfl, -, -, -, -, -⟩ := k1.2.1.shape
    have ca : ∀ o, (wr.alloc o).cell? ⟨p, 0, none⟩ = some (.slice A1 q.length cap1) := fun o => by have := (k1.1.alloc o).cell 0; simpa using this
    have e8 : IntKind.i64.wrap (8 * (k : Int)) = 8 * (k : Int) := IntWalk.i64_in _ (by omega)
    go_wp2
    go_region_law (refine step_app rfl rfl slB B _ _ _ rfl (by exact (k1.2.1.alloc _).keep_nil ((Fr.refl _ _).drew)) _ 1 1 [_] rfl rfl (by exact (Rd.one _ _ _).keep_nil ((Fr.refl _ _).drew)) (by intro u hu; rw [List.mem_singleton.1 hu]; rfl) (fun h => by cases h) (by omega) (by simp; have := k1.2.2.2.2; omega) ?_; intro v2 w2 g1 g2 g3 g4; have b2 := (Blk.alloc (Blk.keep k1.1 ((Fr.refl _ _).drew) (F := []) (by simp)) _).keep g2 (fun hm => k1.ne (mem_own.1 hm)); have e0 := b2.cell 0; have e1 := b2.frozen 0; simp at e0; obtain ⟨A2, cap2, rfl, -, -, -, -, -⟩ := g1.shape)
    go_wp2
    all_goals
     refine ⟨⟨k + 1, by omega, by go_num, WPost.trans k2 k3 ?_⟩, by simp [intOf]; omega⟩
     have k1' : Wrt (wr.alloc (.cells #[.int .u8 (IntKind.u8.wrap ((x : Int) / 2 ^ (8 * (k : Int)).toNat))] 5)).drew p B (.slice A1 q.length cap1) size false q := k1.keep_nil (((Fr.refl _ _).alloc _).drew)
     rw [leB_succ, ← List.append_assoc, HQ.out]
     refine WPost.of_store k1' ((((Fr.refl _ _).alloc _).drew)) _ ?_ ?_ g2 (fun g hg => (g3 g hg).imp_right (by simp; omega))
     ·simp; omega
     ·rw [List.length_append, bvs_append]
      rw [leB_byte] at g1
      exact g1
   ·obtain rfl : k = n := by omega
    go_wp2
    go_returns
    exact ⟨rfl, v1, k1, k2, k3⟩
set_option maxRecDepth 100000 in
set_option maxHeartbeats 400000 in
theorem wDone_ok (h : Wrt w p B v size false l) :
  Calls Tryz.prog 198 #[.pointer (some ⟨p, 0, none⟩)] w fun e w' => ∃ r, e = .returned (.tuple #[r, .int .i64 0]) ∧ Row w' w.heap.size 5 1 r size (bvs (l ++ List.replicate (size - l.length) 0)) ∧ Fr [] w w' := by
 have c2 := h.1.cell 2
 have c1 := h.1.cell 1
 have c0 := h.1.cell 0
 simp at c2 c1 c0
 have m := h.2.2.2.1
 have hlen := h.2.2.1
 obtain ⟨A1, cap1, rfl, hcap, -, hrd, hblk, -⟩ := h.2.1.shape
 go_enter Tryz.func198, Tryz.ntmps198
 go_wp2_with (first
  | (at_make; refine wpList_mk1 rfl rfl slB rfl .i64 .i64 _ _ size rfl rfl rfl rfl (by omega) ?_; intro w1 g1 g2 g3 g4; have k1 := h.1.keep g3 (by simp); have e0 := k1.cell 0; simp at e0)
  | (refine wpList_cp (o := ⟨some 23, _, _, _, _, _⟩) rfl rfl Tryz.underlying27 (by kernel_rfl) _ _ size size l.length cap1 rfl rfl (bvs l) (by rw [bvs_length]; exact (Nat.min_eq_left hlen).symm) (hrd.keep_nil g3) (bvs_one l) w.heap.size 0 (fun _ => rfl) _ 5 (0, 0) g1 (free_zero _) (by simp [bvs]; omega) ?_; intro w2 r1 r2))
 go_ret2
 refine ⟨_, rfl, ?_, g3.trans r2 (fun i hi => .inr (by simp at hi; omega))⟩
 refine ⟨by simp [bvs]; omega, .inr ⟨w.heap.size, size, _, (0, 0), rfl, Nat.le_refl _, r1, free_zero _, Nat.le_refl _, by unfold maxLen; omega, ?_, ?_⟩⟩
 ·simp [bvs]; omega
 ·rw [List.take_of_length_le (by simp [bvs_length]; omega), bvs_append, bvs_replicate]
  simp [bvs_length]
end
end
section
open Go.RowKit
theorem strB (w : World) (A : Option Addr) (l : List UInt8) (n c : Nat) (hn : l.length = n) (hr : Rd w A (bvs l)) (hA : A = none → n = 0) :
  (convert 27 9 (.slice A n c)).run Tryz.prog w = .ok (.string ⟨l.toArray⟩) w :=
 conv_str Tryz.underlying27 Tryz.underlying5 Tryz.underlying9 w A l n c hn hr hA
theorem Row.str {w : World} {B : Nat} {v : Value} {n : Nat} {l : List UInt8} (h : Row w B 5 1 v n (bvs l)) :
  (convert 27 9 v).run Tryz.prog w = .ok (.string ⟨l.toArray⟩) w := by
 obtain ⟨A, cap, rfl, -, -, hr, -, -⟩ := h.shape
 have hl : l.length = n := by have := h.1; rw [bvs_length] at this; omega
 refine strB w A l n cap hl hr (fun e => ?_)
 subst e
 rcases Nat.eq_zero_or_pos n with h0 | h0
 ·exact h0
 ·obtain ⟨g, o, e, _⟩ := hr (by intro h; have := congrArg List.length h; rw [bvs_length, List.length_nil] at this; omega)
  cases e
theorem Row.rd {w : World} {B : Nat} {A : Option Addr} {n n' c : Nat} {xs : List Value} {e : TypeId} {s : Nat} (h : Row w B e s (.slice A n' c) n xs) : Rd w A xs ∧ n' = n ∧ (A = none → n = 0) := by
 rcases h.2 with ⟨h1, h2⟩ | ⟨g, cap, cur, fz, h1, _⟩
 ·cases h1
  obtain ⟨A', c', e', _, _, h3, _, _⟩ := h.shape
  cases e'
  exact ⟨h3, h2.symm, fun _ => h2⟩
 ·cases h1
  obtain ⟨A', c', e', _, _, h3, _, _⟩ := h.shape
  cases e'
  exact ⟨h3, rfl, fun h => by cases h⟩
end
section
open Go.RowKit
end
section
open Go.RowKit
structure HeadM where
 gen : Nat
 sec : Int
 slo : Int
 jou : Int
 seg : Int
 tim : Int
 mem : Int
 lan : Int
 nam : List UInt8
 deriving DecidableEq
def HeadM.cells (h : HeadM) : List Value := .int .u64 (h.gen : Int) :: .int .i64 h.sec :: .int .i64 h.slo :: .int .i64 h.jou :: .int .i64 h.seg :: .int .i64 h.tim :: .int .i64 h.mem :: .int .i64 h.lan :: bvs h.nam
def in64 (z : Int) : Prop := -9223372036854775808 ≤ z ∧ z ≤ 9223372036854775807
structure HeadM.ok (h : HeadM) : Prop where
 gen : h.gen < 18446744073709551616
 sec : in64 h.sec
 slo : in64 h.slo
 jou : in64 h.jou
 seg : in64 h.seg
 tim : in64 h.tim
 mem : in64 h.mem
 lan : in64 h.lan
 nam : h.nam.length = 16
def zeroH : HeadM := ⟨0, 0, 0, 0, 0, 0, 0, 0, List.replicate 16 0⟩
theorem zeroH_ok : zeroH.ok := ⟨by decide, ⟨by decide, by decide⟩, ⟨by decide, by decide⟩, ⟨by decide, by decide⟩, ⟨by decide, by decide⟩, ⟨by decide, by decide⟩, ⟨by decide, by decide⟩, ⟨by decide, by decide⟩, rfl⟩
theorem HeadM.len {h : HeadM} (k : h.ok) : h.cells.length = 24 := by simp [HeadM.cells, bvs, k.nam]
theorem HeadM.ones (h : HeadM) : ∀ u ∈ h.cells, u.oneCell' = true := by
 intro u hu
 simp only [HeadM.cells, List.mem_cons] at hu
 rcases hu with rfl | rfl | rfl | rfl | rfl | rfl | rfl | rfl | hu
 all_goals first | rfl | exact bvs_one _ u hu
set_option maxRecDepth 100000 in
theorem stHead : StT Tryz.prog 62 24 zeroH.cells := ⟨⟨_, Tryz.underlying62, rfl⟩, by kernel_rfl, by decide, by kernel_rfl, zeroH.ones⟩
def wth (n a b : Int) : Bool := decide (a ≤ n ∧ n ≤ b)
theorem wth_yes {n a b : Int} (h : wth n a b = true) : a ≤ n ∧ n ≤ b := of_decide_eq_true h
theorem wth_no {n a b : Int} (h : wth n a b = false) : n < a ∨ b < n := by have := of_decide_eq_false h; omega
def parG (t m l : Int) : Bool := wth t 1 8 && (wth l 1 4 && wth m (8 * l) 256)
def HeadM.good (h : HeadM) : Bool := !((h.gen : Int) == 0) && (wth h.sec 1 1024 && (wth h.slo 1 8 && (wth h.jou 16 256 && (wth h.seg 1 16 && (!(decide (h.jou < h.seg + 10)) && parG h.tim h.mem h.lan)))))
structure HeadM.In (h : HeadM) : Prop where
 gen : 1 ≤ h.gen
 sec : 1 ≤ h.sec ∧ h.sec ≤ 1024
 slo : 1 ≤ h.slo ∧ h.slo ≤ 8
 jou : 16 ≤ h.jou ∧ h.jou ≤ 256
 seg : 1 ≤ h.seg ∧ h.seg ≤ 16
 room : h.seg + 10 ≤ h.jou
 tim : 1 ≤ h.tim ∧ h.tim ≤ 8
 lan : 1 ≤ h.lan ∧ h.lan ≤ 4
 mem : 8 * h.lan ≤ h.mem ∧ h.mem ≤ 256
theorem HeadM.in_of {h : HeadM} (k : h.good = true) : h.In := by
 simp only [HeadM.good, parG, wth, Bool.and_eq_true, Bool.not_eq_true', decide_eq_true_eq, decide_eq_false_iff_not, beq_eq_false_iff_ne] at k
 constructor <;> omega
theorem HeadM.good_of {h : HeadM} (k : h.In) : h.good = true := by
 obtain ⟨a, b, c, d, e, f, g, i, j⟩ := k
 simp only [HeadM.good, parG, wth, Bool.and_eq_true, Bool.not_eq_true', decide_eq_true_eq, decide_eq_false_iff_not, beq_eq_false_iff_ne]
 omega
def magicH : List UInt8 := [67, 65, 83, 75, 69, 84, 48, 49]
def HeadM.front (h : HeadM) : List UInt8 := magicH ++ (leB 8 h.gen ++ (leB 4 h.sec.toNat ++ (leB 1 h.slo.toNat ++ (leB 2 h.jou.toNat ++ (leB 1 h.seg.toNat ++ (leB 1 h.tim.toNat ++ (leB 2 h.mem.toNat ++ (leB 1 h.lan.toNat ++ h.nam))))))))
def HeadM.body (h : HeadM) : List UInt8 := h.front ++ List.replicate 436 0
def HeadM.bytes (h : HeadM) : List UInt8 := h.body ++ shaSum h.body
end
section
open Go.RowKit
set_option maxRecDepth 100000 in
theorem stPar : StT Tryz.prog 59 3 [.int .i64 0, .int .i64 0, .int .i64 0] := ⟨⟨_, Tryz.underlying59, rfl⟩, by kernel_rfl, by decide, by kernel_rfl, by intro u hu; simp at hu; rw [hu]; rfl⟩
def errG (b : Bool) (z : Int) : Int := if b then 0 else z
def parV (t m l : Int) : Value := .agg #[.int .i64 t, .int .i64 m, .int .i64 l]
set_option maxRecDepth 100000 in
set_option maxHeartbeats 1000000 in
theorem xaCheck_any (t m l : Int) (w : World) (hl : in64 l) : Calls Tryz.prog 99 #[parV t m l] w fun e w' => e = .returned (.int .i64 (errG (parG t m l) 80)) ∧ Fr [] w w' := by
 unfold parV
 cases d1 : wth t 1 8
 ·rcases wth_no d1 with k | k
  ·
   have H := Lib.hid (show parG t m l = false by simp [parG, *])
   go_enter Tryz.func99, Tryz.ntmps99
   go_wp2_with
    (first
     | (refine wpList_boxS rfl rfl [.int .i64 t, .int .i64 m, .int .i64 l] rfl ?_; intro w1 h1 f1 z1; have c0 := h1.cell 0; have c1 := h1.cell 1; have c2 := h1.cell 2; simp at c0 c1 c2))
   go_ret
   exact ⟨by rw [H.out]; rfl, f1⟩
  ·have k' : ¬ (t < 1) := by omega
   have H := Lib.hid (show parG t m l = false by simp [parG, *])
   go_enter Tryz.func99, Tryz.ntmps99
   go_wp2_with
    (first
     | (refine wpList_boxS rfl rfl [.int .i64 t, .int .i64 m, .int .i64 l] rfl ?_; intro w1 h1 f1 z1; have c0 := h1.cell 0; have c1 := h1.cell 1; have c2 := h1.cell 2; simp at c0 c1 c2))
   go_ret
   exact ⟨by rw [H.out]; rfl, f1⟩
 ·have k1 := wth_yes d1
  cases d2 : wth l 1 4
  ·rcases wth_no d2 with k | k
   ·
    have H := Lib.hid (show parG t m l = false by simp [parG, *])
    go_enter Tryz.func99, Tryz.ntmps99
    go_wp2_with
     (first
      | (refine wpList_boxS rfl rfl [.int .i64 t, .int .i64 m, .int .i64 l] rfl ?_; intro w1 h1 f1 z1; have c0 := h1.cell 0; have c1 := h1.cell 1; have c2 := h1.cell 2; simp at c0 c1 c2))
    go_ret
    exact ⟨by rw [H.out]; rfl, f1⟩
   ·
    have H := Lib.hid (show parG t m l = false by simp [parG, *])
    go_enter Tryz.func99, Tryz.ntmps99
    go_wp2_with
     (first
      | (refine wpList_boxS rfl rfl [.int .i64 t, .int .i64 m, .int .i64 l] rfl ?_; intro w1 h1 f1 z1; have c0 := h1.cell 0; have c1 := h1.cell 1; have c2 := h1.cell 2; simp at c0 c1 c2))
    go_ret
    exact ⟨by rw [H.out]; rfl, f1⟩
  ·have k2 := wth_yes d2
   have hw : IntKind.i64.wrap (8 * l) = 8 * l := by rw [IntWalk.i64_in _ (by omega)]
   cases d3 : wth m (8 * l) 256
   ·rcases wth_no d3 with k | k
    ·
     have H := Lib.hid (show parG t m l = false by simp [parG, *])
     go_enter Tryz.func99, Tryz.ntmps99
     go_wp2_with
      (first
       | (refine wpList_boxS rfl rfl [.int .i64 t, .int .i64 m, .int .i64 l] rfl ?_; intro w1 h1 f1 z1; have c0 := h1.cell 0; have c1 := h1.cell 1; have c2 := h1.cell 2; simp at c0 c1 c2))
     go_ret
     exact ⟨by rw [H.out]; rfl, f1⟩
    ·
     have H := Lib.hid (show parG t m l = false by simp [parG, *])
     go_enter Tryz.func99, Tryz.ntmps99
     go_wp2_with
      (first
       | (refine wpList_boxS rfl rfl [.int .i64 t, .int .i64 m, .int .i64 l] rfl ?_; intro w1 h1 f1 z1; have c0 := h1.cell 0; have c1 := h1.cell 1; have c2 := h1.cell 2; simp at c0 c1 c2))
     go_ret
     exact ⟨by rw [H.out]; rfl, f1⟩
   ·have k3 := wth_yes d3
    have H := Lib.hid (show parG t m l = true by simp [parG, *])
    go_enter Tryz.func99, Tryz.ntmps99
    go_wp2_with
     (first
      | (refine wpList_boxS rfl rfl [.int .i64 t, .int .i64 m, .int .i64 l] rfl ?_; intro w1 h1 f1 z1; have c0 := h1.cell 0; have c1 := h1.cell 1; have c2 := h1.cell 2; simp at c0 c1 c2))
    go_ret
    exact ⟨by rw [H.out]; rfl, f1⟩
end
section
open Go.RowKit
theorem leB_byte2 (x k : Nat) : Value.int .u8 ((x : Int) / 2 ^ (8 * k) % 256) = bv (UInt8.ofNat (x / 256 ^ k % 256)) := by
 have := leB_byte x k
 rw [IntKind.wrap_u8, show (8 * (k : Int)).toNat = 8 * k by omega] at this
 exact this
theorem bytesEq_any (A A' : Option Addr) (l l' : List UInt8) (n c n' c' : Nat) (w : World) (hn : l.length = n) (hr : Rd w A (bvs l)) (hA : A = none → n = 0) (hn' : l'.length = n') (hr' : Rd w A' (bvs l')) (hA' : A' = none → n' = 0) :
  Calls Tryz.prog 174 #[.slice A n c, .slice A' n' c'] w fun e w' => e = .returned (.bool (l == l')) ∧ w = w' := by
 have E1 := strB w A l n c hn hr hA
 have E2 := strB w A' l' n' c' hn' hr' hA'
 go_enter Tryz.func174, Tryz.ntmps174
 go_wp2_with fail
 go_ret
 exact ⟨by rfl, rfl⟩
end
section
open Go.RowKit
theorem and31 (n : Nat) (h0 : 0 < n) (h : n < 32) : bits .and .u64 (IntKind.u64.wrap (-(n : Int))) 31 = ((32 - n : Nat) : Int) := by
 have e : IntKind.u64.wrap (-(n : Int)) = ((18446744073709551616 - n : Nat) : Int) := by rw [IntKind.wrap_u64]; omega
 rw [e, show (31 : Int) = ((31 : Nat) : Int) from rfl, bits_and_u64_nat _ _ (by omega) (by decide), show (31 : Nat) = 2 ^ 5 - 1 by decide, Nat.and_two_pow_sub_one_eq_mod]
 omega
theorem rot32_any (x : UInt32) (n : Nat) (h0 : 0 < n) (h : n < 32) (w : World) :
  Calls Tryz.prog 227 #[.int .u32 (uw x), .int .i64 (-(n : Int))] w fun e w' => e = .returned (.int .u32 (uw (rotr x n))) ∧ w' = w := by
 have e1 := and31 n h0 h
 have e2 : IntKind.u64.wrap (32 - ((32 - n : Nat) : Int)) = (n : Int) := by rw [IntKind.wrap_u64]; omega
 have e3 := uw_shl x (32 - n)
 have e4 := uw_shr x n
 have e5 := uw_or (shl x (32 - n)) (shr x n)
 go_enter Tryz.func227, Tryz.ntmps227
 go_wp2
 go_ret
 exact ⟨rfl, rfl⟩
theorem right_any (x : UInt32) (n : Nat) (h0 : 0 < n) (h : n < 32) (w : World) :
  Calls Tryz.prog 209 #[.int .u32 (uw x), .int .i64 n] w fun e w' => e = .returned (.int .u32 (uw (rotr x n))) ∧ w' = w := by
 have e1 : IntKind.i64.wrap (-(n : Int)) = -(n : Int) := IntWalk.i64_in _ (by omega)
 go_enter Tryz.func209, Tryz.ntmps209
 go_wp2_with (refine (rot32_any x n h0 h _).mono ?_; rintro e w' ⟨rfl, rfl⟩)
 go_ret
 exact ⟨rfl, rfl⟩
theorem right_int (x : UInt32) (n : Int) (h0 : 0 < n) (h : n < 32) (w : World) :
  Calls Tryz.prog 209 #[.int .u32 (uw x), .int .i64 n] w fun e w' => e = .returned (.int .u32 (uw (rotr x n.toNat))) ∧ w' = w := by
 obtain ⟨m, rfl⟩ := Int.eq_ofNat_of_zero_le (Int.le_of_lt h0)
 exact right_any x m (by omega) (by omega) w
theorem turn_any (x : UInt32) (n : Nat) (h0 : 0 < n) (h : n < 32) (w : World) :
  Calls Tryz.prog 150 #[.int .i64 n, .int .u32 (uw x)] w fun e w' => e = .returned (.int .u32 (uw (rotr x n))) ∧ ∃ q, w' = w.drewN q := by
 have e2 : IntKind.i64.wrap (32 - (n : Int)) = ((32 - n : Nat) : Int) := by rw [IntWalk.i64_in _ (by omega)]; omega
 have e3 := uw_shl x (32 - n)
 have e4 := uw_shr x n
 have e5 : bits .or .u32 (uw (shr x n)) (uw (shl x (32 - n))) = uw (rotr x n) := by rw [uw_or, rotr']
 have p1 : (0 : Int) ≤ ((32 - n : Nat) : Int) := by omega
 go_enter Tryz.func150, Tryz.ntmps150
 go_wp2
 go_quiet (fail)
 go_wp2_with fail
 go_ret
 exact ⟨rfl, _, rfl⟩
theorem turn_int (x : UInt32) (n : Int) (h0 : 0 < n) (h : n < 32) (w : World) :
  Calls Tryz.prog 150 #[.int .i64 n, .int .u32 (uw x)] w fun e w' => e = .returned (.int .u32 (uw (rotr x n.toNat))) ∧ ∃ q, w' = w.drewN q := by
 obtain ⟨m, rfl⟩ := Int.eq_ofNat_of_zero_le (Int.le_of_lt h0)
 exact turn_any x m (by omega) (by omega) w
end
section
open Go.RowKit
def zB (n : Nat) : List UInt8 := List.replicate n 0
def zW (n : Nat) : List UInt32 := List.replicate n 0
set_option maxRecDepth 100000 in
theorem stA64 : StT Tryz.prog 159 64 (bvs (zB 64)) := ⟨⟨_, Tryz.underlying159, rfl⟩, by kernel_rfl, by decide, by kernel_rfl, bvs_one _⟩
set_option maxRecDepth 100000 in
theorem stA32 : StT Tryz.prog 39 32 (bvs (zB 32)) := ⟨⟨_, Tryz.underlying39, rfl⟩, by kernel_rfl, by decide, by kernel_rfl, bvs_one _⟩
set_option maxRecDepth 100000 in
theorem stW64 : StT Tryz.prog 188 64 (wvs (zW 64)) := ⟨⟨_, Tryz.underlying188, rfl⟩, by kernel_rfl, by decide, by kernel_rfl, wvs_one _⟩
set_option maxRecDepth 100000 in
theorem stW8 : StT Tryz.prog 157 8 (wvs (zW 8)) := ⟨⟨_, Tryz.underlying157, rfl⟩, by kernel_rfl, by decide, by kernel_rfl, wvs_one _⟩
def plw (l : List UInt32) (n : Nat) : List UInt32 := l ++ List.replicate (n - l.length) 0
theorem plw_len {l : List UInt32} {n : Nat} (h : l.length ≤ n) : (plw l n).length = n := by
 rw [plw, List.length_append, List.length_replicate]; omega
theorem plw_all {l : List UInt32} {n : Nat} (h : l.length = n) : plw l n = l := by simp [plw, h]
theorem plw_set {l : List UInt32} {n : Nat} (h : l.length < n) (x : UInt32) : (plw l n).set l.length x = plw (l ++ [x]) n := by
 rw [plw, plw, List.set_append_right _ _ (Nat.le_refl _), Nat.sub_self, show n - l.length = (n - (l.length + 1)) + 1 by omega, List.replicate_succ, List.set_cons_zero, List.length_append, List.length_cons, List.length_nil, List.append_assoc]
 rfl
theorem plw_at {l : List UInt32} {n i : Nat} (h : i < l.length) : (plw l n)[i]? = some (l.getD i 0) := by
 rw [plw, List.getElem?_append_left h]; simp [h]
section
variable {w : World} {g : Nat} {t : TypeId}
theorem blkW_at {l : List UInt32} (hb : Blk w g t (wvs l).toArray) {i : Nat} {x : UInt32} (h : l[i]? = some x) : w.cell? ⟨g, i, none⟩ = some (.int .u32 (uw x)) := by
 rw [hb.cell, List.getElem?_toArray]
 simp [wvs, h, wv]
theorem blkW_some {l : List UInt32} (hb : Blk w g t (wvs l).toArray) {i : Nat} (h : i < l.length) : ∃ v, w.cell? ⟨g, i, none⟩ = some v := ⟨_, blkW_at hb (List.getElem?_eq_getElem h)⟩
theorem blkW_set {l : List UInt32} (hb : Blk w g t (wvs l).toArray) (i : Nat) (x : UInt32) : Blk (w.setCell ⟨g, i, none⟩ (.int .u32 (uw x))) g t (wvs (l.set i x)).toArray := by
 have := hb.set_ i (.int .u32 (uw x))
 rwa [List.setIfInBounds_toArray, wvs_set] at this
theorem blkB_at {l : List UInt8} (hb : Blk w g t (bvs l).toArray) {i : Nat} (h : i < l.length) : w.cell? ⟨g, i, none⟩ = some (.int .u8 ((l.getD i 0).toNat : Int)) := by
 rw [hb.cell, List.getElem?_toArray]
 simp [bvs, h, bv]
end
set_option maxRecDepth 100000 in
set_option maxHeartbeats 4000000 in
theorem words_any (w : World) (p : List UInt8) (hp : p.length = 64) :
  Calls Tryz.prog 208 #[.agg (bvs p).toArray] w fun e w' => e = .returned (.agg (wvs (sched p 64)).toArray) ∧ Fr [] w w' := by
 have HP := Lib.hid hp
 clear hp
 go_enter Tryz.func208, Tryz.ntmps208
 go_wp2_with
  (first
   | (refine wpList_boxS rfl rfl (bvs p) rfl ?_; intro w1 h1 f1 z1; have Z1 := Lib.hid z1; clear z1; obtain ⟨g1, hg1⟩ : ∃ g1, w.heap.size = g1 := ⟨_, rfl⟩; rw [hg1] at h1; rw [hg1]; have HG1 := Lib.hid hg1; clear hg1)
   | (refine wpList_alS stW64 (o := ⟨some 2, _, _, _, _, _⟩) rfl rfl ?_; intro w2 h2 f2 z2; have Z2 := Lib.hid z2; clear z2; obtain ⟨g2, hg2⟩ : ∃ g2, w1.heap.size = g2 := ⟨_, rfl⟩; rw [hg2] at h2; rw [hg2]; have HG2 := Lib.hid hg2; clear hg2)
   | (refine wpList_alS stW64 (o := ⟨some 3, _, _, _, _, _⟩) rfl rfl ?_; intro w3 h3 f3 z3; have Z3 := Lib.hid z3; clear z3; obtain ⟨g3, hg3⟩ : ∃ g3, w2.heap.size = g3 := ⟨_, rfl⟩; rw [hg3] at h3; rw [hg3]; have HG3 := Lib.hid hg3; clear hg3))
 have G1 : w.heap.size = g1 := HG1.out
 have G12 : g1 < g2 := by have := HG2.out; have := h1.lt; omega
 have G23 : g2 < g3 := by have := HG3.out; have := h2.lt; omega
 have F3 := (f1.trans_nil f2).trans_nil f3
 have i1 := (h1.keep_nil f2).keep_nil f3
 have i2 := h2.keep_nil f3
 have i3 : Blk w3 g3 188 (wvs (plw (sched p 0) 64)).toArray := h3
 clear h1 h2 h3 f1 f2 f3
 go_loopw [7] (fun i wr => ∃ k : Nat, k ≤ 64 ∧ i = .int .i64 k ∧ Blk wr g1 159 (bvs p).toArray ∧ Blk wr g2 188 (wvs (zW 64)).toArray ∧ Blk wr g3 188 (wvs (plw (sched p k) 64)).toArray ∧ Fr [] w wr) (fun i _ => 64 - (intOf i).toNat)
 case atStart => exact ⟨0, Nat.zero_le _, rfl, i1, i2, i3, F3⟩
 case round =>
  clear i1 i2 i3 F3
  obtain ⟨k, hk, rfl, i1, i2, i3, F⟩ := hrel
  have HL := Lib.hid (sched_length p k)
  have HS := Lib.hid (show sched p (k + 1) = sched p k ++ [if k < 16 then wordAt p k else nextW (sched p k) k] from rfl)
  by_cases hlt : k < 64
  ·by_cases h16 : k < 16
   ·have e0 := blkB_at i1 (i := 4 * k) (by rw [HP.out]; omega)
    have e1 := blkB_at i1 (i := 4 * k + 1) (by rw [HP.out]; omega)
    have e2 := blkB_at i1 (i := 4 * k + 2) (by rw [HP.out]; omega)
    have e3 := blkB_at i1 (i := 4 * k + 3) (by rw [HP.out]; omega)
    have hwk : wordAt p k = shl (p.getD (4 * k) 0).toUInt32 24 ||| shl (p.getD (4 * k + 1) 0).toUInt32 16 ||| shl (p.getD (4 * k + 2) 0).toUInt32 8 ||| (p.getD (4 * k + 3) 0).toUInt32 := rfl
    generalize p.getD (4 * k) 0 = b0 at *
    generalize p.getD (4 * k + 1) 0 = b1 at *
    generalize p.getD (4 * k + 2) 0 = b2 at *
    generalize p.getD (4 * k + 3) 0 = b3 at *
    have HWK := Lib.hid hwk
    obtain ⟨v3, c3⟩ := blkW_some i3 (i := k) (by rw [plw_len (by rw [HL.out]; exact hk)]; exact hlt)
    have z3 := i3.frozen k
    clear hwk
    go_wp2_with fail
    try simp only [Act.put, p1, p2, p3]
    have X0 : IntKind.i64.wrap (4 * (k : Int)) = 4 * (k : Int) := IntWalk.i64_in _ (by omega)
    have X1 : IntKind.i64.wrap (4 * (k : Int) + 1) = 4 * (k : Int) + 1 := IntWalk.i64_in _ (by omega)
    have X2 : IntKind.i64.wrap (4 * (k : Int) + 2) = 4 * (k : Int) + 2 := IntWalk.i64_in _ (by omega)
    have X3 : IntKind.i64.wrap (4 * (k : Int) + 3) = 4 * (k : Int) + 3 := IntWalk.i64_in _ (by omega)
    have T0 : (4 * (k : Int)).toNat = 4 * k := by omega
    have T1 : (4 * (k : Int) + 1).toNat = 4 * k + 1 := by omega
    have T2 : (4 * (k : Int) + 2).toNat = 4 * k + 2 := by omega
    have T3 : (4 * (k : Int) + 3).toNat = 4 * k + 3 := by omega
    have A0 : 0 ≤ 4 * (k : Int) := by omega
    have A1 : 0 ≤ 4 * (k : Int) + 1 := by omega
    have A2 : 0 ≤ 4 * (k : Int) + 2 := by omega
    have A3 : 0 ≤ 4 * (k : Int) + 3 := by omega
    have B0 : 4 * (k : Int) < 64 := by omega
    have B1 : 4 * (k : Int) + 1 < 64 := by omega
    have B2 : 4 * (k : Int) + 2 < 64 := by omega
    have B3 : 4 * (k : Int) + 3 < 64 := by omega
    have C0 := uw_byte b0
    have C1 := uw_byte b1
    have C2 := uw_byte b2
    have C3 := uw_byte b3
    have D0 : IntKind.u32.wrap (uw b0.toUInt32 * 16777216) = uw (shl b0.toUInt32 24) := uw_shl _ 24
    have D1 : IntKind.u32.wrap (uw b1.toUInt32 * 65536) = uw (shl b1.toUInt32 16) := uw_shl _ 16
    have D2 : IntKind.u32.wrap (uw b2.toUInt32 * 256) = uw (shl b2.toUInt32 8) := uw_shl _ 8
    have E1 := uw_or (shl b0.toUInt32 24) (shl b1.toUInt32 16)
    have E2 := uw_or (shl b0.toUInt32 24 ||| shl b1.toUInt32 16) (shl b2.toUInt32 8)
    have E3 := uw_or (shl b0.toUInt32 24 ||| shl b1.toUInt32 16 ||| shl b2.toUInt32 8) b3.toUInt32
    refine wp_region_held_drew (S := fun w' => w'.cell? ⟨g1, 4 * k, none⟩ = some (.int .u8 b0.toNat) ∧ w'.cell? ⟨g1, 4 * k + 1, none⟩ = some (.int .u8 b1.toNat) ∧ w'.cell? ⟨g1, 4 * k + 2, none⟩ = some (.int .u8 b2.toNat) ∧ w'.cell? ⟨g1, 4 * k + 3, none⟩ = some (.int .u8 b3.toNat)) (by kernel_rfl) ⟨e0, e1, e2, e3⟩ (fun hHeld => ?_)
    refine tw 0 12 hHeld ?_
    refine tw 1 13 hHeld ?_
    refine tw 2 14 hHeld ?_
    refine tw 3 15 hHeld ?_
    refine tw 4 16 hHeld ?_
    refine tw 5 17 hHeld ?_
    refine tw 6 18 hHeld ?_
    refine tw 7 19 hHeld ?_
    refine tw 8 20 hHeld ?_
    refine tw 9 21 hHeld ?_
    refine tw 10 22 hHeld ?_
    refine tw 11 23 hHeld ?_
    refine tw 12 24 hHeld ?_
    refine tw 13 25 hHeld ?_
    refine tw 14 26 hHeld ?_
    refine tw 15 27 hHeld ?_
    refine tw 16 28 hHeld ?_
    refine tw 17 29 hHeld ?_
    refine tw 18 30 hHeld ?_
    refine tw 19 31 hHeld ?_
    refine tw 20 32 hHeld ?_
    refine tw 21 33 hHeld ?_
    refine tw 22 34 hHeld ?_
    refine tw 23 35 hHeld ?_
    refine tw 24 36 hHeld ?_
    refine tw 25 37 hHeld ?_
    refine tw 26 38 hHeld ?_
    refine tw 27 39 hHeld ?_
    refine tw 28 40 hHeld ?_
    refine tw 29 41 hHeld ?_
    refine tw 30 42 hHeld ?_
    refine tcd 31 none (fun K hK => ?_)
    refine wp_st1 rfl (by kernel_rfl) g3 k rfl (.int .u32 (uw (shl b0.toUInt32 24 ||| shl b1.toUInt32 16 ||| shl b2.toUInt32 8 ||| b3.toUInt32))) rfl rfl rfl (show World.cell? _ ⟨g3, k, none⟩ = some v3 from c3) (show World.frozen? _ ⟨g3, k, none⟩ = false from z3) ?_
    have f4 : Fr [g3] wr _ := ((Fr.refl [g3] wr).drew).setCell (p := ⟨g3, k, none⟩) (.inl (by simp)) (.int .u32 (uw (shl b0.toUInt32 24 ||| shl b1.toUInt32 16 ||| shl b2.toUInt32 8 ||| b3.toUInt32)))
    have i4 : Blk _ g3 188 _ := blkW_set (i3.keep_nil ((Fr.refl [] wr).drew)) k (shl b0.toUInt32 24 ||| shl b1.toUInt32 16 ||| shl b2.toUInt32 8 ||| b3.toUInt32)
    refine hK _ _ ⟨f4.cell (p := ⟨g1, 4 * k, none⟩) (by simp; omega) hHeld.1, f4.cell (p := ⟨g1, 4 * k + 1, none⟩) (by simp; omega) hHeld.2.1, f4.cell (p := ⟨g1, 4 * k + 2, none⟩) (by simp; omega) hHeld.2.2.1, f4.cell (p := ⟨g1, 4 * k + 3, none⟩) (by simp; omega) hHeld.2.2.2⟩ (fun hHn => ?_)
    clear hHn hHeld
    generalize World.setCell _ ⟨g3, k, none⟩ (.int .u32 (uw (shl b0.toUInt32 24 ||| shl b1.toUInt32 16 ||| shl b2.toUInt32 8 ||| b3.toUInt32))) = w4 at *
    clear hK K
    try simp only [Act.put, p1, p2, p3]
    refine wpAnyH_done (by kernel_rfl) ?_ _
    clear X0 X1 X2 X3 T0 T1 T2 T3 A0 A1 A2 A3 B0 B1 B2 B3 C0 C1 C2 C3 D0 D1 D2 E1 E2 E3 e0 e1 e2 e3 c3 z3
    go_wp2_with fail
    refine ⟨⟨k + 1, by omega, by go_num, i1.keep f4 (by simp; omega), i2.keep f4 (by simp; omega), ?_, F.trans f4 (fun i hi => .inr (by simp at hi; omega))⟩, by simp [intOf]; omega⟩
    have hs := plw_set (l := sched p k) (n := 64) (by rw [HL.out]; exact hlt) (wordAt p k)
    rw [HL.out] at hs
    rw [HS.out, if_pos h16, ← hs, HWK.out]
    exact i4
   ·have hl16 : 16 ≤ k := by omega
    obtain ⟨x15, hx15⟩ : ∃ x, (sched p k).getD (k - 15) 0 = x := ⟨_, rfl⟩
    obtain ⟨x2, hx2⟩ : ∃ x, (sched p k).getD (k - 2) 0 = x := ⟨_, rfl⟩
    obtain ⟨x16, hx16⟩ : ∃ x, (sched p k).getD (k - 16) 0 = x := ⟨_, rfl⟩
    obtain ⟨x7, hx7⟩ : ∃ x, (sched p k).getD (k - 7) 0 = x := ⟨_, rfl⟩
    have c15 := blkW_at i3 (plw_at (n := 64) (i := k - 15) (by rw [HL.out]; omega))
    have c2 := blkW_at i3 (plw_at (n := 64) (i := k - 2) (by rw [HL.out]; omega))
    have c16 := blkW_at i3 (plw_at (n := 64) (i := k - 16) (by rw [HL.out]; omega))
    have c7 := blkW_at i3 (plw_at (n := 64) (i := k - 7) (by rw [HL.out]; omega))
    rw [hx15] at c15
    rw [hx2] at c2
    rw [hx16] at c16
    rw [hx7] at c7
    have HN := Lib.hid (show nextW (sched p k) k = x16 + x7 + (rotr x15 7 ^^^ rotr x15 18 ^^^ shr x15 3) + (rotr x2 17 ^^^ rotr x2 19 ^^^ shr x2 10) by rw [nextW, hx15, hx2, hx16, hx7]; rfl)
    clear hx15 hx2 hx16 hx7
    obtain ⟨v3, c3⟩ := blkW_some i3 (i := k) (by rw [plw_len (by rw [HL.out]; exact hk)]; exact hlt)
    have z3 := i3.frozen k
    go_wp2_with fail
    have X0 : IntKind.i64.wrap ((k : Int) - 15) = (k : Int) - 15 := IntWalk.i64_in _ (by omega)
    have X1 : IntKind.i64.wrap ((k : Int) - 2) = (k : Int) - 2 := IntWalk.i64_in _ (by omega)
    have X2 : IntKind.i64.wrap ((k : Int) - 16) = (k : Int) - 16 := IntWalk.i64_in _ (by omega)
    have X3 : IntKind.i64.wrap ((k : Int) - 7) = (k : Int) - 7 := IntWalk.i64_in _ (by omega)
    have T0 : ((k : Int) - 15).toNat = k - 15 := by omega
    have T1 : ((k : Int) - 2).toNat = k - 2 := by omega
    have T2 : ((k : Int) - 16).toNat = k - 16 := by omega
    have T3 : ((k : Int) - 7).toNat = k - 7 := by omega
    have A0 : 0 ≤ (k : Int) - 15 := by omega
    have A1 : 0 ≤ (k : Int) - 2 := by omega
    have A2 : 0 ≤ (k : Int) - 16 := by omega
    have A3 : 0 ≤ (k : Int) - 7 := by omega
    have A0' : (15 : Int) ≤ k := by omega
    have A1' : (2 : Int) ≤ k := by omega
    have A2' : (16 : Int) ≤ k := by omega
    have A3' : (7 : Int) ≤ k := by omega
    have B0 : (k : Int) - 15 < 64 := by omega
    have B1 : (k : Int) - 2 < 64 := by omega
    have B2 : (k : Int) - 16 < 64 := by omega
    have B3 : (k : Int) - 7 < 64 := by omega
    go_quiet (fail)
    go_wp2_with fail
    try simp only [Act.put, p1, p2, p3]
    have D0 : uw x15 / 8 = uw (shr x15 3) := uw_shr _ 3
    have D1 : uw x2 / 1024 = uw (shr x2 10) := uw_shr _ 10
    have E1 := uw_add
    have E2 := uw_xor
    refine wp_region_held_drew (S := fun w' => w'.cell? ⟨g3, k - 16, none⟩ = some (.int .u32 (uw x16)) ∧ w'.cell? ⟨g3, k - 7, none⟩ = some (.int .u32 (uw x7))) (by kernel_rfl) ⟨c16, c7⟩ (fun hHeld => ?_)
    refine tw 0 51 hHeld ?_
    refine tw 1 52 hHeld ?_
    refine tw 2 53 hHeld ?_
    refine tw 3 54 hHeld ?_
    refine tw 4 55 hHeld ?_
    refine tw 5 56 hHeld ?_
    refine tw 6 57 hHeld ?_
    refine tw 7 58 hHeld ?_
    refine tw 8 59 hHeld ?_
    refine tw 9 60 hHeld ?_
    refine tw 10 61 hHeld ?_
    refine tw 12 63 hHeld ?_
    refine tw 15 66 hHeld ?_
    refine tw 16 67 hHeld ?_
    refine tw 19 70 hHeld ?_
    refine tw 21 72 hHeld ?_
    refine tw 24 75 hHeld ?_
    refine tw 25 76 hHeld ?_
    refine tc 11 (fun K hK => ?_)
    go_simp
    refine (right_any x15 7 (by omega) (by omega) _).mono ?_
    rintro e w' ⟨rfl, rfl⟩
    refine hK.out _ _ hHeld (fun hHn => ?_)
    clear hHn
    clear hK K
    try simp only [Act.put, p1, p2, p3]
    refine tc 13 (fun K hK => ?_)
    go_simp
    refine (right_any x15 18 (by omega) (by omega) _).mono ?_
    rintro e w' ⟨rfl, rfl⟩
    refine hK.out _ _ hHeld (fun hHn => ?_)
    clear hHn
    clear hK K
    try simp only [Act.put, p1, p2, p3]
    refine tw 14 65 hHeld ?_
    refine tw 17 68 hHeld ?_
    refine tw 18 69 hHeld ?_
    refine tc 20 (fun K hK => ?_)
    go_simp
    refine (right_any x2 17 (by omega) (by omega) _).mono ?_
    rintro e w' ⟨rfl, rfl⟩
    refine hK.out _ _ hHeld (fun hHn => ?_)
    clear hHn
    clear hK K
    try simp only [Act.put, p1, p2, p3]
    refine tc 22 (fun K hK => ?_)
    go_simp
    refine (right_any x2 19 (by omega) (by omega) _).mono ?_
    rintro e w' ⟨rfl, rfl⟩
    refine hK.out _ _ hHeld (fun hHn => ?_)
    clear hHn
    clear hK K
    try simp only [Act.put, p1, p2, p3]
    refine tw 23 74 hHeld ?_
    refine tw 26 77 hHeld ?_
    refine tw 27 78 hHeld ?_
    refine tw 28 79 hHeld ?_
    refine tcd 29 none (fun K hK => ?_)
    refine wp_st1 rfl (by kernel_rfl) g3 k rfl (.int .u32 (uw (x16 + x7 + (rotr x15 7 ^^^ rotr x15 18 ^^^ shr x15 3) + (rotr x2 17 ^^^ rotr x2 19 ^^^ shr x2 10)))) rfl rfl rfl (show World.cell? _ ⟨g3, k, none⟩ = some v3 from c3) (show World.frozen? _ ⟨g3, k, none⟩ = false from z3) ?_
    have f4 : Fr [g3] wr _ := (((Fr.refl [g3] wr).drewN (nq + 1))).setCell (p := ⟨g3, k, none⟩) (.inl (by simp)) (.int .u32 (uw (x16 + x7 + (rotr x15 7 ^^^ rotr x15 18 ^^^ shr x15 3) + (rotr x2 17 ^^^ rotr x2 19 ^^^ shr x2 10))))
    have i4 : Blk _ g3 188 _ := blkW_set (i3.keep_nil (((Fr.refl [] wr).drewN (nq + 1)))) k (x16 + x7 + (rotr x15 7 ^^^ rotr x15 18 ^^^ shr x15 3) + (rotr x2 17 ^^^ rotr x2 19 ^^^ shr x2 10))
    refine hK _ _ ⟨(World.cell?_setCell_other _ _ _ _ (by first | (simp; done) | (simp; omega))).trans hHeld.1, (World.cell?_setCell_other _ _ _ _ (by first | (simp; done) | (simp; omega))).trans hHeld.2⟩ (fun hHn => ?_)
    clear hHn hHeld
    generalize World.setCell _ ⟨g3, k, none⟩ (.int .u32 (uw (x16 + x7 + (rotr x15 7 ^^^ rotr x15 18 ^^^ shr x15 3) + (rotr x2 17 ^^^ rotr x2 19 ^^^ shr x2 10)))) = w4 at *
    clear hK K
    try simp only [Act.put, p1, p2, p3]
    refine wpAnyH_done (by kernel_rfl) ?_ _
    clear X0 X1 X2 X3 T0 T1 T2 T3 A0 A1 A2 A3 A0' A1' A2' A3' B0 B1 B2 B3 D0 D1 E1 E2 c15 c2 c16 c7 c3 z3
    go_wp2_with fail
    refine ⟨⟨k + 1, by omega, by go_num, i1.keep f4 (by simp; omega), i2.keep f4 (by simp; omega), ?_, F.trans f4 (fun i hi => .inr (by simp at hi; omega))⟩, by simp [intOf]; omega⟩
    have hs := plw_set (l := sched p k) (n := 64) (by rw [HL.out]; exact hlt) (nextW (sched p k) k)
    rw [HL.out] at hs
    rw [HS.out, if_neg h16, ← hs, HN.out]
    exact i4
  ·obtain rfl : k = 64 := by omega
   rw [plw_all HL.out] at i3
   go_wp2_with
    (first
     | (refine wpList_ldS stW64 rfl rfl g3 0 rfl (wvs (sched p 64)) (by rw [wvs_length, HL.out]) i3.range0 ?_)
     | (refine wpList_stB stW64 rfl rfl g2 rfl (wvs (sched p 64)) rfl (by rw [wvs_length, HL.out]) (wvs_one _) (wvs (zW 64)) rfl i2 ?_; intro w5 h5 f5 z5))
   try simp only [Exit.inBlock, Exit.then]
   refine bodyPost_ret (results_cell stW64 rfl rfl (by rw [wvs_length, HL.out]) h5) rfl ?_
   exact ⟨rfl, F.trans f5 (fun i hi => .inr (by simp at hi; omega))⟩
end
section
open Go.RowKit
def KG (w : World) : Prop := w.rangeAt 0 0 (wvs kC)
theorem KG.keep {w w' : World} (h : KG w) (hf : Fr [] w w') : KG w' := rangeAt_keep h hf (by simp)
theorem w8_cells {w : World} {g : Nat} {s : S8} (hb : Blk w g 157 (wvs s.list).toArray) : w.cell? ⟨g, 0, none⟩ = some (.int .u32 (uw s.a)) ∧ w.cell? ⟨g, 1, none⟩ = some (.int .u32 (uw s.b)) ∧ w.cell? ⟨g, 2, none⟩ = some (.int .u32 (uw s.c)) ∧ w.cell? ⟨g, 3, none⟩ = some (.int .u32 (uw s.d)) ∧ w.cell? ⟨g, 4, none⟩ = some (.int .u32 (uw s.e)) ∧ w.cell? ⟨g, 5, none⟩ = some (.int .u32 (uw s.f)) ∧ w.cell? ⟨g, 6, none⟩ = some (.int .u32 (uw s.g)) ∧ w.cell? ⟨g, 7, none⟩ = some (.int .u32 (uw s.h)) :=
 ⟨blkW_at hb rfl, blkW_at hb rfl, blkW_at hb rfl, blkW_at hb rfl, blkW_at hb rfl, blkW_at hb rfl, blkW_at hb rfl, blkW_at hb rfl⟩
set_option maxRecDepth 100000 in
theorem bld8 (w : World) (t : S8) : (Instr.build 157 #[(0, .int .u32 (uw t.a)), (1, .int .u32 (uw t.b)), (2, .int .u32 (uw t.c)), (3, .int .u32 (uw t.d)), (4, .int .u32 (uw t.e)), (5, .int .u32 (uw t.f)), (6, .int .u32 (uw t.g)), (7, .int .u32 (uw t.h))]).run Tryz.prog w = .ok (.agg (wvs t.list).toArray) w := by kernel_rfl
theorem S8.list_len (s : S8) : s.list.length = 8 := rfl
def mixL (s t : S8) (k : Nat) : List UInt32 := (s.add t).list.take k ++ s.list.drop k
theorem mixL_at (s t : S8) (k : Nat) (h : k < 8) : (mixL s t k)[k]? = some (s.list.getD k 0) := by
 have l1 : ((s.add t).list.take k).length = k := by rw [List.length_take, S8.list_len]; omega
 have hk : k < s.list.length := h
 rw [mixL, List.getElem?_append_right (by omega), l1, Nat.sub_self, List.getElem?_drop, Nat.add_zero, List.getElem?_eq_getElem hk]
 simp [hk]
theorem mixL_set (s t : S8) (k : Nat) (h : k < 8) : (mixL s t k).set k (s.list.getD k 0 + t.list.getD k 0) = mixL s t (k + 1) := by
 match k, h with
 | 0, _ | 1, _ | 2, _ | 3, _ | 4, _ | 5, _ | 6, _ | 7, _ => rfl
set_option maxRecDepth 100000 in
set_option maxHeartbeats 4000000 in
theorem block_W (w : World) (s : S8) (p : List UInt8) (hp : p.length = 64) (kc W : List UInt32) (hkl : kc.length = 64) (hWl : W.length = 64) (hK0 : w.rangeAt 0 0 (wvs kc))
  (hw : ∀ w, Calls Tryz.prog 208 #[.agg (bvs p).toArray] w fun e w' => e = .returned (.agg (wvs W).toArray) ∧ Fr [] w w') :
  Calls Tryz.prog 187 #[.agg (wvs s.list).toArray, .agg (bvs p).toArray] w fun e w' => e = .returned (.agg (wvs (s.add (s.run kc W 64)).list).toArray) ∧ Fr [] w w' := by
 have HP := Lib.hid hp
 have HKL := Lib.hid hkl
 have HWL := Lib.hid hWl
 have HWC := Lib.hid hw
 clear hp hkl hWl hw
 go_enter Tryz.func187, Tryz.ntmps187
 go_wp2_with
  (first
   | (refine wpList_boxS (o := ⟨some 2, _, _, _, _, _⟩) rfl rfl (wvs s.list) rfl ?_; intro w2 h2 f2 z2; have Z2 := Lib.hid z2; clear z2; obtain ⟨g2, hg2⟩ : ∃ g2, w.heap.size = g2 := ⟨_, rfl⟩; rw [hg2] at h2; rw [hg2]; have HG2 := Lib.hid hg2; clear hg2)
   | (refine wpList_boxS (o := ⟨some 3, _, _, _, _, _⟩) rfl rfl (bvs p) rfl ?_; intro w3 h3 f3 z3; have Z3 := Lib.hid z3; clear z3; obtain ⟨g3, hg3⟩ : ∃ g3, w2.heap.size = g3 := ⟨_, rfl⟩; rw [hg3] at h3; rw [hg3]; have HG3 := Lib.hid hg3; clear hg3)
   | (refine wpList_alS stW8 (o := ⟨some 4, _, _, _, _, _⟩) rfl rfl ?_; intro w4 h4 f4 z4; have Z4 := Lib.hid z4; clear z4; obtain ⟨g4, hg4⟩ : ∃ g4, w3.heap.size = g4 := ⟨_, rfl⟩; rw [hg4] at h4; rw [hg4]; have HG4 := Lib.hid hg4; clear hg4; have i3 := h3.keep_nil f4)
   | (refine wpList_ldS stA64 rfl rfl g3 0 rfl (bvs p) (by rw [bvs_length, HP.out]) i3.range0 ?_))
 have G2 : w.heap.size = g2 := HG2.out
 have G23 : g2 < g3 := by have := HG3.out; have := h2.lt; omega
 have G34 : g3 < g4 := by have := HG4.out; have := h3.lt; omega
 have F4 := (f2.trans_nil f3).trans_nil f4
 have i2 := (h2.keep_nil f3).keep_nil f4
 clear h2 h3 f2 f3 f4
 refine (HWC.out w4).mono ?_
 rintro e w5 ⟨rfl, f5⟩
 have i2 := i2.keep_nil f5
 have i4 := h4.keep_nil f5
 have F5 := F4.trans_nil f5
 have l4 := i4.lt
 clear h4 f5 F4 i3
 go_wp2_with
  (first
   | (refine wpList_alS stW64 rfl rfl ?_; intro w6 h6 f6 z6; have Z6 := Lib.hid z6; clear z6; obtain ⟨g5, hg5⟩ : ∃ g5, w5.heap.size = g5 := ⟨_, rfl⟩; rw [hg5] at h6; rw [hg5]; have HG5 := Lib.hid hg5; clear hg5)
   | (refine wpList_stB stW64 rfl rfl g5 rfl (wvs W) rfl (by rw [wvs_length, HWL.out]) (wvs_one _) (wvs (zW 64)) rfl h6 ?_; intro w7 h7 f7 z7; have Z7 := Lib.hid z7; clear z7))
 have G45 : g4 < g5 := by have := HG5.out; omega
 have FF : Fr [] w5 w7 := f6.trans f7 (fun i hi => .inr (by have := HG5.out; simp at hi; omega))
 have i2 := i2.keep_nil FF
 have i4 := i4.keep_nil FF
 have F7 := F5.trans_nil FF
 clear h6 f6 f7 FF F5 l4
 obtain ⟨c0, c1, c2, c3, c4, c5, c6, c7⟩ := w8_cells i2
 go_quiet (fail)
 have hkg := rangeAt_keep hK0 (F7.trans_nil ((Fr.refl [] w7).drewN nq)) (by simp)
 go_wp2_with
  (first
   | (refine wpList_ldS stW64 rfl rfl 0 0 rfl (wvs kc) (by rw [wvs_length, HKL.out]) hkg ?_))
 have F8 := F7.trans_nil ((Fr.refl [] w7).drewN nq)
 have i2 := i2.keep_nil ((Fr.refl [] w7).drewN nq)
 have i4 := i4.keep_nil ((Fr.refl [] w7).drewN nq)
 have i5 := h7.keep_nil ((Fr.refl [] w7).drewN nq)
 clear c0 c1 c2 c3 c4 c5 c6 c7 F7 h7
 generalize World.drewN w7 nq = w8 at *
 have E1 := uw_add
 have E2 := uw_xor
 have E3 := uw_and
 have E4 := uw_or
 go_loopw [6, 7, 8, 9, 10, 11, 12, 13, 39] (fun sa sb sc sd se sf sg sh i wr => ∃ k : Nat, k ≤ 64 ∧ i = .int .i64 k ∧ sa = .int .u32 (uw (s.run kc W k).a) ∧ sb = .int .u32 (uw (s.run kc W k).b) ∧ sc = .int .u32 (uw (s.run kc W k).c) ∧ sd = .int .u32 (uw (s.run kc W k).d) ∧ se = .int .u32 (uw (s.run kc W k).e) ∧ sf = .int .u32 (uw (s.run kc W k).f) ∧ sg = .int .u32 (uw (s.run kc W k).g) ∧ sh = .int .u32 (uw (s.run kc W k).h) ∧ Fr [] w8 wr) (fun _ _ _ _ _ _ _ _ i _ => 64 - (intOf i).toNat)
 case atStart => exact ⟨0, Nat.zero_le _, rfl, rfl, rfl, rfl, rfl, rfl, rfl, rfl, rfl, Fr.refl _ _⟩
 case round =>
  obtain ⟨k, hk, rfl, rfl, rfl, rfl, rfl, rfl, rfl, rfl, rfl, f9⟩ := hrel
  have HR := Lib.hid (show s.run kc W (k + 1) = (s.run kc W k).step (kc.getD k 0) (W.getD k 0) from rfl)
  by_cases hlt : k < 64
  ·obtain ⟨t, ht⟩ : ∃ t, s.run kc W k = t := ⟨_, rfl⟩
   rw [ht]
   rw [ht] at HR
   clear ht
   have c5 := blkW_at (i5.keep_nil f9) (i := k) (x := W.getD k 0) (by rw [List.getElem?_eq_getElem (by rw [HWL.out]; exact hlt)]; simp [HWL.out, hlt])
   have ck : (wvs kc).toArray[k]? = some (.int .u32 (uw (kc.getD k 0))) := by
    have : k < kc.length := by rw [HKL.out]; exact hlt
    rw [List.getElem?_toArray, wvs_at this]; simp [this]
   generalize W.getD k 0 = ww at *
   generalize kc.getD k 0 = kk at *
   have CK := Lib.hid ck
   clear ck
   go_wp2_with
    (first
     | (refine wpList_ix1 (o := ⟨some 42, _, _, _, _, _⟩) Tryz.underlying188 Tryz.underlying156 rfl (by kernel_rfl) rfl rfl (wvs kc).toArray rfl .i64 k rfl hlt _ CK.out ?_))
   try simp only [Act.put, p1, p2, p3]
   refine wp_region_held_drew (S := fun w' => w'.cell? ⟨g5, k, none⟩ = some (.int .u32 (uw ww))) (by kernel_rfl) c5 (fun hHeld => ?_)
   refine tw 0 43 hHeld ?_
   refine tw 1 44 hHeld ?_
   refine tw 3 46 hHeld ?_
   refine tw 6 49 hHeld ?_
   refine tw 10 53 hHeld ?_
   refine tw 11 54 hHeld ?_
   refine tw 12 55 hHeld ?_
   refine tw 13 56 hHeld ?_
   refine tw 14 57 hHeld ?_
   refine tw 15 58 hHeld ?_
   refine tw 16 59 hHeld ?_
   refine tw 18 61 hHeld ?_
   refine tw 20 63 hHeld ?_
   refine tw 21 64 hHeld ?_
   refine tw 22 65 hHeld ?_
   refine tc 2 (fun K hK => ?_)
   go_simp
   refine (right_int _ _ (by omega) (by omega) _).mono ?_
   rintro e w' ⟨rfl, rfl⟩
   refine hK.out _ _ hHeld (fun hHn => ?_)
   clear hHn
   clear hK K
   try simp only [Act.put, p1, p2, p3]
   refine tc 4 (fun K hK => ?_)
   go_simp
   refine (right_int _ _ (by omega) (by omega) _).mono ?_
   rintro e w' ⟨rfl, rfl⟩
   refine hK.out _ _ hHeld (fun hHn => ?_)
   clear hHn
   clear hK K
   try simp only [Act.put, p1, p2, p3]
   refine tw 5 48 hHeld ?_
   refine tc 7 (fun K hK => ?_)
   go_simp
   refine (right_int _ _ (by omega) (by omega) _).mono ?_
   rintro e w' ⟨rfl, rfl⟩
   refine hK.out _ _ hHeld (fun hHn => ?_)
   clear hHn
   clear hK K
   try simp only [Act.put, p1, p2, p3]
   refine tw 8 51 hHeld ?_
   refine tw 9 52 hHeld ?_
   refine tw 17 60 hHeld ?_
   refine tw 19 62 hHeld ?_
   refine tw 23 66 hHeld ?_
   refine tw 24 16 hHeld ?_
   refine wpAnyH_done (by kernel_rfl) ?_ _
   go_wp2_with (go_at_call 209; refine (right_int _ _ (by omega) (by omega) _).mono ?_; rintro e w' ⟨rfl, rfl⟩)
   refine ⟨⟨k + 1, by omega, by go_num, by rw [HR.out]; rfl, by rw [HR.out]; rfl, by rw [HR.out]; rfl, by rw [HR.out]; rfl, by rw [HR.out]; rfl, by rw [HR.out]; rfl, by rw [HR.out]; rfl, by rw [HR.out]; rfl, f9.drew⟩, by simp [intOf]; omega⟩
  ·obtain rfl : k = 64 := by omega
   have F9 := F8.trans_nil f9
   have i2 := i2.keep_nil f9
   have i4 := i4.keep_nil f9
   clear i5 hkg HR
   obtain ⟨t, ht⟩ : ∃ t, s.run kc W 64 = t := ⟨_, rfl⟩
   rw [ht]
   have HT := Lib.hid (fun _ : Unit => ht)
   clear ht
   have i2' : Blk _ g2 157 (wvs (mixL s t 0)).toArray := i2
   clear i2 f9 E2 E3 E4
   go_wp2_with
    (first
     | (refine wpList_bldK (o := ⟨some 106, _, _, _, _, _⟩) rfl rfl #[(0, .int .u32 (uw t.a)), (1, .int .u32 (uw t.b)), (2, .int .u32 (uw t.c)), (3, .int .u32 (uw t.d)), (4, .int .u32 (uw t.e)), (5, .int .u32 (uw t.f)), (6, .int .u32 (uw t.g)), (7, .int .u32 (uw t.h))] (by kernel_rfl) (.agg (wvs t.list).toArray) (bld8 _ t) ?_))
   go_loopw [107] (fun i wr => ∃ k : Nat, k ≤ 8 ∧ i = .int .i64 k ∧ Blk wr g2 157 (wvs (mixL s t k)).toArray ∧ Blk wr g4 157 (wvs (zW 8)).toArray ∧ Fr [] w wr) (fun i _ => 8 - (intOf i).toNat)
   case atStart => exact ⟨0, Nat.zero_le _, rfl, i2', i4, F9⟩
   case round =>
    clear i2' i4 F9
    obtain ⟨k, hk, rfl, j2, j4, F⟩ := hrel
    by_cases hlt : k < 8
    ·have c2 := blkW_at j2 (mixL_at s t k hlt)
     have z2 := j2.frozen k
     have hm := mixL_set s t k hlt
     have ct : (wvs t.list).toArray[k]? = some (.int .u32 (uw (t.list.getD k 0))) := by
      have : k < t.list.length := hlt
      rw [List.getElem?_toArray, wvs_at this]; simp [this]
     have CT := Lib.hid ct
     clear ct
     obtain ⟨x, hx⟩ : ∃ x, s.list.getD k 0 = x := ⟨_, rfl⟩
     obtain ⟨y, hy⟩ : ∃ y, t.list.getD k 0 = y := ⟨_, rfl⟩
     rw [hx] at c2 hm
     rw [hy] at hm CT
     have HM := Lib.hid hm
     clear hx hy hm
     go_wp2_with
      (first
       | (refine wpList_ix1 (o := ⟨some 110, _, _, _, _, _⟩) Tryz.underlying157 Tryz.underlying156 rfl (by kernel_rfl) rfl rfl (wvs t.list).toArray rfl .i64 k rfl hlt _ CT.out ?_))
     have j2' := blkW_set j2 k (x + y)
     rw [HM.out] at j2'
     have fs : Fr [g2] _ _ := (Fr.refl [g2] _).setCell (w := wr) (p := ⟨g2, k, none⟩) (.inl (by simp)) (.int .u32 (uw (x + y)))
     exact ⟨⟨k + 1, by omega, by go_num, j2', j4.keep fs (by simp; omega), F.trans fs (fun i hi => .inr (by simp at hi; omega))⟩, by simp [intOf]; omega⟩
    ·obtain rfl : k = 8 := by omega
     have j2' : Blk _ g2 157 (wvs (s.add t).list).toArray := j2
     clear j2
     go_wp2_with
      (first
       | (refine wpList_ldS stW8 rfl rfl g2 0 rfl (wvs (s.add t).list) (by rw [wvs_length]; rfl) j2'.range0 ?_)
       | (refine wpList_stB stW8 rfl rfl g4 rfl (wvs (s.add t).list) rfl (by rw [wvs_length]; rfl) (wvs_one _) (wvs (zW 8)) rfl j4 ?_; intro w5 h5 f5 z5))
     try simp only [Exit.inBlock, Exit.then]
     refine bodyPost_ret (results_cell stW8 rfl rfl (by rw [wvs_length]; rfl) h5) rfl ?_
     exact ⟨by rw [HT.out ()], F.trans f5 (fun i hi => .inr (by simp at hi; omega))⟩
theorem block_any (w : World) (s : S8) (p : List UInt8) (hp : p.length = 64) (hK : KG w) :
  Calls Tryz.prog 187 #[.agg (wvs s.list).toArray, .agg (bvs p).toArray] w fun e w' => e = .returned (.agg (wvs (shaBlk s p).list).toArray) ∧ Fr [] w w' :=
 block_W w s p hp kC (sched p 64) rfl (sched_length p 64) hK (fun w => words_any w p hp)
end
end Go.Proofs.YtbanogfljpkbkaaGreatDoor
