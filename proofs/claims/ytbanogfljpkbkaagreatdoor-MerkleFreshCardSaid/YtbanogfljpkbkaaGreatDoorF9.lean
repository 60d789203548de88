/-
  Texts of this claim, one behind the other: CodC, CodD, CodE, CodF, CodG, CodH, Bld, HeadA, HeadB, HeadD, ShaB.
-/
import Derived.Test.YtbanogfljpkbkaaGreatDoorF8
import Derived.Test.YtbanogfljpkbkaaGreatDoorF2
import Derived.Deep.RegionLaw
import Derived.Test.YtbanogfljpkbkaaGreatDoorF3
import Derived.Test.YtbanogfljpkbkaaGreatDoorF7
import Derived.Deep.DeepCutAuto
import Derived.Deep.CutBlock
import Derived.Test.YtbanogfljpkbkaaGreatDoorProg
import Derived.Laws.Bits64b
set_option linter.unusedSimpArgs false
set_option linter.unusedVariables false
set_option linter.unnecessarySimpa false
namespace Go.Proofs.YtbanogfljpkbkaaGreatDoor
section
open Go.RowKit
def leN : List UInt8 → Nat
 | [] => 0
 | x :: r => x.toNat + 256 * leN r
theorem leN_append (a b : List UInt8) : leN (a ++ b) = leN a + 256 ^ a.length * leN b := by
 induction a with
 | nil => simp [leN]
 | cons x r ih => simp only [List.cons_append, leN, ih, List.length_cons, Nat.pow_succ]; rw [Nat.mul_add, Nat.mul_comm (256 ^ r.length) 256, Nat.mul_assoc, Nat.add_assoc]
theorem leN_lt (a : List UInt8) : leN a < 256 ^ a.length := by
 induction a with
 | nil => simp [leN]
 | cons x r ih => simp only [leN, List.length_cons, Nat.pow_succ]; have := x.toNat_lt; omega
theorem leN_take_succ (l : List UInt8) (k : Nat) (h : k < l.length) : leN (l.take (k + 1)) = leN (l.take k) + 256 ^ k * l[k].toNat := by
 rw [List.take_succ_eq_append_getElem h, leN_append, List.length_take, Nat.min_eq_left (by omega)]; simp [leN]
theorem leN_take_lt (l : List UInt8) (k : Nat) : leN (l.take k) < 256 ^ k := by
 refine Nat.lt_of_lt_of_le (leN_lt _) (Nat.pow_le_pow_right (by omega) ?_)
 rw [List.length_take]; omega
theorem pow256 (k : Nat) : (256 : Nat) ^ k = 2 ^ (8 * k) := by rw [Nat.pow_mul]
theorem pow256_le {k : Nat} (h : k < 8) : 256 ^ k * 256 ≤ 18446744073709551616 := by
 have : (256 : Nat) ^ (k + 1) ≤ 256 ^ 8 := Nat.pow_le_pow_right (by omega) (by omega)
 rw [Nat.pow_succ] at this
 omega
theorem or_byte (x c k : Nat) (hx : x < 256 ^ k) (hc : c < 256) (hk : k < 8) :
  bits .or .u64 (x : Int) (IntKind.u64.wrap (IntKind.u64.wrap (c : Int) * 2 ^ (8 * k))) = ((x + 256 ^ k * c : Nat) : Int) := by
 have h1 := pow256_le hk
 have h2 : 256 ^ k * c < 18446744073709551616 := Nat.lt_of_lt_of_le (Nat.mul_lt_mul_of_pos_left hc (Nat.pow_pos (by omega))) h1
 have e1 : IntKind.u64.wrap (c : Int) = c := IntWalk.u64_in _ (by omega)
 have e2 : ((c : Int) * 2 ^ (8 * k)) = ((256 ^ k * c : Nat) : Int) := by rw [pow256]; push_cast; exact Int.mul_comm _ _
 have hx2 : x < 18446744073709551616 := by have := Nat.le_mul_of_pos_right (256 ^ k) (show 0 < 256 by omega); omega
 have e4 : x ||| 256 ^ k * c = x + 256 ^ k * c := by
  rw [Nat.or_comm, pow256, ← Nat.two_pow_add_eq_or_of_lt (by rw [← pow256]; exact hx), Nat.add_comm]
 rw [e1, e2]
 revert h2 e4
 generalize 256 ^ k * c = m
 intro h2 e4
 rw [IntWalk.u64_in _ (by omega), u64_or_nat x _ hx2 h2, e4]
def wide (n : Int) : Bool := n == 1 || n == 2 || n == 4 || n == 8
theorem isWide_any (w : World) (n : Int) : Calls Tryz.prog 196 #[.int .i64 n] w fun e w' => e = .returned (.bool (wide n)) ∧ w = w' := by
 go_enter Tryz.func196, Tryz.ntmps196
 go_wp2
 all_goals go_ret
 all_goals first | exact ⟨rfl, rfl⟩ | (rename_i h; subst h; exact ⟨rfl, rfl⟩)
set_option maxHeartbeats 400000 in
theorem rUint_ok {w : World} {p : Nat} {G : List Nat} {l : List UInt8} (h : Rdr 248 w p G l false) (n : Nat) (hn : n ≤ l.length) (hw : wide n = true) :
  Calls Tryz.prog 201 #[.pointer (some ⟨p, 0, none⟩), .int .i64 n] w fun e w' => e = .returned (.int .u64 (leN (l.take n))) ∧ Rdr 248 w' p G (l.drop n) false ∧ Fr [p] w w' := by
 obtain ⟨q, hq⟩ : ∃ q, l.take n = q := ⟨_, rfl⟩
 have hl : q.length = n := by rw [← hq, List.length_take]; omega
 have HW := Lib.hid hw
 have HL := Lib.hid hl
 have HQ := Lib.hid hq
 have n8 : n ≤ 8 := by
  simp only [wide, Bool.or_eq_true, beq_iff_eq] at hw
  omega
 clear hl hw hq
 go_enter Tryz.func201, Tryz.ntmps201
 go_wp2_with (first
  | (go_at_call 196; refine (isWide_any _ _).mono ?_; rw [HW.out]; rintro e w' ⟨rfl, rfl⟩)
  | (go_at_call 200; refine (rBytes_ok h n hn).mono ?_; rintro e w1 ⟨v, rfl, h1, h2, h3⟩; rw [HQ.out] at h1; obtain ⟨B, cap, rfl, -, -, hrd, -, -⟩ := h1.shape))
 go_loop [5, 15] (fun x i => ∃ k : Nat, k ≤ n ∧ i = .int .i64 k ∧ x = .int .u64 (leN (q.take k))) (fun _ i => n - (intOf i).toNat)
 case atStart => exact ⟨0, Nat.zero_le _, rfl, rfl⟩
 case round =>
  obtain ⟨k, hk, rfl, rfl⟩ := hrel
  by_cases hlt : k < n
  ·have hk' : k < q.length := by rw [HL.out]; exact hlt
   obtain ⟨g, o, rfl, hc⟩ := hrd.byte hk'
   have hck := hc k hk'
   have E := Lib.hid (or_byte (leN (q.take k)) q[k].toNat k (leN_take_lt q k) q[k].toNat_lt (by omega))
   have T := Lib.hid (leN_take_succ q k hk')
   clear hc
   go_wp2
   go_round
   case rel => exact ⟨k + 1, by omega, by go_num, by rw [E.out, T.out]⟩
   case measure => simp [intOf]; omega
  ·have hk2 : k = n := by omega
   have E : q.take k = q := by rw [hk2, ← HL.out, List.take_length]
   have HE := Lib.hid E
   clear E hk2
   go_wp2
   go_ret
   exact ⟨by rw [HE.out, HQ.out]; rfl, h2, h3⟩
theorem rUint_bad {w : World} {p : Nat} {G : List Nat} {l : List UInt8} {bad : Bool} (h : Rdr 248 w p G l bad) (n : Int) (hn : bad = true ∨ wide n = false ∨ (l.length : Int) < n) :
  Calls Tryz.prog 201 #[.pointer (some ⟨p, 0, none⟩), .int .i64 n] w fun e w' => e = .returned (.int .u64 0) ∧ Rdr 248 w' p G l true ∧ Fr [p] w w' := by
 cases hw : wide n with
 | true =>
  have HW := Lib.hid hw
  have hb : bad = true ∨ n < 0 ∨ (l.length : Int) < n := by
   rcases hn with h | h | h
   ·exact .inl h
   ·rw [hw] at h; cases h
   ·exact .inr (.inr h)
  have HB := Lib.hid hb
  clear hw hn hb
  go_enter Tryz.func201, Tryz.ntmps201
  go_wp2_with (first
   | (go_at_call 196; refine (isWide_any _ _).mono ?_; rw [HW.out]; rintro e w' ⟨rfl, rfl⟩)
   | (go_at_call 200; refine (rBytes_bad h n HB.out).mono ?_; rintro e w1 ⟨rfl, h2, h3⟩))
  go_loop [5, 15] (fun x i => x = .int .u64 0 ∧ i = .int .i64 0) (fun _ _ => 0)
  case atStart => exact ⟨rfl, rfl⟩
  case round =>
   obtain ⟨rfl, rfl⟩ := hrel
   go_wp2
   go_ret
   exact ⟨rfl, h2, h3⟩
 | false =>
  have HW := Lib.hid hw
  clear hw hn
  go_enter Tryz.func201, Tryz.ntmps201
  go_wp2_with (first
   | (go_at_call 196; refine (isWide_any _ _).mono ?_; rw [HW.out]; rintro e w' ⟨rfl, rfl⟩)
   | (go_at_call 200; refine (rBytes_bad h (-1) (.inr (.inl (by decide)))).mono ?_; rintro e w1 ⟨rfl, h2, h3⟩))
  go_loop [5, 15] (fun x i => x = .int .u64 0 ∧ i = .int .i64 0) (fun _ _ => 0)
  case atStart => exact ⟨rfl, rfl⟩
  case round =>
   obtain ⟨rfl, rfl⟩ := hrel
   go_wp2
   go_ret
   exact ⟨rfl, h2, h3⟩
end
section
open Go.RowKit
end
section
open Go.RowKit
end
section
open Go.RowKit
def Wrt (w : World) (p B : Nat) (v : Value) (size : Nat) (bad : Bool) (l : List UInt8) : Prop :=
 Blk w p 223 #[v, .int .i64 size, .bool bad] ∧ Row w B 5 1 v l.length (bvs l) ∧ l.length ≤ size ∧ size ≤ 16777216 ∧ B ≤ w.heap.size
section
variable {w w' : World} {p B : Nat} {v : Value} {size : Nat} {bad : Bool} {l : List UInt8}
theorem Wrt.keep (h : Wrt w p B v size bad l) {F : List Nat} (hf : Fr F w w') (hp : p ∉ F) (hv : ∀ g, v.ownBlock = some g → g ∉ F) : Wrt w' p B v size bad l :=
 ⟨h.1.keep hf hp, h.2.1.keep hf hv, h.2.2.1, h.2.2.2.1, by have := hf.size; have := h.2.2.2.2; omega⟩
theorem Wrt.keep_nil (h : Wrt w p B v size bad l) (hf : Fr [] w w') : Wrt w' p B v size bad l := h.keep hf (by simp) (by simp)
theorem Wrt.lt (h : Wrt w p B v size bad l) : p < w.heap.size := h.1.lt
theorem Wrt.ne (h : Wrt w p B v size bad l) : v.ownBlock ≠ some p := h.2.1.ne_blk h.1 (by decide)
theorem Wrt.flag (h : Wrt w p B v size bad l) (b : Bool) : Wrt (w.setCell ⟨p, 2, none⟩ (.bool b)) p B v size b l :=
 ⟨by simpa using h.1.set_ 2 (.bool b), h.2.1.keep (F := [p]) ((Fr.refl _ _).setCell (.inl (by simp)) _) (fun g hg => by have := h.ne; rw [hg] at this; simpa using this), h.2.2.1, h.2.2.2.1, by have := h.2.2.2.2; simpa using this⟩
theorem Wrt.flagF (_h : Wrt w p B v size bad l) (b : Bool) : Fr [p] w (w.setCell ⟨p, 2, none⟩ (.bool b)) := (Fr.refl _ _).setCell (.inl (by simp)) _
end
def sizeN (n : Int) : Nat := if n < 0 ∨ 16777216 < n then 0 else n.toNat
theorem sizeN_le (n : Int) : sizeN n ≤ 16777216 := by unfold sizeN; split <;> omega
theorem newWriter_any (n : Int) (w : World) : Calls Tryz.prog 197 #[.int .i64 n] w fun e w' =>
  e = .returned (.pointer (some ⟨w.heap.size, 0, none⟩)) ∧ Wrt w' w.heap.size w.heap.size (.slice none 0 0) (sizeN n) false [] ∧ Fr [] w w' ∧ w'.heap.size = w.heap.size + 1 := by
 have fin : ∀ m : Nat, m = sizeN n → Wrt (w.alloc (.cells #[.slice none 0 0, .int .i64 m, .bool false] 223)) w.heap.size w.heap.size (.slice none 0 0) (sizeN n) false [] ∧ Fr [] w (w.alloc (.cells #[.slice none 0 0, .int .i64 m, .bool false] 223)) ∧ (w.alloc (.cells #[.slice none 0 0, .int .i64 m, .bool false] 223)).heap.size = w.heap.size + 1 := by
  rintro m rfl
  exact ⟨⟨Blk.new _ _ _, Row.nil _ _ _ _, by simp, sizeN_le n, by simp⟩, (Fr.refl _ _).alloc _, by simp⟩
 by_cases h0 : n < 0
 ·have H := fin 0 (if_pos (.inl h0)).symm
  have H2 := Lib.hid H
  clear H fin
  go_enter Tryz.func197, Tryz.ntmps197
  go_wp2
  go_ret
  exact ⟨rfl, H2.out⟩
 ·by_cases h1 : 16777216 < n
  ·have H := fin 0 (if_pos (.inr h1)).symm
   have H2 := Lib.hid H
   clear H fin
   go_enter Tryz.func197, Tryz.ntmps197
   go_wp2
   go_ret
   exact ⟨rfl, H2.out⟩
  ·obtain ⟨m, rfl⟩ := Int.eq_ofNat_of_zero_le (Int.not_lt.1 h0)
   have H := fin m (if_neg (by omega)).symm
   have H2 := Lib.hid H
   clear H fin
   go_enter Tryz.func197, Tryz.ntmps197
   go_wp2
   go_ret
   exact ⟨rfl, H2.out⟩
section
variable {w : World} {p B : Nat} {v : Value} {size : Nat} {bad : Bool} {l : List UInt8}
theorem wLeft_any (h : Wrt w p B v size bad l) :
  Calls Tryz.prog 224 #[.pointer (some ⟨p, 0, none⟩)] w fun e w' => e = .returned (.int .i64 ((size : Int) - l.length)) ∧ ∃ n, w' = w.drewN n := by
 obtain ⟨h1, h2, h3, h4, h5⟩ := h
 obtain ⟨A, cap, rfl, -, -, -, -, -⟩ := h2.shape
 have c0 := h1.cell 0
 have c1 := h1.cell 1
 simp at c0 c1
 go_enter Tryz.func224, Tryz.ntmps224
 go_wp2
 go_quiet (fail)
 go_wp2
 go_ret
 exact ⟨rfl, _, rfl⟩
theorem Wrt.drewN (h : Wrt w p B v size bad l) (n : Nat) : Wrt (w.drewN n) p B v size bad l := h.keep_nil ((Fr.refl _ _).drewN n)
set_option maxHeartbeats 400000 in
theorem wRoom_yes (h : Wrt w p B v size false l) (n : Nat) (hn : (l.length : Int) + n ≤ size) :
  Calls Tryz.prog 195 #[.pointer (some ⟨p, 0, none⟩), .int .i64 n] w fun e w' => e = .returned (.bool true) ∧ Wrt w' p B v size false l ∧ Fr [p] w w' := by
 have c2 := h.1.cell 2
 have f2 := h.1.frozen 2
 simp at c2
 have f' := fun k => (h.drewN k).flag false
 have ff' := fun k => (h.drewN k).flagF false
 have F := Lib.hid f'
 have FF := Lib.hid ff'
 clear f' ff'
 have d0 : decide ((n : Int) < 0) = false := by simp
 have d1 : decide ((size : Int) - l.length < n) = false := by simp; omega
 go_enter Tryz.func195, Tryz.ntmps195
 go_wp2_with (go_at_call 224; refine (wLeft_any h).mono ?_; rintro e w' ⟨rfl, k, rfl⟩)
 go_ret
 exact ⟨rfl, F.out k, ((Fr.refl _ _).drewN k).trans (FF.out k) (fun i hi => .inl hi)⟩
def WPost (w w' : World) (p B : Nat) (v : Value) (size : Nat) (l : List UInt8) : Prop :=
 ∃ v', Wrt w' p B v' size false l ∧ Fr (p :: v.ownBlock.toList) w w' ∧ ∀ g, v'.ownBlock = some g → v.ownBlock = some g ∨ w.heap.size ≤ g
theorem WPost.of_store {w0 w1 w2 : World} {v' : Value} (h0 : Wrt w1 p B v size false l) (hf0 : Fr [p] w0 w1) (q : List UInt8) (hq : q.length ≤ size) (hr : Row w2 B 5 1 v' q.length (bvs q)) (hf : Fr v.ownBlock.toList w1 w2) (hv : ∀ g, v'.ownBlock = some g → v.ownBlock = some g ∨ w1.heap.size ≤ g) :
  WPost w0 (w2.setCell ⟨p, 0, none⟩ v') p B v size q := by
 have hne := h0.ne
 have hb : Blk w2 p 223 #[v, .int .i64 size, .bool false] := h0.1.keep hf (fun hm => hne (mem_own.1 hm))
 refine ⟨v', ⟨by simpa using hb.set_ 0 v', hr.keep (F := [p]) ((Fr.refl _ _).setCell (.inl (by simp)) _) (fun g hg => by have := hr.ne_blk hb (by decide); rw [hg] at this; simpa using this), hq, h0.2.2.2.1, by have := h0.2.2.2.2; have := hf.size; simp; omega⟩, ?_, ?_⟩
 ·have h1 : Fr (p :: v.ownBlock.toList) w0 w1 := hf0.mono (by simp)
  have h2 : Fr (p :: v.ownBlock.toList) w0 w2 := h1.trans (hf.mono (G := p :: v.ownBlock.toList) (fun i hi => List.mem_cons_of_mem _ hi)) (fun i hi => .inl hi)
  exact h2.setCell (.inl (by simp)) _
 ·intro g hg
  rcases hv g hg with h | h
  ·exact .inl h
  ·exact .inr (by have := hf0.size; omega)
set_option maxHeartbeats 400000 in
theorem wBytes_ok (h : Wrt w p B v size false l) (A : Option Addr) (n c : Nat) (bs : List UInt8) (hb : bs.length = n) (hr : Rd w A (bvs bs)) (hA : A = none → n = 0) (hp : ∀ g o, A = some ⟨g, o, none⟩ → bs ≠ [] → g ≠ p) (hn : (l.length : Int) + n ≤ size) :
  Calls Tryz.prog 158 #[.pointer (some ⟨p, 0, none⟩), .slice A n c] w fun e w' => e = .returned (.tuple #[]) ∧ WPost w w' p B v size (l ++ bs) := by
 have H := Lib.hid hb
 clear hb
 obtain ⟨A0, cap, rfl, -, -, -, -, -⟩ := h.2.1.shape
 have m := h.2.2.2.1
 go_enter Tryz.func158, Tryz.ntmps158
 go_wp2_with (first
  | (go_at_call 195; refine (wRoom_yes h n hn).mono ?_; rintro e w1 ⟨rfl, h1, h2⟩; have c0 := h1.1.cell 0; simp at c0; have hr1 : Rd w1 A (bvs bs) := (by
    by_cases hx : bs = []
    ·subst hx; exact Rd.nil _ _
    ·exact hr.keep h2 (fun g o e => by simpa using hp g o e hx)))
  | (at_builtin; refine wpList_app rfl rfl slB B _ l.length (bvs l) rfl h1.2.1 A n c (bvs bs) rfl (by rw [bvs_length, H.out]; omega) hr1 (bvs_one _) hA (by omega) h1.2.2.2.2 ?_; intro v2 w2 g1 g2 g3 g4; have b2 := h1.1.keep g2 (fun hm => h1.ne (mem_own.1 hm)); have e0 := b2.cell 0; have e1 := b2.frozen 0; simp at e0; obtain ⟨A2, cap2, rfl, -, -, -, -, -⟩ := g1.shape))
 go_returns
 refine ⟨rfl, WPost.of_store h1 h2 _ ?_ ?_ g2 (fun g hg => (g3 g hg).imp_right (by omega))⟩
 ·rw [List.length_append, H.out]; omega
 ·rw [List.length_append, H.out, bvs_append]; exact g1
theorem bvs_replicate (n : Nat) : bvs (List.replicate n 0) = List.replicate n (.int .u8 0) := by simp [bvs, bv]
end
end
section
open Go.RowKit
def leB (n x : Nat) : List UInt8 := (List.range n).map fun i => UInt8.ofNat (x / 256 ^ i % 256)
theorem leB_length (n x : Nat) : (leB n x).length = n := by simp [leB]
theorem leB_succ (n x : Nat) : leB (n + 1) x = leB n x ++ [UInt8.ofNat (x / 256 ^ n % 256)] := by simp [leB, List.range_succ]
theorem leB_byte (x k : Nat) : Value.int .u8 (IntKind.u8.wrap ((x : Int) / 2 ^ (8 * (k : Int)).toNat)) = bv (UInt8.ofNat (x / 256 ^ k % 256)) := by
 unfold bv
 have e : (8 * (k : Int)).toNat = 8 * k := by omega
 rw [e, pow256]
 have e2 : ((x : Int) / 2 ^ (8 * k)) = ((x / 2 ^ (8 * k) : Nat) : Int) := by push_cast; rfl
 rw [e2, IntKind.wrap_u8]
 congr 1
 have h : x / 2 ^ (8 * k) % 256 < 256 := Nat.mod_lt _ (by omega)
 simp [UInt8.toNat_ofNat', Nat.mod_eq_of_lt h]
section
variable {w : World} {p B : Nat} {v : Value} {size : Nat} {bad : Bool} {l : List UInt8}
theorem WPost.trans {w1 w2 : World} {v1 : Value} {q : List UInt8} (hf : Fr (p :: v.ownBlock.toList) w w1) (hv : ∀ g, v1.ownBlock = some g → v.ownBlock = some g ∨ w.heap.size ≤ g) (h : WPost w1 w2 p B v1 size q) : WPost w w2 p B v size q := by
 obtain ⟨v2, h1, h2, h3⟩ := h
 refine ⟨v2, h1, hf.trans h2 (fun i hi => ?_), fun g hg => ?_⟩
 ·rcases List.mem_cons.1 hi with rfl | hi
  ·exact .inl (by simp)
  ·exact (hv i (mem_own.1 hi)).imp (fun h => List.mem_cons_of_mem _ (mem_own.2 h)) id
 ·rcases h3 g hg with h | h
  ·exact hv g h
  ·exact .inr (by have := hf.size; omega)
theorem WPost.blk {w w' : World} {g : Nat} {p B size : Nat} {v : Value} {bad : Bool} {l q : List UInt8} (h : WPost w w' p B v size q) (h0 : Wrt w p B v size bad l) {T : TypeId} {cs : Array Value} (hb : Blk w g T cs) (h1 : T ≠ 223) (h2 : T ≠ 5) : Blk w' g T cs := by
 obtain ⟨v', a, f, b⟩ := h
 refine hb.keep f (fun hm => ?_)
 rcases List.mem_cons.1 hm with e | hm
 ·exact hb.ne_ h0.1 h1 e
 ·exact h0.2.1.ne_blk hb h2 (mem_own.1 hm)
set_option maxHeartbeats 400000 in
theorem wUint_ok (h : Wrt w p B v size false l) (n x : Nat) (hw : wide n = true) (hx64 : x < 18446744073709551616) (hx : x < 256 ^ n) (hn : (l.length : Int) + n ≤ size) :
  Calls Tryz.prog 159 #[.pointer (some ⟨p, 0, none⟩), .int .i64 n, .int .u64 x] w fun e w' => e = .returned (.tuple #[]) ∧ WPost w w' p B v size (l ++ leB n x) := by
 have n8 : n ≤ 8 := by
  simp only [wide, Bool.or_eq_true, beq_iff_eq] at hw
  omega
 have HW := Lib.hid hw
 clear hw
 have m := h.2.2.2.1
 have d : ((x : Int) / 2 ^ (8 * n) != 0) = false := by
  rw [pow256] at hx
  have e : ((x : Int) / 2 ^ (8 * n)) = ((x / 2 ^ (8 * n) : Nat) : Int) := by push_cast; rfl
  rw [e, Nat.div_eq_of_lt hx]; rfl
 by_cases h8 : (n : Int) < 8
 all_goals
  go_enter Tryz.func159, Tryz.ntmps159
  go_wp2_with (first
   | (go_at_call 196; refine (isWide_any _ _).mono ?_; rw [HW.out]; rintro e w' ⟨rfl, rfl⟩)
   | (go_at_call 195; refine (wRoom_yes h n hn).mono ?_; rintro e w1 ⟨rfl, h1, h2⟩))
  clear d
  go_loopw [6, 25] (fun _ i wr => ∃ k : Nat, k ≤ n ∧ i = .int .i64 k ∧ WPost w wr p B v size (l ++ leB k x)) (fun _ i _ => n - (intOf i).toNat)
  case atStart => exact ⟨0, Nat.zero_le _, rfl, v, by simpa [leB] using h1, h2.mono (by simp), fun g hg => .inl hg⟩
  case round =>
   obtain ⟨k, hk, rfl, v1, k1, k2, k3⟩ := hrel
   by_cases hlt : k < n
   ·obtain ⟨q, hq⟩ : ∃ q, l ++ leB k x = q := ⟨_, rfl⟩
    rw [hq] at k1
    have hl : q.length = l.length + k := by rw [← hq, List.length_append, leB_length]
    have c0 := k1.1.cell 0
    simp at c0
    have f0 := k1.1.frozen 0
    have HL := Lib.hid hl
    have HQ := Lib.hid hq
    have ql : q.length + 1 ≤ size := by omega
    clear hl hq
    obtain ⟨A1, cap1, rfl, -, -, -, -, -⟩ := k1.2.1.shape
    have ca : ∀ o, (wr.alloc o).cell? ⟨p, 0, none⟩ = some (.slice A1 q.length cap1) := fun o => by have := (k1.1.alloc o).cell 0; simpa using this
    have e8 : IntKind.i64.wrap (8 * (k : Int)) = 8 * (k : Int) := IntWalk.i64_in _ (by omega)
    go_wp2
    go_region_law (refine step_app rfl rfl slB B _ _ _ rfl (by exact (k1.2.1.alloc _).keep_nil ((Fr.refl _ _).drew)) _ 1 1 [_] rfl rfl (by exact (Rd.one _ _ _).keep_nil ((Fr.refl _ _).drew)) (by intro u hu; rw [List.mem_singleton.1 hu]; rfl) (fun h => by cases h) (by omega) (by simp; have := k1.2.2.2.2; omega) ?_; intro v2 w2 g1 g2 g3 g4; have b2 := (Blk.alloc (Blk.keep k1.1 ((Fr.refl _ _).drew) (F := []) (by simp)) _).keep g2 (fun hm => k1.ne (mem_own.1 hm)); have e0 := b2.cell 0; have e1 := b2.frozen 0; simp at e0; obtain ⟨A2, cap2, rfl, -, -, -, -, -⟩ := g1.shape)
    go_wp2
    all_goals
     refine ⟨⟨k + 1, by omega, by go_num, WPost.trans k2 k3 ?_⟩, by simp [intOf]; omega⟩
     have k1' : Wrt (wr.alloc (.cells #[.int .u8 (IntKind.u8.wrap ((x : Int) / 2 ^ (8 * (k : Int)).toNat))] 5)).drew p B (.slice A1 q.length cap1) size false q := k1.keep_nil (((Fr.refl _ _).alloc _).drew)
     rw [leB_succ, ← List.append_assoc, HQ.out]
     refine WPost.of_store k1' ((((Fr.refl _ _).alloc _).drew)) _ ?_ ?_ g2 (fun g hg => (g3 g hg).imp_right (by simp; omega))
     ·simp; omega
     ·rw [List.length_append, bvs_append]
      rw [leB_byte] at g1
      exact g1
   ·obtain rfl : k = n := by omega
    go_wp2
    go_returns
    exact ⟨rfl, v1, k1, k2, k3⟩
set_option maxRecDepth 100000 in
set_option maxHeartbeats 400000 in
theorem wDone_ok (h : Wrt w p B v size false l) :
  Calls Tryz.prog 198 #[.pointer (some ⟨p, 0, none⟩)] w fun e w' => ∃ r, e = .returned (.tuple #[r, .int .i64 0]) ∧ Row w' w.heap.size 5 1 r size (bvs (l ++ List.replicate (size - l.length) 0)) ∧ Fr [] w w' := by
 have c2 := h.1.cell 2
 have c1 := h.1.cell 1
 have c0 := h.1.cell 0
 simp at c2 c1 c0
 have m := h.2.2.2.1
 have hlen := h.2.2.1
 obtain ⟨A1, cap1, rfl, hcap, -, hrd, hblk, -⟩ := h.2.1.shape
 go_enter Tryz.func198, Tryz.ntmps198
 go_wp2_with (first
  | (at_make; refine wpList_mk1 rfl rfl slB rfl .i64 .i64 _ _ size rfl rfl rfl rfl (by omega) ?_; intro w1 g1 g2 g3 g4; have k1 := h.1.keep g3 (by simp); have e0 := k1.cell 0; simp at e0)
  | (refine wpList_cp (o := ⟨some 23, _, _, _, _, _⟩) rfl rfl Tryz.underlying27 (by kernel_rfl) _ _ size size l.length cap1 rfl rfl (bvs l) (by rw [bvs_length]; exact (Nat.min_eq_left hlen).symm) (hrd.keep_nil g3) (bvs_one l) w.heap.size 0 (fun _ => rfl) _ 5 (0, 0) g1 (free_zero _) (by simp [bvs]; omega) ?_; intro w2 r1 r2))
 go_ret2
 refine ⟨_, rfl, ?_, g3.trans r2 (fun i hi => .inr (by simp at hi; omega))⟩
 refine ⟨by simp [bvs]; omega, .inr ⟨w.heap.size, size, _, (0, 0), rfl, Nat.le_refl _, r1, free_zero _, Nat.le_refl _, by unfold maxLen; omega, ?_, ?_⟩⟩
 ·simp [bvs]; omega
 ·rw [List.take_of_length_le (by simp [bvs_length]; omega), bvs_append, bvs_replicate]
  simp [bvs_length]
end
end
section
open Go.RowKit
theorem strB (w : World) (A : Option Addr) (l : List UInt8) (n c : Nat) (hn : l.length = n) (hr : Rd w A (bvs l)) (hA : A = none → n = 0) :
  (convert 27 9 (.slice A n c)).run Tryz.prog w = .ok (.string ⟨l.toArray⟩) w :=
 conv_str Tryz.underlying27 Tryz.underlying5 Tryz.underlying9 w A l n c hn hr hA
theorem Row.str {w : World} {B : Nat} {v : Value} {n : Nat} {l : List UInt8} (h : Row w B 5 1 v n (bvs l)) :
  (convert 27 9 v).run Tryz.prog w = .ok (.string ⟨l.toArray⟩) w := by
 obtain ⟨A, cap, rfl, -, -, hr, -, -⟩ := h.shape
 have hl : l.length = n := by have := h.1; rw [bvs_length] at this; omega
 refine strB w A l n cap hl hr (fun e => ?_)
 subst e
 rcases Nat.eq_zero_or_pos n with h0 | h0
 ·exact h0
 ·obtain ⟨g, o, e, _⟩ := hr (by intro h; have := congrArg List.length h; rw [bvs_length, List.length_nil] at this; omega)
  cases e
theorem Row.rd {w : World} {B : Nat} {A : Option Addr} {n n' c : Nat} {xs : List Value} {e : TypeId} {s : Nat} (h : Row w B e s (.slice A n' c) n xs) : Rd w A xs ∧ n' = n ∧ (A = none → n = 0) := by
 rcases h.2 with ⟨h1, h2⟩ | ⟨g, cap, cur, fz, h1, _⟩
 ·cases h1
  obtain ⟨A', c', e', _, _, h3, _, _⟩ := h.shape
  cases e'
  exact ⟨h3, h2.symm, fun _ => h2⟩
 ·cases h1
  obtain ⟨A', c', e', _, _, h3, _, _⟩ := h.shape
  cases e'
  exact ⟨h3, rfl, fun h => by cases h⟩
end
section
open Go.RowKit
end
section
open Go.RowKit
structure HeadM where
 gen : Nat
 sec : Int
 slo : Int
 jou : Int
 seg : Int
 tim : Int
 mem : Int
 lan : Int
 nam : List UInt8
 deriving DecidableEq
def HeadM.cells (h : HeadM) : List Value := .int .u64 (h.gen : Int) :: .int .i64 h.sec :: .int .i64 h.slo :: .int .i64 h.jou :: .int .i64 h.seg :: .int .i64 h.tim :: .int .i64 h.mem :: .int .i64 h.lan :: bvs h.nam
def in64 (z : Int) : Prop := -9223372036854775808 ≤ z ∧ z ≤ 9223372036854775807
structure HeadM.ok (h : HeadM) : Prop where
 gen : h.gen < 18446744073709551616
 sec : in64 h.sec
 slo : in64 h.slo
 jou : in64 h.jou
 seg : in64 h.seg
 tim : in64 h.tim
 mem : in64 h.mem
 lan : in64 h.lan
 nam : h.nam.length = 16
def zeroH : HeadM := ⟨0, 0, 0, 0, 0, 0, 0, 0, List.replicate 16 0⟩
theorem zeroH_ok : zeroH.ok := ⟨by decide, ⟨by decide, by decide⟩, ⟨by decide, by decide⟩, ⟨by decide, by decide⟩, ⟨by decide, by decide⟩, ⟨by decide, by decide⟩, ⟨by decide, by decide⟩, ⟨by decide, by decide⟩, rfl⟩
theorem HeadM.len {h : HeadM} (k : h.ok) : h.cells.length = 24 := by simp [HeadM.cells, bvs, k.nam]
theorem HeadM.ones (h : HeadM) : ∀ u ∈ h.cells, u.oneCell' = true := by
 intro u hu
 simp only [HeadM.cells, List.mem_cons] at hu
 rcases hu with rfl | rfl | rfl | rfl | rfl | rfl | rfl | rfl | hu
 all_goals first | rfl | exact bvs_one _ u hu
set_option maxRecDepth 100000 in
theorem stHead : StT Tryz.prog 62 24 zeroH.cells := ⟨⟨_, Tryz.underlying62, rfl⟩, by kernel_rfl, by decide, by kernel_rfl, zeroH.ones⟩
def wth (n a b : Int) : Bool := decide (a ≤ n ∧ n ≤ b)
theorem wth_yes {n a b : Int} (h : wth n a b = true) : a ≤ n ∧ n ≤ b := of_decide_eq_true h
theorem wth_no {n a b : Int} (h : wth n a b = false) : n < a ∨ b < n := by have := of_decide_eq_false h; omega
def parG (t m l : Int) : Bool := wth t 1 8 && (wth l 1 4 && wth m (8 * l) 256)
def HeadM.good (h : HeadM) : Bool := !((h.gen : Int) == 0) && (wth h.sec 1 1024 && (wth h.slo 1 8 && (wth h.jou 16 256 && (wth h.seg 1 16 && (!(decide (h.jou < h.seg + 10)) && parG h.tim h.mem h.lan)))))
structure HeadM.In (h : HeadM) : Prop where
 gen : 1 ≤ h.gen
 sec : 1 ≤ h.sec ∧ h.sec ≤ 1024
 slo : 1 ≤ h.slo ∧ h.slo ≤ 8
 jou : 16 ≤ h.jou ∧ h.jou ≤ 256
 seg : 1 ≤ h.seg ∧ h.seg ≤ 16
 room : h.seg + 10 ≤ h.jou
 tim : 1 ≤ h.tim ∧ h.tim ≤ 8
 lan : 1 ≤ h.lan ∧ h.lan ≤ 4
 mem : 8 * h.lan ≤ h.mem ∧ h.mem ≤ 256
theorem HeadM.in_of {h : HeadM} (k : h.good = true) : h.In := by
 simp only [HeadM.good, parG, wth, Bool.and_eq_true, Bool.not_eq_true', decide_eq_true_eq, decide_eq_false_iff_not, beq_eq_false_iff_ne] at k
 constructor <;> omega
theorem HeadM.good_of {h : HeadM} (k : h.In) : h.good = true := by
 obtain ⟨a, b, c, d, e, f, g, i, j⟩ := k
 simp only [HeadM.good, parG, wth, Bool.and_eq_true, Bool.not_eq_true', decide_eq_true_eq, decide_eq_false_iff_not, beq_eq_false_iff_ne]
 omega
def magicH : List UInt8 := [67, 65, 83, 75, 69, 84, 48, 49]
def HeadM.front (h : HeadM) : List UInt8 := magicH ++ (leB 8 h.gen ++ (leB 4 h.sec.toNat ++ (leB 1 h.slo.toNat ++ (leB 2 h.jou.toNat ++ (leB 1 h.seg.toNat ++ (leB 1 h.tim.toNat ++ (leB 2 h.mem.toNat ++ (leB 1 h.lan.toNat ++ h.nam))))))))
def HeadM.body (h : HeadM) : List UInt8 := h.front ++ List.replicate 436 0
def HeadM.bytes (h : HeadM) : List UInt8 := h.body ++ shaSum h.body
end
section
open Go.RowKit
set_option maxRecDepth 100000 in
theorem stPar : StT Tryz.prog 59 3 [.int .i64 0, .int .i64 0, .int .i64 0] := ⟨⟨_, Tryz.underlying59, rfl⟩, by kernel_rfl, by decide, by kernel_rfl, by intro u hu; simp at hu; rw [hu]; rfl⟩
def errG (b : Bool) (z : Int) : Int := if b then 0 else z
def parV (t m l : Int) : Value := .agg #[.int .i64 t, .int .i64 m, .int .i64 l]
set_option maxRecDepth 100000 in
set_option maxHeartbeats 1000000 in
theorem xaCheck_any (t m l : Int) (w : World) (hl : in64 l) : Calls Tryz.prog 99 #[parV t m l] w fun e w' => e = .returned (.int .i64 (errG (parG t m l) 80)) ∧ Fr [] w w' := by
 unfold parV
 cases d1 : wth t 1 8
 ·rcases wth_no d1 with k | k
  ·
   have H := Lib.hid (show parG t m l = false by simp [parG, *])
   go_enter Tryz.func99, Tryz.ntmps99
   go_wp2_with
    (first
     | (refine wpList_boxS rfl rfl [.int .i64 t, .int .i64 m, .int .i64 l] rfl ?_; intro w1 h1 f1 z1; have c0 := h1.cell 0; have c1 := h1.cell 1; have c2 := h1.cell 2; simp at c0 c1 c2))
   go_ret
   exact ⟨by rw [H.out]; rfl, f1⟩
  ·have k' : ¬ (t < 1) := by omega
   have H := Lib.hid (show parG t m l = false by simp [parG, *])
   go_enter Tryz.func99, Tryz.ntmps99
   go_wp2_with
    (first
     | (refine wpList_boxS rfl rfl [.int .i64 t, .int .i64 m, .int .i64 l] rfl ?_; intro w1 h1 f1 z1; have c0 := h1.cell 0; have c1 := h1.cell 1; have c2 := h1.cell 2; simp at c0 c1 c2))
   go_ret
   exact ⟨by rw [H.out]; rfl, f1⟩
 ·have k1 := wth_yes d1
  cases d2 : wth l 1 4
  ·rcases wth_no d2 with k | k
   ·
    have H := Lib.hid (show parG t m l = false by simp [parG, *])
    go_enter Tryz.func99, Tryz.ntmps99
    go_wp2_with
     (first
      | (refine wpList_boxS rfl rfl [.int .i64 t, .int .i64 m, .int .i64 l] rfl ?_; intro w1 h1 f1 z1; have c0 := h1.cell 0; have c1 := h1.cell 1; have c2 := h1.cell 2; simp at c0 c1 c2))
    go_ret
    exact ⟨by rw [H.out]; rfl, f1⟩
   ·
    have H := Lib.hid (show parG t m l = false by simp [parG, *])
    go_enter Tryz.func99, Tryz.ntmps99
    go_wp2_with
     (first
      | (refine wpList_boxS rfl rfl [.int .i64 t, .int .i64 m, .int .i64 l] rfl ?_; intro w1 h1 f1 z1; have c0 := h1.cell 0; have c1 := h1.cell 1; have c2 := h1.cell 2; simp at c0 c1 c2))
    go_ret
    exact ⟨by rw [H.out]; rfl, f1⟩
  ·have k2 := wth_yes d2
   have hw : IntKind.i64.wrap (8 * l) = 8 * l := by rw [IntWalk.i64_in _ (by omega)]
   cases d3 : wth m (8 * l) 256
   ·rcases wth_no d3 with k | k
    ·
     have H := Lib.hid (show parG t m l = false by simp [parG, *])
     go_enter Tryz.func99, Tryz.ntmps99
     go_wp2_with
      (first
       | (refine wpList_boxS rfl rfl [.int .i64 t, .int .i64 m, .int .i64 l] rfl ?_; intro w1 h1 f1 z1; have c0 := h1.cell 0; have c1 := h1.cell 1; have c2 := h1.cell 2; simp at c0 c1 c2))
     go_ret
     exact ⟨by rw [H.out]; rfl, f1⟩
    ·
     have H := Lib.hid (show parG t m l = false by simp [parG, *])
     go_enter Tryz.func99, Tryz.ntmps99
     go_wp2_with
      (first
       | (refine wpList_boxS rfl rfl [.int .i64 t, .int .i64 m, .int .i64 l] rfl ?_; intro w1 h1 f1 z1; have c0 := h1.cell 0; have c1 := h1.cell 1; have c2 := h1.cell 2; simp at c0 c1 c2))
     go_ret
     exact ⟨by rw [H.out]; rfl, f1⟩
   ·have k3 := wth_yes d3
    have H := Lib.hid (show parG t m l = true by simp [parG, *])
    go_enter Tryz.func99, Tryz.ntmps99
    go_wp2_with
     (first
      | (refine wpList_boxS rfl rfl [.int .i64 t, .int .i64 m, .int .i64 l] rfl ?_; intro w1 h1 f1 z1; have c0 := h1.cell 0; have c1 := h1.cell 1; have c2 := h1.cell 2; simp at c0 c1 c2))
    go_ret
    exact ⟨by rw [H.out]; rfl, f1⟩
end
section
open Go.RowKit
theorem leB_byte2 (x k : Nat) : Value.int .u8 ((x : Int) / 2 ^ (8 * k) % 256) = bv (UInt8.ofNat (x / 256 ^ k % 256)) := by
 have := leB_byte x k
 rw [IntKind.wrap_u8, show (8 * (k : Int)).toNat = 8 * k by omega] at this
 exact this
theorem bytesEq_any (A A' : Option Addr) (l l' : List UInt8) (n c n' c' : Nat) (w : World) (hn : l.length = n) (hr : Rd w A (bvs l)) (hA : A = none → n = 0) (hn' : l'.length = n') (hr' : Rd w A' (bvs l')) (hA' : A' = none → n' = 0) :
  Calls Tryz.prog 174 #[.slice A n c, .slice A' n' c'] w fun e w' => e = .returned (.bool (l == l')) ∧ w = w' := by
 have E1 := strB w A l n c hn hr hA
 have E2 := strB w A' l' n' c' hn' hr' hA'
 go_enter Tryz.func174, Tryz.ntmps174
 go_wp2_with fail
 go_ret
 exact ⟨by rfl, rfl⟩
end
section
open Go.RowKit
theorem and31 (n : Nat) (h0 : 0 < n) (h : n < 32) : bits .and .u64 (IntKind.u64.wrap (-(n : Int))) 31 = ((32 - n : Nat) : Int) := by
 have e : IntKind.u64.wrap (-(n : Int)) = ((18446744073709551616 - n : Nat) : Int) := by rw [IntKind.wrap_u64]; omega
 rw [e, show (31 : Int) = ((31 : Nat) : Int) from rfl, bits_and_u64_nat _ _ (by omega) (by decide), show (31 : Nat) = 2 ^ 5 - 1 by decide, Nat.and_two_pow_sub_one_eq_mod]
 omega
theorem rot32_any (x : UInt32) (n : Nat) (h0 : 0 < n) (h : n < 32) (w : World) :
  Calls Tryz.prog 227 #[.int .u32 (uw x), .int .i64 (-(n : Int))] w fun e w' => e = .returned (.int .u32 (uw (rotr x n))) ∧ w' = w := by
 have e1 := and31 n h0 h
 have e2 : IntKind.u64.wrap (32 - ((32 - n : Nat) : Int)) = (n : Int) := by rw [IntKind.wrap_u64]; omega
 have e3 := uw_shl x (32 - n)
 have e4 := uw_shr x n
 have e5 := uw_or (shl x (32 - n)) (shr x n)
 go_enter Tryz.func227, Tryz.ntmps227
 go_wp2
 go_ret
 exact ⟨rfl, rfl⟩
theorem right_any (x : UInt32) (n : Nat) (h0 : 0 < n) (h : n < 32) (w : World) :
  Calls Tryz.prog 209 #[.int .u32 (uw x), .int .i64 n] w fun e w' => e = .returned (.int .u32 (uw (rotr x n))) ∧ w' = w := by
 have e1 : IntKind.i64.wrap (-(n : Int)) = -(n : Int) := IntWalk.i64_in _ (by omega)
 go_enter Tryz.func209, Tryz.ntmps209
 go_wp2_with (refine (rot32_any x n h0 h _).mono ?_; rintro e w' ⟨rfl, rfl⟩)
 go_ret
 exact ⟨rfl, rfl⟩
theorem right_int (x : UInt32) (n : Int) (h0 : 0 < n) (h : n < 32) (w : World) :
  Calls Tryz.prog 209 #[.int .u32 (uw x), .int .i64 n] w fun e w' => e = .returned (.int .u32 (uw (rotr x n.toNat))) ∧ w' = w := by
 obtain ⟨m, rfl⟩ := Int.eq_ofNat_of_zero_le (Int.le_of_lt h0)
 exact right_any x m (by omega) (by omega) w
theorem turn_any (x : UInt32) (n : Nat) (h0 : 0 < n) (h : n < 32) (w : World) :
  Calls Tryz.prog 150 #[.int .i64 n, .int .u32 (uw x)] w fun e w' => e = .returned (.int .u32 (uw (rotr x n))) ∧ ∃ q, w' = w.drewN q := by
 have e2 : IntKind.i64.wrap (32 - (n : Int)) = ((32 - n : Nat) : Int) := by rw [IntWalk.i64_in _ (by omega)]; omega
 have e3 := uw_shl x (32 - n)
 have e4 := uw_shr x n
 have e5 : bits .or .u32 (uw (shr x n)) (uw (shl x (32 - n))) = uw (rotr x n) := by rw [uw_or, rotr']
 have p1 : (0 : Int) ≤ ((32 - n : Nat) : Int) := by omega
 go_enter Tryz.func150, Tryz.ntmps150
 go_wp2
 go_quiet (fail)
 go_wp2_with fail
 go_ret
 exact ⟨rfl, _, rfl⟩
theorem turn_int (x : UInt32) (n : Int) (h0 : 0 < n) (h : n < 32) (w : World) :
  Calls Tryz.prog 150 #[.int .i64 n, .int .u32 (uw x)] w fun e w' => e = .returned (.int .u32 (uw (rotr x n.toNat))) ∧ ∃ q, w' = w.drewN q := by
 obtain ⟨m, rfl⟩ := Int.eq_ofNat_of_zero_le (Int.le_of_lt h0)
 exact turn_any x m (by omega) (by omega) w
end
end Go.Proofs.YtbanogfljpkbkaaGreatDoor
