/-
  Texts of this claim, one behind the other: XdG, MerI.
-/
import Derived.Test.YtbanogfljpkbkaaGreatDoorF44
import Derived.Test.YtbanogfljpkbkaaGreatDoorF39
import Derived.Test.YtbanogfljpkbkaaGreatDoorF40
import Derived.Test.YtbanogfljpkbkaaGreatDoorF41
import Derived.Test.YtbanogfljpkbkaaGreatDoorF25
set_option linter.unusedSimpArgs false
set_option linter.unusedVariables false
set_option linter.unnecessarySimpa false
namespace Go.Proofs.YtbanogfljpkbkaaGreatDoor
section
open Go.RowKit
set_option maxRecDepth 100000
section
variable {w w' : World} {p : Nat} {O : List Nat} {D D' : DkM} {X : XdX}
def XNewC (w : World) (x : Int) (e : Ending) (w' : World) : Prop :=
 if 1 ≤ x ∧ x ≤ 4096 then ∃ p O, e = .returned (.tuple #[.pointer (some ⟨p, 0, none⟩), .int .i64 0]) ∧ Xdk w' p O (newD x.toNat) ∧ (∀ i ∈ O, w.heap.size ≤ i) ∧ Fr [] w w'
 else e = .returned (.tuple #[.pointer none, .int .i64 1]) ∧ w = w'
theorem XNewC.yes {w w' : World} {x : Int} {e : Ending} (h : 1 ≤ x ∧ x ≤ 4096) (k : XNewC w x e w') : ∃ p O, e = .returned (.tuple #[.pointer (some ⟨p, 0, none⟩), .int .i64 0]) ∧ Xdk w' p O (newD x.toNat) ∧ (∀ i ∈ O, w.heap.size ≤ i) ∧ Fr [] w w' := by
 unfold XNewC at k; rwa [if_pos h] at k
theorem XNewC.no {w w' : World} {x : Int} {e : Ending} (h : ¬ (1 ≤ x ∧ x ≤ 4096)) (k : XNewC w x e w') : e = .returned (.tuple #[.pointer none, .int .i64 1]) ∧ w = w' := by
 unfold XNewC at k; rwa [if_neg h] at k
theorem XNewC.mkY {w w' : World} {n p : Nat} {O : List Nat} (h : 1 ≤ n ∧ n ≤ 4096) (k1 : Xdk w' p O (newD n)) (k2 : ∀ i ∈ O, w.heap.size ≤ i) (k3 : Fr [] w w') : XNewC w n (.returned (.tuple #[.pointer (some ⟨p, 0, none⟩), .int .i64 0])) w' := by
 unfold XNewC; rw [if_pos (by omega)]; exact ⟨p, O, rfl, by rw [Int.toNat_natCast]; exact k1, k2, k3⟩
theorem XNewC.mkN {w : World} {x : Int} (h : ¬ (1 ≤ x ∧ x ≤ 4096)) : XNewC w x (.returned (.tuple #[.pointer none, .int .i64 1])) w := by
 unfold XNewC; rw [if_neg h]; exact ⟨rfl, rfl⟩
theorem conv_z512 {W : World} {B : Nat} {A : Option Addr} {c : Nat} {S : ByteArray} (h : Row W B 5 1 (.slice A 512 c) 512 (List.replicate 512 (Value.int .u8 0))) (hS : strV zB512 = .string S) : (convert 27 9 (.slice A 512 c)).run Tryz.prog W = .ok (.string S) W := by
 rw [← hS]
 refine conv_str Tryz.underlying27 Tryz.underlying5 Tryz.underlying9 W A zB512 512 c zB512_len ?_ h.rdD.2.2
 rw [zB512_vs]
 exact h.rdD.1
theorem newD_sureR {n : Nat} {j : Nat} (hj : j < n) : (newD n).sureR j = zB512 := by
 rw [DkM.sureR_nat _ (by simpa [newD] using hj)]
 simp [newD, List.getD_eq_getElem?_getD, hj]
set_option maxHeartbeats 2000000 in
theorem xdNew_any (w : World) (x : Int) (hx : -9223372036854775808 ≤ x ∧ x ≤ 9223372036854775807) : Calls Tryz.prog 30 #[.int .i64 x] w (XNewC w x) := by
 by_cases h1 : 1 ≤ x
 ·by_cases h2 : x ≤ 4096
  ·obtain ⟨n, rfl⟩ : ∃ n : Nat, x = n := ⟨x.toNat, by omega⟩
   have b1 : 1 ≤ n := by omega
   have b2 : n ≤ 4096 := by omega
   have HB := Lib.hid (And.intro b1 b2)
   have d1 : decide ((n : Int) < 1) = false := by simp; omega
   have d2 : decide (4096 < (n : Int)) = false := by simp; omega
   obtain ⟨S, hS⟩ : ∃ S : ByteArray, (⟨zB512.toArray⟩ : ByteArray) = S := ⟨_, rfl⟩
   have HS := Lib.hid (show strV zB512 = .string S from congrArg Value.string hS)
   clear h1 h2 hS
   go_enter Tryz.func30, Tryz.ntmps30
   go_wp2_with (first | (refine wpList_mk1 rfl rfl slB rfl .i64 .i64 _ _ 512 rfl rfl rfl rfl (by omega) ?_; intro w1 k1 r1 f1 z1; have hcv := conv_z512 r1 HS.out; rw [show (w.alloc (.cells #[.slice none 0 0, .bool false, .int .i64 0] 121)).heap.size = w.heap.size + 1 by simp] at hcv))
   have kp := (Blk.new w 121 #[.slice none 0 0, .bool false, .int .i64 0]).keep_nil f1
   have F1 : Fr [] w w1 := ((Fr.refl [] w).alloc _).trans_nil f1
   obtain ⟨q, hq⟩ : ∃ q, w.heap.size = q := ⟨_, rfl⟩
   rw [hq] at kp
   have hqs : w.heap.size ≤ q := by omega
   have HQ := Lib.hid hq
   have KP := Lib.hid kp
   have FF := Lib.hid F1
   rw [hq]
   clear k1 r1 f1 z1 kp F1 hq hcv
   go_wp2_with fail
   go_loopw [6] (fun i wr => ∃ k : Nat, k ≤ n ∧ i = .int .i64 k ∧ ∃ v, Blk wr q 121 #[v, .bool false, .int .i64 0] ∧ Row wr (q + 1) 124 2 v k (pcells (List.replicate k (zB512, .slice none 0 0))) ∧ Fr [] w wr) (fun i _ => n - (intOf i).toNat)
   case atStart => exact ⟨0, by omega, rfl, _, KP.out, Row.nil _ _ _ _, FF.out⟩
   case round =>
    obtain ⟨k, hkn, rfl, v, kb, R, F⟩ := hrel
    by_cases hlt : k < n
    ·have d0 : (k : Int) < n := by omega
     have c0 : wr.cell? ⟨q, 0, none⟩ = some v := kb.cell 0
     obtain ⟨cs, hcs⟩ : ∃ cs, pcells (List.replicate k (zB512, .slice none 0 0)) = cs := ⟨_, rfl⟩
     rw [hcs] at R
     have HC := Lib.hid hcs
     obtain ⟨A3, c3, rfl, -, -, -, -, -⟩ := R.shape
     have Ra := R.alloc (.cells #[.string S, .slice none 0 0] 124)
     have hqr : q < wr.heap.size := kb.lt
     have KB := Lib.hid (kb.alloc (.cells #[.string S, .slice none 0 0] 124))
     have HE6 := Lib.hid (show pcells (List.replicate (k + 1) (zB512, .slice none 0 0)) = cs ++ [.string S, .slice none 0 0] from by
      rw [List.replicate_succ', pcells_app, HC.out, ← HS.out]; rfl)
     clear hcs kb
     go_wp2_with (at_builtin; refine wpList_app rfl rfl slXB (q + 1) _ k cs rfl Ra _ 1 1 [.string S, .slice none 0 0] rfl rfl (Rd.of_blk (Blk.new wr 124 #[.string S, .slice none 0 0]) 0 _ (fun j u hu => by rw [Nat.zero_add]; simpa using hu)) (by intro u hu; simp at hu; rcases hu with rfl | rfl <;> rfl) (by intro h; cases h) (by omega) (by simp; omega) ?_; intro v' w5 q1 q2 q3 q4; obtain ⟨A9, c9, rfl, -, -, -, -, -⟩ := q1.shape; have kb5 := KB.out.keep q2 (fun hm => Ra.ne_blk KB.out (by decide) (mem_own.1 hm)); have c5 : w5.cell? ⟨q, 0, none⟩ = some _ := kb5.cell 0; have z5 := kb5.frozen 0)
     refine ⟨⟨k + 1, by omega, by go_num, _, kb5.set_ 0 _, ?_, ((F.alloc _).trans q2 (fun i hi => .inr (by have := (Ra.lt i (mem_own.1 hi)).1; omega))).setCell (.inr hqs) _⟩, by simp [intOf]; omega⟩
     rw [HE6.out]
     exact q1.keep ((Fr.refl [q] _).setCell (.inl (by simp)) _) (fun g hg hm => by rw [List.mem_singleton.1 hm] at hg; have := (q1.lt _ hg).1; omega)
    ·obtain rfl : k = n := by omega
     have d0 : ¬ ((k : Int) < k) := by omega
     have KK := Lib.hid (And.intro kb (And.intro R F))
     clear kb R F
     go_wp2_with fail
     go_ret2
     obtain ⟨kb, R, F⟩ := KK.out
     obtain ⟨g, c, rfl⟩ := R.hdD (by omega)
     have hg := R.lt g rfl
     have hq2 := kb.lt
     refine XNewC.mkY (O := [q, g]) HB.out ⟨⟨g, c, 0, List.replicate k (zB512, .slice none 0 0)⟩, ?_⟩ (fun i hi => by simp at hi; omega) F
     have hl : (newD k).sure.length = k := by simp [newD]
     refine ⟨by simp, by simp, by rw [hl]; exact kb, fun h => absurd rfl h, by show (-9223372036854775808 : Int) ≤ 0 ∧ (0 : Int) ≤ 9223372036854775807; decide, by rw [hl]; exact HB.out, by rw [hl]; exact R.mono (Nat.zero_le _), fun i hi => ?_, fun x h => absurd rfl h, fun i hi => (by rw [hl] at hi; rw [newD_sureR hi]; exact zB512_len), fun x b hb => (by cases hb), ?_, fun i hi => by simp at hi; omega, by simp [newD]⟩
     ·have hi' : i < k := by simpa using hi
      rw [newD_sureR hi']
      show (List.replicate k (zB512, Value.slice none 0 0))[i].1 = _ ∧ _
      rw [List.getElem_replicate]
      exact ⟨rfl, Row.nil _ _ _ _, fun g hg => by cases hg⟩
     ·intro i hi cs fz hc
      simp only [List.mem_cons, List.not_mem_nil, or_false] at hi
      rcases hi with rfl | rfl
      ·unfold Blk at kb
       rw [kb] at hc
       injection hc with hc
       injection hc with _ hc
       exact absurd hc (by decide)
      ·exact R.noTy (e := 124) (d := 5) (by decide) _ (own_mem.2 rfl) cs fz hc
  ·have HNO := Lib.hid (show ¬ (1 ≤ x ∧ x ≤ 4096) from fun h => h2 h.2)
   have d1 : decide (x < 1) = false := by simp; omega
   have d2 : decide (4096 < x) = true := by simp; omega
   go_enter Tryz.func30, Tryz.ntmps30
   go_wp2_with fail
   go_ret2
   exact XNewC.mkN HNO.out
 ·have HNO := Lib.hid (show ¬ (1 ≤ x ∧ x ≤ 4096) from fun h => h1 h.1)
  have d1 : decide (x < 1) = true := by simp; omega
  go_enter Tryz.func30, Tryz.ntmps30
  go_wp2_with fail
  go_ret2
  exact XNewC.mkN HNO.out
end
end
section
open Go.RowKit
set_option maxRecDepth 100000
def TwX (B : World) (F0 : List Nat) (w : World) (p : Nat) (D : DkM) (px : Nat) (X : DkM) : Prop :=
 ∃ O OX, Dsk w p O D ∧ Xdk w px OX X ∧ (∀ i ∈ O, i ∉ OX) ∧ (∀ i ∈ O, i ∈ F0 ∨ B.heap.size ≤ i) ∧ (∀ i ∈ OX, i ∈ F0 ∨ B.heap.size ≤ i) ∧ Fr F0 B w
section
variable {B w w' : World} {F0 O : List Nat} {p px : Nat} {D D' X X' : DkM}
theorem Dsk.lts (h : Dsk w p O D) : ∀ i ∈ O, i < w.heap.size := by obtain ⟨X, hX⟩ := h; exact hX.lt
theorem Xdk.lts (h : Xdk w p O D) : ∀ i ∈ O, i < w.heap.size := by obtain ⟨X, hX⟩ := h; exact hX.lt
theorem Xdk.no8s (h : Xdk w p O D) : NoTy w O 5 := by obtain ⟨X, hX⟩ := h; exact hX.no8
theorem TwX.fr (h : TwX B F0 w p D px X) : Fr F0 B w := by obtain ⟨_, _, -, -, -, -, -, f⟩ := h; exact f
theorem TwX.keep (h : TwX B F0 w p D px X) (f : Fr [] w w') : TwX B F0 w' p D px X := by
 obtain ⟨O, OX, h1, h2, h3, h4, h5, h6⟩ := h
 exact ⟨O, OX, h1.keep_nil f, h2.keep_nil f, h3, h4, h5, h6.trans_nil f⟩
theorem TwX.of (h1 : Dsk w p O D) (h2 : Xdk w px F0 X) (h3 : ∀ i ∈ O, i ∉ F0) : TwX w (O ++ F0) w p D px X :=
 ⟨O, F0, h1, h2, h3, fun i hi => .inl (List.mem_append_left _ hi), fun i hi => .inl (List.mem_append_right _ hi), Fr.refl _ _⟩
theorem TwX.re (h : TwX B F0 w p D px X) : ∃ F1, TwX w F1 w p D px X ∧ ∀ i ∈ F1, i < w.heap.size ∧ (i ∈ F0 ∨ B.heap.size ≤ i) := by
 obtain ⟨O, OX, h1, h2, h3, h4, h5, h6⟩ := h
 refine ⟨O ++ OX, TwX.of h1 h2 h3, fun i hi => ?_⟩
 rcases List.mem_append.1 hi with hi | hi
 ·exact ⟨h1.lts i hi, h4 i hi⟩
 ·exact ⟨h2.lts i hi, h5 i hi⟩
theorem TwX.move {B' : World} (h : TwX B F0 B p D px X) (f : Fr [] B B') : TwX B' F0 B' p D px X := by
 obtain ⟨O, OX, h1, h2, h3, h4, h5, h6⟩ := h
 refine ⟨O, OX, h1.keep_nil f, h2.keep_nil f, h3, fun i hi => .inl ?_, fun i hi => .inl ?_, Fr.refl _ _⟩
 ·rcases h4 i hi with h | h
  ·exact h
  ·have := h1.lts i hi; omega
 ·rcases h5 i hi with h | h
  ·exact h
  ·have := h2.lts i hi; omega
theorem TwX.opD {f : Nat} {args : Array Value} {r : Ending} (h : TwX B F0 w p D px X) (hc : ∀ O, Dsk w p O D → Calls Tryz.prog f args w fun e w' => e = r ∧ AftD w p O D' w') :
  Calls Tryz.prog f args w fun e w' => e = r ∧ TwX B F0 w' p D' px X := by
 obtain ⟨O, OX, h1, h2, h3, h4, h5, h6⟩ := h
 refine (hc O h1).mono ?_
 rintro e w' ⟨he, O', k1, k2, k3⟩
 have hs := h6.size
 exact ⟨he, O', OX, k1, h2.keep k3 (fun i hi hm => h3 i hm hi), fun i hi hx => by
  rcases k2 i hi with h | h
  ·exact h3 i h hx
  ·have := h2.lts i hx; omega, fun i hi => by
  rcases k2 i hi with h | h
  ·exact h4 i h
  ·exact .inr (by omega), h5, h6.trans k3 h4⟩
theorem TwX.opX {f : Nat} {args : Array Value} {r : Ending} (h : TwX B F0 w p D px X) (hc : ∀ O, Xdk w px O X → Calls Tryz.prog f args w fun e w' => e = r ∧ AftX w px O X' w') :
  Calls Tryz.prog f args w fun e w' => e = r ∧ TwX B F0 w' p D px X' := by
 obtain ⟨O, OX, h1, h2, h3, h4, h5, h6⟩ := h
 refine (hc OX h2).mono ?_
 rintro e w' ⟨he, O', k1, k2, k3⟩
 have hs := h6.size
 exact ⟨he, O, O', h1.keep k3 (fun i hi hm => h3 i hi hm) h2.no8s, k1, fun i hi hx => by
  rcases k2 i hx with h | h
  ·exact h3 i hi h
  ·have := h1.lts i hi; omega, h4, fun i hi => by
  rcases k2 i hi with h | h
  ·exact h5 i h
  ·exact .inr (by omega), h6.trans k3 h5⟩
theorem BRow.keepB {F : List Nat} {B : Nat} {v : Value} {vs : List Value} {bs : List (List UInt8)} (h : BRow w B v vs bs) (f : Fr F w w') (hF : ∀ i ∈ F, i < B) : BRow w' B v vs bs :=
 ⟨h.row.keep f (fun g hg hm => by have := (h.row.lt g hg).1; have := hF g hm; omega), fun i a b => (h.each i a b).keep f (fun g hg hm => by have := ((h.each i a b).lt g hg).1; have := hF g hm; omega)⟩
theorem BBRow.keepB {F : List Nat} {B : Nat} {v : Value} {us : List Value} {ls : List (List (List UInt8))} (h : BBRow w B v us ls) (f : Fr F w w') (hF : ∀ i ∈ F, i < B) : BBRow w' B v us ls :=
 ⟨h.row.keep f (fun g hg hm => by have := (h.row.lt g hg).1; have := hF g hm; omega), fun i a b => (h.each i a b).imp fun _ k => k.keepB f hF⟩
end
def bothC (d x s r : Nat) (L R : List Value) : List Value := .pointer (some ⟨d, 0, none⟩) :: .pointer (some ⟨x, 0, none⟩) :: .pointer (some ⟨s, 0, none⟩) :: .pointer (some ⟨r, 0, none⟩) :: (L ++ R)
theorem list32 {l : List Value} (h : l.length = 32) : ∃ a0 a1 a2 a3 a4 a5 a6 a7 a8 a9 a10 a11 a12 a13 a14 a15 a16 a17 a18 a19 a20 a21 a22 a23 a24 a25 a26 a27 a28 a29 a30 a31, l = [a0, a1, a2, a3, a4, a5, a6, a7, a8, a9, a10, a11, a12, a13, a14, a15, a16, a17, a18, a19, a20, a21, a22, a23, a24, a25, a26, a27, a28, a29, a30, a31] := by
 match l, h with
 | [a0, a1, a2, a3, a4, a5, a6, a7, a8, a9, a10, a11, a12, a13, a14, a15, a16, a17, a18, a19, a20, a21, a22, a23, a24, a25, a26, a27, a28, a29, a30, a31], _ => exact ⟨_, _, _, _, _, _, _, _, _, _, _, _, _, _, _, _, _, _, _, _, _, _, _, _, _, _, _, _, _, _, _, _, rfl⟩
theorem list9 {l : List Value} (h : l.length = 9) : ∃ a0 a1 a2 a3 a4 a5 a6 a7 a8, l = [a0, a1, a2, a3, a4, a5, a6, a7, a8] := by
 match l, h with
 | [a0, a1, a2, a3, a4, a5, a6, a7, a8], _ => exact ⟨_, _, _, _, _, _, _, _, _, rfl⟩
set_option maxHeartbeats 1000000 in
theorem bothB (w : World) (d x s r : Nat) (L R : List Value) (hL : L.length = 9) (hR : R.length = 32) :
  (Instr.build 41 #[(0, .pointer (some ⟨d, 0, none⟩)), (1, .pointer (some ⟨x, 0, none⟩)), (2, .pointer (some ⟨s, 0, none⟩)), (3, .pointer (some ⟨r, 0, none⟩)), (4, .agg L.toArray), (5, .agg R.toArray)]).run Tryz.prog w = .ok (.agg (bothC d x s r L R).toArray) w := by
 obtain ⟨a0, a1, a2, a3, a4, a5, a6, a7, a8, rfl⟩ := list9 hL
 obtain ⟨b0, b1, b2, b3, b4, b5, b6, b7, b8, b9, b10, b11, b12, b13, b14, b15, b16, b17, b18, b19, b20, b21, b22, b23, b24, b25, b26, b27, b28, b29, b30, b31, rfl⟩ := list32 hR
 kernel_rfl
def LayB (w : World) (s : Nat) (e : Ending) (w' : World) : Prop :=
 ∃ A c, e = .returned (.tuple #[.agg ((lyB s).cells (.slice A (lyB s).lev.length c)).toArray, .int .i64 0]) ∧ LyW w' A c (lyB s) (tagsN s) ∧ Fr [] w w'
theorem xhLayoutB {s : Nat} (hs : 1 ≤ s ∧ s ≤ 1024) (w : World) : Calls Tryz.prog 18 #[.agg (hdM s).cells.toArray] w (LayB w s) := by
 have h64 : in64 (s : Int) := ⟨by omega, by omega⟩
 refine (xhLayout_any w (hdM s) (hdM_ok h64)).mono ?_
 rintro e w' ⟨v, rfl, r, f⟩
 rw [hdM_good hs, if_pos rfl, if_pos rfl] at r
 rw [hdM_good hs, if_pos rfl]
 have e1 : (hdM (s : Int)).sec.toNat = s := Int.toNat_natCast s
 rw [e1] at r ⊢
 replace r : Row w' w.heap.size 3 1 v (lyB s).lev.length (ivs (lyB s).lev) := r
 obtain ⟨A, c, rfl, -, -, -, -, -⟩ := r.shape
 have hS := sumL_B s hs
 exact ⟨A, c, rfl, ⟨r.rdD.1, rfl, tagsN_b hs, rfl, by show 45 ≤ 100000; omega, by show 45 + sumL (levsN (tagsN s)) ≤ 100000; omega⟩, f⟩
end
end Go.Proofs.YtbanogfljpkbkaaGreatDoor
