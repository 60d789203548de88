/-
  Texts of this claim, one behind the other: TreW, TreX, TreR.
-/
import Derived.Test.YtbanogfljpkbkaaGreatDoorF16
import Derived.Test.YtbanogfljpkbkaaGreatDoorF8
import Derived.Test.YtbanogfljpkbkaaGreatDoorF13
import Derived.Test.YtbanogfljpkbkaaGreatDoorF6
import Derived.Test.YtbanogfljpkbkaaGreatDoorF17
import Derived.Test.YtbanogfljpkbkaaGreatDoorF18
set_option linter.unusedSimpArgs false
set_option linter.unusedVariables false
set_option linter.unnecessarySimpa false
namespace Go.Proofs.YtbanogfljpkbkaaGreatDoor
section
open Go.RowKit
theorem brd_one {w : World} {A : Option Addr} {n c : Nat} {l : List UInt8} (hn : l.length = n) (h : SlB w (.slice A n c) l) : BRd (w.alloc (.cells #[.slice A n c] 27)) (some ⟨w.heap.size, 0, none⟩) [.slice A n c] [l] :=
 ⟨Rd.one w _ _, rfl, fun i h1 h2 => by
  obtain rfl : i = 0 := by simp at h1; omega
  exact h.keep_nil ((Fr.refl _ _).alloc _)⟩
set_option maxRecDepth 100000 in
set_option maxHeartbeats 4000000 in
theorem trDigest_any {w : World} {n c n0 c0 : Nat} {A A0 : Option Addr} {mk : List UInt8} {vs : List Value} {bs : List (List UInt8)} (h0 : mk.length = n0) (r0 : Rd w A0 (bvs mk)) (a0 : A0 = none → n0 = 0) (hn : bs.length = n) (hr : BRd w A vs bs) (hb : mk.length + bs.flatten.length ≤ 140737488355200) (hn2 : n ≤ 140737488355328) (hK : KG w) :
  Calls Tryz.prog 86 #[.slice A0 n0 c0, .slice A n c] w fun e w' => e = .returned (.agg (bvs (shaSum (mk ++ bs.flatten))).toArray) ∧ Fr [] w w' := by
 have HN := Lib.hid hn
 have HB := Lib.hid hb
 have HM := Lib.hid h0
 have p0 := hK.pos
 clear hn hb h0
 go_enter Tryz.func86, Tryz.ntmps86
 go_wp2_with
  (first
   | (refine wpList_alS stA32 (o := ⟨some 4, _, _, _, _, _⟩) rfl rfl ?_; intro w1 h1 f1 z1; have Z1 := Lib.hid z1; clear z1; obtain ⟨g1, hg1⟩ : ∃ g1, w.heap.size = g1 := ⟨_, rfl⟩; rw [hg1] at h1; rw [hg1]; have HG1 := Lib.hid hg1; clear hg1))
 refine (newHash_any w1).mono ?_
 rintro e w2 ⟨g, rfl, hg, hh, f2⟩
 have F2 := f1.trans_nil f2
 have b2 := h1.keep_nil f2
 have gw : w.heap.size < g := by have := Z1.out; omega
 have hgl := hh.blk.lt
 have g1g : g1 < g := by have := HG1.out; omega
 clear h1 f1 f2
 obtain ⟨B, hB⟩ : ∃ B, w2.heap.size = B := ⟨_, rfl⟩
 rw [hB] at hh hgl
 have hgB : g < B := hgl
 clear hgl
 have cc := hWrite_any hh A0 n0 c0 mk HM.out (r0.keep_nil F2) a0 (fun g' o e hne => by
  obtain ⟨g2, o2, e2, h2⟩ := r0.lt (by intro h0; apply hne; simpa [bvs] using h0)
  rw [e] at e2
  cases e2
  omega) (by have := HB.out; have := HM.out; simp; omega) (hK.keep F2) (by omega) (by omega)
 clear hB
 go_wp2_with fail
 refine cc.mono ?_
 clear cc hh
 rintro e w3 ⟨rfl, v3, h3, f3, -⟩
 rw [List.nil_append] at h3
 have F3 : Fr [] w w3 := F2.trans f3 (fun i hi => .inr (by
  rcases List.mem_cons.1 hi with rfl | hi
  ·omega
  ·exact absurd hi (by simp [Value.ownBlock])))
 have b3 := b2.keep f3 (fun hm => by
  rcases List.mem_cons.1 hm with e | hm
  ·omega
  ·exact absurd hm (by simp [Value.ownBlock]))
 clear b2 F2 f3
 go_wp2_with fail
 go_loopw [14] (fun i wr => ∃ k : Nat, k ≤ n ∧ i = .int .i64 k ∧ (∃ v, Hsh wr g B v (mk ++ (bs.take k).flatten)) ∧ Blk wr g1 39 (bvs (zB 32)).toArray ∧ Fr [] w wr) (fun i _ => n - (intOf i).toNat)
 case atStart => exact ⟨0, Nat.zero_le _, rfl, ⟨v3, by simpa using h3⟩, b3, F3⟩
 case round =>
  clear h3 b3 F3
  obtain ⟨k, hk, rfl, ⟨v, hh⟩, b3, F3⟩ := hrel
  have hbase := hh.base
  by_cases hlt : k < n
  ·have hkl : k < bs.length := by rw [HN.out]; exact hlt
   have hkv : k < vs.length := by rw [hr.len]; exact hkl
   have hr3 := hr.keep_nil F3
   obtain ⟨ga, oa, rfl, hc⟩ := hr3.rd (by intro h; rw [h] at hkv; simp at hkv)
   have ck := hc k vs[k] (List.getElem?_eq_getElem hkv)
   obtain ⟨Ak, cK, hv, hrd, hnil, hcap⟩ := hr3.each k hkv hkl
   obtain ⟨Aw, cw, hvw, hrdw, -⟩ := hr.each k hkv hkl
   rw [hv] at ck
   have eA : Ak = Aw := by rw [hv] at hvw; injection hvw
   have hft : mk ++ (bs.take (k + 1)).flatten = (mk ++ (bs.take k).flatten) ++ bs[k] := by rw [flat_take_succ bs k hkl, List.append_assoc]
   have hfl := flat_take_le bs (k + 1)
   rw [flat_take_succ bs k hkl, List.length_append] at hfl
   obtain ⟨b, hbk⟩ : ∃ b, bs[k] = b := ⟨_, rfl⟩
   rw [hbk] at ck hrd hnil hft hfl hrdw hcap
   have hml : (mk ++ (bs.take k).flatten).length = mk.length + (bs.take k).flatten.length := List.length_append
   obtain ⟨l, hll⟩ : ∃ l, mk ++ (bs.take k).flatten = l := ⟨_, rfl⟩
   rw [hll] at hh hft hml
   have HFT := Lib.hid hft
   obtain ⟨nb, hnb⟩ : ∃ nb, b.length = nb := ⟨_, rfl⟩
   rw [hnb] at ck hnil hfl hcap
   have HB2 := HB.out
   have cc := hWrite_any hh Ak nb cK b hnb hrd hnil (fun g' o e hne => by
    obtain ⟨g2, o2, e2, h2⟩ := hrdw.lt (by intro h0; apply hne; simpa [bvs] using h0)
    rw [← eA, e] at e2
    cases e2
    omega) (by omega) (hK.keep F3) (by omega) (by omega)
   have hown : ∀ i, v.ownBlock = some i → B ≤ i := fun i hi => (hh.row.lt i hi).1
   clear hc hv hrd hnil hcap hvw hrdw eA hft hfl hbk hll hml hnb hr3 HB2
   go_wp2_with fail
   refine cc.mono ?_
   clear cc
   rintro e w4 ⟨rfl, v4, h4, f4, -⟩
   have b4 := b3.keep f4 (fun hm => by
    rcases List.mem_cons.1 hm with e | hm
    ·omega
    ·have := hown _ (mem_own.1 hm); omega)
   have F4 : Fr [] w w4 := F3.trans f4 (fun i hi => .inr (by
    rcases List.mem_cons.1 hi with e | hi
    ·omega
    ·have := hown _ (mem_own.1 hi); omega))
   go_wp2_with fail
   exact ⟨⟨k + 1, by omega, by go_num, ⟨v4, by rw [HFT.out]; exact h4⟩, b4, F4⟩, by simp [intOf]; omega⟩
  ·obtain rfl : k = n := by omega
   rw [List.take_of_length_le (by rw [HN.out]; exact Nat.le_refl _)] at hh
   go_wp2_with fail
   refine (hSum_any hh (by rw [List.length_append]; exact HB.out) (hK.keep F3)).mono ?_
   rintro e w5 ⟨rfl, f5⟩
   have F5 := F3.trans_nil f5
   have b5 := b3.keep_nil f5
   obtain ⟨D, hD⟩ : ∃ D, shaSum (mk ++ bs.flatten) = D := ⟨_, rfl⟩
   have hdl : D.length = 32 := by rw [← hD, shaSum_length]
   rw [hD]
   have HDL := Lib.hid hdl
   have HDD := Lib.hid (fun _ : Unit => hD)
   clear hD hdl hh b3 F3 f5
   go_wp2_with
    (first
     | (refine wpList_stB stA32 rfl rfl g1 rfl (bvs D) rfl (by rw [bvs_length, HDL.out]) (bvs_one _) (bvs (zB 32)) rfl b5 ?_; intro wb hb fb zb; have ZB := Lib.hid zb; clear zb))
   try simp only [Exit.inBlock, Exit.then]
   refine bodyPost_ret (results_cell stA32 rfl rfl (by rw [bvs_length, HDL.out]) hb) rfl ?_
   exact ⟨by rw [HDD.out ()], F5.trans fb (fun i hi => .inr (by have := HG1.out; simp at hi; omega))⟩
set_option maxRecDepth 100000 in
set_option maxHeartbeats 1000000 in
theorem trLeaf_any (A : Option Addr) (l : List UInt8) (n c : Nat) (w : World) (hn : l.length = n) (hr : Rd w A (bvs l)) (hA : A = none → n = 0) (hc : n ≤ c) (hN : n ≤ 70368744177664) (hK : KG w) :
  Calls Tryz.prog 44 #[.slice A n c] w fun e w' => e = .returned (.agg (bvs (leafH l)).toArray) ∧ Fr [] w w' := by
 have HS : SlB w (.slice A n c) l := ⟨A, c, by rw [hn], hr, by rw [hn]; exact hA, by omega⟩
 have HN := Lib.hid hn
 have hD : shaSum ([0] ++ [l].flatten) = leafH l := by simp [leafH]
 have hDL : (leafH l).length = 32 := shaSum_length _
 obtain ⟨D, hDD⟩ : ∃ D, leafH l = D := ⟨_, rfl⟩
 rw [hDD] at hD hDL ⊢
 have HD := Lib.hid hD
 have HDL := Lib.hid hDL
 clear hn hr hA hD hDL hDD
 go_enter Tryz.func44, Tryz.ntmps44
 go_wp2_with
  (first
   | (refine wpList_alS stA32 (o := ⟨some 2, _, _, _, _, _⟩) rfl rfl ?_; intro w1 h1 f1 z1; have Z1 := Lib.hid z1; clear z1; obtain ⟨g1, hg1⟩ : ∃ g1, w.heap.size = g1 := ⟨_, rfl⟩; rw [hg1] at h1; rw [hg1]; have HG1 := Lib.hid hg1; clear hg1)
   | fail)
 have fa : Fr [] w1 (w1.alloc (.cells #[.int .u8 0] 5)) := (Fr.refl _ _).alloc _
 have fb : Fr [] (w1.alloc (.cells #[.int .u8 0] 5)) ((w1.alloc (.cells #[.int .u8 0] 5)).alloc (.cells #[.slice A n c] 27)) := (Fr.refl _ _).alloc _
 have r0 : Rd (w1.alloc (.cells #[.int .u8 0] 5)) (some ⟨w1.heap.size, 0, none⟩) (bvs [0]) := Rd.one w1 _ _
 have r1 := brd_one HN.out ((HS.keep_nil f1).keep_nil fa)
 have fz := (f1.trans_nil fa).trans_nil fb
 have cc := trDigest_any (mk := [0]) (n0 := 1) (c0 := 1) (n := 1) (c := 1) (bs := [l]) rfl (r0.keep_nil fb) (by simp) rfl r1 (by have := HN.out; simp; omega) (by omega) (hK.keep fz)
 rw [HD.out, show (w1.alloc (.cells #[.int .u8 0] 5)).heap.size = w1.heap.size + 1 by simp] at cc
 have i2 := (h1.keep_nil fa).keep_nil fb
 have FZ := Lib.hid fz
 clear fa fb r0 r1 fz h1 f1
 refine cc.mono ?_
 rintro e w3 ⟨rfl, f3⟩
 have i3 := i2.keep_nil f3
 have F3 := FZ.out.trans_nil f3
 clear i2 f3 cc
 go_wp2_with (first | (refine wpList_stB stA32 rfl rfl g1 rfl (bvs D) rfl (by rw [bvs_length, HDL.out]) (bvs_one _) (bvs (zB 32)) rfl i3 ?_; intro wc hc fc zc; clear zc))
 try simp only [Exit.inBlock, Exit.then]
 refine bodyPost_ret (results_cell stA32 rfl rfl (by rw [bvs_length, HDL.out]) hc) rfl ?_
 exact ⟨rfl, F3.trans fc (fun i hi => .inr (by have := HG1.out; simp at hi; omega))⟩
theorem root_head {m : Nat} (h : m ≤ 4096) : #[Value.int .u8 2, Value.int .u8 ((m : Int) % 256), Value.int .u8 ((m : Int) / 256), Value.int .u8 ((m : Int) / 65536), Value.int .u8 ((m : Int) / 16777216)] = (bvs [2, UInt8.ofNat m, UInt8.ofNat (m / 256), UInt8.ofNat (m / 65536), UInt8.ofNat (m / 16777216)]).toArray := by
 have e : ∀ x : Nat, bv (UInt8.ofNat x) = Value.int .u8 ((x % 256 : Nat) : Int) := fun x => by unfold bv; simp
 simp only [bvs, List.map_cons, List.map_nil, e]
 congr 2
 rw [show ((m : Int) / 256) = ((m / 256 % 256 : Nat) : Int) by omega, show ((m : Int) / 65536) = ((m / 65536 % 256 : Nat) : Int) by omega, show ((m : Int) / 16777216) = ((m / 16777216 % 256 : Nat) : Int) by omega]
 rfl
theorem ofNat_toNat {k : Nat} (h : k < 256) : Value.int .u8 (k : Int) = bv (UInt8.ofNat k) := by
 unfold bv; congr 1; simp; omega
set_option maxRecDepth 100000 in
set_option maxHeartbeats 1000000 in
theorem trNode_any (k : Nat) (hk : k ≤ 200) (A : Option Addr) (l : List UInt8) (n c : Nat) (w : World) (hn : l.length = n) (hr : Rd w A (bvs l)) (hA : A = none → n = 0) (hc : n ≤ c) (hN : n ≤ 70368744177664) (hK : KG w) :
  Calls Tryz.prog 84 #[.int .i64 k, .slice A n c] w fun e w' => e = .returned (.agg (bvs (nodeH (UInt8.ofNat k) l)).toArray) ∧ Fr [] w w' := by
 have HS : SlB w (.slice A n c) l := ⟨A, c, by rw [hn], hr, by rw [hn]; exact hA, by omega⟩
 have HN := Lib.hid hn
 have hD : shaSum ([1, UInt8.ofNat k] ++ [l].flatten) = nodeH (UInt8.ofNat k) l := by simp [nodeH]
 have hDL : (nodeH (UInt8.ofNat k) l).length = 32 := shaSum_length _
 obtain ⟨D, hDD⟩ : ∃ D, nodeH (UInt8.ofNat k) l = D := ⟨_, rfl⟩
 rw [hDD] at hD hDL ⊢
 have HD := Lib.hid hD
 have HDL := Lib.hid hDL
 have U : IntKind.u8.wrap (k : Int) = k := by rw [IntKind.wrap_u8]; omega
 have HB := Lib.hid (ofNat_toNat (k := k) (by omega))
 clear hn hr hA hD hDL hDD
 go_enter Tryz.func84, Tryz.ntmps84
 go_wp2_with
  (first
   | (refine wpList_alS stA32 (o := ⟨some 4, _, _, _, _, _⟩) rfl rfl ?_; intro w1 h1 f1 z1; have Z1 := Lib.hid z1; clear z1; obtain ⟨g1, hg1⟩ : ∃ g1, w.heap.size = g1 := ⟨_, rfl⟩; rw [hg1] at h1; rw [hg1]; have HG1 := Lib.hid hg1; clear hg1)
   | fail)
 have fa : Fr [] w1 (w1.alloc (.cells #[.int .u8 1, .int .u8 k] 5)) := (Fr.refl _ _).alloc _
 have fb : Fr [] (w1.alloc (.cells #[.int .u8 1, .int .u8 k] 5)) ((w1.alloc (.cells #[.int .u8 1, .int .u8 k] 5)).alloc (.cells #[.slice A n c] 27)) := (Fr.refl _ _).alloc _
 have r0 : Rd (w1.alloc (.cells #[.int .u8 1, .int .u8 k] 5)) (some ⟨w1.heap.size, 0, none⟩) (bvs [1, UInt8.ofNat k]) := by
  refine Rd.of_blk (Blk.new w1 5 #[.int .u8 1, .int .u8 k]) 0 _ (fun j u hu => ?_)
  rw [Nat.zero_add]
  rw [HB.out]
  simpa [bvs, bv] using hu
 have r1 := brd_one HN.out ((HS.keep_nil f1).keep_nil fa)
 have fz := (f1.trans_nil fa).trans_nil fb
 have cc := trDigest_any (mk := [1, UInt8.ofNat k]) (n0 := 2) (c0 := 2) (n := 1) (c := 1) (bs := [l]) rfl (r0.keep_nil fb) (by simp) rfl r1 (by have := HN.out; simp; omega) (by omega) (hK.keep fz)
 rw [HD.out, show (w1.alloc (.cells #[.int .u8 1, .int .u8 k] 5)).heap.size = w1.heap.size + 1 by simp] at cc
 have i2 := (h1.keep_nil fa).keep_nil fb
 have FZ := Lib.hid fz
 clear fa fb r0 r1 fz h1 f1
 refine cc.mono ?_
 rintro e w3 ⟨rfl, f3⟩
 have i3 := i2.keep_nil f3
 have F3 := FZ.out.trans_nil f3
 clear i2 f3 cc
 go_wp2_with (first | (refine wpList_stB stA32 rfl rfl g1 rfl (bvs D) rfl (by rw [bvs_length, HDL.out]) (bvs_one _) (bvs (zB 32)) rfl i3 ?_; intro wc hc fc zc; clear zc))
 try simp only [Exit.inBlock, Exit.then]
 refine bodyPost_ret (results_cell stA32 rfl rfl (by rw [bvs_length, HDL.out]) hc) rfl ?_
 exact ⟨rfl, F3.trans fc (fun i hi => .inr (by have := HG1.out; simp at hi; omega))⟩
set_option maxRecDepth 100000 in
set_option maxHeartbeats 1000000 in
theorem trRoot_any (m k : Nat) (hm : m ≤ 4096) (hk : k ≤ 200) (A : Option Addr) (l : List UInt8) (n c : Nat) (w : World) (hn : l.length = n) (hr : Rd w A (bvs l)) (hA : A = none → n = 0) (hc : n ≤ c) (hN : n ≤ 70368744177664) (hK : KG w) :
  Calls Tryz.prog 106 #[.int .i64 m, .int .i64 k, .slice A n c] w fun e w' => e = .returned (.agg (bvs (rootH m (UInt8.ofNat k) l)).toArray) ∧ Fr [] w w' := by
 have HN := Lib.hid hn
 obtain ⟨N, hNN⟩ : ∃ N, nodeH (UInt8.ofNat k) l = N := ⟨_, rfl⟩
 have hNL : N.length = 32 := by rw [← hNN]; exact shaSum_length _
 have hD : shaSum ([2, UInt8.ofNat m, UInt8.ofNat (m / 256), UInt8.ofNat (m / 65536), UInt8.ofNat (m / 16777216)] ++ [N].flatten) = rootH m (UInt8.ofNat k) l := by rw [← hNN]; simp [rootH]
 have hDL : (rootH m (UInt8.ofNat k) l).length = 32 := shaSum_length _
 obtain ⟨D, hDD⟩ : ∃ D, rootH m (UInt8.ofNat k) l = D := ⟨_, rfl⟩
 rw [hDD] at hD hDL ⊢
 have HD := Lib.hid hD
 have HDL := Lib.hid hDL
 have HNL := Lib.hid hNL
 clear hD hDL hDD hNL
 have cn := fun w1 (f : Fr [] w w1) => trNode_any k hk A l n c w1 HN.out (hr.keep_nil f) hA hc hN (hK.keep f)
 rw [hNN] at cn
 have CN := Lib.hid cn
 have HCC := Lib.hid (root_head (m := m) (by omega))
 clear hn hr hA hNN cn
 go_enter Tryz.func106, Tryz.ntmps106
 go_wp2_with
  (first
   | (refine wpList_alS stA32 (o := ⟨some 6, _, _, _, _, _⟩) rfl rfl ?_; intro w1 h1 f1 z1; have Z1 := Lib.hid z1; clear z1; obtain ⟨g1, hg1⟩ : ∃ g1, w.heap.size = g1 := ⟨_, rfl⟩; rw [hg1] at h1; rw [hg1]; have HG1 := Lib.hid hg1; clear hg1)
   | fail)
 refine (CN.out w1 f1).mono ?_
 rintro e w2 ⟨rfl, f2⟩
 have F2 := f1.trans_nil f2
 have i2 := h1.keep_nil f2
 clear f1 f2 h1
 go_wp2_with
  (first
   | (refine wpList_alS stA32 (o := ⟨some 7, _, _, _, _, _⟩) rfl rfl ?_; intro w3 h3 f3 z3; have Z3 := Lib.hid z3; clear z3; obtain ⟨g3, hg3⟩ : ∃ g3, w2.heap.size = g3 := ⟨_, rfl⟩; rw [hg3] at h3; rw [hg3]; have HG3 := Lib.hid hg3; clear hg3)
   | (refine wpList_stB stA32 rfl rfl g3 rfl (bvs N) rfl (by rw [bvs_length, HNL.out]) (bvs_one _) (bvs (zB 32)) rfl h3 ?_; intro w4 h4 f4 z4; have Z4 := Lib.hid z4; clear z4))
 obtain ⟨cs, hcs⟩ : ∃ cs, #[Value.int .u8 2, Value.int .u8 ((m : Int) % 256), Value.int .u8 ((m : Int) / 256), Value.int .u8 ((m : Int) / 65536), Value.int .u8 ((m : Int) / 16777216)] = cs := ⟨_, rfl⟩
 rw [hcs]
 have hcb : cs = (bvs [2, UInt8.ofNat m, UInt8.ofNat (m / 256), UInt8.ofNat (m / 65536), UInt8.ofNat (m / 16777216)]).toArray := by rw [← hcs]; exact HCC.out
 have f5 : Fr [] w2 w4 := f3.trans f4 (fun i hi => .inr (by have := HG3.out; simp at hi; omega))
 have i4 := i2.keep_nil f5
 have F4 := F2.trans_nil f5
 have fa : Fr [] w4 (w4.alloc (.cells cs 5)) := (Fr.refl _ _).alloc _
 have fb : Fr [] (w4.alloc (.cells cs 5)) ((w4.alloc (.cells cs 5)).alloc (.cells #[.slice (some ⟨g3, 0, none⟩) 32 32] 27)) := (Fr.refl _ _).alloc _
 have r0 : Rd (w4.alloc (.cells cs 5)) (some ⟨w4.heap.size, 0, none⟩) (bvs [2, UInt8.ofNat m, UInt8.ofNat (m / 256), UInt8.ofNat (m / 65536), UInt8.ofNat (m / 16777216)]) := by
  refine Rd.of_blk (Blk.new w4 5 cs) 0 _ (fun j u hu => ?_)
  rw [Nat.zero_add, hcb]
  simpa using hu
 have HS : SlB w4 (.slice (some ⟨g3, 0, none⟩) 32 32) N := ⟨_, 32, by rw [HNL.out], Rd.of_blk h4 0 _ (fun j u hu => by rw [Nat.zero_add]; simpa using hu), by simp, by rw [HNL.out]; exact Nat.le_refl _⟩
 have r1 := brd_one HNL.out (HS.keep_nil fa)
 have fz := (F4.trans_nil fa).trans_nil fb
 have cc := trDigest_any (mk := [2, UInt8.ofNat m, UInt8.ofNat (m / 256), UInt8.ofNat (m / 65536), UInt8.ofNat (m / 16777216)]) (n0 := 5) (c0 := 5) (n := 1) (c := 1) (bs := [N]) rfl (r0.keep_nil fb) (by simp) rfl r1 (by have := HNL.out; simp; omega) (by omega) (hK.keep fz)
 rw [HD.out, show (w4.alloc (.cells cs 5)).heap.size = w4.heap.size + 1 by simp] at cc
 have i2 := (i4.keep_nil fa).keep_nil fb
 have FZ := Lib.hid fz
 clear fa fb r0 r1 fz i4 f3 f4 h3 h4 F2 F4 f5 hcs hcb HS
 refine cc.mono ?_
 rintro e w5 ⟨rfl, f5⟩
 have i3 := i2.keep_nil f5
 have F3 := FZ.out.trans_nil f5
 clear i2 f5 cc
 go_wp2_with (first | (refine wpList_stB stA32 rfl rfl g1 rfl (bvs D) rfl (by rw [bvs_length, HDL.out]) (bvs_one _) (bvs (zB 32)) rfl i3 ?_; intro wc hc fc zc; clear zc))
 try simp only [Exit.inBlock, Exit.then]
 refine bodyPost_ret (results_cell stA32 rfl rfl (by rw [bvs_length, HDL.out]) hc) rfl ?_
 exact ⟨rfl, F3.trans fc (fun i hi => .inr (by have := HG1.out; simp at hi; omega))⟩
end
section
open Go.RowKit
set_option maxRecDepth 100000
set_option maxHeartbeats 1000000 in
theorem xtLeaf_any (A : Option Addr) (l : List UInt8) (n c : Nat) (w : World) (hn : l.length = n) (hr : Rd w A (bvs l)) (hA : A = none → n = 0) (hN : n ≤ 70368744177664) :
  Calls Tryz.prog 15 #[.slice A n c] w fun e w' => e = .returned (.agg (bvs (leafH l)).toArray) ∧ Fr [] w w' := by
 have HN := Lib.hid hn
 have hD : shaSum ([0] ++ l) = leafH l := by simp [leafH]
 have hDL : (leafH l).length = 32 := shaSum_length _
 obtain ⟨D, hDD⟩ : ∃ D, leafH l = D := ⟨_, rfl⟩
 rw [hDD] at hD hDL ⊢
 have HD := Lib.hid hD
 have HDL := Lib.hid hDL
 clear hn hD hDL hDD
 go_enter Tryz.func15, Tryz.ntmps15
 go_wp2_with
  (first
   | (refine wpList_alS stA32 (o := ⟨some 2, _, _, _, _, _⟩) rfl rfl ?_; intro w1 h1 f1 z1; have Z1 := Lib.hid z1; clear z1; obtain ⟨g1, hg1⟩ : ∃ g1, w.heap.size = g1 := ⟨_, rfl⟩; rw [hg1] at h1; rw [hg1]; have HG1 := Lib.hid hg1; clear hg1)
   | (at_builtin; refine wpList_app rfl rfl slB w1.heap.size _ 1 (bvs [0]) rfl (Row.new w1 #[.int .u8 0] 5 1 1 (0, 0) (free_zero _) (by unfold maxLen; omega) rfl (Nat.le_refl _)) A n c (bvs l) rfl (by rw [bvs_length, HN.out]; omega) ((hr.keep_nil f1).alloc _) (bvs_one _) hA (by omega) (by simp) ?_; intro v5 w5 q1 q2 q3 q4))
 rw [← bvs_append] at q1
 have fa : Fr [] w1 w5 := ((Fr.refl [] w1).alloc _).trans q2 (fun i hi => by rw [own_mem.1 hi]; exact .inr (Nat.le_refl _))
 obtain ⟨A5, c5, rfl, -, -, -, -, -⟩ := q1.shape
 have cc := xSum_any A5 ([0] ++ l) (1 + n) c5 w5 (by have := HN.out; simp; omega) q1.rdD.1 q1.rdD.2.2 (by omega)
 rw [HD.out] at cc
 have i2 := h1.keep_nil fa
 have FZ := Lib.hid (f1.trans_nil fa)
 clear fa q1 q2 q3 q4 h1 f1
 refine cc.mono ?_
 rintro e w3 ⟨rfl, f3⟩
 have i3 := i2.keep_nil f3
 have F3 := FZ.out.trans_nil f3
 clear i2 f3 cc
 go_wp2_with (first | (refine wpList_stB stA32 rfl rfl g1 rfl (bvs D) rfl (by rw [bvs_length, HDL.out]) (bvs_one _) (bvs (zB 32)) rfl i3 ?_; intro wc hc fc zc; clear zc))
 try simp only [Exit.inBlock, Exit.then]
 refine bodyPost_ret (results_cell stA32 rfl rfl (by rw [bvs_length, HDL.out]) hc) rfl ?_
 exact ⟨rfl, F3.trans fc (fun i hi => .inr (by have := HG1.out; simp at hi; omega))⟩
set_option maxHeartbeats 1000000 in
theorem xtNode_any (k : Nat) (hk : k ≤ 200) (A : Option Addr) (l : List UInt8) (n c : Nat) (w : World) (hn : l.length = n) (hr : Rd w A (bvs l)) (hA : A = none → n = 0) (hN : n ≤ 70368744177664) :
  Calls Tryz.prog 52 #[.int .i64 k, .slice A n c] w fun e w' => e = .returned (.agg (bvs (nodeH (UInt8.ofNat k) l)).toArray) ∧ Fr [] w w' := by
 have HN := Lib.hid hn
 have hD : shaSum ([1, UInt8.ofNat k] ++ l) = nodeH (UInt8.ofNat k) l := by simp [nodeH]
 have hDL : (nodeH (UInt8.ofNat k) l).length = 32 := shaSum_length _
 obtain ⟨D, hDD⟩ : ∃ D, nodeH (UInt8.ofNat k) l = D := ⟨_, rfl⟩
 rw [hDD] at hD hDL ⊢
 have HD := Lib.hid hD
 have HDL := Lib.hid hDL
 have U : IntKind.u8.wrap (k : Int) = k := by rw [IntKind.wrap_u8]; omega
 have HB := Lib.hid (show #[Value.int .u8 1, Value.int .u8 (k : Int)].toList = bvs [1, UInt8.ofNat k] by rw [ofNat_toNat (k := k) (by omega)]; rfl)
 clear hn hD hDL hDD
 go_enter Tryz.func52, Tryz.ntmps52
 go_wp2_with
  (first
   | (refine wpList_alS stA32 (o := ⟨some 4, _, _, _, _, _⟩) rfl rfl ?_; intro w1 h1 f1 z1; have Z1 := Lib.hid z1; clear z1; obtain ⟨g1, hg1⟩ : ∃ g1, w.heap.size = g1 := ⟨_, rfl⟩; rw [hg1] at h1; rw [hg1]; have HG1 := Lib.hid hg1; clear hg1)
   | (at_builtin; refine wpList_app rfl rfl slB w1.heap.size _ 2 (bvs [1, UInt8.ofNat k]) rfl (by rw [← HB.out]; exact Row.new w1 #[.int .u8 1, .int .u8 k] 5 1 2 (0, 0) (free_zero _) (by unfold maxLen; omega) rfl (Nat.le_refl _)) A n c (bvs l) rfl (by rw [bvs_length, HN.out]; omega) ((hr.keep_nil f1).alloc _) (bvs_one _) hA (by omega) (by simp) ?_; intro v5 w5 q1 q2 q3 q4))
 rw [← bvs_append] at q1
 have fa : Fr [] w1 w5 := ((Fr.refl [] w1).alloc _).trans q2 (fun i hi => by rw [own_mem.1 hi]; exact .inr (Nat.le_refl _))
 obtain ⟨A5, c5, rfl, -, -, -, -, -⟩ := q1.shape
 have cc := xSum_any A5 ([1, UInt8.ofNat k] ++ l) (2 + n) c5 w5 (by have := HN.out; simp; omega) q1.rdD.1 q1.rdD.2.2 (by omega)
 rw [HD.out] at cc
 have i2 := h1.keep_nil fa
 have FZ := Lib.hid (f1.trans_nil fa)
 clear fa q1 q2 q3 q4 h1 f1
 refine cc.mono ?_
 rintro e w3 ⟨rfl, f3⟩
 have i3 := i2.keep_nil f3
 have F3 := FZ.out.trans_nil f3
 clear i2 f3 cc
 go_wp2_with (first | (refine wpList_stB stA32 rfl rfl g1 rfl (bvs D) rfl (by rw [bvs_length, HDL.out]) (bvs_one _) (bvs (zB 32)) rfl i3 ?_; intro wc hc fc zc; clear zc))
 try simp only [Exit.inBlock, Exit.then]
 refine bodyPost_ret (results_cell stA32 rfl rfl (by rw [bvs_length, HDL.out]) hc) rfl ?_
 exact ⟨rfl, F3.trans fc (fun i hi => .inr (by have := HG1.out; simp at hi; omega))⟩
set_option maxHeartbeats 1000000 in
theorem xtTop_any (m k : Nat) (hm : m ≤ 4096) (hk : k ≤ 200) (A : Option Addr) (l : List UInt8) (n c : Nat) (w : World) (hn : l.length = n) (hr : Rd w A (bvs l)) (hA : A = none → n = 0) (hN : n ≤ 70368744177664) :
  Calls Tryz.prog 53 #[.int .i64 m, .int .i64 k, .slice A n c] w fun e w' => e = .returned (.agg (bvs (rootH m (UInt8.ofNat k) l)).toArray) ∧ Fr [] w w' := by
 have HN := Lib.hid hn
 obtain ⟨N, hNN⟩ : ∃ N, nodeH (UInt8.ofNat k) l = N := ⟨_, rfl⟩
 have hNL : N.length = 32 := by rw [← hNN]; exact shaSum_length _
 have hD : shaSum ([2, UInt8.ofNat m, UInt8.ofNat (m / 256), UInt8.ofNat (m / 65536), UInt8.ofNat (m / 16777216)] ++ N) = rootH m (UInt8.ofNat k) l := by rw [← hNN]; simp [rootH]
 have hDL : (rootH m (UInt8.ofNat k) l).length = 32 := shaSum_length _
 obtain ⟨D, hDD⟩ : ∃ D, rootH m (UInt8.ofNat k) l = D := ⟨_, rfl⟩
 rw [hDD] at hD hDL ⊢
 have HD := Lib.hid hD
 have HDL := Lib.hid hDL
 have HNL := Lib.hid hNL
 clear hD hDL hDD hNL
 have cn := fun w1 (f : Fr [] w w1) => xtNode_any k hk A l n c w1 HN.out (hr.keep_nil f) hA hN
 rw [hNN] at cn
 have CN := Lib.hid cn
 have HCC := Lib.hid (root_head (m := m) (by omega))
 clear hn hr hA hNN cn
 go_enter Tryz.func53, Tryz.ntmps53
 go_wp2_with
  (first
   | (refine wpList_alS stA32 (o := ⟨some 6, _, _, _, _, _⟩) rfl rfl ?_; intro w1 h1 f1 z1; have Z1 := Lib.hid z1; clear z1; obtain ⟨g1, hg1⟩ : ∃ g1, w.heap.size = g1 := ⟨_, rfl⟩; rw [hg1] at h1; rw [hg1]; have HG1 := Lib.hid hg1; clear hg1)
   | fail)
 refine (CN.out w1 f1).mono ?_
 rintro e w2 ⟨rfl, f2⟩
 have F2 := f1.trans_nil f2
 have i2 := h1.keep_nil f2
 clear f1 f2 h1
 go_upto_region 2 with
  (first
   | (refine wpList_alS stA32 (o := ⟨some 7, _, _, _, _, _⟩) rfl rfl ?_; intro w3 h3 f3 z3; have Z3 := Lib.hid z3; clear z3; obtain ⟨g3, hg3⟩ : ∃ g3, w2.heap.size = g3 := ⟨_, rfl⟩; rw [hg3] at h3; rw [hg3]; have HG3 := Lib.hid hg3; clear hg3)
   | (refine wpList_stB stA32 rfl rfl g3 rfl (bvs N) rfl (by rw [bvs_length, HNL.out]) (bvs_one _) (bvs (zB 32)) rfl h3 ?_; intro w4 h4 f4 z4; have Z4 := Lib.hid z4; clear z4))
 have f5 : Fr [] w2 w4 := f3.trans f4 (fun i hi => .inr (by have := HG3.out; simp at hi; omega))
 have i4 := i2.keep_nil f5
 have F4 := F2.trans_nil f5
 have rN : Rd w4 (some ⟨g3, 0, none⟩) (bvs N) := Rd.of_blk h4 0 _ (fun j u hu => by rw [Nat.zero_add]; simpa using hu)
 have rw0 : ∀ cs : Array Value, cs.toList = bvs [2, UInt8.ofNat m, UInt8.ofNat (m / 256), UInt8.ofNat (m / 65536), UInt8.ofNat (m / 16777216)] → Row (w4.alloc (.cells cs 5)) w4.heap.size 5 1 (.slice (some ⟨w4.heap.size, 0, none⟩) 5 5) 5 (bvs [2, UInt8.ofNat m, UInt8.ofNat (m / 256), UInt8.ofNat (m / 65536), UInt8.ofNat (m / 16777216)]) := fun cs h => by
  rw [← h]
  exact Row.new w4 cs 5 1 5 (0, 0) (free_zero _) (by unfold maxLen; omega) (by rw [← Array.length_toList, h]; rfl) (Nat.le_refl _)
 clear f3 f4 h3 h4 F2 i2
 go_wp2_with (at_builtin; refine wpList_app rfl rfl slB w4.heap.size _ 5 (bvs [2, UInt8.ofNat m, UInt8.ofNat (m / 256), UInt8.ofNat (m / 65536), UInt8.ofNat (m / 16777216)]) rfl (rw0 _ (congrArg Array.toList HCC.out)) (some ⟨g3, 0, none⟩) 32 32 (bvs N) rfl (by rw [bvs_length, HNL.out]) (rN.alloc _) (bvs_one _) (by simp) (by omega) (by simp) ?_; intro v5 w5 q1 q2 q3 q4)
 rw [← bvs_append] at q1
 have fa : Fr [] w4 w5 := ((Fr.refl [] w4).alloc _).trans q2 (fun i hi => by rw [own_mem.1 hi]; exact .inr (Nat.le_refl _))
 obtain ⟨A5, c5, rfl, -, -, -, -, -⟩ := q1.shape
 have cc := xSum_any A5 ([2, UInt8.ofNat m, UInt8.ofNat (m / 256), UInt8.ofNat (m / 65536), UInt8.ofNat (m / 16777216)] ++ N) (5 + 32) c5 w5 (by have := HNL.out; simp; omega) q1.rdD.1 q1.rdD.2.2 (by omega)
 rw [HD.out] at cc
 have i5 := i4.keep_nil fa
 have FZ := Lib.hid (F4.trans_nil fa)
 clear fa q1 q2 q3 q4 i4 F4 rN rw0
 refine cc.mono ?_
 rintro e w6 ⟨rfl, f6⟩
 have i3 := i5.keep_nil f6
 have F3 := FZ.out.trans_nil f6
 clear i5 f6 cc
 go_wp2_with (first | (refine wpList_stB stA32 rfl rfl g1 rfl (bvs D) rfl (by rw [bvs_length, HDL.out]) (bvs_one _) (bvs (zB 32)) rfl i3 ?_; intro wc hc fc zc; clear zc))
 try simp only [Exit.inBlock, Exit.then]
 refine bodyPost_ret (results_cell stA32 rfl rfl (by rw [bvs_length, HDL.out]) hc) rfl ?_
 exact ⟨rfl, F3.trans fc (fun i hi => .inr (by have := HG1.out; simp at hi; omega))⟩
end
section
open Go.RowKit
set_option maxRecDepth 100000
structure PathW (w : World) (A : Option Addr) (m c : Nat) (vs : List Value) (n : Nat) (path : List (List UInt8)) : Prop where
 rd : BRd w A vs path
 len : path.length = m
 c : m ≤ c
 lev : (levsN n).length = m
 l5 : ∀ b ∈ path, b.length = 512
 n : 1 ≤ n ∧ n ≤ 128
section
variable {w w' : World} {A : Option Addr} {m c n : Nat} {vs : List Value} {path : List (List UInt8)}
theorem PathW.keep_nil (h : PathW w A m c vs n path) (f : Fr [] w w') : PathW w' A m c vs n path := ⟨h.rd.keep_nil f, h.len, h.c, h.lev, h.l5, h.n⟩
theorem PathW.mb (h : PathW w A m c vs n path) : 1 ≤ m ∧ m ≤ 2 := by
 have := h.lev
 rw [levsN_len] at this
 split at this <;> omega
theorem PathW.at (h : PathW w A m c vs n path) {k : Nat} (hk : k < m) : ∃ g o g2 o2 c2, A = some ⟨g, o, none⟩ ∧ w.cell? ⟨g, o + k, none⟩ = some (.slice (some ⟨g2, o2, none⟩) 512 c2) ∧ 512 ≤ c2 ∧ Rd w (some ⟨g2, o2, none⟩) (bvs (path.getD k [])) ∧ (path.getD k []).length = 512 ∧ g2 < w.heap.size := by
 have hl := h.len
 have hv := h.rd.len
 have hkp : k < path.length := by omega
 have hkv : k < vs.length := by omega
 obtain ⟨g, o, e, hc⟩ := h.rd.rd (by intro h0; rw [h0] at hkv; simp at hkv)
 have ck := hc k _ (List.getElem?_eq_getElem hkv)
 obtain ⟨A2, c2, hv2, r2, n2, hc2⟩ := h.rd.each k hkv hkp
 have h5 := h.l5 _ (List.getElem_mem hkp)
 have eg : path.getD k [] = path[k] := by rw [List.getD_eq_getElem?_getD, List.getElem?_eq_getElem hkp]; rfl
 rw [h5] at hv2 n2 hc2
 obtain ⟨g2, o2, rfl, -⟩ := r2 (by intro h0; have := congrArg List.length h0; rw [bvs_length, h5] at this; cases this)
 rw [hv2] at ck
 obtain ⟨g3, o3, e3, hlt⟩ := r2.lt (by intro h0; have := congrArg List.length h0; rw [bvs_length, h5] at this; cases this)
 cases e3
 exact ⟨g, o, g2, o2, c2, e, ck, hc2, by rw [eg]; exact r2, by rw [eg]; exact h5, hlt⟩
theorem trRight1_any (A : Option Addr) (c : Nat) (w : World) : Calls Tryz.prog 134 #[.slice A 512 c] w fun e w' => e = .returned (.bool false) ∧ w = w' := by
 go_enter Tryz.func134, Tryz.ntmps134
 go_wp2_with fail
 go_ret
 exact ⟨rfl, rfl⟩
set_option maxHeartbeats 1000000 in
theorem trIndex_any (h : PathW w A m c vs n path) :
  Calls Tryz.prog 185 #[.slice A m c, .func (.func 134) #[] #[]] w fun e w' => e = .returned (.int .i64 (-1)) ∧ w = w' := by
 have hm := h.mb
 have HH := Lib.hid h
 clear h
 go_enter Tryz.func185, Tryz.ntmps185
 go_wp2_with fail
 go_loop [8] (fun i => ∃ k : Nat, k ≤ m ∧ i = .int .i64 k) (fun i => m - (intOf i).toNat)
 case atStart => exact ⟨0, Nat.zero_le _, rfl⟩
 case round =>
  obtain ⟨k, hk, rfl⟩ := hrel
  by_cases hlt : k < m
  ·obtain ⟨g, o, g2, o2, c2, rfl, ck, -⟩ := HH.out.at hlt
   go_wp2_with fail
   refine (trRight1_any _ _ _).mono ?_
   rintro e w1 ⟨rfl, rfl⟩
   go_wp2_with fail
   exact ⟨⟨k + 1, by omega, by go_num⟩, by simp [intOf]; omega⟩
  ·go_wp2_with fail
   go_ret
   exact ⟨rfl, rfl⟩
set_option maxHeartbeats 1000000 in
theorem trContains_any (h : PathW w A m c vs n path) :
  Calls Tryz.prog 133 #[.slice A m c, .func (.func 134) #[] #[]] w fun e w' => e = .returned (.bool false) ∧ w = w' := by
 go_enter Tryz.func133, Tryz.ntmps133
 go_wp2_with fail
 refine (trIndex_any h).mono ?_
 rintro e w1 ⟨rfl, rfl⟩
 go_wp2_with fail
 go_ret
 exact ⟨rfl, rfl⟩
set_option maxHeartbeats 1000000 in
theorem trRight_any (h : PathW w A m c vs n path) :
  Calls Tryz.prog 81 #[.int .i64 n, .slice A m c] w fun e w' => e = .returned (.bool true) ∧ Fr [] w w' := by
 have c0 := trIsCount_any n w (by have := h.n; omega)
 have c1 := trLevels_any n w h.n
 unfold LevC at c1
 rw [h.lev] at c1
 have hm := h.mb
 have HH := Lib.hid h
 clear h
 go_enter Tryz.func81, Tryz.ntmps81
 go_wp2_with fail
 refine c0.mono ?_
 rintro e w1 ⟨rfl, rfl⟩
 go_wp2_with fail
 refine c1.mono ?_
 rintro e w2 ⟨v, rfl, r, f⟩
 obtain ⟨A2, c2, rfl, -, -, -, -, -⟩ := r.shape
 clear c0 c1 r
 go_wp2_with fail
 refine (trContains_any (HH.out.keep_nil f)).mono ?_
 rintro e w3 ⟨rfl, rfl⟩
 go_wp2_with fail
 go_ret
 exact ⟨rfl, f⟩
theorem PathW.last (h : PathW w A m c vs n path) : rootP n path = rootH n (UInt8.ofNat (m - 1)) (path.getD (m - 1) []) := by rw [rootP, h.len]
def RootC (w : World) (n : Nat) (path : List (List UInt8)) (e : Ending) (w' : World) : Prop := e = .returned (.tuple #[.agg (bvs (rootP n path)).toArray, .int .i64 0]) ∧ Fr [] w w'
theorem rootP_len (n : Nat) (path : List (List UInt8)) : (rootP n path).length = 32 := shaSum_length _
set_option maxHeartbeats 1000000 in
theorem trRootP_any (h : PathW w A m c vs n path) (hK : KG w) :
  Calls Tryz.prog 85 #[.int .i64 n, .slice A m c] w (RootC w n path) := by
 have hm := h.mb
 have HL := Lib.hid h.last
 have HRL := Lib.hid (rootP_len n path)
 have HH := Lib.hid h
 obtain ⟨q, rfl⟩ : ∃ q, m = q + 1 := ⟨m - 1, by omega⟩
 obtain ⟨D, hD⟩ : ∃ D, rootP n path = D := ⟨_, rfl⟩
 rw [hD] at HL HRL
 have HDD := Lib.hid hD
 have cr := fun w1 (f : Fr [] w w1) => trRight_any (h.keep_nil f)
 have CR := Lib.hid cr
 clear h hD cr
 go_enter Tryz.func85, Tryz.ntmps85
 go_wp2_with
  (first
   | (refine wpList_alS stA32 (o := ⟨some 4, _, _, _, _, _⟩) rfl rfl ?_; intro w1 h1 f1 z1; have Z1 := Lib.hid z1; clear z1; obtain ⟨g1, hg1⟩ : ∃ g1, w.heap.size = g1 := ⟨_, rfl⟩; rw [hg1] at h1; rw [hg1]; have HG1 := Lib.hid hg1; clear hg1)
   | fail)
 refine (CR.out w1 f1).mono ?_
 rintro e w2 ⟨rfl, f2⟩
 have F2 := f1.trans_nil f2
 have i2 := h1.keep_nil f2
 obtain ⟨g, o, gb, ob, cb, rfl, ck, hcb, rb, lb, -⟩ := (HH.out.keep_nil F2).at (k := q) (by omega)
 have cc := trRoot_any n q (by have := HH.out.n; omega) (by omega) (some ⟨gb, ob, none⟩) _ 512 cb w2 lb rb (by simp) hcb (by omega) (hK.keep F2)
 rw [show rootH n (UInt8.ofNat q) (path.getD q []) = D from HL.out.symm] at cc
 clear f1 f2 h1 rb lb
 go_wp2_with fail
 refine cc.mono ?_
 rintro e w3 ⟨rfl, f3⟩
 have i3 := i2.keep_nil f3
 have F3 := F2.trans_nil f3
 clear cc i2 f3 F2 ck
 go_wp2_with (first | (refine wpList_stB stA32 rfl rfl g1 rfl (bvs D) rfl (by rw [bvs_length, HRL.out]) (bvs_one _) (bvs (zB 32)) rfl i3 ?_; intro wc hc fc zc; clear zc))
 try simp only [Exit.inBlock, Exit.then]
 refine bodyPost_ret (results_cell2 stA32 rfl rfl (by rw [bvs_length, HRL.out]) hc) rfl ?_
 exact ⟨by rw [HDD.out]; rfl, F3.trans fc (fun i hi => .inr (by have := HG1.out; simp at hi; omega))⟩
end
end
end Go.Proofs.YtbanogfljpkbkaaGreatDoor
