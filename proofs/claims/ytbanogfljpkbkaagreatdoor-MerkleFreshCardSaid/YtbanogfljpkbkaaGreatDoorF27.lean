/-
  Texts of this claim, one behind the other: JnE, JnF.
-/
import Derived.Test.YtbanogfljpkbkaaGreatDoorF26
import Derived.Test.YtbanogfljpkbkaaGreatDoorF21
import Derived.Test.YtbanogfljpkbkaaGreatDoorF4
set_option linter.unusedSimpArgs false
set_option linter.unusedVariables false
set_option linter.unnecessarySimpa false
namespace Go.Proofs.YtbanogfljpkbkaaGreatDoor
section
open Go.RowKit
set_option maxRecDepth 100000
def areaK (D : DkM) (J : JrM) (k : Nat) : List (List UInt8) := (List.range k).map fun i => D.readR (J.first + 1 + (i : Nat))
theorem areaK_succ (D : DkM) (J : JrM) (k : Nat) : areaK D J (k + 1) = areaK D J k ++ [D.readR (J.first + 1 + (k : Nat))] := by simp [areaK, List.range_succ]
theorem areaK_len (D : DkM) (J : JrM) (k : Nat) : (areaK D J k).length = k := by simp [areaK]
def AreaC (w : World) (g p : Nat) (J : JrM) (D : DkM) (e : Ending) (w' : World) : Prop :=
 Fr [g] w w' ∧ ((D.off = true ∧ e = .returned (.tuple #[.slice none 0 0, .int .i64 102])) ∨ (D.off = false ∧ rmV (D.readR J.first) = none ∧ e = .returned (.tuple #[.slice none 0 0, .int .i64 110])) ∨
  ∃ m v vs, D.off = false ∧ rmV (D.readR J.first) = some m ∧ e = .returned (.tuple #[v, .int .i64 0]) ∧ BRow w' w.heap.size v vs (areaK D J (J.count.toNat - 1)) ∧ Jr w' g p { J with num := m })
section
variable {w w' : World} {g p : Nat} {O : List Nat} {J : JrM} {D : DkM}
theorem Dsk.readR_len (h : Dsk w p O D) {x : Int} (hx : D.is x = true) (ho : D.off = false) : (D.readR x).length = 512 := by
 obtain ⟨X, h⟩ := h
 have hi := DkM.is_iff.1 hx
 rw [DkM.readR, if_neg (by simp [hx]), if_neg (by simp [ho])]
 cases hu : (D.uns x).getLast? with
 | some b =>
  have hb : b ∈ D.uns x := List.mem_of_getLast? hu
  cases hf : X.f x with
  | none => rw [(h.iff x).1 hf] at hb; cases hb
  | some v =>
   obtain ⟨⟨us, r, e⟩, -⟩ := h.un x v hf
   obtain ⟨i, hi2, rfl⟩ := List.getElem_of_mem hb
   exact (e i (by have := r.1; omega) hi2).1
 | none =>
  show (D.sureR x).length = 512
  rw [DkM.sureR, if_pos hx]
  have hlt : x.toNat < D.sure.length := by omega
  have hs := h.su x.toNat (by have := h.row.1; omega) hlt
  rw [List.getD_eq_getElem?_getD, List.getElem?_eq_getElem hlt]
  cases he : D.sure[x.toNat] with
  | none => exact zB512_len
  | some l =>
   rw [he] at hs
   exact hs.1
theorem jRight_is {D : DkM} {x y : Int} (h : jRight D x y = true) {k : Int} (h0 : 0 ≤ k) (hk : k < y) : D.is (x + k) = true := by
 simp only [jRight, Bool.and_eq_true, decide_eq_true_eq] at h
 exact DkM.is_iff.2 (by omega)
set_option maxHeartbeats 2000000 in
theorem jnBlocks_any (h : Dsk w p O D) (hj : Jr w g p J) (hg : g ∉ O) (ok : J.ok) (hr : jRight D J.first J.count = true) (hK : KG w) :
  Calls Tryz.prog 118 #[.pointer (some ⟨g, 0, none⟩)] w (AreaC w g p J D) := by
 have hc := ok.c
 have hf := ok.f
 obtain ⟨N, hN⟩ : ∃ N : Nat, J.count = N := ⟨J.count.toNat, by omega⟩
 have c2 : w.cell? ⟨g, 2, none⟩ = some (.int .i64 N) := by rw [← hN]; exact Blk.cell hj 2
 have HN := Lib.hid hN
 have HH := Lib.hid h
 have HJ := Lib.hid hj
 have HR := Lib.hid hr
 have hgl := hj.lt
 have g8 : NoTy w [g] 5 := fun i hi cs fz => by rw [List.mem_singleton.1 hi]; unfold Jr Blk at hj; rw [hj]; intro e; cases e
 have gB : NoTy w [g] 27 := fun i hi cs fz => by rw [List.mem_singleton.1 hi]; unfold Jr Blk at hj; rw [hj]; intro e; cases e
 have G8 := Lib.hid (And.intro g8 gB)
 have g0 : g ≠ 0 := fun e => by
  subst e
  have e1 := hK 0 _ rfl
  have e2 : w.cell? ⟨0, 0, none⟩ = some (.pointer (some ⟨p, 0, none⟩)) := Blk.cell hj 0
  rw [e2] at e1
  cases e1
 have HG0 := Lib.hid g0
 rw [hN] at hc
 clear h hj hr hN g8 gB g0
 go_enter Tryz.func118, Tryz.ntmps118
 go_wp2_with fail
 go_loopw [4, 12] (fun v i wr => ∃ k : Nat, k ≤ N ∧ i = .int .i64 k ∧ Fr [g] w wr ∧ ((k = 0 ∧ v = .slice none 0 0 ∧ Jr wr g p J) ∨ (0 < k ∧ ∃ m, rmV (D.readR J.first) = some m ∧ D.off = false ∧ Jr wr g p { J with num := m } ∧ ∃ vs, BRow wr w.heap.size v vs (areaK D J (k - 1))))) (fun _ i _ => N - (intOf i).toNat)
 case atStart => exact ⟨0, by omega, rfl, Fr.refl _ _, .inl ⟨rfl, rfl, HJ.out⟩⟩
 case round =>
  obtain ⟨k, hkN, rfl, fr, hv⟩ := hrel
  by_cases hlt : k < N
  ·have d0 : (k : Int) < N := by omega
   have hjx : wr.cell? ⟨g, 0, none⟩ = some (.pointer (some ⟨p, 0, none⟩)) ∧ wr.cell? ⟨g, 1, none⟩ = some (.int .i64 J.first) := by
    rcases hv with ⟨-, -, hj⟩ | ⟨-, m, -, -, hj, -⟩
    ·exact ⟨Blk.cell hj 0, Blk.cell hj 1⟩
    ·exact ⟨Blk.cell hj 0, Blk.cell hj 1⟩
   obtain ⟨wD, hwD⟩ : ∃ wD, wr.drew = wD := ⟨_, rfl⟩
   have fD : Fr [] wr wD := by rw [← hwD]; exact (Fr.refl [] _).drew
   have hd := HH.out.keep (fr.trans_nil fD) (fun i hi hm => hg (by rw [← List.mem_singleton.1 hm]; exact hi)) G8.out.1
   have cr := dkRead_any hd (J.first + k)
   have his := jRight_is HR.out (k := (k : Int)) (by omega) (by rw [HN.out]; omega)
   obtain ⟨z, hz⟩ : ∃ z, D.readE (J.first + k) = z := ⟨_, rfl⟩
   have HZ := Lib.hid (show z = if D.off = true then 102 else 0 by rw [← hz, DkM.readE, his, if_neg (by simp)])
   obtain ⟨l, hl⟩ : ∃ l, D.readR (J.first + k) = l := ⟨_, rfl⟩
   rw [hz, hl] at cr
   have HL := Lib.hid hl
   have HIS := Lib.hid his
   have e1 : IntKind.i64.wrap (J.first + (k : Int)) = J.first + k := IntWalk.i64_in _ (by omega)
   have HV := Lib.hid hv
   have HF := Lib.hid (And.intro fr fD)
   have hjD : wD.cell? ⟨g, 0, none⟩ = some (.pointer (some ⟨p, 0, none⟩)) ∧ wD.cell? ⟨g, 1, none⟩ = some (.int .i64 J.first) := ⟨fD.cell (by simp) hjx.1, fD.cell (by simp) hjx.2⟩
   clear hv fr fD hd hz hl his hjx
   go_upto_region 5 with fail
   refine wp_region_held_drew (S := fun w' => w'.cell? ⟨g, 0, none⟩ = some (.pointer (some ⟨p, 0, none⟩)) ∧ w'.cell? ⟨g, 1, none⟩ = some (.int .i64 J.first)) (by kernel_rfl) (by rw [hwD]; exact hjD) (fun hHeld => ?_)
   rw [hwD] at hHeld ⊢
   clear hjD hwD
   refine tw 0 16 hHeld ?_
   refine tw 1 17 hHeld ?_
   refine tw 2 18 hHeld ?_
   refine tw 3 19 hHeld ?_
   refine tw 4 20 hHeld ?_
   refine tw 5 21 hHeld ?_
   refine tw 6 22 hHeld ?_
   refine tw 7 23 hHeld ?_
   refine tw 8 24 hHeld ?_
   refine tw 9 25 hHeld ?_
   refine tc 10 (fun K hK => ?_)
   go_simp
   refine cr.mono ?_
   rintro e w5 ⟨v5, rfl, r5, f5⟩
   have hHx : w5.cell? ⟨g, 0, none⟩ = some (.pointer (some ⟨p, 0, none⟩)) ∧ w5.cell? ⟨g, 1, none⟩ = some (.int .i64 J.first) := ⟨f5.cell (by simp) hHeld.1, f5.cell (by simp) hHeld.2⟩
   refine hK.out _ _ hHx (fun hHy => ?_)
   clear hK cr hHeld hHy
   have hHeld := hHx
   clear hHx
   try simp only [Act.put, p1, p2, p3]
   refine tw 11 15 hHeld ?_
   refine tw 12 27 hHeld ?_
   refine tw 13 28 hHeld ?_
   refine tw 14 6 hHeld ?_
   refine tw 15 7 hHeld ?_
   refine wpAnyH_done (by kernel_rfl) ?_ _
   clear hHeld
   obtain ⟨A5, c5, rfl, hnc, hcm, -, -, -⟩ := r5.shape
   obtain ⟨n5, hn5⟩ : ∃ n5, l.length = n5 := ⟨_, rfl⟩
   rw [hn5] at r5 hnc ⊢
   have F5 := HF.out.1.trans_nil (HF.out.2.trans_nil f5)
   have R5 := Lib.hid (r5.mono (HF.out.1.trans_nil HF.out.2).size)
   have HF5 := Lib.hid (And.intro F5 f5)
   have HN5 := Lib.hid hn5
   have HLN := Lib.hid (show D.off = false → n5 = 512 from fun ho => by rw [← hn5, ← HL.out]; exact HH.out.readR_len HIS.out ho)
   clear r5 F5 f5 hn5
   cases ho : D.off with
   | true =>
    have HO := Lib.hid ho
    have hz : z = 102 := by rw [HZ.out, ho]; rfl
    subst hz
    clear ho
    go_wp2_with fail
    go_ret2
    exact ⟨HF5.out.1, .inl ⟨HO.out, rfl⟩⟩
   | false =>
    have HO := Lib.hid ho
    have hz : z = 0 := by rw [HZ.out, ho]; rfl
    subst hz
    clear ho
    by_cases hk0 : k = 0
    ·subst hk0
     have hjr : u4 = .slice none 0 0 ∧ Jr w5 g p J := by
      rcases HV.out with ⟨-, h4, hj⟩ | ⟨h0, -⟩
      ·exact ⟨h4, (hj.keep_nil HF.out.2).keep_nil HF5.out.2⟩
      ·omega
     obtain ⟨rfl, hjr⟩ := hjr
     have HLL := Lib.hid (show D.readR J.first = l by have := HL.out; rwa [show J.first + ((0 : Nat) : Int) = J.first by omega] at this)
     have cc := rcReadMark_any w5 A5 l n5 c5 HN5.out R5.out.rdD.1 R5.out.rdD.2.2 (by have := HLN.out HO.out; omega) (hK.keepO HF5.out.1 (fun hm => HG0.out (List.mem_singleton.1 hm).symm))
     unfold RmC at cc
     have HJR := Lib.hid hjr
     clear hjr
     cases hm : rmV l with
     | none =>
      have HM := Lib.hid hm
      rw [hm] at cc
      replace cc : Calls Tryz.prog 171 #[.slice A5 n5 c5] w5 fun e w' => e = .returned (.tuple #[.int .u64 0, .int .i64 110]) ∧ Fr [] w5 w' := cc
      clear hm
      go_wp2_with fail
      refine cc.mono ?_
      rintro e w6 ⟨rfl, f6⟩
      have j3 : w6.cell? ⟨g, 3, none⟩ = some (.int .u64 (J.num : Int)) := Blk.cell (HJR.out.keep_nil f6) 3
      have z3 := Blk.frozen (HJR.out.keep_nil f6) 3
      have HF6 := Lib.hid (HF5.out.1.trans_nil f6)
      clear cc f6
      go_wp2_with fail
      go_ret2
      exact ⟨HF6.out.setCell (.inl (by simp)) _, .inr (.inl ⟨HO.out, by rw [HLL.out]; exact HM.out, rfl⟩)⟩
     | some m =>
      have HM := Lib.hid hm
      rw [hm] at cc
      replace cc : Calls Tryz.prog 171 #[.slice A5 n5 c5] w5 fun e w' => e = .returned (.tuple #[.int .u64 (m : Int), .int .i64 0]) ∧ Fr [] w5 w' := cc
      clear hm
      go_wp2_with fail
      refine cc.mono ?_
      rintro e w6 ⟨rfl, f6⟩
      have j3 : w6.cell? ⟨g, 3, none⟩ = some (.int .u64 (J.num : Int)) := Blk.cell (HJR.out.keep_nil f6) 3
      have z3 := Blk.frozen (HJR.out.keep_nil f6) 3
      have HF6 := Lib.hid (HF5.out.1.trans_nil f6)
      have HJ6 := Lib.hid (Blk.set_ (HJR.out.keep_nil f6) 3 (.int .u64 (m : Int)))
      clear cc f6
      go_wp2_with fail
      exact ⟨⟨1, by omega, rfl, HF6.out.setCell (.inl (by simp)) _, .inr ⟨by omega, m, by rw [HLL.out]; exact HM.out, HO.out, HJ6.out, [], BRow.nil _ _⟩⟩, by simp [intOf]; omega⟩
    ·obtain ⟨j, rfl⟩ : ∃ j, k = j + 1 := ⟨k - 1, by omega⟩
     rcases HV.out with ⟨h0, -⟩ | ⟨-, m, hm, ho, hj, vs, hb⟩
     ·omega
     rw [Nat.add_sub_cancel] at hb
     replace hb := (hb.keep_nil HF.out.2).keep_nil HF5.out.2
     obtain ⟨A7, c7, rfl, -, hcm7, -, -, -⟩ := hb.row.shape
     have r7 := hb.row
     rw [areaK_len] at r7
     have HMM := Lib.hid (And.intro hm (And.intro ho ((hj.keep_nil HF.out.2).keep_nil HF5.out.2)))
     rw [areaK_len] at hb
     have HBB := Lib.hid hb
     have HLL := Lib.hid (show D.readR (J.first + 1 + (j : Nat)) = l by have := HL.out; rwa [show J.first + ((j + 1 : Nat) : Int) = J.first + 1 + (j : Nat) by omega] at this)
     rw [areaK_len]
     have hw5 := HF5.out.1.size
     clear hm ho hj hb
     go_wp2_with (at_builtin; refine wpList_app rfl rfl slBB w.heap.size _ j vs rfl (r7.alloc _) _ 1 1 [_] rfl rfl (Rd.one _ _ _) (by intro u hu; rw [List.mem_singleton.1 hu]; rfl) (fun h => by cases h) (by omega) (by simp; omega) ?_; intro v7 wx q1 q2 q3 q4)
     replace q2 : Fr (Value.slice A7 j c7).ownBlock.toList (w5.alloc (.cells #[.slice A5 n5 c5] 27)) wx := q2
     have fa : Fr [] w5 (w5.alloc (.cells #[.slice A5 n5 c5] 27)) := (Fr.refl [] w5).alloc _
     have R7b := (HBB.out.keep_nil fa).snoc (b := l) (by rw [HN5.out]; exact R5.out.keep_nil fa) q2 (by rw [areaK_len]; exact q1)
     rw [← HLL.out, ← areaK_succ] at R7b
     exact ⟨⟨j + 1 + 1, by omega, by go_num, (HF5.out.1.trans_nil fa).trans q2 (fun i hi => .inr (r7.lt i (mem_own.1 hi)).1), .inr ⟨by omega, m, HMM.out.1, HMM.out.2.1, (HMM.out.2.2.keep_nil fa).keep q2 (fun hm => by have := (r7.lt g (mem_own.1 hm)).1; omega), _, by rw [Nat.add_sub_cancel]; exact R7b⟩⟩, by simp [intOf]; omega⟩
  ·obtain rfl : k = N := by omega
   have d0 : ¬ ((k : Int) < k) := by omega
   rcases hv with ⟨h0, -⟩ | ⟨-, m, hm, ho, hjm, vs, hb⟩
   ·omega
   have HP := Lib.hid (And.intro fr (And.intro hm (And.intro ho (And.intro hjm hb))))
   clear fr hm ho hjm hb
   go_wp2_with fail
   go_ret2
   refine ⟨HP.out.1, .inr (.inr ⟨m, _, vs, HP.out.2.2.1, HP.out.2.1, rfl, ?_, HP.out.2.2.2.1⟩)⟩
   rw [HN.out]
   exact HP.out.2.2.2.2
end
end
section
open Go.RowKit
set_option maxRecDepth 100000
def scanJ (n : Int) (J : JrM) : Nat → Nat → List (List UInt8) → List (Int × List UInt8) × Nat × Nat
 | 0, m, _ => ([], 0, m)
 | f + 1, m, bs => match trV m bs with
  | none => ([], 0, m)
  | some rs => if jMay n J rs then (rs ++ (scanJ n J f ((m + 1) % 18446744073709551616) (bs.drop (rs.length + 2))).1, rs.length + 2 + (scanJ n J f ((m + 1) % 18446744073709551616) (bs.drop (rs.length + 2))).2.1, (scanJ n J f ((m + 1) % 18446744073709551616) (bs.drop (rs.length + 2))).2.2) else ([], 0, m)
theorem rmV_lt {l : List UInt8} {m : Nat} (h : rmV l = some m) : m < 18446744073709551616 := by
 unfold rmV at h
 split at h
 ·cases h; exact numR_lt l
 ·cases h
theorem BRow.mono {w : World} {B B' : Nat} {v : Value} {vs : List Value} {bs : List (List UInt8)} (h : BRow w B v vs bs) (hB : B' ≤ B) : BRow w B' v vs bs := ⟨h.row.mono hB, fun i h1 h2 => (h.each i h1 h2).mono hB⟩
theorem BRow.keepT {w w' : World} {F : List Nat} {B : Nat} {v : Value} {vs : List Value} {bs : List (List UInt8)} (h : BRow w B v vs bs) (f : Fr F w w') (h1 : NoTy w F 27) (h2 : NoTy w F 5) : BRow w' B v vs bs := ⟨h.row.keepT f h1, fun i a b => (h.each i a b).keepT f h2⟩
theorem BRd.cut {w : World} {A : Option Addr} {vs : List Value} {bs : List (List UInt8)} (h : BRd w A vs bs) (k cap : Nat) (hc : vs.length ≤ cap) : BRd w (if cap = k then A else A.map (·.add k)) (vs.drop k) (bs.drop k) :=
 ⟨h.rd.cut k cap hc, by rw [List.length_drop, List.length_drop, h.len], fun i a b => by rw [List.getElem_drop, List.getElem_drop]; exact h.each _ _ _⟩
theorem Jr.noTy {w : World} {g p : Nat} {J : JrM} (h : Jr w g p J) {e : TypeId} (he : 169 ≠ e) : NoTy w [g] e := fun i hi cs fz => by
 rw [List.mem_singleton.1 hi]
 unfold Jr Blk at h
 rw [h]
 intro e1
 cases e1
 exact he rfl
theorem RRow.app {w w' : World} {B : Nat} {v v' v2 : Value} {ps qs : List (Int × Value)} {rs ss : List (Int × List UInt8)} (h : RRow w B v ps rs) (h2 : RRow w B v2 qs ss) (f : Fr v.ownBlock.toList w w') (hr : Row w' B 104 2 v' (rs.length + ss.length) (rcells ps ++ rcells qs)) : RRow w' B v' (ps ++ qs) (rs ++ ss) := by
 have kp : ∀ {z : Value} {l : List UInt8}, Row w B 5 1 z l.length (bvs l) → Row w' B 5 1 z l.length (bvs l) := fun hx =>
  hx.keep f (fun g hg hm => hx.ne_rowR h.row (by decide) g hg (mem_own.1 hm))
 have hl := h.len
 have hl2 := h2.len
 refine ⟨by rw [List.length_append, rcells, List.flatMap_append]; exact hr, by rw [List.length_append, List.length_append, hl, hl2], fun i h1 h3 => ?_⟩
 by_cases hi : i < ps.length
 ·have e1 : (ps ++ qs)[i] = ps[i] := List.getElem_append_left hi
  have e2 : (rs ++ ss)[i] = rs[i] := List.getElem_append_left (by omega)
  rw [e1, e2]
  exact ⟨(h.each i hi (by omega)).1, kp (h.each i hi (by omega)).2⟩
 ·rw [List.length_append] at h1 h3
  have e1 : (ps ++ qs)[i] = qs[i - ps.length] := List.getElem_append_right (by omega)
  have e2 : (rs ++ ss)[i] = ss[i - ps.length] := by rw [List.getElem_append_right (by omega)]; congr 1; omega
  rw [e1, e2]
  exact ⟨(h2.each _ (by omega) (by omega)).1, kp (h2.each _ (by omega) (by omega)).2⟩
theorem RRow.one {w : World} {B : Nat} {v : Value} {ps : List (Int × Value)} {rs : List (Int × List UInt8)} (h : RRow w B v ps rs) : ∀ u ∈ rcells ps, u.oneCell' = true := by
 intro u hu
 obtain ⟨p, hp, hm⟩ := List.mem_flatMap.1 hu
 obtain ⟨i, hi, rfl⟩ := List.getElem_of_mem hp
 obtain ⟨A, c, e, -⟩ := (h.each i hi (by have := h.len; omega)).2.shape
 simp at hm
 rcases hm with rfl | rfl
 ·rfl
 ·rw [e]; rfl
theorem trV_nil (m : Nat) : trV m [] = none := trV_none (plV_none fun h => by have := h.1; cases this)
theorem scanJ_no {n : Int} {J : JrM} {f m : Nat} {bs : List (List UInt8)} (h : trV m bs = none) : scanJ n J f m bs = ([], 0, m) := by
 cases f with
 | zero => rfl
 | succ f => rw [scanJ, h]
theorem scanJ_bad {n : Int} {J : JrM} {f m : Nat} {bs : List (List UInt8)} {rs : List (Int × List UInt8)} (h : trV m bs = some rs) (h2 : jMay n J rs = false) : scanJ n J f m bs = ([], 0, m) := by
 cases f with
 | zero => rfl
 | succ f => rw [scanJ, h]; dsimp only; rw [if_neg (by simp [h2])]
theorem scanJ_yes {n : Int} {J : JrM} {f m : Nat} {bs : List (List UInt8)} {rs : List (Int × List UInt8)} (h : trV m bs = some rs) (h2 : jMay n J rs = true) : scanJ n J (f + 1) m bs = (rs ++ (scanJ n J f ((m + 1) % 18446744073709551616) (bs.drop (rs.length + 2))).1, rs.length + 2 + (scanJ n J f ((m + 1) % 18446744073709551616) (bs.drop (rs.length + 2))).2.1, (scanJ n J f ((m + 1) % 18446744073709551616) (bs.drop (rs.length + 2))).2.2) := by
 rw [scanJ, h]; dsimp only; rw [if_pos h2]
theorem trV_len {m : Nat} {bs : List (List UInt8)} {rs : List (Int × List UInt8)} (h : trV m bs = some rs) : rs.length + 2 ≤ bs.length := by
 cases hp : plV (bs.headD []) with
 | none => rw [trV_none hp] at h; cases h
 | some q =>
  obtain ⟨m', L, t⟩ := q
  by_cases ho : trOk m bs m' L t
  ·rw [trV_some hp ho] at h
   cases h
   have := ho.2.1
   simp
   omega
  ·rw [trV_no hp ho] at h; cases h
def openJ (x y : Int) (m u : Nat) : JrM := ⟨x, y, m, u, false, false⟩
def scanA (D : DkM) (x y : Int) (m : Nat) : List (Int × List UInt8) × Nat × Nat := scanJ D.sure.length (openJ x y 0 0) (y.toNat - 1) m (areaK D (openJ x y 0 0) (y.toNat - 1))
def OpenC (w : World) (p : Nat) (D : DkM) (x y : Int) (e : Ending) (w' : World) : Prop :=
 Fr [] w w' ∧ ((jRight D x y = false ∧ e = .returned (.tuple #[.pointer none, .slice none 0 0, .int .i64 1])) ∨
  (jRight D x y = true ∧ D.off = true ∧ e = .returned (.tuple #[.pointer none, .slice none 0 0, .int .i64 102])) ∨
  (jRight D x y = true ∧ D.off = false ∧ rmV (D.readR x) = none ∧ e = .returned (.tuple #[.pointer none, .slice none 0 0, .int .i64 110])) ∨
  ∃ m g v ps, jRight D x y = true ∧ D.off = false ∧ rmV (D.readR x) = some m ∧ e = .returned (.tuple #[.pointer (some ⟨g, 0, none⟩), v, .int .i64 0]) ∧ w.heap.size ≤ g ∧ RRow w' w.heap.size v ps (scanA D x y m).1 ∧ Jr w' g p (openJ x y (scanA D x y m).2.2 (scanA D x y m).2.1))
section
variable {w w' : World} {g p : Nat} {O : List Nat} {J : JrM} {D : DkM}
set_option maxHeartbeats 4000000 in
theorem jnOpen_any (h : Dsk w p O D) (x y : Int) (hx : wfZ x) (hK : KG w) :
  Calls Tryz.prog 70 #[.pointer (some ⟨p, 0, none⟩), .int .i64 x, .int .i64 y] w (OpenC w p D x y) := by
 have cr := jnRight_any h x y hx
 have HH := Lib.hid h
 have hlt : ∀ i ∈ O, i < w.heap.size := by obtain ⟨X, hX⟩ := h; exact hX.lt
 have hn1 : D.sure.length ≤ 4096 := by obtain ⟨X, hX⟩ := h; exact hX.n1.2
 cases hb : jRight D x y with
 | false =>
  rw [hb] at cr
  have HB := Lib.hid hb
  clear h hb
  go_enter Tryz.func70, Tryz.ntmps70
  go_wp2_with (go_at_call 64; refine cr.mono ?_; rintro e w' ⟨rfl, rfl⟩)
  refine bodyPost_ret (results_tmp3 rfl _ _ _) rfl ?_
  exact ⟨Fr.refl _ _, .inl ⟨HB.out, rfl⟩⟩
 | true =>
  rw [hb] at cr
  have hb2 := hb
  simp only [jRight, Bool.and_eq_true, decide_eq_true_eq] at hb2
  have HB := Lib.hid hb
  have kj := Blk.new w 169 #[.pointer (some ⟨p, 0, none⟩), .int .i64 x, .int .i64 y, .int .u64 0, .int .i64 0, .bool false, .bool false]
  have f1 : Fr [] w (w.alloc (.cells #[.pointer (some ⟨p, 0, none⟩), .int .i64 x, .int .i64 y, .int .u64 0, .int .i64 0, .bool false, .bool false] 169)) := (Fr.refl _ _).alloc _
  obtain ⟨w1, hw1⟩ : ∃ z, w.alloc (.cells #[.pointer (some ⟨p, 0, none⟩), .int .i64 x, .int .i64 y, .int .u64 0, .int .i64 0, .bool false, .bool false] 169) = z := ⟨_, rfl⟩
  rw [hw1] at kj f1
  have cb := jnBlocks_any (J := openJ x y 0 0) (h.keep_nil f1) (show Jr w1 w.heap.size p (openJ x y 0 0) from kj) (fun hm => by have := hlt _ hm; omega) ⟨by show 16 ≤ y ∧ y ≤ 256; omega, by show 0 ≤ x ∧ x ≤ 4096; omega, by show (0 : Nat) < _; decide, by show (0 : Int) ≤ ((0 : Nat) : Int) ∧ ((0 : Nat) : Int) ≤ 256; omega⟩ (by show jRight D x y = true; exact hb) (hK.keep f1)
  obtain ⟨g, hg⟩ : ∃ g, w.heap.size = g := ⟨_, rfl⟩
  have HG := Lib.hid hg
  rw [hg] at cb
  have F1 := Lib.hid f1
  clear h hb kj f1
  go_enter Tryz.func70, Tryz.ntmps70
  go_wp2_with (go_at_call 64; refine cr.mono ?_; rintro e w' ⟨rfl, rfl⟩)
  refine cb.mono ?_
  rintro e w2 ⟨f2, hc⟩
  have F2 := Lib.hid (F1.out.trans f2 (fun i hi => .inr (by rw [List.mem_singleton.1 hi, ← HG.out]; exact Nat.le_refl _)))
  have hw1 := F1.out.size
  rcases hc with ⟨ho, rfl⟩ | ⟨ho, hm, rfl⟩ | ⟨m, v, vs, ho, hm, rfl, hbr, hjr⟩
  ·have HO := Lib.hid ho
   clear cb f2 ho
   go_wp2_with fail
   refine bodyPost_ret (results_tmp3 rfl _ _ _) rfl ?_
   exact ⟨F2.out, .inr (.inl ⟨HB.out, HO.out, rfl⟩)⟩
  ·have HO := Lib.hid (And.intro ho hm)
   clear cb f2 ho hm
   go_wp2_with fail
   refine bodyPost_ret (results_tmp3 rfl _ _ _) rfl ?_
   exact ⟨F2.out, .inr (.inr (.inl ⟨HB.out, HO.out.1, HO.out.2, rfl⟩))⟩
  ·have HO := Lib.hid (And.intro ho hm)
   obtain ⟨B, hBB⟩ : ∃ B, areaK D (openJ x y 0 0) (y.toNat - 1) = B := ⟨_, rfl⟩
   have hBl : B.length = y.toNat - 1 := by rw [← hBB, areaK_len]
   replace hbr : BRow w2 w.heap.size v vs B := by rw [← hBB]; exact hbr.mono hw1
   have hsc : scanA D x y m = scanJ D.sure.length (openJ x y 0 0) B.length m (B.drop 0) := by rw [List.drop_zero, hBl, scanA, hBB]
   have hm64 : m < 18446744073709551616 := by
    have := rmV_lt hm
    exact this
   have HBR := Lib.hid (And.intro hbr hjr)
   have HSC := Lib.hid hsc
   have HM := Lib.hid hm64
   obtain ⟨AB, cB, rfl, -, -, -, -, -⟩ := hbr.row.shape
   have HBL := Lib.hid hBl
   clear cb f2 ho hm hbr hjr hsc hm64 hBl hBB
   obtain ⟨N, hN⟩ : ∃ N, B.length = N := ⟨_, rfl⟩
   rw [hN]
   have HN := Lib.hid hN
   clear hN
   go_wp2_with fail
   go_loopw [12] (fun v wr => ∃ out ps used num f, RRow wr w2.heap.size v ps out ∧ Jr wr g p (openJ x y num used) ∧ Fr [g] w2 wr ∧ num < 18446744073709551616 ∧ used ≤ B.length ∧ out.length ≤ used ∧ (B.drop used).length ≤ f ∧ scanA D x y m = (out ++ (scanJ D.sure.length (openJ x y 0 0) f num (B.drop used)).1, used + (scanJ D.sure.length (openJ x y 0 0) f num (B.drop used)).2.1, (scanJ D.sure.length (openJ x y 0 0) f num (B.drop used)).2.2)) (fun _ wr => B.length - (intOf ((wr.cell? ⟨g, 4, none⟩).getD undef)).toNat)
   case atStart => exact ⟨[], [], 0, m, B.length, RRow.nil _ _, HBR.out.2, Fr.refl _ _, HM.out, by omega, by simp, by simp, by rw [HSC.out]; simp⟩
   case round =>
    obtain ⟨out, ps, used, num, f, hrr, hj, fr, hnum, hus, hou, hf, htot⟩ := hrel
    have hbr := HBR.out.1.keepT fr (HBR.out.2.noTy (by decide)) (HBR.out.2.noTy (by decide))
    obtain ⟨wD, hwD⟩ : ∃ wD, wr.drew = wD := ⟨_, rfl⟩
    have fD : Fr [] wr wD := by rw [← hwD]; exact (Fr.refl [] _).drew
    have hsh := hbr.row.shape
    obtain ⟨_, _, e0, hBc, -⟩ := hsh
    cases e0
    have bd := (hbr.brd.keep_nil fD).cut used cB (by rw [hbr.vlen]; exact hBc)
    have hA0 := (hbr.row.keep_nil fD).rdD.2.2
    have hFw := F2.out.trans fr (fun i hi => .inr (by rw [List.mem_singleton.1 hi, ← HG.out]; exact Nat.le_refl _))
    have cp := rcParse_any wD _ num (B.length - used) (cB - used) _ _ hnum (by rw [List.length_drop]) bd (fun e => by
     split at e
     ·omega
     ·cases AB with
      | none => have := hA0 rfl; omega
      | some a => cases e) (by omega) (by have := HBL.out; omega) ((hK.keep hFw).keep fD)
    have hSD : wD.cell? ⟨g, 3, none⟩ = some (.int .u64 (num : Int)) ∧ wD.cell? ⟨g, 4, none⟩ = some (.int .i64 used) := ⟨fD.cell (by simp) (Blk.cell hj 3), fD.cell (by simp) (Blk.cell hj 4)⟩
    obtain ⟨A', hA'⟩ : ∃ A', (if cB = used then AB else AB.map (·.add used)) = A' := ⟨_, rfl⟩
    have hN := HN.out
    rw [hA', hN] at cp
    have HA' := Lib.hid hA'
    have HP := Lib.hid (And.intro hrr (And.intro hj (And.intro fr (And.intro fD hFw))))
    have HT := Lib.hid (And.intro htot hf)
    rw [hN] at hus hBc
    clear hN
    clear hrr hj fr fD hFw hbr bd hA0 htot hf hA'
    go_upto_region 8 with fail
    refine wp_region_held_drew (S := fun w' => w'.cell? ⟨g, 3, none⟩ = some (.int .u64 (num : Int)) ∧ w'.cell? ⟨g, 4, none⟩ = some (.int .i64 used)) (by kernel_rfl) (by rw [hwD]; exact hSD) (fun hHeld => ?_)
    rw [hwD] at hHeld ⊢
    clear hSD hwD
    refine tw 0 35 hHeld ?_
    refine tw 1 36 hHeld ?_
    refine tw 2 37 hHeld ?_
    refine tw 3 38 hHeld ?_
    refine tw 4 39 hHeld ?_
    refine tw 5 40 hHeld ?_
    refine tw 6 41 hHeld ?_
    refine tw 7 42 hHeld ?_
    refine tw 8 43 hHeld ?_
    refine tw 9 44 hHeld ?_ (v := .slice A' (N - used) (cB - used)) (hy := (fun w _ => (hy_sliceL (s := 1) Tryz.underlying42 (by kernel_rfl) rfl rfl used rfl (by omega)).trans (by rw [Nat.mul_one, HA'.out])))
    refine tc 10 (fun K hK => ?_)
    go_simp
    refine cp.mono ?_
    rintro e w5 ⟨v5, ps5, rfl, r5, f5⟩
    have hHx : w5.cell? ⟨g, 3, none⟩ = some (.int .u64 (num : Int)) ∧ w5.cell? ⟨g, 4, none⟩ = some (.int .i64 used) := ⟨f5.cell (by simp) hHeld.1, f5.cell (by simp) hHeld.2⟩
    refine hK.out _ _ hHx (fun hHy => ?_)
    clear hK cp hHeld hHy
    have hHeld := hHx
    clear hHx
    try simp only [Act.put, p1, p2, p3]
    refine tw 11 34 hHeld ?_
    refine tw 12 46 hHeld ?_
    refine tw 13 47 hHeld ?_
    refine tw 14 48 hHeld ?_
    refine tw 15 13 hHeld ?_
    refine tw 16 14 hHeld ?_
    refine tw 17 15 hHeld ?_
    refine wpAnyH_done (by kernel_rfl) ?_ _
    have HF5 := Lib.hid (And.intro f5 r5)
    have HHL := Lib.hid hHeld
    clear hHeld f5 r5
    have fin : ∀ (w' : World), Fr [] w5 w' → scanA D x y m = (out, used, num) → OpenC w p D x y (.returned (.tuple #[.pointer (some ⟨g, 0, none⟩), u12, .int .i64 0])) w' := fun w' f he => by
     have fw := HP.out.2.2.2.1.trans_nil (HF5.out.1.trans_nil f)
     refine ⟨HP.out.2.2.2.2.trans_nil fw, .inr (.inr (.inr ⟨m, g, u12, ps, HB.out, HO.out.1, HO.out.2, rfl, by rw [HG.out]; exact Nat.le_refl _, ?_, ?_⟩))⟩
     ·rw [he]; exact (HP.out.1.keep_nil fw).mono F2.out.size
     ·rw [he]; exact HP.out.2.1.keep_nil fw
    have FIN := Lib.hid fin
    clear fin
    cases ht : trV num (B.drop used) with
    | none =>
     have HTT := Lib.hid (show scanA D x y m = (out, used, num) by rw [HT.out.1, scanJ_no ht]; simp)
     rw [show trN num (B.drop used) = 0 by rw [trN, ht], show errG (none : Option (List (Int × List UInt8))).isSome 110 = 110 from rfl]
     clear ht
     go_wp2_with fail
     refine bodyPost_ret (results_tmp3 rfl _ _ _) rfl ?_
     exact FIN.out _ (Fr.refl _ _) HTT.out
    | some rs =>
     have r5 := HF5.out.2
     rw [ht] at r5
     replace r5 : RRow w5 wD.heap.size v5 ps5 rs := r5
     obtain ⟨A5, c5, rfl, -, -, -, -, -⟩ := r5.row.shape
     have fw := HP.out.2.2.2.1.trans_nil HF5.out.1
     have cm := jnMay_any (HH.out.keep_nil (HP.out.2.2.2.2.trans_nil (HP.out.2.2.2.1.trans_nil HF5.out.1))) (HP.out.2.1.keep_nil fw) ⟨by show 16 ≤ y ∧ y ≤ 256; omega, by show 0 ≤ x ∧ x ≤ 4096; omega, hnum, by show (0 : Int) ≤ ((used : Nat) : Int) ∧ ((used : Nat) : Int) ≤ 256; have := HBL.out; have := HN.out; omega⟩ (n := rs.length) (c := c5) r5.rdx rfl (by have := trV_len ht; rw [List.length_drop] at this; have := HBL.out; omega)
     replace cm : Calls Tryz.prog 120 #[.pointer (some ⟨g, 0, none⟩), .slice A5 rs.length c5] w5 fun e w' => e = .returned (.bool (jMay D.sure.length (openJ x y 0 0) rs)) ∧ Fr [] w5 w' := cm
     have HR5 := Lib.hid r5
     have HTR := Lib.hid ht
     obtain ⟨L, hL⟩ : ∃ L, rs.length = L := ⟨_, rfl⟩
     rw [show trN num (B.drop used) = L + 2 by rw [trN, ht, ← hL], show errG (some rs).isSome 110 = 0 from rfl]
     rw [hL] at cm ⊢
     have HL := Lib.hid hL
     clear r5 fw ht hL
     cases hmy : jMay D.sure.length (openJ x y 0 0) rs with
     | false =>
      have HMY := Lib.hid hmy
      rw [hmy] at cm
      have HTT := Lib.hid (show scanA D x y m = (out, used, num) by rw [HT.out.1, scanJ_bad HTR.out hmy]; simp)
      clear hmy
      go_wp2_with fail
      refine cm.mono ?_
      rintro e w6 ⟨rfl, f6⟩
      have HF6 := Lib.hid f6
      clear cm f6
      go_wp2_with fail
      refine bodyPost_ret (results_tmp3 rfl _ _ _) rfl ?_
      exact FIN.out _ HF6.out HTT.out
     | true =>
      have HMY := Lib.hid hmy
      rw [hmy] at cm
      clear hmy
      go_wp2_with fail
      refine cm.mono ?_
      rintro e w6 ⟨rfl, f6⟩
      have fw6 := HP.out.2.2.2.1.trans_nil (HF5.out.1.trans_nil f6)
      have rr := HP.out.1.keep_nil fw6
      have hj6 := HP.out.2.1.keep_nil fw6
      have r2 := (HR5.out.keep_nil f6).mono (HP.out.2.2.1.trans_nil HP.out.2.2.2.1).size
      obtain ⟨A12, c12, rfl, -, -, -, -, -⟩ := rr.row.shape
      obtain ⟨K, hK⟩ : ∃ K, out.length = K := ⟨_, rfl⟩
      have r13 := rr.row
      rw [hK] at r13 ⊢
      have hsz := (HP.out.2.2.1.trans_nil fw6).size
      have rd5 := r2.row.rdD
      have on5 := r2.one
      have hl5 : (rcells ps5).length = L * 2 := by rw [rcells_len, r2.len, HL.out]
      have HRR := Lib.hid (And.intro rr (And.intro r2 (And.intro hj6 (And.intro hK fw6))))
      have hLN : L + 2 + used ≤ N := by have := trV_len HTR.out; rw [List.length_drop, HL.out, HN.out] at this; omega
      have e4 : IntKind.i64.wrap ((used : Int) + ((L : Int) + 2)) = (used : Int) + ((L : Int) + 2) := IntWalk.i64_in _ (by have := HBL.out; rw [HN.out] at this; omega)
      have hN2 : N ≤ 255 := by have := HBL.out; rw [HN.out] at this; omega
      clear cm f6 rr r2 hj6 fw6
      go_wp2_with (at_builtin; refine wpList_app rfl rfl slR w2.heap.size _ K (rcells ps) rfl r13 A5 L c5 (rcells ps5) rfl hl5 rd5.1 on5 (fun h => by have := rd5.2.2 h; rw [HL.out] at this; exact this) (by omega) hsz ?_; intro v7 w7 q1 q2 q3 q4; have hj7 := Jr.keep HRR.out.2.2.1 q2 (fun hm => (r13.ne_blk HRR.out.2.2.1 (by decide)) (mem_own.1 hm)); have j4 : w7.cell? ⟨g, 4, none⟩ = some (.int .i64 used) := Blk.cell hj7 4; have z4 := Blk.frozen hj7 4; have j3 : w7.cell? ⟨g, 3, none⟩ = some (.int .u64 (num : Int)) := Blk.cell hj7 3; have z3 := Blk.frozen hj7 3; have HJ7 := Lib.hid (And.intro hj7 (And.intro q1 q2)); clear hj7 q1 q2)
      obtain ⟨rr, r2, hj6, hK, fw6⟩ := HRR.out
      obtain ⟨hj7, q1, q2⟩ := HJ7.out
      obtain ⟨f', rfl⟩ : ∃ f', f = f' + 1 := ⟨f - 1, by have := HT.out.2; rw [List.length_drop, HN.out] at this; omega⟩
      have k4 := Blk.set_ hj7 4 (.int .i64 ((used + (L + 2) : Nat) : Int))
      have k3 := Blk.set_ k4 3 (.int .u64 (((num + 1) % 18446744073709551616 : Nat) : Int))
      go_roundw
      case rel =>
       have h1 := scanJ_yes (n := D.sure.length) (J := openJ x y 0 0) (f := f') HTR.out HMY.out
       rw [List.drop_drop, HL.out] at h1
       have fs : Fr [g] w7 ((w7.setCell ⟨g, 4, none⟩ (.int .i64 ((used : Int) + ((L : Int) + 2)))).setCell ⟨g, 3, none⟩ (.int .u64 (IntKind.u64.wrap ((num : Int) + 1)))) := ((Fr.refl _ _).setCell (.inl (by simp)) _).setCell (.inl (by simp)) _
       have en : IntKind.u64.wrap ((num : Int) + 1) = (((num + 1) % 18446744073709551616 : Nat) : Int) := by rw [show IntKind.u64.wrap ((num : Int) + 1) = ((num : Int) + 1) % 18446744073709551616 from rfl]; omega
       refine ⟨out ++ rs, ps ++ ps5, used + (L + 2), (num + 1) % 18446744073709551616, f', ?_, ?_, ?_, Nat.mod_lt _ (by decide), by rw [HN.out]; omega, by rw [List.length_append, HL.out, hK]; omega, ?_, ?_⟩
       ·have rA := RRow.app rr r2 (show Fr (Value.slice A12 out.length c12).ownBlock.toList w6 w7 by rw [hK]; exact q2) (by rw [hK, HL.out]; exact q1)
        exact ⟨rA.row.keepT fs (hj7.noTy (by decide)), rA.len, fun i a b => ⟨(rA.each i a b).1, (rA.each i a b).2.keepT fs (hj7.noTy (by decide))⟩⟩
       ·rw [en]; exact k3
       ·refine (((HP.out.2.2.1.trans_nil fw6).trans q2 (fun i hi => .inr ?_)).trans_same fs)
        exact (r13.lt i (mem_own.1 hi)).1
       ·have := HT.out.2
        rw [List.length_drop] at this ⊢
        omega
       ·rw [HT.out.1, h1, List.append_assoc]
        simp only [Nat.add_assoc]
      case measure =>
       have m1 := Blk.cell hj6 4
       have m3 : wr.cell? ⟨g, 4, none⟩ = some (.int .i64 (used : Int)) := Blk.cell HP.out.2.1 4
       have m4 : ((w7.setCell ⟨g, 4, none⟩ (.int .i64 ((used : Int) + ((L : Int) + 2)))).setCell ⟨g, 3, none⟩ (.int .u64 (IntKind.u64.wrap ((num : Int) + 1)))).cell? ⟨g, 4, none⟩ = some (.int .i64 ((used : Int) + ((L : Int) + 2))) := Blk.cell (Blk.set_ k4 3 (.int .u64 (IntKind.u64.wrap ((num : Int) + 1)))) 4
       rw [m4, m3]
       simp only [Option.getD_some, intOf]
       have := HN.out
       omega
end
end
end Go.Proofs.YtbanogfljpkbkaaGreatDoor
