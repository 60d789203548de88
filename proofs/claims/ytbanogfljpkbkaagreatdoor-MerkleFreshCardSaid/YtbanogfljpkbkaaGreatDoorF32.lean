/-
  Texts of this claim, one behind the other: JnH, JnS, JnQ, JnL.
-/
import Derived.Test.YtbanogfljpkbkaaGreatDoorF31
set_option linter.unusedSimpArgs false
set_option linter.unusedVariables false
set_option linter.unnecessarySimpa false
namespace Go.Proofs.YtbanogfljpkbkaaGreatDoor
section
open Go.RowKit
set_option maxRecDepth 100000
theorem Blk.notin {w : World} {g : Nat} {t : TypeId} {cs : Array Value} {F : List Nat} (h : Blk w g t cs) (hF : NoTy w F t) : g ∉ F := fun hm => hF g hm _ _ h
theorem slFn : SlT Tryz.prog 186 47 1 8 .nilFunc := ⟨Tryz.underlying186, by kernel_rfl, rfl, by decide, by decide⟩
section
variable {w w' : World} {g p : Nat} {O : List Nat} {J : JrM} {D : DkM}
theorem StV.keepT {F : List Nat} {v : Value} {s : Stp} (h : StV w O p v s) (f : Fr F w w') (hF : ∀ e, e ≠ 47 → NoTy w F e) : StV w' O p v s := by
 cases s with
 | fl => exact h
 | wr x b =>
  rcases h with ⟨g1, g2, g3, rfl, ⟨k1, k2, ⟨u, k3, r⟩, n1, n2, n3⟩⟩ | ⟨gj, g1, g2, g3, J, i, rfl, ⟨kj, k1, k2, ⟨u, k3, r⟩, nj, n1, n2, n3⟩, hr⟩ | ⟨gj, g1, g2, J, i, rfl, ⟨kj, k1, k2, nj, n1, n2⟩, hr⟩
  ·exact .inl ⟨g1, g2, g3, rfl, k1.keep f (k1.notin (hF _ (by decide))), k2.keep f (k2.notin (hF _ (by decide))), ⟨u, k3.keep f (k3.notin (hF _ (by decide))), r.keepT f (hF _ (by decide))⟩, n1, n2, n3⟩
  ·exact .inr (.inl ⟨gj, g1, g2, g3, J, i, rfl, ⟨kj.keep f (Blk.notin kj (hF _ (by decide))), k1.keep f (k1.notin (hF _ (by decide))), k2.keep f (k2.notin (hF _ (by decide))), ⟨u, k3.keep f (k3.notin (hF _ (by decide))), r.keepT f (hF _ (by decide))⟩, nj, n1, n2, n3⟩, hr⟩)
  ·exact .inr (.inr ⟨gj, g1, g2, J, i, rfl, ⟨kj.keep f (Blk.notin kj (hF _ (by decide))), k1.keep f (k1.notin (hF _ (by decide))), k2.keep f (k2.notin (hF _ (by decide))), nj, n1, n2⟩, hr⟩)
structure StRow (w : World) (B : Nat) (O : List Nat) (p : Nat) (v : Value) (fs : List Value) (ss : List Stp) : Prop where
 row : Row w B 47 1 v ss.length fs
 each : ∀ i (h : i < fs.length) (h' : i < ss.length), StV w O p fs[i] ss[i]
theorem StRow.nil (w : World) (B : Nat) (O : List Nat) (p : Nat) : StRow w B O p (.slice none 0 0) [] [] := ⟨Row.nil _ _ _ _, fun i h => by simp at h⟩
theorem StRow.keep_nil {B : Nat} {v : Value} {fs : List Value} {ss : List Stp} (h : StRow w B O p v fs ss) (f : Fr [] w w') : StRow w' B O p v fs ss :=
 ⟨h.row.keep_nil f, fun i a b => (h.each i a b).keepT f (fun _ _ => NoTy.nil _ _)⟩
theorem StRow.len {B : Nat} {v : Value} {fs : List Value} {ss : List Stp} (h : StRow w B O p v fs ss) : fs.length = ss.length := by have := h.row.1; omega
theorem StRow.snoc {B : Nat} {v v' u : Value} {fs : List Value} {ss : List Stp} {s : Stp} (h : StRow w B O p v fs ss) (hu : StV w O p u s) (f : Fr v.ownBlock.toList w w') (hr : Row w' B 47 1 v' (ss.length + 1) (fs ++ [u])) : StRow w' B O p v' (fs ++ [u]) (ss ++ [s]) := by
 have kp : ∀ {v : Value} {s : Stp}, StV w O p v s → StV w' O p v s := fun hx => hx.keepT f (fun e he => h.row.noTy (Ne.symm he))
 have hl := h.len
 refine ⟨by rw [List.length_append]; exact hr, fun i h1 h2 => ?_⟩
 by_cases hi : i < fs.length
 ·rw [List.getElem_append_left hi, List.getElem_append_left (by omega)]
  exact kp (h.each i hi (by omega))
 ·have hiv : i = fs.length := by rw [List.length_append, List.length_singleton] at h1; omega
  subst hiv
  rw [List.getElem_append_right (Nat.le_refl _), List.getElem_append_right (by omega)]
  simpa [hl] using kp hu
def stK (x : Int) (L : List (List UInt8)) (d : List UInt8) (k : Nat) : List Stp := if k ≤ L.length then wrS x (L.take k) else appS x L d
theorem stK_zero (x : Int) (L : List (List UInt8)) (d : List UInt8) : stK x L d 0 = [] := by rw [stK, if_pos (Nat.zero_le _), List.take_zero]; rfl
theorem stK_succ {x : Int} {L : List (List UInt8)} {d : List UInt8} {k : Nat} (h : k < L.length) : stK x L d (k + 1) = stK x L d k ++ [.wr (x + k) (L ++ [d])[k]!] := by
 rw [stK, if_pos (by omega), stK, if_pos (by omega), List.take_add_one, List.getElem?_eq_getElem h]
 rw [Option.toList_some, wrS_snoc, List.length_take, Nat.min_eq_left (by omega)]
 congr 3
 rw [getElem!_pos _ k (by rw [List.length_append]; omega), List.getElem_append_left h]
theorem stK_last {x : Int} {L : List (List UInt8)} {d : List UInt8} : stK x L d (L.length + 1) = (stK x L d L.length ++ [.fl]) ++ [.wr (x + (L.length : Nat)) (L ++ [d])[L.length]!] := by
 rw [stK, if_neg (by omega), stK, if_pos (Nat.le_refl _), List.take_length, appS]
 rw [getElem!_pos _ L.length (by rw [List.length_append, List.length_singleton]; omega), List.getElem_append_right (Nat.le_refl _)]
 simp
theorem stK_len (x : Int) (L : List (List UInt8)) (d : List UInt8) (k : Nat) (h : k ≤ L.length) : (stK x L d k).length = k := by
 rw [stK, if_pos h, wrS_len, List.length_take]; omega
end
section
variable {w w' : World} {g p : Nat} {O : List Nat} {J : JrM} {D : DkM}
set_option maxHeartbeats 4000000 in
theorem jnAppend_any (h : Dsk w p O D) (hj : Jr w g p J) (hg : g ∉ O) (ok : J.ok) {A : Option Addr} {n c : Nat} {rs : List (Int × List UInt8)} (hr : RdR w A n c rs) (hK : KG w) (hu : ∀ x, (D.uns x).length + 70 ≤ 4398046511104) :
  Calls Tryz.prog 96 #[.pointer (some ⟨g, 0, none⟩), .slice A n c] w (JopC w p g O (appM D J rs)) := by
 obtain ⟨k1, f1, z1⟩ := box1D w 129 (.pointer (some ⟨g, 0, none⟩))
 obtain ⟨w1, hw1⟩ : ∃ x, w.alloc (.cells #[.pointer (some ⟨g, 0, none⟩)] 129) = x := ⟨_, rfl⟩
 rw [hw1] at k1 f1 z1
 obtain ⟨gb, hgb⟩ : ∃ gb, w.heap.size = gb := ⟨_, rfl⟩
 rw [hgb] at k1 z1
 have hrl := hr.len
 have hlt : ∀ i ∈ O, i < gb := by obtain ⟨X, hX⟩ := h; rw [← hgb]; exact hX.lt
 have hgl := hj.lt
 rw [hgb] at hgl
 have c0 : w1.cell? ⟨gb, 0, none⟩ = some (.pointer (some ⟨g, 0, none⟩)) := k1.cell 0
 have cs := jnState_any (hj.keep_nil f1)
 rw [JrM.stE] at cs
 obtain ⟨bad, hb⟩ : ∃ b, J.bad = b := ⟨_, rfl⟩
 rw [hb] at cs
 have HB := Lib.hid hb
 have HH := Lib.hid (And.intro (h.keep_nil f1) (And.intro (hj.keep_nil f1) (And.intro (hr.keep_nil f1) (And.intro (hK.keep f1) hu))))
 have HG := Lib.hid hg
 have HOK := Lib.hid ok
 have HL := Lib.hid hlt
 have K1 := Lib.hid (And.intro k1 f1)
 have cB := rcBlocks_any w1 A J.num n c rs ok.n (hr.keep_nil f1) (hK.keep f1)
 have c3 : w1.cell? ⟨g, 3, none⟩ = some (.int .u64 (J.num : Int)) := Blk.cell (hj.keep_nil f1) 3
 clear h hj hg hr hK hu ok hb hlt k1 f1
 cases bad
 ·go_enter Tryz.func96, Tryz.ntmps96
  go_wp2_with (go_at_call 141; refine cs.mono ?_; rintro e w' ⟨rfl, rfl⟩)
  refine cB.mono ?_
  intro e w2 hB
  clear cB cs c3
  have hnl : n * 32 ≤ 140737488351232 := HH.out.2.2.1.reach
  by_cases hro : rcOk J.num rs
  ·obtain ⟨v2, vs, rfl, hbr, f2⟩ := BlkC.of_some (blkV_some hro) hB
   have HRO := Lib.hid hro
   have hd5 := doneB_len J.num (blkL J.num rs).flatten
   have hLl := blkL_len J.num rs
   have hAp : appM D J rs = if jMay D.sure.length J rs = false then (1, D, J) else if J.most < rs.length then (3, D, J) else if J.room < rs.length then (2, D, J) else
     ((runS D (appS (J.first + 1 + J.used) (blkL J.num rs) (doneB J.num (blkL J.num rs).flatten))).1, (runS D (appS (J.first + 1 + J.used) (blkL J.num rs) (doneB J.num (blkL J.num rs).flatten))).2,
      if (runS D (appS (J.first + 1 + J.used) (blkL J.num rs) (doneB J.num (blkL J.num rs).flatten))).1 = 0 then { J with used := J.used + ((rs.length + 2 : Nat) : Int), num := (J.num + 1) % 18446744073709551616 } else { J with bad := true }) := by
    rw [appM, HB.out, if_neg (by simp), if_neg (by simp [hro])]
   obtain ⟨L, hL⟩ : ∃ L, blkL J.num rs = L := ⟨_, rfl⟩
   rw [hL] at hbr hd5 hLl hAp
   obtain ⟨d, hd⟩ : ∃ d, doneB J.num L.flatten = d := ⟨_, rfl⟩
   rw [hd] at hbr hd5 hAp
   have HAP := Lib.hid hAp
   have hbl : (L ++ [d]).length = rs.length + 2 := by rw [List.length_append, hLl]; rfl
   rw [hrl] at hLl hbl
   have HLL := Lib.hid (And.intro hLl hbl)
   obtain ⟨A2, c2, rfl, hc2, -, -⟩ := hbr.arg hbl
   have cm := jnMay_any (HH.out.1.keep_nil f2) (HH.out.2.1.keep_nil f2) HOK.out (c := c) ((HH.out.2.2.1.keep_nil f2).rdx) hrl (by omega)
   have HBR := Lib.hid (And.intro hbr (And.intro f2 hd5))
   have c0 := f2.cell (by simp) c0
   clear hB hro hbr f2 hd5 hLl hAp hL hd hbl
   obtain ⟨mb, hmb⟩ : ∃ mb, jMay D.sure.length J rs = mb := ⟨_, rfl⟩
   rw [hmb] at cm
   have HMB := Lib.hid hmb
   clear hmb
   cases mb
   ·go_wp2_with fail
    refine cm.mono ?_
    rintro e w3 ⟨rfl, f3⟩
    have FF := Lib.hid (HBR.out.2.1.trans_nil f3)
    clear cm f3
    go_wp2_with fail
    go_ret
    exact (JopC.same (HH.out.1.keep_nil FF.out) (HH.out.2.1.keep_nil FF.out) FF.out (by rw [HAP.out, if_pos HMB.out])).pre K1.out.2
   ·go_wp2_with fail
    refine cm.mono ?_
    rintro e w3 ⟨rfl, f3⟩
    have FF := Lib.hid (HBR.out.2.1.trans_nil f3)
    have F3 := Lib.hid f3
    have c0 := f3.cell (by simp) c0
    have cmo := jnMost_any (HH.out.2.1.keep_nil FF.out) HOK.out
    have cro := jnRoom_any (HH.out.2.1.keep_nil FF.out) HOK.out
    clear cm f3
    obtain ⟨mo, hmo⟩ : ∃ mo, J.most = mo := ⟨_, rfl⟩
    obtain ⟨ro, hro⟩ : ∃ ro, J.room = ro := ⟨_, rfl⟩
    rw [hmo] at cmo
    rw [hro] at cro
    have HAP2 := Lib.hid (show appM D J rs = if mo < n then (3, D, J) else if ro < n then (2, D, J) else
     ((runS D (appS (J.first + 1 + J.used) L d)).1, (runS D (appS (J.first + 1 + J.used) L d)).2, if (runS D (appS (J.first + 1 + J.used) L d)).1 = 0 then { J with used := J.used + ((n + 2 : Nat) : Int), num := (J.num + 1) % 18446744073709551616 } else { J with bad := true }) by
      rw [HAP.out, if_neg (by rw [HMB.out]; simp), hmo, hro, hrl])
    have HRO2 := Lib.hid hro
    clear hmo hro
    by_cases h1 : mo < n
    ·clear cro
     go_wp2_with (go_at_call 92; refine cmo.mono ?_; rintro e w' ⟨rfl, rfl⟩)
     go_ret
     exact (JopC.same (HH.out.1.keep_nil FF.out) (HH.out.2.1.keep_nil FF.out) FF.out (by rw [HAP2.out, if_pos h1])).pre K1.out.2
    ·by_cases h2 : ro < n
     ·have HAP3 := Lib.hid (show appM D J rs = (2, D, J) by rw [HAP2.out, if_neg h1, if_pos h2])
      go_wp2_with (first | (go_at_call 92; refine cmo.mono ?_; rintro e w' ⟨rfl, rfl⟩) | (go_at_call 91; refine cro.mono ?_; rintro e w4 ⟨rfl, f4⟩))
      go_ret
      exact (JopC.same ((HH.out.1.keep_nil FF.out).keep_nil f4) ((HH.out.2.1.keep_nil FF.out).keep_nil f4) (FF.out.trans_nil f4) HAP3.out).pre K1.out.2
     ·have HAP3 := Lib.hid (show appM D J rs = ((runS D (appS (J.first + 1 + J.used) L d)).1, (runS D (appS (J.first + 1 + J.used) L d)).2, if (runS D (appS (J.first + 1 + J.used) L d)).1 = 0 then { J with used := J.used + ((n + 2 : Nat) : Int), num := (J.num + 1) % 18446744073709551616 } else { J with bad := true }) by rw [HAP2.out, if_neg h1, if_neg h2])
      go_wp2_with (first | (go_at_call 92; refine cmo.mono ?_; rintro e w' ⟨rfl, rfl⟩) | (go_at_call 91; refine cro.mono ?_; rintro e w4 ⟨rfl, f4⟩; have FF4 := Lib.hid (And.intro (FF.out.trans_nil f4) (F3.out.trans_nil f4)); have c0 := f4.cell (by simp) c0; clear cro cmo f4))
      obtain ⟨x, hx⟩ : ∃ x, J.first + 1 + J.used = x := ⟨_, rfl⟩
      have HX := Lib.hid hx
      have HZ1 := Lib.hid (And.intro z1 hgl)
      clear hx h1 h2 hgl z1
      go_loopw [8, 49] (fun v i wr => ∃ k : Nat, k ≤ n + 2 ∧ i = .int .i64 k ∧ Fr [] w4 wr ∧ ∃ fs, StRow wr w4.heap.size O p v fs (stK x L d k)) (fun _ i _ => n + 2 - (intOf i).toNat)
      case atStart => exact ⟨0, by omega, rfl, Fr.refl _ _, [], by rw [stK_zero]; exact StRow.nil _ _ _ _⟩
      case round =>
       obtain ⟨k, hk, rfl, fr, fs, hsr⟩ := hrel
       by_cases hlt : k < n + 2
       ·have d0 : (k : Int) < ((n + 2 : Nat) : Int) := by omega
        have c0 := fr.cell (by simp) c0
        have f24 := FF4.out.2.trans_nil fr
        have hbl := HLL.out.2
        have hbr := HBR.out.1.keep_nil f24
        have hvl : k < vs.length := by rw [hbr.vlen, hbl]; exact hlt
        obtain ⟨gB, oB, e, hcs⟩ := hbr.brd.rd (by intro h0; rw [h0] at hvl; simp at hvl)
        cases e
        have ck := hcs k _ (List.getElem?_eq_getElem hvl)
        obtain ⟨u, hu⟩ : ∃ u, vs[k] = u := ⟨_, rfl⟩
        have hkb : k < (L ++ [d]).length := by rw [hbl]; exact hlt
        have hek := hbr.each k hvl hkb
        obtain ⟨b, hb⟩ : ∃ b, (L ++ [d])[k] = b := ⟨_, rfl⟩
        rw [hu, hb] at hek
        rw [hu] at ck
        have HBK := Lib.hid (show (L ++ [d])[k]! = b by rw [getElem!_pos _ k hkb, hb])
        clear hb
        obtain ⟨Ab, cb, rfl, -, -, -, -, -⟩ := hek.shape
        obtain ⟨lb, hlb⟩ : ∃ lb, b.length = lb := ⟨_, rfl⟩
        rw [hlb] at ck
        have HEK := Lib.hid hek
        have HSR := Lib.hid (And.intro fr hsr)
        have HLB := Lib.hid hlb
        clear hcs hek fr hsr hu hbr f24 hbl hlb hkb hvl
        go_upto_region 15 with fail
        have kb0 := Blk.new (wr.alloc (.cells #[.int .i64 (k : Int)] 3)) 27 #[.slice Ab lb cb]
        have ka : Blk ((wr.alloc (.cells #[.int .i64 (k : Int)] 3)).alloc (.cells #[.slice Ab lb cb] 27)) wr.heap.size 3 #[.int .i64 (k : Int)] := (Blk.new wr 3 #[.int .i64 (k : Int)]).keep_nil ((Fr.refl _ _).alloc _)
        have kb : Blk ((wr.alloc (.cells #[.int .i64 (k : Int)] 3)).alloc (.cells #[.slice Ab lb cb] 27)) (wr.heap.size + 1) 27 #[.slice Ab lb cb] := by simpa using kb0
        have fn : Fr [] wr ((wr.alloc (.cells #[.int .i64 (k : Int)] 3)).alloc (.cells #[.slice Ab lb cb] 27)) := ((Fr.refl [] wr).alloc _).alloc _
        clear kb0
        obtain ⟨wn, hwn⟩ : ∃ wn, (wr.alloc (.cells #[.int .i64 (k : Int)] 3)).alloc (.cells #[.slice Ab lb cb] 27) = wn := ⟨_, rfl⟩
        obtain ⟨gi, hgi⟩ : ∃ gi, wr.heap.size = gi := ⟨_, rfl⟩
        rw [hwn] at ka kb fn ⊢
        rw [hgi] at ka kb ⊢
        have ci := ka.cell 0
        have c0 := fn.cell (by simp) c0
        have fw4 := HSR.out.1.trans_nil fn
        have fw1 := FF4.out.1.trans_nil fw4
        have hjn := HH.out.2.1.keep_nil fw1
        have cp : wn.cell? ⟨g, 0, none⟩ = some (.pointer (some ⟨p, 0, none⟩)) := Blk.cell hjn 0
        have cap : CapA wn O p g gb gi (gi + 1) J k b := by
         have hgi2 : gb + 1 ≤ gi := by have := (FF4.out.1.trans_nil HSR.out.1).size; have := HZ1.out.1; omega
         have rb := HEK.out.keep_nil fn
         rw [HLB.out] at rb
         exact ⟨hjn, K1.out.1.keep_nil fw1, ka, ⟨_, kb, by rw [HLB.out]; exact rb.mono (Nat.zero_le _)⟩, HG.out, fun hm => by have := HL.out _ hm; omega, fun hm => by have := HL.out _ hm; omega, fun hm => by have := HL.out _ hm; omega⟩
        have hsn := HSR.out.2.keep_nil fn
        have HN := Lib.hid (And.intro fw4 (And.intro cap hsn))
        have hLn := HLL.out.1
        have hn64 : n ≤ 64 := by rw [← hrl]; exact HRO.out.2.1
        have rsn := hsn.row
        rw [stK_len _ _ _ _ (by omega)] at rsn
        have hsz : w4.heap.size ≤ wn.heap.size := fw4.size
        clear ka kb fn hwn hgi fw4 fw1 hjn cap hsn
        by_cases hkl : k = n + 1
        ·subst hkl
         have d1 : ((n + 1 : Nat) : Int) = ((n + 2 : Nat) : Int) - 1 := by omega
         go_upto_region 17 with (at_builtin; refine wpList_app rfl rfl slFn w4.heap.size _ (n + 1) fs rfl (rsn.alloc _) _ 1 1 [_] rfl rfl (Rd.one _ _ _) (by intro u hu; rw [List.mem_singleton.1 hu]; rfl) (fun h => by cases h) (by omega) (by simp; omega) ?_; intro v7 wx q1 q2 q3 q4)
         replace q2 : Fr u8.ownBlock.toList (wn.alloc (.cells #[.func (.func 112) #[.pointer (some ⟨p, 0, none⟩)] #[]] 47)) wx := q2
         have fa : Fr [] wn (wn.alloc (.cells #[.func (.func 112) #[.pointer (some ⟨p, 0, none⟩)] #[]] 47)) := (Fr.refl [] wn).alloc _
         obtain ⟨fw4, cap, hsn⟩ := HN.out
         have sv : StV wn O p (.func (.func 147) #[] #[.pointer (some ⟨gb, 0, none⟩), .pointer (some ⟨gi, 0, none⟩), .pointer (some ⟨gi + 1, 0, none⟩)]) (.wr (x + ((n + 1 : Nat) : Int)) (L ++ [d])[n + 1]!) := .inr (.inl ⟨g, gb, gi, gi + 1, J, n + 1, rfl, by rw [HBK.out]; exact cap, HOK.out, by omega, by rw [HX.out]⟩)
         have svx := (sv.keepT fa (fun _ _ => NoTy.nil _ _)).keepT q2 (fun e he => (hsn.keep_nil fa).row.noTy (Ne.symm he))
         have sn1 := (hsn.keep_nil fa).snoc (s := .fl) (show StV _ O p _ .fl from rfl) q2 (by rw [stK_len _ _ _ _ (by omega)]; exact q1)
         have HSN := Lib.hid (And.intro sn1 (And.intro svx ((fw4.trans_nil fa).trans q2 (fun i hi => .inr (rsn.lt i (mem_own.1 hi)).1))))
         have r1 := sn1.row
         rw [List.length_append, stK_len _ _ _ _ (by omega)] at r1
         have hsz := HSN.out.2.2.size
         clear fa fw4 cap hsn sv svx sn1 q1 q2 q3 q4
         go_wp2_with (at_builtin; refine wpList_app rfl rfl slFn w4.heap.size _ (n + 1 + 1) _ rfl (r1.alloc _) _ 1 1 [_] rfl rfl (Rd.one _ _ _) (by intro u hu; rw [List.mem_singleton.1 hu]; rfl) (fun h => by cases h) (by omega) (by simp; omega) ?_; intro v8 wy q1 q2 q3 q4)
         replace q2 : Fr v7.ownBlock.toList (wx.alloc (.cells #[.func (.func 147) #[] #[.pointer (some ⟨gb, 0, none⟩), .pointer (some ⟨gi, 0, none⟩), .pointer (some ⟨gi + 1, 0, none⟩)]] 47)) wy := q2
         have fa : Fr [] wx (wx.alloc (.cells #[.func (.func 147) #[] #[.pointer (some ⟨gb, 0, none⟩), .pointer (some ⟨gi, 0, none⟩), .pointer (some ⟨gi + 1, 0, none⟩)]] 47)) := (Fr.refl [] wx).alloc _
         obtain ⟨sn1, svx, fx⟩ := HSN.out
         have sn := (sn1.keep_nil fa).snoc (svx.keepT fa (fun _ _ => NoTy.nil _ _)) q2 (by rw [List.length_append, stK_len _ _ _ _ (by omega)]; exact q1)
         rw [← hLn, ← stK_last, hLn] at sn
         exact ⟨⟨n + 2, by omega, by go_num, (fx.trans_nil fa).trans q2 (fun i hi => .inr (r1.lt i (mem_own.1 hi)).1), _, sn⟩, by simp [intOf]; omega⟩
        ·have d1 : ¬ (k : Int) = ((n + 2 : Nat) : Int) - 1 := by omega
         go_wp2_with (at_builtin; refine wpList_app rfl rfl slFn w4.heap.size _ k fs rfl (rsn.alloc _) _ 1 1 [_] rfl rfl (Rd.one _ _ _) (by intro u hu; rw [List.mem_singleton.1 hu]; rfl) (fun h => by cases h) (by omega) (by simp; omega) ?_; intro v7 wx q1 q2 q3 q4)
         replace q2 : Fr u8.ownBlock.toList (wn.alloc (.cells #[.func (.func 147) #[] #[.pointer (some ⟨gb, 0, none⟩), .pointer (some ⟨gi, 0, none⟩), .pointer (some ⟨gi + 1, 0, none⟩)]] 47)) wx := q2
         have fa : Fr [] wn (wn.alloc (.cells #[.func (.func 147) #[] #[.pointer (some ⟨gb, 0, none⟩), .pointer (some ⟨gi, 0, none⟩), .pointer (some ⟨gi + 1, 0, none⟩)]] 47)) := (Fr.refl [] wn).alloc _
         obtain ⟨fw4, cap, hsn⟩ := HN.out
         have sv : StV wn O p (.func (.func 147) #[] #[.pointer (some ⟨gb, 0, none⟩), .pointer (some ⟨gi, 0, none⟩), .pointer (some ⟨gi + 1, 0, none⟩)]) (.wr (x + k) (L ++ [d])[k]!) := .inr (.inl ⟨g, gb, gi, gi + 1, J, k, rfl, by rw [HBK.out]; exact cap, HOK.out, by omega, by rw [HX.out]⟩)
         have sn := (hsn.keep_nil fa).snoc (sv.keepT fa (fun _ _ => NoTy.nil _ _)) q2 (by rw [stK_len _ _ _ _ (by omega)]; exact q1)
         rw [← stK_succ (by omega)] at sn
         exact ⟨⟨k + 1, by omega, by go_num, (fw4.trans_nil fa).trans q2 (fun i hi => .inr (rsn.lt i (mem_own.1 hi)).1), _, sn⟩, by simp [intOf]; omega⟩
       ·obtain rfl : k = n + 2 := by omega
        have hLn := HLL.out.1
        have hn64 : n ≤ 64 := by rw [← hrl]; exact HRO.out.2.1
        have d0 : ¬ (((n + 2 : Nat) : Int) < ((n + 2 : Nat) : Int)) := by omega
        rw [show stK x L d (n + 2) = appS x L d by rw [stK, if_neg (by omega)]] at hsr
        have hlen : (appS x L d).length = n + 3 := by rw [appS, List.length_append, wrS_len, hLn]; rfl
        have c0 := fr.cell (by simp) c0
        have fw := FF4.out.1.trans_nil fr
        obtain ⟨wD, hwD⟩ : ∃ wD, wr.drew = wD := ⟨_, rfl⟩
        have fD : Fr [] wr wD := by rw [← hwD]; exact (Fr.refl [] _).drew
        have hr8 := hsr.row
        rw [hlen] at hr8
        obtain ⟨A8, c8, rfl, -, -, -, -, -⟩ := hr8.shape
        have hsz : gb + 1 ≤ w4.heap.size := by have := FF4.out.1.size; have := HZ1.out.1; omega
        have cr := jnRun_any (HH.out.1.keep_nil (fw.trans_nil fD)) ((hr8.keep_nil fD).mono (Nat.zero_le _)) (fun g' hg' hm => by have := (hr8.lt g' hg').1; have := HL.out _ hm; omega) hlen (fun i a b => (hsr.keep_nil fD).each i a b) (fun y => by have := HH.out.2.2.2.2 y; omega)
        have HAP4 := Lib.hid (show appM D J rs = ((runS D (appS x L d)).1, (runS D (appS x L d)).2, if (runS D (appS x L d)).1 = 0 then { J with used := J.used + ((n + 2 : Nat) : Int), num := (J.num + 1) % 18446744073709551616 } else { J with bad := true }) by rw [HAP3.out, HX.out])
        obtain ⟨⟨z, D'⟩, hz⟩ : ∃ r, runS D (appS x L d) = r := ⟨_, rfl⟩
        rw [hz] at cr
        have HZ := Lib.hid hz
        have HFW := Lib.hid (And.intro (fw.trans_nil fD) (HH.out.2.1.keep_nil (fw.trans_nil fD)))
        have hS := fD.cell (by simp) c0
        clear hsr hr8 fr fw fD hz hlen hsz
        go_upto_region 19 with fail
        refine wp_region_held_drew (S := fun w' => w'.cell? ⟨gb, 0, none⟩ = some (.pointer (some ⟨g, 0, none⟩))) (by kernel_rfl) (by rw [hwD]; exact hS) (fun hHeld => ?_)
        rw [hwD] at hHeld ⊢
        clear hS hwD
        refine tw 0 72 hHeld ?_
        refine tw 1 73 hHeld ?_
        refine tc 2 (fun K hK => ?_)
        go_simp
        refine cr.mono ?_
        rintro e w5 ⟨rfl, ha⟩
        have hJ5 : Jr w5 g p J := by obtain ⟨O', -, -, f⟩ := ha; exact HFW.out.2.keep f HG.out
        have hHx : w5.cell? ⟨gb, 0, none⟩ = some (.pointer (some ⟨g, 0, none⟩)) := by obtain ⟨O', -, -, f⟩ := ha; exact f.cell (fun hm => by have := HL.out _ hm; simp at this) hHeld
        have cd := jnDid_any hJ5 z
        refine hK.out _ _ hHx (fun hHy => ?_)
        clear hK cr hHeld hHy
        try simp only [Act.put, p1, p2, p3]
        have HA := Lib.hid (And.intro ha (And.intro (hJ5.noTy (e := 5) (by decide)) HFW.out.2.lt))
        clear ha hJ5
        refine tc 3 (fun K hK => ?_)
        go_simp
        refine cd.mono ?_
        rintro e w6 ⟨rfl, hj6, f6⟩
        rw [HB.out] at hj6
        have hHeld : w6.cell? ⟨gb, 0, none⟩ = some (.pointer (some ⟨g, 0, none⟩)) := f6.cell (fun hm => by have := List.mem_singleton.1 hm; have := HZ1.out.2; simp at *; omega) hHx
        refine hK.out _ _ hHeld (fun hHy => ?_)
        clear hK cd hHx hHy
        try simp only [Act.put, p1, p2, p3]
        refine tw 4 11 hHeld ?_
        refine wpAnyH_done (by kernel_rfl) ?_ _
        have HF6 := Lib.hid f6
        clear f6
        by_cases hz0 : z = 0
        ·subst hz0
         replace hj6 : Jr w6 g p { J with bad := false } := hj6
         have HJ6 := Lib.hid hj6
         have j3 : w6.cell? ⟨g, 3, none⟩ = some (.int .u64 (J.num : Int)) := Blk.cell hj6 3
         have z3 := Blk.frozen hj6 3
         have j4 : w6.cell? ⟨g, 4, none⟩ = some (.int .i64 J.used) := Blk.cell hj6 4
         have z4 := Blk.frozen hj6 4
         have hou := HOK.out.u
         have e4 : IntKind.i64.wrap (J.used + ((n + 2 : Nat) : Int)) = J.used + ((n + 2 : Nat) : Int) := IntWalk.i64_in _ (by omega)
         have e5 : IntKind.u64.wrap ((J.num : Int) + 1) = (((J.num + 1) % 18446744073709551616 : Nat) : Int) := by rw [show IntKind.u64.wrap ((J.num : Int) + 1) = ((J.num : Int) + 1) % 18446744073709551616 from rfl]; omega
         clear hj6
         go_wp2_with fail
         go_ret
         have k3 := Blk.set_ (Blk.set_ HJ6.out 4 (.int .i64 (J.used + ((n + 2 : Nat) : Int)))) 3 (.int .u64 (((J.num + 1) % 18446744073709551616 : Nat) : Int))
         have fs : Fr [g] w6 ((w6.setCell ⟨g, 4, none⟩ (.int .i64 (J.used + ((n + 2 : Nat) : Int)))).setCell ⟨g, 3, none⟩ (.int .u64 (((J.num + 1) % 18446744073709551616 : Nat) : Int))) := ((Fr.refl _ _).setCell (.inl (by simp)) _).setCell (.inl (by simp)) _
         refine ((JopC.of HA.out.1 HG.out HA.out.2.2 (HF6.out.trans fs (fun i hi => .inl hi)) HA.out.2.1 (J' := { J with used := J.used + ((n + 2 : Nat) : Int), num := (J.num + 1) % 18446744073709551616 }) ?_ ?_).pre HFW.out.1).pre K1.out.2
         ·unfold Jr
          rw [show ({ J with used := J.used + ((n + 2 : Nat) : Int), num := (J.num + 1) % 18446744073709551616 } : JrM).bad = false from HB.out]
          exact k3
         ·rw [HAP4.out, HZ.out, if_pos rfl]
        ·have dz : (z == 0) = false := by simpa using hz0
         rw [show (false || decide (z ≠ 0)) = true from by simpa using hz0] at hj6
         have HJ6 := Lib.hid hj6
         clear hj6
         go_wp2_with fail
         go_ret
         refine ((JopC.of HA.out.1 HG.out HA.out.2.2 HF6.out HA.out.2.1 HJ6.out ?_).pre HFW.out.1).pre K1.out.2
         rw [HAP4.out, HZ.out, if_neg hz0]
  ·obtain ⟨v2, vs, rfl, hbr, f2⟩ := BlkC.of_none (blkV_none hro) hB
   have FF := Lib.hid f2
   have HRO := Lib.hid hro
   clear hbr f2 hB hro
   go_wp2_with fail
   go_ret
   exact (JopC.same (HH.out.1.keep_nil FF.out) (HH.out.2.1.keep_nil FF.out) FF.out (by rw [appM, HB.out, if_neg (by simp), if_pos HRO.out])).pre K1.out.2
 ·clear cB c3
  go_enter Tryz.func96, Tryz.ntmps96
  go_wp2_with (go_at_call 141; refine cs.mono ?_; rintro e w' ⟨rfl, rfl⟩)
  go_ret
  exact (JopC.same HH.out.1 HH.out.2.1 (Fr.refl _ _) (by rw [appM, HB.out, if_pos rfl])).pre K1.out.2
end
end
section
open Go.RowKit
set_option maxRecDepth 100000
end
section
open Go.RowKit
set_option maxRecDepth 100000
section
variable {D : DkM} {J : JrM} {m : Nat} {t : List (List (Int × List UInt8))} {rs : List (Int × List UInt8)}
theorem blk_len2 (n : Nat) (rs : List (Int × List UInt8)) (d : List UInt8) : (blkL n rs ++ [d]).length = rs.length + 2 := by rw [List.length_append, blkL_len]; rfl
theorem appM_uns (D : DkM) (J : JrM) (rs : List (Int × List UInt8)) (x : Int) : ((appM D J rs).2.1.uns x).length ≤ (D.uns x).length + 67 := by
 unfold appM
 split
 ·show (D.uns x).length ≤ _; omega
 ·split
  ·show (D.uns x).length ≤ _; omega
  ·rename_i h
   split
   ·show (D.uns x).length ≤ _; omega
   ·split
    ·show (D.uns x).length ≤ _; omega
    ·split
     ·show (D.uns x).length ≤ _; omega
     ·have := runS_uns (appS (J.first + 1 + J.used) (blkL J.num rs) (doneB J.num (blkL J.num rs).flatten)) D x
      have hl : (appS (J.first + 1 + J.used) (blkL J.num rs) (doneB J.num (blkL J.num rs).flatten)).length ≤ 67 := by
       rw [appS, List.length_append, wrS_len, blkL_len]
       have : rcOk J.num rs := by simpa using h
       have := this.2.1
       simp only [List.length_cons, List.length_nil]
       omega
      dsimp only
      omega
end
end
section
open Go.RowKit
set_option maxRecDepth 100000
end
end Go.Proofs.YtbanogfljpkbkaaGreatDoor
