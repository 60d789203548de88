/-
  Texts of this claim, one behind the other: JnH, JnQ, JnL.
-/
import Derived.Test.YtiknmcdighkclaaDoorM16
/-
  Layer 14: Append.
-/
set_option linter.unusedSimpArgs false
set_option linter.unusedVariables false
set_option linter.unnecessarySimpa false
namespace Go.Proofs.YtiknmcdighkclaaDoor
open Go.RowKit
set_option maxRecDepth 100000

theorem Blk.notin {w : World} {g : Nat} {t : TypeId} {cs : Array Value} {F : List Nat} (h : Blk w g t cs) (hF : NoTy w F t) : g ∉ F := fun hm => hF g hm _ _ h
theorem slFn : SlT Tryd.prog 63 33 1 8 .nilFunc := ⟨Tryd.underlying63, by kernel_rfl, rfl, by decide, by decide⟩
section
variable {w w' : World} {g p : Nat} {O : List Nat} {J : JrM} {D : DkM}
theorem StV.keepT {F : List Nat} {v : Value} {s : Stp} (h : StV w O p v s) (f : Fr F w w') (hF : ∀ e, e ≠ 33 → NoTy w F e) : StV w' O p v s := by
  cases s with
  | fl => exact h
  | wr x b =>
    rcases h with ⟨g1, g2, g3, rfl, ⟨k1, k2, ⟨u, k3, r⟩, n1, n2, n3⟩⟩ | ⟨gj, g1, g2, g3, J, i, rfl, ⟨kj, k1, k2, ⟨u, k3, r⟩, nj, n1, n2, n3⟩, hr⟩ | ⟨gj, g1, g2, J, i, rfl, ⟨kj, k1, k2, nj, n1, n2⟩, hr⟩
    · exact .inl ⟨g1, g2, g3, rfl, k1.keep f (k1.notin (hF _ (by decide))), k2.keep f (k2.notin (hF _ (by decide))), ⟨u, k3.keep f (k3.notin (hF _ (by decide))), r.keepT f (hF _ (by decide))⟩, n1, n2, n3⟩
    · exact .inr (.inl ⟨gj, g1, g2, g3, J, i, rfl, ⟨kj.keep f (Blk.notin kj (hF _ (by decide))), k1.keep f (k1.notin (hF _ (by decide))), k2.keep f (k2.notin (hF _ (by decide))), ⟨u, k3.keep f (k3.notin (hF _ (by decide))), r.keepT f (hF _ (by decide))⟩, nj, n1, n2, n3⟩, hr⟩)
    · exact .inr (.inr ⟨gj, g1, g2, J, i, rfl, ⟨kj.keep f (Blk.notin kj (hF _ (by decide))), k1.keep f (k1.notin (hF _ (by decide))), k2.keep f (k2.notin (hF _ (by decide))), nj, n1, n2⟩, hr⟩)
/-- A row of function values, each of which does its step. -/
structure StRow (w : World) (B : Nat) (O : List Nat) (p : Nat) (v : Value) (fs : List Value) (ss : List Stp) : Prop where
  row : Row w B 33 1 v ss.length fs
  each : ∀ i (h : i < fs.length) (h' : i < ss.length), StV w O p fs[i] ss[i]
theorem StRow.nil (w : World) (B : Nat) (O : List Nat) (p : Nat) : StRow w B O p (.slice none 0 0) [] [] := ⟨Row.nil _ _ _ _, fun i h => by simp at h⟩
theorem StRow.keep_nil {B : Nat} {v : Value} {fs : List Value} {ss : List Stp} (h : StRow w B O p v fs ss) (f : Fr [] w w') : StRow w' B O p v fs ss :=
  ⟨h.row.keep_nil f, fun i a b => (h.each i a b).keepT f (fun _ _ => NoTy.nil _ _)⟩
theorem StRow.len {B : Nat} {v : Value} {fs : List Value} {ss : List Stp} (h : StRow w B O p v fs ss) : fs.length = ss.length := by have := h.row.1; omega
theorem StRow.snoc {B : Nat} {v v' u : Value} {fs : List Value} {ss : List Stp} {s : Stp} (h : StRow w B O p v fs ss) (hu : StV w O p u s) (f : Fr v.ownBlock.toList w w') (hr : Row w' B 33 1 v' (ss.length + 1) (fs ++ [u])) : StRow w' B O p v' (fs ++ [u]) (ss ++ [s]) := by
  have kp : ∀ {v : Value} {s : Stp}, StV w O p v s → StV w' O p v s := fun hx => hx.keepT f (fun e he => h.row.noTy (Ne.symm he))
  have hl := h.len
  refine ⟨by rw [List.length_append]; exact hr, fun i h1 h2 => ?_⟩
  by_cases hi : i < fs.length
  · rw [List.getElem_append_left hi, List.getElem_append_left (by omega)]
    exact kp (h.each i hi (by omega))
  · have hiv : i = fs.length := by rw [List.length_append, List.length_singleton] at h1; omega
    subst hiv
    rw [List.getElem_append_right (Nat.le_refl _), List.getElem_append_right (by omega)]
    simpa [hl] using kp hu
/-- The steps for the first k blocks. -/
def stK (x : Int) (L : List (List UInt8)) (d : List UInt8) (k : Nat) : List Stp := if k ≤ L.length then wrS x (L.take k) else appS x L d
theorem stK_zero (x : Int) (L : List (List UInt8)) (d : List UInt8) : stK x L d 0 = [] := by rw [stK, if_pos (Nat.zero_le _), List.take_zero]; rfl
theorem stK_succ {x : Int} {L : List (List UInt8)} {d : List UInt8} {k : Nat} (h : k < L.length) : stK x L d (k + 1) = stK x L d k ++ [.wr (x + k) (L ++ [d])[k]!] := by
  rw [stK, if_pos (by omega), stK, if_pos (by omega), List.take_add_one, List.getElem?_eq_getElem h]
  rw [Option.toList_some, wrS_snoc, List.length_take, Nat.min_eq_left (by omega)]
  congr 3
  rw [getElem!_pos _ k (by rw [List.length_append]; omega), List.getElem_append_left h]
theorem stK_last {x : Int} {L : List (List UInt8)} {d : List UInt8} : stK x L d (L.length + 1) = (stK x L d L.length ++ [.fl]) ++ [.wr (x + (L.length : Nat)) (L ++ [d])[L.length]!] := by
  rw [stK, if_neg (by omega), stK, if_pos (Nat.le_refl _), List.take_length, appS]
  rw [getElem!_pos _ L.length (by rw [List.length_append, List.length_singleton]; omega), List.getElem_append_right (Nat.le_refl _)]
  simp
theorem stK_len (x : Int) (L : List (List UInt8)) (d : List UInt8) (k : Nat) (h : k ≤ L.length) : (stK x L d k).length = k := by
  rw [stK, if_pos h, wrS_len, List.length_take]; omega
end
section
variable {w w' : World} {g p : Nat} {O : List Nat} {J : JrM} {D : DkM}
set_option maxHeartbeats 4000000 in
theorem jnAppend_any (h : Dsk w p O D) (hj : Jr w g p J) (hg : g ∉ O) (ok : J.ok) {A : Option Addr} {n c : Nat} {rs : List (Int × List UInt8)} (hr : RdR w A n c rs) (hK : KG w) (hu : ∀ x, (D.uns x).length + 70 ≤ 4398046511104) :
    Calls Tryd.prog 12 #[.pointer (some ⟨g, 0, none⟩), .slice A n c] w (JopC w p g O (appM D J rs)) := by
  obtain ⟨k1, f1, z1⟩ := box1D w 29 (.pointer (some ⟨g, 0, none⟩))
  obtain ⟨w1, hw1⟩ : ∃ x, w.alloc (.cells #[.pointer (some ⟨g, 0, none⟩)] 29) = x := ⟨_, rfl⟩
  rw [hw1] at k1 f1 z1
  obtain ⟨gb, hgb⟩ : ∃ gb, w.heap.size = gb := ⟨_, rfl⟩
  rw [hgb] at k1 z1
  have hrl := hr.len
  have hlt : ∀ i ∈ O, i < gb := by obtain ⟨X, hX⟩ := h; rw [← hgb]; exact hX.lt
  have hgl := hj.lt
  rw [hgb] at hgl
  have c0 : w1.cell? ⟨gb, 0, none⟩ = some (.pointer (some ⟨g, 0, none⟩)) := k1.cell 0
  have cs := jnState_any (hj.keep_nil f1)
  rw [JrM.stE] at cs
  obtain ⟨bad, hb⟩ : ∃ b, J.bad = b := ⟨_, rfl⟩
  rw [hb] at cs
  have HB := Lib.hid hb
  have HH := Lib.hid (And.intro (h.keep_nil f1) (And.intro (hj.keep_nil f1) (And.intro (hr.keep_nil f1) (And.intro (hK.keep f1) hu))))
  have HG := Lib.hid hg
  have HOK := Lib.hid ok
  have HL := Lib.hid hlt
  have K1 := Lib.hid (And.intro k1 f1)
  have cB := rcBlocks_any w1 A J.num n c rs ok.n (hr.keep_nil f1) (hK.keep f1)
  have c3 : w1.cell? ⟨g, 3, none⟩ = some (.int .u64 (J.num : Int)) := Blk.cell (hj.keep_nil f1) 3
  clear h hj hg hr hK hu ok hb hlt k1 f1
  cases bad
  · go_enter Tryd.func12, Tryd.ntmps12
    go_wp2_with (go_at_call 26; refine cs.mono ?_; rintro e w' ⟨rfl, rfl⟩)
    refine cB.mono ?_
    intro e w2 hB
    clear cB cs c3
    have hnl : n * 32 ≤ 140737488351232 := HH.out.2.2.1.reach
    by_cases hro : rcOk J.num rs
    · obtain ⟨v2, vs, rfl, hbr, f2⟩ := BlkC.of_some (blkV_some hro) hB
      have HRO := Lib.hid hro
      have hd5 := doneB_len J.num (blkL J.num rs).flatten
      have hLl := blkL_len J.num rs
      have hAp : appM D J rs = if jMay D.sure.length J rs = false then (1, D, J) else if J.most < rs.length then (3, D, J) else if J.room < rs.length then (2, D, J) else
          ((runS D (appS (J.first + 1 + J.used) (blkL J.num rs) (doneB J.num (blkL J.num rs).flatten))).1, (runS D (appS (J.first + 1 + J.used) (blkL J.num rs) (doneB J.num (blkL J.num rs).flatten))).2,
            if (runS D (appS (J.first + 1 + J.used) (blkL J.num rs) (doneB J.num (blkL J.num rs).flatten))).1 = 0 then { J with used := J.used + ((rs.length + 2 : Nat) : Int), num := (J.num + 1) % 18446744073709551616 } else { J with bad := true }) := by
        rw [appM, HB.out, if_neg (by simp), if_neg (by simp [hro])]
      obtain ⟨L, hL⟩ : ∃ L, blkL J.num rs = L := ⟨_, rfl⟩
      rw [hL] at hbr hd5 hLl hAp
      obtain ⟨d, hd⟩ : ∃ d, doneB J.num L.flatten = d := ⟨_, rfl⟩
      rw [hd] at hbr hd5 hAp
      have HAP := Lib.hid hAp
      have hbl : (L ++ [d]).length = rs.length + 2 := by rw [List.length_append, hLl]; rfl
      rw [hrl] at hLl hbl
      have HLL := Lib.hid (And.intro hLl hbl)
      obtain ⟨A2, c2, rfl, hc2, -, -⟩ := hbr.arg hbl
      have cm := jnMay_any (HH.out.1.keep_nil f2) (HH.out.2.1.keep_nil f2) HOK.out (c := c) ((HH.out.2.2.1.keep_nil f2).rdx) hrl (by omega)
      have HBR := Lib.hid (And.intro hbr (And.intro f2 hd5))
      have c0 := f2.cell (by simp) c0
      clear hB hro hbr f2 hd5 hLl hAp hL hd hbl
      obtain ⟨mb, hmb⟩ : ∃ mb, jMay D.sure.length J rs = mb := ⟨_, rfl⟩
      rw [hmb] at cm
      have HMB := Lib.hid hmb
      clear hmb
      cases mb
      · go_wp2_with fail
        refine cm.mono ?_
        rintro e w3 ⟨rfl, f3⟩
        have FF := Lib.hid (HBR.out.2.1.trans_nil f3)
        clear cm f3
        go_wp2_with fail
        go_ret
        exact (JopC.same (HH.out.1.keep_nil FF.out) (HH.out.2.1.keep_nil FF.out) FF.out (by rw [HAP.out, if_pos HMB.out])).pre K1.out.2
      · go_wp2_with fail
        refine cm.mono ?_
        rintro e w3 ⟨rfl, f3⟩
        have FF := Lib.hid (HBR.out.2.1.trans_nil f3)
        have F3 := Lib.hid f3
        have c0 := f3.cell (by simp) c0
        have cmo := jnMost_any (HH.out.2.1.keep_nil FF.out) HOK.out
        have cro := jnRoom_any (HH.out.2.1.keep_nil FF.out) HOK.out
        clear cm f3
        obtain ⟨mo, hmo⟩ : ∃ mo, J.most = mo := ⟨_, rfl⟩
        obtain ⟨ro, hro⟩ : ∃ ro, J.room = ro := ⟨_, rfl⟩
        rw [hmo] at cmo
        rw [hro] at cro
        have HAP2 := Lib.hid (show appM D J rs = if mo < n then (3, D, J) else if ro < n then (2, D, J) else
          ((runS D (appS (J.first + 1 + J.used) L d)).1, (runS D (appS (J.first + 1 + J.used) L d)).2, if (runS D (appS (J.first + 1 + J.used) L d)).1 = 0 then { J with used := J.used + ((n + 2 : Nat) : Int), num := (J.num + 1) % 18446744073709551616 } else { J with bad := true }) by
            rw [HAP.out, if_neg (by rw [HMB.out]; simp), hmo, hro, hrl])
        have HRO2 := Lib.hid hro
        clear hmo hro
        by_cases h1 : mo < n
        · clear cro
          go_wp2_with (go_at_call 16; refine cmo.mono ?_; rintro e w' ⟨rfl, rfl⟩)
          go_ret
          exact (JopC.same (HH.out.1.keep_nil FF.out) (HH.out.2.1.keep_nil FF.out) FF.out (by rw [HAP2.out, if_pos h1])).pre K1.out.2
        · by_cases h2 : ro < n
          · have HAP3 := Lib.hid (show appM D J rs = (2, D, J) by rw [HAP2.out, if_neg h1, if_pos h2])
            go_wp2_with (first | (go_at_call 16; refine cmo.mono ?_; rintro e w' ⟨rfl, rfl⟩) | (go_at_call 10; refine cro.mono ?_; rintro e w4 ⟨rfl, f4⟩))
            go_ret
            exact (JopC.same ((HH.out.1.keep_nil FF.out).keep_nil f4) ((HH.out.2.1.keep_nil FF.out).keep_nil f4) (FF.out.trans_nil f4) HAP3.out).pre K1.out.2
          · have HAP3 := Lib.hid (show appM D J rs = ((runS D (appS (J.first + 1 + J.used) L d)).1, (runS D (appS (J.first + 1 + J.used) L d)).2, if (runS D (appS (J.first + 1 + J.used) L d)).1 = 0 then { J with used := J.used + ((n + 2 : Nat) : Int), num := (J.num + 1) % 18446744073709551616 } else { J with bad := true }) by rw [HAP2.out, if_neg h1, if_neg h2])
            go_wp2_with (first | (go_at_call 16; refine cmo.mono ?_; rintro e w' ⟨rfl, rfl⟩) | (go_at_call 10; refine cro.mono ?_; rintro e w4 ⟨rfl, f4⟩; have FF4 := Lib.hid (And.intro (FF.out.trans_nil f4) (F3.out.trans_nil f4)); have c0 := f4.cell (by simp) c0; clear cro cmo f4))
            obtain ⟨x, hx⟩ : ∃ x, J.first + 1 + J.used = x := ⟨_, rfl⟩
            have HX := Lib.hid hx
            have HZ1 := Lib.hid (And.intro z1 hgl)
            clear hx h1 h2 hgl z1
            go_loopw [8, 49] (fun v i wr => ∃ k : Nat, k ≤ n + 2 ∧ i = .int .i64 k ∧ Fr [] w4 wr ∧ ∃ fs, StRow wr w4.heap.size O p v fs (stK x L d k)) (fun _ i _ => n + 2 - (intOf i).toNat)
            case atStart => exact ⟨0, by omega, rfl, Fr.refl _ _, [], by rw [stK_zero]; exact StRow.nil _ _ _ _⟩
            case round =>
              obtain ⟨k, hk, rfl, fr, fs, hsr⟩ := hrel
              by_cases hlt : k < n + 2
              · have d0 : (k : Int) < ((n + 2 : Nat) : Int) := by omega
                have c0 := fr.cell (by simp) c0
                have f24 := FF4.out.2.trans_nil fr
                have hbl := HLL.out.2
                have hbr := HBR.out.1.keep_nil f24
                have hvl : k < vs.length := by rw [hbr.vlen, hbl]; exact hlt
                obtain ⟨gB, oB, e, hcs⟩ := hbr.brd.rd (by intro h0; rw [h0] at hvl; simp at hvl)
                cases e
                have ck := hcs k _ (List.getElem?_eq_getElem hvl)
                obtain ⟨u, hu⟩ : ∃ u, vs[k] = u := ⟨_, rfl⟩
                have hkb : k < (L ++ [d]).length := by rw [hbl]; exact hlt
                have hek := hbr.each k hvl hkb
                obtain ⟨b, hb⟩ : ∃ b, (L ++ [d])[k] = b := ⟨_, rfl⟩
                rw [hu, hb] at hek
                rw [hu] at ck
                have HBK := Lib.hid (show (L ++ [d])[k]! = b by rw [getElem!_pos _ k hkb, hb])
                clear hb
                obtain ⟨Ab, cb, rfl, -, -, -, -, -⟩ := hek.shape
                obtain ⟨lb, hlb⟩ : ∃ lb, b.length = lb := ⟨_, rfl⟩
                rw [hlb] at ck
                have HEK := Lib.hid hek
                have HSR := Lib.hid (And.intro fr hsr)
                have HLB := Lib.hid hlb
                clear hcs hek fr hsr hu hbr f24 hbl hlb hkb hvl
                go_upto_region 15 with fail
                have kb0 := Blk.new (wr.alloc (.cells #[.int .i64 (k : Int)] 3)) 35 #[.slice Ab lb cb]
                have ka : Blk ((wr.alloc (.cells #[.int .i64 (k : Int)] 3)).alloc (.cells #[.slice Ab lb cb] 35)) wr.heap.size 3 #[.int .i64 (k : Int)] := (Blk.new wr 3 #[.int .i64 (k : Int)]).keep_nil ((Fr.refl _ _).alloc _)
                have kb : Blk ((wr.alloc (.cells #[.int .i64 (k : Int)] 3)).alloc (.cells #[.slice Ab lb cb] 35)) (wr.heap.size + 1) 35 #[.slice Ab lb cb] := by simpa using kb0
                have fn : Fr [] wr ((wr.alloc (.cells #[.int .i64 (k : Int)] 3)).alloc (.cells #[.slice Ab lb cb] 35)) := ((Fr.refl [] wr).alloc _).alloc _
                clear kb0
                obtain ⟨wn, hwn⟩ : ∃ wn, (wr.alloc (.cells #[.int .i64 (k : Int)] 3)).alloc (.cells #[.slice Ab lb cb] 35) = wn := ⟨_, rfl⟩
                obtain ⟨gi, hgi⟩ : ∃ gi, wr.heap.size = gi := ⟨_, rfl⟩
                rw [hwn] at ka kb fn ⊢
                rw [hgi] at ka kb ⊢
                have ci := ka.cell 0
                have c0 := fn.cell (by simp) c0
                have fw4 := HSR.out.1.trans_nil fn
                have fw1 := FF4.out.1.trans_nil fw4
                have hjn := HH.out.2.1.keep_nil fw1
                have cp : wn.cell? ⟨g, 0, none⟩ = some (.pointer (some ⟨p, 0, none⟩)) := Blk.cell hjn 0
                have cap : CapA wn O p g gb gi (gi + 1) J k b := by
                  have hgi2 : gb + 1 ≤ gi := by have := (FF4.out.1.trans_nil HSR.out.1).size; have := HZ1.out.1; omega
                  have rb := HEK.out.keep_nil fn
                  rw [HLB.out] at rb
                  exact ⟨hjn, K1.out.1.keep_nil fw1, ka, ⟨_, kb, by rw [HLB.out]; exact rb.mono (Nat.zero_le _)⟩, HG.out, fun hm => by have := HL.out _ hm; omega, fun hm => by have := HL.out _ hm; omega, fun hm => by have := HL.out _ hm; omega⟩
                have hsn := HSR.out.2.keep_nil fn
                have HN := Lib.hid (And.intro fw4 (And.intro cap hsn))
                have hLn := HLL.out.1
                have hn64 : n ≤ 64 := by rw [← hrl]; exact HRO.out.2.1
                have rsn := hsn.row
                rw [stK_len _ _ _ _ (by omega)] at rsn
                have hsz : w4.heap.size ≤ wn.heap.size := fw4.size
                clear ka kb fn hwn hgi fw4 fw1 hjn cap hsn
                by_cases hkl : k = n + 1
                · subst hkl
                  have d1 : ((n + 1 : Nat) : Int) = ((n + 2 : Nat) : Int) - 1 := by omega
                  go_upto_region 17 with (at_builtin; refine wpList_app rfl rfl slFn w4.heap.size _ (n + 1) fs rfl (rsn.alloc _) _ 1 1 [_] rfl rfl (Rd.one _ _ _) (by intro u hu; rw [List.mem_singleton.1 hu]; rfl) (fun h => by cases h) (by omega) (by simp; omega) ?_; intro v7 wx q1 q2 q3 q4)
                  replace q2 : Fr u8.ownBlock.toList (wn.alloc (.cells #[.func (.func 19) #[.pointer (some ⟨p, 0, none⟩)] #[]] 33)) wx := q2
                  have fa : Fr [] wn (wn.alloc (.cells #[.func (.func 19) #[.pointer (some ⟨p, 0, none⟩)] #[]] 33)) := (Fr.refl [] wn).alloc _
                  obtain ⟨fw4, cap, hsn⟩ := HN.out
                  have sv : StV wn O p (.func (.func 29) #[] #[.pointer (some ⟨gb, 0, none⟩), .pointer (some ⟨gi, 0, none⟩), .pointer (some ⟨gi + 1, 0, none⟩)]) (.wr (x + ((n + 1 : Nat) : Int)) (L ++ [d])[n + 1]!) := .inr (.inl ⟨g, gb, gi, gi + 1, J, n + 1, rfl, by rw [HBK.out]; exact cap, HOK.out, by omega, by rw [HX.out]⟩)
                  have svx := (sv.keepT fa (fun _ _ => NoTy.nil _ _)).keepT q2 (fun e he => (hsn.keep_nil fa).row.noTy (Ne.symm he))
                  have sn1 := (hsn.keep_nil fa).snoc (s := .fl) (show StV _ O p _ .fl from rfl) q2 (by rw [stK_len _ _ _ _ (by omega)]; exact q1)
                  have HSN := Lib.hid (And.intro sn1 (And.intro svx ((fw4.trans_nil fa).trans q2 (fun i hi => .inr (rsn.lt i (mem_own.1 hi)).1))))
                  have r1 := sn1.row
                  rw [List.length_append, stK_len _ _ _ _ (by omega)] at r1
                  have hsz := HSN.out.2.2.size
                  clear fa fw4 cap hsn sv svx sn1 q1 q2 q3 q4
                  go_wp2_with (at_builtin; refine wpList_app rfl rfl slFn w4.heap.size _ (n + 1 + 1) _ rfl (r1.alloc _) _ 1 1 [_] rfl rfl (Rd.one _ _ _) (by intro u hu; rw [List.mem_singleton.1 hu]; rfl) (fun h => by cases h) (by omega) (by simp; omega) ?_; intro v8 wy q1 q2 q3 q4)
                  replace q2 : Fr v7.ownBlock.toList (wx.alloc (.cells #[.func (.func 29) #[] #[.pointer (some ⟨gb, 0, none⟩), .pointer (some ⟨gi, 0, none⟩), .pointer (some ⟨gi + 1, 0, none⟩)]] 33)) wy := q2
                  have fa : Fr [] wx (wx.alloc (.cells #[.func (.func 29) #[] #[.pointer (some ⟨gb, 0, none⟩), .pointer (some ⟨gi, 0, none⟩), .pointer (some ⟨gi + 1, 0, none⟩)]] 33)) := (Fr.refl [] wx).alloc _
                  obtain ⟨sn1, svx, fx⟩ := HSN.out
                  have sn := (sn1.keep_nil fa).snoc (svx.keepT fa (fun _ _ => NoTy.nil _ _)) q2 (by rw [List.length_append, stK_len _ _ _ _ (by omega)]; exact q1)
                  rw [← hLn, ← stK_last, hLn] at sn
                  exact ⟨⟨n + 2, by omega, by go_num, (fx.trans_nil fa).trans q2 (fun i hi => .inr (r1.lt i (mem_own.1 hi)).1), _, sn⟩, by simp [intOf]; omega⟩
                · have d1 : ¬ (k : Int) = ((n + 2 : Nat) : Int) - 1 := by omega
                  go_wp2_with (at_builtin; refine wpList_app rfl rfl slFn w4.heap.size _ k fs rfl (rsn.alloc _) _ 1 1 [_] rfl rfl (Rd.one _ _ _) (by intro u hu; rw [List.mem_singleton.1 hu]; rfl) (fun h => by cases h) (by omega) (by simp; omega) ?_; intro v7 wx q1 q2 q3 q4)
                  replace q2 : Fr u8.ownBlock.toList (wn.alloc (.cells #[.func (.func 29) #[] #[.pointer (some ⟨gb, 0, none⟩), .pointer (some ⟨gi, 0, none⟩), .pointer (some ⟨gi + 1, 0, none⟩)]] 33)) wx := q2
                  have fa : Fr [] wn (wn.alloc (.cells #[.func (.func 29) #[] #[.pointer (some ⟨gb, 0, none⟩), .pointer (some ⟨gi, 0, none⟩), .pointer (some ⟨gi + 1, 0, none⟩)]] 33)) := (Fr.refl [] wn).alloc _
                  obtain ⟨fw4, cap, hsn⟩ := HN.out
                  have sv : StV wn O p (.func (.func 29) #[] #[.pointer (some ⟨gb, 0, none⟩), .pointer (some ⟨gi, 0, none⟩), .pointer (some ⟨gi + 1, 0, none⟩)]) (.wr (x + k) (L ++ [d])[k]!) := .inr (.inl ⟨g, gb, gi, gi + 1, J, k, rfl, by rw [HBK.out]; exact cap, HOK.out, by omega, by rw [HX.out]⟩)
                  have sn := (hsn.keep_nil fa).snoc (sv.keepT fa (fun _ _ => NoTy.nil _ _)) q2 (by rw [stK_len _ _ _ _ (by omega)]; exact q1)
                  rw [← stK_succ (by omega)] at sn
                  exact ⟨⟨k + 1, by omega, by go_num, (fw4.trans_nil fa).trans q2 (fun i hi => .inr (rsn.lt i (mem_own.1 hi)).1), _, sn⟩, by simp [intOf]; omega⟩
              · obtain rfl : k = n + 2 := by omega
                have hLn := HLL.out.1
                have hn64 : n ≤ 64 := by rw [← hrl]; exact HRO.out.2.1
                have d0 : ¬ (((n + 2 : Nat) : Int) < ((n + 2 : Nat) : Int)) := by omega
                rw [show stK x L d (n + 2) = appS x L d by rw [stK, if_neg (by omega)]] at hsr
                have hlen : (appS x L d).length = n + 3 := by rw [appS, List.length_append, wrS_len, hLn]; rfl
                have c0 := fr.cell (by simp) c0
                have fw := FF4.out.1.trans_nil fr
                obtain ⟨wD, hwD⟩ : ∃ wD, wr.drew = wD := ⟨_, rfl⟩
                have fD : Fr [] wr wD := by rw [← hwD]; exact (Fr.refl [] _).drew
                have hr8 := hsr.row
                rw [hlen] at hr8
                obtain ⟨A8, c8, rfl, -, -, -, -, -⟩ := hr8.shape
                have hsz : gb + 1 ≤ w4.heap.size := by have := FF4.out.1.size; have := HZ1.out.1; omega
                have cr := jnRun_any (HH.out.1.keep_nil (fw.trans_nil fD)) ((hr8.keep_nil fD).mono (Nat.zero_le _)) (fun g' hg' hm => by have := (hr8.lt g' hg').1; have := HL.out _ hm; omega) hlen (fun i a b => (hsr.keep_nil fD).each i a b) (fun y => by have := HH.out.2.2.2.2 y; omega)
                have HAP4 := Lib.hid (show appM D J rs = ((runS D (appS x L d)).1, (runS D (appS x L d)).2, if (runS D (appS x L d)).1 = 0 then { J with used := J.used + ((n + 2 : Nat) : Int), num := (J.num + 1) % 18446744073709551616 } else { J with bad := true }) by rw [HAP3.out, HX.out])
                obtain ⟨⟨z, D'⟩, hz⟩ : ∃ r, runS D (appS x L d) = r := ⟨_, rfl⟩
                rw [hz] at cr
                have HZ := Lib.hid hz
                have HFW := Lib.hid (And.intro (fw.trans_nil fD) (HH.out.2.1.keep_nil (fw.trans_nil fD)))
                have hS := fD.cell (by simp) c0
                clear hsr hr8 fr fw fD hz hlen hsz
                go_upto_region 19 with fail
                refine wp_region_held_drew (S := fun w' => w'.cell? ⟨gb, 0, none⟩ = some (.pointer (some ⟨g, 0, none⟩))) (by kernel_rfl) (by rw [hwD]; exact hS) (fun hHeld => ?_)
                rw [hwD] at hHeld ⊢
                clear hS hwD
                refine take_w 0 (some 72) (v := ?_) rfl rfl (by kernel_rfl) (by kernel_rfl) (by kernel_rfl) (fun _ _ _ h => h) (by rfl) ?_ hHeld ?_
                rotate_left
                · (intro w hSw; (try dsimp only at hSw); go_simp; try with_reducible rfl)
                simp only [Act.put, List.setIfInBounds_toArray, List.set_cons_zero, List.set_cons_succ]
                refine take_w 1 (some 73) (v := ?_) rfl rfl (by kernel_rfl) (by kernel_rfl) (by kernel_rfl) (fun _ _ _ h => h) (by rfl) ?_ hHeld ?_
                rotate_left
                · (intro w hSw; (try dsimp only at hSw); go_simp; try with_reducible rfl)
                simp only [Act.put, List.setIfInBounds_toArray, List.set_cons_zero, List.set_cons_succ]
                refine take_c 2 rfl (by kernel_rfl) (by rfl) (fun K hK => ?_)
                go_simp
                refine cr.mono ?_
                rintro e w5 ⟨rfl, ha⟩
                have hJ5 : Jr w5 g p J := by obtain ⟨O', -, -, f⟩ := ha; exact HFW.out.2.keep f HG.out
                have hHx : w5.cell? ⟨gb, 0, none⟩ = some (.pointer (some ⟨g, 0, none⟩)) := by obtain ⟨O', -, -, f⟩ := ha; exact f.cell (fun hm => by have := HL.out _ hm; simp at this) hHeld
                have cd := jnDid_any hJ5 z
                refine hK.out _ _ hHx (fun hHy => ?_)
                clear hK cr hHeld hHy
                try simp only [Act.put, List.setIfInBounds_toArray, List.set_cons_zero, List.set_cons_succ]
                have HA := Lib.hid (And.intro ha (And.intro (hJ5.noTy (e := 5) (by decide)) HFW.out.2.lt))
                clear ha hJ5
                refine take_c 3 rfl (by kernel_rfl) (by rfl) (fun K hK => ?_)
                go_simp
                refine cd.mono ?_
                rintro e w6 ⟨rfl, hj6, f6⟩
                rw [HB.out] at hj6
                have hHeld : w6.cell? ⟨gb, 0, none⟩ = some (.pointer (some ⟨g, 0, none⟩)) := f6.cell (fun hm => by have := List.mem_singleton.1 hm; have := HZ1.out.2; simp at *; omega) hHx
                refine hK.out _ _ hHeld (fun hHy => ?_)
                clear hK cd hHx hHy
                try simp only [Act.put, List.setIfInBounds_toArray, List.set_cons_zero, List.set_cons_succ]
                refine take_w 4 (some 11) (v := ?_) rfl rfl (by kernel_rfl) (by kernel_rfl) (by kernel_rfl) (fun _ _ _ h => h) (by rfl) ?_ hHeld ?_
                rotate_left
                · (intro w hSw; (try dsimp only at hSw); go_simp; try with_reducible rfl)
                simp only [Act.put, List.setIfInBounds_toArray, List.set_cons_zero, List.set_cons_succ]
                refine wpAnyH_done (by kernel_rfl) ?_ _
                have HF6 := Lib.hid f6
                clear f6
                by_cases hz0 : z = 0
                · subst hz0
                  replace hj6 : Jr w6 g p { J with bad := false } := hj6
                  have HJ6 := Lib.hid hj6
                  have j3 : w6.cell? ⟨g, 3, none⟩ = some (.int .u64 (J.num : Int)) := Blk.cell hj6 3
                  have z3 := Blk.frozen hj6 3
                  have j4 : w6.cell? ⟨g, 4, none⟩ = some (.int .i64 J.used) := Blk.cell hj6 4
                  have z4 := Blk.frozen hj6 4
                  have hou := HOK.out.u
                  have e4 : IntKind.i64.wrap (J.used + ((n + 2 : Nat) : Int)) = J.used + ((n + 2 : Nat) : Int) := IntWalk.i64_in _ (by omega)
                  have e5 : IntKind.u64.wrap ((J.num : Int) + 1) = (((J.num + 1) % 18446744073709551616 : Nat) : Int) := by rw [show IntKind.u64.wrap ((J.num : Int) + 1) = ((J.num : Int) + 1) % 18446744073709551616 from rfl]; omega
                  clear hj6
                  go_wp2_with fail
                  go_ret
                  have k3 := Blk.set_ (Blk.set_ HJ6.out 4 (.int .i64 (J.used + ((n + 2 : Nat) : Int)))) 3 (.int .u64 (((J.num + 1) % 18446744073709551616 : Nat) : Int))
                  have fs : Fr [g] w6 ((w6.setCell ⟨g, 4, none⟩ (.int .i64 (J.used + ((n + 2 : Nat) : Int)))).setCell ⟨g, 3, none⟩ (.int .u64 (((J.num + 1) % 18446744073709551616 : Nat) : Int))) := ((Fr.refl _ _).setCell (.inl (by simp)) _).setCell (.inl (by simp)) _
                  refine ((JopC.of HA.out.1 HG.out HA.out.2.2 (HF6.out.trans fs (fun i hi => .inl hi)) HA.out.2.1 (J' := { J with used := J.used + ((n + 2 : Nat) : Int), num := (J.num + 1) % 18446744073709551616 }) ?_ ?_).pre HFW.out.1).pre K1.out.2
                  · unfold Jr
                    rw [show ({ J with used := J.used + ((n + 2 : Nat) : Int), num := (J.num + 1) % 18446744073709551616 } : JrM).bad = false from HB.out]
                    exact k3
                  · rw [HAP4.out, HZ.out, if_pos rfl]
                · have dz : (z == 0) = false := by simpa using hz0
                  rw [show (false || decide (z ≠ 0)) = true from by simpa using hz0] at hj6
                  have HJ6 := Lib.hid hj6
                  clear hj6
                  go_wp2_with fail
                  go_ret
                  refine ((JopC.of HA.out.1 HG.out HA.out.2.2 HF6.out HA.out.2.1 HJ6.out ?_).pre HFW.out.1).pre K1.out.2
                  rw [HAP4.out, HZ.out, if_neg hz0]
    · obtain ⟨v2, vs, rfl, hbr, f2⟩ := BlkC.of_none (blkV_none hro) hB
      have FF := Lib.hid f2
      have HRO := Lib.hid hro
      clear hbr f2 hB hro
      go_wp2_with fail
      go_ret
      exact (JopC.same (HH.out.1.keep_nil FF.out) (HH.out.2.1.keep_nil FF.out) FF.out (by rw [appM, HB.out, if_neg (by simp), if_pos HRO.out])).pre K1.out.2
  · clear cB c3
    go_enter Tryd.func12, Tryd.ntmps12
    go_wp2_with (go_at_call 26; refine cs.mono ?_; rintro e w' ⟨rfl, rfl⟩)
    go_ret
    exact (JopC.same HH.out.1 HH.out.2.1 (Fr.refl _ _) (by rw [appM, HB.out, if_pos rfl])).pre K1.out.2
end
end Go.Proofs.YtiknmcdighkclaaDoor
/-
  Layer 14: a journal without crashes, in plain words.
-/
set_option linter.unusedSimpArgs false
set_option linter.unusedVariables false
set_option linter.unnecessarySimpa false
namespace Go.Proofs.YtiknmcdighkclaaDoor
open Go.RowKit
set_option maxRecDepth 100000

/-- The journal of JournalChain's law: transactions t lie in it, the first one's number is m. -/
structure JInv (D : DkM) (J : JrM) (m : Nat) (t : List (List (Int × List UInt8))) : Prop where
  on : On D 60
  first : J.first = 0
  count : J.count = 30
  bad : J.bad = false
  begun : J.begun = true
  m0 : m ≠ 0
  num : J.num = m + t.length
  n64 : m + t.length < 18446744073709551616
  mark : D.readR 0 = markB m
  used : J.used = ((bsOf m t).length : Nat)
  area : ∃ r, areaK D J 29 = bsOf m t ++ r
  safe : ∀ b ∈ areaK D J 29, safeB (m + t.length) b
  ok : okTx 60 (openJ 0 30 0 0) m t
theorem areaK_congr {D E : DkM} {J K : JrM} {k : Nat} (h1 : J.first = K.first) (h : ∀ i : Nat, i < k → D.readR (J.first + 1 + (i : Nat)) = E.readR (J.first + 1 + (i : Nat))) : areaK D J k = areaK E K k := by
  unfold areaK
  apply List.map_congr_left
  intro i hi
  rw [← h1]
  exact h i (List.mem_range.1 hi)
section
variable {D : DkM} {J : JrM} {m : Nat} {t : List (List (Int × List UInt8))} {rs : List (Int × List UInt8)}
theorem JInv.used_le (h : JInv D J m t) : (bsOf m t).length ≤ 29 := by
  obtain ⟨r, hr⟩ := h.area
  have := congrArg List.length hr
  rw [areaK_len, List.length_append] at this
  omega
theorem JInv.jok (h : JInv D J m t) : J.ok := by
  have := h.used_le
  have h1 := h.first
  have h2 := h.count
  have h3 := h.num
  have h4 := h.n64
  have h5 := h.used
  exact ⟨by omega, by omega, by omega, by omega⟩
theorem JInv.may_eq (h : JInv D J m t) (rs : List (Int × List UInt8)) : jMay D.sure.length J rs = jMay 60 (openJ 0 30 0 0) rs := by
  rw [h.on.len]
  exact jMay_congr h.first h.count rs
theorem blk_len2 (n : Nat) (rs : List (Int × List UInt8)) (d : List UInt8) : (blkL n rs ++ [d]).length = rs.length + 2 := by rw [List.length_append, blkL_len]; rfl
/-- What an Append that is answered with 0 leaves. -/
theorem JInv.app (h : JInv D J m t) (hn : m + t.length + 1 < 18446744073709551616) (h0 : (appM D J rs).1 = 0) :
    (rs.length : Int) ≤ J.room ∧ (appM D J rs).2.2.used = J.used + ((rs.length + 2 : Nat) : Int) ∧ JInv (appM D J rs).2.1 (appM D J rs).2.2 m (t ++ [rs]) := by
  unfold appM at h0 ⊢
  rw [if_neg (by rw [h.bad]; simp)] at h0 ⊢
  by_cases h1 : rcOk J.num rs
  · rw [if_neg (by simp [h1])] at h0 ⊢
    by_cases h2 : jMay D.sure.length J rs = false
    · rw [if_pos h2] at h0; cases h0
    · rw [if_neg h2] at h0 ⊢
      by_cases h3 : J.most < rs.length
      · rw [if_pos h3] at h0; cases h0
      · rw [if_neg h3] at h0 ⊢
        by_cases h4 : J.room < rs.length
        · rw [if_pos h4] at h0; cases h0
        · rw [if_neg h4] at h0 ⊢
          dsimp only at h0 ⊢
          have hul := h.used_le
          have hroom : (rs.length : Int) ≤ 27 - J.used := by
            have hr : J.room = max (min (J.count - 3 - J.used) 64) 0 := by rw [JrM.room, h.bad, h.begun]; rfl
            have hc := h.count
            have hl := h1.2.1
            have h1l : 1 ≤ rs.length := by
              have := h1.2.2.2
              simp only [rightF, Bool.and_eq_true, decide_eq_true_eq] at this
              rw [rcP_len] at this
              omega
            omega
          have hu := h.used
          have hnum := h.num
          rw [hnum] at h1 h0 ⊢
          have hf : J.first + 1 + J.used = J.first + 1 + ((bsOf m t).length : Nat) := by rw [hu]
          rw [hf] at h0 ⊢
          have hb5 : ∀ b ∈ blkL (m + t.length) rs, b.length = 512 := blk_512 h1
          have hd5 : (doneB (m + t.length) (blkL (m + t.length) rs).flatten).length = 512 := doneB_len _ _
          obtain ⟨k1, k2, k3, -⟩ := runS_appS (blkL (m + t.length) rs) (doneB (m + t.length) (blkL (m + t.length) rs).flatten) D 60 (J.first + 1 + ((bsOf m t).length : Nat)) h.on (by have := h.first; omega) (by rw [blkL_len]; have := h.first; omega) hb5 hd5
          obtain ⟨R, hR⟩ : ∃ R, runS D (appS (J.first + 1 + ((bsOf m t).length : Nat)) (blkL (m + t.length) rs) (doneB (m + t.length) (blkL (m + t.length) rs).flatten)) = R := ⟨_, rfl⟩
          rw [hR] at k1 k2 k3 h0 ⊢
          rw [if_pos k1]
          refine ⟨by omega, rfl, ?_⟩
          have hbl := blk_len2 (m + t.length) rs (doneB (m + t.length) (blkL (m + t.length) rs).flatten)
          have hsn := bsOf_snoc rs t m
          have harea := areaK_write (k := 29) (E := R.2) (D := D) (J := J) k3 (by rw [hbl]; omega)
          obtain ⟨r, hr⟩ := h.area
          have e1 : areaK R.2 { J with used := J.used + ((rs.length + 2 : Nat) : Int), num := (m + t.length + 1) % 18446744073709551616 } 29 = areaK R.2 J 29 := rfl
          refine ⟨k2, h.first, h.count, h.bad, h.begun, h.m0, ?_, by rw [List.length_append, List.length_singleton]; omega, ?_, ?_, ?_, ?_, ?_⟩
          · show (m + t.length + 1) % 18446744073709551616 = _
            rw [Nat.mod_eq_of_lt hn, List.length_append, List.length_singleton]; omega
          · rw [k3 0, if_neg (by have := h.first; omega)]
            exact h.mark
          · show J.used + ((rs.length + 2 : Nat) : Int) = _
            rw [hsn, List.length_append, hbl, hu]
            omega
          · rw [e1, harea, hr, List.take_left' rfl, hsn]
            exact ⟨_, (List.append_assoc _ _ _).symm⟩
          · rw [e1, harea]
            intro b hb
            rw [List.length_append, List.length_singleton]
            rcases List.mem_append.1 hb with hb | hb
            · exact (h.safe b (List.mem_of_mem_take hb)).mono (by omega)
            · rcases List.mem_append.1 hb with hb | hb
              · exact safeB_tx h1 (by omega) (by omega) b hb
              · exact (h.safe b (List.mem_of_mem_drop hb)).mono (by omega)
          · exact okTx_snoc t m h.ok h1 (by rw [← h.may_eq]; simpa using h2)
  · rw [if_pos h1] at h0; cases h0
theorem JInv.app_no (h : JInv D J m t) (h0 : (appM D J rs).1 ≠ 0) : (appM D J rs).2 = (D, J) := by
  unfold appM at h0 ⊢
  rw [if_neg (by rw [h.bad]; simp)] at h0 ⊢
  by_cases h1 : rcOk J.num rs
  · rw [if_neg (by simp [h1])] at h0 ⊢
    by_cases h2 : jMay D.sure.length J rs = false
    · rw [if_pos h2]
    · rw [if_neg h2] at h0 ⊢
      by_cases h3 : J.most < rs.length
      · rw [if_pos h3]
      · rw [if_neg h3] at h0 ⊢
        by_cases h4 : J.room < rs.length
        · rw [if_pos h4]
        · rw [if_neg h4] at h0
          dsimp only at h0
          exfalso
          have hul := h.used_le
          have hroom : (rs.length : Int) ≤ 27 - J.used := by
            have hr : J.room = max (min (J.count - 3 - J.used) 64) 0 := by rw [JrM.room, h.bad, h.begun]; rfl
            have hc := h.count
            have hl := h1.2.1
            have h1l : 1 ≤ rs.length := by
              have := h1.2.2.2
              simp only [rightF, Bool.and_eq_true, decide_eq_true_eq] at this
              rw [rcP_len] at this
              omega
            omega
          have hu := h.used
          exact h0 (runS_appS _ _ D 60 _ h.on (by have := h.first; omega) (by rw [blkL_len]; have := h.first; omega) (blk_512 h1) (doneB_len _ _)).1
  · rw [if_pos h1]
theorem appM_uns (D : DkM) (J : JrM) (rs : List (Int × List UInt8)) (x : Int) : ((appM D J rs).2.1.uns x).length ≤ (D.uns x).length + 67 := by
  unfold appM
  split
  · show (D.uns x).length ≤ _; omega
  · split
    · show (D.uns x).length ≤ _; omega
    · rename_i h
      split
      · show (D.uns x).length ≤ _; omega
      · split
        · show (D.uns x).length ≤ _; omega
        · split
          · show (D.uns x).length ≤ _; omega
          · have := runS_uns (appS (J.first + 1 + J.used) (blkL J.num rs) (doneB J.num (blkL J.num rs).flatten)) D x
            have hl : (appS (J.first + 1 + J.used) (blkL J.num rs) (doneB J.num (blkL J.num rs).flatten)).length ≤ 67 := by
              rw [appS, List.length_append, wrS_len, blkL_len]
              have : rcOk J.num rs := by simpa using h
              have := this.2.1
              simp only [List.length_cons, List.length_nil]
              omega
            dsimp only
            omega
theorem resM_uns (D : DkM) (J : JrM) (x : Int) : ((resM D J).2.1.uns x).length ≤ (D.uns x).length + 2 := by
  unfold resM
  split
  · show (D.uns x).length ≤ _; omega
  · exact mkE_uns D _ _ x
/-- A reset of it. -/
theorem JInv.res (h : JInv D J m t) : (resM D J).1 = 0 ∧ (resM D J).2.2.used = 0 ∧ JInv (resM D J).2.1 (resM D J).2.2 (m + t.length) [] := by
  have hnx : J.next = m + t.length := by rw [JrM.next, if_pos h.begun, h.num]
  have hm0 : m + t.length ≠ 0 := by have := h.m0; omega
  obtain ⟨k1, k2, k3, -⟩ := mkE_ok h.on (x := J.first) (by have := h.first; omega) (by have := h.first; omega) hm0
  unfold resM
  rw [if_neg (by rw [h.bad]; simp), hnx]
  dsimp only
  rw [if_pos k1]
  refine ⟨k1, rfl, k2, h.first, h.count, h.bad, rfl, hm0, rfl, by have := h.n64; simpa using this, ?_, rfl, ⟨_, rfl⟩, ?_, trivial⟩
  · rw [k3, if_pos h.first.symm]
  · have : areaK (mkE D J.first (m + t.length)).2 { J with num := m + t.length, used := 0, begun := true } 29 = areaK D J 29 := areaK_congr rfl fun i hi => by
      rw [k3, if_neg]
      show ¬ J.first + 1 + (i : Int) = J.first
      omega
    rw [this]
    exact h.safe
/-- What is found. -/
theorem JInv.found (h : JInv D J m t) : jRight D 0 30 = true ∧ rmV (D.readR 0) = some m ∧ scanA D 0 30 m = (t.flatten, (bsOf m t).length, m + t.length) := by
  refine ⟨?_, ?_, ?_⟩
  · rw [jRight, h.on.len]; decide
  · rw [h.mark]
    exact rmV_mark h.m0 (by have := h.n64; omega)
  · obtain ⟨r, hr⟩ := h.area
    have e : areaK D (openJ 0 30 0 0) (30 - 1) = areaK D J 29 := areaK_congr h.first.symm fun i hi => rfl
    rw [scanA, show (30 : Int).toNat - 1 = 30 - 1 from rfl, e, hr, h.on.len]
    refine scanJ_tx t m _ h.ok ?_ h.n64 (trV_safe fun b hb => h.safe b (by rw [hr]; exact List.mem_append_right _ hb))
    have hb : ∀ (t : List (List (Int × List UInt8))) (m : Nat), t.length ≤ (bsOf m t).length := by
      intro t
      induction t with
      | nil => intro m; exact Nat.zero_le _
      | cons rs t ih =>
        intro m
        have := ih (m + 1)
        rw [bsOf, List.length_append, blk_len2, List.length_cons]
        omega
    have := hb t m
    have := h.used_le
    omega
end
/-- The start of it. -/
theorem JInv.start : (mkE (newD 60) 0 1).1 = 0 ∧ jRight (newD 60) 0 30 = true ∧ jRight (mkE (newD 60) 0 1).2 0 30 = true ∧ (mkE (newD 60) 0 1).2.off = false ∧ rmV ((mkE (newD 60) 0 1).2.readR 0) = some 1 ∧ scanA (mkE (newD 60) 0 1).2 0 30 1 = ([], 0, 1) ∧
    (resM (mkE (newD 60) 0 1).2 (openJ 0 30 1 0)).1 = 0 ∧ JInv (resM (mkE (newD 60) 0 1).2 (openJ 0 30 1 0)).2.1 (resM (mkE (newD 60) 0 1).2 (openJ 0 30 1 0)).2.2 31 [] := by
  obtain ⟨k1, k2, k3, -⟩ := mkE_ok (On.new 60) (x := 0) (by omega) (by omega) (m := 1) (by decide)
  obtain ⟨E, hE⟩ : ∃ E, (mkE (newD 60) 0 1).2 = E := ⟨_, rfl⟩
  rw [hE] at k2 k3 ⊢
  have hz : ∀ i : Nat, i < 29 → E.readR (0 + 1 + (i : Nat)) = zB512 := fun i hi => by
    rw [k3, if_neg (by omega)]
    exact (On.new_read 60 (by omega) (by omega)).1
  have ha : ∀ b ∈ areaK E (openJ 0 30 0 0) 29, b = zB512 := by
    intro b hb
    obtain ⟨i, hi, rfl⟩ := List.mem_map.1 hb
    exact hz i (List.mem_range.1 hi)
  have hnx : (openJ 0 30 1 0).next = 31 := rfl
  obtain ⟨l1, l2, l3, -⟩ := mkE_ok k2 (x := 0) (by omega) (by omega) (m := 31) (by decide)
  refine ⟨k1, by rw [jRight, (On.new 60).len]; decide, by rw [jRight, k2.len]; decide, k2.off, by rw [k3, if_pos rfl]; exact rmV_mark (by decide) (by decide), ?_, ?_⟩
  · rw [scanA, show (30 : Int).toNat - 1 = 29 from rfl]
    exact scanJ_no (trV_zero ha)
  · unfold resM
    rw [if_neg (by show ¬ false = true; simp), hnx]
    dsimp only
    rw [show (openJ 0 30 1 0).first = 0 from rfl, if_pos l1]
    refine ⟨l1, l2, rfl, rfl, rfl, rfl, by decide, rfl, by decide, by rw [l3, if_pos rfl], rfl, ⟨_, rfl⟩, ?_, trivial⟩
    have : areaK (mkE E 0 31).2 { openJ 0 30 1 0 with num := 31, used := 0, begun := true } 29 = areaK E (openJ 0 30 0 0) 29 := areaK_congr rfl fun i hi => by
      rw [l3, if_neg]
      show ¬ (0 : Int) + 1 + (i : Int) = 0
      omega
    intro b hb
    have hb' : b ∈ areaK E (openJ 0 30 0 0) 29 := by rw [← this]; exact hb
    rw [ha b hb']
    exact safeB_take zB_take
end Go.Proofs.YtiknmcdighkclaaDoor
/-
  Layer 14: what lives() does to its disk and its journal, in plain words.
-/
set_option linter.unusedSimpArgs false
set_option linter.unusedVariables false
set_option linter.unnecessarySimpa false
namespace Go.Proofs.YtiknmcdighkclaaDoor
open Go.RowKit
set_option maxRecDepth 100000

theorem On.crash0 {D : DkM} {n : Nat} (h : On D n) : D.crashE [] = 0 ∧ On (D.crash []) n ∧ (∀ y, (D.crash []).readR y = D.sureR y) ∧ ∀ x, (D.crash []).uns x = [] := by
  have hc : crOk D [] = true := rfl
  rw [DkM.crashE, DkM.crash, hc]
  have hs : (D.crDone []).sure = D.sure := by
    show (List.range D.sure.length).map (D.cr [] fun _ => false) = _
    apply List.ext_getElem
    · simp
    · intro i h1 h2
      rw [List.getElem_map, List.getElem_range]
      show D.sure.getD i none = _
      rw [List.getD_eq_getElem?_getD, List.getElem?_eq_getElem h2]
      rfl
  have ho : On (D.crDone []) n := ⟨rfl, by rw [hs, h.len]⟩
  refine ⟨rfl, ho, fun y => ?_, fun x => rfl⟩
  show (D.crDone []).readR y = _
  have hi : (D.crDone []).is y = D.is y := by rw [DkM.is, DkM.is, hs]
  cases e : D.is y with
  | false =>
    rw [e] at hi
    have h1 : (D.crDone []).readR y = [] := by rw [DkM.readR, ho.off, hi]; rfl
    have h2 : D.sureR y = [] := by rw [DkM.sureR, e]; rfl
    rw [h1, h2]
  | true =>
    rw [e] at hi
    have h1 : (D.crDone []).readR y = (D.crDone []).sureR y := by rw [DkM.readR, ho.off, hi]; rfl
    rw [h1, DkM.sureR, DkM.sureR, hi, hs, e]
def rsX : List (Int × List UInt8) := [(20, bX)]
def rsY : List (Int × List UInt8) := [(21, bY)]
theorem rsX_ok {n : Nat} (h : n ≠ 0) : rcOk n rsX := ⟨h, by decide, by intro r hr; rw [List.mem_singleton.1 hr]; exact bX_len, by decide⟩
theorem rsY_ok {n : Nat} (h : n ≠ 0) : rcOk n rsY := ⟨h, by decide, by intro r hr; rw [List.mem_singleton.1 hr]; exact bY_len, by decide⟩
/-- The journal of lives() behind its reset. -/
def jL (m u : Nat) : JrM := ⟨2, 16, m, u, true, false⟩
/-- What lies behind an append of one redo. -/
theorem app_one {D : DkM} {m u : Nat} {rs : List (Int × List UInt8)} (h : On D 30) (hr : rcOk m rs) (hl : rs.length = 1) (hm : m + 1 < 18446744073709551616) (hj : jMay 30 (jL m u) rs = true) (hu : u ≤ 12) :
    ∃ E, appM D (jL m u) rs = (0, E, jL (m + 1) (u + 3)) ∧ On E 30 ∧ (∀ y, E.readR y = if 3 + (u : Int) ≤ y ∧ y < 3 + (u : Int) + (blkL m rs ++ [doneB m (blkL m rs).flatten]).length then (blkL m rs ++ [doneB m (blkL m rs).flatten]).getD (y - (3 + (u : Int))).toNat [] else D.readR y) ∧
      (∀ y, E.sureR y = if 3 + (u : Int) ≤ y ∧ y < 3 + (u : Int) + (blkL m rs).length then (blkL m rs).getD (y - (3 + (u : Int))).toNat [] else D.readR y) ∧ ∀ x, (E.uns x).length ≤ (D.uns x).length + 67 := by
  have hb5 := blk_512 hr
  have hd5 : (doneB m (blkL m rs).flatten).length = 512 := doneB_len _ _
  have hlen : (blkL m rs).length = 2 := by rw [blkL_len, hl]
  obtain ⟨k1, k2, k3, k4⟩ := runS_appS (blkL m rs) (doneB m (blkL m rs).flatten) D 30 (3 + (u : Int)) h (by omega) (by rw [hlen]; omega) hb5 hd5
  refine ⟨(runS D (appS (3 + (u : Int)) (blkL m rs) (doneB m (blkL m rs).flatten))).2, ?_, k2, k3, k4, fun x => ?_⟩
  · unfold appM
    have e1 : (jL m u).first + 1 + (jL m u).used = 3 + (u : Int) := rfl
    have e2 : (jL m u).num = m := rfl
    rw [if_neg (show ¬ (jL m u).bad = true by simp [jL]), e2, if_neg (by simp [hr]), h.len, if_neg (show ¬ jMay ((30 : Nat) : Int) (jL m u) rs = false by rw [show ((30 : Nat) : Int) = 30 from rfl, hj]; simp), e1]
    rw [if_neg (show ¬ (jL m u).most < rs.length by rw [hl]; show ¬ min ((16 : Int) - 3) 64 < ((1 : Nat) : Int); omega), if_neg (show ¬ (jL m u).room < rs.length by rw [hl]; simp [JrM.room, jL]; omega), k1, if_pos rfl, hl, Nat.mod_eq_of_lt hm]
    rfl
  · have := runS_uns (appS (3 + (u : Int)) (blkL m rs) (doneB m (blkL m rs).flatten)) D x
    have hl2 : (appS (3 + (u : Int)) (blkL m rs) (doneB m (blkL m rs).flatten)).length = 4 := by rw [appS, List.length_append, wrS_len, hlen]; rfl
    omega
theorem trV_cutoff {m : Nat} {rs : List (Int × List UInt8)} (h : rcOk m rs) (hm : m < 18446744073709551616) (x : List (List UInt8)) : trV m (blkL m rs ++ zB512 :: x) = none :=
  trV_no (blk_head h hm _) fun j => by
    have := j.2.2.2.1
    rw [rcP_len, getD_mid _ _ _ _ (blkL_len _ _)] at this
    have e := doneB_take m ((blkL m rs ++ zB512 :: x).take (rs.length + 1)).flatten
    rw [← this] at e
    revert e
    decide
/-- What lives() comes by. -/
theorem l14 : ∃ D2 D3 D4 D5 D6 D7, (initE (newD 30) 2 16 = (0, D2) ∧ (∀ x, (D2.uns x).length ≤ 2) ∧ jRight D2 2 16 = true ∧ D2.off = false ∧ rmV (D2.readR 2) = some 1 ∧ scanA D2 2 16 1 = ([], 0, 1)) ∧
    (appM D2 (openJ 2 16 1 0) rsX = (2, D2, openJ 2 16 1 0)) ∧ (resM D2 (openJ 2 16 1 0) = (0, D3, jL 17 0) ∧ (∀ x, (D3.uns x).length ≤ 4)) ∧ (appM D3 (jL 17 0) rsX = (0, D4, jL 18 3) ∧ (∀ x, (D4.uns x).length ≤ 71)) ∧
    (D4.flushE = 0 ∧ D4.flush = D5 ∧ (∀ x, (D5.uns x).length ≤ 71)) ∧ (appM D5 (jL 18 3) rsY = (0, D6, jL 19 6) ∧ (∀ x, (D6.uns x).length ≤ 138)) ∧
    (D6.crashE [] = 0 ∧ D6.crash [] = D7 ∧ jRight D7 2 16 = true ∧ D7.off = false ∧ rmV (D7.readR 2) = some 17 ∧ scanA D7 2 16 17 = (rsX, 3, 18)) := by
  have hr0 : jRight (newD 30) 2 16 = true := by rw [jRight, (On.new 30).len]; decide
  obtain ⟨k1, k2, k3, -⟩ := mkE_ok (On.new 30) (x := 2) (by omega) (by omega) (m := 1) (by decide)
  have u2 : ∀ x, ((mkE (newD 30) 2 1).2.uns x).length ≤ 2 := fun x => by have := mkE_uns (newD 30) 2 1 x; have e : ((newD 30).uns x).length = 0 := rfl; omega
  obtain ⟨D2, hD2⟩ : ∃ D, (mkE (newD 30) 2 1).2 = D := ⟨_, rfl⟩
  have i0 : initE (newD 30) 2 16 = (0, D2) := by rw [initE, if_pos hr0]; exact Prod.ext k1 hD2
  rw [hD2] at k2 k3 u2
  obtain ⟨l1, l2, l3, -⟩ := mkE_ok k2 (x := 2) (by omega) (by omega) (m := 17) (by decide)
  have u3 : ∀ x, ((mkE D2 2 17).2.uns x).length ≤ 4 := fun x => by have := mkE_uns D2 2 17 x; have := u2 x; omega
  obtain ⟨D3, hD3⟩ : ∃ D, (mkE D2 2 17).2 = D := ⟨_, rfl⟩
  rw [hD3] at l2 l3 u3
  obtain ⟨D4, a1, a2, a3, -, u4⟩ := app_one (m := 17) (u := 0) l2 (rsX_ok (by decide)) rfl (by omega) (by decide) (by omega)
  obtain ⟨f1, f2, f3⟩ := a2.flush
  have f4 : ∀ y, D4.flush1.readR y = D4.readR y := a2.flush_read
  have u5 : ∀ x, D4.flush1.uns x = [] := fun x => rfl
  obtain ⟨D5, hD5⟩ : ∃ D, D4.flush1 = D := ⟨_, rfl⟩
  rw [hD5] at f2 f3 f4 u5
  obtain ⟨D6, b1, b2, -, b4, u6⟩ := app_one (m := 18) (u := 3) f3 (rsY_ok (by decide)) rfl (by omega) (by decide) (by omega)
  obtain ⟨c1, c2, c3, -⟩ := b2.crash0
  obtain ⟨D7, hD7⟩ : ∃ D, D6.crash [] = D := ⟨_, rfl⟩
  rw [hD7] at c2 c3
  have r2 : ∀ D : DkM, On D 30 → jRight D 2 16 = true := fun D h => by rw [jRight, h.len]; decide
  have e7 : ∀ y, D7.readR y = if 6 ≤ y ∧ y < 6 + (2 : Int) then (blkL 18 rsY).getD (y - 6).toNat [] else D5.readR y := fun y => by rw [c3, b4]; rfl
  have z2 : areaK D3 (openJ 2 16 0 0) 15 = List.replicate 15 zB512 := by
    apply List.ext_getElem
    · rw [areaK_len, List.length_replicate]
    · intro i h1 h2
      rw [areaK_len] at h1
      rw [List.getElem_replicate]
      simp only [areaK, List.getElem_map, List.getElem_range]
      show D3.readR (2 + 1 + (i : Nat)) = _
      rw [l3, if_neg (by omega), k3, if_neg (by omega)]
      exact (On.new_read 30 (by omega) (by omega)).1
  have z0 : ∀ b ∈ areaK D2 (openJ 2 16 0 0) 15, b = zB512 := by
    intro b hb
    obtain ⟨i, hi, rfl⟩ := List.mem_map.1 hb
    have := List.mem_range.1 hi
    show D2.readR (2 + 1 + (i : Nat)) = _
    rw [k3, if_neg (by omega)]
    exact (On.new_read 30 (by omega) (by omega)).1
  have w4 := areaK_write (E := D4) (D := D3) (J := openJ 2 16 0 0) (k := 15) (u := 0) (L := blkL 17 rsX ++ [doneB 17 (blkL 17 rsX).flatten]) a3 (by rw [blk_len2]; decide)
  have w5 : areaK D5 (openJ 2 16 0 0) 15 = areaK D4 (openJ 2 16 0 0) 15 := areaK_congr rfl fun i hi => f4 _
  have w7 := areaK_write (E := D7) (D := D5) (J := openJ 2 16 0 0) (k := 15) (u := 3) (L := blkL 18 rsY) e7 (by rw [blkL_len]; decide)
  have hl1 : (blkL 17 rsX ++ [doneB 17 (blkL 17 rsX).flatten]).length = 3 := blk_len2 _ _ _
  have hl2 : (blkL 18 rsY).length = 2 := blkL_len _ _
  obtain ⟨bs, hbs⟩ : ∃ bs, blkL 17 rsX ++ [doneB 17 (blkL 17 rsX).flatten] = bs := ⟨_, rfl⟩
  rw [hbs] at hl1 w4
  rw [z2, List.take_zero, List.nil_append, hl1] at w4
  rw [w5, w4, hl2, List.take_left' hl1, show (3 : Nat) + 2 = 3 + 2 from rfl, ← List.drop_drop, List.drop_left' hl1, List.drop_replicate, List.drop_replicate] at w7
  refine ⟨D2, D3, D4, D5, D6, D7, ⟨i0, u2, r2 _ k2, k2.off, by rw [k3, if_pos rfl]; exact rmV_mark (by decide) (by decide), ?_⟩, ?_, ⟨?_, u3⟩, ⟨a1, fun x => by have := u4 x; have := u3 x; omega⟩, ⟨f1, f2, fun x => by rw [u5]; exact Nat.zero_le _⟩, ⟨b1, fun x => by have := u6 x; rw [u5] at this; simpa using Nat.le_trans this (by decide)⟩, c1, hD7, r2 _ c2, c2.off, ?_, ?_⟩
  · exact scanJ_no (trV_zero z0)
  · unfold appM
    rw [if_neg (show ¬ (openJ 2 16 1 0).bad = true by simp [openJ]), if_neg (show ¬ ¬ rcOk (openJ 2 16 1 0).num rsX by simp only [Classical.not_not]; exact rsX_ok (by decide)), k2.len, if_neg (show ¬ jMay ((30 : Nat) : Int) (openJ 2 16 1 0) rsX = false by decide), if_neg (show ¬ (openJ 2 16 1 0).most < rsX.length by decide), if_pos (show (openJ 2 16 1 0).room < rsX.length by decide)]
  · unfold resM
    rw [if_neg (show ¬ (openJ 2 16 1 0).bad = true by simp [openJ]), show (openJ 2 16 1 0).next = 17 from rfl, show (openJ 2 16 1 0).first = 2 from rfl, l1, hD3, if_pos rfl]
    rfl
  · rw [e7, if_neg (by omega), f4, a3, if_neg (by omega), l3, if_pos rfl]
    exact rmV_mark (by decide) (by decide)
  · have hA : areaK D7 (openJ 2 16 0 0) 15 = bsOf 17 [rsX] ++ (blkL 18 rsY ++ zB512 :: List.replicate 9 zB512) := by
      rw [w7, bsOf, bsOf, List.append_nil, hbs]
      rfl
    show scanJ D7.sure.length (openJ 2 16 0 0) 15 17 (areaK D7 (openJ 2 16 0 0) 15) = _
    rw [hA, c2.len, scanJ_tx (n := ((30 : Nat) : Int)) (J := openJ 2 16 0 0) (rest := blkL 18 rsY ++ zB512 :: List.replicate 9 zB512) [rsX] 17 15 ⟨rsX_ok (by decide), by decide, trivial⟩ (by decide) (by decide) (trV_cutoff (m := 18) (rsY_ok (by decide)) (by decide) _)]
    rw [bsOf, bsOf, List.append_nil, hbs, hl1]
    rfl
end Go.Proofs.YtiknmcdighkclaaDoor
