/-
  HeadNewer, the walk: of two copies the newer one counts; of one that is spoilt the other.
-/
import Derived.Test.YtlelgeigighecaaDoorHeadN
set_option linter.unusedSimpArgs false
set_option linter.unusedVariables false
set_option linter.unnecessarySimpa false
namespace Go.Proofs.YtlelgeigighecaaDoor
open Go.RowKit

set_option maxRecDepth 100000 in
set_option maxHeartbeats 4000000 in
theorem headNew_any (w : World) (h : HeadM) (hs : h.ok) (A : Option Addr) (l : List UInt8) (n c : Nat) (hn : l.length = n) (hr : Rd w A (bvs l)) (hA : A = none → n = 0) (hc : n ≤ c) (hK : KG w) :
    Calls Tryd.prog 7 #[.agg h.cells.toArray, .slice A n c] w fun e w' => e = .returned (.bool true) ∧ Fr [] w w' := by
  have HN := Lib.hid hn
  have HR := Lib.hid (fun _ : Unit => hr)
  clear hn hr
  cases hg : h.good
  · have HG := Lib.hid hg
    clear hg
    go_enter Tryd.func7, Tryd.ntmps7
    go_wp2_with
      (first
        | (refine wpList_boxS rfl rfl h.cells rfl ?_; intro w1 h1 f1 z1; have Z1 := Lib.hid z1; clear z1; obtain ⟨g, hg⟩ : ∃ g, w.heap.size = g := ⟨_, rfl⟩; rw [hg] at h1; rw [hg]; have HGG := Lib.hid hg; clear hg)
        | (refine wpList_ldS stHead rfl rfl g 0 rfl h.cells (HeadM.len hs) h1.range0 ?_))
    refine (hEncode_any w1 h hs (hK.keep f1)).mono ?_
    intro e w2 hE
    obtain ⟨A2, c2, rfl,  r2, f2⟩ := hE.no HG.out
    clear hE
    have h2 := h1.keep_nil f2
    have F2 := f1.trans_nil f2
    clear h1 f1 f2
    go_wp2_with fail
    refine (lives11_any w2 (hK.keep F2)).mono ?_
    rintro e w3 ⟨rfl, f3⟩
    have h3 := h2.keep_nil f3
    have F3 := F2.trans_nil f3
    have r3 := r2.keep_nil f3
    clear h2 F2 f3 r2
    obtain ⟨c0, -⟩ := head_cells h3
    go_wp2_with
      (first
        | (refine wpList_ldS stHead rfl rfl g 0 rfl h.cells (HeadM.len hs) h3.range0 ?_))
    refine (xhCheck_any h hs w3).mono ?_
    rintro e w4 ⟨rfl, f4⟩
    rw [HG.out, show errG false 1 = 1 from rfl]
    go_wp2_with fail
    go_ret
    exact ⟨rfl, F3.trans_nil f4⟩
  · have HG := Lib.hid hg
    have I := HeadM.in_of hg
    clear hg
    by_cases hmax : h.gen = 18446744073709551615
    · have K : ((h.gen : Int) == 18446744073709551615) = true := by rw [hmax]; rfl
      clear I hmax
      go_enter Tryd.func7, Tryd.ntmps7
      go_wp2_with
        (first
          | (refine wpList_boxS rfl rfl h.cells rfl ?_; intro w1 h1 f1 z1; have Z1 := Lib.hid z1; clear z1; obtain ⟨g, hg⟩ : ∃ g, w.heap.size = g := ⟨_, rfl⟩; rw [hg] at h1; rw [hg]; have HGG := Lib.hid hg; clear hg)
          | (refine wpList_ldS stHead rfl rfl g 0 rfl h.cells (HeadM.len hs) h1.range0 ?_))
      refine (hEncode_any w1 h hs (hK.keep f1)).mono ?_
      intro e w2 hE
      obtain ⟨A2, c2, rfl, hc2, r2, f2⟩ := hE.yes HG.out
      clear hE
      have h2 := h1.keep_nil f2
      have F2 := f1.trans_nil f2
      clear h1 f1 f2
      go_wp2_with fail
      refine (lives11_any w2 (hK.keep F2)).mono ?_
      rintro e w3 ⟨rfl, f3⟩
      have h3 := h2.keep_nil f3
      have F3 := F2.trans_nil f3
      have r3 := r2.keep_nil f3
      clear h2 F2 f3 r2
      obtain ⟨c0, -⟩ := head_cells h3
      go_wp2_with
        (first
          | (refine wpList_ldS stHead rfl rfl g 0 rfl h.cells (HeadM.len hs) h3.range0 ?_))
      refine (xhCheck_any h hs w3).mono ?_
      rintro e w4 ⟨rfl, f4⟩
      rw [HG.out, show errG true 1 = 0 from rfl]
      go_wp2_with fail
      go_ret
      exact ⟨rfl, F3.trans_nil f4⟩
    · have hgl := hs.gen
      have K : ((h.gen : Int) == 18446744073709551615) = false := by rw [beq_eq_false_iff_ne]; omega
      obtain ⟨h', hh'⟩ : ∃ x : HeadM, x = { h with gen := h.gen + 1 } := ⟨_, rfl⟩
      have os : h'.ok := by rw [hh']; exact { hs with gen := by dsimp only; omega }
      have og : h'.good = true := by rw [hh']; exact HeadM.good_of { I with gen := by dsimp only; omega }
      have gn : h'.gen = h.gen + 1 := by rw [hh']
      have cells' : (h.cells.toArray.setIfInBounds 0 (.int .u64 (h'.gen : Int))) = h'.cells.toArray := by rw [hh']; rfl
      have E1 : (h.gen : Int) + 1 = (h'.gen : Int) := by omega
      have gl' : h'.gen < 18446744073709551616 := os.gen
      have da := decH_bytes hs HG.out
      have db := decH_bytes os og
      have la := (bytes_parts hs).2.2
      have lb := (bytes_parts os).2.2
      have va : decHV h.bytes = h := by rw [decHV, da]; rfl
      have vb : decHV h'.bytes = h' := by rw [decHV, db]; rfl
      have x1 : chM h.bytes h'.bytes = (h', 1, 0) := by
        unfold chM
        rw [da, db, va, vb]
        simp [gn]
      have x2 : chM h'.bytes h.bytes = (h', 0, 0) := by
        unfold chM
        rw [da, db, va, vb]
        simp [gn, errG]
      have x3 : decH l = none → chM l h.bytes = (h, 1, 0) := fun e => by
        unfold chM
        rw [e, da, va]
        simp
      have x4 : decH l = none → chM h.bytes l = (h, 0, 0) := fun e => by
        unfold chM
        rw [e, da, va]
        simp [errG]
      obtain ⟨qa, hqa⟩ : ∃ q, h.bytes = q := ⟨_, rfl⟩
      obtain ⟨qb, hqb⟩ : ∃ q, h'.bytes = q := ⟨_, rfl⟩
      rw [hqa] at la x1 x2 x3 x4
      rw [hqb] at lb x1 x2
      have HQ := Lib.hid (fun _ : Unit => And.intro hqa hqb)
      have HL := Lib.hid (And.intro la lb)
      have HX := Lib.hid (fun _ : Unit => And.intro x1 (And.intro x2 (And.intro x3 x4)))
      have HC' := Lib.hid cells'
      have HO := Lib.hid (And.intro os og)
      clear I hmax hh' da db la lb va vb x1 x2 x3 x4 hqa hqb cells' gn
      go_enter Tryd.func7, Tryd.ntmps7
      go_wp2_with
        (first
          | (refine wpList_boxS rfl rfl h.cells rfl ?_; intro w1 h1 f1 z1; have Z1 := Lib.hid z1; clear z1; obtain ⟨g, hg⟩ : ∃ g, w.heap.size = g := ⟨_, rfl⟩; rw [hg] at h1; rw [hg]; have HGG := Lib.hid hg; clear hg)
          | (refine wpList_ldS stHead rfl rfl g 0 rfl h.cells (HeadM.len hs) h1.range0 ?_))
      refine (hEncode_any w1 h hs (hK.keep f1)).mono ?_
      intro e w2 hE
      obtain ⟨A2, c2, rfl, hc2, r2, f2⟩ := hE.yes HG.out
      clear hE
      have h2 := h1.keep_nil f2
      have F2 := f1.trans_nil f2
      clear h1 f1 f2
      go_wp2_with fail
      refine (lives11_any w2 (hK.keep F2)).mono ?_
      rintro e w3 ⟨rfl, f3⟩
      have h3 := h2.keep_nil f3
      have F3 := F2.trans_nil f3
      have r3 := r2.keep_nil f3
      clear h2 F2 f3 r2
      obtain ⟨c0, -⟩ := head_cells h3
      rw [(HQ.out ()).1] at r3
      have os := HO.out.1
      go_wp2_with
        (first
          | (refine wpList_ldS (o := ⟨some 42, _, _, _, _, _⟩) stHead rfl rfl g 0 rfl h.cells (HeadM.len hs) h3.range0 ?_)
          | (refine wpList_alS stHead (o := ⟨some 7, _, _, _, _, _⟩) rfl rfl ?_; intro w4 h4 f4 z4; have Z4 := Lib.hid z4; clear z4; obtain ⟨g7, hg7⟩ : ∃ g, w3.heap.size = g := ⟨_, rfl⟩; rw [hg7] at h4; rw [hg7]; have HG7 := Lib.hid hg7; clear hg7)
          | (refine wpList_stB stHead rfl rfl g7 rfl h.cells rfl (HeadM.len hs) h.ones zeroH.cells (HeadM.len zeroH_ok) h4 ?_; intro w5 h5 f5 z5; have Z5 := Lib.hid z5; clear z5; have d0 := (head_cells h5).1; have y0 := h5.frozen 0)
          | (refine wpList_ldS (o := ⟨some 48, _, _, _, _, _⟩) stHead rfl rfl g7 0 rfl h'.cells (HeadM.len os) (Blk.range0 (by have := h5.set_ 0 (.int .u64 (h'.gen : Int)); rwa [HC'.out] at this)) ?_))
      have fs : Fr [g7] w5 (w5.setCell ⟨g7, 0, none⟩ (.int .u64 (h'.gen : Int))) := (Fr.refl _ _).setCell (.inl (by simp)) _
      have i7 := h5.set_ 0 (.int .u64 (h'.gen : Int))
      rw [HC'.out] at i7
      have fx : Fr [] w3 (w5.setCell ⟨g7, 0, none⟩ (.int .u64 (h'.gen : Int))) := (f4.trans f5 (fun i hi => .inr (by have := HG7.out; simp at hi; omega))).trans fs (fun i hi => .inr (by have := HG7.out; simp at hi; omega))
      generalize w5.setCell ⟨g7, 0, none⟩ (.int .u64 (h'.gen : Int)) = w6 at *
      have h6 := h3.keep_nil fx
      have F6 := F3.trans_nil fx
      have r6 := r3.keep_nil fx
      clear h3 F3 r3 fx fs f4 f5 h4 h5 d0 y0 c0
      refine (hEncode_any w6 h' os (hK.keep F6)).mono ?_
      intro e w7 hE
      obtain ⟨A7, c7, rfl, hc7, r7, f7⟩ := hE.yes HO.out.2
      clear hE
      rw [(HQ.out ()).2] at r7
      have h7 := h6.keep_nil f7
      have F7 := F6.trans_nil f7
      have ra := r6.keep_nil f7
      have i8 := i7.keep_nil f7
      clear h6 F6 r6 f7 i7
      have n2 : A2 = none → 512 = 0 := ra.rd.2.2
      have n7 : A7 = none → 512 = 0 := r7.rd.2.2
      have KW := Lib.hid (fun _ : Unit => hK.keep F7)
      have c12 := fun (wx : World) (f : Fr [] w7 wx) => hChoose_any wx A2 A7 qa qb 512 512 c2 c7 HL.out.1 (ra.rdA.keep_nil f) n2 hc2 HL.out.2 (r7.rdA.keep_nil f) n7 hc7 ((KW.out ()).keep f)
      have c21 := fun (wx : World) (f : Fr [] w7 wx) => hChoose_any wx A7 A2 qb qa 512 512 c7 c2 HL.out.2 (r7.rdA.keep_nil f) n7 hc7 HL.out.1 (ra.rdA.keep_nil f) n2 hc2 ((KW.out ()).keep f)
      unfold ChH at c12 c21
      rw [(HX.out ()).1] at c12
      rw [(HX.out ()).2.1] at c21
      have C12 := Lib.hid c12
      have C21 := Lib.hid c21
      have rl : Rd w7 A (bvs l) := (HR.out ()).keep_nil F7
      have cd := fun (wx : World) (f : Fr [] w7 wx) => xhDecode_any wx A l n c HN.out (rl.keep_nil f) hA hc
      unfold DecH at cd
      have CD := Lib.hid cd
      have c3 := fun (e : decH l = none) (wx : World) (f : Fr [] w7 wx) => hChoose_any wx A A2 l qa n 512 c c2 HN.out (rl.keep_nil f) hA hc HL.out.1 (ra.rdA.keep_nil f) n2 hc2 ((KW.out ()).keep f)
      have c4 := fun (e : decH l = none) (wx : World) (f : Fr [] w7 wx) => hChoose_any wx A2 A qa l 512 n c2 c HL.out.1 (ra.rdA.keep_nil f) n2 hc2 HN.out (rl.keep_nil f) hA hc ((KW.out ()).keep f)
      unfold ChH at c3 c4
      have C3 := Lib.hid (fun (e : decH l = none) (wx : World) (f : Fr [] w7 wx) => by have := c3 e wx f; rwa [(HX.out ()).2.2.1 e] at this)
      have C4 := Lib.hid (fun (e : decH l = none) (wx : World) (f : Fr [] w7 wx) => by have := c4 e wx f; rwa [(HX.out ()).2.2.2 e] at this)
      clear c12 c21 cd c3 c4 rl ra r7 n2 n7 hc2 hc7
      go_wp2_with fail
      refine (C12.out w7 (Fr.refl _ _)).mono ?_
      rintro e w8 ⟨rfl, f8⟩
      go_wp2_with
        (first
          | (refine wpList_alS stHead (o := ⟨some 10, _, _, _, _, _⟩) rfl rfl ?_; intro wa ha fa za; have ZA := Lib.hid za; clear za; obtain ⟨g10, hgg⟩ : ∃ g, w8.heap.size = g := ⟨_, rfl⟩; rw [hgg] at ha; rw [hgg]; have HGg10 := Lib.hid hgg; clear hgg)
          | (refine wpList_stB stHead rfl rfl g10 rfl (h').cells rfl (HeadM.len os) (HeadM.ones _) zeroH.cells (HeadM.len zeroH_ok) ha ?_; intro w9 k9 fb zb; have ZB := Lib.hid zb; clear zb))
      have f0 : Fr [] w8 w9 := fa.trans fb (fun i hi => .inr (by have := HGg10.out; simp at hi; omega))
      clear ha fa fb
      have f9 := f8.trans_nil f0
      clear f0 f8
      refine (C21.out w9 f9).mono ?_
      rintro e w10 ⟨rfl, f10⟩
      have f10' := f9.trans_nil f10
      have k10 := k9.keep_nil f10
      clear f9 f10 k9
      go_upto_region 11 with
        (first
          | (refine wpList_alS stHead (o := ⟨some 13, _, _, _, _, _⟩) rfl rfl ?_; intro wa ha fa za; have ZA := Lib.hid za; clear za; obtain ⟨g13, hgg⟩ : ∃ g, w10.heap.size = g := ⟨_, rfl⟩; rw [hgg] at ha; rw [hgg]; have HG13 := Lib.hid hgg; clear hgg)
          | (refine wpList_stB stHead rfl rfl g13 rfl h'.cells rfl (HeadM.len os) (HeadM.ones _) zeroH.cells (HeadM.len zeroH_ok) ha ?_; intro w11 k11 fb zb; have ZB := Lib.hid zb; clear zb))
      have f0 : Fr [] w10 w11 := fa.trans fb (fun i hi => .inr (by have := HG13.out; simp at hi; omega))
      clear ha fa fb
      have f11 := f10'.trans_nil f0
      have k12 := k10.keep_nil f0
      have i11 := i8.keep_nil f11
      clear f10' f0 k10
      go_wp2_with
        (first
          | (refine wpList_ldS stHead rfl rfl g10 0 rfl h'.cells (HeadM.len os) k12.range0 ?_)
          | (refine wpList_ldS stHead rfl rfl g13 0 rfl h'.cells (HeadM.len os) k11.range0 ?_)
          | (refine wpList_ldS stHead rfl rfl g7 0 rfl h'.cells (HeadM.len os) i11.range0 ?_)
          | (refine wpList_eqS stHead rfl rfl (.inr rfl) rfl rfl true ((head_eq os os _).trans (by rw [(HeadM.eqB_iff _ _).2 rfl])) ?_))
      clear k12 k11 i11
      have okl := decHV_ok l
      refine (CD.out w11 f11).mono ?_
      rintro e w12 ⟨rfl, f12⟩
      have f12' := f11.trans_nil f12
      clear f11 f12
      cases hd : decH l with
      | some s =>
        rw [show errG (some s).isSome 110 = 0 from rfl]
        obtain ⟨dv, hdv⟩ : ∃ v, decHV l = v := ⟨_, rfl⟩
        rw [hdv] at okl
        rw [hdv]
        go_wp2_with
          (first
            | (refine wpList_alS stHead (o := ⟨some 16, _, _, _, _, _⟩) rfl rfl ?_; intro wa ha fa za; have ZA := Lib.hid za; clear za; obtain ⟨g16, hgg⟩ : ∃ g, w12.heap.size = g := ⟨_, rfl⟩; rw [hgg] at ha; rw [hgg]; have HGg16 := Lib.hid hgg; clear hgg)
            | (refine wpList_stB stHead rfl rfl g16 rfl (dv).cells rfl (HeadM.len okl) (HeadM.ones _) zeroH.cells (HeadM.len zeroH_ok) ha ?_; intro w13 k13 fb zb; have ZB := Lib.hid zb; clear zb))
        have f0 : Fr [] w12 w13 := fa.trans fb (fun i hi => .inr (by have := HGg16.out; simp at hi; omega))
        clear ha fa fb
        go_ret
        exact ⟨rfl, (F7.trans_nil f12').trans_nil f0⟩
      | none =>
        rw [show errG (none : Option HeadM).isSome 110 = 110 from rfl]
        obtain ⟨dv, hdv⟩ : ∃ v, decHV l = v := ⟨_, rfl⟩
        rw [hdv] at okl
        rw [hdv]
        go_wp2_with
          (first
            | (refine wpList_alS stHead (o := ⟨some 16, _, _, _, _, _⟩) rfl rfl ?_; intro wa ha fa za; have ZA := Lib.hid za; clear za; obtain ⟨g16, hgg⟩ : ∃ g, w12.heap.size = g := ⟨_, rfl⟩; rw [hgg] at ha; rw [hgg]; have HGg16 := Lib.hid hgg; clear hgg)
            | (refine wpList_stB stHead rfl rfl g16 rfl (dv).cells rfl (HeadM.len okl) (HeadM.ones _) zeroH.cells (HeadM.len zeroH_ok) ha ?_; intro w13 k13 fb zb; have ZB := Lib.hid zb; clear zb))
        have f0 : Fr [] w12 w13 := fa.trans fb (fun i hi => .inr (by have := HGg16.out; simp at hi; omega))
        clear ha fa fb
        have f13 := f12'.trans_nil f0
        clear f12' f0
        refine (C3.out hd w13 f13).mono ?_
        rintro e w14 ⟨rfl, f14⟩
        have f14' := f13.trans_nil f14
        clear f13 f14
        go_wp2_with
          (first
            | (refine wpList_alS stHead (o := ⟨some 18, _, _, _, _, _⟩) rfl rfl ?_; intro wa ha fa za; have ZA := Lib.hid za; clear za; obtain ⟨g18, hgg⟩ : ∃ g, w14.heap.size = g := ⟨_, rfl⟩; rw [hgg] at ha; rw [hgg]; have HGg18 := Lib.hid hgg; clear hgg)
            | (refine wpList_stB stHead rfl rfl g18 rfl (h).cells rfl (HeadM.len hs) (HeadM.ones _) zeroH.cells (HeadM.len zeroH_ok) ha ?_; intro w15 k15 fb zb; have ZB := Lib.hid zb; clear zb))
        have f0 : Fr [] w14 w15 := fa.trans fb (fun i hi => .inr (by have := HGg18.out; simp at hi; omega))
        clear ha fa fb
        have f15 := f14'.trans_nil f0
        clear f14' f0
        refine (C4.out hd w15 f15).mono ?_
        rintro e w16 ⟨rfl, f16⟩
        have f16' := f15.trans_nil f16
        have k16 := k15.keep_nil f16
        clear f15 f16 k15
        go_upto_region 18 with
          (first
            | (refine wpList_alS stHead (o := ⟨some 21, _, _, _, _, _⟩) rfl rfl ?_; intro wa ha fa za; have ZA := Lib.hid za; clear za; obtain ⟨g21, hgg⟩ : ∃ g, w16.heap.size = g := ⟨_, rfl⟩; rw [hgg] at ha; rw [hgg]; have HG21 := Lib.hid hgg; clear hgg)
            | (refine wpList_stB stHead rfl rfl g21 rfl h.cells rfl (HeadM.len hs) (HeadM.ones _) zeroH.cells (HeadM.len zeroH_ok) ha ?_; intro w17 k17 fb zb; have ZB := Lib.hid zb; clear zb))
        have f0 : Fr [] w16 w17 := fa.trans fb (fun i hi => .inr (by have := HG21.out; simp at hi; omega))
        clear ha fa fb
        have f17 := f16'.trans_nil f0
        have k18 := k16.keep_nil f0
        have h17 := h7.keep_nil f17
        clear f16' f0 k16
        go_wp2_with
          (first
            | (refine wpList_ldS stHead rfl rfl g18 0 rfl h.cells (HeadM.len hs) k18.range0 ?_)
            | (refine wpList_ldS stHead rfl rfl g21 0 rfl h.cells (HeadM.len hs) k17.range0 ?_)
            | (refine wpList_ldS stHead rfl rfl g 0 rfl h.cells (HeadM.len hs) h17.range0 ?_)
            | (refine wpList_eqS stHead rfl rfl (.inl rfl) rfl rfl true ((head_eq hs hs _).trans (by rw [(HeadM.eqB_iff _ _).2 rfl])) ?_))
        go_ret
        exact ⟨rfl, F7.trans_nil f17⟩
end Go.Proofs.YtlelgeigighecaaDoor
