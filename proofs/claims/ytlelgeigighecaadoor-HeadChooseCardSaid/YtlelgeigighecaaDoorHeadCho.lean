/-
  HeadChoose, the walk: of any two blocks, which one counts.
-/
import Derived.Test.YtlelgeigighecaaDoorHeadN
set_option linter.unusedSimpArgs false
set_option linter.unusedVariables false
set_option linter.unnecessarySimpa false
namespace Go.Proofs.YtlelgeigighecaaDoor
open Go.RowKit

theorem chM_same (l : List UInt8) : (chM l l).1 = decHV l ∧ (chM l l).2.2 = errG (decH l).isSome 110 := by
  unfold chM
  cases h : (decH l).isSome <;> simp [h]

set_option maxRecDepth 100000 in
set_option maxHeartbeats 4000000 in
theorem headCho_any (w : World) (A B : Option Addr) (l q : List UInt8) (n m c d : Nat) (hn : l.length = n) (hr : Rd w A (bvs l)) (hA : A = none → n = 0) (hc : n ≤ c) (hm : q.length = m) (hs : Rd w B (bvs q)) (hB : B = none → m = 0) (hd : m ≤ d) (hK : KG w) :
    Calls Tryd.prog 6 #[.slice A n c, .slice B m d] w fun e w' => e = .returned (.bool true) ∧ Fr [] w w' := by
  have okC := chM_ok l q
  have okA := decHV_ok l
  obtain ⟨s1, s2⟩ := chM_same l
  have HX := Lib.hid s2
  obtain ⟨⟨cx, cn, ce⟩, hx⟩ : ∃ x, chM l q = x := ⟨_, rfl⟩
  rw [hx] at okC
  replace okC : cx.ok := okC
  have cH := fun (w1 : World) (f : Fr [] w w1) => hChoose_any w1 A B l q n m c d hn (hr.keep_nil f) hA hc hm (hs.keep_nil f) hB hd (hK.keep f)
  have cX := fun (w1 : World) (f : Fr [] w w1) => xhChoose_any w1 A B l q n m c d hn (hr.keep_nil f) hA hc hm (hs.keep_nil f) hB hd
  have cS := fun (w1 : World) (f : Fr [] w w1) => hChoose_any w1 A A l l n n c c hn (hr.keep_nil f) hA hc hn (hr.keep_nil f) hA hc (hK.keep f)
  have cD := fun (w1 : World) (f : Fr [] w w1) => xhDecode_any w1 A l n c hn (hr.keep_nil f) hA hc
  unfold ChH at cH cX cS
  unfold DecH at cD
  simp only [hx] at cH cX
  rw [s1, s2] at cS
  obtain ⟨ks, hks⟩ : ∃ k, (chM l l).2.1 = k := ⟨_, rfl⟩
  rw [hks] at cS
  obtain ⟨dv, hdv⟩ : ∃ v, decHV l = v := ⟨_, rfl⟩
  rw [hdv] at cS cD okA
  obtain ⟨ev, hev⟩ : ∃ v, errG (decH l).isSome 110 = v := ⟨_, rfl⟩
  rw [hev] at cS cD
  have CH := Lib.hid cH
  have CX := Lib.hid cX
  have CS := Lib.hid cS
  have CD := Lib.hid cD
  clear cH cX cS cD hx s1 s2 HX hks hdv hev hn hr hA hc hm hs hB hd
  go_enter Tryd.func6, Tryd.ntmps6
  go_wp2_with fail
  refine (CH.out w (Fr.refl _ _)).mono ?_
  rintro e w1 ⟨rfl, F1⟩
  go_wp2_with
    (first
      | (refine wpList_alS stHead (o := ⟨some 5, _, _, _, _, _⟩) rfl rfl ?_; intro wa ha fa za; have ZA := Lib.hid za; clear za; obtain ⟨g5, hgg⟩ : ∃ g, w1.heap.size = g := ⟨_, rfl⟩; rw [hgg] at ha; rw [hgg]; have HGg5 := Lib.hid hgg; clear hgg)
      | (refine wpList_stB stHead rfl rfl g5 rfl (cx).cells rfl (HeadM.len okC) (HeadM.ones _) zeroH.cells (HeadM.len zeroH_ok) ha ?_; intro w2 h2 fb zb; have ZB := Lib.hid zb; clear zb))
  have f0 : Fr [] w1 w2 := fa.trans fb (fun i hi => .inr (by have := HGg5.out; simp at hi; omega))
  clear ha fa fb
  have F2 := F1.trans_nil f0
  refine (CX.out w2 F2).mono ?_
  rintro e w3 ⟨rfl, f3⟩
  have F3 := F2.trans_nil f3
  have a3 := h2.keep_nil f3
  clear f0 f3 F1 F2 h2
  go_wp2_with
    (first
      | (refine wpList_alS stHead (o := ⟨some 8, _, _, _, _, _⟩) rfl rfl ?_; intro wa ha fa za; have ZA := Lib.hid za; clear za; obtain ⟨g8, hgg⟩ : ∃ g, w3.heap.size = g := ⟨_, rfl⟩; rw [hgg] at ha; rw [hgg]; have HGg8 := Lib.hid hgg; clear hgg)
      | (refine wpList_stB stHead rfl rfl g8 rfl (cx).cells rfl (HeadM.len okC) (HeadM.ones _) zeroH.cells (HeadM.len zeroH_ok) ha ?_; intro w4 h4 fb zb; have ZB := Lib.hid zb; clear zb))
  have f0 : Fr [] w3 w4 := fa.trans fb (fun i hi => .inr (by have := HGg8.out; simp at hi; omega))
  clear ha fa fb
  have F4 := F3.trans_nil f0
  have a4 := a3.keep_nil f0
  refine (CS.out w4 F4).mono ?_
  rintro e w5 ⟨rfl, f5⟩
  have F5 := F4.trans_nil f5
  have a5 := a4.keep_nil f5
  have b5 := h4.keep_nil f5
  clear f0 f5 F3 F4 h4 a3 a4
  go_wp2_with
    (first
      | (refine wpList_alS stHead (o := ⟨some 11, _, _, _, _, _⟩) rfl rfl ?_; intro wa ha fa za; have ZA := Lib.hid za; clear za; obtain ⟨g11, hgg⟩ : ∃ g, w5.heap.size = g := ⟨_, rfl⟩; rw [hgg] at ha; rw [hgg]; have HGg11 := Lib.hid hgg; clear hgg)
      | (refine wpList_stB stHead rfl rfl g11 rfl (dv).cells rfl (HeadM.len okA) (HeadM.ones _) zeroH.cells (HeadM.len zeroH_ok) ha ?_; intro w6 h6 fb zb; have ZB := Lib.hid zb; clear zb))
  have f0 : Fr [] w5 w6 := fa.trans fb (fun i hi => .inr (by have := HGg11.out; simp at hi; omega))
  clear ha fa fb
  have F6 := F5.trans_nil f0
  have a6 := a5.keep_nil f0
  have b6 := b5.keep_nil f0
  refine (CD.out w6 F6).mono ?_
  rintro e w7 ⟨rfl, f7⟩
  have F7 := F6.trans_nil f7
  have a7 := a6.keep_nil f7
  have b7 := b6.keep_nil f7
  have c7 := h6.keep_nil f7
  clear f0 f7 F5 F6 h6 a5 a6 b5 b6
  go_wp2_with
    (first
      | (refine wpList_alS stHead (o := ⟨some 14, _, _, _, _, _⟩) rfl rfl ?_; intro wa ha fa za; have ZA := Lib.hid za; clear za; obtain ⟨g14, hgg⟩ : ∃ g, w7.heap.size = g := ⟨_, rfl⟩; rw [hgg] at ha; rw [hgg]; have HGg14 := Lib.hid hgg; clear hgg)
      | (refine wpList_stB stHead rfl rfl g14 rfl (dv).cells rfl (HeadM.len okA) (HeadM.ones _) zeroH.cells (HeadM.len zeroH_ok) ha ?_; intro w8 h8 fb zb; have ZB := Lib.hid zb; clear zb))
  have f0 : Fr [] w7 w8 := fa.trans fb (fun i hi => .inr (by have := HGg14.out; simp at hi; omega))
  clear ha fa fb
  have F8 := F7.trans_nil f0
  have a8 := a7.keep_nil f0
  have b8 := b7.keep_nil f0
  have c8 := c7.keep_nil f0
  refine (lives11_any w8 (hK.keep F8)).mono ?_
  rintro e w9 ⟨rfl, f9⟩
  have F9 := F8.trans_nil f9
  have a9 := a8.keep_nil f9
  have b9 := b8.keep_nil f9
  have c9 := c8.keep_nil f9
  have d9 := h8.keep_nil f9
  clear f0 f9 F7 F8 h8 a7 a8 b7 b8 c7 c8
  go_wp2_with
    (first
      | (refine wpList_ldS stHead rfl rfl g5 0 rfl cx.cells (HeadM.len okC) a9.range0 ?_)
      | (refine wpList_ldS stHead rfl rfl g8 0 rfl cx.cells (HeadM.len okC) b9.range0 ?_)
      | (refine wpList_ldS stHead rfl rfl g11 0 rfl dv.cells (HeadM.len okA) c9.range0 ?_)
      | (refine wpList_ldS stHead rfl rfl g14 0 rfl dv.cells (HeadM.len okA) d9.range0 ?_)
      | (refine wpList_eqS (o := ⟨some 46, _, _, _, _, _⟩) stHead rfl rfl (.inl rfl) rfl rfl true ((head_eq okC okC _).trans (by rw [(HeadM.eqB_iff _ _).2 rfl])) ?_)
      | (refine wpList_eqS (o := ⟨some 61, _, _, _, _, _⟩) stHead rfl rfl (.inl rfl) rfl rfl true ((head_eq okA okA _).trans (by rw [(HeadM.eqB_iff _ _).2 rfl])) ?_))
  go_ret
  exact ⟨rfl, F9⟩
end Go.Proofs.YtlelgeigighecaaDoor
