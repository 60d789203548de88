/-
  Layer 10: a disk and the reference's; one call of both.
-/
import Derived.Test.YtdhhnioklbnicaaXdH
import Derived.Test.YtdhhnioklbnicaaRow10
import Derived.Deep.DeepCutAuto
import Derived.Deep.CutBlock
import Derived.Deep.LoopGhost
set_option linter.unusedSimpArgs false
set_option linter.unusedVariables false
set_option linter.unnecessarySimpa false
namespace Go.Proofs.Ytdhhnioklbnicaa
open Go.RowKit
set_option maxRecDepth 100000

/-- What a call does to a disk. -/
def O10.by (o : O10) : List UInt8 := if o.bad then o.l else blkOf o.l
def act10 (D : DkM) (o : O10) : DkM :=
  if o.kind = 1 then D.write o.n o.by else if o.kind = 3 then D.flush else if o.kind = 4 then D.crash o.ks else if o.kind = 5 then D.tamper o.n o.by else if o.kind = 6 then D.stop o.n else D
theorem act10_uns (D : DkM) (o : O10) (x : Int) : ((act10 D o).uns x).length ≤ (D.uns x).length + 1 := by
  have hdec : ∀ E : DkM, E.dec.uns = E.uns := fun E => rfl
  unfold act10
  split
  · rw [DkM.write]
    split
    · omega
    · split
      · omega
      · rw [hdec]
        show (if x = o.n then D.uns o.n ++ [o.by] else D.uns x).length ≤ _
        split
        · rename_i e; subst e; simp
        · omega
  split
  · rw [DkM.flush]
    split
    · omega
    · rw [hdec]; exact Nat.zero_le _
  split
  · rw [DkM.crash]
    split
    · exact Nat.zero_le _
    · omega
  split
  · rw [DkM.tamper]
    split
    · omega
    · show (if x = o.n then [] else D.uns x).length ≤ _
      split
      · exact Nat.zero_le _
      · omega
  split
  · rw [DkM.stop]
    split
    · omega
    · show (D.uns x).length ≤ _; omega
  · omega
theorem u8_succ (y : UInt8) : IntKind.u8.wrap ((y.toNat : Int) + 1) = ((y + 1).toNat : Int) := by
  have h := y.toNat_lt
  rw [show IntKind.u8.wrap ((y.toNat : Int) + 1) = ((y.toNat : Int) + 1) % 256 from rfl, UInt8.toNat_add]
  have : (1 : UInt8).toNat = 1 := rfl
  omega
theorem KRd.rdK {w : World} {A : Option Addr} {n : Nat} {ks : List (Int × Int)} (h : KRd w A n ks) : Rd w A (kcells ks) := by
  intro hne
  have h0 : 0 < ks.length := by
    cases ks with
    | nil => exact absurd rfl hne
    | cons a b => simp
  obtain ⟨g, o, e, -⟩ := h.cell 0 h0
  refine ⟨g, o, e, fun j u hu => ?_⟩
  have hj : j < ks.length * 2 := by
    have := (List.getElem?_eq_some_iff.1 hu).1
    rw [kcells_len] at this
    exact this
  obtain ⟨k1, k2⟩ := kcells_0 ks (j / 2) (by omega)
  obtain ⟨g', o', e', c0, c1⟩ := h.cell (j / 2) (by omega)
  rw [e] at e'
  cases e'
  rcases Nat.mod_two_eq_zero_or_one j with hm | hm
  · have ej : j = j / 2 * 2 := by omega
    rw [ej] at hu ⊢
    rw [k1] at hu
    cases hu
    exact c0
  · have ej : j = j / 2 * 2 + 1 := by omega
    rw [ej] at hu ⊢
    rw [k2] at hu
    cases hu
    exact c1
theorem kcells_one (ks : List (Int × Int)) : ∀ u ∈ kcells ks, u.oneCell' = true := by
  intro u hu
  obtain ⟨p, _, hp⟩ := List.mem_flatMap.1 hu
  simp at hp
  rcases hp with rfl | rfl <;> rfl
theorem KRd.of_row {w : World} {B : Nat} {A : Option Addr} {n c : Nat} {ks : List (Int × Int)} (h : Row w B 77 2 (.slice A n c) n (kcells ks)) (hk : ∀ p ∈ ks, wfZ p.1 ∧ wfZ p.2) : KRd w A n ks := by
  have hl : ks.length = n := by have := h.len; rw [kcells_len] at this; omega
  subst hl
  exact ⟨rfl, fun i hi => by
    obtain ⟨g, e, c0, c1⟩ := kcells_row h i hi
    exact ⟨g, 0, e, by rw [Nat.zero_add]; exact c0, by rw [Nat.zero_add]; exact c1⟩, hk⟩
theorem Rd.keep0 {w w' : World} {A : Option Addr} {xs : List Value} (h : Rd w A xs) {F : List Nat} (f : Fr F w w') (hn : xs ≠ [] → ∀ g o, A = some ⟨g, o, none⟩ → g ∉ F) : Rd w' A xs := fun hne => h.keep f (hn hne) hne
theorem KRd.keep {w w' : World} {A : Option Addr} {n : Nat} {ks : List (Int × Int)} (h : KRd w A n ks) {F : List Nat} (f : Fr F w w') (hF : 0 < n → ∀ g o, A = some ⟨g, o, none⟩ → g ∉ F) : KRd w' A n ks := ⟨h.len, fun i hi => by
  obtain ⟨g, o, e, c0, c1⟩ := h.cell i hi
  have := hF (by rw [← h.len]; omega) g o e
  exact ⟨g, o, e, f.cell this c0, f.cell this c1⟩, h.in64⟩
section
variable {w w1 w' : World} {p q : Nat} {D : DkM}
/-- The block's bytes, as they are handed on. -/
structure BOk (w w1 wx : World) (O1 O2 : List Nat) (s : Value) (b : List UInt8) : Prop where
  ex : ∃ A n c, s = .slice A n c ∧ b.length = n ∧ n ≤ 140737488351232 ∧ (A = none → n = 0) ∧ Rd wx A (bvs b) ∧ ∀ g o, A = some ⟨g, o, none⟩ → 0 < n → g ∉ O1 ∧ g ∉ O2 ∧ g < wx.heap.size
  fr : Fr [] w1 wx
set_option maxHeartbeats 4000000 in
theorem dkDoes_any (h : TX w w1 p D q D) (o : O10) (ok : o.ok w) (hl : ∀ x, (D.uns x).length ≤ 4398046511104) :
    Calls Try.prog 19 #[.pointer (some ⟨p, 0, none⟩), .pointer (some ⟨q, 0, none⟩), .agg o.cells.toArray] w1 fun e w' => e = .returned (.bool true) ∧ TX w w' p (act10 D o) q (act10 D o) := by
  obtain ⟨O1, O2, hd, hx, g1, g2, g3, F⟩ := h
  have hlt1 := hd.lts
  have hlt2 := hx.lts
  obtain ⟨kd, nn, A, m, c, l, bad, B, k, d, ks⟩ := o
  have HB := Lib.hid (show O10.by ⟨kd, nn, A, m, c, l, bad, B, k, d, ks⟩ = if bad then l else blkOf l from rfl)
  obtain ⟨b, hb⟩ : ∃ b, O10.by ⟨kd, nn, A, m, c, l, bad, B, k, d, ks⟩ = b := ⟨_, rfl⟩
  rw [hb] at HB
  have HBB := Lib.hid hb
  clear hb
  have fb : Fr [] w1 (w1.alloc (.cells #[.int .i64 kd, .int .i64 nn, .slice A m c, .bool bad, .slice B k d] 34)) := (Fr.refl [] w1).alloc _
  have kb := Blk.new w1 34 #[.int .i64 kd, .int .i64 nn, .slice A m c, .bool bad, .slice B k d]
  have OK := Lib.hid ok
  have HH := Lib.hid (And.intro hd (And.intro hx (And.intro g1 (And.intro g2 (And.intro g3 F)))))
  have HLL := Lib.hid hl
  have argB := ok.b
  clear ok hd hx g1 g2 g3 F hl
  change Calls Try.prog 19 #[.pointer (some ⟨p, 0, none⟩), .pointer (some ⟨q, 0, none⟩), .agg #[.int .i64 kd, .int .i64 nn, .slice A m c, .bool bad, .slice B k d]] w1 _
  go_enter Try.func19, Try.ntmps19
  go_upto_if 19 with fail
  obtain ⟨wX, hwX⟩ : ∃ wX, w1.alloc (.cells #[.int .i64 kd, .int .i64 nn, .slice A m c, .bool bad, .slice B k d] 34) = wX := ⟨_, rfl⟩
  rw [hwX] at fb kb ⊢
  obtain ⟨gX, hgX⟩ : ∃ g, w1.heap.size = g := ⟨_, rfl⟩
  rw [hgX] at kb hlt1 hlt2 ⊢
  have HGX := Lib.hid hgX
  have KB := Lib.hid kb
  have FB := Lib.hid fb
  have x2 : wX.cell? ⟨gX, 2, none⟩ = some (.slice A m c) := kb.cell 2
  have HL1 := Lib.hid (And.intro hlt1 hlt2)
  have hgl : gX < wX.heap.size := kb.lt
  clear hwX hgX kb fb hlt1 hlt2
  go_cut [7] (fun s7 wx => BOk w wX wx O1 O2 s7 b)
  case first =>
    have rdl : Rd wX A (bvs l) := (argB.rd.keep_nil HH.out.2.2.2.2.2).keep_nil FB.out
    have hre : m ≤ 140737488351232 := argB.reach
    cases bad
    · have cb := dkBlock_any wX A m c l argB.len rdl (by omega)
      have HAB := Lib.hid argB
      clear rdl argB
      go_wp2_with fail
      refine cb.mono ?_
      rintro e w2 ⟨v, rfl, r, f⟩
      obtain ⟨A2, c2, rfl, -, -, -, -, -⟩ := r.shape
      go_wp2_with fail
      go_meet
      have eb : b = blkOf l := HB.out
      refine ⟨⟨A2, 512, c2, rfl, by rw [eb]; exact blkOf_len l, by omega, r.rdD.2.2, by rw [eb]; exact r.rdD.1, fun g o e _ => ?_⟩, f⟩
      have h1 := r.lt g (by rw [e]; rfl)
      have := FB.out.size
      exact ⟨fun hm => by have := HL1.out.1 g hm; omega, fun hm => by have := HL1.out.2 g hm; omega, h1.2⟩
    · have HAB := Lib.hid (And.intro argB rdl)
      clear rdl argB
      go_wp2_with fail
      go_meet
      have eb : b = l := HB.out
      refine ⟨⟨A, m, c, rfl, by rw [eb]; exact HAB.out.1.len, by omega, HAB.out.1.nil, by rw [eb]; exact HAB.out.2, fun g o e h0 => ?_⟩, Fr.refl _ _⟩
      have h1 := HAB.out.1.blk g o e (fun hl => by have := HAB.out.1.len; rw [hl] at this; simp at this; omega)
      have h2 := HH.out.2.2.2.2.2.size
      have h3 := FB.out.size
      exact ⟨fun hm => by have := HH.out.2.2.1 g hm; omega, fun hm => by have := HH.out.2.2.2.1 g hm; omega, by omega⟩
  case rest =>
    clear x2 argB
    obtain ⟨⟨A7, n7, c7, rfl, hbl, hr7, hnil, rd7, hg7⟩, frc⟩ := hcut
    have kbc := KB.out.keep_nil frc
    have x0 : wc.cell? ⟨gX, 0, none⟩ = some (.int .i64 kd) := kbc.cell 0
    have x1 : wc.cell? ⟨gX, 1, none⟩ = some (.int .i64 nn) := kbc.cell 1
    have x4 : wc.cell? ⟨gX, 4, none⟩ = some (.slice B k d) := kbc.cell 4
    have F1c := FB.out.trans_nil frc
    have HG7 := Lib.hid hg7
    have HBL := Lib.hid hbl
    have FC := Lib.hid F1c
    have hcs := frc.size
    clear hg7 hbl kbc F1c frc
    by_cases k1 : kd = 1
    · subst k1
      have HA := Lib.hid (show act10 D ⟨1, nn, A, m, c, l, bad, B, k, d, ks⟩ = D.write nn b by rw [act10, if_pos rfl, HBB.out])
      have R0 : Row (wc.alloc (.cells #[] 5)) wc.heap.size 5 1 (.slice (some ⟨wc.heap.size, 0, none⟩) 0 0) 0 [] := Row.new wc #[] 5 1 0 (0, 0) (free_zero _) (by unfold maxLen; omega) rfl (Nat.le_refl _)
      have rdc := rd7.alloc (.cells #[] 5)
      have HRD := Lib.hid rd7
      clear rd7
      have Fa : Fr [] wc (wc.alloc (.cells #[] 5)) := (Fr.refl [] wc).alloc _
      go_wp2_with (at_builtin; refine wpList_app rfl rfl slB wc.heap.size _ 0 [] rfl R0 A7 n7 c7 (bvs b) rfl (by rw [bvs_length, Nat.mul_one]; exact HBL.out) rdc (bvs_one b) hnil (by omega) (by simp) ?_; intro v5 w5 q1 q2 q3 q4; have f5 : Fr [] wc w5 := Fa.trans q2 (fun i hi => .inr (R0.lt i (mem_own.1 hi)).1); have y1 := f5.cell (by simp) x1)
      have R5 : Row w5 wc.heap.size 5 1 v5 n7 (bvs b) := by simpa using q1
      obtain ⟨A5, c5, rfl, -, -, -, -, -⟩ := R5.shape
      obtain ⟨hd, hx, g1, g2, g3, F⟩ := HH.out
      obtain ⟨X, hX⟩ := hd
      have Fc5 := FC.out.trans_nil f5
      have cw := dkWrite_av (hX.keep_nil Fc5) nn A5 n7 c5 b HBL.out R5.rdD.1 R5.rdD.2.2 (by have := HLL.out nn; omega)
      obtain ⟨E, hE⟩ : ∃ E, D.writeE nn n7 = E := ⟨_, rfl⟩
      rw [hE] at cw
      have HEE := Lib.hid hE
      have HX := Lib.hid hX
      have HR := Lib.hid (And.intro R5 (And.intro f5 Fc5))
      clear hx g1 g2 g3 F hX hE q1 q2 q3 q4 R0 rdc f5 Fc5 R5 Fa x0 x1 x4
      go_wp2_with fail
      refine cw.mono ?_
      rintro e w6 ⟨rfl, O1', X', h1, h2, h3, h4⟩
      have HD6 := Lib.hid (And.intro h1 (And.intro h2 (And.intro h3 h4)))
      have y1' : w6.cell? ⟨gX, 1, none⟩ = some (.int .i64 nn) := h3.cell (fun hm => by have := HL1.out.1 gX hm; omega) y1
      have R6 : Row w6 wc.heap.size 5 1 (.slice A5 n7 c5) n7 (bvs b) := HR.out.1.keep h3 (fun g hg hm => by have := (HR.out.1.lt g hg).1; have := HL1.out.1 g hm; omega)
      clear cw h1 h2 h3 h4 y1
      go_wp2_with fail
      go_loopw [10] (fun i wr => ∃ j : Nat, j ≤ n7 ∧ i = .int .i64 j ∧ ∃ ys : List UInt8, Row wr wc.heap.size 5 1 (.slice A5 n7 c5) n7 (bvs ys) ∧ Fr (Value.ownBlock (.slice A5 n7 c5)).toList w6 wr) (fun i _ => n7 - (intOf i).toNat)
      case atStart => exact ⟨0, by omega, rfl, b, R6, Fr.refl _ _⟩
      case round =>
        clear R6
        obtain ⟨j, hjn, rfl, ys, R, Fr6⟩ := hrel
        by_cases hlt : j < n7
        · have d0 : (j : Int) < n7 := by omega
          obtain ⟨g5, c5', e5⟩ := R.hdD (by omega)
          cases e5
          have hyl : ys.length = n7 := by have := R.1; rw [bvs_length] at this; omega
          obtain ⟨y, hy⟩ : ∃ y, ys[j]'(by omega) = y := ⟨_, rfl⟩
          obtain ⟨a1, a2, a3⟩ := R.setD j hlt (bv (y + 1))
          have hby : (bvs ys)[j]? = some (bv y) := by rw [bvs, List.getElem?_map, List.getElem?_eq_getElem (by omega), hy]; rfl
          rw [hby] at a1
          replace a1 : wr.cell? ⟨g5, j, none⟩ = some (.int .u8 (y.toNat : Int)) := a1
          have hw8 := u8_succ y
          have HA3 := Lib.hid (show Row (wr.setCell ⟨g5, j, none⟩ (.int .u8 ((y + 1).toNat : Int))) wc.heap.size 5 1 (.slice (some ⟨g5, 0, none⟩) n7 c5) n7 (bvs (ys.set j (y + 1))) by
            have : (bvs ys).set j (bv (y + 1)) = bvs (ys.set j (y + 1)) := by rw [bvs, bvs, List.map_set]
            rw [← this]; exact a3)
          have HF6 := Lib.hid (Fr6.setCell (p := ⟨g5, j, none⟩) (.inl (own_mem.2 rfl)) (.int .u8 ((y + 1).toNat : Int)))
          clear R a3 hby hy hyl Fr6 y1'
          go_wp2_with fail
          exact ⟨⟨j + 1, by omega, by go_num, _, HA3.out, HF6.out⟩, by simp [intOf]; omega⟩
        · obtain rfl : j = n7 := by omega
          have d0 : ¬ ((j : Int) < j) := by omega
          have hgo : ∀ g, g ∈ (Value.ownBlock (.slice A5 j c5)).toList → wc.heap.size ≤ g ∧ g < w5.heap.size := fun g hg => HR.out.1.lt g (mem_own.1 hg)
          have hw56 := HD6.out.2.2.1.size
          have y1r : wr.cell? ⟨gX, 1, none⟩ = some (.int .i64 nn) := Fr6.cell (fun hm => by have := (hgo gX hm).1; omega) y1'
          obtain ⟨hd, hx, g1, g2, g3, F⟩ := HH.out
          have hxr := ((hx.keep_nil HR.out.2.2).keep HD6.out.2.2.1 (fun i hi hm => g3 i hm hi)).keep Fr6 (fun i hi hm => by have := (hgo i hm).1; have := HL1.out.2 i hi; have := FC.out.size; omega)
          have hdr := HD6.out.1.keepA Fr6 (fun i hi hm => by
              have := hgo i hm
              rcases HD6.out.2.1 i hi with h | h
              · have := HL1.out.1 i h; have := FC.out.size; omega
              · omega)
            (fun g hg => HD6.out.2.2.2 g (hgo g hg).2 (((HX.out.keep_nil FC.out).av_new (hgo g hg).1).keep_nil HR.out.2.1))
          have h0 : bvs b ≠ [] → 0 < j := fun hne => by
            rw [← HBL.out]
            cases b with
            | nil => exact absurd rfl hne
            | cons => simp
          have rdr : Rd wr A7 (bvs b) := ((HRD.out.keep_nil HR.out.2.1).keep0 HD6.out.2.2.1 (fun hne g o e => (HG7.out g o e (h0 hne)).1)).keep0 Fr6 (fun hne g o e hm => by have := (hgo _ hm).1; have := (HG7.out g o e (h0 hne)).2.2; omega)
          have cx := xdWrite_any hxr nn A7 j c7 b HBL.out rdr hnil (by have := HLL.out nn; omega)
          rw [HEE.out] at cx
          have HFIN := Lib.hid (And.intro hxr (And.intro hdr Fr6))
          clear hd hx g1 g2 g3 F hxr hdr rdr Fr6 y1'
          go_wp2_with fail
          refine cx.mono ?_
          rintro e w8 ⟨rfl, ax⟩
          clear cx
          go_wp2_with fail
          go_ret
          refine ⟨rfl, ?_⟩
          rw [HA.out]
          obtain ⟨hd, hx, g1, g2, g3, F⟩ := HH.out
          refine TX.aftX ⟨_, HFIN.out.2.1⟩ HFIN.out.1 (fun i hi => ?_) g2 (fun i hi hm => ?_) (((F.trans_nil HR.out.2.2).trans HD6.out.2.2.1 (fun i hi => .inr (g1 i hi))).trans HFIN.out.2.2 (fun i hi => .inr (by have := (hgo i hi).1; have := F.size; have := FC.out.size; omega))) ax
          · rcases HD6.out.2.1 i hi with h | h
            · exact g1 i h
            · have := F.size; have := HR.out.2.2.size; omega
          · rcases HD6.out.2.1 i hi with h | h
            · exact g3 i h hm
            · have := HL1.out.2 i hm; have := HR.out.2.2.size; have := HGX.out; omega
    have dk1 : (kd == 1) = false := by simpa using k1
    by_cases k2 : kd = 2
    · subst k2
      have HA := Lib.hid (show act10 D ⟨2, nn, A, m, c, l, bad, B, k, d, ks⟩ = D from rfl)
      obtain ⟨E, hE⟩ : ∃ E, D.readE nn = E := ⟨_, rfl⟩
      obtain ⟨R, hR⟩ : ∃ R, D.readR nn = R := ⟨_, rfl⟩
      obtain ⟨S, hS⟩ : ∃ S : ByteArray, (⟨R.toArray⟩ : ByteArray) = S := ⟨_, rfl⟩
      have HS := Lib.hid hS
      have c1 := dkRead_any (HH.out.1.keep_nil FC.out) nn
      rw [hE, hR] at c1
      have HER := Lib.hid (And.intro hE hR)
      clear hE hR hS rd7
      go_wp2_with fail
      refine c1.mono ?_
      rintro e w5 ⟨v5, rfl, r5, f5⟩
      have c2 := xdRead_any (HH.out.2.1.keep_nil (FC.out.trans_nil f5)) nn
      rw [HER.out.1, HER.out.2] at c2
      replace x1 := f5.cell (by simp) x1
      clear c1
      go_wp2_with fail
      refine c2.mono ?_
      rintro e w6 ⟨v6, rfl, r6, f6⟩
      obtain ⟨A5, c5, rfl, -, -, -, -, -⟩ := r5.shape
      obtain ⟨A6, c6, rfl, -, -, -, -, -⟩ := r6.shape
      have cv5 : (convert 31 9 (.slice A5 R.length c5)).run Try.prog w6 = .ok (.string S) w6 := by
        rw [← HS.out]
        exact conv_str Try.underlying31 Try.underlying5 Try.underlying9 w6 _ R _ c5 rfl (r5.keep_nil f6).rdD.1 r5.rdD.2.2
      have cv6 : (convert 31 9 (.slice A6 R.length c6)).run Try.prog w6 = .ok (.string S) w6 := by
        rw [← HS.out]
        exact conv_str Try.underlying31 Try.underlying5 Try.underlying9 w6 _ R _ c6 rfl r6.rdD.1 r6.rdD.2.2
      have f16 := FC.out.trans_nil (f5.trans_nil f6)
      have HF := Lib.hid f16
      clear c2 r5 r6 f5 f6 f16
      go_wp2_with fail
      go_ret
      refine ⟨rfl, ?_⟩
      rw [HA.out]
      obtain ⟨hd, hx, g1, g2, g3, F⟩ := HH.out
      exact ⟨O1, O2, hd.keep_nil HF.out, hx.keep_nil HF.out, g1, g2, g3, F.trans_nil HF.out⟩
    have dk2 : (kd == 2) = false := by simpa using k2
    by_cases k3 : kd = 3
    · subst k3
      have HA := Lib.hid (show act10 D ⟨3, nn, A, m, c, l, bad, B, k, d, ks⟩ = D.flush from rfl)
      have hT : TX w wc p D q D := TX.keep ⟨O1, O2, HH.out⟩ FC.out
      have c1 := hT.dC (R := fun e => e = .returned (.int .i64 D.flushE)) (fun O hd => dkFlush_any hd)
      obtain ⟨E, hE⟩ : ∃ E, D.flushE = E := ⟨_, rfl⟩
      rw [hE] at c1
      have HEE := Lib.hid hE
      clear hE hT rd7 x1 x4
      go_wp2_with fail
      refine c1.mono ?_
      rintro e w5 ⟨rfl, h5⟩
      have c2 := h5.xC (R := fun e => e = .returned (.int .i64 D.flushE)) (fun O hx _ => xdFlush_any hx)
      rw [HEE.out] at c2
      clear c1 h5
      go_wp2_with fail
      refine c2.mono ?_
      rintro e w6 ⟨rfl, h6⟩
      go_wp2_with fail
      go_ret
      exact ⟨rfl, by rw [HA.out]; exact h6⟩
    have dk3 : (kd == 3) = false := by simpa using k3
    by_cases k4 : kd = 4
    · subst k4
      have HA := Lib.hid (show act10 D ⟨4, nn, A, m, c, l, bad, B, k, d, ks⟩ = D.crash ks from rfl)
      obtain ⟨E, hE⟩ : ∃ E, D.crashE ks = E := ⟨_, rfl⟩
      have HEE := Lib.hid hE
      have hkk := OK.out.k
      have hkr : k ≤ 140737488355328 := by have : k * 16 ≤ 140737488351232 := hkk.reach; omega
      have HK := Lib.hid hkk
      clear hE rd7 x1 hkk
      go_upto_region 20 with fail
      obtain ⟨wD, hwD⟩ : ∃ wD, wc.drew = wD := ⟨_, rfl⟩
      have fD : Fr [] wc wD := by rw [← hwD]; exact (Fr.refl [] wc).drew
      replace x4 := fD.cell (by simp) x4
      have FD := Lib.hid (FC.out.trans_nil fD)
      have hgD : gX < wD.heap.size := by have := fD.size; omega
      refine wp_region_held_drew (S := fun w' => w'.cell? ⟨gX, 4, none⟩ = some (.slice B k d)) (by kernel_rfl) (by rw [hwD]; exact x4) (fun hHeld => ?_)
      rw [hwD] at hHeld ⊢
      have MKS := Lib.hid (fun (w' : World) (f : Fr [] wD w') => f.cell (by simp) x4)
      clear hwD fD x0 x4
      refine take_w 0 (some 89) (v := ?_) rfl rfl (by kernel_rfl) (by kernel_rfl) (by kernel_rfl) (fun _ _ _ h => h) (by rfl) ?_ hHeld ?_
      rotate_left
      · (intro w hSw; (try dsimp only at hSw); go_simp; try with_reducible rfl)
      simp only [Act.put, List.setIfInBounds_toArray, List.set_cons_zero, List.set_cons_succ]
      refine take_w 2 (some 91) (v := ?_) rfl rfl (by kernel_rfl) (by kernel_rfl) (by kernel_rfl) (fun _ _ _ h => h) (by rfl) ?_ hHeld ?_
      rotate_left
      · (intro w hSw; (try dsimp only at hSw); go_simp; try with_reducible rfl)
      simp only [Act.put, List.setIfInBounds_toArray, List.set_cons_zero, List.set_cons_succ]
      refine take_w 3 (some 92) (v := ?_) rfl rfl (by kernel_rfl) (by kernel_rfl) (by kernel_rfl) (fun _ _ _ h => h) (by rfl) ?_ hHeld ?_
      rotate_left
      · (intro w hSw; (try dsimp only at hSw); go_simp; try with_reducible rfl)
      simp only [Act.put, List.setIfInBounds_toArray, List.set_cons_zero, List.set_cons_succ]
      refine take_w 6 (some 95) (v := ?_) rfl rfl (by kernel_rfl) (by kernel_rfl) (by kernel_rfl) (fun _ _ _ h => h) (by rfl) ?_ hHeld ?_
      rotate_left
      · (intro w hSw; (try dsimp only at hSw); go_simp; try with_reducible rfl)
      simp only [Act.put, List.setIfInBounds_toArray, List.set_cons_zero, List.set_cons_succ]
      refine take_w 7 (some 96) (v := ?_) rfl rfl (by kernel_rfl) (by kernel_rfl) (by kernel_rfl) (fun _ _ _ h => h) (by rfl) ?_ hHeld ?_
      rotate_left
      · (intro w hSw; (try dsimp only at hSw); go_simp; try with_reducible rfl)
      simp only [Act.put, List.setIfInBounds_toArray, List.set_cons_zero, List.set_cons_succ]
      refine take_w 8 (some 97) (v := ?_) rfl rfl (by kernel_rfl) (by kernel_rfl) (by kernel_rfl) (fun _ _ _ h => h) (by rfl) ?_ hHeld ?_
      rotate_left
      · (intro w hSw; (try dsimp only at hSw); go_simp; try with_reducible rfl)
      simp only [Act.put, List.setIfInBounds_toArray, List.set_cons_zero, List.set_cons_succ]
      refine take_c 1 rfl (by kernel_rfl) (by rfl) (fun K hK => ?_)
      go_simp
      have R0 : Row (wD.alloc (.cells #[] 77)) wD.heap.size 77 2 (.slice (some ⟨wD.heap.size, 0, none⟩) 0 0) 0 [] := Row.new wD #[] 77 2 0 (0, 0) (free_zero _) (by unfold maxLen; omega) rfl (Nat.le_refl _)
      have Fa : Fr [] wD (wD.alloc (.cells #[] 77)) := (Fr.refl [] wD).alloc _
      refine hK.out _ _ (Fa.cell (by simp) hHeld) (fun hHx => ?_)
      clear hK hHeld
      have hHeld := hHx
      clear hHx
      try simp only [Act.put, List.setIfInBounds_toArray, List.set_cons_zero, List.set_cons_succ]
      refine take_c 4 rfl (by kernel_rfl) (by rfl) (fun K hK => ?_)
      refine wp_app rfl slK wD.heap.size _ 0 [] rfl R0 B k d (kcells ks) rfl (by rw [kcells_len, HK.out.rd.len]) ((HK.out.rd.rdK.keep_nil HH.out.2.2.2.2.2).keep_nil (FD.out.trans_nil Fa)) (kcells_one ks) HK.out.nil (by have : k * 16 ≤ 140737488351232 := HK.out.reach; omega) (by simp) (fun v5 w5 q1 q2 q3 q4 => ?_)
      have f5 : Fr [] wD w5 := Fa.trans q2 (fun i hi => .inr (R0.lt i (mem_own.1 hi)).1)
      have R5 : Row w5 wD.heap.size 77 2 v5 k (kcells ks) := by simpa using q1
      obtain ⟨A5, c5, rfl, -, -, -, -, -⟩ := R5.shape
      refine hK.out _ _ ((MKS.out _ f5)) (fun hHx => ?_)
      clear hK hHeld
      have hHeld := hHx
      clear hHx
      try simp only [Act.put, List.setIfInBounds_toArray, List.set_cons_zero, List.set_cons_succ]
      have F15 := FD.out.trans_nil f5
      have c1 := dkCrash_any (HH.out.1.keep_nil F15) A5 k c5 ks (KRd.of_row R5 HK.out.rd.in64) hkr
      rw [HEE.out] at c1
      have F15 := Lib.hid F15
      clear q1 q2 q3 q4 R0 Fa R5 f5
      refine take_c 5 rfl (by kernel_rfl) (by rfl) (fun K hK => ?_)
      go_simp
      refine c1.mono ?_
      rintro e w6 ⟨rfl, O1', h1, h2, h3⟩
      refine hK.out _ _ (h3.cell (fun hm => by have := HL1.out.1 gX hm; omega) hHeld) (fun hHx => ?_)
      clear hK hHeld c1
      have hHeld := hHx
      clear hHx
      try simp only [Act.put, List.setIfInBounds_toArray, List.set_cons_zero, List.set_cons_succ]
      have hbk : ∀ g o, B = some ⟨g, o, none⟩ → 0 < k → g < w.heap.size := fun g o e h0 => HK.out.blk g o e h0
      have hx6 := (HH.out.2.1.keep_nil F15.out).keep h3 (fun i hi hm => HH.out.2.2.2.2.1 i hm hi)
      have hk6 : KRd w6 B k ks := ((HK.out.rd.keep_nil HH.out.2.2.2.2.2).keep_nil F15.out).keep h3 (fun h0 g o e hm => by have := hbk g o e h0; have := HH.out.2.2.1 g hm; omega)
      have c2 := xdCrash_any hx6 B k d ks hk6 hkr (fun h0 g o e hm => by have := hbk g o e h0; have := HH.out.2.2.2.1 g hm; omega)
      rw [HEE.out] at c2
      have HFIN := Lib.hid (And.intro h1 (And.intro h2 (And.intro h3 hx6)))
      clear h1 h2 h3 hx6 hk6 hbk
      refine take_c 9 rfl (by kernel_rfl) (by rfl) (fun K hK => ?_)
      go_simp
      refine c2.mono ?_
      rintro e w7 ⟨rfl, ax⟩
      have hx7 := ax
      obtain ⟨O2', a1, a2, a3⟩ := hx7
      refine hK.out _ _ (a3.cell (fun hm => by have := HL1.out.2 gX hm; omega) hHeld) (fun hHx => ?_)
      clear hK hHeld c2 a1 a2 a3
      have hHeld := hHx
      clear hHx
      try simp only [Act.put, List.setIfInBounds_toArray, List.set_cons_zero, List.set_cons_succ]
      refine take_w 10 (some 99) (v := ?_) rfl rfl (by kernel_rfl) (by kernel_rfl) (by kernel_rfl) (fun _ _ _ h => h) (by rfl) ?_ hHeld ?_
      rotate_left
      · (intro w hSw; (try dsimp only at hSw); go_simp; try with_reducible rfl)
      simp only [Act.put, List.setIfInBounds_toArray, List.set_cons_zero, List.set_cons_succ]
      refine take_w 11 (some 6) (v := ?_) rfl rfl (by kernel_rfl) (by kernel_rfl) (by kernel_rfl) (fun _ _ _ h => h) (by rfl) ?_ hHeld ?_
      rotate_left
      · (intro w hSw; (try dsimp only at hSw); go_simp; try with_reducible rfl)
      simp only [Act.put, List.setIfInBounds_toArray, List.set_cons_zero, List.set_cons_succ]
      refine wpAnyH_done (by kernel_rfl) ?_ _
      clear hHeld
      go_wp2_with fail
      go_ret
      refine ⟨rfl, ?_⟩
      rw [HA.out]
      obtain ⟨hd, hx, g1, g2, g3, F⟩ := HH.out
      refine TX.aftX HFIN.out.1 HFIN.out.2.2.2 (fun i hi => ?_) g2 (fun i hi hm => ?_) ((F.trans_nil F15.out).trans HFIN.out.2.2.1 (fun i hi => .inr (g1 i hi))) ax
      · rcases HFIN.out.2.1 i hi with h | h
        · exact g1 i h
        · have := F.size; have := F15.out.size; omega
      · rcases HFIN.out.2.1 i hi with h | h
        · exact g3 i h hm
        · have := HL1.out.2 i hm; have := F15.out.size; have := HGX.out; omega
    have dk4 : (kd == 4) = false := by simpa using k4
    by_cases k5 : kd = 5
    · subst k5
      have HA := Lib.hid (show act10 D ⟨5, nn, A, m, c, l, bad, B, k, d, ks⟩ = D.tamper nn b from (show act10 D ⟨5, nn, A, m, c, l, bad, B, k, d, ks⟩ = D.tamper nn (O10.by ⟨5, nn, A, m, c, l, bad, B, k, d, ks⟩) from rfl).trans (by rw [HBB.out]))
      obtain ⟨E, hE⟩ : ∃ E, D.mayE nn n7 = E := ⟨_, rfl⟩
      have HEE := Lib.hid hE
      have h0 : bvs b ≠ [] → 0 < n7 := fun hne => by
        rw [← HBL.out]
        cases b with
        | nil => exact absurd rfl hne
        | cons => simp
      have H0 := Lib.hid h0
      clear hE x4 h0
      go_upto_region 22 with fail
      obtain ⟨wD, hwD⟩ : ∃ wD, wc.drew = wD := ⟨_, rfl⟩
      have fD : Fr [] wc wD := by rw [← hwD]; exact (Fr.refl [] wc).drew
      replace x1 := fD.cell (by simp) x1
      have FD := Lib.hid (FC.out.trans_nil fD)
      have rdD := rd7.keep_nil fD
      have hszD := fD.size
      refine wp_region_held_drew (S := fun w' => w'.cell? ⟨gX, 1, none⟩ = some (.int .i64 nn)) (by kernel_rfl) (by rw [hwD]; exact x1) (fun hHeld => ?_)
      rw [hwD] at hHeld ⊢
      have c1 := dkTamper_any (HH.out.1.keep_nil FD.out) nn A7 n7 c7 b HBL.out rdD hnil
      rw [HEE.out] at c1
      have HRD := Lib.hid rdD
      clear hwD fD x0 x1 rd7 rdD
      refine take_w 0 (some 102) (v := ?_) rfl rfl (by kernel_rfl) (by kernel_rfl) (by kernel_rfl) (fun _ _ _ h => h) (by rfl) ?_ hHeld ?_
      rotate_left
      · (intro w hSw; (try dsimp only at hSw); go_simp; try with_reducible rfl)
      simp only [Act.put, List.setIfInBounds_toArray, List.set_cons_zero, List.set_cons_succ]
      refine take_w 1 (some 103) (v := ?_) rfl rfl (by kernel_rfl) (by kernel_rfl) (by kernel_rfl) (fun _ _ _ h => h) (by rfl) ?_ hHeld ?_
      rotate_left
      · (intro w hSw; (try dsimp only at hSw); go_simp; try with_reducible rfl)
      simp only [Act.put, List.setIfInBounds_toArray, List.set_cons_zero, List.set_cons_succ]
      refine take_w 2 (some 104) (v := ?_) rfl rfl (by kernel_rfl) (by kernel_rfl) (by kernel_rfl) (fun _ _ _ h => h) (by rfl) ?_ hHeld ?_
      rotate_left
      · (intro w hSw; (try dsimp only at hSw); go_simp; try with_reducible rfl)
      simp only [Act.put, List.setIfInBounds_toArray, List.set_cons_zero, List.set_cons_succ]
      refine take_w 3 (some 105) (v := ?_) rfl rfl (by kernel_rfl) (by kernel_rfl) (by kernel_rfl) (fun _ _ _ h => h) (by rfl) ?_ hHeld ?_
      rotate_left
      · (intro w hSw; (try dsimp only at hSw); go_simp; try with_reducible rfl)
      simp only [Act.put, List.setIfInBounds_toArray, List.set_cons_zero, List.set_cons_succ]
      refine take_w 5 (some 107) (v := ?_) rfl rfl (by kernel_rfl) (by kernel_rfl) (by kernel_rfl) (fun _ _ _ h => h) (by rfl) ?_ hHeld ?_
      rotate_left
      · (intro w hSw; (try dsimp only at hSw); go_simp; try with_reducible rfl)
      simp only [Act.put, List.setIfInBounds_toArray, List.set_cons_zero, List.set_cons_succ]
      refine take_w 6 (some 108) (v := ?_) rfl rfl (by kernel_rfl) (by kernel_rfl) (by kernel_rfl) (fun _ _ _ h => h) (by rfl) ?_ hHeld ?_
      rotate_left
      · (intro w hSw; (try dsimp only at hSw); go_simp; try with_reducible rfl)
      simp only [Act.put, List.setIfInBounds_toArray, List.set_cons_zero, List.set_cons_succ]
      refine take_w 7 (some 109) (v := ?_) rfl rfl (by kernel_rfl) (by kernel_rfl) (by kernel_rfl) (fun _ _ _ h => h) (by rfl) ?_ hHeld ?_
      rotate_left
      · (intro w hSw; (try dsimp only at hSw); go_simp; try with_reducible rfl)
      simp only [Act.put, List.setIfInBounds_toArray, List.set_cons_zero, List.set_cons_succ]
      refine take_w 8 (some 110) (v := ?_) rfl rfl (by kernel_rfl) (by kernel_rfl) (by kernel_rfl) (fun _ _ _ h => h) (by rfl) ?_ hHeld ?_
      rotate_left
      · (intro w hSw; (try dsimp only at hSw); go_simp; try with_reducible rfl)
      simp only [Act.put, List.setIfInBounds_toArray, List.set_cons_zero, List.set_cons_succ]
      refine take_c 4 rfl (by kernel_rfl) (by rfl) (fun K hK => ?_)
      go_simp
      refine c1.mono ?_
      rintro e w6 ⟨rfl, O1', h1, h2, h3⟩
      refine hK.out _ _ (h3.cell (fun hm => by have := HL1.out.1 gX hm; omega) hHeld) (fun hHx => ?_)
      clear hK hHeld c1
      have hHeld := hHx
      clear hHx
      try simp only [Act.put, List.setIfInBounds_toArray, List.set_cons_zero, List.set_cons_succ]
      have hx6 := (HH.out.2.1.keep_nil FD.out).keep h3 (fun i hi hm => HH.out.2.2.2.2.1 i hm hi)
      have c2 := xdTamper_any hx6 nn A7 n7 c7 b HBL.out (HRD.out.keep0 h3 (fun hne g o e => (HG7.out g o e (H0.out hne)).1)) hnil
      rw [HEE.out] at c2
      have HFIN := Lib.hid (And.intro h1 (And.intro h2 (And.intro h3 hx6)))
      clear h1 h2 h3 hx6
      refine take_c 9 rfl (by kernel_rfl) (by rfl) (fun K hK => ?_)
      go_simp
      refine c2.mono ?_
      rintro e w7 ⟨rfl, ax⟩
      have hx7 := ax
      obtain ⟨O2', a1, a2, a3⟩ := hx7
      refine hK.out _ _ (a3.cell (fun hm => by have := HL1.out.2 gX hm; omega) hHeld) (fun hHx => ?_)
      clear hK hHeld c2 a1 a2 a3
      have hHeld := hHx
      clear hHx
      try simp only [Act.put, List.setIfInBounds_toArray, List.set_cons_zero, List.set_cons_succ]
      refine take_w 10 (some 112) (v := ?_) rfl rfl (by kernel_rfl) (by kernel_rfl) (by kernel_rfl) (fun _ _ _ h => h) (by rfl) ?_ hHeld ?_
      rotate_left
      · (intro w hSw; (try dsimp only at hSw); go_simp; try with_reducible rfl)
      simp only [Act.put, List.setIfInBounds_toArray, List.set_cons_zero, List.set_cons_succ]
      refine take_w 11 (some 6) (v := ?_) rfl rfl (by kernel_rfl) (by kernel_rfl) (by kernel_rfl) (fun _ _ _ h => h) (by rfl) ?_ hHeld ?_
      rotate_left
      · (intro w hSw; (try dsimp only at hSw); go_simp; try with_reducible rfl)
      simp only [Act.put, List.setIfInBounds_toArray, List.set_cons_zero, List.set_cons_succ]
      refine wpAnyH_done (by kernel_rfl) ?_ _
      clear hHeld
      go_wp2_with fail
      go_ret
      refine ⟨rfl, ?_⟩
      rw [HA.out]
      obtain ⟨hd, hx, g1, g2, g3, F⟩ := HH.out
      refine TX.aftX HFIN.out.1 HFIN.out.2.2.2 (fun i hi => ?_) g2 (fun i hi hm => ?_) ((F.trans_nil FD.out).trans HFIN.out.2.2.1 (fun i hi => .inr (g1 i hi))) ax
      · rcases HFIN.out.2.1 i hi with h | h
        · exact g1 i h
        · have := F.size; have := FD.out.size; omega
      · rcases HFIN.out.2.1 i hi with h | h
        · exact g3 i h hm
        · have := HL1.out.2 i hm; have := FD.out.size; have := HGX.out; omega
    have dk5 : (kd == 5) = false := by simpa using k5
    by_cases k6 : kd = 6
    · subst k6
      have HA := Lib.hid (show act10 D ⟨6, nn, A, m, c, l, bad, B, k, d, ks⟩ = D.stop nn from rfl)
      have hn64 : -9223372036854775808 ≤ nn ∧ nn ≤ 9223372036854775807 := OK.out.n
      have hpp : p ∈ O1 := by obtain ⟨X, hX⟩ := HH.out.1; exact hX.pO
      have c1 : Calls Try.prog 21 #[.pointer (some ⟨p, 0, none⟩), .int .i64 nn] wc fun e w' => e = .returned (.tuple #[]) ∧ AftD wc p O1 (D.stop nn) w' := (dkStop_any (HH.out.1.keep_nil FC.out) nn hn64.2).mono fun e w' ⟨he, h1, h2⟩ => ⟨he, O1, h1, fun i hi => .inl hi, h2.mono (fun i hi => by rw [List.mem_singleton.1 hi]; exact hpp)⟩
      have HN6 := Lib.hid hn64
      clear rd7 x4 hn64 hpp
      go_wp2_with fail
      refine c1.mono ?_
      rintro e w5 ⟨rfl, O1', h1, h2, h3⟩
      replace x1 : w5.cell? ⟨gX, 1, none⟩ = some (.int .i64 nn) := h3.cell (fun hm => by have := HL1.out.1 gX hm; omega) x1
      have h5 : TX w w5 p (D.stop nn) q D := by
        obtain ⟨hd, hx, g1, g2, g3, F⟩ := HH.out
        exact TX.aftD (hd.keep_nil FC.out) (hx.keep_nil FC.out) g1 g2 g3 (F.trans_nil FC.out) ⟨O1', h1, h2, h3⟩
      have c2 := h5.xC (R := fun e => e = .returned (.tuple #[])) (fun O hx _ => xdStop_any hx nn HN6.out)
      clear c1 h1 h2 h3 h5
      go_wp2_with fail
      refine c2.mono ?_
      rintro e w6 ⟨rfl, h6⟩
      obtain ⟨O5, h7⟩ := h6.fst
      obtain ⟨O6, h8⟩ := h6.snd
      have c3 := dkLooks_any h7 h8
      have H6 := Lib.hid h6
      clear c2 h6 h7 h8
      go_wp2_with fail
      refine c3.mono ?_
      rintro e w7 ⟨rfl, f7⟩
      go_wp2_with fail
      go_ret
      exact ⟨rfl, by rw [HA.out]; exact H6.out.keep f7⟩
    have dk6 : (kd == 6) = false := by simpa using k6
    have HA := Lib.hid (show act10 D ⟨kd, nn, A, m, c, l, bad, B, k, d, ks⟩ = D by rw [act10, if_neg k1, if_neg k3, if_neg k4, if_neg k5, if_neg k6])
    have hT : TX w wc p D q D := TX.keep ⟨O1, O2, HH.out⟩ FC.out
    obtain ⟨O5, h7⟩ := hT.fst
    obtain ⟨O6, h8⟩ := hT.snd
    have c3 := dkLooks_any h7 h8
    have HT := Lib.hid hT
    clear hT h7 h8 rd7 x1 x4 k1 k2 k3 k4 k5 k6
    go_wp2_with fail
    refine c3.mono ?_
    rintro e w7 ⟨rfl, f7⟩
    go_wp2_with fail
    go_ret
    exact ⟨rfl, by rw [HA.out]; exact HT.out.keep f7⟩
end
end Go.Proofs.Ytdhhnioklbnicaa
