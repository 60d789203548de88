/-
  DiskDoes: the walk.
-/
import Derived.Test.YtdhhnioklbnicaaXdI
import Derived.Test.YtdhhnioklbnicaaDkSu
set_option linter.unusedSimpArgs false
set_option linter.unusedVariables false
set_option linter.unnecessarySimpa false
namespace Go.Proofs.Ytdhhnioklbnicaa
open Go.RowKit
set_option maxRecDepth 100000

/-- An elder disk, a disk, and a reference's. -/
def T3 (w w' : World) (p : Nat) (D1 : DkM) (r : Nat) (D : DkM) (q : Nat) (E : DkM) : Prop := ∃ O1 O3 O2, Dsk w' p O1 D1 ∧ Dsk w' r O3 D ∧ Xdk w' q O2 E ∧ (∀ i ∈ O1, w.heap.size ≤ i) ∧ (∀ i ∈ O3, w.heap.size ≤ i) ∧ (∀ i ∈ O2, w.heap.size ≤ i) ∧ (∀ i ∈ O1, i ∉ O3) ∧ (∀ i ∈ O1, i ∉ O2) ∧ (∀ i ∈ O3, i ∉ O2) ∧ Fr [] w w'
section
variable {w w1 w2 : World} {p q r : Nat} {D D' D1 E : DkM}
theorem T3.keep (h : T3 w w1 p D1 r D q E) (f : Fr [] w1 w2) : T3 w w2 p D1 r D q E := by
  obtain ⟨O1, O3, O2, h1, h2, h3, a, b, c, d, e, g, F⟩ := h
  exact ⟨O1, O3, O2, h1.keep_nil f, h2.keep_nil f, h3.keep_nil f, a, b, c, d, e, g, F.trans_nil f⟩
theorem T3.drop (h : T3 w w1 p D1 r D q E) : TX w w1 r D q E := by
  obtain ⟨O1, O3, O2, h1, h2, h3, a, b, c, d, e, g, F⟩ := h
  exact ⟨O3, O2, h2, h3, b, c, g, F⟩
theorem T3.dC (h : T3 w w1 p D1 r D q E) {f : FuncId} {args : Array Value} {R : Ending → Prop} (hc : ∀ O, Dsk w1 p O D1 → Calls Try.prog f args w1 fun e w' => R e ∧ AftD w1 p O D' w') : Calls Try.prog f args w1 fun e w' => R e ∧ T3 w w' p D' r D q E := by
  obtain ⟨O1, O3, O2, h1, h2, h3, a, b, c, d, e, g, F⟩ := h
  refine (hc O1 h1).mono fun e' w' ⟨he, ha⟩ => ⟨he, ?_⟩
  obtain ⟨O', k1, k2, k3⟩ := ha
  refine ⟨O', O3, O2, k1, h2.keep k3 (fun i hi hm => d i hm hi) h1.no8s, h3.keep k3 (fun i hi hm => e i hm hi), fun i hi => ?_, b, c, fun i hi hm => ?_, fun i hi hm => ?_, g, F.trans k3 (fun i hi => .inr (a i hi))⟩
  · rcases k2 i hi with h | h
    · exact a i h
    · exact Nat.le_trans F.size h
  · rcases k2 i hi with h | h
    · exact d i h hm
    · have := h2.lts i hm; omega
  · rcases k2 i hi with h | h
    · exact e i h hm
    · have := h3.lts i hm; omega
theorem TX.fork3 (h : TX w w1 p D q E) (hl : ∀ x, (D.uns x).length ≤ 4398046511104) : Calls Try.prog 17 #[.pointer (some ⟨p, 0, none⟩)] w1 fun e w' => ∃ r, e = .returned (.pointer (some ⟨r, 0, none⟩)) ∧ T3 w w' p D r D q E := by
  obtain ⟨O1, O2, h1, h2, a, b, c, F⟩ := h
  refine (dkFork_any h1 hl).mono fun e w' ⟨r, O3, he, k1, k2, k3⟩ => ⟨r, he, O1, O3, O2, h1.keep_nil k3, k1, h2.keep_nil k3, a, fun i hi => Nat.le_trans F.size (k2 i hi), b, fun i hi hm => ?_, c, fun i hi hm => ?_, F.trans_nil k3⟩
  · have := h1.lts i hi; have := k2 i hm; omega
  · have := h2.lts i hm; have := k2 i hi; omega
/-- The law's loop. -/
structure RelJ (w wr : World) (q k : Nat) (dv : Value) : Prop where
  ex : ∃ p D, dv = .pointer (some ⟨p, 0, none⟩) ∧ TX w wr p D q D ∧ ∀ x, (D.uns x).length ≤ k
end
set_option maxHeartbeats 4000000 in
theorem diskDoes_any (w : World) (x : Int) (hx : -9223372036854775808 ≤ x ∧ x ≤ 9223372036854775807) (A : Option Addr) (n c : Nat) (l : List O10) (ha : ArgO w A n c l) :
    Calls Try.prog 5 #[.int .i64 x, .slice A n c] w fun e w' => e = .returned (.bool true) ∧ Fr [] w w' := by
  have cn := dkNew_any w x hx
  have hr : n * 72 ≤ 140737488351232 := ha.reach
  have kc := fun (w : World) (C : Array Value) (n c : Nat) => Lib.run_convert_bytes_const (P := Try.prog) w 31 5 C n c Try.underlying31 Try.underlying5
  have KC := Lib.hid kc
  have HA := Lib.hid ha
  clear ha kc
  by_cases h1 : 1 ≤ x ∧ x ≤ 4096
  · have H1 := Lib.hid h1
    clear h1
    go_enter Try.func5, Try.ntmps5
    go_wp2_with fail
    refine cn.mono ?_
    intro e w1 hn
    obtain ⟨p, O1, rfl, d1, d2, d3⟩ := NewC.yes H1.out hn
    have cx := xdNew_any w1 x hx
    clear cn hn
    go_wp2_with fail
    refine cx.mono ?_
    intro e w2 hn
    obtain ⟨q, O2, rfl, x1, x2, x3⟩ := XNewC.yes H1.out hn
    have hT : TX w w2 p (newD x.toNat) q (newD x.toNat) := ⟨O1, O2, d1.keep_nil x3, x1, d2, fun i hi => Nat.le_trans d3.size (x2 i hi), fun i hi hm => by have := d1.lts i hi; have := x2 i hm; omega, d3.trans_nil x3⟩
    have HT := Lib.hid hT
    clear cx hn hT d1 d2 d3 x1 x2 x3
    go_wp2_with fail
    refine (lives_any w2).mono ?_
    rintro e w3 ⟨rfl, f3⟩
    have HT3 := Lib.hid (HT.out.keep f3)
    clear f3 HT
    go_wp2_with fail
    go_loopw [5, 9] (fun dv i wr => ∃ k : Nat, k ≤ n ∧ i = .int .i64 k ∧ RelJ w wr q k dv) (fun _ i _ => n - (intOf i).toNat)
    case atStart => exact ⟨0, by omega, rfl, ⟨p, _, rfl, HT3.out, fun x => by show ([] : List (List UInt8)).length ≤ 0; simp⟩⟩
    case round =>
      clear HT3
      obtain ⟨k, hkn, rfl, ⟨p', D, rfl, hT, hu⟩⟩ := hrel
      by_cases hlt : k < n
      · have d0 : (k : Int) < n := by omega
        obtain ⟨o, g, b, hol, rfl, ok, c0, c1, c2, c3, c4⟩ := HA.out.cells hT.fr hlt
        have HU := Lib.hid hu
        have HT := Lib.hid hT
        have OK := Lib.hid ok
        obtain ⟨kd, hkd⟩ : ∃ kd, o.kind = kd := ⟨_, rfl⟩
        rw [hkd] at c0
        clear hT hu ok hol
        by_cases h7 : kd = 7
        · subst h7
          have cf := HT.out.fork3 (fun x => by have := HU.out x; omega)
          clear c1 c2 c3 c4 hkd
          go_wp2_with fail
          refine cf.mono ?_
          rintro e w4 ⟨r, rfl, h4⟩
          have H4 := Lib.hid (h4.keep ((Fr.refl [] w4).alloc (.cells (bvs [111, 116, 104, 101, 114]).toArray 5 (5, 6))))
          have kc := KC.out
          clear cf h4
          go_wp2_with fail
          refine (dkBlock_any _ _ 5 5 [111, 116, 104, 101, 114] rfl (Rd.mark w4 [111, 116, 104, 101, 114] 5 (5, 6)) (by omega)).mono ?_
          rintro e w5 ⟨v, rfl, r5, f5⟩
          obtain ⟨g5, c5, rfl⟩ := r5.hdD (by decide)
          have h5 := T3.keep H4.out f5
          have cw := h5.dC (R := fun e => e = .returned (.int .i64 (D.writeE 0 512))) (fun O hd => dkWrite_any hd 0 _ 512 c5 _ (blkOf_len _) r5.rdD.1 (fun h => by cases h) (by have := HU.out 0; omega))
          clear kc h5 r5 f5 H4
          go_wp2_with fail
          refine cw.mono ?_
          rintro e w6 ⟨rfl, h6⟩
          have cl := h6.dC (R := fun e => ∃ E, e = .returned (.int .i64 E)) (fun O hd => (dkFlush_any hd).mono fun e w' ⟨he, ha⟩ => ⟨⟨_, he⟩, ha⟩)
          clear cw h6
          go_wp2_with fail
          refine cl.mono ?_
          rintro e w7 ⟨⟨E, rfl⟩, h7⟩
          have h8 := h7.drop
          clear cl h7
          go_wp2_with fail
          exact ⟨⟨k + 1, by omega, by go_num, ⟨r, D, rfl, h8, fun x => by have := HU.out x; omega⟩⟩, by simp [intOf]; omega⟩
        · have d7 : (kd == 7) = false := by simpa using h7
          have cd := dkDoes_any HT.out o OK.out (fun x => by have := HU.out x; omega)
          have HAU := Lib.hid (act10_uns D o)
          obtain ⟨D', hD'⟩ : ∃ D', act10 D o = D' := ⟨_, rfl⟩
          rw [hD'] at cd HAU
          replace cd : Calls Try.prog 19 #[.pointer (some ⟨p', 0, none⟩), .pointer (some ⟨q, 0, none⟩), .agg #[.int .i64 o.kind, .int .i64 o.n, .slice o.A o.m o.c, .bool o.bad, .slice o.B o.k o.d]] wr fun e w' => e = .returned (.bool true) ∧ TX w w' p' D' q D' := cd
          rw [hkd] at cd
          clear hkd hD' h7
          go_wp2_with fail
          refine cd.mono ?_
          rintro e w4 ⟨rfl, h4⟩
          clear cd
          go_wp2_with fail
          exact ⟨⟨k + 1, by omega, by go_num, ⟨p', D', rfl, h4, fun x => by have := HU.out x; have := HAU.out x; omega⟩⟩, by simp [intOf]; omega⟩
      · obtain rfl : k = n := by omega
        have d0 : ¬ ((k : Int) < k) := by omega
        obtain ⟨O5, h7⟩ := hT.fst
        obtain ⟨O6, h8⟩ := hT.snd
        have c3 := dkLooks_any h7 h8
        have HT := Lib.hid hT
        clear hT hu h7 h8
        go_wp2_with fail
        refine c3.mono ?_
        rintro e w7 ⟨rfl, f7⟩
        go_wp2_with fail
        go_ret
        exact ⟨rfl, HT.out.fr.trans_nil f7⟩
  · have H1 := Lib.hid h1
    clear h1
    go_enter Try.func5, Try.ntmps5
    go_wp2_with fail
    refine cn.mono ?_
    intro e w1 hn
    obtain ⟨rfl, rfl⟩ := NewC.no H1.out hn
    have cx := xdNew_any w x hx
    clear cn hn
    go_wp2_with fail
    refine cx.mono ?_
    intro e w2 hn
    obtain ⟨rfl, rfl⟩ := XNewC.no H1.out hn
    clear cx hn
    go_wp2_with fail
    refine (lives_any w).mono ?_
    rintro e w3 ⟨rfl, f3⟩
    have F3 := Lib.hid f3
    clear f3
    go_wp2_with fail
    go_loopw [9] (fun i wr => i = .int .i64 0 ∧ wr = w3) (fun _ _ => 0)
    case atStart => exact ⟨rfl, rfl⟩
    case round =>
      obtain ⟨rfl, rfl⟩ := hrel
      by_cases hlt : 0 < n
      · have d0 : (0 : Int) < n := by omega
        go_wp2_with fail
        go_ret
        exact ⟨rfl, F3.out⟩
      · obtain rfl : n = 0 := by omega
        go_wp2_with fail
        go_ret
        exact ⟨rfl, F3.out⟩
end Go.Proofs.Ytdhhnioklbnicaa
