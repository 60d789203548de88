/-
  Layer 13 (record): the reference's plan; seal and the reference's done.
-/
import Derived.Test.YtlelgeigighecaaDoorRecF
set_option linter.unusedSimpArgs false
set_option linter.unusedVariables false
set_option linter.unnecessarySimpa false
namespace Go.Proofs.YtlelgeigighecaaDoor
open Go.RowKit

set_option maxRecDepth 100000 in
set_option maxHeartbeats 2000000 in
theorem xrcplan_any {w : World} {n c m t : Nat} {A : Option Addr} {l : List Int} (hm : m < 18446744073709551616) (ht : t < 18446744073709551616) (hn : l.length = n) (hr : Rd w A (zvs l)) (hl : ∀ x ∈ l, 0 ≤ x ∧ x < 4096) (hn64 : n ≤ 64) :
    Calls Tryd.prog 67 #[.int .u64 (m : Int), .slice A n c, .int .u64 (t : Int)] w fun e w' => ∃ r, e = .returned r ∧ Row w' w.heap.size 5 1 r 512 (bvs (planB m l t)) ∧ Fr [] w w' := by
  have HN := Lib.hid hn
  clear hn
  have U : IntKind.u64.wrap (n : Int) = n := by rw [IntKind.wrap_u64]; omega
  have kc := fun (w : World) (C : Array Value) (n c : Nat) => Lib.run_convert_bytes_const (P := Tryd.prog) w 28 5 C n c Tryd.underlying28 Tryd.underlying5
  have F : Fr [] w (w.alloc (.cells (bvs planM).toArray 5 (4, 5))) := (Fr.refl _ _).alloc _
  have R := Row.new w (bvs planM).toArray 5 1 4 (4, 5) (free_end _ _) (by unfold maxLen; omega) rfl (Nat.le_refl _)
  go_enter Tryd.func67, Tryd.ntmps67
  go_wp2_with fail
  refine (xrcNumber_any 8 m _ (by omega) hm).mono ?_
  rintro e wn ⟨v, rfl, rn, f⟩
  obtain ⟨An, capn, rfl, -, -, -, -, -⟩ := rn.shape
  replace R := R.keep_nil f
  replace F := F.trans_nil f
  clear f
  clear kc
  go_wp2_with
    (first
      |
        (at_builtin; refine wpList_app rfl rfl slB w.heap.size _ 4 (bvs planM) rfl R _ 8 capn (bvs (leB 8 m)) rfl (by rw [bvs_length, leB_length]) rn.rd.1 (bvs_one _) rn.rd.2.2 (by omega) F.size ?_; intro va wa q1 q2 q3 q4)
    )
  replace F := F.trans q2 (fun k hk => .inr (R.lt k (mem_own.1 hk)).1)
  rw [← bvs_append, show 4 + 8 = 12 from rfl] at q1
  obtain ⟨Aa, capa, rfl, -, -, -, -, -⟩ := q1.shape
  clear R q2 q3 q4 rn
  have R := q1
  clear q1
  refine (xrcNumber_any 2 n _ (by omega) (by omega)).mono ?_
  rintro e wn ⟨v, rfl, rn, f⟩
  obtain ⟨An, capn, rfl, -, -, -, -, -⟩ := rn.shape
  replace R := R.keep_nil f
  replace F := F.trans_nil f
  clear f
  go_wp2_with
    (first
      |
        (at_builtin; refine wpList_app rfl rfl slB w.heap.size _ 12 (bvs (planM ++ leB 8 m)) rfl R _ 2 capn (bvs (leB 2 n)) rfl (by rw [bvs_length, leB_length]) rn.rd.1 (bvs_one _) rn.rd.2.2 (by omega) F.size ?_; intro va wa q1 q2 q3 q4)
    )
  replace F := F.trans q2 (fun k hk => .inr (R.lt k (mem_own.1 hk)).1)
  rw [← bvs_append, show 12 + 2 = 14 from rfl] at q1
  obtain ⟨Aa, capa, rfl, -, -, -, -, -⟩ := q1.shape
  clear R q2 q3 q4 rn
  have R := q1
  clear q1
  refine (xrcNumber_any 8 t _ (by omega) ht).mono ?_
  rintro e wn ⟨v, rfl, rn, f⟩
  obtain ⟨An, capn, rfl, -, -, -, -, -⟩ := rn.shape
  replace R := R.keep_nil f
  replace F := F.trans_nil f
  clear f
  go_wp2_with
    (first
      |
        (at_builtin; refine wpList_app rfl rfl slB w.heap.size _ 14 (bvs (planM ++ leB 8 m ++ leB 2 n)) rfl R _ 8 capn (bvs (leB 8 t)) rfl (by rw [bvs_length, leB_length]) rn.rd.1 (bvs_one _) rn.rd.2.2 (by omega) F.size ?_; intro va wa q1 q2 q3 q4)
    )
  replace F := F.trans q2 (fun k hk => .inr (R.lt k (mem_own.1 hk)).1)
  rw [← bvs_append, show 14 + 8 = 22 from rfl] at q1
  obtain ⟨Aa, capa, rfl, -, -, -, -, -⟩ := q1.shape
  clear R q2 q3 q4 rn
  have R := q1
  clear q1
  obtain ⟨q, hq⟩ : ∃ q, planM ++ leB 8 m ++ leB 2 n ++ leB 8 t = q := ⟨_, rfl⟩
  rw [hq] at R
  have HQ := Lib.hid (show planR m l t = q ++ encI l by rw [planR, HN.out, hq])
  clear hq
  go_loopw [7, 8] (fun v i wr => ∃ k : Nat, k ≤ n ∧ i = .int .i64 k ∧ Row wr w.heap.size 5 1 v (22 + 4 * k) (bvs (q ++ encI (l.take k))) ∧ Fr [] w wr) (fun _ i _ => n - (intOf i).toNat)
  case atStart => exact ⟨0, Nat.zero_le _, rfl, by rw [List.take_zero, show encI [] = [] from rfl, List.append_nil]; exact R, F⟩
  case round =>
    clear R F
    obtain ⟨k, hk, rfl, R, F⟩ := hrel
    obtain ⟨A4, cap4, rfl, -, -, -, -, -⟩ := R.shape
    by_cases hlt : k < n
    · have hkl : k < l.length := by rw [HN.out]; exact hlt
      obtain ⟨g, o, rfl, hc⟩ := zint_at (hr.keep_nil F) hkl
      have ck := hc k hkl
      have hx2 := hl _ (List.getElem_mem hkl)
      have hen := encI_succ l k hkl
      obtain ⟨x, hx⟩ : ∃ x : Nat, l[k] = x := ⟨l[k].toNat, by omega⟩
      rw [hx] at ck hx2 hen
      rw [Int.toNat_natCast] at hen
      have HEN := Lib.hid hen
      have hx4 : x < 4096 := by omega
      have Ux : IntKind.u64.wrap (x : Int) = x := by rw [IntKind.wrap_u64]; omega
      clear hc hx hen hx2
      go_wp2_with fail
      refine (xrcNumber_any 4 x _ (by omega) (by omega)).mono ?_
      rintro e wn ⟨v, rfl, rn, f⟩
      obtain ⟨An, capn, rfl, -, -, -, -, -⟩ := rn.shape
      replace R := R.keep_nil f
      replace F := F.trans_nil f
      clear f
      go_wp2_with
        (first
          |
            (at_builtin; refine wpList_app rfl rfl slB w.heap.size _ (22 + 4 * k) (bvs (q ++ encI (l.take k))) rfl R _ 4 capn (bvs (leB 4 x)) rfl (by rw [bvs_length, leB_length]) rn.rd.1 (bvs_one _) rn.rd.2.2 (by omega) F.size ?_; intro va wa q1 q2 q3 q4)
        )
      have F2 := F.trans q2 (fun k hk => .inr (R.lt k (mem_own.1 hk)).1)
      rw [← bvs_append, List.append_assoc, ← HEN.out] at q1
      exact ⟨⟨k + 1, by omega, by go_num, q1, F2⟩, by simp [intOf]; omega⟩
    · obtain rfl : k = n := by omega
      rw [List.take_of_length_le (by rw [HN.out]; exact Nat.le_refl _)] at R
      rw [← HQ.out] at R
      have hpl : (planR m l t).length = 22 + 4 * k := by rw [planR_len, HN.out]
      have HPL := Lib.hid hpl
      clear hpl
      go_wp2_with fail
      refine (xrcFill_any HPL.out R (by omega) F.size).mono ?_
      rintro e w9 ⟨r, rfl, r9, f9⟩
      obtain ⟨A9, cap9, rfl, -, -, -, -, -⟩ := r9.shape
      go_wp2_with fail
      go_ret
      exact ⟨_, rfl, r9, F.trans f9 (fun k hk => .inr (R.lt k (mem_own.1 hk)).1)⟩

/-- A slice of bytes that reads so. -/
def SlB (w : World) (v : Value) (l : List UInt8) : Prop := ∃ A c, v = .slice A l.length c ∧ Rd w A (bvs l) ∧ (A = none → l.length = 0) ∧ l.length ≤ c
theorem SlB.keep_nil {w w' : World} {v : Value} {l : List UInt8} (h : SlB w v l) (f : Fr [] w w') : SlB w' v l := by
  obtain ⟨A, c, h1, h2, h3⟩ := h
  exact ⟨A, c, h1, h2.keep_nil f, h3⟩
theorem SlB.one {w : World} {v : Value} {l : List UInt8} (h : SlB w v l) : v.oneCell' = true := by obtain ⟨A, c, rfl, _⟩ := h; rfl
/-- Slices of bytes that lie one behind the other. -/
structure BRd (w : World) (A : Option Addr) (vs : List Value) (bs : List (List UInt8)) : Prop where
  rd : Rd w A vs
  len : vs.length = bs.length
  each : ∀ i (h : i < vs.length) (h' : i < bs.length), SlB w vs[i] bs[i]
theorem BRd.keep_nil {w w' : World} {A : Option Addr} {vs : List Value} {bs : List (List UInt8)} (h : BRd w A vs bs) (f : Fr [] w w') : BRd w' A vs bs :=
  ⟨h.rd.keep_nil f, h.len, fun i h1 h2 => (h.each i h1 h2).keep_nil f⟩

def doneR (n : Nat) (all : List UInt8) : List UInt8 := doneM ++ leB 8 n ++ shaSum all
theorem doneR_len (n : Nat) (all : List UInt8) : (doneR n all).length = 44 := by
  rw [doneR, List.length_append, List.length_append, leB_length, shaSum_length]; rfl
def doneB (n : Nat) (all : List UInt8) : List UInt8 := pad512 (doneR n all)
theorem doneB_len (n : Nat) (all : List UInt8) : (doneB n all).length = 512 := pad512_len (by rw [doneR_len]; omega)

set_option maxRecDepth 100000 in
set_option maxHeartbeats 2000000 in
theorem rcSeal1_ok {w : World} {p B g d m : Nat} {v : Value} {D : List UInt8} (h : Wrt w p B v 512 false []) (hm : m < 18446744073709551616) (hg : Blk w g 22 #[.int .u64 (m : Int)]) (hd : Blk w d 70 (bvs D).toArray) (hD : D.length = 32) :
    Calls Tryd.prog 91 #[.pointer (some ⟨p, 0, none⟩), .pointer (some ⟨g, 0, none⟩), .pointer (some ⟨d, 0, none⟩)] w fun e w' => e = .returned (.tuple #[]) ∧ WPost w w' p B v 512 (doneM ++ leB 8 m ++ D) := by
  have HD := Lib.hid hD
  clear hD
  have kc := fun (w : World) (C : Array Value) (n c : Nat) => Lib.run_convert_bytes_const (P := Tryd.prog) w 28 5 C n c Tryd.underlying28 Tryd.underlying5
  go_enter Tryd.func91, Tryd.ntmps91
  go_wp2_with fail
  have ra := Rd.mark w doneM 5 (4, 5)
  have fa : Fr [] w (w.alloc (.cells (bvs doneM).toArray 5 (4, 5))) := (Fr.refl _ _).alloc _
  refine (wBytes_ok (h.keep_nil fa) _ 4 4 doneM rfl ra (by simp) (fun g o e _ => by cases e; have := h.lt; omega) (by simp)).mono ?_
  rintro e w1 ⟨rfl, x1⟩
  have b1 := x1.blk (h.keep_nil fa) (hg.keep_nil fa) (by decide) (by decide)
  have d1 := x1.blk (h.keep_nil fa) (hd.keep_nil fa) (by decide) (by decide)
  obtain ⟨v1, h1, f1, g1⟩ := WPost.trans (fa.mono (by simp)) (fun g hg => .inl hg) x1
  clear ra fa x1 hg kc
  rw [List.nil_append] at h1
  have c0 := b1.cell 0
  simp at c0
  go_wp2_with fail
  refine (wUint_ok h1 8 m rfl hm (by omega) (by rw [show doneM.length = 4 from rfl]; omega)).mono ?_
  rintro e w2 ⟨rfl, x2⟩
  have d2 := x2.blk h1 d1 (by decide) (by decide)
  obtain ⟨v2, h2, f2, g2⟩ := WPost.trans f1 g1 x2
  have hpd : p ≠ d := fun e => (d2.ne_ h2.1 (by decide)) e.symm
  go_wp2_with fail
  refine (wBytes_ok h2 _ 32 32 D HD.out (Rd.ofBm d2) (by simp) (fun g o e _ => by cases e; exact hpd.symm) (by rw [List.length_append, leB_length, show doneM.length = 4 from rfl]; omega)).mono ?_
  rintro e w3 ⟨rfl, x3⟩
  have y3 := WPost.trans f2 g2 x3
  go_wp2_with fail
  go_returns
  exact ⟨rfl, y3⟩
end Go.Proofs.YtlelgeigighecaaDoor
