/-
  Layer 13 (record): plan and its closures.
-/
import Derived.Test.YtlelgeigighecaaDoorRecE
set_option linter.unusedSimpArgs false
set_option linter.unusedVariables false
set_option linter.unnecessarySimpa false
namespace Go.Proofs.YtlelgeigighecaaDoor
open Go.RowKit

theorem Row.ne_rowR {w : World} {b1 b2 : Nat} {e1 e2 : TypeId} {s1 s2 : Nat} {v1 v2 : Value} {n1 n2 : Nat} {x1 x2 : List Value} (h1 : Row w b1 e1 s1 v1 n1 x1) (h2 : Row w b2 e2 s2 v2 n2 x2) (hne : e1 ≠ e2) : ∀ g, v1.ownBlock = some g → v2.ownBlock ≠ some g := by
  intro g hg hg2
  rcases h1.2 with ⟨rfl, _⟩ | ⟨g1, c1, u1, z1, rfl, _, k1, _⟩
  · cases hg
  · rcases h2.2 with ⟨rfl, _⟩ | ⟨g2, c2, u2, z2, rfl, _, k2, _⟩
    · cases hg2
    · have a1 : g1 = g := by simpa [Value.ownBlock] using hg
      have a2 : g2 = g := by simpa [Value.ownBlock] using hg2
      subst a1 a2
      rw [k1] at k2
      injection k2 with k2
      injection k2 with _ k2
      exact hne k2
theorem WPost.rowk {w w' : World} {p B size : Nat} {v : Value} {bad : Bool} {l q : List UInt8} (h : WPost w w' p B v size q) (h0 : Wrt w p B v size bad l) {Bp s n : Nat} {e : TypeId} {vr : Value} {xs : List Value} (hr : Row w Bp e s vr n xs) (h1 : 97 ≠ e) (h2 : e ≠ 5) : Row w' Bp e s vr n xs := by
  obtain ⟨v', a, f, b⟩ := h
  refine hr.keep f (fun g hg hm => ?_)
  rcases List.mem_cons.1 hm with e | hm
  · exact (hr.ne_blk h0.1 h1) (by rw [hg, e])
  · exact (hr.ne_rowR h0.2.1 h2 g hg) (mem_own.1 hm)

def encI (l : List Int) : List UInt8 := l.flatMap fun x => leB 4 x.toNat
theorem encI_len (l : List Int) : (encI l).length = 4 * l.length := by
  induction l with
  | nil => rfl
  | cons x r ih => rw [encI, List.flatMap_cons, List.length_append, leB_length, List.length_cons, ← encI, ih]; omega
theorem encI_succ (l : List Int) (k : Nat) (h : k < l.length) : encI (l.take (k + 1)) = encI (l.take k) ++ leB 4 l[k].toNat := by
  rw [List.take_succ_eq_append_getElem h, encI, List.flatMap_append]
  simp [encI]

set_option maxHeartbeats 1000000 in
theorem rcplan11_ok {w : World} {p B : Nat} {v : Value} {q : List UInt8} (h : Wrt w p B v 512 false q) (k : Nat) (hk : k < 4096) (hq : q.length + 4 ≤ 512) :
    Calls Tryd.prog 90 #[.pointer (some ⟨p, 0, none⟩), .int .i64 (k : Int)] w fun e w' => e = .returned (.tuple #[]) ∧ WPost w w' p B v 512 (q ++ leB 4 k) := by
  have U : IntKind.u64.wrap (k : Int) = k := by rw [IntKind.wrap_u64]; omega
  go_enter Tryd.func90, Tryd.ntmps90
  go_wp2_with fail
  refine (wUint_ok h 4 k rfl (by omega) (by omega) (by omega)).mono ?_
  rintro e w1 ⟨rfl, x1⟩
  go_wp2_with fail
  go_returns
  exact ⟨rfl, x1⟩

set_option maxRecDepth 100000 in
set_option maxHeartbeats 2000000 in
theorem putI_ok {w : World} {p B Bp n c : Nat} {v : Value} {q : List UInt8} {A : Option Addr} {l : List Int} (h : Wrt w p B v 512 false q) (hr : Row w Bp 3 1 (.slice A n c) n (zvs l)) (hl : ∀ x ∈ l, 0 ≤ x ∧ x < 4096) (hq : q.length + 4 * n ≤ 512) :
    Calls Tryd.prog 89 #[.pointer (some ⟨p, 0, none⟩), .slice A n c, .func (.func 90) #[] #[]] w fun e w' => e = .returned (.tuple #[]) ∧ WPost w w' p B v 512 (q ++ encI l) := by
  have hn : l.length = n := by have := hr.1; rw [zvs_len, Nat.mul_one] at this; exact this
  have HN := Lib.hid hn
  clear hn
  go_enter Tryd.func89, Tryd.ntmps89
  go_wp2_with fail
  go_loopw [10] (fun i wr => ∃ k : Nat, k ≤ n ∧ i = .int .i64 k ∧ WPost w wr p B v 512 (q ++ encI (l.take k))) (fun i _ => n - (intOf i).toNat)
  case atStart => exact ⟨0, Nat.zero_le _, rfl, v, by rw [List.take_zero, show encI [] = [] from rfl, List.append_nil]; exact h, Fr.refl _ _, fun g hg => .inl hg⟩
  case round =>
    obtain ⟨k, hk, rfl, hW⟩ := hrel
    by_cases hlt : k < n
    · have hkl : k < l.length := by rw [HN.out]; exact hlt
      have hr2 := hW.rowk h hr (by decide) (by decide)
      obtain ⟨g, o, rfl, hc⟩ := zint_at hr2.rd.1 hkl
      have ck := hc k hkl
      have hx2 := hl _ (List.getElem_mem hkl)
      have hen := encI_succ l k hkl
      have hlen : (q ++ encI (l.take k)).length = q.length + 4 * k := by rw [List.length_append, encI_len, List.length_take, Nat.min_eq_left (by omega)]
      obtain ⟨x, hx⟩ : ∃ x : Nat, l[k] = x := ⟨l[k].toNat, by omega⟩
      rw [hx] at ck hx2 hen
      rw [Int.toNat_natCast] at hen
      obtain ⟨q1, hq1⟩ : ∃ q1, q ++ encI (l.take k) = q1 := ⟨_, rfl⟩
      rw [hq1] at hW hlen
      have HQ := Lib.hid (show q ++ encI (l.take (k + 1)) = q1 ++ leB 4 x by rw [hen, ← List.append_assoc, hq1])
      obtain ⟨v1, h1, f1, g1⟩ := hW
      have hx4 : x < 4096 := by omega
      clear hc hx hen hq1 hr2 hx2
      go_wp2_with fail
      refine (rcplan11_ok h1 x hx4 (by omega)).mono ?_
      rintro e w2 ⟨rfl, x2⟩
      have y2 := WPost.trans f1 g1 x2
      go_wp2_with fail
      exact ⟨⟨k + 1, by omega, by go_num, by rw [HQ.out]; exact y2⟩, by simp [intOf]; omega⟩
    · obtain rfl : k = n := by omega
      rw [List.take_of_length_le (by rw [HN.out]; exact Nat.le_refl _)] at hW
      go_wp2_with fail
      go_returns
      exact ⟨rfl, hW⟩

def planR (n : Nat) (l : List Int) (t : Nat) : List UInt8 := planM ++ leB 8 n ++ leB 2 l.length ++ leB 8 t ++ encI l
theorem planR_len (n : Nat) (l : List Int) (t : Nat) : (planR n l t).length = 22 + 4 * l.length := by
  simp only [planR, List.length_append, leB_length, encI_len]
  show 4 + 8 + 2 + 8 + _ = _
  omega
def planB (n : Nat) (l : List Int) (t : Nat) : List UInt8 := pad512 (planR n l t)

set_option maxRecDepth 100000 in
set_option maxHeartbeats 2000000 in
theorem rcplan1_ok {w : World} {p B Bp g d f m t n c : Nat} {v : Value} {A : Option Addr} {l : List Int} (h : Wrt w p B v 512 false []) (hg : Blk w g 22 #[.int .u64 (m : Int)]) (hm : m < 18446744073709551616) (hd : Blk w d 32 #[.slice A n c]) (hf : Blk w f 22 #[.int .u64 (t : Int)]) (ht : t < 18446744073709551616)
    (hr : Row w Bp 3 1 (.slice A n c) n (zvs l)) (hl : ∀ x ∈ l, 0 ≤ x ∧ x < 4096) (hn64 : n ≤ 64) :
    Calls Tryd.prog 88 #[.pointer (some ⟨p, 0, none⟩), .pointer (some ⟨g, 0, none⟩), .pointer (some ⟨d, 0, none⟩), .pointer (some ⟨f, 0, none⟩)] w fun e w' => e = .returned (.tuple #[]) ∧ WPost w w' p B v 512 (planR m l t) := by
  have hn : l.length = n := by have := hr.1; rw [zvs_len, Nat.mul_one] at this; exact this
  have HN := Lib.hid hn
  have U : IntKind.u64.wrap (n : Int) = n := by rw [IntKind.wrap_u64]; omega
  have kc := fun (w : World) (C : Array Value) (n c : Nat) => Lib.run_convert_bytes_const (P := Tryd.prog) w 28 5 C n c Tryd.underlying28 Tryd.underlying5
  clear hn
  go_enter Tryd.func88, Tryd.ntmps88
  go_wp2_with fail
  have ra := Rd.mark w planM 5 (4, 5)
  have fa : Fr [] w (w.alloc (.cells (bvs planM).toArray 5 (4, 5))) := (Fr.refl _ _).alloc _
  refine (wBytes_ok (h.keep_nil fa) _ 4 4 planM rfl ra (by simp) (fun g o e _ => by cases e; have := h.lt; omega) (by simp)).mono ?_
  rintro e w1 ⟨rfl, x1⟩
  have b1 := x1.blk (h.keep_nil fa) (hg.keep_nil fa) (by decide) (by decide)
  have d1 := x1.blk (h.keep_nil fa) (hd.keep_nil fa) (by decide) (by decide)
  have t1 := x1.blk (h.keep_nil fa) (hf.keep_nil fa) (by decide) (by decide)
  have r1 := x1.rowk (h.keep_nil fa) (hr.keep_nil fa) (by decide) (by decide)
  obtain ⟨v1, h1, f1, g1⟩ := WPost.trans (fa.mono (by simp)) (fun g hg => .inl hg) x1
  clear ra fa x1 hg hd hf hr kc
  rw [List.nil_append] at h1
  have c0 := b1.cell 0
  simp at c0
  go_wp2_with fail
  refine (wUint_ok h1 8 m rfl hm (by omega) (by rw [show planM.length = 4 from rfl]; omega)).mono ?_
  rintro e w2 ⟨rfl, x2⟩
  have d2 := x2.blk h1 d1 (by decide) (by decide)
  have t2 := x2.blk h1 t1 (by decide) (by decide)
  have r2 := x2.rowk h1 r1 (by decide) (by decide)
  obtain ⟨v2, h2, f2, g2⟩ := WPost.trans f1 g1 x2
  have L2 : (planM ++ leB 8 m).length = 12 := by rw [List.length_append, leB_length]; rfl
  clear x2 b1 d1 t1 r1 c0 f1 g1 h1
  have c0 := d2.cell 0
  simp at c0
  go_wp2_with fail
  refine (wUint_ok h2 2 n rfl (by omega) (by omega) (by rw [L2]; omega)).mono ?_
  rintro e w3 ⟨rfl, x3⟩
  have d3 := x3.blk h2 d2 (by decide) (by decide)
  have t3 := x3.blk h2 t2 (by decide) (by decide)
  have r3 := x3.rowk h2 r2 (by decide) (by decide)
  obtain ⟨v3, h3, f3, g3⟩ := WPost.trans f2 g2 x3
  have L3 : (planM ++ leB 8 m ++ leB 2 n).length = 14 := by rw [List.length_append, leB_length, L2]
  clear x3 d2 t2 r2 c0 f2 g2 h2 L2
  have c0 := t3.cell 0
  simp at c0
  go_wp2_with fail
  refine (wUint_ok h3 8 t rfl ht (by omega) (by rw [L3]; omega)).mono ?_
  rintro e w4 ⟨rfl, x4⟩
  have d4 := x4.blk h3 d3 (by decide) (by decide)
  have r4 := x4.rowk h3 r3 (by decide) (by decide)
  obtain ⟨v4, h4, f4, g4⟩ := WPost.trans f3 g3 x4
  have L4 : (planM ++ leB 8 m ++ leB 2 n ++ leB 8 t).length = 22 := by rw [List.length_append, leB_length, L3]
  clear x4 d3 t3 r3 c0 f3 g3 h3 L3
  have c0 := d4.cell 0
  simp at c0
  go_wp2_with fail
  refine (putI_ok h4 r4 hl (by rw [L4]; omega)).mono ?_
  rintro e w5 ⟨rfl, x5⟩
  have y5 := WPost.trans f4 g4 x5
  go_wp2_with fail
  go_returns
  refine ⟨rfl, ?_⟩
  rw [planR, HN.out]
  exact y5

set_option maxRecDepth 100000 in
set_option maxHeartbeats 2000000 in
theorem rcplan_any {w : World} {Bp n c m t : Nat} {A : Option Addr} {l : List Int} (hm : m < 18446744073709551616) (ht : t < 18446744073709551616) (hr : Row w Bp 3 1 (.slice A n c) n (zvs l)) (hl : ∀ x ∈ l, 0 ≤ x ∧ x < 4096) (hn64 : n ≤ 64) :
    Calls Tryd.prog 62 #[.int .u64 (m : Int), .slice A n c, .int .u64 (t : Int)] w fun e w' => ∃ r, e = .returned r ∧ Row w' w.heap.size 5 1 r 512 (bvs (planB m l t)) ∧ Fr [] w w' := by
  have hn : l.length = n := by have := hr.1; rw [zvs_len, Nat.mul_one] at this; exact this
  go_enter Tryd.func62, Tryd.ntmps62
  go_upto_region 1 with fail
  have b1 : Blk (w.alloc (.cells #[.int .u64 (m : Int)] 22)) w.heap.size 22 #[.int .u64 (m : Int)] := Blk.new _ _ _
  have s1 : (w.alloc (.cells #[.int .u64 (m : Int)] 22)).heap.size = w.heap.size + 1 := by simp
  have f1 : Fr [] w (w.alloc (.cells #[.int .u64 (m : Int)] 22)) := (Fr.refl _ _).alloc _
  generalize w.alloc (.cells #[.int .u64 (m : Int)] 22) = w1 at *
  have b2 : Blk (w1.alloc (.cells #[.slice A n c] 32)) (w.heap.size + 1) 32 #[.slice A n c] := by rw [← s1]; exact Blk.new _ _ _
  have s2 : (w1.alloc (.cells #[.slice A n c] 32)).heap.size = w.heap.size + 1 + 1 := by simp [s1]
  have f2 : Fr [] w1 (w1.alloc (.cells #[.slice A n c] 32)) := (Fr.refl _ _).alloc _
  generalize w1.alloc (.cells #[.slice A n c] 32) = w2 at *
  have b3 : Blk (w2.alloc (.cells #[.int .u64 (t : Int)] 22)) (w.heap.size + 1 + 1) 22 #[.int .u64 (t : Int)] := by rw [← s2]; exact Blk.new _ _ _
  have f3 : Fr [] w2 (w2.alloc (.cells #[.int .u64 (t : Int)] 22)) := (Fr.refl _ _).alloc _
  generalize w2.alloc (.cells #[.int .u64 (t : Int)] 22) = w3 at *
  have F3 := (f1.trans_nil f2).trans_nil f3
  have d1 := (b1.keep_nil f2).keep_nil f3
  have d2 := b2.keep_nil f3
  have r3 := hr.keep_nil F3
  clear b1 b2 s1 s2 f1 f2 f3
  go_wp2_with fail
  refine (rcBlock_rcplan1 w3 w.heap.size (w.heap.size + 1) (w.heap.size + 1 + 1) (planR m l t) (by rw [planR_len, hn]; omega) (fun wx p B v f _ _ h => rcplan1_ok h (d1.keep_nil f) hm (d2.keep_nil f) (b3.keep_nil f) ht (r3.keep_nil f) hl hn64)).mono ?_
  rintro e w4 ⟨r, rfl, r4, f4⟩
  go_wp2_with fail
  go_ret
  exact ⟨r, rfl, r4.mono F3.size, F3.trans_nil f4⟩
end Go.Proofs.YtlelgeigighecaaDoor
