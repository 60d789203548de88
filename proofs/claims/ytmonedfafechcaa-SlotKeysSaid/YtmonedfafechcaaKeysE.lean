/-
  Contracts of layer 12: the reference's Sealed and EncodeKeys.
-/
import Derived.Test.YtmonedfafechcaaKeysD
set_option linter.unusedSimpArgs false
set_option linter.unusedVariables false
set_option linter.unnecessarySimpa false
namespace Go.Proofs.Ytmonedfafechcaa
open Go.RowKit

theorem byte_at (x : Nat) (k : Nat) : Value.int .u8 (IntKind.u8.wrap ((x : Int) / 2 ^ (8 * k))) = bv (UInt8.ofNat (x / 256 ^ k % 256)) := by
  have := leB_byte x k
  rwa [show (8 * (k : Int)).toNat = 8 * k by omega] at this

theorem le4 {y : Nat} (h : y ≤ 4294967295) : [Value.int .u8 ((y : Int) % 256), .int .u8 ((y : Int) / 256 % 256), .int .u8 ((y : Int) / 65536 % 256), .int .u8 ((y : Int) / 16777216)] = bvs (leB 4 y) := by
  have e : leB 4 y = [UInt8.ofNat (y / 256 ^ 0 % 256), UInt8.ofNat (y / 256 ^ 1 % 256), UInt8.ofNat (y / 256 ^ 2 % 256), UInt8.ofNat (y / 256 ^ 3 % 256)] := rfl
  rw [e]
  simp only [bvs, bv, List.map_cons, List.map_nil, UInt8.toNat_ofNat']
  have a0 : (y / 256 ^ 0 % 256) % 2 ^ 8 = y % 256 := by omega
  have a1 : (y / 256 ^ 1 % 256) % 2 ^ 8 = y / 256 % 256 := by omega
  have a2 : (y / 256 ^ 2 % 256) % 2 ^ 8 = y / 65536 % 256 := by omega
  have a3 : (y / 256 ^ 3 % 256) % 2 ^ 8 = y / 16777216 := by omega
  rw [a0, a1, a2, a3]
  simp

set_option maxRecDepth 100000 in
set_option maxHeartbeats 4000000 in
theorem xSealed_any (w : World) {A : Option Addr} {n c : Nat} {es : List EpM} {tg : List UInt8} (hK : KOk w A n c es tg) :
    Calls Try.prog 47 #[.agg (keyC A n c tg).toArray] w (EncK w es (sealB es)) := by
  cases hr : rightB es
  · have HR := Lib.hid hr
    clear hr
    go_enter Try.func47, Try.ntmps47
    go_wp2_with
      (first
        | (refine wpList_boxS rfl rfl (keyC A n c tg) rfl ?_; intro wb hb fb zb; have ZB := Lib.hid zb; clear zb; have c0 := hb.cell 0; (rw [show (keyC A n c tg).toArray[0]? = some (.slice A n c) from rfl] at c0))
        | (refine wpList_ldS stKeys rfl rfl w.heap.size 0 rfl (keyC A n c tg) (keyC_len _ _ _ hK.tg) hb.range0 ?_))
    have cc := xRight_any wb (hK.keep_nil fb)
    rw [HR.out] at cc
    refine cc.mono ?_
    clear cc
    rintro e w1 ⟨rfl, f1⟩
    go_wp2_with fail
    go_ret2
    exact ⟨_, by rw [HR.out]; rfl, by rw [HR.out]; exact Row.nil _ _ _ _, fb.trans_nil f1⟩
  · have HR := Lib.hid hr
    obtain ⟨h12, hfit⟩ := right_fit hr hK.each
    have HN := Lib.hid hK.len
    have n2 : n ≤ 2 := by rw [HN.out] at h12; omega
    clear hr h12
    have kc := fun (w : World) (C : Array Value) (n c : Nat) => Lib.run_convert_bytes_const (P := Try.prog) w 22 5 C n c Try.underlying22 Try.underlying5
    have hw : IntKind.u8.wrap (n : Int) = n := IntWalk.u8_in _ (by omega)
    go_enter Try.func47, Try.ntmps47
    go_wp2_with
      (first
        | (refine wpList_boxS rfl rfl (keyC A n c tg) rfl ?_; intro wb hb fb zb; have ZB := Lib.hid zb; clear zb; have c0 := hb.cell 0; (rw [show (keyC A n c tg).toArray[0]? = some (.slice A n c) from rfl] at c0))
        | (refine wpList_ldS stKeys rfl rfl w.heap.size 0 rfl (keyC A n c tg) (keyC_len _ _ _ hK.tg) hb.range0 ?_))
    have cc := xRight_any wb (hK.keep_nil fb)
    rw [HR.out] at cc
    refine cc.mono ?_
    clear cc
    rintro e w1 ⟨rfl, f1⟩
    have b1 := hb.keep_nil f1
    have F1 := fb.trans_nil f1
    have c1 := b1.cell 0
    rw [show (keyC A n c tg).toArray[0]? = some (.slice A n c) from rfl] at c1
    have c1' : ∀ o o' : Obj, ((w1.alloc o).alloc o').cell? ⟨w.heap.size, 0, none⟩ = some (.slice A n c) := fun o o' => (((Fr.refl [] w1).alloc o).alloc o').cell (by simp) c1
    have c1'' : ∀ o : Obj, (w1.alloc o).cell? ⟨w.heap.size, 0, none⟩ = some (.slice A n c) := fun o => ((Fr.refl [] w1).alloc o).cell (by simp) c1
    clear c0 hb
    have rm := Row.new w1 (bvs markK).toArray 5 1 4 (4, 5) (free_end _ _) (by unfold maxLen; omega) rfl (Nat.le_refl _)
    have ro : Rd ((w1.alloc (.cells (bvs markK).toArray 5 (4, 5))).alloc (.cells #[.int .u8 n] 5)) (some ⟨w1.heap.size + 1, 0, none⟩) [.int .u8 n] := by
      have := Rd.one (w1.alloc (.cells (bvs markK).toArray 5 (4, 5))) (.int .u8 n) 5
      simpa using this
    go_wp2_with
      (first
        | (at_builtin; refine wpList_app rfl rfl slB w1.heap.size _ 4 (bvs markK) rfl (rm.alloc _) _ 1 1 [.int .u8 n] rfl rfl ro (by intro u hu; rw [List.mem_singleton.1 hu]; rfl) (by simp) (by omega) (by simp; omega) ?_; intro v2 w2 q1 q2 q3 q4))
    have e5 : bvs markK ++ [.int .u8 (n : Int)] = bvs (markK ++ [UInt8.ofNat es.length]) := by
      rw [bvs_append, HN.out]
      have : n % 256 = n := by omega
      simp [bvs, bv, this]
    rw [e5] at q1
    have F2 : Fr [] w1 w2 := (((Fr.refl [] w1).alloc _).alloc _).trans q2 (fun i hi => by have := own_mem.1 hi; exact .inr (by omega))
    clear q2 q3 q4 e5 ro rm c1' c1'' kc
    go_loopw [4, 5] (fun b i wr => ∃ k : Nat, k ≤ n ∧ i = .int .i64 k ∧ Row wr w1.heap.size 5 1 b (5 + 68 * k) (bvs (markK ++ [UInt8.ofNat es.length] ++ encEs (es.take k))) ∧ Fr [] w1 wr) (fun _ i _ => n - (intOf i).toNat)
    case atStart => exact ⟨0, Nat.zero_le _, rfl, by simpa [encEs] using q1, F2⟩
    case round =>
      obtain ⟨k, hk, rfl, k1, k2⟩ := hrel
      clear q1 F2
      have cg := k2.cell (p := ⟨w.heap.size, 0, none⟩) (by simp) c1
      obtain ⟨A3, cap3, rfl, -, -, -, -, -⟩ := k1.shape
      by_cases hlt : k < n
      · have hkl : k < es.length := by rw [HN.out]; exact hlt
        obtain ⟨g, o, rfl, hgw, hc⟩ := hK.range hkl
        have ck := rangeAt_keep (hc k hkl) (F1.trans_nil k2) (by simp)
        have hfk := hfit _ (List.getElem_mem hkl)
        have T := Lib.hid (encEs_take_succ hkl)
        clear hc
        generalize es[k] = x at *
        obtain ⟨y, hy⟩ := Int.eq_ofNat_of_zero_le hfk.lo
        have hy2 := hfk.hi
        rw [hy] at hy2
        have HY := Lib.hid hy
        clear hy
        go_wp2_with
          (first
            | (refine wpList_ldS stEp rfl rfl g (o + k * 65) rfl x.cells (EpM.len hfk.ok) ck ?_)
            | (refine wpList_alS stEp rfl rfl ?_; intro w3 b3 f3 z3; have Z3 := Lib.hid z3; clear z3; obtain ⟨gb, hgb⟩ : ∃ gb, wr.heap.size = gb := ⟨_, rfl⟩; rw [hgb] at b3; rw [hgb]; have HGB := Lib.hid hgb; clear hgb)
            | (refine wpList_stB stEp rfl rfl gb rfl x.cells rfl (EpM.len hfk.ok) x.ones zeroE.cells (EpM.len ⟨by decide, by decide, rfl⟩) b3 ?_; intro w4 b4 f4 z4; have Z4 := Lib.hid z4; clear z4; have c4 := b4.cell 0; (rw [show x.cells.toArray[0]? = some (.int .i64 x.ep) from rfl, HY.out] at c4); have f5 : Fr [] wr w4 := f3.trans f4 (fun i hi => .inr (by have := HGB.out; simp at hi; omega)); have k5 := k1.keep_nil f5; have rq : Rd (w4.alloc (.cells #[.int .u8 ((y : Int) % 256), .int .u8 ((y : Int) / 256 % 256), .int .u8 ((y : Int) / 65536 % 256), .int .u8 ((y : Int) / 16777216)] 5)) (some ⟨w4.heap.size, 0, none⟩) (bvs (leB 4 y)) := (by rw [← le4 (by omega)]; exact Rd.of_blk (Blk.new _ _ _) 0 _ (fun j u hu => by simpa using hu)); have bs : w1.heap.size ≤ w4.heap.size := Nat.le_trans k2.size f5.size)
            | (at_builtin; refine wpList_app rfl rfl slB w1.heap.size (.slice A3 (5 + 68 * k) cap3) (5 + 68 * k) _ rfl (k5.alloc _) _ 4 4 (bvs (leB 4 y)) rfl rfl rq (bvs_one _) (by simp) (by omega) (by simp; omega) ?_; intro v5 w5 q1 q2 q3 q4; have q1' := q1; have b5 : Blk w5 gb 102 x.cells.toArray := ((b4.alloc _).keep q2 (fun hm => k5.ne_blk b4 (by decide) (mem_own.1 hm))); have f6 : Fr (Value.ownBlock (.slice A3 (5 + 68 * k) cap3)).toList wr w5 := ((f5.alloc _).nil).trans q2 (fun i hi => .inl hi); have bs5 : w1.heap.size ≤ w5.heap.size := (by have := q2.size; simp at this; omega))
            | (at_builtin; refine wpList_app rfl rfl slB w1.heap.size v5 (5 + 68 * k + 4) _ rfl q1' _ 64 64 (bvs x.wr) rfl (by rw [bvs_length, hfk.ok.wr]) (Rd.of_blk b5 _ _ (ep_get hfk.ok)) (bvs_one _) (by simp) (by omega) bs5 ?_; intro v6 w6 p1 p2 p3 p4))
        refine ⟨⟨k + 1, by omega, by go_num, ?_, ?_⟩, by simp [intOf]; omega⟩
        · have e1 : bvs (markK ++ [UInt8.ofNat es.length] ++ encEs (es.take (k + 1))) = bvs (markK ++ [UInt8.ofNat es.length] ++ encEs (es.take k)) ++ bvs (leB 4 y) ++ bvs x.wr := by
            have e2 : encE x = leB 4 y ++ x.wr := by rw [encE, HY.out]; rfl
            rw [T.out, e2, ← bvs_append, ← bvs_append]
            simp only [List.append_assoc]
          rw [e1, show 5 + 68 * (k + 1) = 5 + 68 * k + 4 + 64 by omega]
          exact p1
        · exact (k2.trans f6 (fun i hi => .inr (k1.lt i (mem_own.1 hi)).1)).trans p2 (fun i hi => .inr (q1'.lt i (mem_own.1 hi)).1)
      · obtain rfl : k = n := by omega
        have hk2 : es.take k = es := by rw [List.take_of_length_le]; rw [HN.out]; omega
        rw [hk2] at k1
        go_wp2_with fail
        go_ret2
        refine ⟨_, by rw [HR.out]; rfl, ?_, F1.trans_nil k2⟩
        rw [HR.out, if_pos rfl, if_pos rfl, sealB_len hK.each, HN.out]
        exact k1.mono F1.size

/-- EncodeKeys of the reference. -/
theorem Row.rdOf {w : World} {B n : Nat} {v : Value} {l : List UInt8} (h : Row w B 5 1 v n (bvs l)) : ∃ A c, v = .slice A n c ∧ Rd w A (bvs l) ∧ (A = none → n = 0) := by
  obtain ⟨A, c, rfl, -, -, hr, -, -⟩ := h.shape
  exact ⟨A, c, rfl, hr, h.rd.2.2⟩
set_option maxRecDepth 100000 in
set_option maxHeartbeats 4000000 in
theorem xEncKeys_any (w : World) {A : Option Addr} {n c : Nat} {es : List EpM} {tg : List UInt8} (hK : KOk w A n c es tg) :
    Calls Try.prog 45 #[.agg (keyC A n c tg).toArray] w (EncK w es (keyBytes es tg)) := by
  cases hr : rightB es
  · have HR := Lib.hid hr
    clear hr
    go_enter Try.func45, Try.ntmps45
    go_wp2_with
      (first
        | (refine wpList_boxS rfl rfl (keyC A n c tg) rfl ?_; intro wb hb fb zb; have ZB := Lib.hid zb; clear zb; have c0 := hb.cell 0; (rw [show (keyC A n c tg).toArray[0]? = some (.slice A n c) from rfl] at c0))
        | (refine wpList_ldS stKeys rfl rfl w.heap.size 0 rfl (keyC A n c tg) (keyC_len _ _ _ hK.tg) hb.range0 ?_))
    have cc := xSealed_any wb (hK.keep_nil fb)
    refine cc.mono ?_
    clear cc
    rintro e w1 ⟨v1, rfl, r1, f1⟩
    rw [HR.out]
    go_wp2_with fail
    go_ret2
    exact ⟨_, by rw [HR.out]; rfl, by rw [HR.out]; exact Row.nil _ _ _ _, fb.trans_nil f1⟩
  · have HR := Lib.hid hr
    have h12 := (right_fit hr hK.each).1
    have HN := Lib.hid hK.len
    have n2 : n ≤ 2 := by rw [HN.out] at h12; omega
    clear hr h12
    go_enter Try.func45, Try.ntmps45
    go_wp2_with
      (first
        | (refine wpList_boxS rfl rfl (keyC A n c tg) rfl ?_; intro wb hb fb zb; have ZB := Lib.hid zb; clear zb; have c0 := hb.cell 0; (rw [show (keyC A n c tg).toArray[0]? = some (.slice A n c) from rfl] at c0))
        | (refine wpList_ldS stKeys rfl rfl w.heap.size 0 rfl (keyC A n c tg) (keyC_len _ _ _ hK.tg) hb.range0 ?_))
    have cc := xSealed_any wb (hK.keep_nil fb)
    refine cc.mono ?_
    clear cc
    rintro e w1 ⟨v1, rfl, r1, f1⟩
    rw [HR.out, if_pos rfl, if_pos rfl] at r1
    rw [HR.out]
    have b1 := hb.keep_nil f1
    have F1 := fb.trans_nil f1
    have hlen := sealB_len hK.each
    rw [HN.out] at hlen
    rw [hlen] at r1
    obtain ⟨A1, cap1, rfl, -, -, -, -, -⟩ := r1.shape
    go_wp2_with
      (first
        | (at_builtin; refine wpList_app rfl rfl slB wb.heap.size (.slice A1 (5 + 68 * n) cap1) (5 + 68 * n) _ rfl r1 _ 32 32 (bvs tg) rfl (by rw [bvs_length, hK.tg]) (Rd.of_blk b1 _ _ key_tg) (bvs_one _) (by simp) (by omega) f1.size ?_; intro v2 w2 q1 q2 q3 q4))
    rw [← bvs_append] at q1
    have hl2 : (sealB es ++ tg).length = 5 + 68 * n + 32 := by rw [List.length_append, hlen, hK.tg]
    have F2 : Fr [] w w2 := F1.trans q2 (fun i hi => .inr (by have := (r1.lt i (mem_own.1 hi)).1; have := fb.size; omega))
    rw [← hl2] at q1
    refine (fill12_any q1 (by omega) (Nat.le_trans f1.size q2.size)).mono ?_
    rintro e w3 ⟨r, rfl, t1, t2⟩
    go_wp2_with fail
    go_ret2
    refine ⟨_, by rw [HR.out]; rfl, ?_, F2.trans t2 (fun i hi => .inr (by have := (q1.lt i (mem_own.1 hi)).1; have := fb.size; omega))⟩
    rw [HR.out, if_pos rfl, if_pos rfl, keyBytes_len hK.each hK.tg (by rw [HN.out]; omega), keyBytes_eq hK.each hK.tg]
    exact t1.mono fb.size
end Go.Proofs.Ytmonedfafechcaa
