/-
  Layer 13 (record): seal; the reference's done.
-/
import Derived.Test.YtlelgeigighecaaDoorRecG
set_option linter.unusedSimpArgs false
set_option linter.unusedVariables false
set_option linter.unnecessarySimpa false
namespace Go.Proofs.YtlelgeigighecaaDoor
open Go.RowKit

theorem flat_take_succ (bs : List (List UInt8)) (k : Nat) (h : k < bs.length) : (bs.take (k + 1)).flatten = (bs.take k).flatten ++ bs[k] := by
  rw [List.take_succ_eq_append_getElem h, List.flatten_append]
  simp
theorem flat_take_le (bs : List (List UInt8)) (k : Nat) : ((bs.take k).flatten).length ≤ bs.flatten.length := by
  conv => rhs; rw [← List.take_append_drop k bs, List.flatten_append, List.length_append]
  omega

set_option maxRecDepth 100000 in
set_option maxHeartbeats 4000000 in
theorem rcSeal_any {w : World} {n c m : Nat} {A : Option Addr} {vs : List Value} {bs : List (List UInt8)} (hm : m < 18446744073709551616) (hn : bs.length = n) (hr : BRd w A vs bs) (hb : bs.flatten.length ≤ 140737488355200) (hn2 : n ≤ 140737488355328) (hK : KG w) :
    Calls Tryd.prog 63 #[.int .u64 (m : Int), .slice A n c] w fun e w' => ∃ r, e = .returned r ∧ Row w' w.heap.size 5 1 r 512 (bvs (doneB m bs.flatten)) ∧ Fr [] w w' := by
  have HN := Lib.hid hn
  have HB := Lib.hid hb
  have p0 := hK.pos
  clear hn hb
  go_enter Tryd.func63, Tryd.ntmps63
  go_upto_region 1 with fail
  have b1 : Blk (w.alloc (.cells #[.int .u64 (m : Int)] 22)) w.heap.size 22 #[.int .u64 (m : Int)] := Blk.new _ _ _
  have F1 : Fr [] w (w.alloc (.cells #[.int .u64 (m : Int)] 22)) := (Fr.refl _ _).alloc _
  have s1 : (w.alloc (.cells #[.int .u64 (m : Int)] 22)).heap.size = w.heap.size + 1 := by simp
  generalize w.alloc (.cells #[.int .u64 (m : Int)] 22) = w1 at *
  obtain ⟨g1, hg1⟩ : ∃ g, w.heap.size = g := ⟨_, rfl⟩
  have HG1 := Lib.hid (And.intro hg1 s1)
  rw [hg1] at b1 ⊢
  clear hg1 s1
  go_wp2_with fail
  refine (newHash_any w1).mono ?_
  rintro e w2 ⟨g, rfl, hg, hh, f2⟩
  have F2 := F1.trans_nil f2
  have b2 := b1.keep_nil f2
  have gw : w.heap.size < g := by have := HG1.out; omega
  have hgl := hh.blk.lt
  have g1g : g1 < g := by have := HG1.out; omega
  clear b1 F1 f2
  obtain ⟨B, hB⟩ : ∃ B, w2.heap.size = B := ⟨_, rfl⟩
  rw [hB] at hh hgl
  have hgB : g < B := hgl
  have HBB := Lib.hid hB
  clear hB hgl
  go_wp2_with fail
  go_loopw [12] (fun i wr => ∃ k : Nat, k ≤ n ∧ i = .int .i64 k ∧ (∃ v, Hsh wr g B v (bs.take k).flatten) ∧ Blk wr g1 22 #[.int .u64 (m : Int)] ∧ Fr [] w wr) (fun i _ => n - (intOf i).toNat)
  case atStart => exact ⟨0, Nat.zero_le _, rfl, ⟨_, hh⟩, b2, F2⟩
  case round =>
    clear hh b2 F2
    obtain ⟨k, hk, rfl, ⟨v, hh⟩, b3, F3⟩ := hrel
    have hbase := hh.base
    by_cases hlt : k < n
    · have hkl : k < bs.length := by rw [HN.out]; exact hlt
      have hkv : k < vs.length := by rw [hr.len]; exact hkl
      have hr3 := hr.keep_nil F3
      obtain ⟨ga, oa, rfl, hc⟩ := hr3.rd (by intro h; rw [h] at hkv; simp at hkv)
      have ck := hc k vs[k] (List.getElem?_eq_getElem hkv)
      obtain ⟨Ak, cK, hv, hrd, hnil, hcap⟩ := hr3.each k hkv hkl
      obtain ⟨Aw, cw, hvw, hrdw, -⟩ := hr.each k hkv hkl
      rw [hv] at ck
      have eA : Ak = Aw := by rw [hv] at hvw; injection hvw
      have hft := flat_take_succ bs k hkl
      have hfl := flat_take_le bs (k + 1)
      rw [hft, List.length_append] at hfl
      obtain ⟨b, hbk⟩ : ∃ b, bs[k] = b := ⟨_, rfl⟩
      rw [hbk] at ck hrd hnil hft hfl hrdw hcap
      obtain ⟨l, hll⟩ : ∃ l, (bs.take k).flatten = l := ⟨_, rfl⟩
      rw [hll] at hh hft hfl
      have HFT := Lib.hid hft
      obtain ⟨nb, hnb⟩ : ∃ nb, b.length = nb := ⟨_, rfl⟩
      rw [hnb] at ck hnil hfl hcap
      have HB2 := HB.out
      have cc := hWrite_any hh Ak nb cK b hnb hrd hnil (fun g' o e hne => by
        obtain ⟨g2, o2, e2, h2⟩ := hrdw.lt (by intro h0; apply hne; simpa [bvs] using h0)
        rw [← eA, e] at e2
        cases e2
        omega) (by omega) (hK.keep F3) (by omega) (by omega)
      have hown : ∀ i, v.ownBlock = some i → B ≤ i := fun i hi => (hh.row.lt i hi).1
      clear hc hv hrd hnil hcap hvw hrdw eA hft hfl hbk hll hnb hr3 HB2
      go_wp2_with fail
      refine cc.mono ?_
      clear cc
      rintro e w4 ⟨rfl, v4, h4, f4, -⟩
      have b4 := b3.keep f4 (fun hm => by
        rcases List.mem_cons.1 hm with e | hm
        · omega
        · have := hown _ (mem_own.1 hm); omega)
      have F4 : Fr [] w w4 := F3.trans f4 (fun i hi => .inr (by
        rcases List.mem_cons.1 hi with e | hi
        · omega
        · have := hown _ (mem_own.1 hi); omega))
      go_wp2_with fail
      exact ⟨⟨k + 1, by omega, by go_num, ⟨v4, by rw [HFT.out]; exact h4⟩, b4, F4⟩, by simp [intOf]; omega⟩
    · obtain rfl : k = n := by omega
      rw [List.take_of_length_le (by rw [HN.out]; exact Nat.le_refl _)] at hh
      go_wp2_with fail
      refine (hSum_any hh HB.out (hK.keep F3)).mono ?_
      rintro e w5 ⟨rfl, f5⟩
      have F5 := F3.trans_nil f5
      have b5 := b3.keep_nil f5
      obtain ⟨D, hD⟩ : ∃ D, shaSum bs.flatten = D := ⟨_, rfl⟩
      have hdl : D.length = 32 := by rw [← hD, shaSum_length]
      rw [hD]
      have HDD := Lib.hid (fun _ : Unit => hD)
      have HDL := Lib.hid hdl
      clear hD hdl hh b3 F3 f5
      go_wp2_with
        (first
          | (refine wpList_alS stA32 (o := ⟨some 8, _, _, _, _, _⟩) rfl rfl ?_; intro wa ha fa za; have ZA := Lib.hid za; clear za; obtain ⟨g8, hgg⟩ : ∃ g, w5.heap.size = g := ⟨_, rfl⟩; rw [hgg] at ha; rw [hgg]; have HG8 := Lib.hid hgg; clear hgg)
          | (refine wpList_stB stA32 rfl rfl g8 rfl (bvs D) rfl (by rw [bvs_length, HDL.out]) (bvs_one _) (bvs (zB 32)) rfl ha ?_; intro wb hb fb zb; have ZB := Lib.hid zb; clear zb))
      have f6 : Fr [] w5 wb := fa.trans fb (fun i hi => .inr (by have := HG8.out; simp at hi; omega))
      have F6 := F5.trans_nil f6
      have b6 := b5.keep_nil f6
      refine (rcBlock_rcSeal1 wb g1 g8 (doneM ++ leB 8 m ++ D) (by rw [List.length_append, List.length_append, leB_length, HDL.out]; decide) (fun wx p B v f _ _ h => rcSeal1_ok h hm (b6.keep_nil f) (hb.keep_nil f) HDL.out)).mono ?_
      rintro e w7 ⟨r, rfl, r7, f7⟩
      obtain ⟨A7, cap7, rfl, -, -, -, -, -⟩ := r7.shape
      go_wp2_with fail
      go_ret
      refine ⟨_, rfl, ?_, F6.trans_nil f7⟩
      rw [doneB, doneR, HDD.out ()]
      exact r7.mono F6.size
end Go.Proofs.YtlelgeigighecaaDoor
