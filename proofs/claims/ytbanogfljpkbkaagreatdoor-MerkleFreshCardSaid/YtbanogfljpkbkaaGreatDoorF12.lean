/-
  Texts of this claim, one behind the other: ShaG, ShaH.
-/
import Derived.Test.YtbanogfljpkbkaaGreatDoorF11
import Derived.Test.YtbanogfljpkbkaaGreatDoorF7
import Derived.BigRegion
import Derived.Laws.Cover3
set_option linter.unusedSimpArgs false
set_option linter.unusedVariables false
set_option linter.unnecessarySimpa false
namespace Go.Proofs.YtbanogfljpkbkaaGreatDoor
section
open Go.RowKit
theorem hash_cells {w : World} {g : Nat} {s : S8} {v : Value} {n : Nat} (hb : Blk w g 215 (hashC s v n).toArray) : w.cell? ⟨g, 8, none⟩ = some v ∧ w.cell? ⟨g, 9, none⟩ = some (.int .i64 n) :=
 ⟨by rw [hb.cell]; rfl, by rw [hb.cell]; rfl⟩
theorem hash_n {w : World} {g : Nat} {s : S8} {v : Value} {n m : Nat} (hb : Blk w g 215 (hashC s v n).toArray) : Blk (w.setCell ⟨g, 9, none⟩ (.int .i64 m)) g 215 (hashC s v m).toArray := hb.set_ 9 _
theorem hash_v {w : World} {g : Nat} {s : S8} {v v' : Value} {n : Nat} (hb : Blk w g 215 (hashC s v n).toArray) : Blk (w.setCell ⟨g, 8, none⟩ v') g 215 (hashC s v' n).toArray := hb.set_ 8 _
theorem hash_rng {w : World} {g : Nat} {s : S8} {v : Value} {n : Nat} (hb : Blk w g 215 (hashC s v n).toArray) : w.rangeAt g 0 (wvs s.list) :=
 hb.range 0 _ (fun j u hu => by
  have hj := (List.getElem?_eq_some_iff.1 hu).1
  rw [Nat.zero_add, List.getElem?_toArray, hashC, List.getElem?_append_left hj, hu])
theorem set_hash {s t : S8} {v : Value} {n : Nat} : ((hashC s v n).toArray.toList.take 0 ++ wvs t.list ++ (hashC s v n).toArray.toList.drop (0 + (wvs t.list).length)).toArray = (hashC t v n).toArray := rfl
theorem splice0 {cur : Array Value} {xs : List Value} {m : Nat} (hf : 0 + xs.length ≤ cur.size) (hx : xs.length = m) : (cur.toList.take 0 ++ xs ++ cur.toList.drop (0 + xs.length)).toArray.size = cur.size ∧ (cur.toList.take 0 ++ xs ++ cur.toList.drop (0 + xs.length)).toArray.toList.take m = xs := by
 subst hx
 constructor
 ·simp; omega
 ·simp
set_option maxRecDepth 100000 in
set_option maxHeartbeats 4000000 in
theorem hWrite_any {w : World} {g B : Nat} {v : Value} {l : List UInt8} (h : Hsh w g B v l) (A : Option Addr) (n c : Nat) (b : List UInt8) (hb : b.length = n) (hr : Rd w A (bvs b)) (hA : A = none → n = 0) (hp : ∀ g' o, A = some ⟨g', o, none⟩ → b ≠ [] → g' ≠ g) (hN : l.length + n ≤ 140737488355328) (hK : KG w) (hg : 0 < g) (hB : 0 < B) :
  Calls Tryz.prog 136 #[.pointer (some ⟨g, 0, none⟩), .slice A n c] w fun e w' => e = .returned (.tuple #[]) ∧ ∃ v', Hsh w' g B v' (l ++ b) ∧ Fr (g :: v.ownBlock.toList) w w' ∧ (∀ g', v'.ownBlock = some g' → v.ownBlock = some g' ∨ w.heap.size ≤ g') := by
 obtain ⟨h1, h2, h3⟩ := h
 have HNB := Lib.hid hb
 obtain ⟨c8, c9⟩ := hash_cells h1
 have z8 := h1.frozen 8
 have z9 := h1.frozen 9
 obtain ⟨A8, cap8, rfl, -, -, -, -, -⟩ := h2.shape
 have hrl := rest_len l
 obtain ⟨q0, hq0⟩ : ∃ q, l.drop (64 * (l.length / 64)) = q := ⟨_, rfl⟩
 obtain ⟨s0, hs0⟩ : ∃ s, shaRun first8 l (l.length / 64) = s := ⟨_, rfl⟩
 obtain ⟨r, hr0⟩ : ∃ r, l.length % 64 = r := ⟨_, rfl⟩
 have hr64 : r ≤ l.length := by omega
 rw [hq0, hr0] at h2
 rw [hs0, hr0] at h1
 rw [hq0, hr0] at hrl
 rw [hr0] at c8
 have HQ := Lib.hid (fun _ : Unit => hq0)
 have HS := Lib.hid (fun _ : Unit => hs0)
 have HR := Lib.hid (fun _ : Unit => hr0)
 have HRL := Lib.hid hrl
 clear hb hq0 hs0 hr0 hrl
 have hw : IntKind.i64.wrap ((l.length : Int) + n) = ((l.length + n : Nat) : Int) := by rw [IntWalk.i64_in _ (by omega)]; omega
 go_enter Tryz.func136, Tryz.ntmps136
 go_upto_region 2 with fail
 rw [show ((l.length : Int) + n) = ((l.length + n : Nat) : Int) by omega]
 have i1 := hash_n (m := l.length + n) h1
 have f1 : Fr [g] w _ := (Fr.refl [g] w).setCell (p := ⟨g, 9, none⟩) (.inl (by simp)) (.int .i64 ((l.length + n : Nat) : Int))
 have r1 := h2.keep f1 (fun b hb hm => (h2.ne_blk h1 (by decide)) (by rw [hb]; simp at hm; rw [hm]))
 have b1 : Rd (w.setCell ⟨g, 9, none⟩ (.int .i64 ((l.length + n : Nat) : Int))) A (bvs b) := by
  by_cases hbe : b = []
  ·rw [hbe]; exact Rd.nil _ _
  ·exact hr.keep f1 (fun g' o e => by simp; exact hp g' o e hbe)
 have s1 := f1.size
 generalize w.setCell ⟨g, 9, none⟩ (.int .i64 ((l.length + n : Nat) : Int)) = w1 at *
 obtain ⟨d8, d9⟩ := hash_cells i1
 have y8 := i1.frozen 8
 have HNE := Lib.hid (r1.ne_blk i1 (by decide))
 clear c8 c9 z8 z9 hw
 go_wp2_with
  (first
   | (at_builtin; refine wpList_app rfl rfl slB B (.slice A8 r cap8) r (bvs q0) rfl r1 A n c (bvs b) rfl (by rw [bvs_length, HNB.out]; omega) b1 (bvs_one b) hA (by omega) (by omega) ?_; intro v2 w2 q1 q2 q3 q4; have i2 := i1.keep q2 (fun hm => HNE.out (mem_own.1 hm)); obtain ⟨e8, e9⟩ := hash_cells i2; have y9 := i2.frozen 8; have q1' := q1; obtain ⟨A2, cap2, rfl, -, -, -, -, -⟩ := q1.shape))
 have i3 := hash_v (v' := .slice A2 (r + n) cap2) i2
 have f2 : Fr (g :: (Value.slice A8 r cap8).ownBlock.toList) w w2 := (f1.mono (by simp)).trans q2 (fun i hi => .inl (List.mem_cons_of_mem _ hi))
 have f3 : Fr (g :: (Value.slice A8 r cap8).ownBlock.toList) w (w2.setCell ⟨g, 8, none⟩ (.slice A2 (r + n) cap2)) := f2.setCell (.inl (by simp)) _
 have hne := q1'.ne_blk i2 (by decide)
 have r3 := q1'.keep ((Fr.refl [g] w2).setCell (p := ⟨g, 8, none⟩) (.inl (by simp)) (.slice A2 (r + n) cap2)) (fun b hb hm => hne (by rw [hb]; simp at hm; rw [hm]))
 generalize w2.setCell ⟨g, 8, none⟩ (.slice A2 (r + n) cap2) = w3 at *
 rw [← bvs_append] at r3
 obtain ⟨q, hq⟩ : ∃ q, q0 ++ b = q := ⟨_, rfl⟩
 rw [hq] at r3
 have hql : q.length = r + n := by rw [← hq, List.length_append, HRL.out, HNB.out]
 have HQL := Lib.hid hql
 have HQQ := Lib.hid (fun _ : Unit => hq)
 have HQ3 := Lib.hid (show ∀ g', (Value.slice A2 (r + n) cap2).ownBlock = some g' → (Value.slice A8 r cap8).ownBlock = some g' ∨ w.heap.size ≤ g' from fun g' hg' => (q3 g' hg').imp_right (fun e => by omega))
 have hK3 : w3.rangeAt 0 0 (wvs kC) := rangeAt_keep hK f3 (by simp only [List.mem_cons, not_or]; exact ⟨by omega, fun hm => by have := (h2.lt _ (mem_own.1 hm)).1; omega⟩)
 have HKK := Lib.hid (fun _ : Unit => hK3)
 have HNE3 := Lib.hid hne
 clear hql hq hK3 hK d8 d9 e8 e9 y8 y9 i1 i2 q1 q2 q3 b1 f1 f2 r1 h1 hne hr
 have i3' : Blk w3 g 215 (hashC (shaRun s0 q 0) (.slice A2 (r + n) cap2) (l.length + n)).toArray := i3
 clear i3
 go_loopw [4] (fun at_ wr => ∃ k : Nat, 64 * k ≤ r + n ∧ at_ = .int .i64 ((64 * k : Nat) : Int) ∧ Blk wr g 215 (hashC (shaRun s0 q k) (.slice A2 (r + n) cap2) (l.length + n)).toArray ∧ Fr [g] w3 wr) (fun at_ _ => r + n - (intOf at_).toNat)
 case atStart => exact ⟨0, Nat.zero_le _, rfl, i3', Fr.refl _ _⟩
 case round =>
  clear i3'
  obtain ⟨k, hk, rfl, i4, f4⟩ := hrel
  obtain ⟨e8, e9⟩ := hash_cells i4
  obtain ⟨z, hz⟩ : ∃ z, 64 * k = z := ⟨_, rfl⟩
  rw [hz] at hk ⊢
  have HZ := Lib.hid hz
  clear hz
  by_cases hlt : z + 64 ≤ r + n
  ·obtain ⟨ga, hga⟩ : ∃ ga, A2 = some ⟨ga, 0, none⟩ := by
    rcases r3.2 with ⟨e, _⟩ | ⟨g', cap, cur, fz, e, _⟩
    ·injection e with e1 e2 e3; omega
    ·injection e with e1 e2 e3; exact ⟨g', e1⟩
   subst hga
   have hcap : r + n ≤ cap2 ∧ cap2 ≤ maxLen := by obtain ⟨A', c', e, h1, h2, -, -, -⟩ := r3.shape; cases e; exact ⟨h1, h2⟩
   have hcap1 := hcap.1
   have hcap2 := hcap.2
   unfold maxLen at hcap2
   have hgag : ga ≠ g := fun e => HNE3.out (by rw [← e]; rfl)
   obtain ⟨st, hst⟩ : ∃ st, shaRun s0 q k = st := ⟨_, rfl⟩
   obtain ⟨pc, hpc⟩ : ∃ pc, (q.drop z).take 64 = pc := ⟨_, rfl⟩
   have hpl : pc.length = 64 := by rw [← hpc, List.length_take, List.length_drop, HQL.out]; omega
   have HST := Lib.hid (fun _ : Unit => (show shaRun s0 q (k + 1) = shaBlk st pc by rw [← hst, ← hpc, ← HZ.out]; rfl))
   rw [hst] at i4
   have hrp : wr.rangeAt ga z (bvs pc) := by
    obtain ⟨A', c', e, -, -, hrd, -, -⟩ := r3.shape
    cases e
    have hne : bvs q ≠ [] := fun e => by have := congrArg List.length e; rw [bvs_length, HQL.out, List.length_nil] at this; omega
    obtain ⟨g', o', e', hc⟩ := hrd hne
    cases e'
    intro j u hu
    have hj : j < 64 := by have := (List.getElem?_eq_some_iff.1 hu).1; rw [bvs_length, hpl] at this; exact this
    refine f4.cell (p := ⟨ga, z + j, none⟩) (by simpa using hgag) ?_
    have := hc (z + j) u (by rw [← hu, ← hpc, bvs_take, List.getElem?_take, if_pos hj, bvs_drop, List.getElem?_drop])
    rwa [Nat.zero_add] at this
   have HPL := Lib.hid hpl
   have HRP := Lib.hid (fun _ : Unit => hrp)
   clear hst hpc hpl hrp hcap
   have K1 : (64 : Int) ≤ ((r + n : Nat) : Int) - (z : Int) := by omega
   go_wp2_with fail
   try simp only [Act.put, p1, p2, p3]
   have U1 : IntKind.i64.wrap ((z : Int) + 64) = (z : Int) + 64 := IntWalk.i64_in _ (by omega)
   have U2 : ((z : Int) + 64).toNat = z + 64 := by omega
   have U3 : (0 : Int) ≤ (z : Int) + 64 := by omega
   have U4 : (z : Int) + 64 ≤ cap2 := by omega
   have U5 : ¬ (cap2 = z) := by omega
   have U6 : (z : Int) ≤ max ((z : Int) + 64) 0 := by omega
   have U7 : z + 64 - z = 64 := by omega
   refine wp_region_held_drew (S := fun _ => True) (by kernel_rfl) trivial (fun hHeld => ?_)
   have FQ : Fr [] wr wr.drew := (Fr.refl [] wr).drew
   have e8 := FQ.cell (by simp) e8
   have j4 := i4.keep_nil FQ
   have HRP2 := Lib.hid (fun _ : Unit => rangeAt_keep (HRP.out ()) FQ (by simp))
   generalize wr.drew = w0 at *
   refine tw 0 36 hHeld ?_
   refine tw 1 37 hHeld ?_
   refine tw 2 38 hHeld ?_
   refine tw 3 39 hHeld ?_
   refine tw 5 41 hHeld ?_
   refine tw 6 42 hHeld ?_
   refine tw 7 43 hHeld ?_
   refine tw 9 45 hHeld ?_
   refine tw 10 46 hHeld ?_
   refine tw 11 47 hHeld ?_
   refine take_2 4 8 (some 40) (some 44) rfl rfl rfl rfl (by kernel_rfl) (by rfl) (by rfl) (fun K hK => ?_) (fun K hK => ?_)
   ·refine wp_ldS stW8 rfl g 0 rfl (wvs st.list) (by rw [wvs_length]; rfl) (hash_rng j4) (hK _ _ trivial fun hHx => ?_)
    clear hHx
    clear hK K
    try simp only [Act.put, p1, p2, p3]
    refine tcd 8 (some 44) (fun K hK => ?_)
    refine wp_ld1 Tryz.underlying27 rfl rfl g 8 rfl _ e8 (hK _ _ trivial fun hHx => ?_)
    clear hHx
    clear hK K
    try simp only [Act.put, p1, p2, p3]
    refine take_w 12 (some 48) (v := .slice (some ⟨ga, z, none⟩) 64 (cap2 - z)) rfl rfl (by kernel_rfl) (by kernel_rfl) (by kernel_rfl) (fun _ _ _ h => h) (by rfl) (fun w hSw => ?_) hHeld ?_
    ·go_simp
    try simp only [Act.put, p1, p2, p3]
    refine take_w 13 (some 49) (v := .pointer (some ⟨ga, z, none⟩)) rfl rfl (by kernel_rfl) (by kernel_rfl) (by kernel_rfl) (fun _ _ _ h => h) (by rfl) (fun w hSw => ?_) hHeld ?_
    ·have X := run_arrayAt (P := Tryz.prog) (w := w) 159 5 64 (some ⟨ga, z, none⟩) 64 (cap2 - z) Tryz.underlying159 (Nat.le_refl _)
     go_simp
    try simp only [Act.put, p1, p2, p3]
    refine tcd 14 (some 50) (fun K hK => ?_)
    refine wp_ldS stA64 rfl ga z rfl (bvs pc) (by rw [bvs_length, HPL.out]) (HRP2.out ()) (hK _ _ trivial fun hHx => ?_)
    clear hHx
    clear hK K
    try simp only [Act.put, p1, p2, p3]
    refine tc 15 (fun K hK => ?_)
    go_simp
    refine (block_any w0 st pc HPL.out (rangeAt_keep (rangeAt_keep (HKK.out ()) f4 (by simp; omega)) FQ (by simp))).mono ?_
    rintro e w' ⟨rfl, fq⟩
    have j5 := j4.keep_nil fq
    have FQ := FQ.trans_nil fq
    refine hK.out _ _ trivial (fun hHx => ?_)
    clear hHx
    clear hK K
    try simp only [Act.put, p1, p2, p3]
    refine tw 16 52 hHeld ?_
    refine tw 17 53 hHeld ?_
    refine tcd 18 none (fun K hK => ?_)
    refine wp_stS stW8 rfl g 0 rfl (wvs (shaBlk st pc).list) rfl (by rw [wvs_length]; rfl) (wvs_one _) _ 215 (0, 0) j5 (free_zero _) (by rw [List.size_toArray, hashC_len]; omega) (fun w6 h6 f6 z6 => ?_)
    rw [set_hash] at h6
    refine hK _ _ trivial (fun hHx => ?_)
    clear hHx
    clear hK K
    try simp only [Act.put, p1, p2, p3]
    refine wpAnyH_done (by kernel_rfl) ?_ _
    go_wp2_with fail
    refine ⟨⟨k + 1, by have := HZ.out; omega, ?_, ?_, (f4.trans_nil FQ).trans_same f6⟩, by simp [intOf]; omega⟩
    ·have := HZ.out; congr 1; omega
    ·rw [HST.out ()]; exact h6
   ·refine wp_ld1 Tryz.underlying27 rfl rfl g 8 rfl _ e8 (hK _ _ trivial fun hHx => ?_)
    clear hHx
    clear hK K
    try simp only [Act.put, p1, p2, p3]
    refine take_w 12 (some 48) (v := .slice (some ⟨ga, z, none⟩) 64 (cap2 - z)) rfl rfl (by kernel_rfl) (by kernel_rfl) (by kernel_rfl) (fun _ _ _ h => h) (by rfl) (fun w hSw => ?_) hHeld ?_
    ·go_simp
    try simp only [Act.put, p1, p2, p3]
    refine take_w 13 (some 49) (v := .pointer (some ⟨ga, z, none⟩)) rfl rfl (by kernel_rfl) (by kernel_rfl) (by kernel_rfl) (fun _ _ _ h => h) (by rfl) (fun w hSw => ?_) hHeld ?_
    ·have X := run_arrayAt (P := Tryz.prog) (w := w) 159 5 64 (some ⟨ga, z, none⟩) 64 (cap2 - z) Tryz.underlying159 (Nat.le_refl _)
     go_simp
    try simp only [Act.put, p1, p2, p3]
    refine take_2 4 14 (some 40) (some 50) rfl rfl rfl rfl (by kernel_rfl) (by rfl) (by rfl) (fun K hK => ?_) (fun K hK => ?_)
    ·refine wp_ldS stW8 rfl g 0 rfl (wvs st.list) (by rw [wvs_length]; rfl) (hash_rng j4) (hK _ _ trivial fun hHx => ?_)
     clear hHx
     clear hK K
     try simp only [Act.put, p1, p2, p3]
     refine tcd 14 (some 50) (fun K hK => ?_)
     refine wp_ldS stA64 rfl ga z rfl (bvs pc) (by rw [bvs_length, HPL.out]) (HRP2.out ()) (hK _ _ trivial fun hHx => ?_)
     clear hHx
     clear hK K
     try simp only [Act.put, p1, p2, p3]
     refine tc 15 (fun K hK => ?_)
     go_simp
     refine (block_any w0 st pc HPL.out (rangeAt_keep (rangeAt_keep (HKK.out ()) f4 (by simp; omega)) FQ (by simp))).mono ?_
     rintro e w' ⟨rfl, fq⟩
     have j5 := j4.keep_nil fq
     have FQ := FQ.trans_nil fq
     refine hK.out _ _ trivial (fun hHx => ?_)
     clear hHx
     clear hK K
     try simp only [Act.put, p1, p2, p3]
     refine tw 16 52 hHeld ?_
     refine tw 17 53 hHeld ?_
     refine tcd 18 none (fun K hK => ?_)
     refine wp_stS stW8 rfl g 0 rfl (wvs (shaBlk st pc).list) rfl (by rw [wvs_length]; rfl) (wvs_one _) _ 215 (0, 0) j5 (free_zero _) (by rw [List.size_toArray, hashC_len]; omega) (fun w6 h6 f6 z6 => ?_)
     rw [set_hash] at h6
     refine hK _ _ trivial (fun hHx => ?_)
     clear hHx
     clear hK K
     try simp only [Act.put, p1, p2, p3]
     refine wpAnyH_done (by kernel_rfl) ?_ _
     go_wp2_with fail
     refine ⟨⟨k + 1, by have := HZ.out; omega, ?_, ?_, (f4.trans_nil FQ).trans_same f6⟩, by simp [intOf]; omega⟩
     ·have := HZ.out; congr 1; omega
     ·rw [HST.out ()]; exact h6
    ·refine wp_ldS stA64 rfl ga z rfl (bvs pc) (by rw [bvs_length, HPL.out]) (HRP2.out ()) (hK _ _ trivial fun hHx => ?_)
     clear hHx
     clear hK K
     try simp only [Act.put, p1, p2, p3]
     refine tcd 4 (some 40) (fun K hK => ?_)
     refine wp_ldS stW8 rfl g 0 rfl (wvs st.list) (by rw [wvs_length]; rfl) (hash_rng j4) (hK _ _ trivial fun hHx => ?_)
     clear hHx
     clear hK K
     try simp only [Act.put, p1, p2, p3]
     refine tc 15 (fun K hK => ?_)
     go_simp
     refine (block_any w0 st pc HPL.out (rangeAt_keep (rangeAt_keep (HKK.out ()) f4 (by simp; omega)) FQ (by simp))).mono ?_
     rintro e w' ⟨rfl, fq⟩
     have j5 := j4.keep_nil fq
     have FQ := FQ.trans_nil fq
     refine hK.out _ _ trivial (fun hHx => ?_)
     clear hHx
     clear hK K
     try simp only [Act.put, p1, p2, p3]
     refine tw 16 52 hHeld ?_
     refine tw 17 53 hHeld ?_
     refine tcd 18 none (fun K hK => ?_)
     refine wp_stS stW8 rfl g 0 rfl (wvs (shaBlk st pc).list) rfl (by rw [wvs_length]; rfl) (wvs_one _) _ 215 (0, 0) j5 (free_zero _) (by rw [List.size_toArray, hashC_len]; omega) (fun w6 h6 f6 z6 => ?_)
     rw [set_hash] at h6
     refine hK _ _ trivial (fun hHx => ?_)
     clear hHx
     clear hK K
     try simp only [Act.put, p1, p2, p3]
     refine wpAnyH_done (by kernel_rfl) ?_ _
     go_wp2_with fail
     refine ⟨⟨k + 1, by have := HZ.out; omega, ?_, ?_, (f4.trans_nil FQ).trans_same f6⟩, by simp [intOf]; omega⟩
     ·have := HZ.out; congr 1; omega
     ·rw [HST.out ()]; exact h6
  ·have K1 : ((r + n : Nat) : Int) - (z : Int) < 64 := by omega
   have hne4 : (Value.slice A2 (r + n) cap2).ownBlock ≠ some g := HNE3.out
   have r4 := r3.keep f4 (fun b hb hm => hne4 (by rw [hb]; simp at hm; rw [hm]))
   have HNE4 := Lib.hid hne4
   have hzk : z = 64 * k := HZ.out.symm
   have hcap : r + n ≤ cap2 := by obtain ⟨A', c', e, h1, h2, -, -, -⟩ := r3.shape; cases e; exact h1
   have hrd := r4.rd
   have HZK := Lib.hid hzk
   have HRD := Lib.hid (fun _ : Unit => hrd)
   have R4 := Lib.hid (fun _ : Unit => r4)
   clear hne4 hzk hrd r4
   go_wp2_with fail
   try simp only [Act.put, p1, p2, p3]
   refine wp_region_held_drew (S := fun w' => w'.cell? ⟨g, 8, none⟩ = some (.slice A2 (r + n) cap2)) (by kernel_rfl) e8 (fun hHeld => ?_)
   refine tw 0 54 hHeld ?_
   refine tw 1 55 hHeld ?_
   refine tw 2 56 hHeld ?_
   refine tw 3 57 hHeld ?_
   refine tw 4 58 hHeld ?_
   refine tw 5 59 hHeld ?_
   refine tw 6 60 hHeld ?_
   refine tw 7 61 hHeld ?_
   refine tw 8 62 hHeld ?_
   refine take_w 9 (some 63) (v := .slice (if cap2 = z then A2 else A2.map (·.add z)) (r + n - z) (cap2 - z)) rfl rfl (by kernel_rfl) (by kernel_rfl) (by kernel_rfl) (fun _ _ _ h => h) (by rfl) (fun w hSw => ?_) hHeld ?_
   ·have U1 : (z : Int) ≤ ((r + n : Nat) : Int) := by omega
    go_simp
    intro hx
    omega
   try simp only [Act.put, p1, p2, p3]
   have r5 := (R4.out ()).keep_nil ((Fr.refl [] wr).drew)
   have rdq := (r5.rd.1).cut z cap2 (by rw [bvs_length, HQL.out]; exact hcap)
   rw [← bvs_drop] at rdq
   have e85 : wr.drew.cell? ⟨g, 8, none⟩ = some (.slice A2 (r + n) cap2) := e8
   have i5 := i4.keep_nil ((Fr.refl [] wr).drew)
   have FQ : Fr [] wr wr.drew := (Fr.refl [] wr).drew
   generalize wr.drew = w5 at *
   obtain ⟨AX, hAX⟩ : ∃ X, (if cap2 = z then A2 else A2.map (·.add z)) = X := ⟨_, rfl⟩
   rw [hAX]
   rw [hAX] at rdq
   clear hAX
   rcases r5.2 with ⟨e, e0⟩ | ⟨ga, cap, cur, fz, e, hbg, hga, hfz, hnc, hcm, hcs, htk⟩
   ·injection e with e1 e2 e3
    subst e1 e3
    have hz0 : z = 0 := by omega
    subst hz0
    have hq0 : q = [] := List.eq_nil_of_length_eq_zero (by rw [HQL.out]; omega)
    refine tcd 10 (some 64) (fun K hK => ?_)
    refine wp_cp rfl Tryz.underlying27 (by kernel_rfl) none _ (r + n) 0 (r + n - 0) (0 - 0) rfl rfl (bvs (q.drop 0)) (by rw [hq0]; simp [bvs]; omega) rdq (bvs_one _) g 0 (fun h => absurd (by rw [hq0]; rfl) h) _ 215 (0, 0) i5 (free_zero _) (by rw [hq0, List.size_toArray, hashC_len]; decide) (fun w6 h6 f6 => hK _ w6 ?_ fun hHx => ?_)
    ·rw [hq0] at h6
     have i6 : Blk w6 g 215 (hashC (shaRun s0 q k) (.slice none (r + n) 0) (l.length + n)).toArray := by unfold Blk; rw [hq0]; simpa [bvs] using h6
     exact (hash_cells i6).1
    clear hHeld
    have hHeld := hHx
    clear hHx
    clear hK K
    try simp only [Act.put, p1, p2, p3]
    refine tw 11 5 hHeld ?_
    refine wpAnyH_done (by kernel_rfl) ?_ _
    rw [hq0] at h6
    have i6 : Blk w6 g 215 (hashC (shaRun s0 q k) (.slice none (r + n) 0) (l.length + n)).toArray := by unfold Blk; rw [hq0]; simpa [bvs] using h6
    have r6 : Row w6 B 5 1 (.slice none 0 0) 0 (bvs (q.drop 0)) := by
     rw [hq0]
     exact Row.nil _ _ _ _
    have f36 : Fr (g :: (Value.slice A8 r cap8).ownBlock.toList) w w6 := ((f3.trans f4 (fun i hi => .inl (by simp at hi; simp [hi]))).trans_nil FQ).trans f6 (fun i hi => .inl (by simp at hi; simp [hi]))
    clear h6
    have HR6 := Lib.hid (fun _ : Unit => r6)
    have HF6 := Lib.hid f36
    clear r6 f36
    obtain ⟨e86, e96⟩ := hash_cells i6
    have y86 := i6.frozen 8
    have L1 : ((0 : Nat) : Int) ≤ 0 := by omega
    clear e8 e9 e85 e96 i4 hHeld
    have hlen : (l ++ b).length = l.length + n := by rw [List.length_append, HNB.out]
    have hdiv : (l ++ b).length / 64 = l.length / 64 + k := by rw [more_len, HR.out (), HNB.out]; have := HZK.out; omega
    have hst2 : shaRun first8 (l ++ b) ((l ++ b).length / 64) = shaRun s0 q k := by rw [hdiv, sha_more, HS.out (), HQ.out (), HQQ.out ()]
    have hmod : (l ++ b).length % 64 = 0 := by have := HZK.out; have := HR.out (); omega
    have hrest : (l ++ b).drop (64 * ((l ++ b).length / 64)) = q.drop 0 := by rw [more_rest, HQ.out (), HQQ.out (), HR.out (), HNB.out]; congr 1; have := HZK.out; omega
    have HF := Lib.hid (fun _ : Unit => And.intro hlen (And.intro hst2 (And.intro hmod hrest)))
    clear hlen hdiv hst2 hmod hrest
    go_wp2_with fail
    all_goals
     go_end0
     have i7 := hash_v (v' := .slice none 0 0) i6
     obtain ⟨hlen, hst2, hmod, hrest⟩ := HF.out ()
     rw [show (Value.slice A8 (l.length % 64) cap8).ownBlock = (Value.slice A8 r cap8).ownBlock by rw [HR.out ()]]
     refine ⟨rfl, .slice none 0 0, ⟨?_, ?_, ?_⟩, HF6.out.setCell (.inl (by simp)) _, HQ3.out⟩
     ·rw [hst2, hlen]; exact i7
     ·rw [hmod, hrest]
      refine (HR6.out ()).keep ((Fr.refl [g] w6).setCell (p := ⟨g, 8, none⟩) (.inl (by simp)) (.slice none 0 0)) (fun b hb hm => HNE4.out ?_)
      rw [List.mem_singleton.1 hm] at hb
      exact hb
     ·have := HF6.out.size; simp; omega
   ·injection e with e1 e2 e3
    subst e1 e3
    have hgag : ga ≠ g := fun e => HNE4.out (by rw [← e]; rfl)
    have hmin : (bvs (q.drop z)).length = Nat.min (r + n - z) (r + n) := by rw [bvs_length, List.length_drop, HQL.out]; exact (Nat.min_eq_left (by omega)).symm
    have hfit : 0 + (bvs (q.drop z)).length ≤ cur.size := by rw [bvs_length, List.length_drop, HQL.out, hcs]; omega
    refine tcd 10 (some 64) (fun K hK => ?_)
    refine wp_cp rfl Tryz.underlying27 (by kernel_rfl) (some ⟨ga, 0, none⟩) _ (r + n) cap2 (r + n - z) (cap2 - z) rfl rfl (bvs (q.drop z)) hmin rdq (bvs_one _) ga 0 (fun _ => rfl) cur 5 fz hga hfz hfit (fun w6 h6 f6 => hK _ w6 (f6.cell (by simpa using hgag.symm) hHeld) fun hHx => ?_)
    clear hHeld
    have hHeld := hHx
    clear hHx
    clear hK K
    try simp only [Act.put, p1, p2, p3]
    refine tw 11 5 hHeld ?_
    refine wpAnyH_done (by kernel_rfl) ?_ _
    have i6 := i5.keep f6 (by simpa using hgag.symm)
    obtain ⟨sp1, sp2⟩ := splice0 hfit (show (bvs (q.drop z)).length = r + n - z by rw [bvs_length, List.length_drop, HQL.out])
    have r6 : Row w6 B 5 1 (.slice (some ⟨ga, 0, none⟩) (r + n - z) cap2) (r + n - z) (bvs (q.drop z)) :=
     ⟨by rw [bvs_length, List.length_drop, HQL.out]; omega, .inr ⟨ga, cap2, _, fz, rfl, hbg, h6, by rw [sp1]; exact hfz, by omega, hcm, by rw [sp1]; exact hcs, by rw [Nat.mul_one]; exact sp2⟩⟩
    have f36 : Fr (g :: (Value.slice A8 r cap8).ownBlock.toList) w w6 := ((f3.trans f4 (fun i hi => .inl (by simp at hi; simp [hi]))).trans_nil FQ).trans f6 (fun i hi => by
     rw [List.mem_singleton.1 hi]
     rcases HQ3.out ga rfl with h | h
     ·exact .inl (List.mem_cons_of_mem _ (mem_own.2 h))
     ·exact .inr h)
    clear h6 sp1 sp2
    have HR6 := Lib.hid (fun _ : Unit => r6)
    have HF6 := Lib.hid f36
    clear r6 f36
    obtain ⟨e86, e96⟩ := hash_cells i6
    have y86 := i6.frozen 8
    have L1 : (((r + n - z) : Nat) : Int) ≤ cap2 := by omega
    clear e8 e9 e85 e96 i4 hHeld
    have hlen : (l ++ b).length = l.length + n := by rw [List.length_append, HNB.out]
    have hdiv : (l ++ b).length / 64 = l.length / 64 + k := by rw [more_len, HR.out (), HNB.out]; have := HZK.out; omega
    have hst2 : shaRun first8 (l ++ b) ((l ++ b).length / 64) = shaRun s0 q k := by rw [hdiv, sha_more, HS.out (), HQ.out (), HQQ.out ()]
    have hmod : (l ++ b).length % 64 = (r + n - z) := by have := HZK.out; have := HR.out (); omega
    have hrest : (l ++ b).drop (64 * ((l ++ b).length / 64)) = q.drop z := by rw [more_rest, HQ.out (), HQQ.out (), HR.out (), HNB.out]; congr 1; have := HZK.out; omega
    have HF := Lib.hid (fun _ : Unit => And.intro hlen (And.intro hst2 (And.intro hmod hrest)))
    clear hlen hdiv hst2 hmod hrest
    go_wp2_with fail
    all_goals
     go_end0
     have i7 := hash_v (v' := .slice (some ⟨ga, 0, none⟩) (r + n - z) cap2) i6
     obtain ⟨hlen, hst2, hmod, hrest⟩ := HF.out ()
     rw [show (Value.slice A8 (l.length % 64) cap8).ownBlock = (Value.slice A8 r cap8).ownBlock by rw [HR.out ()]]
     refine ⟨rfl, .slice (some ⟨ga, 0, none⟩) (r + n - z) cap2, ⟨?_, ?_, ?_⟩, HF6.out.setCell (.inl (by simp)) _, HQ3.out⟩
     ·rw [hst2, hlen]; exact i7
     ·rw [hmod, hrest]
      refine (HR6.out ()).keep ((Fr.refl [g] w6).setCell (p := ⟨g, 8, none⟩) (.inl (by simp)) (.slice (some ⟨ga, 0, none⟩) (r + n - z) cap2)) (fun b hb hm => HNE4.out ?_)
      rw [List.mem_singleton.1 hm] at hb
      exact hb
     ·have := HF6.out.size; simp; omega
end
section
open Go.RowKit
theorem wp_boxS {P : Program} {o : Oper} {a : Act} {w : World} {K : Act → World → Prop} {Q : Exit → Act → World → Prop} {t : TypeId} {x : Operand} (ho : o.op = .box t x) (cs : List Value) (hx : a.eval x = .agg cs.toArray)
  (h : ∀ w', Blk w' w.heap.size t cs.toArray → Fr [] w w' → w'.heap.size = w.heap.size + 1 → K (a.put o.dst (.pointer (some ⟨w.heap.size, 0, none⟩))) w') : o.wp P a w K Q := by
 refine wp_val (.pointer (some ⟨w.heap.size, 0, none⟩)) (w.alloc (.cells cs.toArray t)) ?_ (h _ (Blk.new _ _ _) ((Fr.refl _ _).alloc _) (by simp))
 unfold execOp
 simp [ho, hx, Instr.box, newVar, newRow, Value.cells]
set_option maxRecDepth 100000 in
set_option maxHeartbeats 1000000 in
theorem hFork_any {w : World} {g B : Nat} {v : Value} {l : List UInt8} (h : Hsh w g B v l) :
  Calls Tryz.prog 188 #[.pointer (some ⟨g, 0, none⟩)] w fun e w' => ∃ g2 v2, e = .returned (.pointer (some ⟨g2, 0, none⟩)) ∧ w.heap.size ≤ g2 ∧ Hsh w' g2 w.heap.size v2 l ∧ Fr [] w w' := by
 obtain ⟨h1, h2, h3⟩ := h
 have hrl := rest_len l
 obtain ⟨q, hq⟩ : ∃ q, l.drop (64 * (l.length / 64)) = q := ⟨_, rfl⟩
 obtain ⟨s, hs⟩ : ∃ s, shaRun first8 l (l.length / 64) = s := ⟨_, rfl⟩
 obtain ⟨r, hr⟩ : ∃ r, l.length % 64 = r := ⟨_, rfl⟩
 rw [hq, hr] at h2 hrl
 rw [hs] at h1
 have hr64 : r < 64 := by omega
 have HQ := Lib.hid (fun _ : Unit => And.intro hq (And.intro hs hr))
 have HRL := Lib.hid hrl
 clear hq hs hr hrl
 obtain ⟨A, cap, rfl, -, -, rd, -, -⟩ := h2.shape
 have hA := h2.rd.2.2
 go_enter Tryz.func188, Tryz.ntmps188
 go_wp2_with fail
 refine wp_region_held_drew (S := fun w' => Blk w' g 215 (hashC s (.slice A r cap) l.length).toArray) (by kernel_rfl) (h1.keep_nil (Fr.refl [] w).drew) (fun hHeld => ?_)
 have FQ : Fr [] w w.drew := (Fr.refl [] w).drew
 have rd := rd.keep_nil FQ
 generalize w.drew = w0 at *
 refine tw 0 5 hHeld ?_
 refine tw 1 6 hHeld ?_
 refine tw 2 7 hHeld ?_
 refine tw 3 8 hHeld ?_ (v := .agg (wvs s.list).toArray) (hy := (fun w hSw => hy_ld stW8 rfl g 0 rfl (wvs s.list) (by rw [wvs_length]; rfl) (hash_rng hSw)))
 refine tw 4 9 hHeld ?_
 refine tw 5 10 hHeld ?_
 refine tw 6 11 hHeld ?_
 refine tw 7 12 hHeld ?_ (v := .slice A r cap) (hy := (fun w hSw => by have c := (hash_cells hSw).1; go_simp))
 refine tw 9 14 hHeld ?_
 refine tw 10 15 hHeld ?_
 refine tw 11 16 hHeld ?_
 refine tw 12 17 hHeld ?_ (v := .int .i64 l.length) (hy := (fun w hSw => by have c := (hash_cells hSw).2; go_simp))
 refine tc 8 (fun K hK => ?_)
 go_simp
 refine (clone_any A q r cap _ HRL.out rd hA (by omega)).mono ?_
 rintro e w2 ⟨v2, rfl, r2, f2⟩
 refine hK.out _ _ (hHeld.keep_nil f2) (fun hHx => ?_)
 clear hHeld
 have hHeld := hHx
 clear hHx
 clear hK K
 try simp only [Act.put, p1, p2, p3]
 have F2 := FQ.trans_nil f2
 obtain ⟨A2, cap2, rfl, -, -, -, -, -⟩ := r2.shape
 refine tw 13 18 hHeld ?_ (v := .agg (hashC s (.slice A2 r cap2) l.length).toArray) (hy := (fun w hSw => hy_bld (ps' := #[(0, .agg (wvs s.list).toArray), (1, .slice A2 r cap2), (2, .int .i64 (l.length : Int))]) rfl (by kernel_rfl) _ (bldHash w s A2 r cap2 l.length)))
 refine tcd 14 (some 19) (fun K hK => ?_)
 refine wp_boxS rfl (hashC s (.slice A2 r cap2) l.length) rfl (fun w3 h3' f3 z3 => hK _ w3 (hHeld.keep_nil f3) fun hHx => ?_)
 clear hHeld
 have hHeld := hHx
 clear hHx
 clear hK K
 try simp only [Act.put, p1, p2, p3]
 refine tw 15 2 hHeld ?_
 refine wpAnyH_done (by kernel_rfl) ?_ _
 go_wp2_with fail
 go_ret
 obtain ⟨hq, hs, hr⟩ := HQ.out ()
 have s0 := FQ.size
 refine ⟨w2.heap.size, .slice A2 r cap2, rfl, F2.size, ⟨?_, ?_, ?_⟩, F2.trans_nil f3⟩
 ·rw [hs]; exact h3'
 ·rw [hq, hr]; exact (r2.keep_nil f3).mono s0
 ·exact (F2.trans_nil f3).size
def outA (s : S8) (k : Nat) : List UInt8 := (s.list.take k).flatMap wordB ++ List.replicate (32 - 4 * k) 0
theorem outA_len (s : S8) : ∀ k, k ≤ 8 → (outA s k).length = 32
 | 0, _ => rfl | 1, _ => rfl | 2, _ => rfl | 3, _ => rfl | 4, _ => rfl | 5, _ => rfl | 6, _ => rfl | 7, _ => rfl | 8, _ => rfl
 | n + 9, h => by omega
theorem outA_set (s : S8) : ∀ k, k < 8 → ∀ x, s.list.getD k 0 = x → ((((outA s k).set (4 * k) (UInt8.ofNat (x.toNat / 2 ^ 24))).set (4 * k + 1) (UInt8.ofNat (x.toNat / 2 ^ 16))).set (4 * k + 2) (UInt8.ofNat (x.toNat / 2 ^ 8))).set (4 * k + 3) (UInt8.ofNat x.toNat) = outA s (k + 1)
 | 0, _, _, rfl => rfl | 1, _, _, rfl => rfl | 2, _, _, rfl => rfl | 3, _, _, rfl => rfl | 4, _, _, rfl => rfl | 5, _, _, rfl => rfl | 6, _, _, rfl => rfl | 7, _, _, rfl => rfl
 | n + 8, h, _, _ => by omega
theorem outA_zero (s : S8) : outA s 0 = zB 32 := rfl
theorem outA_all (s : S8) : outA s 8 = s.list.flatMap wordB := rfl
theorem blkB_set {w : World} {g : Nat} {t : TypeId} {l : List UInt8} (hb : Blk w g t (bvs l).toArray) (i : Nat) (x : UInt8) : Blk (w.setCell ⟨g, i, none⟩ (bv x)) g t (bvs (l.set i x)).toArray := by
 have := hb.set_ i (bv x)
 rwa [List.setIfInBounds_toArray, show (bvs l).set i (bv x) = bvs (l.set i x) by simp [bvs, List.map_set]] at this
theorem u8_of (m : Nat) : Value.int .u8 (IntKind.u8.wrap (m : Int)) = bv (UInt8.ofNat m) := by
 unfold bv
 congr 1
theorem uw_byte_at (x : UInt32) (n : Nat) : Value.int .u8 (IntKind.u8.wrap (uw x / 2 ^ n)) = bv (UInt8.ofNat (x.toNat / 2 ^ n)) := by
 have e : (uw x / 2 ^ n) = ((x.toNat / 2 ^ n : Nat) : Int) := by unfold uw; push_cast; rfl
 rw [e, u8_of]
theorem uw_byte_0 (x : UInt32) : Value.int .u8 (IntKind.u8.wrap (uw x)) = bv (UInt8.ofNat x.toNat) := u8_of x.toNat
def beK (n k : Nat) : List UInt8 := (List.range k).map fun i => UInt8.ofNat (n / 2 ^ (56 - 8 * i))
theorem beK_succ (n k : Nat) : beK n (k + 1) = beK n k ++ [UInt8.ofNat (n / 2 ^ (56 - 8 * k))] := by simp [beK, List.range_succ]
theorem beK_all (n : Nat) : beK n 8 = be8 n := rfl
theorem beK_len (n k : Nat) : (beK n k).length = k := by simp [beK]
end
end Go.Proofs.YtbanogfljpkbkaaGreatDoor
