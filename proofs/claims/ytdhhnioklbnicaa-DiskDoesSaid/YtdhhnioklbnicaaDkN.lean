/-
  Layer 10 (disk): what must come of every program.
-/
import Derived.Test.YtdhhnioklbnicaaDkM
import Derived.Test.YtdhhnioklbnicaaDkF
import Derived.Test.YtdhhnioklbnicaaDkG
import Derived.Test.YtdhhnioklbnicaaDkH
import Derived.Test.YtdhhnioklbnicaaDkI
import Derived.Test.YtdhhnioklbnicaaReg
set_option linter.unusedSimpArgs false
set_option linter.unusedVariables false
set_option linter.unnecessarySimpa false
namespace Go.Proofs.Ytdhhnioklbnicaa
open Go.RowKit
set_option maxRecDepth 100000

/-- A disk that was made behind w, as it lies in w'. -/
def LV (w w' : World) (p : Nat) (D : DkM) : Prop := ∃ O, Dsk w' p O D ∧ (∀ i ∈ O, w.heap.size ≤ i) ∧ Fr [] w w'
section
variable {w w1 w2 : World} {p : Nat} {O : List Nat} {D D' : DkM}
theorem LV.fr (h : LV w w1 p D) : Fr [] w w1 := by obtain ⟨O, _, _, f⟩ := h; exact f
theorem LV.keep (h : LV w w1 p D) (f : Fr [] w1 w2) : LV w w2 p D := by
  obtain ⟨O, h1, h2, h3⟩ := h
  exact ⟨O, h1.keep_nil f, h2, h3.trans_nil f⟩
theorem LV.aft (hO : ∀ i ∈ O, w.heap.size ≤ i) (f : Fr [] w w1) (h : AftD w1 p O D w2) : LV w w2 p D := by
  obtain ⟨O', k1, k2, k3⟩ := h
  refine ⟨O', k1, fun i hi => ?_, f.trans k3 (fun i hi => .inr (hO i hi))⟩
  rcases k2 i hi with h3 | h3
  · exact hO i h3
  · exact Nat.le_trans f.size h3
theorem LV.of_new {x : Int} {e : Ending} (hx : 1 ≤ x ∧ x ≤ 4096) (h : NewC w x e w1) : ∃ p, e = .returned (.tuple #[.pointer (some ⟨p, 0, none⟩), .int .i64 0]) ∧ LV w w1 p (newD x.toNat) := by
  rw [NewC, if_pos hx] at h
  obtain ⟨p, O, rfl, h1, h2, h3⟩ := h
  exact ⟨p, rfl, O, h1, h2, h3⟩
theorem LV.write (h : LV w w1 p D) (x : Int) (A : Option Addr) (n c : Nat) (b : List UInt8) (hb : b.length = n) (rd : Rd w1 A (bvs b)) (hA : A = none → n = 0) (hl : (D.uns x).length ≤ 4398046511104) :
    Calls Try.prog 11 #[.pointer (some ⟨p, 0, none⟩), .int .i64 x, .slice A n c] w1 fun e w' => e = .returned (.int .i64 (D.writeE x n)) ∧ LV w w' p (D.write x b) := by
  obtain ⟨O, h1, h2, h3⟩ := h
  exact (dkWrite_any h1 x A n c b hb rd hA hl).mono fun e w' ⟨he, ha⟩ => ⟨he, LV.aft h2 h3 ha⟩
theorem LV.tamper (h : LV w w1 p D) (x : Int) (A : Option Addr) (n c : Nat) (b : List UInt8) (hb : b.length = n) (rd : Rd w1 A (bvs b)) (hA : A = none → n = 0) :
    Calls Try.prog 22 #[.pointer (some ⟨p, 0, none⟩), .int .i64 x, .slice A n c] w1 fun e w' => e = .returned (.int .i64 (D.mayE x n)) ∧ LV w w' p (D.tamper x b) := by
  obtain ⟨O, h1, h2, h3⟩ := h
  exact (dkTamper_any h1 x A n c b hb rd hA).mono fun e w' ⟨he, ha⟩ => ⟨he, LV.aft h2 h3 ha⟩
theorem LV.flush (h : LV w w1 p D) : Calls Try.prog 13 #[.pointer (some ⟨p, 0, none⟩)] w1 fun e w' => e = .returned (.int .i64 D.flushE) ∧ LV w w' p D.flush := by
  obtain ⟨O, h1, h2, h3⟩ := h
  exact (dkFlush_any h1).mono fun e w' ⟨he, ha⟩ => ⟨he, LV.aft h2 h3 ha⟩
theorem LV.crash (h : LV w w1 p D) (A : Option Addr) (n c : Nat) (ks : List (Int × Int)) (hk : KRd w1 A n ks) (hn : n ≤ 140737488355328) :
    Calls Try.prog 15 #[.pointer (some ⟨p, 0, none⟩), .slice A n c] w1 fun e w' => e = .returned (.int .i64 (D.crashE ks)) ∧ LV w w' p (D.crash ks) := by
  obtain ⟨O, h1, h2, h3⟩ := h
  exact (dkCrash_any h1 A n c ks hk hn).mono fun e w' ⟨he, ha⟩ => ⟨he, LV.aft h2 h3 ha⟩
theorem LV.unsure (h : LV w w1 p D) : Calls Try.prog 14 #[.pointer (some ⟨p, 0, none⟩)] w1 fun e w' => UnsC w1 D.unsL e w' ∧ LV w w' p D := by
  obtain ⟨O, h1, h2, h3⟩ := id h
  exact (dkUnsure_any h1).mono fun e w' hu => ⟨hu, by obtain ⟨v, _, _, f⟩ := hu; exact h.keep f⟩
theorem LV.read (h : LV w w1 p D) (x : Int) : Calls Try.prog 16 #[.pointer (some ⟨p, 0, none⟩), .int .i64 x] w1 fun e w' => ReadC w1 (D.readR x) (D.readE x) e w' ∧ LV w w' p D := by
  obtain ⟨O, h1, h2, h3⟩ := id h
  exact (dkRead_any h1 x).mono fun e w' hu => ⟨hu, by obtain ⟨v, _, _, f⟩ := hu; exact h.keep f⟩
theorem LV.sure (h : LV w w1 p D) (x : Int) : Calls Try.prog 10 #[.pointer (some ⟨p, 0, none⟩), .int .i64 x] w1 fun e w' => SureC w1 (D.sureR x) e w' ∧ LV w w' p D := by
  obtain ⟨O, h1, h2, h3⟩ := id h
  exact (dkSure_any h1 x).mono fun e w' hu => ⟨hu, by obtain ⟨v, _, _, f⟩ := hu; exact h.keep f⟩
theorem LV.len (h : LV w w1 p D) : Calls Try.prog 24 #[.pointer (some ⟨p, 0, none⟩)] w1 fun e w' => e = .returned (.int .i64 D.sure.length) ∧ w1 = w' := by
  obtain ⟨O, h1, h2, h3⟩ := h
  exact dkLen_any h1
theorem LV.fork (h : LV w w1 p D) (hl : ∀ x, (D.uns x).length ≤ 4398046511104) : Calls Try.prog 17 #[.pointer (some ⟨p, 0, none⟩)] w1 fun e w' => ∃ p2, e = .returned (.pointer (some ⟨p2, 0, none⟩)) ∧ LV w w' p D ∧ LV w1 w' p2 D := by
  obtain ⟨O, h1, h2, h3⟩ := id h
  exact (dkFork_any h1 hl).mono fun e w' ⟨p2, O2, he, k1, k2, k3⟩ => ⟨p2, he, h.keep k3, O2, k1, k2, k3⟩
end

theorem lv1 (b : List UInt8) (hb : b.length = 512) : (newD 4).write 3 b = (newD 4).wr 3 b := by
  rw [DkM.write, hb, if_neg (by decide), if_neg (by decide)]
  rfl
def lvD (b c : List UInt8) : DkM := ((newD 4).wr 3 b).wr 3 c
theorem lv2 (b c : List UInt8) (hb : b.length = 512) (hc : c.length = 512) : ((newD 4).wr 3 b).write 3 c = lvD b c := by
  rw [DkM.write, hc, show ((newD 4).wr 3 b).mayE 3 512 = 0 from rfl, show ((newD 4).wr 3 b).off = false from rfl]
  rfl
theorem lvD_uns (b c : List UInt8) (x : Int) : (lvD b c).uns x = if x = 3 then [b, c] else [] := by
  simp only [lvD, DkM.wr, DkM.wrL, newD]
  by_cases h : x = 3
  · simp [h]
  · simp [h]
theorem lv_unsL (b c : List UInt8) : (lvD b c).unsL = [(3, 2)] := by
  show ((List.range 4).filter _).map _ = _
  rw [show (List.range 4).filter (fun i : Nat => !((lvD b c).uns (i : Int)).isEmpty) = [3] from ?_]
  · simp [lvD_uns]
  · simp [List.range_succ, List.filter, lvD_uns]
theorem lv3 (b c : List UInt8) : (lvD b c).crashE [(3, 1)] = 0 ∧ (lvD b c).crash [(3, 1)] = ⟨[none, none, none, some b], fun _ => [], -1⟩ := by
  have h : crOk (lvD b c) [(3, 1)] = true := rfl
  rw [DkM.crashE, DkM.crash, h]
  exact ⟨rfl, rfl⟩
def lvE (b : List UInt8) : DkM := ⟨[none, none, none, some b], fun _ => [], -1⟩
theorem lv4 (b : List UInt8) : (lvE b).readE 3 = 0 ∧ (lvE b).readR 3 = b ∧ (lvE b).readE 4 = 100 ∧ (lvE b).readR 4 = [] ∧ (lvE b).sure.length = 4 := ⟨rfl, rfl, rfl, rfl, rfl⟩
def bX : List UInt8 := blkOf [120]
def bY : List UInt8 := blkOf [121]
theorem bX_len : bX.length = 512 := blkOf_len _
theorem bY_len : bY.length = 512 := blkOf_len _
theorem lvW1 (n : Nat) (hn : n = 512) : (newD 4).writeE 3 n = 0 := by subst hn; rfl
set_option maxHeartbeats 8000000 in
theorem lives_any (w : World) : Calls Try.prog 9 #[] w fun e w' => e = .returned (.bool true) ∧ Fr [] w w' := by
  have cn := dkNew_any w 4 (by omega)
  go_enter Try.func9, Try.ntmps9
  go_wp2_with fail
  refine cn.mono ?_
  intro e w1 hn
  obtain ⟨p, rfl, h1⟩ := LV.of_new (by omega) hn
  clear cn hn
  change LV w w1 p (newD 4) at h1
  have kc := fun (w : World) (C : Array Value) (n c : Nat) => Lib.run_convert_bytes_const (P := Try.prog) w 31 5 C n c Try.underlying31 Try.underlying5
  go_wp2_with fail
  refine (dkBlock_any _ _ 1 1 [120] rfl (Rd.mark w1 [120] 5 (1, 2)) (by omega)).mono ?_
  rintro e w2 ⟨v, rfl, r, f⟩
  obtain ⟨A, c, rfl, -, -, rd, hA, -⟩ := r.shape
  replace h1 := (h1.keep ((Fr.refl [] w1).alloc _)).keep f
  go_wp2_with fail
  refine (h1.write 3 A 512 c bX bX_len rd (fun h => by subst h; obtain ⟨g, c', h⟩ := r.hdD (by omega); cases h) (by decide)).mono ?_
  rintro e w3 ⟨rfl, h1⟩
  rw [lvW1 512 rfl, lv1 bX bX_len] at *
  clear r f rd hA
  go_wp2_with fail
  refine (dkBlock_any _ _ 1 1 [121] rfl (Rd.mark w3 [121] 5 (1, 2)) (by omega)).mono ?_
  rintro e w4 ⟨v, rfl, r, f⟩
  obtain ⟨A4, c4, rfl, -, -, rd, hA, -⟩ := r.shape
  replace h1 := (h1.keep ((Fr.refl [] w3).alloc _)).keep f
  go_wp2_with fail
  refine (h1.write 3 A4 512 c4 bY bY_len rd (fun h => by subst h; obtain ⟨g, c', h⟩ := r.hdD (by omega); cases h) (by decide)).mono ?_
  rintro e w5 ⟨rfl, h1⟩
  rw [lv2 bX bY bX_len bY_len] at h1
  clear r f rd hA
  obtain ⟨O, hd, hO, hf⟩ := h1
  go_wp2_with fail
  refine (dkUnsure_any hd).mono ?_
  rw [lv_unsL]
  rintro e w6 ⟨v, rfl, ru, f6⟩
  obtain ⟨gu, cu, rfl⟩ := ru.hdD (by decide)
  have hgu := (ru.lt gu rfl)
  have hOg : gu ∉ O := fun hm => by obtain ⟨X, hX⟩ := hd; have := hX.lt _ hm; omega
  have u0 : w6.cell? ⟨gu, 0, none⟩ = some (.int .i64 3) := ru.rdD.1 |> fun h => by obtain ⟨g, o, e, hc⟩ := h (by decide); cases e; exact hc 0 _ rfl
  have u1 : w6.cell? ⟨gu, 1, none⟩ = some (.int .i64 2) := ru.rdD.1 |> fun h => by obtain ⟨g, o, e, hc⟩ := h (by decide); cases e; exact hc 1 _ rfl
  have f7 : Fr [] w6 (w6.alloc (.cells #[.int .i64 3, .int .i64 1] 77)) := (Fr.refl [] w6).alloc _
  have hk : KRd (w6.alloc (.cells #[.int .i64 3, .int .i64 1] 77)) (some ⟨w6.heap.size, 0, none⟩) 1 [(3, 1)] := by
    have kb := Blk.new w6 77 #[.int .i64 3, .int .i64 1]
    refine ⟨rfl, fun i hi => ?_, fun p hp => ?_⟩
    · have : i = 0 := by simp at hi; omega
      subst this
      exact ⟨_, _, rfl, kb.cell 0, kb.cell 1⟩
    · simp at hp
      subst hp
      exact ⟨wfZ_of (by decide), wfZ_of (by decide)⟩
  replace hd := (hd.keep_nil f6).keep_nil f7
  replace hf := (hf.trans_nil f6).trans_nil f7
  replace u0 := f7.cell (by simp) u0
  replace u1 := f7.cell (by simp) u1
  obtain ⟨W7, hW7⟩ : ∃ W7, w6.alloc (.cells #[.int .i64 3, .int .i64 1] 77) = W7 := ⟨_, rfl⟩
  rw [hW7] at hk hd hf u0 u1
  have H7 := Lib.hid hW7
  have hc := dkCrash_any hd (some ⟨w6.heap.size, 0, none⟩) 1 1 [(3, 1)] hk (by omega)
  rw [(lv3 bX bY).1, (lv3 bX bY).2] at hc
  change Calls _ _ _ _ (fun e w' => e = _ ∧ AftD W7 p O (lvE bX) w') at hc
  clear hk hW7 f7 f6 ru hd hgu
  go_wp2_with fail
  rw [H7.out]
  refine hc.mono ?_
  rintro e w8 ⟨rfl, ha⟩
  have h8 : LV w w8 p (lvE bX) := LV.aft hO hf ha
  obtain ⟨O', -, -, fa⟩ := ha
  replace u0 := fa.cell hOg u0
  replace u1 := fa.cell hOg u1
  clear fa hOg hO hf hc
  go_wp2_with fail
  refine (h8.read 3).mono ?_
  rw [(lv4 bX).1, (lv4 bX).2.1]
  rintro e w9 ⟨⟨v, rfl, rb, f9⟩, h9⟩
  obtain ⟨gb, cb, rfl⟩ := rb.hdD (by rw [bX_len]; decide)
  rw [bX_len] at *
  replace u0 := f9.cell (by simp) u0
  replace u1 := f9.cell (by simp) u1
  clear f9 h8
  go_wp2_with fail
  refine (h9.read 4).mono ?_
  rw [(lv4 bX).2.2.1, (lv4 bX).2.2.2.1]
  rintro e wA ⟨⟨v, rfl, rz, fA⟩, hA⟩
  replace u0 := fA.cell (by simp) u0
  replace u1 := fA.cell (by simp) u1
  replace rb := rb.keep_nil fA
  clear fA h9 rz
  go_upto_region 10 with fail
  obtain ⟨wD, hwD⟩ : ∃ wD, wA.drew = wD := ⟨_, rfl⟩
  have fD : Fr [] wA wD := by rw [← hwD]; exact (Fr.refl [] wA).drew
  replace u0 := fD.cell (by simp) u0
  replace u1 := fD.cell (by simp) u1
  replace rb := rb.keep_nil fD
  replace hA := hA.keep fD
  have mkS : ∀ w' : World, Fr [] wD w' → (w'.cell? ⟨gu, 0, none⟩ = some (.int .i64 3) ∧ w'.cell? ⟨gu, 1, none⟩ = some (.int .i64 2) ∧ (convert 31 9 (.slice (some ⟨gb, 0, none⟩) 512 cb)).run Try.prog w' = .ok (.string ⟨bX.toArray⟩) w' ∧ Fr [] wD w') :=
    fun w' f => ⟨f.cell (by simp) u0, f.cell (by simp) u1, conv_str Try.underlying31 Try.underlying5 Try.underlying9 w' _ bX 512 cb bX_len (rb.rdD.1.keep_nil f) (fun h => by cases h), f⟩
  refine wp_region_held_drew (S := fun w' => w'.cell? ⟨gu, 0, none⟩ = some (.int .i64 3) ∧ w'.cell? ⟨gu, 1, none⟩ = some (.int .i64 2) ∧ (convert 31 9 (.slice (some ⟨gb, 0, none⟩) 512 cb)).run Try.prog w' = .ok (.string ⟨bX.toArray⟩) w' ∧ Fr [] wD w') (by kernel_rfl) (by rw [hwD]; exact mkS _ (Fr.refl _ _)) (fun hHeld => ?_)
  rw [hwD] at hHeld ⊢
  have MK := Lib.hid mkS
  have HB := Lib.hid rb
  clear hwD fD mkS u0 u1 rb
  refine take_w 0 (some 45) (v := ?_) rfl rfl (by kernel_rfl) (by kernel_rfl) (by kernel_rfl) (fun _ _ _ h => h) (by rfl) ?_ hHeld ?_
  rotate_left
  · (intro w hSw; (try dsimp only at hSw); go_simp; try with_reducible rfl)
  simp only [Act.put, List.setIfInBounds_toArray, List.set_cons_zero, List.set_cons_succ]
  refine take_w 1 (some 46) (v := ?_) rfl rfl (by kernel_rfl) (by kernel_rfl) (by kernel_rfl) (fun _ _ _ h => h) (by rfl) ?_ hHeld ?_
  rotate_left
  · (intro w hSw; (try dsimp only at hSw); go_simp; try with_reducible rfl)
  simp only [Act.put, List.setIfInBounds_toArray, List.set_cons_zero, List.set_cons_succ]
  refine take_w 2 (some 47) (v := ?_) rfl rfl (by kernel_rfl) (by kernel_rfl) (by kernel_rfl) (fun _ _ _ h => h) (by rfl) ?_ hHeld ?_
  rotate_left
  · (intro w hSw; (try dsimp only at hSw); go_simp; try with_reducible rfl)
  simp only [Act.put, List.setIfInBounds_toArray, List.set_cons_zero, List.set_cons_succ]
  refine take_w 3 (some 48) (v := ?_) rfl rfl (by kernel_rfl) (by kernel_rfl) (by kernel_rfl) (fun _ _ _ h => h) (by rfl) ?_ hHeld ?_
  rotate_left
  · (intro w hSw; (try dsimp only at hSw); go_simp; try with_reducible rfl)
  simp only [Act.put, List.setIfInBounds_toArray, List.set_cons_zero, List.set_cons_succ]
  refine take_w 4 (some 49) (v := ?_) rfl rfl (by kernel_rfl) (by kernel_rfl) (by kernel_rfl) (fun _ _ _ h => h) (by rfl) ?_ hHeld ?_
  rotate_left
  · (intro w hSw; (try dsimp only at hSw); go_simp; try with_reducible rfl)
  simp only [Act.put, List.setIfInBounds_toArray, List.set_cons_zero, List.set_cons_succ]
  refine take_w 5 (some 50) (v := ?_) rfl rfl (by kernel_rfl) (by kernel_rfl) (by kernel_rfl) (fun _ _ _ h => h) (by rfl) ?_ hHeld ?_
  rotate_left
  · (intro w hSw; (try dsimp only at hSw); go_simp; try with_reducible rfl)
  simp only [Act.put, List.setIfInBounds_toArray, List.set_cons_zero, List.set_cons_succ]
  refine take_w 6 (some 51) (v := ?_) rfl rfl (by kernel_rfl) (by kernel_rfl) (by kernel_rfl) (fun _ _ _ h => h) (by rfl) ?_ hHeld ?_
  rotate_left
  · (intro w hSw; (try dsimp only at hSw); go_simp; try with_reducible rfl)
  simp only [Act.put, List.setIfInBounds_toArray, List.set_cons_zero, List.set_cons_succ]
  refine take_w 7 (some 52) (v := ?_) rfl rfl (by kernel_rfl) (by kernel_rfl) (by kernel_rfl) (fun _ _ _ h => h) (by rfl) ?_ hHeld ?_
  rotate_left
  · (intro w hSw; (try dsimp only at hSw); go_simp; try with_reducible rfl)
  simp only [Act.put, List.setIfInBounds_toArray, List.set_cons_zero, List.set_cons_succ]
  refine take_w 8 (some 53) (v := ?_) rfl rfl (by kernel_rfl) (by kernel_rfl) (by kernel_rfl) (fun _ _ _ h => h) (by rfl) ?_ hHeld ?_
  rotate_left
  · (intro w hSw; (try dsimp only at hSw); go_simp; try with_reducible rfl)
  simp only [Act.put, List.setIfInBounds_toArray, List.set_cons_zero, List.set_cons_succ]
  refine take_w 9 (some 54) (v := ?_) rfl rfl (by kernel_rfl) (by kernel_rfl) (by kernel_rfl) (fun _ _ _ h => h) (by rfl) ?_ hHeld ?_
  rotate_left
  · (intro w hSw; (try dsimp only at hSw); go_simp; try with_reducible rfl)
  simp only [Act.put, List.setIfInBounds_toArray, List.set_cons_zero, List.set_cons_succ]
  refine take_w 10 (some 55) (v := ?_) rfl rfl (by kernel_rfl) (by kernel_rfl) (by kernel_rfl) (fun _ _ _ h => h) (by rfl) ?_ hHeld ?_
  rotate_left
  · (intro w hSw; (try dsimp only at hSw); go_simp; try with_reducible rfl)
  simp only [Act.put, List.setIfInBounds_toArray, List.set_cons_zero, List.set_cons_succ]
  refine take_w 11 (some 56) (v := ?_) rfl rfl (by kernel_rfl) (by kernel_rfl) (by kernel_rfl) (fun _ _ _ h => h) (by rfl) ?_ hHeld ?_
  rotate_left
  · (intro w hSw; (try dsimp only at hSw); go_simp; try with_reducible rfl)
  simp only [Act.put, List.setIfInBounds_toArray, List.set_cons_zero, List.set_cons_succ]
  refine take_w 12 (some 57) (v := ?_) rfl rfl (by kernel_rfl) (by kernel_rfl) (by kernel_rfl) (fun _ _ _ h => h) (by rfl) ?_ hHeld ?_
  rotate_left
  · (intro w hSw; (try dsimp only at hSw); go_simp; try with_reducible rfl)
  simp only [Act.put, List.setIfInBounds_toArray, List.set_cons_zero, List.set_cons_succ]
  refine take_w 13 (some 58) (v := ?_) rfl rfl (by kernel_rfl) (by kernel_rfl) (by kernel_rfl) (fun _ _ _ h => h) (by rfl) ?_ hHeld ?_
  rotate_left
  · (intro w hSw; (try dsimp only at hSw); go_simp; try with_reducible rfl)
  simp only [Act.put, List.setIfInBounds_toArray, List.set_cons_zero, List.set_cons_succ]
  refine take_w 14 (some 59) (v := ?_) rfl rfl (by kernel_rfl) (by kernel_rfl) (by kernel_rfl) (fun _ _ _ h => h) (by rfl) ?_ hHeld ?_
  rotate_left
  · (intro w hSw; (try dsimp only at hSw); go_simp; try with_reducible rfl)
  simp only [Act.put, List.setIfInBounds_toArray, List.set_cons_zero, List.set_cons_succ]
  refine take_w 15 (some 60) (v := ?_) rfl rfl (by kernel_rfl) (by kernel_rfl) (by kernel_rfl) (fun _ _ _ h => h) (by rfl) ?_ hHeld ?_
  rotate_left
  · (intro w hSw; (try dsimp only at hSw); go_simp; try with_reducible rfl)
  simp only [Act.put, List.setIfInBounds_toArray, List.set_cons_zero, List.set_cons_succ]
  refine take_w 16 (some 61) (v := ?_) rfl rfl (by kernel_rfl) (by kernel_rfl) (by kernel_rfl) (fun _ _ _ h => h) (by rfl) ?_ hHeld ?_
  rotate_left
  · (intro w hSw; (try dsimp only at hSw); go_simp; try with_reducible rfl)
  simp only [Act.put, List.setIfInBounds_toArray, List.set_cons_zero, List.set_cons_succ]
  refine take_w 17 (some 62) (v := ?_) rfl rfl (by kernel_rfl) (by kernel_rfl) (by kernel_rfl) (fun _ _ _ h => h) (by rfl) ?_ hHeld ?_
  rotate_left
  · (intro w hSw; (try dsimp only at hSw); go_simp; try with_reducible rfl)
  simp only [Act.put, List.setIfInBounds_toArray, List.set_cons_zero, List.set_cons_succ]
  refine take_w 18 (some 63) (v := ?_) rfl rfl (by kernel_rfl) (by kernel_rfl) (by kernel_rfl) (fun _ _ _ h => h) (by rfl) ?_ hHeld ?_
  rotate_left
  · (intro w hSw; (try dsimp only at hSw); go_simp; try with_reducible rfl)
  simp only [Act.put, List.setIfInBounds_toArray, List.set_cons_zero, List.set_cons_succ]
  refine take_w 19 (some 64) (v := ?_) rfl rfl (by kernel_rfl) (by kernel_rfl) (by kernel_rfl) (fun _ _ _ h => h) (by rfl) ?_ hHeld ?_
  rotate_left
  · (intro w hSw; (try dsimp only at hSw); go_simp; try with_reducible rfl)
  simp only [Act.put, List.setIfInBounds_toArray, List.set_cons_zero, List.set_cons_succ]
  refine take_w 20 (some 65) (v := ?_) rfl rfl (by kernel_rfl) (by kernel_rfl) (by kernel_rfl) (fun _ _ _ h => h) (by rfl) ?_ hHeld ?_
  rotate_left
  · (intro w hSw; (try dsimp only at hSw); go_simp; try with_reducible rfl)
  simp only [Act.put, List.setIfInBounds_toArray, List.set_cons_zero, List.set_cons_succ]
  refine take_c 21 rfl (by kernel_rfl) (by rfl) (fun K hK => ?_)
  go_simp
  refine hK.out _ _ (MK.out _ ((Fr.refl [] wD).alloc _)) (fun hHx => ?_)
  clear hK
  try simp only [Act.put, List.setIfInBounds_toArray, List.set_cons_zero, List.set_cons_succ]
  refine take_c 22 rfl (by kernel_rfl) (by rfl) (fun K hK => ?_)
  go_simp
  refine hK.out _ _ (MK.out _ ((Fr.refl [] wD).alloc _)) (fun hHx2 => ?_)
  clear hK hHx
  try simp only [Act.put, List.setIfInBounds_toArray, List.set_cons_zero, List.set_cons_succ]
  refine take_c 23 rfl (by kernel_rfl) (by rfl) (fun K hK => ?_)
  go_simp
  refine (dkBlock_any _ _ 1 1 [120] rfl (Rd.mark wD [120] 5 (1, 2)) (by omega)).mono ?_
  rintro e wE ⟨vE, rfl, rE, fE⟩
  have FE := ((Fr.refl [] wD).alloc _).trans_nil fE
  obtain ⟨gE, cE, rfl⟩ := rE.hdD (by decide)
  have cvE : (convert 31 9 (.slice (some ⟨gE, 0, none⟩) 512 cE)).run Try.prog wE = .ok (.string ⟨bX.toArray⟩) wE := conv_str Try.underlying31 Try.underlying5 Try.underlying9 wE _ bX 512 cE bX_len rE.rdD.1 (fun h => by cases h)
  have cl := (hA.keep FE).len
  change Calls _ _ _ _ (fun e w' => e = .returned (.int .i64 (4 : Nat)) ∧ wE = w') at cl
  refine hK.out _ _ (MK.out _ FE) (fun hHx => ?_)
  clear hK hHx2 fE rE
  try simp only [Act.put, List.setIfInBounds_toArray, List.set_cons_zero, List.set_cons_succ]
  refine take_c 24 rfl (by kernel_rfl) (by rfl) (fun K hK => ?_)
  go_simp
  refine hK.out _ _ (MK.out _ FE) (fun hHy => ?_)
  clear hK hHx hHeld cvE
  have hHeld := hHy
  clear hHy
  try simp only [Act.put, List.setIfInBounds_toArray, List.set_cons_zero, List.set_cons_succ]
  refine take_w 25 (some 70) (v := ?_) rfl rfl (by kernel_rfl) (by kernel_rfl) (by kernel_rfl) (fun _ _ _ h => h) (by rfl) ?_ hHeld ?_
  rotate_left
  · (intro w hSw; (try dsimp only at hSw); go_simp; try with_reducible rfl)
  simp only [Act.put, List.setIfInBounds_toArray, List.set_cons_zero, List.set_cons_succ]
  refine take_w 26 (some 71) (v := ?_) rfl rfl (by kernel_rfl) (by kernel_rfl) (by kernel_rfl) (fun _ _ _ h => h) (by rfl) ?_ hHeld ?_
  rotate_left
  · (intro w hSw; (try dsimp only at hSw); go_simp; try with_reducible rfl)
  simp only [Act.put, List.setIfInBounds_toArray, List.set_cons_zero, List.set_cons_succ]
  refine take_w 27 (some 72) (v := ?_) rfl rfl (by kernel_rfl) (by kernel_rfl) (by kernel_rfl) (fun _ _ _ h => h) (by rfl) ?_ hHeld ?_
  rotate_left
  · (intro w hSw; (try dsimp only at hSw); go_simp; try with_reducible rfl)
  simp only [Act.put, List.setIfInBounds_toArray, List.set_cons_zero, List.set_cons_succ]
  refine take_w 28 (some 73) (v := ?_) rfl rfl (by kernel_rfl) (by kernel_rfl) (by kernel_rfl) (fun _ _ _ h => h) (by rfl) ?_ hHeld ?_
  rotate_left
  · (intro w hSw; (try dsimp only at hSw); go_simp; try with_reducible rfl)
  simp only [Act.put, List.setIfInBounds_toArray, List.set_cons_zero, List.set_cons_succ]
  refine take_w 29 (some 74) (v := ?_) rfl rfl (by kernel_rfl) (by kernel_rfl) (by kernel_rfl) (fun _ _ _ h => h) (by rfl) ?_ hHeld ?_
  rotate_left
  · (intro w hSw; (try dsimp only at hSw); go_simp; try with_reducible rfl)
  simp only [Act.put, List.setIfInBounds_toArray, List.set_cons_zero, List.set_cons_succ]
  refine take_w 30 (some 75) (v := ?_) rfl rfl (by kernel_rfl) (by kernel_rfl) (by kernel_rfl) (fun _ _ _ h => h) (by rfl) ?_ hHeld ?_
  rotate_left
  · (intro w hSw; (try dsimp only at hSw); go_simp; try with_reducible rfl)
  simp only [Act.put, List.setIfInBounds_toArray, List.set_cons_zero, List.set_cons_succ]
  refine take_w 31 (some 76) (v := ?_) rfl rfl (by kernel_rfl) (by kernel_rfl) (by kernel_rfl) (fun _ _ _ h => h) (by rfl) ?_ hHeld ?_
  rotate_left
  · (intro w hSw; (try dsimp only at hSw); go_simp; try with_reducible rfl)
  simp only [Act.put, List.setIfInBounds_toArray, List.set_cons_zero, List.set_cons_succ]
  refine take_w 32 (some 77) (v := ?_) rfl rfl (by kernel_rfl) (by kernel_rfl) (by kernel_rfl) (fun _ _ _ h => h) (by rfl) ?_ hHeld ?_
  rotate_left
  · (intro w hSw; (try dsimp only at hSw); go_simp; try with_reducible rfl)
  simp only [Act.put, List.setIfInBounds_toArray, List.set_cons_zero, List.set_cons_succ]
  refine take_c 33 rfl (by kernel_rfl) (by rfl) (fun K hK => ?_)
  go_simp
  refine (cl).mono ?_
  rintro e w' ⟨rfl, rfl⟩
  refine hK.out _ _ hHeld (fun hHn => ?_)
  clear hHn
  clear hK K
  try simp only [Act.put, List.setIfInBounds_toArray, List.set_cons_zero, List.set_cons_succ]
  refine take_w 34 (some 79) (v := ?_) rfl rfl (by kernel_rfl) (by kernel_rfl) (by kernel_rfl) (fun _ _ _ h => h) (by rfl) ?_ hHeld ?_
  rotate_left
  · (intro w hSw; (try dsimp only at hSw); go_simp; try with_reducible rfl)
  simp only [Act.put, List.setIfInBounds_toArray, List.set_cons_zero, List.set_cons_succ]
  refine take_w 35 (some 80) (v := ?_) rfl rfl (by kernel_rfl) (by kernel_rfl) (by kernel_rfl) (fun _ _ _ h => h) (by rfl) ?_ hHeld ?_
  rotate_left
  · (intro w hSw; (try dsimp only at hSw); go_simp; try with_reducible rfl)
  simp only [Act.put, List.setIfInBounds_toArray, List.set_cons_zero, List.set_cons_succ]
  refine take_w 36 (some 0) (v := ?_) rfl rfl (by kernel_rfl) (by kernel_rfl) (by kernel_rfl) (fun _ _ _ h => h) (by rfl) ?_ hHeld ?_
  rotate_left
  · (intro w hSw; (try dsimp only at hSw); go_simp; try with_reducible rfl)
  simp only [Act.put, List.setIfInBounds_toArray, List.set_cons_zero, List.set_cons_succ]
  refine wpAnyH_done (by kernel_rfl) ?_ _
  have FW := hA.fr.trans_nil hHeld.2.2.2
  go_wp2_with fail
  go_ret
  exact ⟨rfl, FW⟩
end Go.Proofs.Ytdhhnioklbnicaa
