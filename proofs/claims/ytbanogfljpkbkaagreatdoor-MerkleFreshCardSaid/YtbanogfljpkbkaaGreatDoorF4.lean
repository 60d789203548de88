/-
  Texts of this claim, one behind the other: RegT, Slc, FreB.
-/
import Derived.Test.YtbanogfljpkbkaaGreatDoorF3
import Derived.Laws.Slices
import Derived.Test.YtbanogfljpkbkaaGreatDoorF2
import Derived.Deep.DeepCutAuto
import Derived.Deep.CutBlock
set_option linter.unusedSimpArgs false
set_option linter.unusedVariables false
set_option linter.unnecessarySimpa false
namespace Go.Proofs.YtbanogfljpkbkaaGreatDoor
section
section
variable {P : Program} {ops : Array Oper} {Q : Exit → Act → World → Prop} {md : Region.Mode} {S : World → Prop} {z : Nat}
def wpAnyT (P : Program) (md : Region.Mode) (ops : Array Oper) (Q : Exit → Act → World → Prop) (S : World → Prop) (z : Nat) : Nat → Array Bool → Act → World → Prop
 | 0, listed, a, w => Region.ready md ops listed = [] ∧ Q .normal a w
 | n + 1, listed, a, w => (Region.ready md ops listed = [] → Q .normal a w) ∧
   ∀ i, i ∈ Region.ready md ops listed → wpOp P ops Q i (fun a' w' => (i ≠ z → S w') ∧ wpAnyT P md ops Q S z n (listed.setIfInBounds i true) a' w') a w
theorem wpAny_of_T : ∀ (n : Nat) (listed : Array Bool) (a : Act) (w : World), wpAnyT P md ops Q S z n listed a w → wpAny P md ops Q n listed a w
 | 0, _, _, _, h => h
 | n + 1, _, _, _, h => ⟨h.1, fun i hi => wpOp_mono (fun a' w' k => wpAny_of_T n _ a' w' k.2) (h.2 i hi)⟩
theorem wp_region_T {id : Nat} {a : Act} {w : World} (z : Nat) (hm : P.follows .mixedOrders = true) (h : wpAnyT P .any ops Q S z ops.size (Array.replicate ops.size false) a w.drew) : (Code.region id ops true).wp P Q a w :=
 wp_region_any hm (wpAny_of_T _ _ _ _ h)
def waitsFor (md : Region.Mode) (ops : Array Oper) (z i : Nat) : Bool := match ops[z]? with
 | some o => o.after.any fun e => Region.binds md e && e.on == i
 | none => true
theorem not_ready_of_waits {i : Nat} {listed : Array Bool} (h : waitsFor md ops z i = true) (hi : listed.getD i false = false) : z ∉ Region.ready md ops listed := by
 intro hz
 obtain ⟨-, o, ho, hall⟩ := mem_ready.1 hz
 rw [waitsFor, ho] at h
 obtain ⟨e, he, hb⟩ := Array.any_eq_true'.1 h
 simp only [Bool.and_eq_true, beq_iff_eq] at hb
 have := hall e he hb.1
 rw [hb.2] at this
 rcases Nat.lt_or_ge i listed.size with h' | h'
 ·simp [h'] at hi this; rw [hi] at this; cases this
 ·simp [Array.getElem?_eq_none h'] at this
theorem wpAnyT_first {i : Nat} {oi : Oper} {v : Value} (hi : ops[i]? = some oi) (hsel : ∀ (j : Nat) (o : Oper) cs b, ops[j]? = some o → o.op ≠ .select cs b)
  (hQ : ∀ c a w, Q (.panic c) (a.put oi.dst v) w → Q (.panic c) a w) (hwait : waitsFor md ops z i = true) :
  ∀ (n : Nat) (listed : Array Bool) (a : Act) (w : World),
   (∀ j oj, ops[j]? = some oj → j ≠ i → listed.getD j true = false → (∀ e ∈ oj.after, Region.binds md e = true → e.on ≠ i) → oi.apart ops oj = true) →
   i ∈ Region.ready md ops listed → YieldsIf P ops S oi v a → S w →
   wpAnyT P md ops Q S z n (listed.setIfInBounds i true) (a.put oi.dst v) w → wpAnyT P md ops Q S z (n + 1) listed a w := by
 intro n
 induction n with
 | zero =>
  intro listed a w _ hr hy hS H
  refine ⟨fun h => (by rw [h] at hr; cases hr), fun j hj => ?_⟩
  by_cases e : j = i
  ·subst e
   exact hy.wpOp hi hS ⟨fun _ => hS, H⟩
  ·have k := ready_mono hj e
   rw [H.1] at k
   cases k
 | succ n ih =>
  intro listed a w free hr hy hS H
  refine ⟨fun h => (by rw [h] at hr; cases hr), fun j hj => ?_⟩
  by_cases e : j = i
  ·subst e
   exact hy.wpOp hi hS ⟨fun _ => hS, H⟩
  ·obtain ⟨un, oj, hoj, hall⟩ := mem_ready.1 hj
   have hir := (mem_ready.1 hr).1
   have hif : listed.getD i false = false := by
    rcases Nat.lt_or_ge i listed.size with h' | h'
    ·simpa [h'] using hir
    ·simp [Array.getElem?_eq_none h']
   have hjz : j ≠ z := fun e => not_ready_of_waits hwait hif (e ▸ hj)
   have hno : ∀ e ∈ oj.after, Region.binds md e = true → e.on ≠ i := fun e he hb heq => by
    have k := hall e he hb
    rw [heq] at k
    rcases Nat.lt_or_ge i listed.size with h' | h'
    ·simp [h'] at hif k; rw [hif] at k; cases k
    ·simp [Array.getElem?_eq_none h'] at k
   have step := wpOp_putIf hoj (free j oj hoj e un hno) (fun cs b => hsel i oi cs b hi) (fun cs b => hsel j oj cs b hoj) hQ hy (H.2 j (ready_mono hj e))
   refine wpOp_mono (fun a' w' k => ⟨k.2.1, ih (listed.setIfInBounds j true) a' w' (fun m om hm hmi hun hb => free m om hm hmi ?_ hb) (ready_mono hr (Ne.symm e)) k.1 (k.2.1 hjz) ?_⟩) step
   ·by_cases hjm : j = m
    ·subst hjm; exact un
    ·rwa [getD_set_ne true hjm] at hun
   ·rw [Array.setIfInBounds_comm _ _ e]
    exact k.2.2
theorem takeT_w (i : Nat) (d : Option Tmp) {oi : Oper} {v : Value} {n : Nat} {listed : Array Bool} {tm : Array Value} {df : List _} {w : World} (hi : ops[i]? = some oi) (hd : oi.dst = d)
  (hs : Region.noSelect ops = true) (hf : Region.free md ops listed i = true) (hr : (Region.ready md ops listed).contains i = true) (hwt : waitsFor md ops z i = true)
  (hQ : ∀ c a w, Q (.panic c) (a.put oi.dst v) w → Q (.panic c) a w) (hw : Region.wanted oi (yielded ops tm) = true)
  (hy : ∀ w, S w → (execOp (Act.eval ⟨tm, df⟩) oi).run P w = .ok (.value v) w) (hS : S w)
  (h : wpAnyT P md ops Q S z n (listed.setIfInBounds i true) ((⟨tm, df⟩ : Act).put d v) w) : wpAnyT P md ops Q S z (n + 1) listed ⟨tm, df⟩ w := by
 subst hd
 exact wpAnyT_first hi (Region.noSelect_spec hs) hQ hwt n listed _ w (Region.free_spec hi hf) (by simpa using hr) (.inl ⟨hw, hy⟩) hS h
theorem wpAnyT_one {i : Nat} {oi : Oper} {n : Nat} {listed : Array Bool} {a : Act} {w : World} (hi : ops[i]? = some oi) (hw : Region.wanted oi (yielded ops a.tmps) = true)
  (h : ∀ K' : Act → World → Prop, Shut (∀ a w, (i ≠ z → S w) → ((i ≠ z → S w) → wpAnyT P md ops Q S z n (listed.setIfInBounds i true) a w) → K' a w) → Oper.wp P oi a w K' Q) :
  wpOp P ops Q i (fun a' w' => (i ≠ z → S w') ∧ wpAnyT P md ops Q S z n (listed.setIfInBounds i true) a' w') a w :=
 wpOp_step hi fun K' hK => by rw [if_pos hw]; exact h K' fun a w hS hW => hK a w ⟨hS, hW hS⟩
theorem takeT_c (i : Nat) {oi : Oper} {n : Nat} {listed : Array Bool} {a : Act} {w : World} (hi : ops[i]? = some oi) (hr : Region.ready md ops listed = [i]) (hw : Region.wanted oi (yielded ops a.tmps) = true)
  (h : ∀ K' : Act → World → Prop, Shut (∀ a w, (i ≠ z → S w) → ((i ≠ z → S w) → wpAnyT P md ops Q S z n (listed.setIfInBounds i true) a w) → K' a w) → Oper.wp P oi a w K' Q) : wpAnyT P md ops Q S z (n + 1) listed a w :=
 ⟨fun h0 => (by rw [hr] at h0; cases h0), fun j hj => by
  rw [hr] at hj
  cases List.mem_singleton.1 hj
  exact wpAnyT_one hi hw h⟩
theorem takeT_2 (i j : Nat) {oi oj : Oper} {n : Nat} {listed : Array Bool} {a : Act} {w : World} (hi : ops[i]? = some oi) (hj : ops[j]? = some oj) (hr : Region.ready md ops listed = [i, j])
  (hwi : Region.wanted oi (yielded ops a.tmps) = true) (hwj : Region.wanted oj (yielded ops a.tmps) = true)
  (h1 : ∀ K' : Act → World → Prop, Shut (∀ a w, (i ≠ z → S w) → ((i ≠ z → S w) → wpAnyT P md ops Q S z n (listed.setIfInBounds i true) a w) → K' a w) → Oper.wp P oi a w K' Q)
  (h2 : ∀ K' : Act → World → Prop, Shut (∀ a w, (j ≠ z → S w) → ((j ≠ z → S w) → wpAnyT P md ops Q S z n (listed.setIfInBounds j true) a w) → K' a w) → Oper.wp P oj a w K' Q) : wpAnyT P md ops Q S z (n + 1) listed a w :=
 ⟨fun h0 => (by rw [hr] at h0; cases h0), fun k hk => by
  rw [hr] at hk
  rcases List.mem_cons.1 hk with rfl | hk
  ·exact wpAnyT_one hi hwi h1
  ·cases List.mem_singleton.1 hk
   exact wpAnyT_one hj hwj h2⟩
theorem wpAnyT_done {listed : Array Bool} {a : Act} {w : World} (hr : Region.ready md ops listed = []) (h : Q .normal a w) : ∀ n, wpAnyT P md ops Q S z n listed a w
 | 0 => ⟨hr, h⟩
 | _ + 1 => ⟨fun _ => h, by rw [hr]; simp⟩
end
end
section
open Go.RowKit
section
variable {P : Program} {o : Oper} {a : Act} {w : World} {t e : TypeId} {s : Nat} {x y : Operand} {A : Option Addr} {len cap : Nat}
theorem map_add0 (A : Option Addr) : A.map (·.add 0) = A := by
 cases A with
 | none => rfl
 | some a => obtain ⟨g, o, p⟩ := a; rfl
theorem hy_sliceH (ht : P.underlying t = some (.slice (P.elem t))) (hs : (P.info? (P.elem t)).map (·.size) = some s) (ho : o.op = .slice t x none (some y) none) (hx : a.eval x = .slice A len cap) (k : Nat) (hy : a.eval y = .int .i64 (k : Int)) (hk : k ≤ cap) :
  (execOp a.eval o).run P w = .ok (.value (.slice A k cap)) w := by
 obtain ⟨i, hi, hsi⟩ := Option.map_eq_some_iff.1 hs
 have h0 : (0 : Int) ≤ (k : Int) := by omega
 have h1 : (k : Int) ≤ (cap : Int) := by omega
 have e1 : (Instr.sliceAt t (.slice A len cap) none (some (.int .i64 (k : Int))) none).run P w = .ok (.slice A k cap) w := by
  rw [run_sliceAt_slice (t := t) (h := ht), run_slice_h (t := t) (ht := ht) (h := (k : Int)) (h0 := h0) (h2 := h1)]
  simp [sizeOf, typeInfo, hi, hsi, sliced, Result.andThen, map_add0]
 simp [execOp, ho, hx, hy, e1, Result.andThen]
theorem hy_sliceL (ht : P.underlying t = some (.slice (P.elem t))) (hs : (P.info? (P.elem t)).map (·.size) = some s) (ho : o.op = .slice t x (some y) none none) (hx : a.eval x = .slice A len cap) (k : Nat) (hy : a.eval y = .int .i64 (k : Int)) (hk : k ≤ len) :
  (execOp a.eval o).run P w = .ok (.value (.slice (if cap = k then A else A.map (·.add (k * s))) (len - k) (cap - k))) w := by
 obtain ⟨i, hi, hsi⟩ := Option.map_eq_some_iff.1 hs
 have h0 : (0 : Int) ≤ (k : Int) := by omega
 have h1 : (k : Int) ≤ (len : Int) := by omega
 have e1 : (Instr.sliceAt t (.slice A len cap) (some (.int .i64 (k : Int))) none none).run P w = .ok (.slice (if cap = k then A else A.map (·.add (k * s))) (len - k) (cap - k)) w := by
  rw [run_sliceAt_slice (t := t) (h := ht), run_slice_l (t := t) (ht := ht) (l := (k : Int)) (h0 := h0) (h1 := h1)]
  simp [sizeOf, typeInfo, hi, hsi, sliced, Result.andThen]
 simp [execOp, ho, hx, hy, e1, Result.andThen]
end
end
section
open Go.RowKit
set_option maxRecDepth 100000
theorem bitsMul64_any (n : Nat) (hn : n ≤ 100000) (w : World) : Calls Tryz.prog 154 #[.int .u64 1, .int .u64 n] w fun e w' => e = .returned (.tuple #[.int .u64 0, .int .u64 n]) ∧ w = w' := by
 have e1 : bits .and .u64 1 4294967295 = 1 := by decide
 have e2 : bits .and .u64 (n : Int) 4294967295 = (n : Int) := by
  rw [show (4294967295 : Int) = ((2 ^ 32 - 1 : Nat) : Int) from rfl, bits_and_u64_nat n _ (by omega) (by decide), Nat.and_two_pow_sub_one_eq_mod, Nat.mod_eq_of_lt (by omega)]
 have e0 : bits .and .u64 0 4294967295 = 0 := by decide
 have e3 : (n : Int) / 4294967296 = 0 := by omega
 have e4 : IntKind.u64.wrap (n : Int) = n := IntWalk.u64_in _ (by omega)
 have e5 : (1 : Int) * n = n := Int.one_mul _
 go_enter Tryz.func154, Tryz.ntmps154
 go_wp2_with fail
 go_ret2
 refine ⟨?_, rfl⟩
 simp [e4, e3, e0]
theorem bitsMul_any (n : Nat) (hn : n ≤ 100000) (w : World) : Calls Tryz.prog 102 #[.int .u64 1, .int .u64 n] w fun e w' => e = .returned (.tuple #[.int .u64 0, .int .u64 n]) ∧ w = w' := by
 have c := bitsMul64_any n hn w
 clear hn
 go_enter Tryz.func102, Tryz.ntmps102
 go_wp2_with fail
 refine c.mono ?_
 rintro e w' ⟨rfl, rfl⟩
 go_wp2_with fail
 go_ret2
 exact ⟨rfl, rfl⟩
def repB (d : List UInt8) (k : Nat) : List UInt8 := (List.replicate k d).flatten
theorem repB_len {d : List UInt8} (h : d.length = 32) (k : Nat) : (repB d k).length = k * 32 := by
 induction k with
 | zero => simp [repB]
 | succ k ih => rw [repB, List.replicate_succ, List.flatten_cons, List.length_append, h, ← repB, ih]; omega
theorem repB_add (d : List UInt8) (a b : Nat) : repB d (a + b) = repB d a ++ repB d b := by
 rw [repB, repB, repB, ← List.flatten_append, List.replicate_append_replicate]
def repC (d : List UInt8) (n k : Nat) : List Value := bvs (repB d k) ++ List.replicate ((n - k) * 32) (.int .u8 0)
theorem repC_len {d : List UInt8} (h : d.length = 32) {n k : Nat} (hk : k ≤ n) : (repC d n k).length = n * 32 := by
 rw [repC, List.length_append, bvs_length, repB_len h, List.length_replicate, ← Nat.add_mul]; congr 1; omega
theorem repC_take {d : List UInt8} (h : d.length = 32) {n k : Nat} (j : Nat) (hj : j ≤ k) : (repC d n k).take (j * 32) = bvs (repB d j) := by
 rw [repC, List.take_append_of_le_length (by rw [bvs_length, repB_len h]; omega), ← bvs_take]
 obtain ⟨m, rfl⟩ : ∃ m, k = j + m := ⟨k - j, by omega⟩
 rw [repB_add, List.take_append_of_le_length (by rw [repB_len h]; omega), List.take_of_length_le (by rw [repB_len h]; omega)]
theorem repC_step {d : List UInt8} (h : d.length = 32) {n k m : Nat} (hk : k + m ≤ n) : (repC d n k).take (k * 32) ++ bvs (repB d m) ++ (repC d n k).drop (k * 32 + (bvs (repB d m)).length) = repC d n (k + m) := by
 rw [repC_take h k (Nat.le_refl _), bvs_length, repB_len h]
 have : (repC d n k).drop (k * 32 + m * 32) = List.replicate ((n - (k + m)) * 32) (.int .u8 0) := by
  rw [repC, List.drop_append, bvs_length, repB_len h, List.drop_of_length_le (by rw [bvs_length, repB_len h]; omega), List.nil_append, List.drop_replicate]
  congr 1
  omega
 rw [this, ← bvs_append, ← repB_add, repC]
theorem slA0 : SlT Tryz.prog 48 39 32 32 (.agg (List.replicate 32 (Value.int .u8 0)).toArray) := ⟨Tryz.underlying48, by kernel_rfl, rfl, by decide, by decide⟩
set_option maxHeartbeats 1000000 in
theorem slRepeat_any {w : World} {g c n : Nat} {d : List UInt8} (h : d.length = 32) (hr : Rd w (some ⟨g, 0, none⟩) (bvs d)) (hn : 1 ≤ n ∧ n ≤ 128) :
  Calls Tryz.prog 62 #[.slice (some ⟨g, 0, none⟩) 1 c, .int .i64 n] w fun e w' => ∃ v, e = .returned v ∧ Row w' w.heap.size 39 32 v n (bvs (repB d n)) ∧ Fr [] w w' := by
 have cm := fun w => bitsMul_any n (by omega) w
 have d0 : ¬ ((n : Int) < 0) := by omega
 have e4 : IntKind.u64.wrap (n : Int) = n := IntWalk.u64_in _ (by omega)
 have d1 : ¬ ((n : Int) > 9223372036854775807) := by omega
 have HR := Lib.hid (And.intro hr h)
 clear hr
 go_enter Tryz.func62, Tryz.ntmps62
 go_wp2_with fail
 refine (cm _).mono ?_
 rintro e w' ⟨rfl, rfl⟩
 clear cm
 go_wp2_with (first | (refine wpList_mkS rfl rfl slA0 rfl .i64 .i64 _ _ n n rfl rfl rfl rfl (Nat.le_refl _) (by omega) ?_; intro w1 k1 f1 z1; obtain ⟨gq, hgq⟩ : ∃ gq, w.heap.size = gq := ⟨_, rfl⟩; rw [hgq] at k1; rw [hgq]; have hrd : Rd w1 (some ⟨g, 0, none⟩) (bvs (repB d 1)) := by (rw [show repB d 1 = d by simp [repB]]; exact HR.out.1.keep_nil f1)) | (refine wpList_cpS rfl rfl Tryz.underlying48 (by kernel_rfl) _ _ _ _ _ _ 1 rfl rfl (bvs (repB d 1)) (by show _ = min 1 n; omega) (by rw [bvs_length, repB_len HR.out.2]) hrd (by intro h0; have := congrArg List.length h0; rw [bvs_length, repB_len HR.out.2] at this; cases this) (bvs_one _) gq 0 rfl _ _ (0, 0) k1 (free_zero _) (by rw [bvs_length, repB_len HR.out.2]; simp; omega) ?_; intro w2 k2 f2))
 have k3 : w2.heap[gq]? = some (.cells (repC d n 1).toArray 39 (0, 0)) := by
  have e0 : List.replicate (n * 32) (Value.int .u8 0) = repC d n 0 := by rw [repC]; rfl
  have := repC_step (k := 0) (m := 1) HR.out.2 (show 0 + 1 ≤ n by omega)
  rw [k2]
  show some (Obj.cells (List.take 0 (List.replicate (n * 32) (Value.int .u8 0)) ++ bvs (repB d 1) ++ List.drop (0 + (bvs (repB d 1)).length) (List.replicate (n * 32) (Value.int .u8 0))).toArray _ _) = _
  rw [Nat.zero_mul] at this
  rw [e0, this, Nat.zero_add]
 have HQ := Lib.hid (And.intro k3 (And.intro f1 (And.intro f2 hgq)))
 have HW := Lib.hid (show w1.heap.size = gq + 1 by rw [← hgq]; exact z1)
 clear k1 k2 k3 f1 f2 hgq z1 hrd e4 d1 d0
 go_loopw [8] (fun v wr => ∃ k : Nat, 1 ≤ k ∧ k ≤ n ∧ v = .int .i64 k ∧ wr.heap[gq]? = some (.cells (repC d n k).toArray 39 (0, 0)) ∧ Fr [gq] w1 wr) (fun v _ => n - (intOf v).toNat)
 case atStart => exact ⟨1, by omega, by omega, rfl, HQ.out.1, HQ.out.2.2.1⟩
 case round =>
  obtain ⟨k, hk1, hkn, rfl, hq, fq⟩ := hrel
  by_cases hlt : k < n
  ·have d0 : (k : Int) < n := by omega
   obtain ⟨m, hm⟩ : ∃ m, min k (n - k) = m := ⟨_, rfl⟩
   go_upto_region 9 with fail
   refine wp_region_held_drew (S := fun _ => True) (by kernel_rfl) trivial (fun hHeld => ?_)
   have hqD : wr.drew.heap[gq]? = some (.cells (repC d n k).toArray 39 (0, 0)) := hq
   have fqD : Fr [gq] w1 wr.drew := fq.drew
   obtain ⟨wD, hwD⟩ : ∃ wD, wr.drew = wD := ⟨_, rfl⟩
   rw [hwD] at hqD fqD ⊢
   clear hwD hq fq
   refine tw 0 38 hHeld ?_
   refine tw 1 39 hHeld ?_
   refine tw 2 40 hHeld ?_
   refine tw 3 41 hHeld ?_ (v := .slice (some ⟨gq, k * 32, none⟩) (n - k) (n - k)) (hy := fun w _ => (hy_sliceL (s := 32) Tryz.underlying48 (by kernel_rfl) rfl rfl k rfl (by omega)).trans (by rw [if_neg (by omega), Option.map_some, addr_add, Nat.zero_add]))
   refine tw 4 42 hHeld ?_
   refine tw 5 43 hHeld ?_
   refine tw 6 44 hHeld ?_ (v := .slice (some ⟨gq, 0, none⟩) k n) (hy := fun w _ => hy_sliceH (s := 32) Tryz.underlying48 (by kernel_rfl) rfl rfl k rfl (by omega))
   have hml : m ≤ k ∧ k + m ≤ n ∧ 1 ≤ m := by omega
   refine tcd 7 (some 45) (fun K hK => ?_)
   refine wp_cpS rfl Tryz.underlying48 (by kernel_rfl) _ _ _ _ _ _ m rfl rfl (bvs (repB d m)) (by show m = min k (n - k); exact hm.symm) (by rw [bvs_length, repB_len HR.out.2]) (Rd.of_blk hqD 0 _ (fun j u hu => by
    rw [← repC_take HR.out.2 (n := n) m hml.1, List.getElem?_take] at hu
    split at hu
    ·rw [Nat.zero_add]; simpa using hu
    ·cases hu)) (by intro h0; have := congrArg List.length h0; rw [bvs_length, repB_len HR.out.2] at this; simp at this; omega) (bvs_one _) gq (k * 32) rfl _ _ (0, 0) hqD (free_zero _) (by rw [bvs_length, repB_len HR.out.2, List.size_toArray, repC_len HR.out.2 hkn, ← Nat.add_mul]; exact Nat.mul_le_mul_right _ hml.2.1) (fun wz hz fz => hK _ wz trivial fun hHx => ?_)
   clear hK
   try simp only [Act.put, p1, p2, p3]
   have hz' : wz.heap[gq]? = some (.cells (repC d n (k + m)).toArray 39 (0, 0)) := by
    rw [hz]
    have := repC_step (n := n) (k := k) (m := m) HR.out.2 hml.2.1
    rw [← this]
   refine tw 8 46 hHeld ?_
   refine tw 9 8 hHeld ?_
   refine wpAnyH_done (by kernel_rfl) ?_ _
   clear hHx hHeld hz hqD
   go_wp2_with fail
   have e5 : IntKind.i64.wrap ((k : Int) + m) = ((k + m : Nat) : Int) := by rw [IntWalk.i64_in _ (by omega)]; omega
   rw [e5]
   exact ⟨⟨k + m, by omega, hml.2.1, rfl, hz', fqD.trans_same fz⟩, by simp [intOf]; omega⟩
  ·obtain rfl : k = n := by omega
   have d0 : ¬ ((k : Int) < k) := by omega
   go_wp2_with fail
   go_ret
   refine ⟨_, rfl, ⟨by rw [bvs_length, repB_len HR.out.2], .inr ⟨gq, k, _, (0, 0), rfl, by have := HQ.out.2.2.2; omega, hq, free_zero _, Nat.le_refl _, by unfold maxLen; omega, by rw [List.size_toArray, repC_len HR.out.2 (Nat.le_refl _)], ?_⟩⟩, ?_⟩
   ·rw [show (repC d k k).toArray.toList = repC d k k from rfl]
    exact repC_take HR.out.2 k (Nat.le_refl _)
   ·exact HQ.out.2.1.trans fq (fun i hi => .inr (by rw [List.mem_singleton.1 hi, HQ.out.2.2.2]; exact Nat.le_refl _))
end
end Go.Proofs.YtbanogfljpkbkaaGreatDoor
