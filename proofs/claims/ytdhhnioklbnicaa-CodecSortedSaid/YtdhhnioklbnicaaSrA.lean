/-
  Sorted: what it is in memory; New, Set, Get, Delete, Clear, Len, All.
-/
import Derived.Test.YtdhhnioklbnicaaSrZs
import Derived.Test.YtdhhnioklbnicaaMem3
set_option linter.unusedSimpArgs false
set_option linter.unusedVariables false
set_option linter.unnecessarySimpa false
namespace Go.Proofs.Ytdhhnioklbnicaa
open Go.RowKit Go.Maps

theorem MapZ.lenS {w : World} {b n : Nat} {f : Int → Option Value} (h : MapZ w b n f) {zs : List Int} (hz : KeyL f zs) {t e : TypeId} (ht : Try.prog.underlying t = some (.map 3 e)) (ty : TypeId) : (Builtin.len_ #[t] ty #[.map (some b)]).run Try.prog w = .ok (.int .i64 zs.length) w ∧ zs.length ≤ n := by
  obtain ⟨D, hown, hf⟩ := h
  obtain ⟨k1, k2⟩ := KeyL.of_perm hown hf (List.Perm.refl (intKeys D))
  have e : zs.length = Maps.size D := by
    rw [hz.uniq k1, (List.mergeSort_perm _ _).length_eq]
    obtain ⟨es, hD, -⟩ := hown.entries keyZ
    rw [hD]
    show (es.map _).length = _
    rw [List.length_map]
    rfl
  have hs := hown.size_le
  rw [e]
  exact ⟨hown.len ht ty, hs⟩
/-- A Sorted at p, its map at b: the values f. -/
structure SrtW (w : World) (p b n : Nat) (f : Int → Option Value) : Prop where
  blk : Blk w p 94 #[.map (some b)]
  map : MapZ w b n f
section
variable {w w' : World} {p b n : Nat} {f : Int → Option Value}
theorem SrtW.ne (h : SrtW w p b n f) : b ≠ p := fun e => by
  have h1 := h.blk
  obtain ⟨D, ⟨es, clock, hb, _⟩, _⟩ := h.map
  unfold Blk at h1
  rw [← e, hb] at h1
  cases h1
theorem SrtW.keep (h : SrtW w p b n f) {F : List Nat} (fr : Fr F w w') (hp : p ∉ F) (hb : b ∉ F) : SrtW w' p b n f := ⟨h.blk.keep fr hp, h.map.keep fr hb⟩
theorem SrtW.keep_nil (h : SrtW w p b n f) (fr : Fr [] w w') : SrtW w' p b n f := h.keep fr (by simp) (by simp)
theorem SrtW.c0 (h : SrtW w p b n f) : w.cell? ⟨p, 0, none⟩ = some (.map (some b)) := h.blk.cell 0
theorem SrtW.noTy (h : SrtW w p b n f) (e : TypeId) : ∀ i ∈ [b], ∀ cs fz, w.heap[i]? ≠ some (.cells cs e fz) := fun i hi cs fz hc => by
  obtain ⟨D, ⟨es, clock, hb, _⟩, _⟩ := h.map
  rw [List.mem_singleton.1 hi, hb] at hc
  cases hc
theorem neqMapS (b : Nat) (w : World) : (binOp .neq 92 (.map (some b)) (.map none)).run Try.prog w = .ok (.bool true) w := by kernel_rfl
set_option maxRecDepth 100000
theorem srtNew_any (w : World) : Calls Try.prog 25 #[] w fun e w' => e = .returned (.pointer (some ⟨w.heap.size + 1, 0, none⟩)) ∧ SrtW w' (w.heap.size + 1) w.heap.size 0 (fun _ => none) ∧ Fr [] w w' ∧ w'.heap.size = w.heap.size + 2 := by
  have hmm := @run_makeMap Try.prog
  have m1 := MapZ.made w
  have f1 : Fr [] w (w.alloc (.map #[] 0)) := (Fr.refl _ _).alloc _
  have k2 := Blk.new (w.alloc (.map #[] 0)) 94 #[.map (some w.heap.size)]
  have f2 : Fr [] (w.alloc (.map #[] 0)) ((w.alloc (.map #[] 0)).alloc (.cells #[.map (some w.heap.size)] 94)) := (Fr.refl _ _).alloc _
  have HF := Lib.hid (And.intro m1 (And.intro f1 (And.intro k2 f2)))
  clear m1 f1 k2 f2
  go_enter Try.func25, Try.ntmps25
  go_wp2_with fail
  obtain ⟨m1, f1, k2, f2⟩ := HF.out
  go_ret
  have e1 : (w.alloc (.map #[] 0)).heap.size = w.heap.size + 1 := by simp
  rw [e1] at k2
  exact ⟨rfl, ⟨k2, m1.keep_nil f2⟩, f1.trans_nil f2, by simp⟩
theorem srtSet_any (h : SrtW w p b n f) (hn : n < maxLen) (k : Int) (hk : wfZ k) (v : Value) (hv : v.cells = #[v]) : Calls Try.prog 28 #[.pointer (some ⟨p, 0, none⟩), .int .i64 k, v] w fun e w' => e = .returned (.tuple #[]) ∧ SrtW w' p b (n + 1) (fput f k v) ∧ Fr [b] w w' := by
  have c0 := h.c0
  have nq := neqMapS b
  have hm := h.map
  have HH := Lib.hid h
  clear h
  go_enter Try.func28, Try.ntmps28
  go_wp2_with (refine wpList_putZ rfl rfl undS rfl hm hn k rfl hk v rfl ?_; intro w1 m1 f1 z1)
  have HM := Lib.hid (And.intro m1 f1)
  clear m1 f1 z1 hm c0
  go_wp2_with fail
  go_returns
  exact ⟨rfl, ⟨HH.out.blk.keep HM.out.2 (fun hm => HH.out.ne (List.mem_singleton.1 hm).symm), HM.out.1⟩, HM.out.2⟩
theorem srtGet_any (h : SrtW w p b n f) (k : Int) (hk : wfZ k) : Calls Try.prog 30 #[.pointer (some ⟨p, 0, none⟩), .int .i64 k] w fun e w' => e = .returned (.tuple #[(f k).getD zS, .bool (f k).isSome]) ∧ w = w' := by
  have c0 := h.c0
  have hm := h.map
  clear h
  go_enter Try.func30, Try.ntmps30
  go_wp2_with (refine wpList_lookOkZ rfl rfl undS (zeroS _) rfl hm k rfl hk ?_)
  go_ret2
  exact ⟨rfl, rfl⟩
theorem srtLen_any (h : SrtW w p b n f) {zs : List Int} (hz : KeyL f zs) : Calls Try.prog 35 #[.pointer (some ⟨p, 0, none⟩)] w fun e w' => e = .returned (.int .i64 zs.length) ∧ w = w' := by
  have c0 := h.c0
  have hl := (h.map.lenS hz undS 3).1
  clear h
  go_enter Try.func35, Try.ntmps35
  go_wp2_with fail
  go_ret
  exact ⟨rfl, rfl⟩
theorem srtDelete_any (h : SrtW w p b n f) (k : Int) (hk : wfZ k) : Calls Try.prog 32 #[.pointer (some ⟨p, 0, none⟩), .int .i64 k] w fun e w' => e = .returned (.bool (f k).isSome) ∧ SrtW w' p b n (fdel f k) ∧ Fr [b] w w' := by
  have cg := srtGet_any h k hk
  have c0 := h.c0
  have hm := h.map
  have HH := Lib.hid h
  cases hf : f k with
  | none =>
    rw [hf] at cg
    simp only [Option.getD_none, Option.isSome_none] at cg ⊢
    have HE := Lib.hid (show ∀ x, fdel f k x = f x from fun x => by
      unfold fdel
      split
      · rename_i e; rw [e, hf]
      · rfl)
    clear h hf hm c0
    go_enter Try.func32, Try.ntmps32
    go_wp2_with fail
    refine cg.mono ?_
    rintro e w1 ⟨rfl, rfl⟩
    go_wp2_with fail
    go_ret
    exact ⟨rfl, ⟨HH.out.blk, HH.out.map.eq (fun x _ => (HE.out x).symm)⟩, Fr.refl _ _⟩
  | some v =>
    rw [hf] at cg
    simp only [Option.getD_some, Option.isSome_some] at cg ⊢
    clear h hf
    go_enter Try.func32, Try.ntmps32
    go_wp2_with fail
    refine cg.mono ?_
    rintro e w1 ⟨rfl, rfl⟩
    clear cg
    go_wp2_with (refine wpList_delZ rfl rfl undS rfl hm k rfl hk ?_; intro w6 m6 f6 z6)
    have HM := Lib.hid (And.intro m6 f6)
    clear m6 f6 z6 hm c0
    go_wp2_with fail
    go_ret
    exact ⟨rfl, ⟨HH.out.blk.keep HM.out.2 (fun hm => HH.out.ne (List.mem_singleton.1 hm).symm), HM.out.1⟩, HM.out.2⟩
theorem srtClear_any (h : SrtW w p b n f) : Calls Try.prog 34 #[.pointer (some ⟨p, 0, none⟩)] w fun e w' => e = .returned (.tuple #[]) ∧ SrtW w' p b 0 (fun _ => none) ∧ Fr [b] w w' := by
  have c0 := h.c0
  have hm := h.map
  have HH := Lib.hid h
  clear h
  go_enter Try.func34, Try.ntmps34
  go_wp2_with (refine wpList_clearZ rfl rfl undS rfl hm ?_; intro w6 m6 f6 z6)
  have HM := Lib.hid (And.intro m6 f6)
  clear m6 f6 z6 hm c0
  go_wp2_with fail
  go_returns
  exact ⟨rfl, ⟨HH.out.blk.keep HM.out.2 (fun hm => HH.out.ne (List.mem_singleton.1 hm).symm), HM.out.1⟩, HM.out.2⟩
theorem srtAll_any (P : Option Addr) (w : World) : Calls Try.prog 27 #[.pointer P] w fun e w' => e = .returned (.func (.func 62) #[] #[.pointer (some ⟨w.heap.size, 0, none⟩)]) ∧ w' = w.alloc (.cells #[.pointer P] 55) := by
  go_enter Try.func27, Try.ntmps27
  go_wp2_with fail
  go_ret
  exact ⟨rfl, rfl⟩
theorem srtSet_nil (k : Int) (v : Value) (w : World) : Calls Try.prog 28 #[.pointer none, .int .i64 k, v] w fun e w' => e = .returned (.tuple #[]) ∧ w = w' := by
  go_enter Try.func28, Try.ntmps28
  go_wp2_with fail
  go_returns
  exact ⟨rfl, rfl⟩
theorem srtClear_nil (w : World) : Calls Try.prog 34 #[.pointer none] w fun e w' => e = .returned (.tuple #[]) ∧ w = w' := by
  go_enter Try.func34, Try.ntmps34
  go_wp2_with fail
  go_returns
  exact ⟨rfl, rfl⟩
theorem srtGet_nil (k : Int) (w : World) : Calls Try.prog 30 #[.pointer none, .int .i64 k] w fun e w' => e = .returned (.tuple #[zS, .bool false]) ∧ w = w' := by
  go_enter Try.func30, Try.ntmps30
  go_wp2_with fail
  go_ret2
  exact ⟨rfl, rfl⟩
theorem srtLen_nil (w : World) : Calls Try.prog 35 #[.pointer none] w fun e w' => e = .returned (.int .i64 0) ∧ w = w' := by
  go_enter Try.func35, Try.ntmps35
  go_wp2_with fail
  go_ret
  exact ⟨rfl, rfl⟩
theorem srtDelete_nil (k : Int) (w : World) : Calls Try.prog 32 #[.pointer none, .int .i64 k] w fun e w' => e = .returned (.bool false) ∧ w = w' := by
  go_enter Try.func32, Try.ntmps32
  go_wp2_with fail
  refine (srtGet_nil k w).mono ?_
  rintro e w1 ⟨rfl, rfl⟩
  go_wp2_with fail
  go_ret
  exact ⟨rfl, rfl⟩
end
end Go.Proofs.Ytdhhnioklbnicaa
