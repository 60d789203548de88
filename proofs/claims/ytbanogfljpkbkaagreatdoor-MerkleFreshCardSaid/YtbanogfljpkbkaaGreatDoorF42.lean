/-
  Texts of this claim, one behind the other: XdB, XdC.
-/
import Derived.Test.YtbanogfljpkbkaaGreatDoorF41
import Derived.Lib.ConvBytes
set_option linter.unusedSimpArgs false
set_option linter.unusedVariables false
set_option linter.unnecessarySimpa false
namespace Go.Proofs.YtbanogfljpkbkaaGreatDoor
section
open Go.RowKit
set_option maxRecDepth 100000
def DkM.hasR (D : DkM) (x : Int) : List UInt8 := match (D.uns x).getLast? with | some b => b | none => D.sureR x
section
variable {w w' : World} {p : Nat} {O : List Nat} {D : DkM} {X : XdX}
theorem XdkX.hO (h : XdkX w p O D X) : ∀ i ∈ [p], i ∈ O := by simp [h.pO]
theorem xdDid_any (h : Xdk w p O D) (ho : D.off = false) : Calls Tryz.prog 169 #[.pointer (some ⟨p, 0, none⟩)] w fun e w' => e = .returned (.int .i64 0) ∧ AftX w p O D.dec w' := by
 obtain ⟨X, h⟩ := h
 have c1 := h.c1
 have c2 := h.c2
 have kk := h.kk
 have hcl := h.calls
 by_cases hc : D.calls = -1
 ·have HO := Lib.hid (show D.dec = D by obtain ⟨a, b, c⟩ := D; simp only at hc; subst hc; rfl)
  rw [hc] at c1
  replace c1 : w.cell? ⟨p, 1, none⟩ = some (.bool false) := c1
  have HH := Lib.hid h
  clear h kk hc ho
  go_enter Tryz.func169, Tryz.ntmps169
  go_wp2_with fail
  go_ret
  exact ⟨rfl, by rw [HO.out]; exact AftX.same ⟨X, HH.out⟩⟩
 ·rw [kk hc] at c2
  have hb : (!(D.calls == -1)) = true := by simpa using hc
  have hp : 1 ≤ D.calls := by
   have : D.calls ≠ 0 := by simpa [DkM.off] using ho
   omega
  have z2 := h.blk.frozen 2
  have kb := h.blk.set_ 2 (.int .i64 (D.calls - 1))
  have f : Fr [p] w (w.setCell ⟨p, 2, none⟩ (.int .i64 (D.calls - 1))) := (Fr.refl [p] w).setCell (.inl (by simp)) _
  have hS := h.setp f (D.calls - 1) (D.calls - 1) (by omega) (fun _ => rfl) (by omega) (by
   have e : (!(D.calls - 1 == -1)) = true := by
    have : D.calls - 1 ≠ -1 := by omega
    simpa using this
   have e2 : (!(D.calls == -1)) = true := hb
   rw [e]
   rw [e2] at kb
   exact kb)
  have HD := Lib.hid (show D.dec = { D with calls := D.calls - 1 } by rw [DkM.dec, if_pos (by omega)])
  have HS := Lib.hid (And.intro hS (And.intro f h))
  rw [hb] at c1
  clear h kk hb hc hS f kb ho
  go_enter Tryz.func169, Tryz.ntmps169
  go_wp2_with fail
  go_ret
  exact ⟨rfl, by rw [HD.out]; exact ⟨O, ⟨_, HS.out.1⟩, fun i hi => .inl hi, HS.out.2.1.mono HS.out.2.2.hO⟩⟩
theorem xdMay_any (h : Xdk w p O D) (x : Int) (A : Option Addr) (n c : Nat) : Calls Tryz.prog 69 #[.pointer (some ⟨p, 0, none⟩), .int .i64 x, .slice A n c] w fun e w' => e = .returned (.int .i64 (D.mayE x n)) ∧ w = w' := by
 obtain ⟨X, h⟩ := h
 have c0 := h.c0
 clear h
 by_cases h1 : x < 0
 ·have HE := Lib.hid (show D.mayE x n = 100 by
   have : D.is x = false := by rw [← Bool.not_eq_true, DkM.is_iff]; omega
   rw [DkM.mayE, if_pos this])
  have d1 : decide (x < 0) = true := by simpa using h1
  go_enter Tryz.func69, Tryz.ntmps69
  go_wp2_with fail
  go_ret
  exact ⟨by rw [HE.out]; rfl, rfl⟩
 have d1 : decide (x < 0) = false := by simpa using h1
 by_cases h2 : x < D.sure.length
 ·have hi : D.is x = true := DkM.is_iff.2 ⟨by omega, h2⟩
  have d2 : decide (x ≥ D.sure.length) = false := by simpa using h2
  by_cases h3 : n = 512
  ·have HE := Lib.hid (show D.mayE x n = 0 by rw [DkM.mayE, hi, if_neg (by decide), if_neg (by simpa using h3)])
   subst h3
   clear hi
   go_enter Tryz.func69, Tryz.ntmps69
   go_wp2_with fail
   go_ret
   exact ⟨by rw [HE.out]; rfl, rfl⟩
  ·have HE := Lib.hid (show D.mayE x n = 101 by rw [DkM.mayE, hi, if_neg (by decide), if_pos (by simpa using h3)])
   have d3 : (((n : Int)) != 512) = true := by simp; omega
   clear hi
   go_enter Tryz.func69, Tryz.ntmps69
   go_wp2_with fail
   go_ret
   exact ⟨by rw [HE.out]; rfl, rfl⟩
 ·have HE := Lib.hid (show D.mayE x n = 100 by
   have : D.is x = false := by rw [← Bool.not_eq_true, DkM.is_iff]; omega
   rw [DkM.mayE, if_pos this])
  have d2 : decide (x ≥ D.sure.length) = true := by simpa using h2
  go_enter Tryz.func69, Tryz.ntmps69
  go_wp2_with fail
  go_ret
  exact ⟨by rw [HE.out]; rfl, rfl⟩
theorem xdHas_any (h : Xdk w p O D) {i : Nat} (hi : i < D.sure.length) : Calls Tryz.prog 170 #[.pointer (some ⟨p, 0, none⟩), .int .i64 i] w fun e w' => e = .returned (strV (D.hasR i)) ∧ Fr [] w w' := by
 obtain ⟨X, h⟩ := h
 have c0 := h.c0
 obtain ⟨v, q0, q1, r, -⟩ := h.cp hi
 have hn := h.n1.2
 have hlt := h.lt _ h.gO
 clear h
 obtain ⟨L, hL⟩ : ∃ L, D.uns i = L := ⟨_, rfl⟩
 have hH : D.hasR i = match L.getLast? with | some b => b | none => D.sureR i := by rw [DkM.hasR, hL]
 rw [hL] at r
 obtain ⟨S, hS⟩ : ∃ S : ByteArray, (⟨(D.sureR i).toArray⟩ : ByteArray) = S := ⟨_, rfl⟩
 rw [show strV (D.sureR i) = .string S from congrArg Value.string hS] at q0
 obtain ⟨N, hN⟩ : ∃ N, D.sure.length = N := ⟨_, rfl⟩
 rw [hN] at hi hn c0
 have di : (i : Int) < N := by omega
 clear hN
 rcases List.eq_nil_or_concat L with e | ⟨L', b, e⟩
 ·subst e
  have HH := Lib.hid (show strV (D.hasR i) = .string S by rw [hH]; exact congrArg Value.string hS)
  obtain ⟨A, c, rfl, -, -, -, -, -⟩ := r.shape
  clear r hH hL hS
  go_enter Tryz.func170, Tryz.ntmps170
  go_wp2_with fail
  go_ret
  exact ⟨by rw [HH.out]; rfl, by first | exact (Fr.refl _ _).alloc _ | exact ((Fr.refl _ _).alloc _).trans (Fr.refl _ _) (by simp)⟩
 ·rw [List.concat_eq_append] at e
  subst e
  have hl2 : (L' ++ [b]).getLast? = some b := by simp
  rw [hl2] at hH
  obtain ⟨S2, hS2⟩ : ∃ S : ByteArray, (⟨b.toArray⟩ : ByteArray) = S := ⟨_, rfl⟩
  have HH := Lib.hid (show strV (D.hasR i) = .string S2 by rw [hH]; exact congrArg Value.string hS2)
  have hcap : (L' ++ [b]).length ≤ 9223372036854775807 := by obtain ⟨_, _, _, h1, h2, -⟩ := r.shape; unfold maxLen at h2; omega
  obtain ⟨m, hm⟩ : ∃ m, L'.length = m := ⟨_, rfl⟩
  have hlen : (L' ++ [b]).length = m + 1 := by simp [hm]
  obtain ⟨g, c, rfl⟩ := r.hdD (by omega)
  obtain ⟨g', o', e', hc⟩ := r.rdD.1 (by simp)
  cases e'
  have hgl : g < w.heap.size := (r.lt g rfl).2
  have cn := hc m (.string S2) (by rw [List.map_append, List.getElem?_append_right (by simp [hm])]; simp [hm, strV, hS2])
  rw [Nat.zero_add] at cn
  rw [hlen] at q1 hcap
  clear r hH hL hS hc hl2 hm hlen hS2
  have UM : IntKind.i64.wrap (((m + 1 : Nat) : Int) - 1) = m := by rw [show (((m + 1 : Nat) : Int) - 1) = m by omega]; exact IntWalk.i64_in _ (by omega)
  have KM : (m : Int) < ((m + 1 : Nat) : Int) := by omega
  have KP : 0 < m + 1 := by omega
  go_enter Tryz.func170, Tryz.ntmps170
  go_wp2_with fail
  go_ret
  exact ⟨by rw [HH.out]; rfl, by first | exact (Fr.refl _ _).alloc _ | exact ((Fr.refl _ _).alloc _).trans (Fr.refl _ _) (by simp)⟩
end
end
section
open Go.RowKit
set_option maxRecDepth 100000
theorem row_strX (W : World) (b : List UInt8) {B : Nat} (hB : B ≤ W.heap.size) : Row (W.alloc (.cells #[strV b] 9)) B 9 1 (.slice (some ⟨W.heap.size, 0, none⟩) 1 1) 1 ([b].map strV) :=
 Row.new W #[strV b] 9 1 1 (0, 0) (free_zero _) (by unfold maxLen; omega) rfl hB
theorem mem_nilO {i n c : Nat} {O : List Nat} (h : i ∈ (Value.slice none n c).ownBlock.toList ++ O) : i ∈ O := (List.mem_append.1 h).elim (fun h => (own_nil.1 h).elim) id
theorem conv_bytes {P : Program} {t d e : TypeId} {u : TypeDesc} (ht : P.underlying t = some u) (hd : P.underlying d = some (.slice e)) (he : P.underlying e = some (.int .u8)) (w : World) (l : List UInt8) (hl : l.length ≤ maxLen) :
  ∃ c w', (convert t d (.string ⟨l.toArray⟩)).run P w = .ok (.slice (some ⟨w.heap.size, 0, none⟩) l.length c) w' ∧ Row w' w.heap.size e 1 (.slice (some ⟨w.heap.size, 0, none⟩) l.length c) l.length (bvs l) ∧ Fr [] w w' := by
 have h := Lib.run_convert_string_bytes w t d e ⟨l.toArray⟩ ht hd he
 have hs : (⟨l.toArray⟩ : ByteArray).size = l.length := by simp [ByteArray.size]
 rw [hs] at h
 have hge := grownCap_ge w l.length 0 e
 have hle := grownCap_le_maxLen w l.length 0 e hl
 have hcs : (Lib.bytesCells w e ⟨l.toArray⟩).size = grownCap w l.length 0 e := by
  simp [Lib.bytesCells, hs]; omega
 refine ⟨_, _, h, ⟨by simp [bvs], .inr ⟨_, _, _, _, rfl, Nat.le_refl _, Lib.bytesWorld_at_new w e _, free_end _ _, hge, hle, by rw [hcs, Nat.mul_one], ?_⟩⟩, ?_⟩
 ·simp [Lib.bytesCells, bvs]
  exact fun a _ => rfl
 ·exact ⟨rfl, rfl, rfl, by rw [Lib.bytesWorld_size]; omega, fun k hk _ => Lib.bytesWorld_at_old w e _ k hk⟩
theorem DkM.hasR_len {D : DkM} (hss : ∀ i : Nat, i < D.sure.length → (D.sureR i).length = 512) (hsu : ∀ x, ∀ b ∈ D.uns x, b.length = 512) {i : Nat} (hi : i < D.sure.length) : (D.hasR i).length = 512 := by
 rw [DkM.hasR]
 cases h : (D.uns i).getLast? with
 | none => exact hss i hi
 | some b => exact hsu _ b (List.mem_of_getLast? h)
section
variable {w w' : World} {p : Nat} {O : List Nat} {D D' : DkM} {X : XdX}
theorem XdkX.put (h : XdkX w p O D X) {i : Nat} (hi : i < D.sure.length) {s : List UInt8} {L : List (List UInt8)} {v : Value} (hl : D'.sure.length = D.sure.length) (hs : ∀ j : Nat, j < D.sure.length → D'.sureR j = if j = i then s else D.sureR j)
  (hu : ∀ x, D'.uns x = if x = (i : Int) then L else D.uns x) (h5 : s.length = 512 ∧ ∀ b ∈ L, b.length = 512) (hc : D'.calls = D.calls) (f : Fr [X.g] w w') (row : Row w' 0 124 2 (.slice (some ⟨X.g, 0, none⟩) D.sure.length X.c) D.sure.length (pcells (X.ps.set i (s, v)))) (rv : Row w' 0 9 1 v L.length (L.map strV)) :
  XdkX w' p (v.ownBlock.toList ++ O) D' { X with ps := X.ps.set i (s, v) } := by
 have hix : ∀ x, D'.is x = D.is x := fun x => by simp only [DkM.is, hl]
 have hpl := h.len
 refine ⟨List.mem_append_right _ h.pO, List.mem_append_right _ h.gO, ?_, by rw [hc]; exact h.kk, h.k64, by rw [hl]; exact h.n1, by rw [hl]; exact row, fun j hj => ?_, fun x hx => ?_, fun j hj => ?_, fun x b hb => ?_, fun k hk => ?_, fun k hk => ?_, by rw [hc]; exact h.calls⟩
 ·rw [hl, hc]
  exact h.blk.keep f (by simpa using h.pg)
 ·have hj' : j < X.ps.length := by simpa using hj
  have hjn : j < D.sure.length := by omega
  show (X.ps.set i (s, v))[j].1 = _ ∧ Row _ _ _ _ (X.ps.set i (s, v))[j].2 _ _ ∧ ∀ g, (X.ps.set i (s, v))[j].2.ownBlock = some g → _
  rw [hs j hjn, hu]
  by_cases e : j = i
  ·subst e
   simp only [List.getElem_set_self, if_true]
   exact ⟨trivial, rv, fun g hg => List.mem_append_left _ (mem_own.2 hg)⟩
  ·simp only [List.getElem_set_ne (Ne.symm e)]
   rw [if_neg e, if_neg (by omega)]
   obtain ⟨h1, h2, h3⟩ := h.at_ j hj'
   exact ⟨h1, h2.keep f (fun g hg hm => by rw [List.mem_singleton.1 hm] at hg; exact h2.ne_rowD h.row (by decide) _ hg rfl), fun g hg => List.mem_append_right _ (h3 g hg)⟩
 ·rw [hix]
  rw [hu] at hx
  by_cases e : x = (i : Int)
  ·subst e; exact DkM.is_iff.2 ⟨by omega, by omega⟩
  ·rw [if_neg e] at hx; exact h.rng x hx
 ·rw [hs j (by omega)]
  split
  ·exact h5.1
  ·exact h.ss j (by omega)
 ·rw [hu] at hb
  split at hb
  ·exact h5.2 b hb
  ·exact h.su x b hb
 ·rcases List.mem_append.1 hk with hk | hk
  ·exact rv.noTy (by decide) k hk
  ·intro cs fz hcs
   by_cases e : k = X.g
   ·subst e
    exact row.noTy (e := 124) (d := 5) (by decide) _ (own_mem.2 rfl) cs fz hcs
   ·rw [f.same k (h.lt k hk) (by simpa using e)] at hcs
    exact h.no8 k hk cs fz hcs
 ·rcases List.mem_append.1 hk with hk | hk
  ·exact (rv.lt k (mem_own.1 hk)).2
  ·exact Nat.lt_of_lt_of_le (h.lt k hk) f.size
theorem DkM.readR_has {x : Int} (hx : D.is x = true) (ho : D.off = false) : D.readR x = D.hasR x := by rw [DkM.readR, hx, ho]; rfl
theorem xdRead_any (h : Xdk w p O D) (x : Int) : Calls Tryz.prog 121 #[.pointer (some ⟨p, 0, none⟩), .int .i64 x] w (ReadC w (D.readR x) (D.readE x)) := by
 have hof := xdOff_any h
 have hh := h
 obtain ⟨X, h⟩ := h
 have c0 := h.c0
 have hss := h.ss
 have hsu := h.su
 clear h
 by_cases hi : D.is x = true
 ·obtain ⟨h1, h2⟩ := DkM.is_iff.1 hi
  obtain ⟨i, rfl⟩ : ∃ i : Nat, x = i := ⟨x.toNat, by omega⟩
  have d1 : decide ((i : Int) < 0) = false := by simp
  have d2 : decide (D.sure.length ≤ i) = false := by simp; omega
  have cH := xdHas_any hh (i := i) (by omega)
  cases hf : D.off
  ·rw [hf] at hof
   have HE := Lib.hid (show D.readE i = 0 by rw [DkM.readE, hi, hf]; rfl)
   have HR := Lib.hid (DkM.readR_has hi hf)
   obtain ⟨R, hR⟩ : ∃ R, D.hasR i = R := ⟨_, rfl⟩
   have HRR := Lib.hid hR
   have HL5 := Lib.hid (show R.length = 512 by rw [← hR]; exact DkM.hasR_len hss hsu (by omega))
   rw [hR] at cH
   obtain ⟨S, hS⟩ : ∃ S : ByteArray, (⟨R.toArray⟩ : ByteArray) = S := ⟨_, rfl⟩
   rw [show strV R = .string S from congrArg Value.string hS] at cH
   have HS := Lib.hid hS
   clear hi hf hR hS h1 h2 hss hsu
   go_enter Tryz.func121, Tryz.ntmps121
   go_wp2_with fail
   refine hof.mono ?_
   rintro e w1 ⟨rfl, rfl⟩
   go_wp2_with fail
   refine cH.mono ?_
   rintro e w1 ⟨rfl, f1⟩
   have hl : R.length ≤ maxLen := by rw [HL5.out]; unfold maxLen; omega
   obtain ⟨c2, w2, hcv, r2, f2⟩ := conv_bytes Tryz.underlying9 Tryz.underlying27 Tryz.underlying5 w1 R hl
   rw [HS.out] at hcv
   clear hl
   go_wp2_with fail
   go_ret2
   exact ⟨_, by rw [HE.out]; rfl, by rw [HR.out, HRR.out]; exact r2.mono f1.size, f1.trans_nil f2⟩
  ·rw [hf] at hof
   have HE := Lib.hid (show D.readE i = 102 by rw [DkM.readE, hi, hf]; rfl)
   have HR := Lib.hid (show D.readR i = [] by rw [DkM.readR, hi, hf]; rfl)
   clear hi hf h1 h2 cH hss hsu
   go_enter Tryz.func121, Tryz.ntmps121
   go_wp2_with fail
   refine hof.mono ?_
   rintro e w1 ⟨rfl, rfl⟩
   go_wp2_with fail
   go_ret2
   exact ⟨_, by rw [HE.out]; rfl, by rw [HR.out]; exact Row.nil _ _ _ _, Fr.refl _ _⟩
 ·have hi' : D.is x = false := by simpa using hi
  have HE := Lib.hid (show D.readE x = 100 by rw [DkM.readE, if_pos hi'])
  have HR := Lib.hid (show D.readR x = [] by rw [DkM.readR, if_pos hi'])
  have hx : x < 0 ∨ ¬ x < 0 ∧ (D.sure.length : Int) ≤ x := by
   rw [DkM.is_iff] at hi; omega
  clear hi hi' hof hss hsu
  rcases hx with h1 | ⟨h1, h2⟩
  ·have d1 : decide (x < 0) = true := by simpa using h1
   go_enter Tryz.func121, Tryz.ntmps121
   go_wp2_with fail
   go_ret2
   exact ⟨_, by rw [HE.out]; rfl, by rw [HR.out]; exact Row.nil _ _ _ _, Fr.refl _ _⟩
  ·have d1 : decide (x < 0) = false := by simpa using h1
   have d2 : decide (x ≥ D.sure.length) = true := by simpa using h2
   go_enter Tryz.func121, Tryz.ntmps121
   go_wp2_with fail
   go_ret2
   exact ⟨_, by rw [HE.out]; rfl, by rw [HR.out]; exact Row.nil _ _ _ _, Fr.refl _ _⟩
end
end
end Go.Proofs.YtbanogfljpkbkaaGreatDoor
