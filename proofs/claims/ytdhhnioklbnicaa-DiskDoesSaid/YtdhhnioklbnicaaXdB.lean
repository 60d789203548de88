/-
  Layer 10, the reference's disk: may, did, Stop, Has, Read.
-/
import Derived.Test.YtdhhnioklbnicaaXdA
set_option linter.unusedSimpArgs false
set_option linter.unusedVariables false
set_option linter.unnecessarySimpa false
namespace Go.Proofs.Ytdhhnioklbnicaa
open Go.RowKit
set_option maxRecDepth 100000

/-- What a block has. -/
def DkM.hasR (D : DkM) (x : Int) : List UInt8 := match (D.uns x).getLast? with | some b => b | none => D.sureR x
section
variable {w w' : World} {p : Nat} {O : List Nat} {D : DkM} {X : XdX}
theorem XdkX.hO (h : XdkX w p O D X) : ∀ i ∈ [p], i ∈ O := by simp [h.pO]
theorem xdDid_any (h : Xdk w p O D) (ho : D.off = false) : Calls Try.prog 68 #[.pointer (some ⟨p, 0, none⟩)] w fun e w' => e = .returned (.int .i64 0) ∧ AftX w p O D.dec w' := by
  obtain ⟨X, h⟩ := h
  have c1 := h.c1
  have c2 := h.c2
  have kk := h.kk
  have hcl := h.calls
  by_cases hc : D.calls = -1
  · have HO := Lib.hid (show D.dec = D by obtain ⟨a, b, c⟩ := D; simp only at hc; subst hc; rfl)
    rw [hc] at c1
    replace c1 : w.cell? ⟨p, 1, none⟩ = some (.bool false) := c1
    have HH := Lib.hid h
    clear h kk hc ho
    go_enter Try.func68, Try.ntmps68
    go_wp2_with fail
    go_ret
    exact ⟨rfl, by rw [HO.out]; exact AftX.same ⟨X, HH.out⟩⟩
  · rw [kk hc] at c2
    have hb : (!(D.calls == -1)) = true := by simpa using hc
    have hp : 1 ≤ D.calls := by
      have : D.calls ≠ 0 := by simpa [DkM.off] using ho
      omega
    have z2 := h.blk.frozen 2
    have kb := h.blk.set_ 2 (.int .i64 (D.calls - 1))
    have f : Fr [p] w (w.setCell ⟨p, 2, none⟩ (.int .i64 (D.calls - 1))) := (Fr.refl [p] w).setCell (.inl (by simp)) _
    have hS := h.setp f (D.calls - 1) (D.calls - 1) (by omega) (fun _ => rfl) (by omega) (by
      have e : (!(D.calls - 1 == -1)) = true := by
        have : D.calls - 1 ≠ -1 := by omega
        simpa using this
      have e2 : (!(D.calls == -1)) = true := hb
      rw [e]
      rw [e2] at kb
      exact kb)
    have HD := Lib.hid (show D.dec = { D with calls := D.calls - 1 } by rw [DkM.dec, if_pos (by omega)])
    have HS := Lib.hid (And.intro hS (And.intro f h))
    rw [hb] at c1
    clear h kk hb hc hS f kb ho
    go_enter Try.func68, Try.ntmps68
    go_wp2_with fail
    go_ret
    exact ⟨rfl, by rw [HD.out]; exact ⟨O, ⟨_, HS.out.1⟩, fun i hi => .inl hi, HS.out.2.1.mono HS.out.2.2.hO⟩⟩
theorem xdMay_any (h : Xdk w p O D) (x : Int) (A : Option Addr) (n c : Nat) : Calls Try.prog 67 #[.pointer (some ⟨p, 0, none⟩), .int .i64 x, .slice A n c] w fun e w' => e = .returned (.int .i64 (D.mayE x n)) ∧ w = w' := by
  obtain ⟨X, h⟩ := h
  have c0 := h.c0
  clear h
  by_cases h1 : x < 0
  · have HE := Lib.hid (show D.mayE x n = 100 by
      have : D.is x = false := by rw [← Bool.not_eq_true, DkM.is_iff]; omega
      rw [DkM.mayE, if_pos this])
    have d1 : decide (x < 0) = true := by simpa using h1
    go_enter Try.func67, Try.ntmps67
    go_wp2_with fail
    go_ret
    exact ⟨by rw [HE.out]; rfl, rfl⟩
  have d1 : decide (x < 0) = false := by simpa using h1
  by_cases h2 : x < D.sure.length
  · have hi : D.is x = true := DkM.is_iff.2 ⟨by omega, h2⟩
    have d2 : decide (x ≥ D.sure.length) = false := by simpa using h2
    by_cases h3 : n = 512
    · have HE := Lib.hid (show D.mayE x n = 0 by rw [DkM.mayE, hi, if_neg (by decide), if_neg (by simpa using h3)])
      subst h3
      clear hi
      go_enter Try.func67, Try.ntmps67
      go_wp2_with fail
      go_ret
      exact ⟨by rw [HE.out]; rfl, rfl⟩
    · have HE := Lib.hid (show D.mayE x n = 101 by rw [DkM.mayE, hi, if_neg (by decide), if_pos (by simpa using h3)])
      have d3 : (((n : Int)) != 512) = true := by simp; omega
      clear hi
      go_enter Try.func67, Try.ntmps67
      go_wp2_with fail
      go_ret
      exact ⟨by rw [HE.out]; rfl, rfl⟩
  · have HE := Lib.hid (show D.mayE x n = 100 by
      have : D.is x = false := by rw [← Bool.not_eq_true, DkM.is_iff]; omega
      rw [DkM.mayE, if_pos this])
    have d2 : decide (x ≥ D.sure.length) = true := by simpa using h2
    go_enter Try.func67, Try.ntmps67
    go_wp2_with fail
    go_ret
    exact ⟨by rw [HE.out]; rfl, rfl⟩
theorem xdStop_any (h : Xdk w p O D) (x : Int) (hx : -9223372036854775808 ≤ x ∧ x ≤ 9223372036854775807) : Calls Try.prog 52 #[.pointer (some ⟨p, 0, none⟩), .int .i64 x] w fun e w' => e = .returned (.tuple #[]) ∧ AftX w p O (D.stop x) w' := by
  have ho := xdOff_any h
  obtain ⟨X, h⟩ := h
  cases hf : D.off
  · rw [hf] at ho
    have kb := (h.blk.set_ 1 (.bool (decide (0 ≤ x)))).set_ 2 (.int .i64 x)
    have f : Fr [p] w ((w.setCell ⟨p, 1, none⟩ (.bool (decide (0 ≤ x)))).setCell ⟨p, 2, none⟩ (.int .i64 x)) := ((Fr.refl [p] w).setCell (.inl (by simp)) _).setCell (.inl (by simp)) _
    have hb : (decide (0 ≤ x)) = (!(max x (-1) == -1)) := by
      by_cases h : 0 ≤ x
      · have : max x (-1) ≠ -1 := by omega
        simp [h, this]
      · have : max x (-1) = -1 := by omega
        simp [h, this]
    have hS := h.setp f (max x (-1)) x (by omega) (fun hne => by omega) (by omega) (by rw [← hb]; exact kb)
    have HD := Lib.hid (show D.stop x = { D with calls := max x (-1) } by rw [DkM.stop, hf]; rfl)
    have HS := Lib.hid (And.intro hS (And.intro f h))
    have c1 := h.c1
    have c2 := h.c2
    have z1 := h.blk.frozen 1
    have z2 := h.blk.frozen 2
    clear h hS f kb hb hf
    go_enter Try.func52, Try.ntmps52
    go_wp2_with fail
    refine ho.mono ?_
    rintro e w1 ⟨rfl, rfl⟩
    go_wp2_with fail
    go_returns
    exact ⟨rfl, by rw [HD.out]; exact ⟨O, ⟨_, HS.out.1⟩, fun i hi => .inl hi, HS.out.2.1.mono HS.out.2.2.hO⟩⟩
  · rw [hf] at ho
    have HD := Lib.hid (show D.stop x = D by rw [DkM.stop, hf]; rfl)
    have HH := Lib.hid h
    clear h hf
    go_enter Try.func52, Try.ntmps52
    go_wp2_with fail
    refine ho.mono ?_
    rintro e w1 ⟨rfl, rfl⟩
    go_wp2_with fail
    go_returns
    exact ⟨rfl, by rw [HD.out]; exact AftX.same ⟨X, HH.out⟩⟩
theorem xdHas_any (h : Xdk w p O D) {i : Nat} (hi : i < D.sure.length) : Calls Try.prog 69 #[.pointer (some ⟨p, 0, none⟩), .int .i64 i] w fun e w' => e = .returned (strV (D.hasR i)) ∧ Fr [] w w' := by
  obtain ⟨X, h⟩ := h
  have c0 := h.c0
  obtain ⟨v, q0, q1, r, -⟩ := h.cp hi
  have hn := h.n1.2
  have hlt := h.lt _ h.gO
  clear h
  obtain ⟨L, hL⟩ : ∃ L, D.uns i = L := ⟨_, rfl⟩
  have hH : D.hasR i = match L.getLast? with | some b => b | none => D.sureR i := by rw [DkM.hasR, hL]
  rw [hL] at r
  obtain ⟨S, hS⟩ : ∃ S : ByteArray, (⟨(D.sureR i).toArray⟩ : ByteArray) = S := ⟨_, rfl⟩
  rw [show strV (D.sureR i) = .string S from congrArg Value.string hS] at q0
  obtain ⟨N, hN⟩ : ∃ N, D.sure.length = N := ⟨_, rfl⟩
  rw [hN] at hi hn c0
  have di : (i : Int) < N := by omega
  clear hN
  rcases List.eq_nil_or_concat L with e | ⟨L', b, e⟩
  · subst e
    have HH := Lib.hid (show strV (D.hasR i) = .string S by rw [hH]; exact congrArg Value.string hS)
    obtain ⟨A, c, rfl, -, -, -, -, -⟩ := r.shape
    clear r hH hL hS
    go_enter Try.func69, Try.ntmps69
    go_wp2_with fail
    go_ret
    exact ⟨by rw [HH.out]; rfl, by first | exact (Fr.refl _ _).alloc _ | exact ((Fr.refl _ _).alloc _).trans (Fr.refl _ _) (by simp)⟩
  · rw [List.concat_eq_append] at e
    subst e
    have hl2 : (L' ++ [b]).getLast? = some b := by simp
    rw [hl2] at hH
    obtain ⟨S2, hS2⟩ : ∃ S : ByteArray, (⟨b.toArray⟩ : ByteArray) = S := ⟨_, rfl⟩
    have HH := Lib.hid (show strV (D.hasR i) = .string S2 by rw [hH]; exact congrArg Value.string hS2)
    have hcap : (L' ++ [b]).length ≤ 9223372036854775807 := by obtain ⟨_, _, _, h1, h2, -⟩ := r.shape; unfold maxLen at h2; omega
    obtain ⟨m, hm⟩ : ∃ m, L'.length = m := ⟨_, rfl⟩
    have hlen : (L' ++ [b]).length = m + 1 := by simp [hm]
    obtain ⟨g, c, rfl⟩ := r.hdD (by omega)
    obtain ⟨g', o', e', hc⟩ := r.rdD.1 (by simp)
    cases e'
    have hgl : g < w.heap.size := (r.lt g rfl).2
    have cn := hc m (.string S2) (by rw [List.map_append, List.getElem?_append_right (by simp [hm])]; simp [hm, strV, hS2])
    rw [Nat.zero_add] at cn
    rw [hlen] at q1 hcap
    clear r hH hL hS hc hl2 hm hlen hS2
    have UM : IntKind.i64.wrap (((m + 1 : Nat) : Int) - 1) = m := by rw [show (((m + 1 : Nat) : Int) - 1) = m by omega]; exact IntWalk.i64_in _ (by omega)
    have KM : (m : Int) < ((m + 1 : Nat) : Int) := by omega
    have KP : 0 < m + 1 := by omega
    go_enter Try.func69, Try.ntmps69
    go_wp2_with fail
    go_ret
    exact ⟨by rw [HH.out]; rfl, by first | exact (Fr.refl _ _).alloc _ | exact ((Fr.refl _ _).alloc _).trans (Fr.refl _ _) (by simp)⟩
end
end Go.Proofs.Ytdhhnioklbnicaa
