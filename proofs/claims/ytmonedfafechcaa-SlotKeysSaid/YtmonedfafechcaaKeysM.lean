/-
  Plain laws for SlotReads, SlotKeys, SlotApart: keys back out of their bytes; slots and keys are told apart.
-/
import Derived.Test.YtmonedfafechcaaKeysK
import Derived.Test.YtmonedfafechcaaSlotDec
set_option linter.unusedSimpArgs false
set_option linter.unusedVariables false
set_option linter.unnecessarySimpa false
namespace Go.Proofs.Ytmonedfafechcaa
open Go.RowKit

theorem leN_leBk (n x : Nat) (h : x < 256 ^ n) : leN (leB n x) = x := by
  have aux : ∀ k, leN (leB k x) = x % 256 ^ k := by
    intro k
    induction k with
    | zero => simp [leB, leN, Nat.mod_one]
    | succ k ih =>
      rw [leB_succ, leN_append, ih, leB_length]
      have : x / 256 ^ k % 256 < 256 := Nat.mod_lt _ (by omega)
      rw [show leN [UInt8.ofNat (x / 256 ^ k % 256)] = x / 256 ^ k % 256 by simp [leN, UInt8.toNat_ofNat', Nat.mod_eq_of_lt this]]
      rw [Nat.pow_succ, Nat.mod_mul]
  rw [aux, Nat.mod_eq_of_lt h]
structure DKM (l : List UInt8) (es : List EpM) (tg : List UInt8) : Prop where
  dec : decK l = (es, tg)
  each : ∀ e ∈ es, e.ok
  tl : tg.length = 32
  len : es.length ≤ 2
  yes : okK l = true → rightB es = true ∧ keyBytes es tg = l
theorem decK_spec (l : List UInt8) : ∃ es tg, DKM l es tg := by
  cases h : okK l
  · exact ⟨[], zT, by rw [decK, h]; rfl, by simp, rfl, by simp, fun h' => by rw [h] at h'; cases h'⟩
  · obtain ⟨a, b, c, d⟩ := okK_parts h
    refine ⟨esK l, tgK l, by rw [decK, h]; rfl, fun e he => (epsOf_fit (l := l.drop 5) (n := nK l) (by rw [List.length_drop]; omega) e he).ok, ?_, by rw [esK, epsOf_length]; exact b, fun _ => ⟨c, d⟩⟩
    rw [tgK, List.length_take, List.length_drop]; omega

theorem epOf_encE {e : EpM} (h : e.fit) (r : List UInt8) : epOf (encE e ++ r) = e := by
  obtain ⟨x, hx⟩ := Int.eq_ofNat_of_zero_le h.lo
  have hi := h.hi
  have h2 : (256 : Nat) ^ 4 = 4294967296 := by decide
  have l4 : (leB 4 e.ep.toNat).length = 4 := leB_length _ _
  have e1 : encE e ++ r = leB 4 e.ep.toNat ++ (e.wr ++ r) := by rw [encE, List.append_assoc]
  have e2 : leN (leB 4 e.ep.toNat) = e.ep.toNat := leN_leBk _ _ (by rw [h2]; omega)
  rw [epOf, e1, List.take_left' l4, List.drop_left' l4, List.take_left' h.ok.wr, e2]
  have : ((e.ep.toNat : Nat) : Int) = e.ep := by omega
  rw [this]
theorem epsOf_encEs : ∀ {es : List EpM}, (∀ e ∈ es, e.fit) → ∀ r, epsOf (encEs es ++ r) es.length = es
  | [], _, _ => rfl
  | e :: es, h, r => by
    have he := h e (by simp)
    have ih := epsOf_encEs (es := es) (fun x hx => h x (by simp [hx])) r
    have e1 : encEs (e :: es) ++ r = encE e ++ (encEs es ++ r) := by rw [← List.append_assoc]; rfl
    have key : ∀ n, epsOf (encE e ++ (encEs es ++ r)) (n + 1) = e :: epsOf (encEs es ++ r) n := by
      intro n
      rw [epsOf, List.range_succ_eq_map, List.map_cons, List.map_map]
      congr 1
      · rw [Nat.mul_zero, List.drop_zero, epOf_encE he]
      · rw [epsOf]
        apply List.map_congr_left
        intro i _
        show epOf ((encE e ++ (encEs es ++ r)).drop (68 * (i + 1))) = _
        rw [show 68 * (i + 1) = (encE e).length + 68 * i by rw [encE_len he.ok]; omega, ← List.drop_drop, List.drop_left]
    rw [e1, List.length_cons, key, ih]

theorem okK_enc {es : List EpM} {tg : List UInt8} (h : ∀ e ∈ es, e.ok) (ht : tg.length = 32) (hr : rightB es = true) : okK (keyBytes es tg) = true ∧ decK (keyBytes es tg) = (es, tg) := by
  obtain ⟨h12, hf⟩ := right_fit hr h
  have hl := keyBytes_len (es := es) (tg := tg) h ht (by omega)
  have e0 : keyBytes es tg = markK ++ (UInt8.ofNat es.length :: (encEs es ++ (tg ++ List.replicate (475 - 68 * es.length) 0))) := by
    rw [keyBytes, sealB]; simp only [List.append_assoc, List.cons_append, List.nil_append]
  have p4 : (keyBytes es tg).drop 4 = UInt8.ofNat es.length :: (encEs es ++ (tg ++ List.replicate (475 - 68 * es.length) 0)) := by rw [e0]; exact List.drop_left' rfl
  have p5 : (keyBytes es tg).drop 5 = encEs es ++ (tg ++ List.replicate (475 - 68 * es.length) 0) := by rw [show (5 : Nat) = 4 + 1 from rfl, ← List.drop_drop, p4]; rfl
  have n0 : nK (keyBytes es tg) = es.length := by
    rw [nK, p4]
    have : es.length % 256 = es.length := by omega
    simp [leN, this]
  have e1 : esK (keyBytes es tg) = es := by rw [esK, n0, p5, epsOf_encEs hf]
  have pt : (keyBytes es tg).drop (5 + 68 * es.length) = tg ++ List.replicate (475 - 68 * es.length) 0 := by
    rw [← List.drop_drop, p5]; exact List.drop_left' (encEs_len h)
  have e2 : tgK (keyBytes es tg) = tg := by rw [tgK, n0, pt]; exact List.take_left' ht
  have ho : okK (keyBytes es tg) = true := by
    rw [okK_eq hl (by rw [n0]; omega), e1, e2, hr]
    simp
  exact ⟨ho, by rw [decK, ho, e1, e2]; rfl⟩

/-- The first byte of keys' bytes, of slots' bytes. -/
theorem key_head {es : List EpM} {tg : List UInt8} : (keyBytes es tg)[0]? = some 75 := by
  have e0 : keyBytes es tg = markK ++ ([UInt8.ofNat es.length] ++ (encEs es ++ (tg ++ List.replicate (475 - 68 * es.length) 0))) := by
    rw [keyBytes, sealB]; simp only [List.append_assoc]
  rw [e0]; rfl
theorem slot_head (s : SlotM) : s.bytes[0]? = some 83 ∨ s.bytes[0]? = some 0 := by
  rw [SlotM.bytes]
  split
  · left
    rw [SlotM.body]; simp only [List.append_assoc]
    rfl
  · right
    rfl
theorem slot_no_keys {s : SlotM} : okK s.bytes = false := by
  rw [Bool.eq_false_iff]
  intro h
  obtain ⟨-, -, c, d⟩ := okK_parts h
  have := key_head (es := esK s.bytes) (tg := tgK s.bytes)
  rw [d] at this
  rcases slot_head s with h1 | h1 <;> rw [h1] at this <;> exact absurd this (by decide)
theorem keys_no_slot {es : List EpM} {tg : List UInt8} : decS (keyBytes es tg) = none := by
  cases h : decS (keyBytes es tg) with
  | none => rfl
  | some s =>
    have hb := (enc_dec h).2
    have := key_head (es := es) (tg := tg)
    rw [← hb] at this
    rcases slot_head s with h1 | h1 <;> rw [h1] at this <;> exact absurd this (by decide)
theorem slots_apart {s t : SlotM} (hs : s.ok) (ht : t.ok) (gs : s.good = true) (gt : t.good = true) : (s.bytes == t.bytes) = s.eqB t := by
  rw [Bool.eq_iff_iff, beq_iff_eq, SlotM.eqB_iff]
  constructor
  · intro h
    have h1 := dec_enc hs gs
    rw [h, dec_enc ht gt] at h1
    exact (Option.some.inj h1).symm
  · rintro rfl; rfl
end Go.Proofs.Ytmonedfafechcaa
