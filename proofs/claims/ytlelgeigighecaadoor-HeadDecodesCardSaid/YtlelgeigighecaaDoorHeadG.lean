/-
  A header out of a block's bytes: plain laws. No program of the seat is named here.
-/
import Derived.Test.YtlelgeigighecaaDoorHeadE
set_option linter.unusedSimpArgs false
set_option linter.unusedVariables false
set_option linter.unnecessarySimpa false
namespace Go.Proofs.YtlelgeigighecaaDoor
open Go.RowKit

theorem leB_leNh : ∀ l : List UInt8, leB l.length (leN l) = l := by
  intro l
  refine List.ext_getElem (by rw [leB_length]) fun k h1 h2 => ?_
  rw [leB_length] at h1
  have hp : 0 < 256 ^ k := Nat.pow_pos (by omega)
  have e : leN l = leN (l.take k) + 256 ^ k * leN (l.drop k) := by
    conv => lhs; rw [← List.take_append_drop k l]
    rw [leN_append, List.length_take, Nat.min_eq_left (by omega)]
  have e2 : leN l / 256 ^ k = leN (l.drop k) := by
    rw [e, Nat.add_mul_div_left _ _ hp, Nat.div_eq_of_lt (leN_take_lt l k), Nat.zero_add]
  have e3 : leN (l.drop k) % 256 = l[k].toNat := by
    rw [List.drop_eq_getElem_cons h1]
    simp only [leN]
    have := l[k].toNat_lt
    omega
  simp only [leB, List.getElem_map, List.getElem_range, e2, e3]
  simp
theorem leN_leBh (n x : Nat) (h : x < 256 ^ n) : leN (leB n x) = x := by
  have h1 := leB_leNh (leB n x)
  rw [leB_length] at h1
  have h2 : leN (leB n x) < 256 ^ n := by have := leN_lt (leB n x); rwa [leB_length] at this
  clear h1
  have key : ∀ n x, leN (leB n x) = x % 256 ^ n := by
    intro n
    induction n with
    | zero => intro x; simp [leB, leN, Nat.mod_one]
    | succ n ih =>
      intro x
      rw [leB_succ, leN_append, ih, leB_length]
      simp only [leN, Nat.mul_zero, Nat.add_zero]
      rw [UInt8.toNat_ofNat', Nat.mod_mod, Nat.pow_succ, Nat.mod_mul]
  rw [key, Nat.mod_eq_of_lt h]
theorem leB_at (l : List UInt8) (i n : Nat) (h : i + n ≤ l.length) : leB n (leN ((l.drop i).take n)) = (l.drop i).take n := by
  have := leB_leNh ((l.drop i).take n)
  rwa [List.length_take, List.length_drop, Nat.min_eq_left (by omega)] at this
theorem leN_at_lt (l : List UInt8) (i n : Nat) : leN ((l.drop i).take n) < 256 ^ n := leN_take_lt _ _

/-- The header that lies in bytes. -/
def hdr (l : List UInt8) : HeadM := ⟨leN ((l.drop 8).take 8), leN ((l.drop 16).take 4), leN ((l.drop 20).take 1), leN ((l.drop 21).take 2), leN ((l.drop 23).take 1), leN ((l.drop 24).take 1), leN ((l.drop 25).take 2), leN ((l.drop 27).take 1), (l.drop 28).take 16⟩
theorem hdr_ok {l : List UInt8} (hl : l.length = 512) : (hdr l).ok := by
  have a1 := leN_at_lt l 8 8
  have a2 := leN_at_lt l 16 4
  have a3 := leN_at_lt l 20 1
  have a4 := leN_at_lt l 21 2
  have a5 := leN_at_lt l 23 1
  have a6 := leN_at_lt l 24 1
  have a7 := leN_at_lt l 25 2
  have a8 := leN_at_lt l 27 1
  refine ⟨?_, ?_, ?_, ?_, ?_, ?_, ?_, ?_, ?_⟩
  · exact a1
  · simp only [in64, hdr]; omega
  · simp only [in64, hdr]; omega
  · simp only [in64, hdr]; omega
  · simp only [in64, hdr]; omega
  · simp only [in64, hdr]; omega
  · simp only [in64, hdr]; omega
  · simp only [in64, hdr]; omega
  · simp only [hdr, List.length_take, List.length_drop]; omega
theorem take_two (l : List UInt8) (i a b : Nat) : (l.drop i).take a ++ (l.drop (i + a)).take b = (l.drop i).take (a + b) := by
  rw [List.take_add, List.drop_drop]
theorem hdr_front {l : List UInt8} (hl : l.length = 512) : (hdr l).front = magicH ++ (l.drop 8).take 36 := by
  rw [HeadM.front]
  simp only [hdr, Int.toNat_natCast]
  rw [leB_at l 8 8 (by omega), leB_at l 16 4 (by omega), leB_at l 20 1 (by omega), leB_at l 21 2 (by omega), leB_at l 23 1 (by omega), leB_at l 24 1 (by omega), leB_at l 25 2 (by omega), leB_at l 27 1 (by omega)]
  rw [take_two l 27 1 16, take_two l 25 2 17, take_two l 24 1 19, take_two l 23 1 20, take_two l 21 2 21, take_two l 20 1 23, take_two l 16 4 24, take_two l 8 8 28]
/-- Are these a header's bytes (what it says aside)? -/
def hdrB (l : List UInt8) : Prop := (allZ ((l.take 480).drop 44) = true ∧ l.take 8 = magicH) ∧ shaSum (l.take 480) = l.drop 480
instance (l : List UInt8) : Decidable (hdrB l) := by unfold hdrB; infer_instance
theorem allZ_iffh (l : List UInt8) : allZ l = true ↔ l = List.replicate l.length 0 := by
  rw [allZ, List.all_eq_true, List.eq_replicate_iff]
  simp
theorem hdr_bytes {l : List UInt8} (hl : l.length = 512) (h : hdrB l) : (hdr l).bytes = l := by
  obtain ⟨⟨h1, h2⟩, h3⟩ := h
  have e1 : (hdr l).front = l.take 44 := by
    rw [hdr_front hl, ← h2, show (44 : Nat) = 8 + 36 from rfl, List.take_add]
  have e2 : (hdr l).body = l.take 480 := by
    have := (allZ_iffh _).1 h1
    rw [List.length_drop, List.length_take, Nat.min_eq_left (by omega)] at this
    rw [HeadM.body, e1, ← this]
    have e := List.take_append_drop 44 (l.take 480)
    rw [List.take_take, Nat.min_eq_left (by omega)] at e
    exact e
  rw [HeadM.bytes, e2, h3, List.take_append_drop]
theorem bytes_parts {h : HeadM} (k : h.ok) : h.bytes.take 480 = h.body ∧ h.bytes.drop 480 = shaSum h.body ∧ h.bytes.length = 512 := by
  have hb := HeadM.body_len k
  refine ⟨?_, ?_, ?_⟩
  · rw [HeadM.bytes, List.take_left' hb]
  · rw [HeadM.bytes, List.drop_left' hb]
  · rw [HeadM.bytes, List.length_append, hb, shaSum_length]
theorem bytes_take {h : HeadM} (k : h.ok) (n : Nat) (hn : n ≤ 480) : h.bytes.take n = h.body.take n := by
  rw [← (bytes_parts k).1, List.take_take, Nat.min_eq_left hn]
theorem hdrB_bytes {h : HeadM} (k : h.ok) : hdrB h.bytes := by
  obtain ⟨e1, e2, e3⟩ := bytes_parts k
  refine ⟨⟨?_, ?_⟩, by rw [e1, e2]⟩
  · rw [e1, HeadM.body, List.drop_left' (HeadM.front_len k), allZ_iffh, List.length_replicate]
  · rw [bytes_take k 8 (by omega), HeadM.body, List.take_append_of_le_length (by rw [HeadM.front_len k]; omega), HeadM.front]
    exact List.take_left' rfl
/-- A header's own bytes give it back. -/
theorem hdr_of {h : HeadM} (k : h.ok) (hi : h.In) : hdr h.bytes = h := by
  obtain ⟨s, l, j, e, t, m, a, N⟩ := HeadM.nat_of hi
  have hf := front_eq N
  simp only [List.append_assoc] at hf
  have hb : ∀ i n, i + n ≤ 44 → (h.bytes.drop i).take n = (h.front.drop i).take n := by
    intro i n hin
    have e1 : h.bytes = h.front ++ (List.replicate 436 0 ++ shaSum h.body) := by rw [HeadM.bytes, HeadM.body, List.append_assoc]
    have hl := HeadM.front_len k
    rw [e1, List.drop_append_of_le_length (by omega), List.take_append_of_le_length (by rw [List.length_drop]; omega)]
  have p8 : h.front.drop 8 = leB 8 h.gen ++ (leB 4 s ++ (leB 1 l ++ (leB 2 j ++ (leB 1 e ++ (leB 1 t ++ (leB 2 m ++ (leB 1 a ++ h.nam))))))) := by rw [hf]; exact List.drop_left' rfl
  have p16 : h.front.drop 16 = leB 4 s ++ (leB 1 l ++ (leB 2 j ++ (leB 1 e ++ (leB 1 t ++ (leB 2 m ++ (leB 1 a ++ h.nam)))))) := by rw [show (16 : Nat) = 8 + 8 from rfl, ← List.drop_drop, p8]; exact List.drop_left' (leB_length _ _)
  have p20 : h.front.drop 20 = leB 1 l ++ (leB 2 j ++ (leB 1 e ++ (leB 1 t ++ (leB 2 m ++ (leB 1 a ++ h.nam))))) := by rw [show (20 : Nat) = 16 + 4 from rfl, ← List.drop_drop, p16]; exact List.drop_left' (leB_length _ _)
  have p21 : h.front.drop 21 = leB 2 j ++ (leB 1 e ++ (leB 1 t ++ (leB 2 m ++ (leB 1 a ++ h.nam)))) := by rw [show (21 : Nat) = 20 + 1 from rfl, ← List.drop_drop, p20]; exact List.drop_left' (leB_length _ _)
  have p23 : h.front.drop 23 = leB 1 e ++ (leB 1 t ++ (leB 2 m ++ (leB 1 a ++ h.nam))) := by rw [show (23 : Nat) = 21 + 2 from rfl, ← List.drop_drop, p21]; exact List.drop_left' (leB_length _ _)
  have p24 : h.front.drop 24 = leB 1 t ++ (leB 2 m ++ (leB 1 a ++ h.nam)) := by rw [show (24 : Nat) = 23 + 1 from rfl, ← List.drop_drop, p23]; exact List.drop_left' (leB_length _ _)
  have p25 : h.front.drop 25 = leB 2 m ++ (leB 1 a ++ h.nam) := by rw [show (25 : Nat) = 24 + 1 from rfl, ← List.drop_drop, p24]; exact List.drop_left' (leB_length _ _)
  have p27 : h.front.drop 27 = leB 1 a ++ h.nam := by rw [show (27 : Nat) = 25 + 2 from rfl, ← List.drop_drop, p25]; exact List.drop_left' (leB_length _ _)
  have p28 : h.front.drop 28 = h.nam := by rw [show (28 : Nat) = 27 + 1 from rfl, ← List.drop_drop, p27]; exact List.drop_left' (leB_length _ _)
  have q : ∀ n x (r : List UInt8), (leB n x ++ r).take n = leB n x := fun n x r => List.take_left' (leB_length n x)
  have hgen := k.gen
  obtain ⟨b1, b2, b3, b4, b5, b6, b7⟩ := And.intro N.bs (And.intro N.bl (And.intro N.bj (And.intro N.be (And.intro N.bt (And.intro N.bm N.ba)))))
  unfold hdr
  rw [hb 8 8 (by omega), hb 16 4 (by omega), hb 20 1 (by omega), hb 21 2 (by omega), hb 23 1 (by omega), hb 24 1 (by omega), hb 25 2 (by omega), hb 27 1 (by omega), hb 28 16 (by omega)]
  rw [p8, p16, p20, p21, p23, p24, p25, p27, p28, q, q, q, q, q, q, q, q, List.take_of_length_le (by rw [k.nam]; exact Nat.le_refl _)]
  rw [leN_leBh 8 _ hgen, leN_leBh 4 s (by omega), leN_leBh 1 l (by omega), leN_leBh 2 j (by omega), leN_leBh 1 e (by omega), leN_leBh 1 t (by omega), leN_leBh 2 m (by omega), leN_leBh 1 a (by omega)]
  rw [← N.sec, ← N.slo, ← N.jou, ← N.seg, ← N.tim, ← N.mem, ← N.lan]

/-- Decode. -/
def decH (l : List UInt8) : Option HeadM := if l.length = 512 ∧ hdrB l ∧ (hdr l).good = true then some (hdr l) else none
def decHV (l : List UInt8) : HeadM := (decH l).getD zeroH
theorem decH_some {l : List UInt8} {h : HeadM} (e : decH l = some h) : h.ok ∧ h.good = true ∧ h.bytes = l := by
  unfold decH at e
  split at e
  · rename_i c
    cases e
    exact ⟨hdr_ok c.1, c.2.2, hdr_bytes c.1 c.2.1⟩
  · cases e
theorem decH_bytes {h : HeadM} (k : h.ok) (hg : h.good = true) : decH h.bytes = some h := by
  have e := hdr_of k (HeadM.in_of hg)
  rw [decH, e, if_pos ⟨(bytes_parts k).2.2, hdrB_bytes k, hg⟩]
theorem decHV_ok (l : List UInt8) : (decHV l).ok := by
  unfold decHV
  cases h : decH l with
  | none => exact zeroH_ok
  | some s => exact (decH_some h).1
def DecH (w : World) (l : List UInt8) (e : Ending) (w' : World) : Prop :=
  e = .returned (.tuple #[.agg (decHV l).cells.toArray, .int .i64 (errG (decH l).isSome 110)]) ∧ Fr [] w w'
theorem decH_no {l : List UInt8} (h : ¬ (l.length = 512 ∧ hdrB l ∧ (hdr l).good = true)) : decH l = none := by rw [decH, if_neg h]
theorem decH_yes {l : List UInt8} (h1 : l.length = 512) (h2 : hdrB l) (h3 : (hdr l).good = true) : decH l = some (hdr l) := by rw [decH, if_pos ⟨h1, h2, h3⟩]
end Go.Proofs.YtlelgeigighecaaDoor
