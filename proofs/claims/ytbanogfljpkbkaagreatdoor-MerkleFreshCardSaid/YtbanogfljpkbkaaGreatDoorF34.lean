/-
  Texts of this claim, one behind the other: SrtL, MerP, JnI, CacC, CacO.
-/
import Derived.Test.YtbanogfljpkbkaaGreatDoorF1
import Derived.Test.YtbanogfljpkbkaaGreatDoorF33
import Derived.Test.YtbanogfljpkbkaaGreatDoorF8
import Derived.Test.YtbanogfljpkbkaaGreatDoorF18
import Derived.Test.YtbanogfljpkbkaaGreatDoorF32
set_option linter.unusedSimpArgs false
set_option linter.unusedVariables false
set_option linter.unnecessarySimpa false
namespace Go.Proofs.YtbanogfljpkbkaaGreatDoor
section
set_option maxRecDepth 100000
def lkL (L : List (Int × List UInt8)) (x : Int) : Option (List UInt8) := (L.find? fun p => p.1 == x).map (·.2)
def atL : List (Int × List UInt8) → Int → Nat
 | [], _ => 0
 | p :: r, x => if p.1 < x then atL r x + 1 else 0
def insL (L : List (Int × List UInt8)) (x : Int) (b : List UInt8) : List (Int × List UInt8) :=
 if (L[atL L x]?).map (·.1) = some x then L.set (atL L x) (x, b) else L.take (atL L x) ++ (x, b) :: L.drop (atL L x)
def UpL (L : List (Int × List UInt8)) : Prop := L.Pairwise (fun a b => a.1 < b.1)
theorem lkL_cons (p : Int × List UInt8) (r : List (Int × List UInt8)) (x : Int) : lkL (p :: r) x = if p.1 = x then some p.2 else lkL r x := by
 unfold lkL
 rw [List.find?_cons]
 by_cases h : p.1 = x
 ·rw [if_pos h, beq_iff_eq.2 h]; rfl
 ·rw [if_neg h, beq_eq_false_iff_ne.2 h]
theorem insL_cons (p : Int × List UInt8) (r : List (Int × List UInt8)) (x : Int) (b : List UInt8) : insL (p :: r) x b = if p.1 < x then p :: insL r x b else if p.1 = x then (x, b) :: r else (x, b) :: p :: r := by
 by_cases h : p.1 < x
 ·have e : atL (p :: r) x = atL r x + 1 := by rw [atL, if_pos h]
  rw [if_pos h, insL, insL, e, List.getElem?_cons_succ]
  split
  ·rfl
  ·rfl
 ·have e : atL (p :: r) x = 0 := by rw [atL, if_neg h]
  rw [if_neg h, insL, e, List.getElem?_cons_zero]
  by_cases h2 : p.1 = x
  ·rw [if_pos (by simp [h2]), if_pos h2]; rfl
  ·rw [if_neg (by simp [h2]), if_neg h2]; rfl
theorem insL_nil (x : Int) (b : List UInt8) : insL [] x b = [(x, b)] := rfl
theorem insL_up {x : Int} {b : List UInt8} : ∀ (L : List (Int × List UInt8)), UpL L → UpL (insL L x b) ∧ (∀ p ∈ insL L x b, p ∈ L ∨ p = (x, b)) ∧ (insL L x b).length ≤ L.length + 1
 | [], _ => ⟨by simp [insL_nil, UpL], by simp [insL_nil], by simp [insL_nil]⟩
 | p :: r, h => by
  obtain ⟨h1, h2⟩ := List.pairwise_cons.1 h
  obtain ⟨i1, i2, i3⟩ := insL_up (x := x) (b := b) r h2
  rw [insL_cons]
  by_cases hp : p.1 < x
  ·rw [if_pos hp]
   refine ⟨List.pairwise_cons.2 ⟨fun q hq => ?_, i1⟩, fun q hq => ?_, by simpa using i3⟩
   ·rcases i2 q hq with h | h
    ·exact h1 q h
    ·rw [h]; exact hp
   ·rcases List.mem_cons.1 hq with h | h
    ·exact .inl (h ▸ List.mem_cons_self)
    ·rcases i2 q h with h | h
     ·exact .inl (List.mem_cons_of_mem _ h)
     ·exact .inr h
  ·rw [if_neg hp]
   by_cases he : p.1 = x
   ·rw [if_pos he]
    refine ⟨List.pairwise_cons.2 ⟨fun q hq => ?_, h2⟩, fun q hq => ?_, by simp⟩
    ·have := h1 q hq; rw [he] at this; exact this
    ·rcases List.mem_cons.1 hq with h | h
     ·exact .inr h
     ·exact .inl (List.mem_cons_of_mem _ h)
   ·rw [if_neg he]
    refine ⟨List.pairwise_cons.2 ⟨fun q hq => ?_, h⟩, fun q hq => ?_, by simp⟩
    ·rcases List.mem_cons.1 hq with e | e
     ·rw [e]; show x < p.1; omega
     ·have := h1 q e; show x < q.1; omega
    ·rcases List.mem_cons.1 hq with h | h
     ·exact .inr h
     ·exact .inl h
theorem lkL_ins {x : Int} {b : List UInt8} : ∀ (L : List (Int × List UInt8)) (y : Int), UpL L → lkL (insL L x b) y = if y = x then some b else lkL L y
 | [], y, _ => by
  rw [insL_nil, lkL_cons]
  by_cases h : x = y
  ·rw [if_pos h, if_pos h.symm]
  ·rw [if_neg h, if_neg (Ne.symm h)]
 | p :: r, y, h => by
  obtain ⟨h1, h2⟩ := List.pairwise_cons.1 h
  have ih := lkL_ins (x := x) (b := b) r y h2
  rw [insL_cons]
  by_cases hp : p.1 < x
  ·rw [if_pos hp, lkL_cons, lkL_cons, ih]
   by_cases hy : p.1 = y
   ·rw [if_pos hy, if_pos hy, if_neg (by omega)]
   ·rw [if_neg hy, if_neg hy]
  ·rw [if_neg hp]
   by_cases he : p.1 = x
   ·rw [if_pos he, lkL_cons, lkL_cons]
    dsimp only
    by_cases hy : x = y
    ·rw [if_pos hy, if_pos hy.symm]
    ·rw [if_neg hy, if_neg (Ne.symm hy), if_neg (by omega)]
   ·rw [if_neg he, lkL_cons]
    dsimp only
    by_cases hy : x = y
    ·rw [if_pos hy, if_pos hy.symm]
    ·rw [if_neg hy, if_neg (Ne.symm hy)]
theorem lkL_mem {L : List (Int × List UInt8)} {x : Int} {l : List UInt8} (h : lkL L x = some l) : (x, l) ∈ L := by
 unfold lkL at h
 obtain ⟨p, hp, rfl⟩ := Option.map_eq_some_iff.1 h
 have h1 := List.mem_of_find?_eq_some hp
 have h2 := List.find?_some hp
 rw [beq_iff_eq] at h2
 rw [← h2]; exact h1
theorem lkL_of_mem : ∀ {L : List (Int × List UInt8)}, UpL L → ∀ {x : Int} {l : List UInt8}, (x, l) ∈ L → lkL L x = some l
 | [], _, _, _, h => by cases h
 | p :: r, h, x, l, hm => by
  obtain ⟨h1, h2⟩ := List.pairwise_cons.1 h
  rw [lkL_cons]
  rcases List.mem_cons.1 hm with e | e
  ·rw [← e, if_pos rfl]
  ·have := h1 _ e
   rw [if_neg (by dsimp only at this; omega)]
   exact lkL_of_mem h2 e
theorem lkL_some_iff {L : List (Int × List UInt8)} {x : Int} : (lkL L x).isSome = true ↔ x ∈ L.map (·.1) := by
 rw [List.mem_map]
 constructor
 ·intro h
  obtain ⟨l, hl⟩ := Option.isSome_iff_exists.1 h
  exact ⟨_, lkL_mem hl, rfl⟩
 ·rintro ⟨p, hp, rfl⟩
  induction L with
  | nil => cases hp
  | cons q r ih =>
   rw [lkL_cons]
   split
   ·rfl
   ·rename_i hne
    rcases List.mem_cons.1 hp with e | e
    ·exact absurd (by rw [e]) hne
    ·exact ih e
theorem upL_keys {L : List (Int × List UInt8)} (h : UpL L) : (L.map (·.1)).Pairwise (fun x y => x < y) := by
 rw [List.pairwise_map]; exact h
end
section
open Go.RowKit
set_option maxRecDepth 100000
structure StM where
 C : CaM
 st : List (Int × List UInt8)
def rdS (M : StM) (x : Int) : List UInt8 := match lkL M.st x with
 | some l => l
 | none => rdM M.C x
def rdSE (M : StM) (x : Int) : Int := match lkL M.st x with
 | some _ => 0
 | none => rdE M.C x
def wrSt (M : StM) (x : Int) (b : List UInt8) : StM := { M with st := insL M.st x b }
def comSE (M : StM) : Int := if M.st = [] then 0 else comE M.C M.st
def comSM (M : StM) : StM := if M.st = [] then M else if comE M.C M.st = 0 then ⟨comM M.C M.st, []⟩ else ⟨comM M.C M.st, M.st⟩
structure StG (N : Nat) (M : StM) : Prop where
 c : CaG N M.C
 up : UpL M.st
 l5 : ∀ p ∈ M.st, p.2.length = 512
section
variable {N : Nat} {M : StM} {C : CaM} {rs : List (Int × List UInt8)}
theorem rdS_wr (h : UpL M.st) (x : Int) (b : List UInt8) (y : Int) : rdS (wrSt M x b) y = if y = x then b else rdS M y := by
 show (match lkL (insL M.st x b) y with | some l => l | none => rdM M.C y) = _
 rw [lkL_ins _ _ h]
 by_cases e : y = x
 ·rw [if_pos e, if_pos e]
 ·rw [if_neg e, if_neg e]; rfl
theorem StG.wr (h : StG N M) (x : Int) {b : List UInt8} (hb : b.length = 512) : StG N (wrSt M x b) := by
 obtain ⟨h1, h2, -⟩ := insL_up (x := x) (b := b) M.st h.up
 refine ⟨h.c, h1, fun p hp => ?_⟩
 rcases h2 p hp with h2 | h2
 ·exact h.l5 p h2
 ·rw [h2]; exact hb
theorem rdU_up (f : Int → List UInt8) : ∀ (rs : List (Int × List UInt8)) (f : Int → List UInt8) (x : Int), UpL rs → rdU f rs x = match lkL rs x with | some l => l | none => f x
 | [], f, x, _ => rfl
 | r :: t, f, x, h => by
  obtain ⟨h1, h2⟩ := List.pairwise_cons.1 h
  have ih := rdU_up f t (fun x => if x = r.1 then r.2 else f x) x h2
  show rdU (fun x => if x = r.1 then r.2 else f x) t x = _
  rw [ih, lkL_cons]
  by_cases e : r.1 = x
  ·subst e
   rw [if_pos rfl]
   cases hl : lkL t r.1 with
   | none => rw [if_pos rfl]
   | some l => have := h1 _ (lkL_mem hl); dsimp only at this; omega
  ·rw [if_neg e, if_neg (Ne.symm e)]
theorem CaG.com_ok (G : CaG N C) (hm : C.J.num + 1200 < 9223372036854775808) (up : UpL rs) (h1 : 1 ≤ rs.length) (h2 : (rs.length : Int) ≤ min (C.J.count - 3) 64) (h5 : ∀ r ∈ rs, r.2.length = 512)
  (hk : ∀ r ∈ rs, 0 ≤ r.1 ∧ r.1 < N ∧ (r.1 < C.J.first ∨ C.J.first + C.J.count ≤ r.1)) : comE C rs = 0 := by
 obtain ⟨g1, g2, g3, -, -, -⟩ := G.room (by omega) rs.length
 have hroom : (rs.length : Int) ≤ (roomM C rs.length).J.room := by
  unfold roomM
  split
  ·rename_i h
   rcases h with h | h
   ·exact h
   ·exfalso; have : C.J.most = min (C.J.count - 3) 64 := rfl; omega
  ·obtain ⟨-, c2, c3, -, -, c6, -, -, -⟩ := G.chkC (by omega)
   obtain ⟨G1, -⟩ := G.chkC (by omega)
   rw [JrM.room, if_neg (by rw [G1.bad, c3]; simp), c2, c6]
   omega
 obtain ⟨M1, hM1⟩ : ∃ M1, roomM C rs.length = M1 := ⟨_, rfl⟩
 have hce : comE C rs = (appM M1.D M1.J rs).1 := by rw [comE, hM1]
 rw [hM1] at g1 g2 g3 hroom
 have hc := g1.c
 have hf := g1.f
 have hu := g1.u
 have hN := g1.n4
 have hrc : rcOk M1.J.num rs := by
  refine ⟨g1.m0, by omega, h5, ?_⟩
  unfold rightF
  simp only [Bool.and_eq_true, decide_eq_true_eq, List.all_eq_true]
  refine ⟨fun x hx => ?_, ?_, by rw [rcP_len]; omega, by rw [rcP_len]; omega⟩
  ·obtain ⟨r, hr, rfl⟩ := List.mem_map.1 hx
   have := hk r hr
   unfold inP
   simp only [Bool.and_eq_true, Bool.not_eq_true', decide_eq_false_iff_not, decide_eq_true_eq]
   omega
  ·exact (upL_keys up).imp (fun h => by omega)
 have hr2 : M1.J.room = if M1.J.bad = true ∨ M1.J.begun = false then 0 else max (min (M1.J.count - 3 - M1.J.used) 64) 0 := rfl
 have hfit : M1.J.first + 1 + M1.J.used + rs.length + 2 ≤ N := by
  split at hr2 <;> omega
 have hjm : jMay N M1.J rs = true := by
  unfold jMay
  rw [List.all_eq_true]
  intro r hr
  have := hk r hr
  unfold jMay1
  simp only [Bool.and_eq_true, Bool.not_eq_true', Bool.and_eq_false_iff, decide_eq_true_eq, decide_eq_false_iff_not]
  omega
 obtain ⟨E, e1, -⟩ := app_gen (D := M1.D) (J := M1.J) (N := N) (rs := rs) g1.on g1.bad hrc (by have := g1.m64; omega) hjm (by have : M1.J.most = min (M1.J.count - 3) 64 := rfl; omega) hroom (by omega) hfit
 rw [hce, e1]
theorem comM_dirty (G : CaG N C) (hm : C.J.num + 1200 < 9223372036854775808) (up : UpL rs) {x : Int} (hx : x < C.J.first ∨ C.J.first + C.J.count ≤ x) : rdM (comM C rs) x = if comE C rs = 0 then (match lkL rs x with | some l => l | none => rdM C x) else rdM C x := by
 obtain ⟨-, -, -, -, -, -, -, h8, h9⟩ := G.com (rs := rs) hm
 by_cases h : comE C rs = 0
 ·rw [if_pos h, (h8 h).2.2.2 x hx, rdU_up (rdM C) rs (rdM C) x up]
 ·rw [if_neg h, h9 h x hx]
theorem StG.com (h : StG N M) (hm : M.C.J.num + 1200 < 9223372036854775808) : StG N (comSM M) ∧ (comSM M).C.J.first = M.C.J.first ∧ (comSM M).C.J.count = M.C.J.count ∧ (comSM M).C.J.num ≤ M.C.J.num + 257 ∧ (∀ x, ((comSM M).C.D.uns x).length ≤ (M.C.D.uns x).length + 67) ∧
  (∀ x, x < M.C.J.first ∨ M.C.J.first + M.C.J.count ≤ x → rdS (comSM M) x = rdS M x) ∧ (comSE M = 0 → (comSM M).st = []) := by
 by_cases hn : M.st = []
 ·have e : comSM M = M := if_pos hn
  rw [e]
  exact ⟨h, rfl, rfl, by omega, fun x => by omega, fun x _ => rfl, fun _ => hn⟩
 ·obtain ⟨-, -, h3, h4, h5, h6, h7, -, -⟩ := h.c.com (rs := M.st) hm
  by_cases he : comE M.C M.st = 0
  ·have e : comSM M = ⟨comM M.C M.st, []⟩ := by rw [comSM, if_neg hn, if_pos he]
   rw [e]
   refine ⟨⟨h3, List.Pairwise.nil, fun p hp => by cases hp⟩, h4, h5, h6, h7, fun x hx => ?_, fun _ => rfl⟩
   show rdM (comM M.C M.st) x = _
   rw [comM_dirty h.c hm h.up hx, if_pos he]
   rfl
  ·have e : comSM M = ⟨comM M.C M.st, M.st⟩ := by rw [comSM, if_neg hn, if_neg he]
   rw [e]
   refine ⟨⟨h3, h.up, h.l5⟩, h4, h5, h6, h7, fun x hx => ?_, fun hz => ?_⟩
   ·show (match lkL M.st x with | some l => l | none => rdM (comM M.C M.st) x) = _
    rw [comM_dirty h.c hm h.up hx, if_neg he]
    rfl
   ·rw [comSE, if_neg hn] at hz
    exact absurd hz he
theorem StG.com_ok (h : StG N M) (hm : M.C.J.num + 1200 < 9223372036854775808) (h2 : (M.st.length : Int) ≤ min (M.C.J.count - 3) 64)
  (hk : ∀ r ∈ M.st, 0 ≤ r.1 ∧ r.1 < N ∧ (r.1 < M.C.J.first ∨ M.C.J.first + M.C.J.count ≤ r.1)) : comSE M = 0 := by
 by_cases hn : M.st = []
 ·exact if_pos hn
 ·rw [comSE, if_neg hn]
  have : 1 ≤ M.st.length := by
   cases hs : M.st with
   | nil => exact absurd hs hn
   | cons a r => simp
  exact h.c.com_ok hm h.up this h2 h.l5 hk
end
def plcK (tree : Nat) (lev : List Nat) (i k : Nat) : Nat := tree + sumL (lev.take k) + i / 16 ^ (k + 1)
def plcL (tree : Nat) (lev : List Nat) (i : Nat) : List Nat := (List.range lev.length).map (plcK tree lev i)
structure TrI (M : StM) (tree : Nat) (T : List (List UInt8)) : Prop where
 node : ∀ k, k < upN T.length → rdS M ((tree + k : Nat) : Int) = (lev1 (T.map leafH)).getD k []
 top : upN T.length ≠ 1 → rdS M ((tree + upN T.length : Nat) : Int) = topB (T.map leafH)
 tag : ∀ i (h : i < T.length), rdS M ((tree + sumL (levsN T.length) + i : Nat) : Int) = T[i]
def pathS (M : StM) (tree : Nat) (lev : List Nat) (i : Nat) : List (List UInt8) := (plcL tree lev i).map fun x : Nat => rdS M (x : Int)
def chgS (M : StM) (tree tags : Nat) (lev : List Nat) (i : Nat) (b : List UInt8) : StM :=
 ((plcL tree lev i).zip (chL (pathS M tree lev i) i (leafH b))).foldl (fun M p => wrSt M (p.1 : Int) p.2) (wrSt M ((tags + i : Nat) : Int) b)
theorem leafs_32 (T : List (List UInt8)) : ∀ x ∈ T.map leafH, x.length = 32 := fun x hx => by obtain ⟨y, -, rfl⟩ := List.mem_map.1 hx; exact shaSum_length _
theorem plcL_one {tree n i : Nat} (hi : i < n) (h1 : upN n = 1) : plcL tree (levsN n) i = [tree] := by
 have : i / 16 = 0 := by unfold upN at h1; omega
 rw [plcL, levsN, if_pos h1]
 simp [plcK, sumL, List.range_succ, this]
theorem plcL_two {tree n i : Nat} (hn : 1 ≤ n ∧ n ≤ 128) (hi : i < n) (h1 : upN n ≠ 1) : plcL tree (levsN n) i = [tree + i / 16, tree + upN n] := by
 have : i / 16 ^ 2 = 0 := by omega
 rw [plcL, levsN, if_neg h1]
 simp [plcK, sumL, List.range_succ, this]
theorem sumL_levs {n : Nat} : sumL (levsN n) = if upN n = 1 then 1 else upN n + 1 := by
 unfold levsN; split <;> simp [sumL]
section
variable {M : StM} {tree i : Nat} {T : List (List UInt8)}
theorem TrI.path (h : TrI M tree T) (hn : 1 ≤ T.length ∧ T.length ≤ 128) (hi : i < T.length) : pathS M tree (levsN T.length) i = pathT (T.map leafH) i := by
 have hu := upN_b hn
 unfold pathS
 by_cases h1 : upN T.length = 1
 ·rw [plcL_one hi h1, pathT, List.length_map, if_pos h1, topB, List.length_map, if_pos h1]
  have := h.node 0 (by omega)
  rw [Nat.add_zero] at this
  simp [this]
 ·rw [plcL_two hn hi h1, pathT, List.length_map, if_neg h1]
  have := h.node (i / 16) (up_lt (hs := T) hi)
  simp only [List.map_cons, List.map_nil, this, h.top h1]
theorem TrI.ok (h : TrI M tree T) (hn : 1 ≤ T.length ∧ T.length ≤ 128) (hi : i < T.length) : okP T.length i (leafH T[i]) (pathS M tree (levsN T.length) i) (bldR (T.map leafH)) = true := by
 rw [h.path hn hi]
 have := okP_pathT (hs := T.map leafH) (i := i) (by rw [List.length_map]; exact hn) (leafs_32 T) (by rw [List.length_map]; exact hi)
 simp only [List.length_map, List.getElem_map] at this
 exact this
theorem UpL.wr {x : Int} {b : List UInt8} (h : UpL M.st) : UpL (wrSt M x b).st := (insL_up (x := x) (b := b) M.st h).1
theorem TrI.ch (h : TrI M tree T) (up : UpL M.st) (hn : 1 ≤ T.length ∧ T.length ≤ 128) (hi : i < T.length) (b : List UInt8) :
  TrI (chgS M tree (tree + sumL (levsN T.length)) (levsN T.length) i b) tree (T.set i b) ∧ rootP T.length (chL (pathS M tree (levsN T.length) i) i (leafH b)) = bldR ((T.set i b).map leafH) := by
 have hu := upN_b hn
 have hn' : 1 ≤ (T.map leafH).length ∧ (T.map leafH).length ≤ 128 := by rw [List.length_map]; exact hn
 have hi' : i < (T.map leafH).length := by rw [List.length_map]; exact hi
 have hlb : (leafH b).length = 32 := shaSum_length _
 have e0 := h.path hn hi
 have ec := chL_pathT hn' (leafs_32 T) hi' hlb
 have er := rootP_chL hn' (leafs_32 T) hi' hlb
 have es : (T.map leafH).set i (leafH b) = (T.set i b).map leafH := by rw [List.map_set]
 have hset := set_lev1 (leafs_32 T) hi' hlb
 rw [es] at ec er hset
 rw [List.length_map] at er
 refine ⟨?_, by rw [e0, er]⟩
 have hk := up_lt (hs := T) hi
 have hs := sumL_levs (n := T.length)
 unfold chgS
 rw [e0, ec]
 by_cases h1 : upN T.length = 1
 ·rw [if_pos h1] at hs
  have h0 : i / 16 = 0 := by omega
  rw [plcL_one hi h1, pathT, List.length_map, List.length_set, if_pos h1]
  have hR : ∀ y, rdS (wrSt (wrSt M ((tree + sumL (levsN T.length) + i : Nat) : Int) b) (tree : Int) (topB ((T.set i b).map leafH))) y = if y = (tree : Int) then topB ((T.set i b).map leafH) else if y = ((tree + sumL (levsN T.length) + i : Nat) : Int) then b else rdS M y := fun y => by
   rw [rdS_wr up.wr, rdS_wr up]
  refine ⟨fun k hk => ?_, fun h2 => absurd (by rwa [List.length_set] at h2) (by simpa using h1), fun j hj => ?_⟩
  ·rw [List.length_set] at hk
   obtain rfl : k = 0 := by omega
   show rdS (wrSt (wrSt M _ b) (tree : Int) _) _ = _
   rw [hR, if_pos (by omega), topB, List.length_map, List.length_set, if_pos h1]
  ·rw [List.length_set] at hj ⊢
   show rdS (wrSt (wrSt M _ b) (tree : Int) _) _ = _
   rw [hR, if_neg (by omega), List.getElem_set]
   by_cases e : i = j
   ·subst e; rw [if_pos rfl, if_pos rfl]
   ·rw [if_neg (by omega), if_neg e, h.tag j hj]
 ·rw [if_neg h1] at hs
  rw [plcL_two hn hi h1, pathT, List.length_map, List.length_set, if_neg h1]
  have hR : ∀ y, rdS (wrSt (wrSt (wrSt M ((tree + sumL (levsN T.length) + i : Nat) : Int) b) ((tree + i / 16 : Nat) : Int) ((lev1 ((T.set i b).map leafH)).getD (i / 16) [])) ((tree + upN T.length : Nat) : Int) (topB ((T.set i b).map leafH))) y =
    if y = ((tree + upN T.length : Nat) : Int) then topB ((T.set i b).map leafH) else if y = ((tree + i / 16 : Nat) : Int) then (lev1 ((T.set i b).map leafH)).getD (i / 16) [] else if y = ((tree + sumL (levsN T.length) + i : Nat) : Int) then b else rdS M y := fun y => by
   rw [rdS_wr up.wr.wr, rdS_wr up.wr, rdS_wr up]
  refine ⟨fun k hk2 => ?_, fun h2 => ?_, fun j hj => ?_⟩
  ·rw [List.length_set] at hk2
   show rdS (wrSt (wrSt (wrSt M _ b) _ _) _ _) _ = _
   rw [hR, if_neg (by omega)]
   by_cases e : k = i / 16
   ·subst e; rw [if_pos rfl]
   ·rw [if_neg (by omega), if_neg (by omega), h.node k hk2, hset, List.getD_eq_getElem?_getD (l := (lev1 _).set _ _), List.getElem?_set, if_neg (Ne.symm e), List.getD_eq_getElem?_getD]
  ·rw [List.length_set] at h2 ⊢
   show rdS (wrSt (wrSt (wrSt M _ b) _ _) _ _) _ = _
   rw [hR, if_pos rfl]
  ·rw [List.length_set] at hj ⊢
   show rdS (wrSt (wrSt (wrSt M _ b) _ _) _ _) _ = _
   rw [hR, if_neg (by omega), if_neg (by omega), List.getElem_set]
   by_cases e : i = j
   ·subst e; rw [if_pos rfl, if_pos rfl]
   ·rw [if_neg (by omega), if_neg e, h.tag j hj]
end
end
section
open Go.RowKit
set_option maxRecDepth 100000
section
variable {w w1 w2 : World} {p g : Nat} {D D' : DkM} {J J' : JrM}
theorem OpenC.yes {x y : Int} {m : Nat} {e : Ending} (h : OpenC w p D x y e w1) (hr : jRight D x y = true) (ho : D.off = false) (hm : rmV (D.readR x) = some m) :
  ∃ g v ps, e = .returned (.tuple #[.pointer (some ⟨g, 0, none⟩), v, .int .i64 0]) ∧ w.heap.size ≤ g ∧ RRow w1 w.heap.size v ps (scanA D x y m).1 ∧ Jr w1 g p (openJ x y (scanA D x y m).2.2 (scanA D x y m).2.1) ∧ Fr [] w w1 := by
 obtain ⟨f, h | h | h | ⟨m', g, v, ps, -, -, k1, k2, k3, k4, k5⟩⟩ := h
 ·rw [hr] at h; cases h.1
 ·rw [ho] at h; cases h.2.1
 ·rw [hm] at h; cases h.2.2.1
 ·rw [hm] at k1
  cases k1
  exact ⟨g, v, ps, k2, k3, k4, k5, f⟩
end
end
section
open Go.RowKit
set_option maxRecDepth 100000
theorem putD_snoc (d : Int → Option (List UInt8)) (l : List (Int × List UInt8)) (r : Int × List UInt8) : putD d (l ++ [r]) = updD (putD d l) r := by
 rw [putD, List.foldl_append]
 rfl
section
variable {w w' : World} {P : CaP} {O : List Nat} {M : CaM}
theorem CaW.set (h : CaW w P O M) {f : Int → Option Value} (hf : DirV w f M.dirty) {x : Int} {v : Value} {l : List UInt8} (hx : 0 ≤ x ∧ x < 4096) (hb : BlkB w v l) {n : Nat} (hs : SrtW w' P.s P.b n (fput f x v)) (fr : Fr [P.b] w w') :
  CaW w' P O { M with dirty := updD M.dirty (x, l) } := by
 obtain ⟨u, h1, -⟩ := h.srt
 obtain ⟨e1, e2, e3, e4, e5, e6⟩ := h.ne
 have h8 := h1.noTyB 5
 have hd : DirV w' (fput f x v) (updD M.dirty (x, l)) := fun y => by
  by_cases e : y = x
  ·subst e
   exact .inr ⟨v, l, if_pos rfl, if_pos rfl, hb.keepT fr h8, hx⟩
  ·have a1 : fput f x v y = f y := if_neg e
   have a2 : updD M.dirty (x, l) y = M.dirty y := if_neg e
   rw [a1, a2]
   rcases hf y with h | ⟨v', l', b1, b2, b3, b4⟩
   ·exact .inl h
   ·exact .inr ⟨v', l', b1, b2, b3.keepT fr h8, b4⟩
 refine ⟨h.blk.keep fr (fun hm => e3 (List.mem_singleton.1 hm)), h.dsk.keep fr (fun i hi hm => h.nO.2.2.2 (by rw [← List.mem_singleton.1 hm]; exact hi)) h8, h.jr.keep fr (fun hm => e5 (List.mem_singleton.1 hm)), ⟨_, ⟨hs.blk, hs.map.tight (K := 4096) (fun y _ hy => ?_)⟩, hd⟩, h.nO⟩
 rcases hd y with h | ⟨_, _, -, -, -, b4⟩
 ·exact absurd h.1 hy
 ·exact b4
set_option maxHeartbeats 2000000 in
theorem caPut_any (h : CaW w P O M) {A : Option Addr} {n c : Nat} {rs : List (Int × List UInt8)} (hl : rs.length = n) (hn : n ≤ 4096) (hr : ∀ w', Fr [P.b] w w' → RdX w' A rs) (h5 : ∀ r ∈ rs, r.2.length = 512) (hk : ∀ r ∈ rs, 0 ≤ r.1 ∧ r.1 < 4096) :
  Calls Tryz.prog 71 #[.pointer (some ⟨P.c, 0, none⟩), .slice A n c] w fun e w' => e = .returned (.tuple #[]) ∧ CaW w' P O { M with dirty := putD M.dirty rs } ∧ Fr [P.b] w w' := by
 have HR := Lib.hid (And.intro hr (And.intro h5 hk))
 have HH := Lib.hid h
 clear h hr h5 hk
 go_enter Tryz.func71, Tryz.ntmps71
 go_wp2_with fail
 go_loopw [8] (fun i wr => ∃ k : Nat, k ≤ n ∧ i = .int .i64 k ∧ CaW wr P O { M with dirty := putD M.dirty (rs.take k) } ∧ Fr [P.b] w wr) (fun i _ => n - (intOf i).toNat)
 case atStart => exact ⟨0, by omega, rfl, by rw [List.take_zero]; exact HH.out, Fr.refl _ _⟩
 case round =>
  obtain ⟨k, hkn, rfl, hw, fr⟩ := hrel
  by_cases hlt : k < n
  ·have d0 : (k : Int) < n := by omega
   have hkr : k < rs.length := by omega
   obtain ⟨gr, o, v, rfl, c0, c1, sb⟩ := (HR.out.1 wr fr) k hkr
   obtain ⟨⟨x, l⟩, hx⟩ : ∃ r, rs[k] = r := ⟨_, rfl⟩
   have hmem := List.getElem_mem hkr
   rw [hx] at c0 sb hmem
   have hl5 : l.length = 512 := HR.out.2.1 _ hmem
   have hx4 : 0 ≤ x ∧ x < 4096 := HR.out.2.2 _ hmem
   obtain ⟨Av, cv, rfl, rd, hnil, hcap⟩ := sb
   dsimp only at c0 c1 rd hnil
   rw [hl5] at c1 hnil
   have HX := Lib.hid hx
   have fA : Fr [] wr (wr.alloc (.cells #[.int .i64 x, .slice Av 512 cv] 104)) := (Fr.refl _ _).alloc _
   have ka := Blk.new wr 104 #[.int .i64 x, .slice Av 512 cv]
   have hwA := hw.keep_nil fA
   have rdA := rd.keep_nil fA
   have HF := Lib.hid fr
   clear hw fr hmem rd hx
   go_upto_region 3 with fail
   obtain ⟨wA, hA⟩ : ∃ y, wr.alloc (.cells #[.int .i64 x, .slice Av 512 cv] 104) = y := ⟨_, rfl⟩
   obtain ⟨gA, hgA⟩ : ∃ y, wr.heap.size = y := ⟨_, rfl⟩
   have hbA : P.b < gA ∧ P.c < gA := by rw [← hgA]; have := HF.out.size; obtain ⟨a, -, -, b, -⟩ := HH.out.lts; omega
   rw [hA] at fA ka hwA rdA ⊢
   rw [hgA] at ka ⊢
   obtain ⟨wD, hwD⟩ : ∃ wD, wA.drew = wD := ⟨_, rfl⟩
   have fD : Fr [] wA wD := by rw [← hwD]; exact (Fr.refl [] _).drew
   have hwd := hwA.keep_nil fD
   have hS : ∀ w', Fr [P.b] wD w' → (w'.cell? ⟨P.c, 2, none⟩ = some (.pointer (some ⟨P.s, 0, none⟩)) ∧ w'.cell? ⟨gA, 0, none⟩ = some (.int .i64 x) ∧ w'.cell? ⟨gA, 1, none⟩ = some (.slice Av 512 cv)) := fun w' f =>
    ⟨f.cell (fun hm => by have := List.mem_singleton.1 hm; exact hwd.ne.2.2.1 this) hwd.c2, f.cell (fun hm => by have := List.mem_singleton.1 hm; simp at this; omega) ((ka.keep_nil fD).cell 0), f.cell (fun hm => by have := List.mem_singleton.1 hm; simp at this; omega) ((ka.keep_nil fD).cell 1)⟩
   have cc := clone_any Av l 512 cv wD hl5 (rdA.keep_nil fD) hnil (by omega)
   have MK := Lib.hid hS
   have HW := Lib.hid (And.intro hwd (And.intro fA fD))
   have hD := hS _ (Fr.refl _ _)
   have hL5 := Lib.hid hl5
   clear hwA rdA ka hS hwd fA fD hA hgA c0 c1
   as_aux_lemma =>
    refine wp_region_held_drew (S := fun w' => w'.cell? ⟨P.c, 2, none⟩ = some (.pointer (some ⟨P.s, 0, none⟩)) ∧ w'.cell? ⟨gA, 0, none⟩ = some (.int .i64 x) ∧ w'.cell? ⟨gA, 1, none⟩ = some (.slice Av 512 cv)) (by kernel_rfl) (by rw [hwD]; exact hD) (fun hHeld => ?_)
    rw [hwD] at hHeld ⊢
    clear hD hwD hl5
    refine tw 0 12 hHeld ?_
    refine tw 1 13 hHeld ?_
    refine tw 2 14 hHeld ?_
    refine tw 3 15 hHeld ?_
    refine tw 4 16 hHeld ?_
    refine tw 5 17 hHeld ?_
    refine tw 6 18 hHeld ?_
    refine tw 7 19 hHeld ?_
    refine tc 8 (fun K hK => ?_)
    go_simp
    refine cc.mono ?_
    rintro e w5 ⟨v5, rfl, r5, f5⟩
    have hHx := MK.out w5 f5.nil
    refine hK.out _ _ hHx (fun hHy => ?_)
    clear hK cc hHeld hHy
    try simp only [Act.put, p1, p2, p3]
    have hw5 := HW.out.1.keep_nil f5
    obtain ⟨f, hsr, hdv⟩ := hw5.srt
    have hb5 : BlkB w5 v5 l := ⟨hL5.out, r5.mono (Nat.zero_le _)⟩
    obtain ⟨A5, c5, rfl, -, -, -, -, -⟩ := r5.shape
    have cse := srtSet_any hsr (by unfold maxLen; omega) x (wfZ_of (by omega)) (.slice A5 512 c5) rfl
    have H5 := Lib.hid (And.intro hw5 (And.intro f5 (And.intro hdv hb5)))
    clear hw5 f5 hdv hb5 hsr r5
    refine tc 9 (fun K hK => ?_)
    go_simp
    refine cse.mono ?_
    rintro e w6 ⟨rfl, hs6, f6⟩
    have hHeld := MK.out w6 (H5.out.2.1.nil.trans f6 (fun i hi => .inl hi))
    refine hK.out _ _ hHeld (fun hHy => ?_)
    clear hK cse hHx hHy
    try simp only [Act.put, p1, p2, p3]
    refine wpAnyH_done (by kernel_rfl) ?_ _
    clear hHeld
    have hw6 := H5.out.1.set H5.out.2.2.1 hx4 H5.out.2.2.2 hs6 f6
    have hp : putD M.dirty (rs.take (k + 1)) = updD (putD M.dirty (rs.take k)) (x, l) := by
     rw [List.take_add_one, List.getElem?_eq_getElem hkr, HX.out]
     exact putD_snoc _ _ _
    have hw6' : CaW w6 P O { M with dirty := putD M.dirty (rs.take (k + 1)) } := by rw [hp]; exact hw6
    have fr6 : Fr [P.b] w w6 := (((HF.out.trans_nil HW.out.2.1).trans_nil HW.out.2.2).trans_nil H5.out.2.1).trans f6 (fun i hi => .inl hi)
    have HE := Lib.hid (And.intro hw6' fr6)
    clear hw6 hw6' fr6 hp hs6 f6
    go_wp2_with fail
    exact ⟨⟨k + 1, by omega, by go_num, HE.out⟩, by simp [intOf]; omega⟩
  ·obtain rfl : k = n := by omega
   have d0 : ¬ ((k : Int) < k) := by omega
   have HP := Lib.hid (And.intro hw fr)
   clear hw fr
   go_wp2_with fail
   go_returns
   refine ⟨rfl, ?_⟩
   have := HP.out
   rwa [List.take_of_length_le (by omega)] at this
end
end
section
open Go.RowKit
set_option maxRecDepth 100000
section
variable {w w' : World} {P : CaP} {O : List Nat} {M : CaM}
set_option maxHeartbeats 2000000 in
theorem caOpen_yes {p : Nat} {D : DkM} (h : Dsk w p O D) (x y : Int) {m : Nat} (hx : wfZ x) (hK : KG w) (hr : jRight D x y = true) (ho : D.off = false) (hm : rmV (D.readR x) = some m) (hn : (scanA D x y m).1.length ≤ 4096) (h5 : ∀ r ∈ (scanA D x y m).1, r.2.length = 512) (hk : ∀ r ∈ (scanA D x y m).1, 0 ≤ r.1 ∧ r.1 < 4096) :
  Calls Tryz.prog 35 #[.pointer (some ⟨p, 0, none⟩), .int .i64 x, .int .i64 y] w fun e w' => ∃ P : CaP, P.p = p ∧ e = .returned (.tuple #[.pointer (some ⟨P.c, 0, none⟩), .int .i64 0]) ∧ CaW w' P O ⟨D, openJ x y (scanA D x y m).2.2 (scanA D x y m).2.1, putD (fun _ => none) (scanA D x y m).1⟩ ∧ Fr [] w w' ∧
   w.heap.size ≤ P.c ∧ w.heap.size ≤ P.g ∧ w.heap.size ≤ P.s ∧ w.heap.size ≤ P.b := by
 have co := jnOpen_any h x y hx hK
 have HH := Lib.hid (And.intro h (And.intro h5 (And.intro hk hn)))
 have HR := Lib.hid (And.intro hr (And.intro ho hm))
 have hlt : ∀ i ∈ O, i < w.heap.size := by obtain ⟨X, hX⟩ := h; exact hX.lt
 have HLT := Lib.hid hlt
 obtain ⟨⟨rs, u, num⟩, hsc⟩ : ∃ r, scanA D x y m = r := ⟨_, rfl⟩
 have H5 := Lib.hid (show (∀ r ∈ rs, r.2.length = 512) ∧ (∀ r ∈ rs, 0 ≤ r.1 ∧ r.1 < 4096) ∧ rs.length ≤ 4096 by have := HH.out.2; rw [hsc] at this; exact this)
 have HSC := Lib.hid hsc
 rw [hsc]
 dsimp only
 clear h h5 hk hr ho hm hlt hK hsc hn
 go_enter Tryz.func35, Tryz.ntmps35
 go_wp2_with fail
 refine co.mono ?_
 intro e w2 hoc
 obtain ⟨g, v, ps, rfl, hg, hrr, hj, f2⟩ := hoc.yes HR.out.1 HR.out.2.1 HR.out.2.2
 rw [HSC.out] at hrr hj
 dsimp only at hrr hj
 have cn := srtNew_any w2
 have HA := Lib.hid (And.intro hrr (And.intro hj (And.intro f2 hg)))
 obtain ⟨A, cp, rfl, -⟩ := hrr.row.shape
 have hw2 := f2.size
 have HW2 := Lib.hid hw2
 clear co hoc hrr hj f2 hg hw2
 go_wp2_with fail
 refine cn.mono ?_
 rintro e w3 ⟨rfl, hs3, f3, z3⟩
 have kc := Blk.new w3 133 #[.pointer (some ⟨p, 0, none⟩), .pointer (some ⟨g, 0, none⟩), .pointer (some ⟨w2.heap.size + 1, 0, none⟩), .bool false]
 have f4 : Fr [] w3 (w3.alloc (.cells #[.pointer (some ⟨p, 0, none⟩), .pointer (some ⟨g, 0, none⟩), .pointer (some ⟨w2.heap.size + 1, 0, none⟩), .bool false] 133)) := (Fr.refl _ _).alloc _
 obtain ⟨w4, hw4⟩ : ∃ y, w3.alloc (.cells #[.pointer (some ⟨p, 0, none⟩), .pointer (some ⟨g, 0, none⟩), .pointer (some ⟨w2.heap.size + 1, 0, none⟩), .bool false] 133) = y := ⟨_, rfl⟩
 rw [hw4] at kc f4
 have fw := HA.out.2.2.1.trans_nil (f3.trans_nil f4)
 have hgl := HA.out.2.1.lt
 have hO2 : ∀ i ∈ O, i < w2.heap.size := fun i hi => Nat.lt_of_lt_of_le (HLT.out i hi) HW2.out
 have hcw : CaW w4 ⟨p, g, w2.heap.size + 1, w2.heap.size, w3.heap.size⟩ O ⟨D, openJ x y num u, fun _ => none⟩ := by
  refine ⟨kc, HH.out.1.keep_nil fw, (HA.out.2.1.keep_nil f3).keep_nil f4, ⟨_, ⟨(hs3.keep_nil f4).blk, (hs3.keep_nil f4).map.mono (Nat.zero_le _)⟩, fun x => .inl ⟨rfl, rfl⟩⟩, fun hm => ?_, fun hm => ?_, fun hm => ?_, fun hm => ?_⟩
  ·have := hO2 _ hm; dsimp only at this; omega
  ·have := HLT.out _ hm; have := HA.out.2.2.2; dsimp only at *; omega
  ·have := hO2 _ hm; dsimp only at this; omega
  ·have := hO2 _ hm; dsimp only at this; omega
 have hrd : ∀ w', Fr [w2.heap.size] w4 w' → RdX w' A rs := fun w' f => by
  have h4 := (HA.out.1.keep_nil f3).keep_nil f4
  refine (h4.keepF f (fun g' hg' hm => ?_) (fun q hq g' hg' hm => ?_)).rdx
  ·have := (HA.out.1.row.lt g' hg').2
   have := List.mem_singleton.1 hm
   omega
  ·have := (HA.out.1.lt q hq g' hg').2
   have := List.mem_singleton.1 hm
   omega
 have cp4 := caPut_any hcw (c := cp) rfl H5.out.2.2 hrd H5.out.1 H5.out.2.1
 rw [z3] at cp4
 have HFW := Lib.hid (And.intro fw z3)
 have HG := HA.out.2.2.2
 clear hcw hrd kc f4 fw hs3 f3 cn hO2
 go_wp2_with fail
 refine cp4.mono ?_
 rintro e w5 ⟨rfl, h5, f5⟩
 have HE := Lib.hid (And.intro h5 f5)
 clear cp4 h5 f5
 go_wp2_with fail
 go_ret2
 have hw2 := HW2.out
 have z3 := HFW.out.2
 exact ⟨⟨p, g, w2.heap.size + 1, w2.heap.size, w2.heap.size + 2⟩, rfl, rfl, HE.out.1, HFW.out.1.trans HE.out.2 (fun i hi => .inr (by rw [List.mem_singleton.1 hi]; exact hw2)), by dsimp only; omega, HG, by dsimp only; omega, hw2⟩
end
end
end Go.Proofs.YtbanogfljpkbkaaGreatDoor
