/-
  Texts of this claim, one behind the other: JnP, JnO, JnG.
-/
import Derived.Test.YtbanogfljpkbkaaGreatDoorF27
import Derived.Test.YtbanogfljpkbkaaGreatDoorF21
set_option linter.unusedSimpArgs false
set_option linter.unusedVariables false
set_option linter.unnecessarySimpa false
namespace Go.Proofs.YtbanogfljpkbkaaGreatDoor
section
open Go.RowKit
set_option maxRecDepth 100000
structure On (D : DkM) (n : Nat) : Prop where
 calls : D.calls = -1
 len : D.sure.length = n
section
variable {D : DkM} {n : Nat}
theorem On.off (h : On D n) : D.off = false := by rw [DkM.off, h.calls]; rfl
theorem On.is (h : On D n) {x : Int} : D.is x = true ↔ 0 ≤ x ∧ x < n := by rw [DkM.is_iff, h.len]
theorem On.new (n : Nat) : On (newD n) n := ⟨rfl, List.length_replicate⟩
theorem On.dec (h : On D n) : D.dec = D := by
 unfold DkM.dec
 rw [h.calls, if_neg (by decide), ← h.calls]
theorem On.write (h : On D n) {x : Int} {b : List UInt8} (h0 : 0 ≤ x) (h1 : x < n) (hb : b.length = 512) : D.writeE x b.length = 0 ∧ D.write x b = D.wr x b := by
 have hi := h.is.2 ⟨h0, h1⟩
 have hm : D.mayE x b.length = 0 := by rw [DkM.mayE, hi, hb]; rfl
 have hw : On (D.wr x b) n := ⟨h.calls, h.len⟩
 exact ⟨by rw [DkM.writeE, hm, h.off]; rfl, by rw [DkM.write, hm, h.off, if_neg (by decide), if_neg (by decide), hw.dec]⟩
theorem On.wr (h : On D n) (x : Int) (b : List UInt8) : On (D.wr x b) n := ⟨h.calls, h.len⟩
theorem On.wr_read (h : On D n) {x : Int} {b : List UInt8} (h0 : 0 ≤ x) (h1 : x < n) (y : Int) : (D.wr x b).readR y = if y = x then b else D.readR y := by
 have hw := h.wr x b
 have ei : (D.wr x b).is y = D.is y := rfl
 have eu : (D.wr x b).uns y = if y = x then D.uns x ++ [b] else D.uns y := rfl
 have es : (D.wr x b).sureR y = D.sureR y := rfl
 rw [DkM.readR, ei, hw.off, eu, es, DkM.readR, h.off]
 by_cases e : y = x
 ·subst e
  rw [if_pos rfl, if_pos rfl, h.is.2 ⟨h0, h1⟩, List.getLast?_concat]
  rfl
 ·rw [if_neg e, if_neg e]
theorem On.wr_sure (x : Int) (b : List UInt8) (y : Int) : (D.wr x b).sureR y = D.sureR y := rfl
theorem On.flush (h : On D n) : D.flushE = 0 ∧ D.flush = D.flush1 ∧ On D.flush1 n := by
 have hf : On D.flush1 n := ⟨h.calls, by show (D.flushL _).sure.length = n; rw [DkM.flushL_len, h.len]⟩
 exact ⟨by rw [DkM.flushE, h.off]; rfl, by rw [DkM.flush, h.off, if_neg (by decide), hf.dec], hf⟩
theorem On.flush_sure (h : On D n) (y : Int) : D.flush1.sureR y = D.readR y := by
 have hf := h.flush.2.2
 rw [DkM.sureR, DkM.readR, h.off]
 have ei : D.flush1.is y = D.is y := by rw [DkM.is, DkM.is, hf.len, h.len]
 rw [ei]
 cases hi : D.is y with
 | false => rfl
 | true =>
  obtain ⟨h0, h1⟩ := DkM.is_iff.1 hi
  obtain ⟨i, rfl⟩ : ∃ i : Nat, y = i := ⟨y.toNat, by omega⟩
  have hl : i < D.sure.length := by omega
  have e : (D.flush1.sure.getD i none) = D.fl (fun _ => false) i := by
   show ((List.range D.sure.length).map (D.fl (fun _ => false))).getD i none = _
   simp [List.getD_eq_getElem?_getD, hl]
  rw [if_pos rfl, Int.toNat_natCast, e, DkM.fl]
  simp only [Bool.false_eq_true, if_false, Bool.true_eq_false]
  cases hu : (D.uns i).getLast? with
  | some b => rfl
  | none =>
   rw [DkM.sureR, hi]
   rfl
theorem On.flush_read (h : On D n) (y : Int) : D.flush1.readR y = D.readR y := by
 have hf := h.flush.2.2
 rw [← h.flush_sure y, DkM.readR, hf.off]
 cases hi : D.flush1.is y with
 | false => rw [DkM.sureR, hi]; rfl
 | true => rfl
theorem On.new_read (n : Nat) {x : Int} (h0 : 0 ≤ x) (h1 : x < n) : (newD n).readR x = zB512 ∧ (newD n).sureR x = zB512 := by
 have hi : (newD n).is x = true := (On.new n).is.2 ⟨h0, h1⟩
 have hs : (newD n).sureR x = zB512 := by
  rw [DkM.sureR, hi, if_pos rfl]
  show ((List.replicate n (none : Option (List UInt8))).getD x.toNat none).getD zB512 = zB512
  rw [List.getD_eq_getElem?_getD, List.getElem?_replicate]
  split <;> rfl
 refine ⟨?_, hs⟩
 rw [DkM.readR, hi, (On.new n).off]
 exact hs
end
def wrS : Int → List (List UInt8) → List Stp
 | _, [] => []
 | x, b :: r => .wr x b :: wrS (x + 1) r
theorem wrS_len : ∀ (L : List (List UInt8)) (x : Int), (wrS x L).length = L.length
 | [], _ => rfl
 | b :: r, x => by rw [wrS, List.length_cons, List.length_cons, wrS_len r]
theorem wrS_snoc : ∀ (L : List (List UInt8)) (x : Int) (b : List UInt8), wrS x (L ++ [b]) = wrS x L ++ [.wr (x + L.length) b]
 | [], x, b => by simp [wrS]
 | c :: r, x, b => by
  rw [List.cons_append, wrS, wrS_snoc r, wrS, List.cons_append, List.length_cons]
  congr 4
  omega
def appS (x : Int) (L : List (List UInt8)) (d : List UInt8) : List Stp := wrS x L ++ [.fl, .wr (x + L.length) d]
theorem runS_app : ∀ (a b : List Stp) (D : DkM), (runS D a).1 = 0 → runS D (a ++ b) = runS (runS D a).2 b
 | [], b, D, _ => rfl
 | s :: r, b, D, h => by
  rw [List.cons_append, runS, runS]
  rw [runS] at h
  by_cases e : s.E D = 0
  ·rw [if_pos e] at h
   rw [if_pos e, if_pos e]
   exact runS_app r b _ h
  ·rw [if_neg e] at h
   exact absurd h e
theorem runS_uns : ∀ (ss : List Stp) (D : DkM) (x : Int), ((runS D ss).2.uns x).length ≤ (D.uns x).length + ss.length
 | [], D, x => Nat.le_refl _
 | s :: r, D, x => by
  rw [runS, List.length_cons]
  have := s.D_uns D x
  split
  ·have := runS_uns r (s.D D) x
   omega
  ·show ((s.D D).uns x).length ≤ _
   omega
theorem runS_wrS : ∀ (L : List (List UInt8)) (D : DkM) (n : Nat) (x : Int), On D n → 0 ≤ x → x + L.length ≤ n → (∀ b ∈ L, b.length = 512) →
  (runS D (wrS x L)).1 = 0 ∧ On (runS D (wrS x L)).2 n ∧ (∀ y, (runS D (wrS x L)).2.readR y = if x ≤ y ∧ y < x + L.length then L.getD (y - x).toNat [] else D.readR y) ∧ ∀ y, (runS D (wrS x L)).2.sureR y = D.sureR y
 | [], D, n, x, h, _, _, _ => ⟨rfl, h, fun y => by rw [if_neg (by rw [List.length_nil]; omega)]; rfl, fun y => rfl⟩
 | b :: r, D, n, x, h, h0, h1, hb => by
  rw [List.length_cons] at h1
  obtain ⟨e1, e2⟩ := h.write (b := b) h0 (by omega) (hb b List.mem_cons_self)
  have hr : runS D (wrS x (b :: r)) = runS (D.wr x b) (wrS (x + 1) r) := by
   rw [wrS, runS, Stp.E, Stp.D, e1, e2, if_pos rfl]
  obtain ⟨k1, k2, k3, k4⟩ := runS_wrS r (D.wr x b) n (x + 1) (h.wr x b) (by omega) (by omega) (fun c hc => hb c (List.mem_cons_of_mem _ hc))
  rw [hr]
  refine ⟨k1, k2, fun y => ?_, fun y => by rw [k4, On.wr_sure]⟩
  rw [k3 y, h.wr_read h0 (by omega)]
  by_cases hy : x + 1 ≤ y ∧ y < x + 1 + r.length
  ·rw [if_pos hy, if_pos (by rw [List.length_cons]; omega)]
   rw [show (y - x).toNat = (y - (x + 1)).toNat + 1 by omega, List.getD_cons_succ]
  ·rw [if_neg hy]
   by_cases he : y = x
   ·subst he
    rw [if_pos rfl, if_pos (by rw [List.length_cons]; omega), Int.sub_self]
    rfl
   ·rw [if_neg he, if_neg (by rw [List.length_cons]; omega)]
theorem runS_appS (L : List (List UInt8)) (d : List UInt8) (D : DkM) (n : Nat) (x : Int) (h : On D n) (h0 : 0 ≤ x) (h1 : x + L.length + 1 ≤ n) (hb : ∀ b ∈ L, b.length = 512) (hd : d.length = 512) :
  (runS D (appS x L d)).1 = 0 ∧ On (runS D (appS x L d)).2 n ∧ (∀ y, (runS D (appS x L d)).2.readR y = if x ≤ y ∧ y < x + (L ++ [d]).length then (L ++ [d]).getD (y - x).toNat [] else D.readR y) ∧
   ∀ y, (runS D (appS x L d)).2.sureR y = if x ≤ y ∧ y < x + L.length then L.getD (y - x).toNat [] else D.readR y := by
 obtain ⟨k1, k2, k3, k4⟩ := runS_wrS L D n x h h0 (by omega) hb
 obtain ⟨E, hE⟩ : ∃ E, (runS D (wrS x L)).2 = E := ⟨_, rfl⟩
 rw [hE] at k2 k3 k4
 obtain ⟨f1, f2, f3⟩ := k2.flush
 obtain ⟨w1, w2⟩ := f3.write (x := x + L.length) (b := d) (by omega) (by omega) hd
 have hr : runS D (appS x L d) = (0, E.flush1.wr (x + L.length) d) := by
  rw [appS, runS_app _ _ _ k1, hE, runS, Stp.E, f1, if_pos rfl, Stp.D, f2, runS, Stp.E, w1, if_pos rfl, Stp.D, w2]
  rfl
 rw [hr]
 refine ⟨rfl, f3.wr _ _, fun y => ?_, fun y => ?_⟩
 ·show (E.flush1.wr (x + L.length) d).readR y = _
  rw [f3.wr_read (by omega) (by omega), k2.flush_read, k3, List.length_append, List.length_singleton]
  by_cases e : y = x + L.length
  ·subst e
   rw [if_pos rfl, if_pos (by omega), show (x + (L.length : Int) - x).toNat = L.length by omega, getD_mid _ _ _ _ rfl]
  ·rw [if_neg e]
   by_cases hy : x ≤ y ∧ y < x + L.length
   ·rw [if_pos hy, if_pos (by omega), getD_app _ _ _ (by omega)]
   ·rw [if_neg hy, if_neg (by omega)]
 ·show (E.flush1.wr (x + L.length) d).sureR y = _
  rw [On.wr_sure, k2.flush_sure, k3]
theorem mkE_ok {D : DkM} {n : Nat} (h : On D n) {x : Int} (h0 : 0 ≤ x) (h1 : x < n) {m : Nat} (hm : m ≠ 0) : (mkE D x m).1 = 0 ∧ On (mkE D x m).2 n ∧ (∀ y, (mkE D x m).2.readR y = if y = x then markB m else D.readR y) ∧ ∀ y, (mkE D x m).2.sureR y = if y = x then markB m else D.readR y := by
 obtain ⟨e1, e2⟩ := h.write (b := markB m) h0 h1 (markB_len m)
 obtain ⟨f1, f2, f3⟩ := (h.wr x (markB m)).flush
 have hr : mkE D x m = (0, (D.wr x (markB m)).flush1) := by
  rw [mkE, if_neg hm, runS, Stp.E, e1, if_pos rfl, Stp.D, e2, runS, Stp.E, f1, if_pos rfl, Stp.D, f2]
  rfl
 rw [hr]
 exact ⟨rfl, f3, fun y => by show ((D.wr x (markB m)).flush1).readR y = _; rw [(h.wr x (markB m)).flush_read, h.wr_read h0 h1], fun y => by show ((D.wr x (markB m)).flush1).sureR y = _; rw [(h.wr x (markB m)).flush_sure, h.wr_read h0 h1]⟩
theorem mkE_uns (D : DkM) (x : Int) (m : Nat) (y : Int) : ((mkE D x m).2.uns y).length ≤ (D.uns y).length + 2 := by
 rw [mkE]
 split
 ·show (D.uns y).length ≤ _; omega
 ·exact runS_uns _ D y
def safeB (N : Nat) (b : List UInt8) : Prop := ∀ m L t, plV b = some (m, L, t) → m < N
theorem safeB.mono {N M : Nat} {b : List UInt8} (h : safeB N b) (hM : N ≤ M) : safeB M b := fun m L t e => Nat.lt_of_lt_of_le (h m L t e) hM
theorem plV_take {b : List UInt8} (h : b.take 4 ≠ planM) : plV b = none := plV_none fun k => h k.2.2.2.2.1
theorem safeB_take {N : Nat} {b : List UInt8} (h : b.take 4 ≠ planM) : safeB N b := fun m L t e => by rw [plV_take h] at e; cases e
theorem zB_take : zB512.take 4 ≠ planM := by decide
theorem trV_safe {N : Nat} {bs : List (List UInt8)} (h : ∀ b ∈ bs, safeB N b) : trV N bs = none := by
 cases bs with
 | nil => exact trV_nil N
 | cons b r =>
  cases hp : plV ((b :: r).headD []) with
  | none => exact trV_none hp
  | some q =>
   obtain ⟨m, L, t⟩ := q
   have := h b List.mem_cons_self m L t hp
   exact trV_no hp fun k => by have := k.1; omega
theorem trV_zero {N : Nat} {bs : List (List UInt8)} (h : ∀ b ∈ bs, b = zB512) : trV N bs = none := trV_safe fun b hb => by rw [h b hb]; exact safeB_take zB_take
end
section
open Go.RowKit
set_option maxRecDepth 100000
def appM (D : DkM) (J : JrM) (rs : List (Int × List UInt8)) : Int × DkM × JrM :=
 if J.bad = true then (102, D, J) else if ¬ rcOk J.num rs then (1, D, J) else if jMay D.sure.length J rs = false then (1, D, J) else if J.most < rs.length then (3, D, J) else if J.room < rs.length then (2, D, J) else
  ((runS D (appS (J.first + 1 + J.used) (blkL J.num rs) (doneB J.num (blkL J.num rs).flatten))).1, (runS D (appS (J.first + 1 + J.used) (blkL J.num rs) (doneB J.num (blkL J.num rs).flatten))).2,
   if (runS D (appS (J.first + 1 + J.used) (blkL J.num rs) (doneB J.num (blkL J.num rs).flatten))).1 = 0 then { J with used := J.used + ((rs.length + 2 : Nat) : Int), num := (J.num + 1) % 18446744073709551616 } else { J with bad := true })
def JrM.next (J : JrM) : Nat := if J.begun = true then J.num else if J.num = 0 then 0 else if (J.num + J.count.toNat) % 18446744073709551616 < J.num then 0 else (J.num + J.count.toNat) % 18446744073709551616
def resM (D : DkM) (J : JrM) : Int × DkM × JrM :=
 if J.bad = true then (102, D, J) else ((mkE D J.first J.next).1, (mkE D J.first J.next).2, if (mkE D J.first J.next).1 = 0 then { J with num := J.next, used := 0, begun := true } else { J with bad := true })
end
section
open Go.RowKit
set_option maxRecDepth 100000
def JopC (w : World) (p g : Nat) (O : List Nat) (r : Int × DkM × JrM) (e : Ending) (w' : World) : Prop :=
 e = .returned (.int .i64 r.1) ∧ ∃ O', Dsk w' p O' r.2.1 ∧ (∀ i ∈ O', i ∈ O ∨ w.heap.size ≤ i) ∧ Jr w' g p r.2.2 ∧ Fr (g :: O) w w'
section
variable {w w' w5 w7 : World} {g p : Nat} {O : List Nat} {J J' : JrM} {D D' : DkM}
theorem Fr.consD (f : Fr O w w') : Fr (g :: O) w w' := (Fr.refl (g :: O) w).trans f (fun i hi => .inl (List.mem_cons_of_mem _ hi))
theorem JopC.same {r : Int × DkM × JrM} {z : Int} (h : Dsk w' p O D) (hj : Jr w' g p J) (f : Fr [] w w') (hr : r = (z, D, J)) : JopC w p g O r (.returned (.int .i64 z)) w' := by
 subst hr
 exact ⟨rfl, O, h, fun i hi => .inl hi, hj, f.nil⟩
theorem JopC.of {r : Int × DkM × JrM} {z : Int} (ha : AftD w p O D' w5) (hg : g ∉ O) (hgl : g < w.heap.size) (f : Fr [g] w5 w7) (h8 : NoTy w5 [g] 5) (hj : Jr w7 g p J') (hr : r = (z, D', J')) : JopC w p g O r (.returned (.int .i64 z)) w7 := by
 subst hr
 obtain ⟨O', k1, k2, k3⟩ := ha
 refine ⟨rfl, O', k1.keep f (fun i hi hm => ?_) h8, k2, hj, k3.consD.trans f (fun i hi => .inl (by rw [List.mem_singleton.1 hi]; exact List.mem_cons_self))⟩
 rw [List.mem_singleton.1 hm] at hi
 rcases k2 g hi with h | h
 ·exact hg h
 ·omega
theorem JopC.pre {r : Int × DkM × JrM} {e : Ending} {w0 : World} (f : Fr [] w0 w) (h : JopC w p g O r e w') : JopC w0 p g O r e w' := by
 obtain ⟨h0, O', h1, h2, h3, h4⟩ := h
 refine ⟨h0, O', h1, fun i hi => ?_, h3, f.nil.trans h4 (fun i hi => .inl hi)⟩
 rcases h2 i hi with h | h
 ·exact .inl h
 ·exact .inr (Nat.le_trans f.size h)
set_option maxHeartbeats 2000000 in
theorem jnReset_any (h : Dsk w p O D) (hj : Jr w g p J) (hg : g ∉ O) (ok : J.ok) (hK : KG w) (hu : ∀ x, (D.uns x).length + 2 ≤ 4398046511104) :
  Calls Tryz.prog 145 #[.pointer (some ⟨g, 0, none⟩)] w (JopC w p g O (resM D J)) := by
 have HH := Lib.hid (And.intro h (And.intro hj hu))
 have HG := Lib.hid hg
 have HK := Lib.hid hK
 have cs := jnState_any hj
 rw [JrM.stE] at cs
 obtain ⟨bad, hb⟩ : ∃ b, J.bad = b := ⟨_, rfl⟩
 obtain ⟨beg, hbg⟩ : ∃ b, J.begun = b := ⟨_, rfl⟩
 have HB := Lib.hid hb
 rw [hb] at cs
 have c2 : w.cell? ⟨g, 2, none⟩ = some (.int .i64 J.count) := Blk.cell hj 2
 have c3 : w.cell? ⟨g, 3, none⟩ = some (.int .u64 (J.num : Int)) := Blk.cell hj 3
 have c5 : w.cell? ⟨g, 5, none⟩ = some (.bool beg) := by rw [← hbg]; exact Blk.cell hj 5
 have hn := ok.n
 have hc := ok.c
 obtain ⟨N, hN⟩ : ∃ N : Nat, J.count = N := ⟨J.count.toNat, by omega⟩
 rw [hN] at c2 hc
 obtain ⟨m, hm⟩ : ∃ m, J.num = m := ⟨_, rfl⟩
 have HNX := Lib.hid (show J.next = if beg = true then m else if m = 0 then 0 else if (m + N) % 18446744073709551616 < m then 0 else (m + N) % 18446744073709551616 by rw [JrM.next, hbg, hN, Int.toNat_natCast, hm])
 obtain ⟨wD, hwD⟩ : ∃ wD, w.drew = wD := ⟨_, rfl⟩
 have fD : Fr [] w wD := by rw [← hwD]; exact (Fr.refl [] _).drew
 rw [hm] at c3 hn
 clear h hj hg hK hu ok hb hbg hm hN
 cases bad
 ·have e1 : IntKind.u64.wrap (N : Int) = N := by rw [show IntKind.u64.wrap (N : Int) = (N : Int) % 18446744073709551616 from rfl]; omega
  have e2 : IntKind.u64.wrap ((m : Int) + (N : Int)) = (((m + N) % 18446744073709551616 : Nat) : Int) := by rw [show IntKind.u64.wrap ((m : Int) + (N : Int)) = ((m : Int) + (N : Int)) % 18446744073709551616 from rfl]; omega
  cases beg
  ·by_cases hm0 : 0 < m
   ·have d0 : (0 : Int) < m := by omega
    obtain ⟨q, hq⟩ : ∃ q, (m + N) % 18446744073709551616 = q := ⟨_, rfl⟩
    rw [hq] at e2 HNX
    have hq64 : q < 18446744073709551616 := by omega
    rw [if_neg (by simp), if_neg (by omega)] at HNX
    clear hq
    by_cases hlt : q < m
    ·have d1 : (q : Int) < m := by omega
     have HN := Lib.hid (show J.next = 0 by rw [HNX.out, if_pos hlt])
     have NB := Lib.hid (show 0 < 18446744073709551616 by decide)
     clear HNX
     go_enter Tryz.func145, Tryz.ntmps145
     go_upto_region 9 with (go_at_call 141; refine cs.mono ?_; rintro e w' ⟨rfl, rfl⟩)
     have hD := HH.out
     have hD0 := hD.1.keep_nil fD
     have hJ0 := hD.2.1.keep_nil fD
     have cm := jnMark_any hD0 J.first (0) NB.out ((HK.out).keep fD) hD.2.2
     rw [show ((0 : Nat) : Int) = 0 from rfl] at cm
     obtain ⟨⟨z, D'⟩, hz⟩ : ∃ r, mkE D J.first (0) = r := ⟨_, rfl⟩
     have HZ := Lib.hid hz
     rw [hz] at cm
     clear hz hD hD0
     have hS : wD.cell? ⟨g, 0, none⟩ = some (.pointer (some ⟨p, 0, none⟩)) ∧ wD.cell? ⟨g, 1, none⟩ = some (.int .i64 J.first) := ⟨Blk.cell hJ0 0, Blk.cell hJ0 1⟩
     refine wp_region_held_drew (S := fun w' => w'.cell? ⟨g, 0, none⟩ = some (.pointer (some ⟨p, 0, none⟩)) ∧ w'.cell? ⟨g, 1, none⟩ = some (.int .i64 J.first)) (by kernel_rfl) (by rw [hwD]; exact hS) (fun hHeld => ?_)
     rw [hwD] at hHeld ⊢
     clear hS hwD
     refine tw 0 37 hHeld ?_
     refine tw 1 38 hHeld ?_
     refine tw 2 39 hHeld ?_
     refine tw 3 40 hHeld ?_
     refine tw 4 41 hHeld ?_
     refine tw 5 42 hHeld ?_
     refine tw 6 43 hHeld ?_
     refine tw 7 44 hHeld ?_
     refine tw 8 45 hHeld ?_
     refine tw 9 46 hHeld ?_
     refine tc 10 (fun K hK => ?_)
     go_simp
     refine cm.mono ?_
     rintro e w5 ⟨rfl, ha⟩
     have hJ5 : Jr w5 g p J := by obtain ⟨O', -, -, f⟩ := ha; exact hJ0.keep f HG.out
     have hHx : w5.cell? ⟨g, 0, none⟩ = some (.pointer (some ⟨p, 0, none⟩)) ∧ w5.cell? ⟨g, 1, none⟩ = some (.int .i64 J.first) := ⟨Blk.cell hJ5 0, Blk.cell hJ5 1⟩
     have cd := jnDid_any hJ5 z
     refine hK.out _ _ hHx (fun hHy => ?_)
     clear hK cm hHeld hHy
     try simp only [Act.put, p1, p2, p3]
     have HA := Lib.hid (And.intro ha (And.intro (hJ5.noTy (e := 5) (by decide)) (hJ0.lt)))
     clear ha hJ5 hJ0
     refine tc 11 (fun K hK => ?_)
     go_simp
     refine cd.mono ?_
     rintro e w6 ⟨rfl, hj6, f6⟩
     rw [HB.out] at hj6
     have hHeld : w6.cell? ⟨g, 0, none⟩ = some (.pointer (some ⟨p, 0, none⟩)) ∧ w6.cell? ⟨g, 1, none⟩ = some (.int .i64 J.first) := ⟨Blk.cell hj6 0, Blk.cell hj6 1⟩
     refine hK.out _ _ hHeld (fun hHy => ?_)
     clear hK cd hHx hHy
     try simp only [Act.put, p1, p2, p3]
     refine tw 12 5 hHeld ?_
     refine wpAnyH_done (by kernel_rfl) ?_ _
     clear hHeld
     have FD := Lib.hid (And.intro fD f6)
     clear fD f6
     by_cases hz0 : z = 0
     ·subst hz0
      replace hj6 : Jr w6 g p { J with bad := false } := hj6
      have HJ6 := Lib.hid hj6
      have j3 : w6.cell? ⟨g, 3, none⟩ = some (.int .u64 (J.num : Int)) := Blk.cell hj6 3
      have z3 := Blk.frozen hj6 3
      have j4 : w6.cell? ⟨g, 4, none⟩ = some (.int .i64 J.used) := Blk.cell hj6 4
      have z4 := Blk.frozen hj6 4
      have j5 : w6.cell? ⟨g, 5, none⟩ = some (.bool J.begun) := Blk.cell hj6 5
      have z5 := Blk.frozen hj6 5
      clear hj6
      go_wp2_with fail
      go_ret
      have k3 := Blk.set_ (Blk.set_ (Blk.set_ HJ6.out 3 (.int .u64 (0))) 4 (.int .i64 0)) 5 (.bool true)
      have fs : Fr [g] w6 (((w6.setCell ⟨g, 3, none⟩ (.int .u64 (0))).setCell ⟨g, 4, none⟩ (.int .i64 0)).setCell ⟨g, 5, none⟩ (.bool true)) := (((Fr.refl _ _).setCell (.inl (by simp)) _).setCell (.inl (by simp)) _).setCell (.inl (by simp)) _
      refine (JopC.of HA.out.1 HG.out HA.out.2.2 (FD.out.2.trans fs (fun i hi => .inl hi)) HA.out.2.1 (J' := { J with num := 0, used := 0, begun := true }) ?_ ?_).pre FD.out.1
      ·unfold Jr
       rw [show ({ J with num := 0, used := 0, begun := true } : JrM).bad = false from HB.out]
       exact k3
      ·rw [resM, HB.out, if_neg (by simp), HN.out, HZ.out, if_pos rfl]
     ·have dz : (z == 0) = false := by simpa using hz0
      rw [show (false || decide (z ≠ 0)) = true from by simpa using hz0] at hj6
      have HJ6 := Lib.hid hj6
      clear hj6
      go_wp2_with fail
      go_ret
      refine (JopC.of HA.out.1 HG.out HA.out.2.2 FD.out.2 HA.out.2.1 HJ6.out ?_).pre FD.out.1
      rw [resM, HB.out, if_neg (by simp), HN.out, HZ.out, if_neg hz0]
    ·have d1 : ¬ (q : Int) < m := by omega
     have HN := Lib.hid (show J.next = q by rw [HNX.out, if_neg hlt])
     have NB := Lib.hid hq64
     clear HNX
     go_enter Tryz.func145, Tryz.ntmps145
     go_upto_region 9 with (go_at_call 141; refine cs.mono ?_; rintro e w' ⟨rfl, rfl⟩)
     have hD := HH.out
     have hD0 := hD.1.keep_nil fD
     have hJ0 := hD.2.1.keep_nil fD
     have cm := jnMark_any hD0 J.first (q) NB.out ((HK.out).keep fD) hD.2.2
     skip
     obtain ⟨⟨z, D'⟩, hz⟩ : ∃ r, mkE D J.first (q) = r := ⟨_, rfl⟩
     have HZ := Lib.hid hz
     rw [hz] at cm
     clear hz hD hD0
     have hS : wD.cell? ⟨g, 0, none⟩ = some (.pointer (some ⟨p, 0, none⟩)) ∧ wD.cell? ⟨g, 1, none⟩ = some (.int .i64 J.first) := ⟨Blk.cell hJ0 0, Blk.cell hJ0 1⟩
     refine wp_region_held_drew (S := fun w' => w'.cell? ⟨g, 0, none⟩ = some (.pointer (some ⟨p, 0, none⟩)) ∧ w'.cell? ⟨g, 1, none⟩ = some (.int .i64 J.first)) (by kernel_rfl) (by rw [hwD]; exact hS) (fun hHeld => ?_)
     rw [hwD] at hHeld ⊢
     clear hS hwD
     refine tw 0 37 hHeld ?_
     refine tw 1 38 hHeld ?_
     refine tw 2 39 hHeld ?_
     refine tw 3 40 hHeld ?_
     refine tw 4 41 hHeld ?_
     refine tw 5 42 hHeld ?_
     refine tw 6 43 hHeld ?_
     refine tw 7 44 hHeld ?_
     refine tw 8 45 hHeld ?_
     refine tw 9 46 hHeld ?_
     refine tc 10 (fun K hK => ?_)
     go_simp
     refine cm.mono ?_
     rintro e w5 ⟨rfl, ha⟩
     have hJ5 : Jr w5 g p J := by obtain ⟨O', -, -, f⟩ := ha; exact hJ0.keep f HG.out
     have hHx : w5.cell? ⟨g, 0, none⟩ = some (.pointer (some ⟨p, 0, none⟩)) ∧ w5.cell? ⟨g, 1, none⟩ = some (.int .i64 J.first) := ⟨Blk.cell hJ5 0, Blk.cell hJ5 1⟩
     have cd := jnDid_any hJ5 z
     refine hK.out _ _ hHx (fun hHy => ?_)
     clear hK cm hHeld hHy
     try simp only [Act.put, p1, p2, p3]
     have HA := Lib.hid (And.intro ha (And.intro (hJ5.noTy (e := 5) (by decide)) (hJ0.lt)))
     clear ha hJ5 hJ0
     refine tc 11 (fun K hK => ?_)
     go_simp
     refine cd.mono ?_
     rintro e w6 ⟨rfl, hj6, f6⟩
     rw [HB.out] at hj6
     have hHeld : w6.cell? ⟨g, 0, none⟩ = some (.pointer (some ⟨p, 0, none⟩)) ∧ w6.cell? ⟨g, 1, none⟩ = some (.int .i64 J.first) := ⟨Blk.cell hj6 0, Blk.cell hj6 1⟩
     refine hK.out _ _ hHeld (fun hHy => ?_)
     clear hK cd hHx hHy
     try simp only [Act.put, p1, p2, p3]
     refine tw 12 5 hHeld ?_
     refine wpAnyH_done (by kernel_rfl) ?_ _
     clear hHeld
     have FD := Lib.hid (And.intro fD f6)
     clear fD f6
     by_cases hz0 : z = 0
     ·subst hz0
      replace hj6 : Jr w6 g p { J with bad := false } := hj6
      have HJ6 := Lib.hid hj6
      have j3 : w6.cell? ⟨g, 3, none⟩ = some (.int .u64 (J.num : Int)) := Blk.cell hj6 3
      have z3 := Blk.frozen hj6 3
      have j4 : w6.cell? ⟨g, 4, none⟩ = some (.int .i64 J.used) := Blk.cell hj6 4
      have z4 := Blk.frozen hj6 4
      have j5 : w6.cell? ⟨g, 5, none⟩ = some (.bool J.begun) := Blk.cell hj6 5
      have z5 := Blk.frozen hj6 5
      clear hj6
      go_wp2_with fail
      go_ret
      have k3 := Blk.set_ (Blk.set_ (Blk.set_ HJ6.out 3 (.int .u64 (q : Int))) 4 (.int .i64 0)) 5 (.bool true)
      have fs : Fr [g] w6 (((w6.setCell ⟨g, 3, none⟩ (.int .u64 (q : Int))).setCell ⟨g, 4, none⟩ (.int .i64 0)).setCell ⟨g, 5, none⟩ (.bool true)) := (((Fr.refl _ _).setCell (.inl (by simp)) _).setCell (.inl (by simp)) _).setCell (.inl (by simp)) _
      refine (JopC.of HA.out.1 HG.out HA.out.2.2 (FD.out.2.trans fs (fun i hi => .inl hi)) HA.out.2.1 (J' := { J with num := q, used := 0, begun := true }) ?_ ?_).pre FD.out.1
      ·unfold Jr
       rw [show ({ J with num := q, used := 0, begun := true } : JrM).bad = false from HB.out]
       exact k3
      ·rw [resM, HB.out, if_neg (by simp), HN.out, HZ.out, if_pos rfl]
     ·have dz : (z == 0) = false := by simpa using hz0
      rw [show (false || decide (z ≠ 0)) = true from by simpa using hz0] at hj6
      have HJ6 := Lib.hid hj6
      clear hj6
      go_wp2_with fail
      go_ret
      refine (JopC.of HA.out.1 HG.out HA.out.2.2 FD.out.2 HA.out.2.1 HJ6.out ?_).pre FD.out.1
      rw [resM, HB.out, if_neg (by simp), HN.out, HZ.out, if_neg hz0]
   ·have d0 : ¬ (0 : Int) < m := by omega
    have HN := Lib.hid (show J.next = m by rw [HNX.out, if_neg (by simp)]; split <;> omega)
    have NB := Lib.hid hn
    clear HNX
    go_enter Tryz.func145, Tryz.ntmps145
    go_upto_region 9 with (go_at_call 141; refine cs.mono ?_; rintro e w' ⟨rfl, rfl⟩)
    have hD := HH.out
    have hD0 := hD.1.keep_nil fD
    have hJ0 := hD.2.1.keep_nil fD
    have cm := jnMark_any hD0 J.first (m) NB.out ((HK.out).keep fD) hD.2.2
    skip
    obtain ⟨⟨z, D'⟩, hz⟩ : ∃ r, mkE D J.first (m) = r := ⟨_, rfl⟩
    have HZ := Lib.hid hz
    rw [hz] at cm
    clear hz hD hD0
    have hS : wD.cell? ⟨g, 0, none⟩ = some (.pointer (some ⟨p, 0, none⟩)) ∧ wD.cell? ⟨g, 1, none⟩ = some (.int .i64 J.first) := ⟨Blk.cell hJ0 0, Blk.cell hJ0 1⟩
    refine wp_region_held_drew (S := fun w' => w'.cell? ⟨g, 0, none⟩ = some (.pointer (some ⟨p, 0, none⟩)) ∧ w'.cell? ⟨g, 1, none⟩ = some (.int .i64 J.first)) (by kernel_rfl) (by rw [hwD]; exact hS) (fun hHeld => ?_)
    rw [hwD] at hHeld ⊢
    clear hS hwD
    refine tw 0 37 hHeld ?_
    refine tw 1 38 hHeld ?_
    refine tw 2 39 hHeld ?_
    refine tw 3 40 hHeld ?_
    refine tw 4 41 hHeld ?_
    refine tw 5 42 hHeld ?_
    refine tw 6 43 hHeld ?_
    refine tw 7 44 hHeld ?_
    refine tw 8 45 hHeld ?_
    refine tw 9 46 hHeld ?_
    refine tc 10 (fun K hK => ?_)
    go_simp
    refine cm.mono ?_
    rintro e w5 ⟨rfl, ha⟩
    have hJ5 : Jr w5 g p J := by obtain ⟨O', -, -, f⟩ := ha; exact hJ0.keep f HG.out
    have hHx : w5.cell? ⟨g, 0, none⟩ = some (.pointer (some ⟨p, 0, none⟩)) ∧ w5.cell? ⟨g, 1, none⟩ = some (.int .i64 J.first) := ⟨Blk.cell hJ5 0, Blk.cell hJ5 1⟩
    have cd := jnDid_any hJ5 z
    refine hK.out _ _ hHx (fun hHy => ?_)
    clear hK cm hHeld hHy
    try simp only [Act.put, p1, p2, p3]
    have HA := Lib.hid (And.intro ha (And.intro (hJ5.noTy (e := 5) (by decide)) (hJ0.lt)))
    clear ha hJ5 hJ0
    refine tc 11 (fun K hK => ?_)
    go_simp
    refine cd.mono ?_
    rintro e w6 ⟨rfl, hj6, f6⟩
    rw [HB.out] at hj6
    have hHeld : w6.cell? ⟨g, 0, none⟩ = some (.pointer (some ⟨p, 0, none⟩)) ∧ w6.cell? ⟨g, 1, none⟩ = some (.int .i64 J.first) := ⟨Blk.cell hj6 0, Blk.cell hj6 1⟩
    refine hK.out _ _ hHeld (fun hHy => ?_)
    clear hK cd hHx hHy
    try simp only [Act.put, p1, p2, p3]
    refine tw 12 5 hHeld ?_
    refine wpAnyH_done (by kernel_rfl) ?_ _
    clear hHeld
    have FD := Lib.hid (And.intro fD f6)
    clear fD f6
    by_cases hz0 : z = 0
    ·subst hz0
     replace hj6 : Jr w6 g p { J with bad := false } := hj6
     have HJ6 := Lib.hid hj6
     have j3 : w6.cell? ⟨g, 3, none⟩ = some (.int .u64 (J.num : Int)) := Blk.cell hj6 3
     have z3 := Blk.frozen hj6 3
     have j4 : w6.cell? ⟨g, 4, none⟩ = some (.int .i64 J.used) := Blk.cell hj6 4
     have z4 := Blk.frozen hj6 4
     have j5 : w6.cell? ⟨g, 5, none⟩ = some (.bool J.begun) := Blk.cell hj6 5
     have z5 := Blk.frozen hj6 5
     clear hj6
     go_wp2_with fail
     go_ret
     have k3 := Blk.set_ (Blk.set_ (Blk.set_ HJ6.out 3 (.int .u64 (m : Int))) 4 (.int .i64 0)) 5 (.bool true)
     have fs : Fr [g] w6 (((w6.setCell ⟨g, 3, none⟩ (.int .u64 (m : Int))).setCell ⟨g, 4, none⟩ (.int .i64 0)).setCell ⟨g, 5, none⟩ (.bool true)) := (((Fr.refl _ _).setCell (.inl (by simp)) _).setCell (.inl (by simp)) _).setCell (.inl (by simp)) _
     refine (JopC.of HA.out.1 HG.out HA.out.2.2 (FD.out.2.trans fs (fun i hi => .inl hi)) HA.out.2.1 (J' := { J with num := m, used := 0, begun := true }) ?_ ?_).pre FD.out.1
     ·unfold Jr
      rw [show ({ J with num := m, used := 0, begun := true } : JrM).bad = false from HB.out]
      exact k3
     ·rw [resM, HB.out, if_neg (by simp), HN.out, HZ.out, if_pos rfl]
    ·have dz : (z == 0) = false := by simpa using hz0
     rw [show (false || decide (z ≠ 0)) = true from by simpa using hz0] at hj6
     have HJ6 := Lib.hid hj6
     clear hj6
     go_wp2_with fail
     go_ret
     refine (JopC.of HA.out.1 HG.out HA.out.2.2 FD.out.2 HA.out.2.1 HJ6.out ?_).pre FD.out.1
     rw [resM, HB.out, if_neg (by simp), HN.out, HZ.out, if_neg hz0]
  ·have HN := Lib.hid (show J.next = m by rw [HNX.out, if_pos rfl])
   have NB := Lib.hid hn
   clear HNX
   go_enter Tryz.func145, Tryz.ntmps145
   go_upto_region 9 with (go_at_call 141; refine cs.mono ?_; rintro e w' ⟨rfl, rfl⟩)
   have hD := HH.out
   have hD0 := hD.1.keep_nil fD
   have hJ0 := hD.2.1.keep_nil fD
   have cm := jnMark_any hD0 J.first (m) NB.out ((HK.out).keep fD) hD.2.2
   skip
   obtain ⟨⟨z, D'⟩, hz⟩ : ∃ r, mkE D J.first (m) = r := ⟨_, rfl⟩
   have HZ := Lib.hid hz
   rw [hz] at cm
   clear hz hD hD0
   have hS : wD.cell? ⟨g, 0, none⟩ = some (.pointer (some ⟨p, 0, none⟩)) ∧ wD.cell? ⟨g, 1, none⟩ = some (.int .i64 J.first) := ⟨Blk.cell hJ0 0, Blk.cell hJ0 1⟩
   refine wp_region_held_drew (S := fun w' => w'.cell? ⟨g, 0, none⟩ = some (.pointer (some ⟨p, 0, none⟩)) ∧ w'.cell? ⟨g, 1, none⟩ = some (.int .i64 J.first)) (by kernel_rfl) (by rw [hwD]; exact hS) (fun hHeld => ?_)
   rw [hwD] at hHeld ⊢
   clear hS hwD
   refine tw 0 37 hHeld ?_
   refine tw 1 38 hHeld ?_
   refine tw 2 39 hHeld ?_
   refine tw 3 40 hHeld ?_
   refine tw 4 41 hHeld ?_
   refine tw 5 42 hHeld ?_
   refine tw 6 43 hHeld ?_
   refine tw 7 44 hHeld ?_
   refine tw 8 45 hHeld ?_
   refine tw 9 46 hHeld ?_
   refine tc 10 (fun K hK => ?_)
   go_simp
   refine cm.mono ?_
   rintro e w5 ⟨rfl, ha⟩
   have hJ5 : Jr w5 g p J := by obtain ⟨O', -, -, f⟩ := ha; exact hJ0.keep f HG.out
   have hHx : w5.cell? ⟨g, 0, none⟩ = some (.pointer (some ⟨p, 0, none⟩)) ∧ w5.cell? ⟨g, 1, none⟩ = some (.int .i64 J.first) := ⟨Blk.cell hJ5 0, Blk.cell hJ5 1⟩
   have cd := jnDid_any hJ5 z
   refine hK.out _ _ hHx (fun hHy => ?_)
   clear hK cm hHeld hHy
   try simp only [Act.put, p1, p2, p3]
   have HA := Lib.hid (And.intro ha (And.intro (hJ5.noTy (e := 5) (by decide)) (hJ0.lt)))
   clear ha hJ5 hJ0
   refine tc 11 (fun K hK => ?_)
   go_simp
   refine cd.mono ?_
   rintro e w6 ⟨rfl, hj6, f6⟩
   rw [HB.out] at hj6
   have hHeld : w6.cell? ⟨g, 0, none⟩ = some (.pointer (some ⟨p, 0, none⟩)) ∧ w6.cell? ⟨g, 1, none⟩ = some (.int .i64 J.first) := ⟨Blk.cell hj6 0, Blk.cell hj6 1⟩
   refine hK.out _ _ hHeld (fun hHy => ?_)
   clear hK cd hHx hHy
   try simp only [Act.put, p1, p2, p3]
   refine tw 12 5 hHeld ?_
   refine wpAnyH_done (by kernel_rfl) ?_ _
   clear hHeld
   have FD := Lib.hid (And.intro fD f6)
   clear fD f6
   by_cases hz0 : z = 0
   ·subst hz0
    replace hj6 : Jr w6 g p { J with bad := false } := hj6
    have HJ6 := Lib.hid hj6
    have j3 : w6.cell? ⟨g, 3, none⟩ = some (.int .u64 (J.num : Int)) := Blk.cell hj6 3
    have z3 := Blk.frozen hj6 3
    have j4 : w6.cell? ⟨g, 4, none⟩ = some (.int .i64 J.used) := Blk.cell hj6 4
    have z4 := Blk.frozen hj6 4
    have j5 : w6.cell? ⟨g, 5, none⟩ = some (.bool J.begun) := Blk.cell hj6 5
    have z5 := Blk.frozen hj6 5
    clear hj6
    go_wp2_with fail
    go_ret
    have k3 := Blk.set_ (Blk.set_ (Blk.set_ HJ6.out 3 (.int .u64 (m : Int))) 4 (.int .i64 0)) 5 (.bool true)
    have fs : Fr [g] w6 (((w6.setCell ⟨g, 3, none⟩ (.int .u64 (m : Int))).setCell ⟨g, 4, none⟩ (.int .i64 0)).setCell ⟨g, 5, none⟩ (.bool true)) := (((Fr.refl _ _).setCell (.inl (by simp)) _).setCell (.inl (by simp)) _).setCell (.inl (by simp)) _
    refine (JopC.of HA.out.1 HG.out HA.out.2.2 (FD.out.2.trans fs (fun i hi => .inl hi)) HA.out.2.1 (J' := { J with num := m, used := 0, begun := true }) ?_ ?_).pre FD.out.1
    ·unfold Jr
     rw [show ({ J with num := m, used := 0, begun := true } : JrM).bad = false from HB.out]
     exact k3
    ·rw [resM, HB.out, if_neg (by simp), HN.out, HZ.out, if_pos rfl]
   ·have dz : (z == 0) = false := by simpa using hz0
    rw [show (false || decide (z ≠ 0)) = true from by simpa using hz0] at hj6
    have HJ6 := Lib.hid hj6
    clear hj6
    go_wp2_with fail
    go_ret
    refine (JopC.of HA.out.1 HG.out HA.out.2.2 FD.out.2 HA.out.2.1 HJ6.out ?_).pre FD.out.1
    rw [resM, HB.out, if_neg (by simp), HN.out, HZ.out, if_neg hz0]
 ·clear c2 c3 c5
  go_enter Tryz.func145, Tryz.ntmps145
  go_wp2_with (go_at_call 141; refine cs.mono ?_; rintro e w' ⟨rfl, rfl⟩)
  go_ret
  exact JopC.same HH.out.1 HH.out.2.1 (Fr.refl _ _) (by rw [resM, HB.out, if_pos rfl])
end
end
end Go.Proofs.YtbanogfljpkbkaaGreatDoor
