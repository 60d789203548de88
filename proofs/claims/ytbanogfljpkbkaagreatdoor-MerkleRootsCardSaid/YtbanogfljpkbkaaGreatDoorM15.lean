/-
  Texts of this claim, one behind the other: SrC, CacD, CacE, CacF.
-/
import Derived.Test.YtbanogfljpkbkaaGreatDoorM13
import Derived.Test.YtbanogfljpkbkaaGreatDoorM14
import Derived.Handy
import Derived.Sort.CutIn
import Derived.Sort.QuietIn
import Derived.BigQuiet
import Derived.Deep.QuietTactic
set_option linter.unusedSimpArgs false
set_option linter.unusedVariables false
set_option linter.unnecessarySimpa false
namespace Go.Proofs.YtbanogfljpkbkaaGreatDoor
section
open Go.RowKit Go.Shelf
attribute [local go_sem] Oper.semAt_some
set_option maxRecDepth 100000
theorem cell_heap {w w' : World} {g : Nat} (h : w'.heap[g]? = w.heap[g]?) (i : Nat) : w'.cell? ⟨g, i, none⟩ = w.cell? ⟨g, i, none⟩ := by
 unfold World.cell?
 dsimp only
 rw [h]
theorem Row.heap_eq {w w' : World} {B : Nat} {e : TypeId} {s n : Nat} {v : Value} {xs : List Value} (h : Row w B e s v n xs) (hs : ∀ g, v.ownBlock = some g → w'.heap[g]? = w.heap[g]?) : Row w' B e s v n xs := by
 refine ⟨h.1, ?_⟩
 rcases h.2 with h0 | ⟨g, cap, cur, fz, rfl, hb, hg, rest⟩
 ·exact .inl h0
 ·exact .inr ⟨g, cap, cur, fz, rfl, hb, (hs g rfl).trans hg, rest⟩
def ownC (W : World) (gb : Nat) : Option Nat := match W.cell? ⟨gb, 0, none⟩ with
 | some v => v.ownBlock
 | none => none
theorem ownC_blk {W : World} {gb : Nat} {t : TypeId} {v : Value} (h : Blk W gb t #[v]) : ownC W gb = v.ownBlock := by
 have : W.cell? ⟨gb, 0, none⟩ = some v := h.cell 0
 rw [ownC, this]
structure KeepO (gb B : Nat) (A C : World) : Prop where
 size : A.heap.size ≤ C.heap.size
 same : ∀ k o, A.heap[k]? = some o → k ≠ gb → ownC A gb ≠ some k → (k < B ∨ o.isCells = true) → C.heap[k]? = some o
 own : ∀ k, ownC C gb = some k → ownC A gb = some k ∨ A.heap.size ≤ k
theorem KeepO.refl (gb B : Nat) (A : World) : KeepO gb B A A := ⟨Nat.le_refl _, fun _ _ h _ _ _ => h, fun _ h => .inl h⟩
theorem keepO_t {gb B : Nat} {A C E : World} (h : KeepO gb B A C) (k : KeepO gb B C E) : KeepO gb B A E :=
 ⟨Nat.le_trans h.size k.size, fun i o hi hg ho hB => k.same i o (h.same i o hi hg ho hB) hg (fun e => by
  rcases h.own i e with h1 | h1
  ·exact ho h1
  ·have := (Array.getElem?_eq_some_iff.1 hi).1; omega) hB, fun i e => by
  rcases k.own i e with h1 | h1
  ·exact h.own i h1
  ·exact .inr (Nat.le_trans h.size h1)⟩
theorem keepO_b {gb B : Nat} {w : World} (hB : B ≤ w.heap.size) (hgb : gb < w.heap.size) (W : World) (l : Nat) (o o' : Obj) (hl : w.heap.size ≤ l) (h : W.heap[l]? = some o) (hc : o.isCells = false) (_ : o.isWalk = false) : KeepO gb B W (W.putObj l o') := by
 have hg := grownBy_putObj' W l o'
 have hlW : l < W.heap.size := (Array.getElem?_eq_some_iff.1 h).1
 have hgW : gb < W.heap.size := by omega
 have e : ownC (W.putObj l o') gb = ownC W gb := by
  unfold ownC
  rw [cell_heap (hg.block gb hgW (by simp; omega))]
 refine ⟨hg.size, fun k x hk _ _ hx => ?_, fun k hk => .inl (by rw [← e]; exact hk)⟩
 have hlt := (Array.getElem?_eq_some_iff.1 hk).1
 have hne : k ≠ l := fun e => by
  subst e
  rw [h] at hk
  cases hk
  rcases hx with hx | hx
  ·omega
  ·rw [hc] at hx; cases hx
 rw [hg.block k hlt (by simpa using hne)]
 exact hk
theorem KeepO.of_fr {gb B : Nat} {A C : World} {F : List Nat} (f : Fr F A C) (hF : ∀ i ∈ F, i = gb ∨ ownC A gb = some i ∨ A.heap.size ≤ i) (ho : ∀ k, ownC C gb = some k → ownC A gb = some k ∨ A.heap.size ≤ k) : KeepO gb B A C :=
 ⟨f.size, fun k o hk hg hn _ => by
  have hlt := (Array.getElem?_eq_some_iff.1 hk).1
  rw [f.same k hlt (fun hm => by
   rcases hF k hm with h | h | h
   ·exact hg h
   ·exact hn h
   ·omega)]
  exact hk, ho⟩
structure KeepS (Kp : World → World → Prop) (W : World) (g p b : Nat) : Prop where
 refl : ∀ A, Kp A A
 trans : ∀ {A C E}, Kp A C → Kp C E → Kp A E
 same : ∀ w2 C, Fr [] W w2 → Kp w2 C → (C.heap[g]? = w2.heap[g]? ∧ C.heap[p]? = w2.heap[p]? ∧ C.heap[b]? = w2.heap[b]?) ∧ ∀ k cs t fz, W.heap.size ≤ k → w2.heap[k]? = some (.cells cs t fz) → C.heap[k]? = w2.heap[k]?
set_option maxHeartbeats 4000000 in
theorem srtAll1_inK (m : Nat) (hm : 1 ≤ m) (l g p b n : Nat) {f : Int → Option Value} {zs : List Int} (Kp : World → World → Prop) (hz : KeyL f zs) (hn : n ≤ 17592186044416) (J Jx : List (PairF f) → World → Prop) (W : World) (hJ : AbidesFrom W.heap.size J)
  (hY : ∀ pre x W1, J pre W1 → pre.length < n → YieldAt Fence.wide (m - 1) Tryz.prog l (encP f x) W1 fun e W' => (e = .returned (.bool true) ∧ J (pre ++ [x]) W' ∧ Kp W1 W') ∨ (e = .returned (.bool false) ∧ Jx (pre ++ [x]) W'))
  (hc : W.cell? ⟨g, 0, none⟩ = some (.pointer (some ⟨p, 0, none⟩))) (hs : SrtW W p b n f) (hks : KeepS Kp W g p b) (h0 : J [] W) :
  CallsIn Fence.wide m Tryz.prog 87 #[.func (.yield l) #[] #[], .pointer (some ⟨g, 0, none⟩)] W fun e W' => (∃ v, e = .returned v) ∧ ((∃ xs, xs = pairsF hz ∧ J xs W') ∨ (∃ pre, pre <+: pairsF hz ∧ Jx pre W')) := by
 have c0 := hs.c0
 obtain ⟨-, hzl⟩ := hs.map.lenS hz undS 3
 refine callsIn_of_wp Tryz.func87 rfl trivial ?_ rfl
 simp only [Tryz.ntmps87, List.size_toArray, List.length_cons, List.length_nil, Nat.reduceAdd, Nat.reduceSub, Array.replicate_succ, Array.replicate_zero, List.push_toArray, List.append_toArray, List.nil_append, List.cons_append]
 gi_wp2
 refine ⟨trivial, (callsIn_wide.2 (keysS_any b W)).mono ?_⟩
 rintro e w1 ⟨rfl, rfl⟩
 gi_wp2
 refine ⟨trivial, (callsIn_wide.2 (sortedS_any hs.map hn)).mono ?_⟩
 rintro e w2 ⟨v, zs', rfl, hz', -, r, f⟩
 obtain rfl : zs' = zs := hz'.uniq hz
 have f2 : Fr [] W w2 := ((Fr.refl [] W).alloc _).trans_nil f
 have J2 : J [] w2 := hJ _ _ _ none h0 (fr_grown f2) (fun r e => by cases e)
 obtain ⟨A, c, rfl, -, -, -, -, -⟩ := r.shape
 have r2 := r
 have hSM := Lib.hid (fun C => hks.same w2 C f2)
 have hKR := Lib.hid (And.intro hks.refl (@KeepS.trans _ _ _ _ _ hks))
 obtain ⟨N, hN⟩ : ∃ N, zs'.length = N := ⟨_, rfl⟩
 rw [hN] at r2
 have HZ := Lib.hid hz
 have HN := Lib.hid hN
 have HR := Lib.hid r2
 have HS := Lib.hid (hs.keep_nil f2)
 have hc2 := f2.cell (by simp) hc
 have HC := Lib.hid hc2
 have J2' := Lib.hid J2
 rw [hN] at hzl ⊢
 clear hz' hs f f2 J2 r r2 hc hc2 c0 h0 hN hks
 gi_wp2
 gi_loopw [16] (fun i wr => ∃ k : Nat, k ≤ N ∧ i = .int .i64 k ∧ J ((pairsF HZ.out).take k) wr ∧ Kp w2 wr) (fun i _ => N - (intOf i).toNat)
 case atStart => exact ⟨0, by omega, rfl, J2'.out, hKR.out.1 _⟩
 case round =>
  obtain ⟨k, hkN, rfl, hJk, hK⟩ := hrel
  by_cases hlt : k < N
  ·have d0 : (k : Int) < N := by omega
   have hkz : k < zs'.length := by rw [HN.out]; exact hlt
   obtain ⟨⟨⟨y, u⟩, hwf, hfu⟩, ex, ek⟩ := pairsF_at HZ.out hkz
   replace ek : y = zs'[k] := ek
   replace hfu : f y = some u := hfu
   replace hwf : wfZ y := hwf
   have hsm := hSM.out wr hK
   have rr := HR.out.heap_eq (w' := wr) (fun q hq => by
    rcases HR.out.2 with ⟨h0, -⟩ | ⟨g', cap, cur, fz, h0, hb0, hg0, -⟩
    ·exact absurd hq (by rw [h0]; simp [Value.ownBlock])
    ·have e1 : g' = q := by rw [h0] at hq; simpa [Value.ownBlock] using hq
     subst e1
     exact hsm.2 _ _ _ _ hb0 hg0)
   obtain ⟨gk, ck, e⟩ := rr.hdD (by omega)
   cases e
   obtain ⟨g', o', e', hcs⟩ := rr.rdD.1 (by intro h0; have := congrArg List.length h0; simp at this; rw [this] at hkz; exact absurd hkz (by simp))
   cases e'
   have ck0 := hcs k (.int .i64 y) (by rw [List.getElem?_map, List.getElem?_eq_getElem hkz, ek]; rfl)
   rw [Nat.zero_add] at ck0
   have cb := (cell_heap hsm.1.1 0).trans HC.out
   have cp := (cell_heap hsm.1.2.1 0).trans HS.out.c0
   have mz : MapZ wr b n f := HS.out.map.blk_eq hsm.1.2.2
   have hl := mz.look_ok undS (zeroS _) hwf
   rw [hfu] at hl
   simp only [Option.getD_some, Option.isSome_some] at hl
   obtain ⟨fn, tmps, assign, body, hy, hR⟩ := hY _ ⟨(y, u), hwf, hfu⟩ wr hJk (by rw [List.length_take, pairsF_len]; omega)
   replace hy : (Instr.yield l #[.int .i64 y, u]).run Tryz.prog wr = _ := hy
   have HT := Lib.hid (show (pairsF HZ.out).take (k + 1) = (pairsF HZ.out).take k ++ [⟨(y, u), hwf, hfu⟩] by
    rw [List.take_add_one, ex]; rfl)
   have HKK := Lib.hid hK
   clear hcs rr mz ex hK hJk ek hsm
   clear hkz
   gi_wp2
   refine hR.mono ?_
   rintro e W3 (⟨rfl, hJ3, hk3⟩ | ⟨rfl, hJx3⟩)
   ·have HP := Lib.hid (And.intro hJ3 hk3)
    clear hR hy hl ck0 cb cp hJ3 hk3
    gi_wp2
    go_roundw
    case rel => exact ⟨k + 1, by omega, by go_num, by rw [HT.out]; exact HP.out.1, hKR.out.2 HKK.out HP.out.2⟩
    case measure => simp [intOf]; omega
   ·have HP := Lib.hid hJx3
    clear hR hy hl ck0 cb cp hJx3
    gi_wp2
    refine bodyPost_ret (results_none rfl _ _ _) rfl ?_
    exact ⟨⟨_, rfl⟩, .inr ⟨_, by rw [← HT.out]; exact List.take_prefix _ _, HP.out⟩⟩
  ·obtain rfl : k = N := by omega
   have d0 : ¬ ((k : Int) < k) := by omega
   have HP := Lib.hid hJk
   clear hJk hK
   gi_wp2
   go_end0
   exact ⟨⟨_, rfl⟩, .inl (by have := HP.out; rwa [List.take_of_length_le (by rw [pairsF_len, HN.out]; omega)] at this)⟩
theorem srtAll1_stopsK (m : Nat) (hm : 1 ≤ m) (g p b n : Nat) {f : Int → Option Value} {zs : List Int} (Kp : World → World → Prop) (hz : KeyL f zs) (hn : n ≤ 17592186044416) (w : World)
  (hc : w.cell? ⟨g, 0, none⟩ = some (.pointer (some ⟨p, 0, none⟩))) (hs : SrtW w p b n f) (hks : ∀ W, Below w.heap.size w W → KeepS Kp W g p b) :
  SeqStopsK Fence.wide m Tryz.prog 87 #[.pointer (some ⟨g, 0, none⟩)] (encP f) Kp (fun xs => xs = pairsF hz) (fun pre => pre <+: pairsF hz) n w := fun l J Jx W hW hJ _ hY h0 => by
 have hgl : g < w.heap.size := by
  rcases Nat.lt_or_ge g w.heap.size with h | h
  ·exact h
  ·unfold World.cell? at hc
   dsimp only at hc
   rw [Array.getElem?_eq_none h] at hc
   cases hc
 have hc' : W.cell? ⟨g, 0, none⟩ = some (.pointer (some ⟨p, 0, none⟩)) := (hW.cell (p := ⟨g, 0, none⟩) hgl).trans hc
 have hp' := hs.blk.lt
 have hb' := hs.map.lt
 have hs' : SrtW W p b n f := ⟨by show W.heap[p]? = _; rw [hW.block p hp']; exact hs.blk, hs.map.blk_eq (hW.block b hb')⟩
 exact srtAll1_inK m hm l g p b n Kp hz hn J Jx W hJ hY hc' hs' (hks W hW) h0
theorem keepS_box {gb B g p b : Nat} {w W : World} (hW : Below w.heap.size w W) (hgb : gb < w.heap.size) (hg : g ≠ gb) (hp : p ≠ gb) (hb : b ≠ gb) (hgB : g < B) (hpB : p < B) (hbB : b < B) (hBw : B ≤ w.heap.size) (ho : ∀ k, ownC w gb = some k → k < w.heap.size ∧ k ≠ g ∧ k ≠ p ∧ k ≠ b) : KeepS (KeepO gb B) W g p b := by
 refine ⟨KeepO.refl gb B, keepO_t, fun w2 C f hk => ?_⟩
 have hsz := hW.size
 have ow : ownC w2 gb = ownC w gb := by
  unfold ownC
  rw [cell_heap (f.same gb (by omega) (by simp)), cell_heap (hW.block gb hgb)]
 have key : ∀ k, k < B → k ≠ gb → (∀ j, ownC w gb = some j → j ≠ k) → C.heap[k]? = w2.heap[k]? := fun k hkB hkg hn => by
  have hlt : k < w2.heap.size := by have := f.size; omega
  have h1 : w2.heap[k]? = some w2.heap[k] := Array.getElem?_eq_getElem hlt
  rw [h1]
  exact hk.same k _ h1 hkg (fun e => hn k (by rw [← ow]; exact e) rfl) (.inl hkB)
 refine ⟨⟨key g hgB hg (fun j hj => (ho j hj).2.1), key p hpB hp (fun j hj => (ho j hj).2.2.1), key b hbB hb (fun j hj => (ho j hj).2.2.2)⟩, fun k cs t fz hk2 hkc => ?_⟩
 rw [hkc]
 exact hk.same k _ hkc (by omega) (fun e => by rw [ow] at e; have := (ho k e).1; omega) (.inr rfl)
theorem ownFrom_of {β : Type} {B : Nat} {I : β → World → Prop} (h : ∀ s W W' F, I s W → Fr F W W' → (∀ e, NoTy W F e) → (∀ i ∈ F, B ≤ i) → I s W') : OwnFrom B I := fun s W W' row hs hg hr =>
 h s W W' row.toList hs (grown_frR hg) (fun e i hi cs fz hc => by
  have hi' : row = some i := by simpa using hi
  obtain ⟨_, o, ho, hoc⟩ := hr i hi'
  rw [ho] at hc
  cases hc
  cases hoc) (fun i hi => (hr i (by simpa using hi)).1)
section
variable {P : Program} {ops : Array Oper} {Q : Exit → Act → World → Prop} {l n : Nat}
theorem wpListIn_of (hL : ¬ LetsOut Q) : ∀ (os : List Oper), (∀ o ∈ os, ∀ c, o.op ≠ .defer c) → ∀ (a : Act) (w : World), wpList P ops Q os a w → wpListIn (Fence.wide.inRound l) n P ops Q os a w
 | [], _, _, _, h => h
 | o :: rest, hd, a, w, h => by
  have ih := wpListIn_of hL rest (fun x hx => hd x (List.mem_cons_of_mem _ hx))
  unfold wpList at h
  unfold wpListIn
  split
  ·rename_i hw
   rw [if_pos hw] at h
   rcases h with h | ⟨_, h⟩
   ·unfold Oper.wp at h
    unfold Oper.wpIn
    refine ⟨fun _ _ => trivial, ?_⟩
    rw [Oper.semAt_eq _ _ _ (hd o List.mem_cons_self)]
    generalize (execOp a.eval o).run P w = r at *
    cases r with
    | ok x w' =>
     cases x
     case value v => exact ih _ _ h
     case skip => exact ih _ _ h
     case defer d => exact ih _ _ h
     case enter f args =>
      refine ⟨fun hd => (by cases hd), CallsIn.inRound l (callsIn_wide.2 ?_)⟩
      exact Calls.mono h (fun e w'' he => by cases e <;> first | exact ih _ _ he | exact he)
     case row row args => exact ⟨fun hd => (by cases hd), rowsIn_of (Rows.mono h (fun _ _ he => ih _ _ he))⟩
     all_goals exact (h : False).elim
    | halt x w' => cases x <;> first | exact h | exact (h : False).elim
   ·exact absurd h hL
  ·rename_i hw
   rw [if_neg hw] at h
   exact ⟨fun _ _ => trivial, ih _ _ h⟩
theorem wpIn_region_roundL {id : Nat} {a : Act} {w : World} (hd : plainOps ops = true) (hL : ¬ LetsOut Q) (h : wpList P ops Q ops.toList a w) : (Code.region id ops false).wpIn (Fence.wide.inRound l) n P Q a w :=
 wpIn_region_list (wpListIn_of hL _ (fun o ho => by
  obtain ⟨i, hi, rfl⟩ := List.getElem_of_mem ho
  exact plainOps_at hd (i := i) (by rw [Array.length_toList] at hi; rw [Array.getElem_toList]; exact Array.getElem?_eq_getElem hi)) _ _ h)
end
section
variable {F : Fence} {n : Nat} {P : Program}
theorem wpIn_rangeFunc_H2 {α : Type} {g : Operand} {ps : Array Tmp} {assign body : Code} {Q : Exit → Act → World → Prop} {a : Act} {w : World}
  (hro : F.round = none) (h1 : 1 ≤ n) {gf : Nat} {lb : Array Value} (hg : a.eval g = .func (.func gf) #[] lb) (hFg : F.fn gf) (eg : ∀ args w, (callFunc gf args).run P w = .ok (.enter gf args) w)
  {encs : α → Array Value} {Kp : World → World → Prop} {S Sp : List α → Prop} {N : Nat} {w0 : World} (hseq : SeqStopsK F (n - 1) P gf lb encs Kp S Sp N w0)
  (hKt : ∀ {A B C : World}, Kp A B → Kp B C → Kp A C) (hKb : ∀ (W : World) (l : Nat) (o o' : Obj), w.heap.size ≤ l → W.heap[l]? = some o → o.isCells = false → o.isWalk = false → Kp W (W.putObj l o')) (hb0 : Below w0.heap.size w0 w) (hps : ∀ x, (encs x).size = ps.size)
  (I : List α → World → Prop) (Ix : Code → List α → World → Prop) (hI : OwnFrom w.heap.size I) (hIx : ∀ c, OwnFrom w.heap.size (Ix c)) (h0 : I [] w) (act : α → Nat → Nat → Act) (Bx : α → Nat → Nat → World → Prop) (hBx : ∀ x g2 g3, OwnFrom w.heap.size (fun (_ : Unit) W => Bx x g2 g3 W))
  (hassign : ∀ (l : Nat) (pre : List α) (x : α) (W : World) (K : Act → World → Prop), I pre W → (∀ g2 g3 W', KeepsFrom w.heap.size W W' → Kp W W' → I pre W' → Bx x g2 g3 W' → K (act x g2 g3) W') →
   assign.wpIn (F.inRound l) (n - 1 - 1) P (Exit.then K (fun _ _ _ => False)) { tmps := (ps.zip (encs x)).foldl (fun t (p, v) => t.setIfInBounds p v) a.tmps, defers := [] } W)
  (hbody : ∀ (l : Nat) (pre : List α) (x : α) (g2 g3 : Nat) (W : World), I pre W → Bx x g2 g3 W → pre.length < N → body.wpIn (F.inRound l) (n - 1 - 1) P (ownPostK Kp I Ix (pre ++ [x]) W) (act x g2 g3) W)
  (hdone : ∀ (D : Nat) (xs : List α) (W : World), w.heap.size ≤ D → S xs → I xs W → W.heap[D]? = some (.deferred (some [])) → Q .normal { a with defers := { target := .collected D, args := #[] } :: a.defers } W)
  (hstop : ∀ (D : Nat) (c : Code) (pre : List α) (W : World), w.heap.size ≤ D → Sp pre → Ix c pre W → W.heap[D]? = some (.deferred (some [])) → c.wpIn F n P Q { a with defers := { target := .collected D, args := #[] } :: a.defers } W) :
  (Code.rangeFunc g ps assign body).wpIn F n P Q a w :=
 wpIn_rangeFunc_ownH hro h1 hg hFg eg hseq (fun h k => hKt h k) hKb hb0 hps I Ix hI hIx h0 (fun x a' W => ∃ g2 g3, a' = act x g2 g3 ∧ Bx x g2 g3 W)
  (fun x a' s W W' row hs hg hr => by
   obtain ⟨g2, g3, e, hb⟩ := hs
   exact ⟨g2, g3, e, hBx x g2 g3 () W W' row hb hg hr⟩)
  (fun l pre x W K hi hK => hassign l pre x W K hi (fun g2 g3 W' h1 h2 h3 h4 => hK _ _ h1 h2 h3 ⟨g2, g3, rfl, h4⟩))
  (fun l pre x a' W _ _ hi ha hl => by
   obtain ⟨g2, g3, e, hb⟩ := ha
   subst e
   exact wpIn_mono (hbody l pre x g2 g3 W hi hb hl) ownPostG_of_ownPostK) hdone hstop
end
end
section
open Go.RowKit Go.Shelf
attribute [local go_sem] Oper.semAt_some encP
set_option maxRecDepth 100000
theorem fr_putObjC {w : World} {D : Nat} (o : Obj) : Fr [D] w (w.putObj D o) := ⟨rfl, rfl, rfl, by simp [World.putObj], fun k _ hF => World.putObj_heap_other (by simpa using hF)⟩
theorem Row.isCells {w : World} {B : Nat} {e : TypeId} {s n : Nat} {v : Value} {xs : List Value} (h : Row w B e s v n xs) {i : Nat} (hi : v.ownBlock = some i) {o : Obj} (ho : w.heap[i]? = some o) : o.isCells = true := by
 rcases h.2 with ⟨h0, -⟩ | ⟨g', cap, cur, fz, h0, hb0, hg0, -⟩
 ·rw [h0] at hi; simp [Value.ownBlock] at hi
 ·have e1 : g' = i := by rw [h0] at hi; simpa [Value.ownBlock] using hi
  subst e1
  rw [hg0] at ho
  cases ho
  rfl
theorem box_fr {W wa wx : World} {gb m : Nat} {t e : TypeId} {v v' : Value} {xs : List Value} {B s : Nat} (b1 : Blk W gb t #[v]) (r1 : Row W B e s v m xs) (fa : Fr [] W wa) (q2 : Fr v.ownBlock.toList wa wx) (q3 : ∀ k, v'.ownBlock = some k → v.ownBlock = some k ∨ k = wa.heap.size) (hB : B ≤ W.heap.size) (bx : Blk wx gb t #[v]) (B' : Nat) :
  KeepsOthers W (wx.setCell ⟨gb, 0, none⟩ v') ∧ KeepO gb B' W (wx.setCell ⟨gb, 0, none⟩ v') ∧ Fr (gb :: v.ownBlock.toList) W (wx.setCell ⟨gb, 0, none⟩ v') ∧ Blk (wx.setCell ⟨gb, 0, none⟩ v') gb t #[v'] := by
 have k' : Blk (wx.setCell ⟨gb, 0, none⟩ v') gb t #[v'] := by simpa using bx.set_ 0 v'
 have frW : Fr (gb :: v.ownBlock.toList) W (wx.setCell ⟨gb, 0, none⟩ v') := ((fa.nil.trans q2 (fun i hi => .inl (List.mem_cons_of_mem _ hi))).setCell (.inl (by simp)) _)
 have ow : ownC W gb = v.ownBlock := ownC_blk b1
 have ow' : ownC (wx.setCell ⟨gb, 0, none⟩ v') gb = v'.ownBlock := ownC_blk k'
 refine ⟨keepsO_of_fr frW (fun k hk o ho => ?_), KeepO.of_fr frW (fun i hi => ?_) (fun k hk => ?_), frW, k'⟩
 ·rcases List.mem_cons.1 hk with rfl | hk
  ·unfold Blk at b1
   rw [b1] at ho
   cases ho
   rfl
  ·exact r1.isCells (mem_own.1 hk) ho
 ·rcases List.mem_cons.1 hi with rfl | hi
  ·exact .inl rfl
  ·exact .inr (.inl (by rw [ow]; exact mem_own.1 hi))
 ·rw [ow'] at hk
  rw [ow]
  rcases q3 k hk with h | h
  ·exact .inl h
  ·exact .inr (by rw [h]; exact fa.size)
end
section
open Go.RowKit
set_option maxRecDepth 100000
def WrV (w : World) (lo : Nat) (P : CaP) (v : Value) (x : Int) (l : List UInt8) : Prop := ∃ g1 g2 g3 u, v = .func (.func 144) #[] #[.pointer (some ⟨g1, 0, none⟩), .pointer (some ⟨g2, 0, none⟩), .pointer (some ⟨g3, 0, none⟩)] ∧
 Blk w g1 81 #[.pointer (some ⟨P.c, 0, none⟩)] ∧ Blk w g2 3 #[.int .i64 x] ∧ Blk w g3 27 #[u] ∧ BlkB w u l ∧ lo ≤ g1 ∧ lo ≤ g2 ∧ lo ≤ g3
inductive CSt where
 | st (s : Stp)
 | rs
def CStV (w : World) (lo : Nat) (P : CaP) (v : Value) : CSt → Prop
 | .st .fl => v = .func (.func 112) #[.pointer (some ⟨P.p, 0, none⟩)] #[]
 | .st (.wr x l) => WrV w lo P v x l
 | .rs => v = .func (.func 145) #[.pointer (some ⟨P.g, 0, none⟩)] #[]
section
variable {w w' : World} {P : CaP} {O : List Nat} {M : CaM} {lo : Nat}
theorem CStV.keepT {F : List Nat} {v : Value} {s : CSt} (h : CStV w lo P v s) (f : Fr F w w') (hF : ∀ e, e ≠ 47 → e ≠ 186 → NoTy w F e) : CStV w' lo P v s := by
 cases s with
 | rs => exact h
 | st s =>
  cases s with
  | fl => exact h
  | wr x l =>
   obtain ⟨g1, g2, g3, u, e, k1, k2, k3, hb, hl⟩ := h
   exact ⟨g1, g2, g3, u, e, k1.keep f (k1.notin (hF _ (by decide) (by decide))), k2.keep f (k2.notin (hF _ (by decide) (by decide))), k3.keep f (k3.notin (hF _ (by decide) (by decide))), hb.keepT f (hF _ (by decide) (by decide)), hl⟩
theorem CStV.keepF {F : List Nat} {v : Value} {s : CSt} (h : CStV w lo P v s) (f : Fr F w w') (hF : ∀ i ∈ F, i < lo) (h8 : NoTy w F 5) : CStV w' lo P v s := by
 cases s with
 | rs => exact h
 | st s =>
  cases s with
  | fl => exact h
  | wr x l =>
   obtain ⟨g1, g2, g3, u, e, k1, k2, k3, hb, l1, l2, l3⟩ := h
   exact ⟨g1, g2, g3, u, e, k1.keep f (fun hm => by have := hF _ hm; omega), k2.keep f (fun hm => by have := hF _ hm; omega), k3.keep f (fun hm => by have := hF _ hm; omega), hb.keepT f h8, l1, l2, l3⟩
structure CRow (w : World) (B lo : Nat) (P : CaP) (v : Value) (fs : List Value) (ss : List CSt) : Prop where
 row : Row w B 47 1 v ss.length fs
 each : ∀ i (h : i < fs.length) (h' : i < ss.length), CStV w lo P fs[i] ss[i]
theorem CRow.len {B : Nat} {v : Value} {fs : List Value} {ss : List CSt} (h : CRow w B lo P v fs ss) : fs.length = ss.length := by have := h.row.1; omega
theorem CRow.keep_nil {B : Nat} {v : Value} {fs : List Value} {ss : List CSt} (h : CRow w B lo P v fs ss) (f : Fr [] w w') : CRow w' B lo P v fs ss :=
 ⟨h.row.keep_nil f, fun i a b => (h.each i a b).keepT f (fun _ _ _ => NoTy.nil _ _)⟩
theorem CRow.app {B : Nat} {v v' : Value} {fs us : List Value} {ss ts : List CSt} (h : CRow w B lo P v fs ss) (hu : ∀ i (h : i < us.length) (h' : i < ts.length), CStV w lo P us[i] ts[i]) (f : Fr v.ownBlock.toList w w') (hr : Row w' B 47 1 v' (ss.length + ts.length) (fs ++ us)) : CRow w' B lo P v' (fs ++ us) (ss ++ ts) := by
 have kp : ∀ {v : Value} {s : CSt}, CStV w lo P v s → CStV w' lo P v s := fun hx => hx.keepT f (fun e he _ => h.row.noTy (Ne.symm he))
 have hl := h.len
 have hr1 := hr.1
 refine ⟨by rw [List.length_append]; exact hr, fun i h1 h2 => ?_⟩
 rw [List.length_append] at h1 h2
 by_cases hi : i < fs.length
 ·rw [List.getElem_append_left hi, List.getElem_append_left (by omega)]
  exact kp (h.each i hi (by omega))
 ·rw [List.getElem_append_right (by omega), List.getElem_append_right (by omega)]
  have := hu (i - fs.length) (by omega) (by omega)
  simpa [hl] using kp this
set_option maxHeartbeats 1000000 in
theorem caCheck1_any (h : CaW w P O M) {g1 g2 g3 : Nat} {u : Value} {x : Int} {l : List UInt8} (k1 : Blk w g1 81 #[.pointer (some ⟨P.c, 0, none⟩)]) (k2 : Blk w g2 3 #[.int .i64 x]) (k3 : Blk w g3 27 #[u]) (hb : BlkB w u l) (hu : (M.D.uns x).length ≤ 4398046511104)
  (n1 : g1 ∉ O) (n2 : g2 ∉ O) (n3 : g3 ∉ O) :
  Calls Tryz.prog 144 #[.pointer (some ⟨g1, 0, none⟩), .pointer (some ⟨g2, 0, none⟩), .pointer (some ⟨g3, 0, none⟩)] w fun e w' => e = .returned (.int .i64 (Stp.E M.D (.wr x l))) ∧ AftC w P O { M with D := Stp.D M.D (.wr x l) } w' := by
 obtain ⟨wD, hwD⟩ : ∃ wD, w.drew = wD := ⟨_, rfl⟩
 have fD : Fr [] w wD := by rw [← hwD]; exact (Fr.refl [] _).drew
 have hw := h.keep_nil fD
 obtain ⟨A, cc, rfl, -⟩ := hb.2.shape
 have r := hb.2.keep_nil fD
 have cw := dkWrite_any hw.dsk x A 512 cc l hb.1 r.rdD.1 r.rdD.2.2 hu
 obtain ⟨z, hz⟩ : ∃ z, M.D.writeE x 512 = z := ⟨_, rfl⟩
 have HZ := Lib.hid (show Stp.E M.D (.wr x l) = z by rw [Stp.E, hb.1, hz])
 rw [hz] at cw
 have hS : ∀ (F : List Nat) (w' : World), Fr F wD w' → (∀ j ∈ F, j ∈ O) → (w'.cell? ⟨g1, 0, none⟩ = some (.pointer (some ⟨P.c, 0, none⟩)) ∧ w'.cell? ⟨P.c, 0, none⟩ = some (.pointer (some ⟨P.p, 0, none⟩)) ∧ w'.cell? ⟨g2, 0, none⟩ = some (.int .i64 x) ∧ w'.cell? ⟨g3, 0, none⟩ = some (.slice A 512 cc)) := fun F w' f hF =>
  ⟨f.cell (fun hm => n1 (hF _ hm)) ((k1.keep_nil fD).cell 0), f.cell (fun hm => hw.nO.1 (hF _ hm)) hw.c0, f.cell (fun hm => n2 (hF _ hm)) ((k2.keep_nil fD).cell 0), f.cell (fun hm => n3 (hF _ hm)) ((k3.keep_nil fD).cell 0)⟩
 have SF := Lib.hid hS
 have hD := hS [] _ (Fr.refl _ _) (by simp)
 have HW := Lib.hid (And.intro hw fD)
 clear hz hS hw r hb k1 k2 k3 h n1 n2 n3 fD
 go_enter Tryz.func144, Tryz.ntmps144
 go_upto_region 1 with fail
 refine wp_region_held_drew (S := fun w' => w'.cell? ⟨g1, 0, none⟩ = some (.pointer (some ⟨P.c, 0, none⟩)) ∧ w'.cell? ⟨P.c, 0, none⟩ = some (.pointer (some ⟨P.p, 0, none⟩)) ∧ w'.cell? ⟨g2, 0, none⟩ = some (.int .i64 x) ∧ w'.cell? ⟨g3, 0, none⟩ = some (.slice A 512 cc)) (by kernel_rfl) (by rw [hwD]; exact hD) (fun hHeld => ?_)
 rw [hwD] at hHeld ⊢
 clear hD hwD
 refine tw 0 4 hHeld ?_
 refine tw 1 5 hHeld ?_
 refine tw 2 6 hHeld ?_
 refine tw 3 7 hHeld ?_
 refine tw 4 8 hHeld ?_
 refine tw 5 9 hHeld ?_
 refine tc 6 (fun K hK => ?_)
 go_simp
 refine cw.mono ?_
 rintro e w5 ⟨rfl, ha⟩
 have hHx := SF.out O w5 (by obtain ⟨O', -, -, f⟩ := ha; exact f) (fun _ h => h)
 refine hK.out _ _ hHx (fun hHy => ?_)
 clear hK cw hHeld hHy
 have hHeld := hHx
 clear hHx
 try simp only [Act.put, p1, p2, p3]
 refine tw 7 3 hHeld ?_
 refine wpAnyH_done (by kernel_rfl) ?_ _
 clear hHeld
 go_wp2_with fail
 go_ret
 exact ⟨by rw [HZ.out]; rfl, (HW.out.1.disk ha).pre HW.out.2⟩
def stD (D : DkM) (ss : List Stp) (k : Nat) : DkM := (runS D (ss.take k)).2
theorem runS_pre : ∀ (a b : List Stp) (D : DkM), (runS D (a ++ b)).1 = 0 → (runS D a).1 = 0
 | [], b, D, _ => rfl
 | s :: r, b, D, h => by
  rw [List.cons_append, runS] at h
  rw [runS]
  by_cases e : s.E D = 0
  ·rw [if_pos e] at h ⊢
   exact runS_pre r b _ h
  ·rw [if_neg e] at h
   exact absurd h e
theorem stD_step {D : DkM} {ss : List Stp} (h : (runS D ss).1 = 0) {k : Nat} (hk : k < ss.length) : ss[k].E (stD D ss k) = 0 ∧ stD D ss (k + 1) = ss[k].D (stD D ss k) := by
 have h1 : (runS D (ss.take (k + 1))).1 = 0 := runS_pre _ (ss.drop (k + 1)) D (by rw [List.take_append_drop]; exact h)
 have h0 : (runS D (ss.take k)).1 = 0 := runS_pre _ (ss.drop k) D (by rw [List.take_append_drop]; exact h)
 have e1 : ss.take (k + 1) = ss.take k ++ [ss[k]] := by rw [List.take_add_one, List.getElem?_eq_getElem hk]; rfl
 have e2 : runS D (ss.take (k + 1)) = runS (stD D ss k) [ss[k]] := by rw [e1, runS_app _ _ _ h0, stD]
 rw [e2, runS] at h1
 by_cases e : ss[k].E (stD D ss k) = 0
 ·refine ⟨e, ?_⟩
  rw [stD, e2, runS, if_pos e]
  rfl
 ·rw [if_neg e] at h1
  exact absurd h1 e
theorem stD_zero (D : DkM) (ss : List Stp) : stD D ss 0 = D := rfl
theorem stD_end (D : DkM) (ss : List Stp) : stD D ss ss.length = (runS D ss).2 := by rw [stD, List.take_length]
end
end
section
open Go.RowKit
set_option maxRecDepth 100000
section
variable {w w' : World} {P : CaP} {O : List Nat} {M : CaM} {lo : Nat}
def ckM (M : CaM) (ss : List Stp) (k : Nat) : CaM := if k ≤ ss.length then { M with D := stD M.D ss k } else ⟨(resM (runS M.D ss).2 M.J).2.1, (resM (runS M.D ss).2 M.J).2.2, M.dirty⟩
set_option maxHeartbeats 1000000 in
theorem caSteps_any (h : CaW w P O M) {ss : List Stp} (h0 : (runS M.D ss).1 = 0) (hr0 : (resM (runS M.D ss).2 M.J).1 = 0) (ok : M.J.ok) (hK : KG w) {A : Option Addr} {n cap : Nat} {fs : List Value} (hc : CRow w 0 lo P (.slice A n cap) fs (ss.map .st ++ [.rs])) (hn : n = ss.length + 1) (hn4 : n ≤ 100000)
  (hlo : ∀ i ∈ P.own O, i < lo) (hA : ∀ g, (Value.slice A n cap).ownBlock = some g → lo ≤ g) (hz : 0 ∉ P.own O) (hu : ∀ x, (M.D.uns x).length + n + 2 ≤ 4398046511104) :
  Calls Tryz.prog 94 #[.pointer (some ⟨P.c, 0, none⟩), .slice A n cap] w fun e w' => e = .returned (.int .i64 0) ∧ AftC w P O ⟨(resM (runS M.D ss).2 M.J).2.1, (resM (runS M.D ss).2 M.J).2.2, M.dirty⟩ w' := by
 have hsl : (ss.map CSt.st ++ [CSt.rs]).length = n := by rw [List.length_append, List.length_map, hn]; rfl
 have hr := hc.row
 rw [hsl] at hr
 have hfl := hc.len
 rw [hsl] at hfl
 have hO0 : ∀ i ∈ O, i < lo := fun i hi => hlo i (by unfold CaP.own; simp [hi])
 have hlts := h.lts
 refine (caRun_any hr (by omega) (P.own O) (fun g hg hm => by have := hA g hg; have := hlo g hm; omega) (fun k w' => AftC w P O (ckM M ss k) w') (fun _ _ => False) (caState_any h) ?_ (fun k w' hp => hp.fr) ?_).mono ?_
 ·show AftC w P O (ckM M ss 0) w
  rw [ckM, if_pos (Nat.zero_le _), stD_zero]
  exact AftC.same h (Fr.refl _ _)
 ·intro k hk w' hp
  obtain ⟨O', hw', ho, f⟩ := id hp
  have hg' : P.g ∉ O' := hw'.nO.2.1
  have hun : ∀ x, ((stD M.D ss k).uns x).length ≤ (M.D.uns x).length + ss.length := fun x => by
   have := runS_uns (ss.take k) M.D x
   rw [List.length_take] at this
   show ((runS M.D (ss.take k)).2.uns x).length ≤ _
   omega
  have hst := hc.each k hk (by rw [hsl, ← hfl]; exact hk)
  by_cases hk2 : k < ss.length
  ·have e1 : (ss.map CSt.st ++ [CSt.rs])[k]'(by rw [hsl, ← hfl]; exact hk) = .st ss[k] := by
    rw [List.getElem_append_left (by rw [List.length_map]; exact hk2), List.getElem_map]
   rw [e1] at hst
   obtain ⟨d1, d2⟩ := stD_step h0 hk2
   have m1 : ckM M ss k = { M with D := stD M.D ss k } := if_pos (by omega)
   have m2 : ckM M ss (k + 1) = { M with D := ss[k].D (stD M.D ss k) } := by rw [ckM, if_pos (by omega), d2]
   rw [m1] at hw'
   rw [m2]
   obtain ⟨s, hs⟩ : ∃ s, ss[k] = s := ⟨_, rfl⟩
   rw [hs] at hst d1 ⊢
   cases s with
   | fl =>
    refine ⟨_, _, _, hst, enters_of Tryz.func112 (by kernel_rfl) rfl, ?_⟩
    rw [Array.append_empty]
    refine (dkFlush_any hw'.dsk).mono ?_
    rintro e w'' ⟨rfl, ha⟩
    exact .inl ⟨by rw [show (stD M.D ss k).flushE = 0 from d1], AftC.trans h ho f (hw'.disk ha)⟩
   | wr x l =>
    obtain ⟨g1, g2, g3, u, hv, k1, k2, k3, hb, l1, l2, l3⟩ := hst
    have hno : ∀ g, lo ≤ g → g < w.heap.size → g ∉ O' := fun g a b hm => by
     rcases ho g hm with h | h
     ·have := hO0 g h; omega
     ·omega
    have hnf : ∀ g, lo ≤ g → g ∉ P.own O := fun g a hm => by have := hlo g hm; omega
    refine ⟨_, _, _, hv, enters_of Tryz.func144 (by kernel_rfl) rfl, ?_⟩
    rw [Array.empty_append]
    refine (caCheck1_any hw' (k1.keep f (hnf _ l1)) (k2.keep f (hnf _ l2)) (k3.keep f (hnf _ l3)) (hb.keepT f h.no8) (by have := hun x; have := hu x; show ((stD M.D ss k).uns x).length ≤ _; omega) (hno _ l1 k1.lt) (hno _ l2 k2.lt) (hno _ l3 k3.lt)).mono ?_
    rintro e w'' ⟨rfl, ha⟩
    exact .inl ⟨by rw [show Stp.E (stD M.D ss k) (.wr x l) = 0 from d1], AftC.trans h ho f ha⟩
  ·obtain rfl : k = ss.length := by omega
   have e1 : (ss.map CSt.st ++ [CSt.rs])[ss.length]'(by rw [hsl, ← hfl]; exact hk) = .rs := by
    rw [List.getElem_append_right (by rw [List.length_map]; exact Nat.le_refl _)]
    simp
   rw [e1] at hst
   have m1 : ckM M ss ss.length = { M with D := (runS M.D ss).2 } := by rw [ckM, if_pos (Nat.le_refl _), stD_end]
   have m2 : ckM M ss (ss.length + 1) = ⟨(resM (runS M.D ss).2 M.J).2.1, (resM (runS M.D ss).2 M.J).2.2, M.dirty⟩ := if_neg (by omega)
   rw [m1] at hw'
   rw [m2]
   rw [stD_end] at hun
   refine ⟨_, _, _, hst, enters_of Tryz.func145 (by kernel_rfl) rfl, ?_⟩
   rw [Array.append_empty]
   refine (jnReset_any hw'.dsk hw'.jr hg' ok (hK.keepO f hz) (fun x => by have := hun x; have := hu x; show ((runS M.D ss).2.uns x).length + 2 ≤ _; omega)).mono ?_
   intro e w'' hj
   obtain ⟨he, ha⟩ := hw'.journal hj
   exact .inl ⟨by rw [he]; show Ending.returned (.int .i64 (resM (runS M.D ss).2 M.J).1) = _; rw [hr0], AftC.trans h ho f ha⟩
 ·rintro e w' (⟨he, hp⟩ | ⟨z, -, hq⟩)
  ·refine ⟨he, ?_⟩
   have m2 : ckM M ss n = ⟨(resM (runS M.D ss).2 M.J).2.1, (resM (runS M.D ss).2 M.J).2.2, M.dirty⟩ := if_neg (by omega)
   rw [m2] at hp
   exact hp
  ·exact hq.elim
end
end
end Go.Proofs.YtbanogfljpkbkaaGreatDoor
