/-
  Texts of this claim, one behind the other: SrC, ShaA, ShaP, MeH.
-/
import Derived.Test.YtbanogfljpkbkaaGreatDoorF6
import Derived.Test.YtbanogfljpkbkaaGreatDoorF2
import Derived.Laws.BitsAllLaws
import Derived.IntWalk
set_option linter.unusedSimpArgs false
set_option linter.unusedVariables false
set_option linter.unnecessarySimpa false
namespace Go.Proofs.YtbanogfljpkbkaaGreatDoor
section
open Go.RowKit Go.Shelf
attribute [local go_sem] Oper.semAt_some
set_option maxRecDepth 100000
theorem cell_heap {w w' : World} {g : Nat} (h : w'.heap[g]? = w.heap[g]?) (i : Nat) : w'.cell? ⟨g, i, none⟩ = w.cell? ⟨g, i, none⟩ := by
 unfold World.cell?
 dsimp only
 rw [h]
theorem Row.heap_eq {w w' : World} {B : Nat} {e : TypeId} {s n : Nat} {v : Value} {xs : List Value} (h : Row w B e s v n xs) (hs : ∀ g, v.ownBlock = some g → w'.heap[g]? = w.heap[g]?) : Row w' B e s v n xs := by
 refine ⟨h.1, ?_⟩
 rcases h.2 with h0 | ⟨g, cap, cur, fz, rfl, hb, hg, rest⟩
 ·exact .inl h0
 ·exact .inr ⟨g, cap, cur, fz, rfl, hb, (hs g rfl).trans hg, rest⟩
def ownC (W : World) (gb : Nat) : Option Nat := match W.cell? ⟨gb, 0, none⟩ with
 | some v => v.ownBlock
 | none => none
theorem ownC_blk {W : World} {gb : Nat} {t : TypeId} {v : Value} (h : Blk W gb t #[v]) : ownC W gb = v.ownBlock := by
 have : W.cell? ⟨gb, 0, none⟩ = some v := h.cell 0
 rw [ownC, this]
structure KeepO (gb B : Nat) (A C : World) : Prop where
 size : A.heap.size ≤ C.heap.size
 same : ∀ k o, A.heap[k]? = some o → k ≠ gb → ownC A gb ≠ some k → (k < B ∨ o.isCells = true) → C.heap[k]? = some o
 own : ∀ k, ownC C gb = some k → ownC A gb = some k ∨ A.heap.size ≤ k
theorem KeepO.refl (gb B : Nat) (A : World) : KeepO gb B A A := ⟨Nat.le_refl _, fun _ _ h _ _ _ => h, fun _ h => .inl h⟩
theorem keepO_t {gb B : Nat} {A C E : World} (h : KeepO gb B A C) (k : KeepO gb B C E) : KeepO gb B A E :=
 ⟨Nat.le_trans h.size k.size, fun i o hi hg ho hB => k.same i o (h.same i o hi hg ho hB) hg (fun e => by
  rcases h.own i e with h1 | h1
  ·exact ho h1
  ·have := (Array.getElem?_eq_some_iff.1 hi).1; omega) hB, fun i e => by
  rcases k.own i e with h1 | h1
  ·exact h.own i h1
  ·exact .inr (Nat.le_trans h.size h1)⟩
theorem keepO_b {gb B : Nat} {w : World} (hB : B ≤ w.heap.size) (hgb : gb < w.heap.size) (W : World) (l : Nat) (o o' : Obj) (hl : w.heap.size ≤ l) (h : W.heap[l]? = some o) (hc : o.isCells = false) (_ : o.isWalk = false) : KeepO gb B W (W.putObj l o') := by
 have hg := grownBy_putObj' W l o'
 have hlW : l < W.heap.size := (Array.getElem?_eq_some_iff.1 h).1
 have hgW : gb < W.heap.size := by omega
 have e : ownC (W.putObj l o') gb = ownC W gb := by
  unfold ownC
  rw [cell_heap (hg.block gb hgW (by simp; omega))]
 refine ⟨hg.size, fun k x hk _ _ hx => ?_, fun k hk => .inl (by rw [← e]; exact hk)⟩
 have hlt := (Array.getElem?_eq_some_iff.1 hk).1
 have hne : k ≠ l := fun e => by
  subst e
  rw [h] at hk
  cases hk
  rcases hx with hx | hx
  ·omega
  ·rw [hc] at hx; cases hx
 rw [hg.block k hlt (by simpa using hne)]
 exact hk
theorem KeepO.of_fr {gb B : Nat} {A C : World} {F : List Nat} (f : Fr F A C) (hF : ∀ i ∈ F, i = gb ∨ ownC A gb = some i ∨ A.heap.size ≤ i) (ho : ∀ k, ownC C gb = some k → ownC A gb = some k ∨ A.heap.size ≤ k) : KeepO gb B A C :=
 ⟨f.size, fun k o hk hg hn _ => by
  have hlt := (Array.getElem?_eq_some_iff.1 hk).1
  rw [f.same k hlt (fun hm => by
   rcases hF k hm with h | h | h
   ·exact hg h
   ·exact hn h
   ·omega)]
  exact hk, ho⟩
structure KeepS (Kp : World → World → Prop) (W : World) (g p b : Nat) : Prop where
 refl : ∀ A, Kp A A
 trans : ∀ {A C E}, Kp A C → Kp C E → Kp A E
 same : ∀ w2 C, Fr [] W w2 → Kp w2 C → (C.heap[g]? = w2.heap[g]? ∧ C.heap[p]? = w2.heap[p]? ∧ C.heap[b]? = w2.heap[b]?) ∧ ∀ k cs t fz, W.heap.size ≤ k → w2.heap[k]? = some (.cells cs t fz) → C.heap[k]? = w2.heap[k]?
set_option maxHeartbeats 4000000 in
theorem srtAll1_inK (m : Nat) (hm : 1 ≤ m) (l g p b n : Nat) {f : Int → Option Value} {zs : List Int} (Kp : World → World → Prop) (hz : KeyL f zs) (hn : n ≤ 17592186044416) (J Jx : List (PairF f) → World → Prop) (W : World) (hJ : AbidesFrom W.heap.size J)
  (hY : ∀ pre x W1, J pre W1 → pre.length < n → YieldAt Fence.wide (m - 1) Tryz.prog l (encP f x) W1 fun e W' => (e = .returned (.bool true) ∧ J (pre ++ [x]) W' ∧ Kp W1 W') ∨ (e = .returned (.bool false) ∧ Jx (pre ++ [x]) W'))
  (hc : W.cell? ⟨g, 0, none⟩ = some (.pointer (some ⟨p, 0, none⟩))) (hs : SrtW W p b n f) (hks : KeepS Kp W g p b) (h0 : J [] W) :
  CallsIn Fence.wide m Tryz.prog 87 #[.func (.yield l) #[] #[], .pointer (some ⟨g, 0, none⟩)] W fun e W' => (∃ v, e = .returned v) ∧ ((∃ xs, xs = pairsF hz ∧ J xs W') ∨ (∃ pre, pre <+: pairsF hz ∧ Jx pre W')) := by
 have c0 := hs.c0
 obtain ⟨-, hzl⟩ := hs.map.lenS hz undS 3
 refine callsIn_of_wp Tryz.func87 rfl trivial ?_ rfl
 simp only [Tryz.ntmps87, List.size_toArray, List.length_cons, List.length_nil, Nat.reduceAdd, Nat.reduceSub, Array.replicate_succ, Array.replicate_zero, List.push_toArray, List.append_toArray, List.nil_append, List.cons_append]
 gi_wp2
 refine ⟨trivial, (callsIn_wide.2 (keysS_any b W)).mono ?_⟩
 rintro e w1 ⟨rfl, rfl⟩
 gi_wp2
 refine ⟨trivial, (callsIn_wide.2 (sortedS_any hs.map hn)).mono ?_⟩
 rintro e w2 ⟨v, zs', rfl, hz', -, r, f⟩
 obtain rfl : zs' = zs := hz'.uniq hz
 have f2 : Fr [] W w2 := ((Fr.refl [] W).alloc _).trans_nil f
 have J2 : J [] w2 := hJ _ _ _ none h0 (fr_grown f2) (fun r e => by cases e)
 obtain ⟨A, c, rfl, -, -, -, -, -⟩ := r.shape
 have r2 := r
 have hSM := Lib.hid (fun C => hks.same w2 C f2)
 have hKR := Lib.hid (And.intro hks.refl (@KeepS.trans _ _ _ _ _ hks))
 obtain ⟨N, hN⟩ : ∃ N, zs'.length = N := ⟨_, rfl⟩
 rw [hN] at r2
 have HZ := Lib.hid hz
 have HN := Lib.hid hN
 have HR := Lib.hid r2
 have HS := Lib.hid (hs.keep_nil f2)
 have hc2 := f2.cell (by simp) hc
 have HC := Lib.hid hc2
 have J2' := Lib.hid J2
 rw [hN] at hzl ⊢
 clear hz' hs f f2 J2 r r2 hc hc2 c0 h0 hN hks
 gi_wp2
 gi_loopw [16] (fun i wr => ∃ k : Nat, k ≤ N ∧ i = .int .i64 k ∧ J ((pairsF HZ.out).take k) wr ∧ Kp w2 wr) (fun i _ => N - (intOf i).toNat)
 case atStart => exact ⟨0, by omega, rfl, J2'.out, hKR.out.1 _⟩
 case round =>
  obtain ⟨k, hkN, rfl, hJk, hK⟩ := hrel
  by_cases hlt : k < N
  ·have d0 : (k : Int) < N := by omega
   have hkz : k < zs'.length := by rw [HN.out]; exact hlt
   obtain ⟨⟨⟨y, u⟩, hwf, hfu⟩, ex, ek⟩ := pairsF_at HZ.out hkz
   replace ek : y = zs'[k] := ek
   replace hfu : f y = some u := hfu
   replace hwf : wfZ y := hwf
   have hsm := hSM.out wr hK
   have rr := HR.out.heap_eq (w' := wr) (fun q hq => by
    rcases HR.out.2 with ⟨h0, -⟩ | ⟨g', cap, cur, fz, h0, hb0, hg0, -⟩
    ·exact absurd hq (by rw [h0]; simp [Value.ownBlock])
    ·have e1 : g' = q := by rw [h0] at hq; simpa [Value.ownBlock] using hq
     subst e1
     exact hsm.2 _ _ _ _ hb0 hg0)
   obtain ⟨gk, ck, e⟩ := rr.hdD (by omega)
   cases e
   obtain ⟨g', o', e', hcs⟩ := rr.rdD.1 (by intro h0; have := congrArg List.length h0; simp at this; rw [this] at hkz; exact absurd hkz (by simp))
   cases e'
   have ck0 := hcs k (.int .i64 y) (by rw [List.getElem?_map, List.getElem?_eq_getElem hkz, ek]; rfl)
   rw [Nat.zero_add] at ck0
   have cb := (cell_heap hsm.1.1 0).trans HC.out
   have cp := (cell_heap hsm.1.2.1 0).trans HS.out.c0
   have mz : MapZ wr b n f := HS.out.map.blk_eq hsm.1.2.2
   have hl := mz.look_ok undS (zeroS _) hwf
   rw [hfu] at hl
   simp only [Option.getD_some, Option.isSome_some] at hl
   obtain ⟨fn, tmps, assign, body, hy, hR⟩ := hY _ ⟨(y, u), hwf, hfu⟩ wr hJk (by rw [List.length_take, pairsF_len]; omega)
   replace hy : (Instr.yield l #[.int .i64 y, u]).run Tryz.prog wr = _ := hy
   have HT := Lib.hid (show (pairsF HZ.out).take (k + 1) = (pairsF HZ.out).take k ++ [⟨(y, u), hwf, hfu⟩] by
    rw [List.take_add_one, ex]; rfl)
   have HKK := Lib.hid hK
   clear hcs rr mz ex hK hJk ek hsm
   clear hkz
   gi_wp2
   refine hR.mono ?_
   rintro e W3 (⟨rfl, hJ3, hk3⟩ | ⟨rfl, hJx3⟩)
   ·have HP := Lib.hid (And.intro hJ3 hk3)
    clear hR hy hl ck0 cb cp hJ3 hk3
    gi_wp2
    go_roundw
    case rel => exact ⟨k + 1, by omega, by go_num, by rw [HT.out]; exact HP.out.1, hKR.out.2 HKK.out HP.out.2⟩
    case measure => simp [intOf]; omega
   ·have HP := Lib.hid hJx3
    clear hR hy hl ck0 cb cp hJx3
    gi_wp2
    refine bodyPost_ret (results_none rfl _ _ _) rfl ?_
    exact ⟨⟨_, rfl⟩, .inr ⟨_, by rw [← HT.out]; exact List.take_prefix _ _, HP.out⟩⟩
  ·obtain rfl : k = N := by omega
   have d0 : ¬ ((k : Int) < k) := by omega
   have HP := Lib.hid hJk
   clear hJk hK
   gi_wp2
   go_end0
   exact ⟨⟨_, rfl⟩, .inl (by have := HP.out; rwa [List.take_of_length_le (by rw [pairsF_len, HN.out]; omega)] at this)⟩
theorem srtAll1_stopsK (m : Nat) (hm : 1 ≤ m) (g p b n : Nat) {f : Int → Option Value} {zs : List Int} (Kp : World → World → Prop) (hz : KeyL f zs) (hn : n ≤ 17592186044416) (w : World)
  (hc : w.cell? ⟨g, 0, none⟩ = some (.pointer (some ⟨p, 0, none⟩))) (hs : SrtW w p b n f) (hks : ∀ W, Below w.heap.size w W → KeepS Kp W g p b) :
  SeqStopsK Fence.wide m Tryz.prog 87 #[.pointer (some ⟨g, 0, none⟩)] (encP f) Kp (fun xs => xs = pairsF hz) (fun pre => pre <+: pairsF hz) n w := fun l J Jx W hW hJ _ hY h0 => by
 have hgl : g < w.heap.size := by
  rcases Nat.lt_or_ge g w.heap.size with h | h
  ·exact h
  ·unfold World.cell? at hc
   dsimp only at hc
   rw [Array.getElem?_eq_none h] at hc
   cases hc
 have hc' : W.cell? ⟨g, 0, none⟩ = some (.pointer (some ⟨p, 0, none⟩)) := (hW.cell (p := ⟨g, 0, none⟩) hgl).trans hc
 have hp' := hs.blk.lt
 have hb' := hs.map.lt
 have hs' : SrtW W p b n f := ⟨by show W.heap[p]? = _; rw [hW.block p hp']; exact hs.blk, hs.map.blk_eq (hW.block b hb')⟩
 exact srtAll1_inK m hm l g p b n Kp hz hn J Jx W hJ hY hc' hs' (hks W hW) h0
theorem keepS_box {gb B g p b : Nat} {w W : World} (hW : Below w.heap.size w W) (hgb : gb < w.heap.size) (hg : g ≠ gb) (hp : p ≠ gb) (hb : b ≠ gb) (hgB : g < B) (hpB : p < B) (hbB : b < B) (hBw : B ≤ w.heap.size) (ho : ∀ k, ownC w gb = some k → k < w.heap.size ∧ k ≠ g ∧ k ≠ p ∧ k ≠ b) : KeepS (KeepO gb B) W g p b := by
 refine ⟨KeepO.refl gb B, keepO_t, fun w2 C f hk => ?_⟩
 have hsz := hW.size
 have ow : ownC w2 gb = ownC w gb := by
  unfold ownC
  rw [cell_heap (f.same gb (by omega) (by simp)), cell_heap (hW.block gb hgb)]
 have key : ∀ k, k < B → k ≠ gb → (∀ j, ownC w gb = some j → j ≠ k) → C.heap[k]? = w2.heap[k]? := fun k hkB hkg hn => by
  have hlt : k < w2.heap.size := by have := f.size; omega
  have h1 : w2.heap[k]? = some w2.heap[k] := Array.getElem?_eq_getElem hlt
  rw [h1]
  exact hk.same k _ h1 hkg (fun e => hn k (by rw [← ow]; exact e) rfl) (.inl hkB)
 refine ⟨⟨key g hgB hg (fun j hj => (ho j hj).2.1), key p hpB hp (fun j hj => (ho j hj).2.2.1), key b hbB hb (fun j hj => (ho j hj).2.2.2)⟩, fun k cs t fz hk2 hkc => ?_⟩
 rw [hkc]
 exact hk.same k _ hkc (by omega) (fun e => by rw [ow] at e; have := (ho k e).1; omega) (.inr rfl)
theorem ownFrom_of {β : Type} {B : Nat} {I : β → World → Prop} (h : ∀ s W W' F, I s W → Fr F W W' → (∀ e, NoTy W F e) → (∀ i ∈ F, B ≤ i) → I s W') : OwnFrom B I := fun s W W' row hs hg hr =>
 h s W W' row.toList hs (grown_frR hg) (fun e i hi cs fz hc => by
  have hi' : row = some i := by simpa using hi
  obtain ⟨_, o, ho, hoc⟩ := hr i hi'
  rw [ho] at hc
  cases hc
  cases hoc) (fun i hi => (hr i (by simpa using hi)).1)
section
variable {P : Program} {ops : Array Oper} {Q : Exit → Act → World → Prop} {l n : Nat}
theorem wpListIn_of (hL : ¬ LetsOut Q) : ∀ (os : List Oper), (∀ o ∈ os, ∀ c, o.op ≠ .defer c) → ∀ (a : Act) (w : World), wpList P ops Q os a w → wpListIn (Fence.wide.inRound l) n P ops Q os a w
 | [], _, _, _, h => h
 | o :: rest, hd, a, w, h => by
  have ih := wpListIn_of hL rest (fun x hx => hd x (List.mem_cons_of_mem _ hx))
  unfold wpList at h
  unfold wpListIn
  split
  ·rename_i hw
   rw [if_pos hw] at h
   rcases h with h | ⟨_, h⟩
   ·unfold Oper.wp at h
    unfold Oper.wpIn
    refine ⟨fun _ _ => trivial, ?_⟩
    rw [Oper.semAt_eq _ _ _ (hd o List.mem_cons_self)]
    generalize (execOp a.eval o).run P w = r at *
    cases r with
    | ok x w' =>
     cases x
     case value v => exact ih _ _ h
     case skip => exact ih _ _ h
     case defer d => exact ih _ _ h
     case enter f args =>
      refine ⟨fun hd => (by cases hd), CallsIn.inRound l (callsIn_wide.2 ?_)⟩
      exact Calls.mono h (fun e w'' he => by cases e <;> first | exact ih _ _ he | exact he)
     case row row args => exact ⟨fun hd => (by cases hd), rowsIn_of (Rows.mono h (fun _ _ he => ih _ _ he))⟩
     all_goals exact (h : False).elim
    | halt x w' => cases x <;> first | exact h | exact (h : False).elim
   ·exact absurd h hL
  ·rename_i hw
   rw [if_neg hw] at h
   exact ⟨fun _ _ => trivial, ih _ _ h⟩
theorem wpIn_region_roundL {id : Nat} {a : Act} {w : World} (hd : plainOps ops = true) (hL : ¬ LetsOut Q) (h : wpList P ops Q ops.toList a w) : (Code.region id ops false).wpIn (Fence.wide.inRound l) n P Q a w :=
 wpIn_region_list (wpListIn_of hL _ (fun o ho => by
  obtain ⟨i, hi, rfl⟩ := List.getElem_of_mem ho
  exact plainOps_at hd (i := i) (by rw [Array.length_toList] at hi; rw [Array.getElem_toList]; exact Array.getElem?_eq_getElem hi)) _ _ h)
end
section
variable {F : Fence} {n : Nat} {P : Program}
theorem wpIn_rangeFunc_H2 {α : Type} {g : Operand} {ps : Array Tmp} {assign body : Code} {Q : Exit → Act → World → Prop} {a : Act} {w : World}
  (hro : F.round = none) (h1 : 1 ≤ n) {gf : Nat} {lb : Array Value} (hg : a.eval g = .func (.func gf) #[] lb) (hFg : F.fn gf) (eg : ∀ args w, (callFunc gf args).run P w = .ok (.enter gf args) w)
  {encs : α → Array Value} {Kp : World → World → Prop} {S Sp : List α → Prop} {N : Nat} {w0 : World} (hseq : SeqStopsK F (n - 1) P gf lb encs Kp S Sp N w0)
  (hKt : ∀ {A B C : World}, Kp A B → Kp B C → Kp A C) (hKb : ∀ (W : World) (l : Nat) (o o' : Obj), w.heap.size ≤ l → W.heap[l]? = some o → o.isCells = false → o.isWalk = false → Kp W (W.putObj l o')) (hb0 : Below w0.heap.size w0 w) (hps : ∀ x, (encs x).size = ps.size)
  (I : List α → World → Prop) (Ix : Code → List α → World → Prop) (hI : OwnFrom w.heap.size I) (hIx : ∀ c, OwnFrom w.heap.size (Ix c)) (h0 : I [] w) (act : α → Nat → Nat → Act) (Bx : α → Nat → Nat → World → Prop) (hBx : ∀ x g2 g3, OwnFrom w.heap.size (fun (_ : Unit) W => Bx x g2 g3 W))
  (hassign : ∀ (l : Nat) (pre : List α) (x : α) (W : World) (K : Act → World → Prop), I pre W → (∀ g2 g3 W', KeepsFrom w.heap.size W W' → Kp W W' → I pre W' → Bx x g2 g3 W' → K (act x g2 g3) W') →
   assign.wpIn (F.inRound l) (n - 1 - 1) P (Exit.then K (fun _ _ _ => False)) { tmps := (ps.zip (encs x)).foldl (fun t (p, v) => t.setIfInBounds p v) a.tmps, defers := [] } W)
  (hbody : ∀ (l : Nat) (pre : List α) (x : α) (g2 g3 : Nat) (W : World), I pre W → Bx x g2 g3 W → pre.length < N → body.wpIn (F.inRound l) (n - 1 - 1) P (ownPostK Kp I Ix (pre ++ [x]) W) (act x g2 g3) W)
  (hdone : ∀ (D : Nat) (xs : List α) (W : World), w.heap.size ≤ D → S xs → I xs W → W.heap[D]? = some (.deferred (some [])) → Q .normal { a with defers := { target := .collected D, args := #[] } :: a.defers } W)
  (hstop : ∀ (D : Nat) (c : Code) (pre : List α) (W : World), w.heap.size ≤ D → Sp pre → Ix c pre W → W.heap[D]? = some (.deferred (some [])) → c.wpIn F n P Q { a with defers := { target := .collected D, args := #[] } :: a.defers } W) :
  (Code.rangeFunc g ps assign body).wpIn F n P Q a w :=
 wpIn_rangeFunc_ownH hro h1 hg hFg eg hseq (fun h k => hKt h k) hKb hb0 hps I Ix hI hIx h0 (fun x a' W => ∃ g2 g3, a' = act x g2 g3 ∧ Bx x g2 g3 W)
  (fun x a' s W W' row hs hg hr => by
   obtain ⟨g2, g3, e, hb⟩ := hs
   exact ⟨g2, g3, e, hBx x g2 g3 () W W' row hb hg hr⟩)
  (fun l pre x W K hi hK => hassign l pre x W K hi (fun g2 g3 W' h1 h2 h3 h4 => hK _ _ h1 h2 h3 ⟨g2, g3, rfl, h4⟩))
  (fun l pre x a' W _ _ hi ha hl => by
   obtain ⟨g2, g3, e, hb⟩ := ha
   subst e
   exact wpIn_mono (hbody l pre x g2 g3 W hi hb hl) ownPostG_of_ownPostK) hdone hstop
end
end
section
open Go.RowKit
def uw (x : UInt32) : Int := (x.toNat : Int)
def wv (x : UInt32) : Value := .int .u32 (uw x)
def wvs (l : List UInt32) : List Value := l.map wv
theorem wvs_length (l : List UInt32) : (wvs l).length = l.length := by simp [wvs]
theorem wvs_one (l : List UInt32) : ∀ u ∈ wvs l, u.oneCell' = true := by
 intro u hu
 obtain ⟨x, _, rfl⟩ := List.mem_map.1 hu
 rfl
theorem wvs_at {l : List UInt32} {k : Nat} (h : k < l.length) : (wvs l)[k]? = some (.int .u32 (uw l[k])) := by simp [wvs, h, wv]
theorem wvs_set (l : List UInt32) (k : Nat) (x : UInt32) : (wvs l).set k (.int .u32 (uw x)) = wvs (l.set k x) := by simp [wvs, List.map_set, wv]
theorem uw_add (a b : UInt32) : IntKind.u32.wrap (uw a + uw b) = uw (a + b) := by
 simp only [uw, UInt32.toNat_add, IntKind.wrap_u32]; omega
theorem uw_xor (a b : UInt32) : bits .xor .u32 (uw a) (uw b) = uw (a ^^^ b) := by
 simp only [uw]; rw [u32_xor_nat _ _ a.toNat_lt b.toNat_lt, UInt32.toNat_xor]
theorem uw_or (a b : UInt32) : bits .or .u32 (uw a) (uw b) = uw (a ||| b) := by
 simp only [uw]; rw [u32_or_nat _ _ a.toNat_lt b.toNat_lt, UInt32.toNat_or]
theorem uw_and (a b : UInt32) : bits .and .u32 (uw a) (uw b) = uw (a &&& b) := by
 simp only [uw]; rw [u32_and_nat _ _ a.toNat_lt b.toNat_lt, UInt32.toNat_and]
theorem uw_byte (b : UInt8) : IntKind.u32.wrap (b.toNat : Int) = uw b.toUInt32 := by
 have := b.toNat_lt
 simp only [uw, UInt8.toNat_toUInt32, IntKind.wrap_u32]; omega
def shl (x : UInt32) (n : Nat) : UInt32 := UInt32.ofNat (x.toNat * 2 ^ n)
def shr (x : UInt32) (n : Nat) : UInt32 := UInt32.ofNat (x.toNat / 2 ^ n)
theorem uw_shl (x : UInt32) (n : Nat) : IntKind.u32.wrap (uw x * 2 ^ n) = uw (shl x n) := by
 have e : (uw x * 2 ^ n) = ((x.toNat * 2 ^ n : Nat) : Int) := by unfold uw; push_cast; rfl
 rw [e, IntKind.wrap_u32]
 simp only [uw, shl, UInt32.toNat_ofNat']
 omega
theorem uw_shr (x : UInt32) (n : Nat) : uw x / 2 ^ n = uw (shr x n) := by
 have e : (uw x / 2 ^ n) = ((x.toNat / 2 ^ n : Nat) : Int) := by unfold uw; push_cast; rfl
 have h : x.toNat / 2 ^ n < 4294967296 := Nat.lt_of_le_of_lt (Nat.div_le_self _ _) x.toNat_lt
 rw [e]
 simp only [uw, shr, UInt32.toNat_ofNat']
 generalize x.toNat / 2 ^ n = m at *
 omega
def rotr (x : UInt32) (n : Nat) : UInt32 := shl x (32 - n) ||| shr x n
theorem rotr' (x : UInt32) (n : Nat) : shr x n ||| shl x (32 - n) = rotr x n := UInt32.or_comm _ _
def smallS0 (x : UInt32) : UInt32 := rotr x 7 ^^^ rotr x 18 ^^^ shr x 3
def smallS1 (x : UInt32) : UInt32 := rotr x 17 ^^^ rotr x 19 ^^^ shr x 10
def bigS0 (x : UInt32) : UInt32 := rotr x 2 ^^^ rotr x 13 ^^^ rotr x 22
def bigS1 (x : UInt32) : UInt32 := rotr x 6 ^^^ rotr x 11 ^^^ rotr x 25
theorem ch_eq (e f g : UInt32) : g ^^^ e &&& (f ^^^ g) = (e &&& f) ^^^ (~~~e &&& g) := by
 apply UInt32.toBitVec_inj.1
 apply BitVec.eq_of_getLsbD_eq
 intro i hi
 simp only [UInt32.toBitVec_xor, UInt32.toBitVec_and, UInt32.toBitVec_not, BitVec.getLsbD_xor, BitVec.getLsbD_and, BitVec.getLsbD_not, hi, decide_true, Bool.true_and]
 cases e.toBitVec.getLsbD i <;> cases f.toBitVec.getLsbD i <;> cases g.toBitVec.getLsbD i <;> rfl
theorem maj_eq (a b c : UInt32) : a &&& b ||| c &&& (a ||| b) = (a &&& b) ^^^ (a &&& c) ^^^ (b &&& c) := by
 apply UInt32.toBitVec_inj.1
 apply BitVec.eq_of_getLsbD_eq
 intro i hi
 simp only [UInt32.toBitVec_xor, UInt32.toBitVec_and, UInt32.toBitVec_or, BitVec.getLsbD_xor, BitVec.getLsbD_and, BitVec.getLsbD_or]
 cases a.toBitVec.getLsbD i <;> cases b.toBitVec.getLsbD i <;> cases c.toBitVec.getLsbD i <;> rfl
theorem uw_not (x : UInt32) : bits .xor .u32 (uw x) 4294967295 = uw (~~~x) := by
 have e : (4294967295 : Int) = uw 4294967295 := rfl
 rw [e, uw_xor]
 congr 1
 apply UInt32.toBitVec_inj.1
 apply BitVec.eq_of_getLsbD_eq
 intro i hi
 have h1 : (4294967295 : UInt32).toBitVec = BitVec.allOnes 32 := by decide
 rw [UInt32.toBitVec_xor, UInt32.toBitVec_not, BitVec.getLsbD_xor, BitVec.getLsbD_not, h1, BitVec.getLsbD_allOnes]
 simp [hi]
def wordAt (p : List UInt8) (k : Nat) : UInt32 := shl (p.getD (4 * k) 0).toUInt32 24 ||| shl (p.getD (4 * k + 1) 0).toUInt32 16 ||| shl (p.getD (4 * k + 2) 0).toUInt32 8 ||| (p.getD (4 * k + 3) 0).toUInt32
def nextW (l : List UInt32) (k : Nat) : UInt32 := l.getD (k - 16) 0 + l.getD (k - 7) 0 + smallS0 (l.getD (k - 15) 0) + smallS1 (l.getD (k - 2) 0)
def sched (p : List UInt8) : Nat → List UInt32
 | 0 => []
 | k + 1 => sched p k ++ [if k < 16 then wordAt p k else nextW (sched p k) k]
theorem sched_length (p : List UInt8) : ∀ k, (sched p k).length = k
 | 0 => rfl
 | k + 1 => by rw [sched, List.length_append, sched_length p k]; rfl
structure S8 where
 a : UInt32
 b : UInt32
 c : UInt32
 d : UInt32
 e : UInt32
 f : UInt32
 g : UInt32
 h : UInt32
def S8.list (s : S8) : List UInt32 := [s.a, s.b, s.c, s.d, s.e, s.f, s.g, s.h]
def S8.one (s : S8) (k w : UInt32) : UInt32 := s.h + bigS1 s.e + (s.g ^^^ s.e &&& (s.f ^^^ s.g)) + k + w
def S8.two (s : S8) : UInt32 := bigS0 s.a + (s.a &&& s.b ||| s.c &&& (s.a ||| s.b))
def S8.step (s : S8) (k w : UInt32) : S8 := ⟨s.one k w + s.two, s.a, s.b, s.c, s.d + s.one k w, s.e, s.f, s.g⟩
def S8.run (s : S8) (ks ws : List UInt32) : Nat → S8
 | 0 => s
 | k + 1 => (s.run ks ws k).step (ks.getD k 0) (ws.getD k 0)
def S8.add (s t : S8) : S8 := ⟨s.a + t.a, s.b + t.b, s.c + t.c, s.d + t.d, s.e + t.e, s.f + t.f, s.g + t.g, s.h + t.h⟩
def kC : List UInt32 := [1116352408, 1899447441, 3049323471, 3921009573, 961987163, 1508970993, 2453635748, 2870763221, 3624381080, 310598401, 607225278, 1426881987, 1925078388, 2162078206, 2614888103, 3248222580, 3835390401, 4022224774, 264347078, 604807628, 770255983, 1249150122, 1555081692, 1996064986, 2554220882, 2821834349, 2952996808, 3210313671, 3336571891, 3584528711, 113926993, 338241895, 666307205, 773529912, 1294757372, 1396182291, 1695183700, 1986661051, 2177026350, 2456956037, 2730485921, 2820302411, 3259730800, 3345764771, 3516065817, 3600352804, 4094571909, 275423344, 430227734, 506948616, 659060556, 883997877, 958139571, 1322822218, 1537002063, 1747873779, 1955562222, 2024104815, 2227730452, 2361852424, 2428436474, 2756734187, 3204031479, 3329325298]
def first8 : S8 := ⟨1779033703, 3144134277, 1013904242, 2773480762, 1359893119, 2600822924, 528734635, 1541459225⟩
def shaBlk (s : S8) (p : List UInt8) : S8 := s.add (s.run kC (sched p 64) 64)
def shaRun (s : S8) (m : List UInt8) : Nat → S8
 | 0 => s
 | n + 1 => shaBlk (shaRun s m n) ((m.drop (64 * n)).take 64)
def be8 (n : Nat) : List UInt8 := (List.range 8).map fun i => UInt8.ofNat (n / 2 ^ (56 - 8 * i))
def padB (n : Nat) : List UInt8 := 128 :: List.replicate ((119 - n % 64) % 64) 0 ++ be8 (n * 8)
def wordB (x : UInt32) : List UInt8 := [UInt8.ofNat (x.toNat / 2 ^ 24), UInt8.ofNat (x.toNat / 2 ^ 16), UInt8.ofNat (x.toNat / 2 ^ 8), UInt8.ofNat x.toNat]
def shaSum (l : List UInt8) : List UInt8 := (shaRun first8 (l ++ padB l.length) ((l.length + (padB l.length).length) / 64)).list.flatMap wordB
theorem shaSum_length (l : List UInt8) : (shaSum l).length = 32 := by simp [shaSum, S8.list, wordB]
end
section
theorem shaRun_left (s : S8) (a c : List UInt8) : ∀ n, 64 * n ≤ a.length → shaRun s (a ++ c) n = shaRun s a n
 | 0, _ => rfl
 | n + 1, h => by
  have e : ((a ++ c).drop (64 * n)).take 64 = (a.drop (64 * n)).take 64 := by
   rw [List.drop_append_of_le_length (by omega), List.take_append_of_le_length (by rw [List.length_drop]; omega)]
  show shaBlk (shaRun s (a ++ c) n) _ = shaBlk (shaRun s a n) _
  rw [shaRun_left s a c n (by omega), e]
theorem shaRun_add (s : S8) (m : List UInt8) (n : Nat) : ∀ k, shaRun s m (n + k) = shaRun (shaRun s m n) (m.drop (64 * n)) k
 | 0 => rfl
 | k + 1 => by
  show shaBlk (shaRun s m (n + k)) ((m.drop (64 * (n + k))).take 64) = shaBlk (shaRun (shaRun s m n) (m.drop (64 * n)) k) (((m.drop (64 * n)).drop (64 * k)).take 64)
  rw [shaRun_add s m n k, List.drop_drop, Nat.mul_add]
theorem sha_more (l b : List UInt8) (k : Nat) : shaRun first8 (l ++ b) (l.length / 64 + k) = shaRun (shaRun first8 l (l.length / 64)) (l.drop (64 * (l.length / 64)) ++ b) k := by
 rw [shaRun_add, shaRun_left first8 l b _ (by omega), List.drop_append_of_le_length (by omega)]
theorem more_len (l b : List UInt8) : (l ++ b).length / 64 = l.length / 64 + (l.length % 64 + b.length) / 64 := by
 rw [List.length_append]; omega
theorem more_rest (l b : List UInt8) : (l ++ b).drop (64 * ((l ++ b).length / 64)) = (l.drop (64 * (l.length / 64)) ++ b).drop (64 * ((l.length % 64 + b.length) / 64)) := by
 rw [more_len, Nat.mul_add, ← List.drop_drop, List.drop_append_of_le_length (by omega)]
theorem rest_len (l : List UInt8) : (l.drop (64 * (l.length / 64))).length = l.length % 64 := by
 rw [List.length_drop]; omega
theorem padB_length (n : Nat) : (padB n).length = 1 + (119 - n % 64) % 64 + 8 := by
 simp [padB, be8]; omega
theorem pad_whole (n : Nat) : (n + (padB n).length) % 64 = 0 := by rw [padB_length]; omega
theorem shaSum_eq (l : List UInt8) : shaSum l = (shaRun first8 (l ++ padB l.length) ((l ++ padB l.length).length / 64)).list.flatMap wordB := by
 rw [shaSum, List.length_append]
end
section
set_option maxRecDepth 100000
def leafH (b : List UInt8) : List UInt8 := shaSum (0 :: b)
def nodeH (k : UInt8) (b : List UInt8) : List UInt8 := shaSum (1 :: k :: b)
def rootH (n : Nat) (k : UInt8) (b : List UInt8) : List UInt8 := shaSum (2 :: UInt8.ofNat n :: UInt8.ofNat (n / 256) :: UInt8.ofNat (n / 65536) :: UInt8.ofNat (n / 16777216) :: nodeH k b)
def zL : List UInt8 := List.replicate 512 0
def tL : List UInt8 := List.replicate 512 116
def nodeB (hs : List (List UInt8)) : List UInt8 := hs.flatten ++ List.replicate (512 - 32 * hs.length) 0
theorem roots_differ : rootH 13 0 (nodeB (List.replicate 12 (leafH zL) ++ [leafH tL])) ≠ rootH 13 0 (nodeB (List.replicate 13 (leafH zL))) := by decide +kernel
end
end Go.Proofs.YtbanogfljpkbkaaGreatDoor
