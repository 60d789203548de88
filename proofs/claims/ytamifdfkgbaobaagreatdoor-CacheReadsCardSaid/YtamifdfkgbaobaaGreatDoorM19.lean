/-
  Texts of this claim, one behind the other: SrB, CacA, CacB, JnI, CacC, CacO, RngB.
-/
import Derived.Test.YtamifdfkgbaobaaGreatDoorM18
/-
  Sorted: All's closure as an iterator.
-/
set_option linter.unusedSimpArgs false
set_option linter.unusedVariables false
set_option linter.unnecessarySimpa false
namespace Go.Proofs.YtamifdfkgbaobaaGreatDoor
open Go.RowKit Go.Shelf
attribute [local go_sem] Oper.semAt_some
set_option maxRecDepth 100000

/-- A number and its value. -/
abbrev PairF (f : Int → Option Value) := { p : Int × Value // wfZ p.1 ∧ f p.1 = some p.2 }
def encP (f : Int → Option Value) (x : PairF f) : Array Value := #[.int .i64 x.1.1, x.1.2]
theorem KeyL.val {f : Int → Option Value} {zs : List Int} (h : KeyL f zs) {x : Int} (hx : x ∈ zs) : wfZ x ∧ ∃ v, f x = some v := by
  obtain ⟨h1, h2⟩ := (h.2 x).1 hx
  exact ⟨h1, Option.isSome_iff_exists.1 h2⟩
/-- All pairs, by rising numbers. -/
noncomputable def pairsF {f : Int → Option Value} {zs : List Int} (h : KeyL f zs) : List (PairF f) := zs.attach.map fun x => ⟨(x.1, (h.val x.2).2.choose), (h.val x.2).1, (h.val x.2).2.choose_spec⟩
theorem pairsF_len {f : Int → Option Value} {zs : List Int} (h : KeyL f zs) : (pairsF h).length = zs.length := by simp [pairsF]
theorem pairsF_at {f : Int → Option Value} {zs : List Int} (h : KeyL f zs) {k : Nat} (hk : k < zs.length) : ∃ x : PairF f, (pairsF h)[k]? = some x ∧ x.1.1 = zs[k] := by
  have hk' : k < (pairsF h).length := by rw [pairsF_len]; exact hk
  refine ⟨(pairsF h)[k], List.getElem?_eq_getElem hk', ?_⟩
  simp [pairsF]
theorem pairsF_keys {f : Int → Option Value} {zs : List Int} (h : KeyL f zs) : (pairsF h).map (·.1.1) = zs := by
  apply List.ext_getElem
  · simp [pairsF_len]
  · intro i h1 h2
    obtain ⟨x, e1, e2⟩ := pairsF_at h h2
    rw [List.getElem_map]
    have : (pairsF h)[i]'(by simpa using h1) = x := by
      have h3 : i < (pairsF h).length := by simpa using h1
      rw [List.getElem?_eq_getElem h3] at e1
      exact Option.some.inj e1
    rw [this, e2]
set_option maxHeartbeats 4000000 in
theorem srtAll1_in (m : Nat) (hm : 1 ≤ m) (l g p b n : Nat) {f : Int → Option Value} {zs : List Int} (FF : List Nat) (B : Nat) (hz : KeyL f zs) (hn : n ≤ 17592186044416) (J Jx : List (PairF f) → World → Prop) (W : World) (hJ : AbidesFrom W.heap.size J)
    (hY : ∀ pre x W1, J pre W1 → pre.length < n → YieldAt Fence.wide (m - 1) Tryz.prog l (encP f x) W1 fun e W' => (e = .returned (.bool true) ∧ J (pre ++ [x]) W' ∧ KeepC FF B W1 W') ∨ (e = .returned (.bool false) ∧ Jx (pre ++ [x]) W'))
    (hc : W.cell? ⟨g, 0, none⟩ = some (.pointer (some ⟨p, 0, none⟩))) (hg : g ∉ FF) (hs : SrtW W p b n f) (hp : p ∉ FF) (hb : b ∉ FF) (hbB : b < B) (hF : ∀ i ∈ FF, i < W.heap.size) (h0 : J [] W) :
    CallsIn Fence.wide m Tryz.prog 62 #[.func (.yield l) #[] #[], .pointer (some ⟨g, 0, none⟩)] W fun e W' => (∃ v, e = .returned v) ∧ ((∃ xs, xs = pairsF hz ∧ J xs W') ∨ (∃ pre, pre <+: pairsF hz ∧ Jx pre W')) := by
  have c0 := hs.c0
  obtain ⟨-, hzl⟩ := hs.map.lenS hz undS 3
  refine callsIn_of_wp Tryz.func62 rfl trivial ?_ rfl
  simp only [Tryz.ntmps62, List.size_toArray, List.length_cons, List.length_nil, Nat.reduceAdd, Nat.reduceSub, Array.replicate_succ, Array.replicate_zero, List.push_toArray, List.append_toArray, List.nil_append, List.cons_append]
  gi_wp2
  refine ⟨trivial, (callsIn_wide.2 (keysS_any b W)).mono ?_⟩
  rintro e w1 ⟨rfl, rfl⟩
  gi_wp2
  refine ⟨trivial, (callsIn_wide.2 (sortedS_any hs.map hn)).mono ?_⟩
  rintro e w2 ⟨v, zs', rfl, hz', -, r, f⟩
  obtain rfl : zs' = zs := hz'.uniq hz
  have f2 : Fr [] W w2 := ((Fr.refl [] W).alloc _).trans_nil f
  have J2 : J [] w2 := hJ _ _ _ none h0 (fr_grown f2) (fun r e => by cases e)
  obtain ⟨A, c, rfl, -, -, -, -, -⟩ := r.shape
  have r2 := r
  have hrF : ∀ k, (Value.slice A zs'.length c).ownBlock = some k → k ∉ FF := fun k hk hm => by have := (r.lt k hk).1; have := hF k hm; omega
  obtain ⟨N, hN⟩ : ∃ N, zs'.length = N := ⟨_, rfl⟩
  rw [hN] at r2 hrF
  have HZ := Lib.hid hz
  have HN := Lib.hid hN
  have HR := Lib.hid (And.intro r2 hrF)
  have HS := Lib.hid (hs.keep_nil f2)
  have hc2 := f2.cell (by simp) hc
  have HC := Lib.hid hc2
  have J2' := Lib.hid J2
  rw [hN] at hzl ⊢
  clear hz' hs f f2 J2 r r2 hrF hc hc2 c0 h0 hN
  gi_wp2
  gi_loopw [16] (fun i wr => ∃ k : Nat, k ≤ N ∧ i = .int .i64 k ∧ J ((pairsF HZ.out).take k) wr ∧ KeepC FF B w2 wr) (fun i _ => N - (intOf i).toNat)
  case atStart => exact ⟨0, by omega, rfl, J2'.out, ⟨Nat.le_refl _, fun _ _ h _ _ => h⟩⟩
  case round =>
    obtain ⟨k, hkN, rfl, hJk, hK⟩ := hrel
    by_cases hlt : k < N
    · have d0 : (k : Int) < N := by omega
      have hkz : k < zs'.length := by rw [HN.out]; exact hlt
      obtain ⟨⟨⟨y, u⟩, hwf, hfu⟩, ex, ek⟩ := pairsF_at HZ.out hkz
      replace ek : y = zs'[k] := ek
      replace hfu : f y = some u := hfu
      replace hwf : wfZ y := hwf
      have rr := hK.row HR.out.1 HR.out.2
      obtain ⟨gk, ck, e⟩ := rr.hdD (by omega)
      cases e
      obtain ⟨g', o', e', hcs⟩ := rr.rdD.1 (by intro h0; have := congrArg List.length h0; simp at this; rw [this] at hkz; exact absurd hkz (by simp))
      cases e'
      have ck0 := hcs k (.int .i64 y) (by rw [List.getElem?_map, List.getElem?_eq_getElem hkz, ek]; rfl)
      rw [Nat.zero_add] at ck0
      have cb := hK.cell (a := ⟨g, 0, none⟩) hg HC.out
      have cp := hK.cell (a := ⟨p, 0, none⟩) hp HS.out.c0
      have mz : MapZ wr b n f := HS.out.map.blk_eq (by
        obtain ⟨D, ⟨es, clock, hbk, rest⟩, hf⟩ := HS.out.map
        rw [hbk]
        exact hK.same b _ hbk hb (.inl hbB))
      have hl := mz.look_ok undS (zeroS _) hwf
      rw [hfu] at hl
      simp only [Option.getD_some, Option.isSome_some] at hl
      obtain ⟨fn, tmps, assign, body, hy, hR⟩ := hY _ ⟨(y, u), hwf, hfu⟩ wr hJk (by rw [List.length_take, pairsF_len]; omega)
      replace hy : (Instr.yield l #[.int .i64 y, u]).run Tryz.prog wr = _ := hy
      have HT := Lib.hid (show (pairsF HZ.out).take (k + 1) = (pairsF HZ.out).take k ++ [⟨(y, u), hwf, hfu⟩] by
        rw [List.take_add_one, ex]; rfl)
      have HKK := Lib.hid hK
      clear hcs rr mz ex hK hJk ek
      clear hkz
      gi_wp2
      refine hR.mono ?_
      rintro e W3 (⟨rfl, hJ3, hk3⟩ | ⟨rfl, hJx3⟩)
      · have HP := Lib.hid (And.intro hJ3 hk3)
        clear hR hy hl ck0 cb cp hJ3 hk3
        gi_wp2
        go_roundw
        case rel => exact ⟨k + 1, by omega, by go_num, by rw [HT.out]; exact HP.out.1, keepC_t HKK.out HP.out.2⟩
        case measure => simp [intOf]; omega
      · have HP := Lib.hid hJx3
        clear hR hy hl ck0 cb cp hJx3
        gi_wp2
        refine bodyPost_ret (results_none rfl _ _ _) rfl ?_
        exact ⟨⟨_, rfl⟩, .inr ⟨_, by rw [← HT.out]; exact List.take_prefix _ _, HP.out⟩⟩
    · obtain rfl : k = N := by omega
      have d0 : ¬ ((k : Int) < k) := by omega
      have HP := Lib.hid hJk
      clear hJk hK
      gi_wp2
      go_end0
      exact ⟨⟨_, rfl⟩, .inl (by have := HP.out; rwa [List.take_of_length_le (by rw [pairsF_len, HN.out]; omega)] at this)⟩
/-- All hands back an iterator. -/
theorem srtAll1_stops (m : Nat) (hm : 1 ≤ m) (g p b n : Nat) {f : Int → Option Value} {zs : List Int} (FF : List Nat) (B : Nat) (hz : KeyL f zs) (hn : n ≤ 17592186044416) (w : World)
    (hc : w.cell? ⟨g, 0, none⟩ = some (.pointer (some ⟨p, 0, none⟩))) (hg : g ∉ FF) (hs : SrtW w p b n f) (hp : p ∉ FF) (hb : b ∉ FF) (hbB : b < B) (hF : ∀ i ∈ FF, i < w.heap.size) :
    SeqStopsK Fence.wide m Tryz.prog 62 #[.pointer (some ⟨g, 0, none⟩)] (encP f) (KeepC FF B) (fun xs => xs = pairsF hz) (fun pre => pre <+: pairsF hz) n w := fun l J Jx W hW hJ _ hY h0 => by
  have hgl : g < w.heap.size := by
    rcases Nat.lt_or_ge g w.heap.size with h | h
    · exact h
    · unfold World.cell? at hc
      dsimp only at hc
      rw [Array.getElem?_eq_none h] at hc
      cases hc
  have hc' : W.cell? ⟨g, 0, none⟩ = some (.pointer (some ⟨p, 0, none⟩)) := (hW.cell (p := ⟨g, 0, none⟩) hgl).trans hc
  have hp' := hs.blk.lt
  have hb' := hs.map.lt
  have hs' : SrtW W p b n f := ⟨by show W.heap[p]? = _; rw [hW.block p hp']; exact hs.blk, hs.map.blk_eq (hW.block b hb')⟩
  exact srtAll1_in m hm l g p b n FF B hz hn J Jx W hJ hY hc' hg hs' hp hb hbB (fun i hi => Nat.lt_of_lt_of_le (hF i hi) hW.size) h0
end Go.Proofs.YtamifdfkgbaobaaGreatDoor
/-
  Layer 15: a cache, and how it lies in memory.
-/
set_option linter.unusedSimpArgs false
set_option linter.unusedVariables false
set_option linter.unnecessarySimpa false
namespace Go.Proofs.YtamifdfkgbaobaaGreatDoor
open Go.RowKit
set_option maxRecDepth 100000

/-- Where its parts lie: disk, journal, Sorted, Sorted's map, the cache itself. -/
structure CaP where
  p : Nat
  g : Nat
  s : Nat
  b : Nat
  c : Nat
/-- Dirty blocks as values of a map. -/
def DirV (w : World) (f : Int → Option Value) (d : Int → Option (List UInt8)) : Prop := ∀ x, (f x = none ∧ d x = none) ∨ ∃ v l, f x = some v ∧ d x = some l ∧ BlkB w v l ∧ 0 ≤ x ∧ x < 4096
structure CaW (w : World) (P : CaP) (O : List Nat) (M : CaM) : Prop where
  blk : Blk w P.c 65 #[.pointer (some ⟨P.p, 0, none⟩), .pointer (some ⟨P.g, 0, none⟩), .pointer (some ⟨P.s, 0, none⟩), .bool false]
  dsk : Dsk w P.p O M.D
  jr : Jr w P.g P.p M.J
  srt : ∃ f, SrtW w P.s P.b 4096 f ∧ DirV w f M.dirty
  nO : P.c ∉ O ∧ P.g ∉ O ∧ P.s ∉ O ∧ P.b ∉ O
/-- What is the cache's own. -/
def CaP.own (P : CaP) (O : List Nat) : List Nat := P.c :: P.g :: P.b :: O
section
variable {w w' w1 w2 : World} {P : CaP} {O : List Nat} {M M' : CaM} {D' : DkM} {F : List Nat}
theorem DirV.keepT {f : Int → Option Value} {d : Int → Option (List UInt8)} (h : DirV w f d) (fr : Fr F w w') (h8 : NoTy w F 5) : DirV w' f d := fun x => by
  rcases h x with h | ⟨v, l, h1, h2, h3, h4⟩
  · exact .inl h
  · exact .inr ⟨v, l, h1, h2, h3.keepT fr h8, h4⟩
theorem SrtW.noTyB {p b n : Nat} {f : Int → Option Value} (h : SrtW w p b n f) (e : TypeId) : NoTy w [b] e := h.noTy e
theorem CaW.keep (h : CaW w P O M) (f : Fr F w w') (hc : P.c ∉ F) (hg : P.g ∉ F) (hs : P.s ∉ F) (hb : P.b ∉ F) (hO : ∀ i ∈ O, i ∉ F) (h8 : NoTy w F 5) : CaW w' P O M := by
  obtain ⟨v, h1, h2⟩ := h.srt
  exact ⟨h.blk.keep f hc, h.dsk.keep f hO h8, h.jr.keep f hg, ⟨v, h1.keep f hs hb, h2.keepT f h8⟩, h.nO⟩
theorem CaW.keep_nil (h : CaW w P O M) (f : Fr [] w w') : CaW w' P O M := h.keep f (by simp) (by simp) (by simp) (by simp) (fun i _ => by simp) (NoTy.nil _ _)
theorem CaW.lts (h : CaW w P O M) : P.c < w.heap.size ∧ P.g < w.heap.size ∧ P.s < w.heap.size ∧ P.b < w.heap.size ∧ ∀ i ∈ O, i < w.heap.size := by
  obtain ⟨v, h1, -⟩ := h.srt
  obtain ⟨X, hX⟩ := h.dsk
  exact ⟨h.blk.lt, h.jr.lt, h1.blk.lt, h1.map.lt, hX.lt⟩
theorem CaW.ne (h : CaW w P O M) : P.c ≠ P.g ∧ P.c ≠ P.s ∧ P.c ≠ P.b ∧ P.g ≠ P.s ∧ P.g ≠ P.b ∧ P.s ≠ P.b := by
  obtain ⟨v, h1, -⟩ := h.srt
  have a := h.blk
  have b := h.jr
  have c := h1.blk
  have d : ∀ e cs fz, w.heap[P.b]? ≠ some (.cells cs e fz) := fun e cs fz => h1.noTy e P.b (List.mem_singleton.2 rfl) cs fz
  unfold Jr at b
  unfold Blk at a b c
  refine ⟨fun e => ?_, fun e => ?_, fun e => ?_, fun e => ?_, fun e => ?_, fun e => ?_⟩
  · rw [e, b] at a; exact absurd a (by intro h; cases h)
  · rw [e, c] at a; exact absurd a (by intro h; cases h)
  · rw [e] at a; exact d _ _ _ a
  · rw [e, c] at b; exact absurd b (by intro h; cases h)
  · rw [e] at b; exact d _ _ _ b
  · rw [e] at c; exact d _ _ _ c
/-- What a cache's call leaves. -/
def AftC (w : World) (P : CaP) (O : List Nat) (M' : CaM) (w' : World) : Prop := ∃ O', CaW w' P O' M' ∧ (∀ i ∈ O', i ∈ O ∨ w.heap.size ≤ i) ∧ Fr (P.own O) w w'
theorem AftC.same (h : CaW w' P O M) (f : Fr [] w w') : AftC w P O M w' := ⟨O, h, fun i hi => .inl hi, f.nil⟩
theorem AftC.fr (h : AftC w P O M w') : Fr (P.own O) w w' := by obtain ⟨O', -, -, f⟩ := h; exact f
theorem AftC.pre (f : Fr [] w w1) (h : AftC w1 P O M w2) : AftC w P O M w2 := by
  obtain ⟨O', h1, h2, h3⟩ := h
  refine ⟨O', h1, fun i hi => ?_, f.nil.trans h3 (fun i hi => .inl hi)⟩
  rcases h2 i hi with h | h
  · exact .inl h
  · exact .inr (Nat.le_trans f.size h)
theorem AftC.keep_nil (h : AftC w P O M w1) (f : Fr [] w1 w2) : AftC w P O M w2 := by
  obtain ⟨O', h1, h2, h3⟩ := h
  exact ⟨O', h1.keep_nil f, h2, h3.trans_nil f⟩
theorem AftC.trans (h : CaW w P O M) {O1 : List Nat} (ho : ∀ i ∈ O1, i ∈ O ∨ w.heap.size ≤ i) (f : Fr (P.own O) w w1) (h2 : AftC w1 P O1 M' w2) : AftC w P O M' w2 := by
  obtain ⟨O2, k1, k2, k3⟩ := h2
  refine ⟨O2, k1, fun i hi => ?_, f.trans k3 (fun i hi => ?_)⟩
  · rcases k2 i hi with h | h
    · exact ho i h
    · exact .inr (Nat.le_trans f.size h)
  · unfold CaP.own at hi ⊢
    simp only [List.mem_cons] at hi ⊢
    rcases hi with h | h | h | h
    · exact .inl (.inl h)
    · exact .inl (.inr (.inl h))
    · exact .inl (.inr (.inr (.inl h)))
    · rcases ho i h with h | h
      · exact .inl (.inr (.inr (.inr h)))
      · exact .inr h
theorem CaW.no8 (h : CaW w P O M) : NoTy w (P.own O) 5 := fun i hi cs fz => by
  unfold CaP.own at hi
  simp only [List.mem_cons] at hi
  rcases hi with rfl | rfl | rfl | hi
  · have := h.blk
    unfold Blk at this
    rw [this]; intro e; cases e
  · have := h.jr
    unfold Jr Blk at this
    rw [this]; intro e; cases e
  · obtain ⟨v, h1, -⟩ := h.srt
    exact h1.noTy _ _ (List.mem_singleton.2 rfl) cs fz
  · exact h.dsk.no8s i hi cs fz
/-- A call of the disk. -/
theorem CaW.disk (h : CaW w P O M) (ha : AftD w P.p O D' w') : AftC w P O { M with D := D' } w' := by
  obtain ⟨O', k1, k2, k3⟩ := ha
  obtain ⟨v, h1, h2⟩ := h.srt
  obtain ⟨n1, n2, n3, n4⟩ := h.nO
  obtain ⟨l1, l2, l3, l4, -⟩ := h.lts
  have key : ∀ i, i < w.heap.size → i ∉ O → i ∉ O' := fun i hi hn hm => by
    rcases k2 i hm with h | h
    · exact hn h
    · omega
  exact ⟨O', ⟨h.blk.keep k3 n1, k1, h.jr.keep k3 n2, ⟨v, h1.keep k3 n3 n4, h2.keepT k3 h.dsk.no8s⟩, key _ l1 n1, key _ l2 n2, key _ l3 n3, key _ l4 n4⟩, k2, (Fr.refl (P.own O) w).trans k3 (fun i hi => .inl (by unfold CaP.own; simp [hi]))⟩
/-- A call of the journal. -/
theorem CaW.journal (h : CaW w P O M) {r : Int × DkM × JrM} {e : Ending} (ha : JopC w P.p P.g O r e w') : e = .returned (.int .i64 r.1) ∧ AftC w P O { M with D := r.2.1, J := r.2.2 } w' := by
  obtain ⟨he, O', k1, k2, k4, k3⟩ := ha
  obtain ⟨v, h1, h2⟩ := h.srt
  obtain ⟨n1, n2, n3, n4⟩ := h.nO
  obtain ⟨l1, l2, l3, l4, -⟩ := h.lts
  obtain ⟨e1, e2, e3, e4, e5, e6⟩ := h.ne
  have key : ∀ i, i < w.heap.size → i ∉ O → i ∉ O' := fun i hi hn hm => by
    rcases k2 i hm with h | h
    · exact hn h
    · omega
  have key2 : ∀ i, i ≠ P.g → i ∉ O → i ∉ P.g :: O := fun i hi hn hm => by
    rcases List.mem_cons.1 hm with h | h
    · exact hi h
    · exact hn h
  have h8 : NoTy w (P.g :: O) 5 := fun i hi cs fz => h.no8 i (by unfold CaP.own; simp only [List.mem_cons] at hi ⊢; rcases hi with h | h; exact .inr (.inl h); exact .inr (.inr (.inr h))) cs fz
  exact ⟨he, O', ⟨h.blk.keep k3 (key2 _ e1 n1), k1, k4, ⟨v, h1.keep k3 (key2 _ (Ne.symm e4) n3) (key2 _ (Ne.symm e5) n4), h2.keepT k3 h8⟩, key _ l1 n1, key _ l2 n2, key _ l3 n3, key _ l4 n4⟩, k2, (Fr.refl (P.own O) w).trans k3 (fun i hi => .inl (by unfold CaP.own; simp only [List.mem_cons] at hi ⊢; rcases hi with h | h; exact .inr (.inl h); exact .inr (.inr (.inr h))))⟩
end
/-- A function value whose call does something. -/
def FnS (w : World) (v : Value) (R : Ending → World → Prop) : Prop := ∃ f B C, v = .func (.func f) B C ∧ (∀ args w', (callFunc f args).run Tryz.prog w' = .ok (.enter f args) w') ∧ Calls Tryz.prog f (B ++ C) w R
end Go.Proofs.YtamifdfkgbaobaaGreatDoor
/-
  Layer 15: a cache's short functions; run.
-/
set_option linter.unusedSimpArgs false
set_option linter.unusedVariables false
set_option linter.unnecessarySimpa false
namespace Go.Proofs.YtamifdfkgbaobaaGreatDoor
open Go.RowKit
set_option maxRecDepth 100000

section
variable {w w' : World} {P : CaP} {O : List Nat} {M : CaM}
theorem CaW.c0 (h : CaW w P O M) : w.cell? ⟨P.c, 0, none⟩ = some (.pointer (some ⟨P.p, 0, none⟩)) := h.blk.cell 0
theorem CaW.c1 (h : CaW w P O M) : w.cell? ⟨P.c, 1, none⟩ = some (.pointer (some ⟨P.g, 0, none⟩)) := h.blk.cell 1
theorem CaW.c2 (h : CaW w P O M) : w.cell? ⟨P.c, 2, none⟩ = some (.pointer (some ⟨P.s, 0, none⟩)) := h.blk.cell 2
theorem CaW.c3 (h : CaW w P O M) : w.cell? ⟨P.c, 3, none⟩ = some (.bool false) := h.blk.cell 3
theorem caState_nil (w : World) : Calls Tryz.prog 38 #[.pointer none] w fun e w' => e = .returned (.int .i64 6) ∧ w = w' := by
  go_enter Tryz.func38, Tryz.ntmps38
  go_wp2_with fail
  go_ret
  exact ⟨rfl, rfl⟩
theorem caState_any (h : CaW w P O M) : Calls Tryz.prog 38 #[.pointer (some ⟨P.c, 0, none⟩)] w fun e w' => e = .returned (.int .i64 0) ∧ w = w' := by
  have c1 := h.c1
  have c3 := h.c3
  clear h
  go_enter Tryz.func38, Tryz.ntmps38
  go_wp2_with fail
  go_ret
  exact ⟨rfl, rfl⟩
theorem caUsed_nil (w : World) : Calls Tryz.prog 12 #[.pointer none] w fun e w' => e = .returned (.int .i64 0) ∧ w = w' := by
  go_enter Tryz.func12, Tryz.ntmps12
  go_wp2_with fail
  go_ret
  exact ⟨rfl, rfl⟩
theorem caUsed_any (h : CaW w P O M) : Calls Tryz.prog 12 #[.pointer (some ⟨P.c, 0, none⟩)] w fun e w' => e = .returned (.int .i64 M.J.used) ∧ w = w' := by
  have c1 := h.c1
  have cu := jnUsed_any h.jr
  clear h
  go_enter Tryz.func12, Tryz.ntmps12
  go_wp2_with (go_at_call 34; refine cu.mono ?_; rintro e w' ⟨rfl, rfl⟩)
  go_ret
  exact ⟨rfl, rfl⟩
theorem caMost_nil (w : World) : Calls Tryz.prog 18 #[.pointer none] w fun e w' => e = .returned (.int .i64 0) ∧ w = w' := by
  go_enter Tryz.func18, Tryz.ntmps18
  go_wp2_with fail
  go_ret
  exact ⟨rfl, rfl⟩
theorem caMost_any (h : CaW w P O M) (ok : M.J.ok) : Calls Tryz.prog 18 #[.pointer (some ⟨P.c, 0, none⟩)] w fun e w' => e = .returned (.int .i64 M.J.most) ∧ w = w' := by
  have c1 := h.c1
  have cu := jnMost_any h.jr ok
  clear h
  go_enter Tryz.func18, Tryz.ntmps18
  go_wp2_with (go_at_call 28; refine cu.mono ?_; rintro e w' ⟨rfl, rfl⟩)
  go_ret
  exact ⟨rfl, rfl⟩
theorem caRun_nil (w : World) (v : Value) : Calls Tryz.prog 29 #[.pointer none, v] w fun e w' => e = .returned (.int .i64 6) ∧ w = w' := by
  go_enter Tryz.func29, Tryz.ntmps29
  go_wp2_with (go_at_call 38; refine (caState_nil _).mono ?_; rintro e w' ⟨rfl, rfl⟩)
  go_ret
  exact ⟨rfl, rfl⟩
set_option maxHeartbeats 1000000 in
/-- Steps, one behind the other, of which none is refused by the disk. -/
theorem caRun_any {c : Nat} {A : Option Addr} {n cap : Nat} {fs : List Value} (hr : Row w 0 37 1 (.slice A n cap) n fs) (hn : n ≤ 4398046511104) (F : List Nat) (hA : ∀ g, (Value.slice A n cap).ownBlock = some g → g ∉ F) (PP : Nat → World → Prop) (Q : Int → World → Prop)
    (hs : Calls Tryz.prog 38 #[.pointer (some ⟨c, 0, none⟩)] w fun e w' => e = .returned (.int .i64 0) ∧ w = w') (h0 : PP 0 w) (hF : ∀ k w', PP k w' → Fr F w w')
    (hstep : ∀ k (hk : k < fs.length) w', PP k w' → FnS w' fs[k] fun e w'' => (e = .returned (.int .i64 0) ∧ PP (k + 1) w'') ∨ ∃ z, z ≠ 0 ∧ z ≠ 102 ∧ e = .returned (.int .i64 z) ∧ w''.cell? ⟨c, 3, none⟩ = some (.bool false) ∧ w''.frozen? ⟨c, 3, none⟩ = false ∧ Q z (w''.setCell ⟨c, 3, none⟩ (.bool false))) :
    Calls Tryz.prog 29 #[.pointer (some ⟨c, 0, none⟩), .slice A n cap] w fun e w' => (e = .returned (.int .i64 0) ∧ PP n w') ∨ ∃ z, e = .returned (.int .i64 z) ∧ Q z w' := by
  have hfl : fs.length = n := by have := hr.1; omega
  have HR := Lib.hid (And.intro hr hA)
  have HS := Lib.hid hstep
  have HF := Lib.hid hF
  clear hr hA hF hstep
  go_enter Tryz.func29, Tryz.ntmps29
  go_wp2_with (go_at_call 38; refine hs.mono ?_; rintro e w' ⟨rfl, rfl⟩)
  go_loopw [16] (fun i wr => ∃ k : Nat, k ≤ n ∧ i = .int .i64 k ∧ PP k wr) (fun i _ => n - (intOf i).toNat)
  case atStart => exact ⟨0, by omega, rfl, h0⟩
  case round =>
    clear h0 hs
    obtain ⟨k, hkn, rfl, hp⟩ := hrel
    by_cases hlt : k < n
    · have d0 : (k : Int) < n := by omega
      have hkf : k < fs.length := by omega
      have rr := HR.out.1.keep (HF.out k wr hp) HR.out.2
      obtain ⟨g, cg, e⟩ := rr.hdD (by omega)
      cases e
      obtain ⟨g', o', e', hcs⟩ := rr.rdD.1 (by intro h0; rw [h0] at hkf; simp at hkf)
      cases e'
      have ck := hcs k _ (List.getElem?_eq_getElem hkf)
      rw [Nat.zero_add] at ck
      obtain ⟨f, B, C, hv, hcf, hc⟩ := HS.out k hkf wr hp
      rw [hv] at ck
      clear rr hcs hv hp
      go_wp2_with fail
      refine hc.mono ?_
      clear hc ck
      rintro e w5 (⟨rfl, hp⟩ | ⟨z, hz0, hz2, rfl, c3, f3, hq⟩)
      · have HP := Lib.hid hp
        clear hp hcf
        go_wp2_with fail
        exact ⟨⟨k + 1, by omega, by go_num, HP.out⟩, by simp [intOf]; omega⟩
      · have dz : (z == 0) = false := by simpa using hz0
        have d2 : (z == 102) = false := by simpa using hz2
        have HQ := Lib.hid hq
        clear hq hcf
        go_wp2_with fail
        go_ret
        exact .inr ⟨z, rfl, HQ.out⟩
    · obtain rfl : k = n := by omega
      have d0 : ¬ ((k : Int) < k) := by omega
      have HP := Lib.hid hp
      clear hp
      go_wp2_with fail
      go_ret
      exact .inl ⟨rfl, HP.out⟩
/-- What a block reads as, and the error. -/
def rdE (M : CaM) (x : Int) : Int := match M.dirty x with
  | some _ => 0
  | none => M.D.readE x
theorem caRead_nil (w : World) (x : Int) : Calls Tryz.prog 15 #[.pointer none, .int .i64 x] w fun e w' => e = .returned (.tuple #[.slice none 0 0, .int .i64 6]) ∧ w = w' := by
  go_enter Tryz.func15, Tryz.ntmps15
  go_wp2_with (go_at_call 38; refine (caState_nil _).mono ?_; rintro e w' ⟨rfl, rfl⟩)
  go_ret2
  exact ⟨rfl, rfl⟩
set_option maxHeartbeats 1000000 in
theorem caRead_any (h : CaW w P O M) (x : Int) (hx : wfZ x) : Calls Tryz.prog 15 #[.pointer (some ⟨P.c, 0, none⟩), .int .i64 x] w (ReadC w (rdM M x) (rdE M x)) := by
  have cs := caState_any h
  have c0 := h.c0
  have c2 := h.c2
  obtain ⟨f, hsr, hdv⟩ := h.srt
  have cg := srtGet_any hsr x hx
  have cr := dkRead_any h.dsk x
  rcases hdv x with ⟨hf, hd⟩ | ⟨v, l, hf, hd, hb, -, -⟩
  · have HR := Lib.hid (show rdM M x = M.D.readR x ∧ rdE M x = M.D.readE x from ⟨by rw [rdM, hd], by rw [rdE, hd]⟩)
    rw [HR.out.1, HR.out.2]
    obtain ⟨z, hz⟩ : ∃ z, M.D.readE x = z := ⟨_, rfl⟩
    obtain ⟨l, hl⟩ : ∃ l, M.D.readR x = l := ⟨_, rfl⟩
    rw [hz, hl] at cr ⊢
    rw [hf] at cg
    simp only [Option.getD_none, Option.isSome_none] at cg
    clear h hsr hdv hf hd hz hl HR
    go_enter Tryz.func15, Tryz.ntmps15
    go_wp2_with (first | (go_at_call 38; refine cs.mono ?_; rintro e w' ⟨rfl, rfl⟩) | (go_at_call 39; refine cg.mono ?_; rintro e w' ⟨rfl, rfl⟩))
    refine cr.mono ?_
    rintro e w5 ⟨v5, rfl, r5, f5⟩
    have HF := Lib.hid (And.intro r5 f5)
    clear cr cg cs r5 f5
    go_wp2_with fail
    go_ret2
    exact ⟨v5, rfl, HF.out⟩
  · have HR := Lib.hid (show rdM M x = l ∧ rdE M x = 0 from ⟨by rw [rdM, hd], by rw [rdE, hd]⟩)
    rw [HR.out.1, HR.out.2]
    rw [hf] at cg
    simp only [Option.getD_some, Option.isSome_some] at cg
    have hl512 := hb.1
    obtain ⟨Av, cv, rfl, -⟩ := hb.2.shape
    have cc := clone_any Av l 512 cv w hb.1 hb.2.rdD.1 hb.2.rdD.2.2 (by omega)
    clear h hsr hdv hf hd HR cr hb
    go_enter Tryz.func15, Tryz.ntmps15
    go_wp2_with (first | (go_at_call 38; refine cs.mono ?_; rintro e w' ⟨rfl, rfl⟩) | (go_at_call 39; refine cg.mono ?_; rintro e w' ⟨rfl, rfl⟩))
    refine cc.mono ?_
    rintro e w5 ⟨v5, rfl, r5, f5⟩
    have HF := Lib.hid (And.intro r5 f5)
    clear cc cg cs r5 f5
    go_wp2_with fail
    go_ret2
    exact ⟨v5, rfl, by rw [hl512]; exact HF.out.1, HF.out.2⟩
end
end Go.Proofs.YtamifdfkgbaobaaGreatDoor
/-
  Layer 14: what must come of every program.
-/
set_option linter.unusedSimpArgs false
set_option linter.unusedVariables false
set_option linter.unnecessarySimpa false
namespace Go.Proofs.YtamifdfkgbaobaaGreatDoor
open Go.RowKit
set_option maxRecDepth 100000

/-- A disk and a journal that were made behind w, as they lie in w'. -/
def LJ (w w' : World) (p g : Nat) (D : DkM) (J : JrM) : Prop := ∃ O, Dsk w' p O D ∧ Jr w' g p J ∧ g ∉ O ∧ (∀ i ∈ O, w.heap.size ≤ i) ∧ w.heap.size ≤ g ∧ Fr [] w w'
section
variable {w w1 w2 : World} {p g : Nat} {D D' : DkM} {J J' : JrM}
theorem LJ.fr (h : LJ w w1 p g D J) : Fr [] w w1 := by obtain ⟨O, -, -, -, -, -, f⟩ := h; exact f
theorem LJ.jr (h : LJ w w1 p g D J) : Jr w1 g p J := by obtain ⟨O, -, h, -⟩ := h; exact h
theorem LJ.keep (h : LJ w w1 p g D J) (f : Fr [] w1 w2) : LJ w w2 p g D J := by
  obtain ⟨O, h1, h2, h3, h4, h5, h6⟩ := h
  exact ⟨O, h1.keep_nil f, h2.keep_nil f, h3, h4, h5, h6.trans_nil f⟩
theorem LJ.lv (h : LJ w w1 p g D J) : LV w w1 p D := by
  obtain ⟨O, h1, h2, h3, h4, h5, h6⟩ := h
  exact ⟨O, h1, h4, h6⟩
theorem LJ.jop {f : Nat} {args : Array Value} {r : Int × DkM × JrM} (h : LJ w w1 p g D J) (hc : ∀ O, Dsk w1 p O D → g ∉ O → Jr w1 g p J → Calls Tryz.prog f args w1 (JopC w1 p g O r)) :
    Calls Tryz.prog f args w1 fun e w' => e = .returned (.int .i64 r.1) ∧ LJ w w' p g r.2.1 r.2.2 := by
  obtain ⟨O, h1, h2, h3, h4, h5, h6⟩ := h
  refine (hc O h1 h3 h2).mono ?_
  rintro e w' ⟨he, O', k1, k2, k3, k4⟩
  have hgl := h2.lt
  refine ⟨he, O', k1, k3, fun hm => ?_, fun i hi => ?_, h5, h6.trans k4 (fun i hi => .inr ?_)⟩
  · rcases k2 g hm with h | h
    · exact h3 h
    · omega
  · rcases k2 i hi with h | h
    · exact h4 i h
    · exact Nat.le_trans h6.size h
  · rcases List.mem_cons.1 hi with rfl | hi
    · exact h5
    · exact h4 i hi
theorem LJ.append (h : LJ w w1 p g D J) (ok : J.ok) {A : Option Addr} {n c : Nat} {rs : List (Int × List UInt8)} (hr : RdR w1 A n c rs) (hK : KG w) (hu : ∀ x, (D.uns x).length + 70 ≤ 4398046511104) :
    Calls Tryz.prog 31 #[.pointer (some ⟨g, 0, none⟩), .slice A n c] w1 fun e w' => e = .returned (.int .i64 (appM D J rs).1) ∧ LJ w w' p g (appM D J rs).2.1 (appM D J rs).2.2 :=
  h.jop fun O h1 h2 h3 => jnAppend_any h1 h3 h2 ok hr (hK.keep h.fr) hu
theorem LJ.reset (h : LJ w w1 p g D J) (ok : J.ok) (hK : KG w) (hu : ∀ x, (D.uns x).length + 2 ≤ 4398046511104) :
    Calls Tryz.prog 46 #[.pointer (some ⟨g, 0, none⟩)] w1 fun e w' => e = .returned (.int .i64 (resM D J).1) ∧ LJ w w' p g (resM D J).2.1 (resM D J).2.2 :=
  h.jop fun O h1 h2 h3 => jnReset_any h1 h3 h2 ok (hK.keep h.fr) hu
theorem LJ.aft {O : List Nat} (h1 : Dsk w1 p O D) (h2 : Jr w1 g p J) (h3 : g ∉ O) (h4 : ∀ i ∈ O, w.heap.size ≤ i) (h5 : w.heap.size ≤ g) (h6 : Fr [] w w1) (ha : AftD w1 p O D' w2) : LJ w w2 p g D' J := by
  obtain ⟨O', k1, k2, k3⟩ := ha
  have hgl := h2.lt
  refine ⟨O', k1, h2.keep k3 h3, fun hm => ?_, fun i hi => ?_, h5, h6.trans k3 (fun i hi => .inr (h4 i hi))⟩
  · rcases k2 g hm with h | h
    · exact h3 h
    · omega
  · rcases k2 i hi with h | h
    · exact h4 i h
    · exact Nat.le_trans h6.size h
theorem LJ.flush (h : LJ w w1 p g D J) : Calls Tryz.prog 42 #[.pointer (some ⟨p, 0, none⟩)] w1 fun e w' => e = .returned (.int .i64 D.flushE) ∧ LJ w w' p g D.flush J := by
  obtain ⟨O, h1, h2, h3, h4, h5, h6⟩ := h
  exact (dkFlush_any h1).mono fun e w' ⟨he, ha⟩ => ⟨he, LJ.aft h1 h2 h3 h4 h5 h6 ha⟩
theorem LJ.crash0 (h : LJ w w1 p g D J) : Calls Tryz.prog 20 #[.pointer (some ⟨p, 0, none⟩), .slice none 0 0] w1 fun e w' => e = .returned (.int .i64 (D.crashE [])) ∧ LJ w w' p g (D.crash []) J := by
  obtain ⟨O, h1, h2, h3, h4, h5, h6⟩ := h
  exact (dkCrash_any h1 none 0 0 [] ⟨rfl, fun i h => by simp at h, fun p h => by cases h⟩ (by omega)).mono fun e w' ⟨he, ha⟩ => ⟨he, LJ.aft h1 h2 h3 h4 h5 h6 ha⟩
theorem LJ.made {O : List Nat} (h1 : Dsk w1 p O D) (h4 : ∀ i ∈ O, w.heap.size ≤ i) (h6 : Fr [] w w1) (f : Fr [] w1 w2) (hj : Jr w2 g p J) (hg : w1.heap.size ≤ g) : LJ w w2 p g D J := by
  refine ⟨O, h1.keep_nil f, hj, fun hm => ?_, h4, Nat.le_trans h6.size hg, h6.trans_nil f⟩
  have : g < w1.heap.size := by obtain ⟨X, hX⟩ := h1; exact hX.lt _ hm
  omega
theorem OpenC.yes {x y : Int} {m : Nat} {e : Ending} (h : OpenC w p D x y e w1) (hr : jRight D x y = true) (ho : D.off = false) (hm : rmV (D.readR x) = some m) :
    ∃ g v ps, e = .returned (.tuple #[.pointer (some ⟨g, 0, none⟩), v, .int .i64 0]) ∧ w.heap.size ≤ g ∧ RRow w1 w.heap.size v ps (scanA D x y m).1 ∧ Jr w1 g p (openJ x y (scanA D x y m).2.2 (scanA D x y m).2.1) ∧ Fr [] w w1 := by
  obtain ⟨f, h | h | h | ⟨m', g, v, ps, -, -, k1, k2, k3, k4, k5⟩⟩ := h
  · rw [hr] at h; cases h.1
  · rw [ho] at h; cases h.2.1
  · rw [hm] at h; cases h.2.2.1
  · rw [hm] at k1
    cases k1
    exact ⟨g, v, ps, k2, k3, k4, k5, f⟩
theorem rdR_one (w : World) (x : Int) (v : Value) (l : List UInt8) (hx : in64 x) (h : SlB w v l) (hl : l.length ≤ 140737488355328) : RdR (w.alloc (.cells #[.int .i64 x, v] 49)) (some ⟨w.heap.size, 0, none⟩) 1 1 [(x, l)] := by
  have B2 := Blk.new w 49 #[.int .i64 x, v]
  refine ⟨rfl, fun _ => ⟨_, _, rfl, B2.lt, fun i hi => ?_⟩, fun h => (by cases h), by omega, by omega⟩
  obtain rfl : i = 0 := by simp at hi; omega
  exact ⟨hx, B2.cell 0, v, B2.cell 1, h.keep_nil ((Fr.refl _ _).alloc _), hl⟩
end
end Go.Proofs.YtamifdfkgbaobaaGreatDoor
/-
  Layer 15: put, Open.
-/
set_option linter.unusedSimpArgs false
set_option linter.unusedVariables false
set_option linter.unnecessarySimpa false
namespace Go.Proofs.YtamifdfkgbaobaaGreatDoor
open Go.RowKit
set_option maxRecDepth 100000

theorem putD_snoc (d : Int → Option (List UInt8)) (l : List (Int × List UInt8)) (r : Int × List UInt8) : putD d (l ++ [r]) = updD (putD d l) r := by
  rw [putD, List.foldl_append]
  rfl
section
variable {w w' : World} {P : CaP} {O : List Nat} {M : CaM}
theorem CaW.set (h : CaW w P O M) {f : Int → Option Value} (hf : DirV w f M.dirty) {x : Int} {v : Value} {l : List UInt8} (hx : 0 ≤ x ∧ x < 4096) (hb : BlkB w v l) {n : Nat} (hs : SrtW w' P.s P.b n (fput f x v)) (fr : Fr [P.b] w w') :
    CaW w' P O { M with dirty := updD M.dirty (x, l) } := by
  obtain ⟨u, h1, -⟩ := h.srt
  obtain ⟨e1, e2, e3, e4, e5, e6⟩ := h.ne
  have h8 := h1.noTyB 5
  have hd : DirV w' (fput f x v) (updD M.dirty (x, l)) := fun y => by
    by_cases e : y = x
    · subst e
      exact .inr ⟨v, l, if_pos rfl, if_pos rfl, hb.keepT fr h8, hx⟩
    · have a1 : fput f x v y = f y := if_neg e
      have a2 : updD M.dirty (x, l) y = M.dirty y := if_neg e
      rw [a1, a2]
      rcases hf y with h | ⟨v', l', b1, b2, b3, b4⟩
      · exact .inl h
      · exact .inr ⟨v', l', b1, b2, b3.keepT fr h8, b4⟩
  refine ⟨h.blk.keep fr (fun hm => e3 (List.mem_singleton.1 hm)), h.dsk.keep fr (fun i hi hm => h.nO.2.2.2 (by rw [← List.mem_singleton.1 hm]; exact hi)) h8, h.jr.keep fr (fun hm => e5 (List.mem_singleton.1 hm)), ⟨_, ⟨hs.blk, hs.map.tight (K := 4096) (fun y _ hy => ?_)⟩, hd⟩, h.nO⟩
  rcases hd y with h | ⟨_, _, -, -, -, b4⟩
  · exact absurd h.1 hy
  · exact b4
set_option maxHeartbeats 2000000 in
theorem caPut_any (h : CaW w P O M) {A : Option Addr} {n c : Nat} {rs : List (Int × List UInt8)} (hl : rs.length = n) (hn : n ≤ 4096) (hr : ∀ w', Fr [P.b] w w' → RdX w' A rs) (h5 : ∀ r ∈ rs, r.2.length = 512) (hk : ∀ r ∈ rs, 0 ≤ r.1 ∧ r.1 < 4096) :
    Calls Tryz.prog 25 #[.pointer (some ⟨P.c, 0, none⟩), .slice A n c] w fun e w' => e = .returned (.tuple #[]) ∧ CaW w' P O { M with dirty := putD M.dirty rs } ∧ Fr [P.b] w w' := by
  have HR := Lib.hid (And.intro hr (And.intro h5 hk))
  have HH := Lib.hid h
  clear h hr h5 hk
  go_enter Tryz.func25, Tryz.ntmps25
  go_wp2_with fail
  go_loopw [8] (fun i wr => ∃ k : Nat, k ≤ n ∧ i = .int .i64 k ∧ CaW wr P O { M with dirty := putD M.dirty (rs.take k) } ∧ Fr [P.b] w wr) (fun i _ => n - (intOf i).toNat)
  case atStart => exact ⟨0, by omega, rfl, by rw [List.take_zero]; exact HH.out, Fr.refl _ _⟩
  case round =>
    obtain ⟨k, hkn, rfl, hw, fr⟩ := hrel
    by_cases hlt : k < n
    · have d0 : (k : Int) < n := by omega
      have hkr : k < rs.length := by omega
      obtain ⟨gr, o, v, rfl, c0, c1, sb⟩ := (HR.out.1 wr fr) k hkr
      obtain ⟨⟨x, l⟩, hx⟩ : ∃ r, rs[k] = r := ⟨_, rfl⟩
      have hmem := List.getElem_mem hkr
      rw [hx] at c0 sb hmem
      have hl5 : l.length = 512 := HR.out.2.1 _ hmem
      have hx4 : 0 ≤ x ∧ x < 4096 := HR.out.2.2 _ hmem
      obtain ⟨Av, cv, rfl, rd, hnil, hcap⟩ := sb
      dsimp only at c0 c1 rd hnil
      rw [hl5] at c1 hnil
      have HX := Lib.hid hx
      have fA : Fr [] wr (wr.alloc (.cells #[.int .i64 x, .slice Av 512 cv] 49)) := (Fr.refl _ _).alloc _
      have ka := Blk.new wr 49 #[.int .i64 x, .slice Av 512 cv]
      have hwA := hw.keep_nil fA
      have rdA := rd.keep_nil fA
      have HF := Lib.hid fr
      clear hw fr hmem rd hx
      go_upto_region 3 with fail
      obtain ⟨wA, hA⟩ : ∃ y, wr.alloc (.cells #[.int .i64 x, .slice Av 512 cv] 49) = y := ⟨_, rfl⟩
      obtain ⟨gA, hgA⟩ : ∃ y, wr.heap.size = y := ⟨_, rfl⟩
      have hbA : P.b < gA ∧ P.c < gA := by rw [← hgA]; have := HF.out.size; obtain ⟨a, -, -, b, -⟩ := HH.out.lts; omega
      rw [hA] at fA ka hwA rdA ⊢
      rw [hgA] at ka ⊢
      obtain ⟨wD, hwD⟩ : ∃ wD, wA.drew = wD := ⟨_, rfl⟩
      have fD : Fr [] wA wD := by rw [← hwD]; exact (Fr.refl [] _).drew
      have hwd := hwA.keep_nil fD
      have hS : ∀ w', Fr [P.b] wD w' → (w'.cell? ⟨P.c, 2, none⟩ = some (.pointer (some ⟨P.s, 0, none⟩)) ∧ w'.cell? ⟨gA, 0, none⟩ = some (.int .i64 x) ∧ w'.cell? ⟨gA, 1, none⟩ = some (.slice Av 512 cv)) := fun w' f =>
        ⟨f.cell (fun hm => by have := List.mem_singleton.1 hm; exact hwd.ne.2.2.1 this) hwd.c2, f.cell (fun hm => by have := List.mem_singleton.1 hm; simp at this; omega) ((ka.keep_nil fD).cell 0), f.cell (fun hm => by have := List.mem_singleton.1 hm; simp at this; omega) ((ka.keep_nil fD).cell 1)⟩
      have cc := clone_any Av l 512 cv wD hl5 (rdA.keep_nil fD) hnil (by omega)
      have MK := Lib.hid hS
      have HW := Lib.hid (And.intro hwd (And.intro fA fD))
      have hD := hS _ (Fr.refl _ _)
      have hL5 := Lib.hid hl5
      clear hwA rdA ka hS hwd fA fD hA hgA c0 c1
      as_aux_lemma =>
        refine wp_region_held_drew (S := fun w' => w'.cell? ⟨P.c, 2, none⟩ = some (.pointer (some ⟨P.s, 0, none⟩)) ∧ w'.cell? ⟨gA, 0, none⟩ = some (.int .i64 x) ∧ w'.cell? ⟨gA, 1, none⟩ = some (.slice Av 512 cv)) (by kernel_rfl) (by rw [hwD]; exact hD) (fun hHeld => ?_)
        rw [hwD] at hHeld ⊢
        clear hD hwD hl5
        refine take_w 0 (some 12) (v := ?_) rfl rfl (by kernel_rfl) (by kernel_rfl) (by kernel_rfl) (fun _ _ _ h => h) (by rfl) ?_ hHeld ?_
        rotate_left
        · (intro w hSw; (try dsimp only at hSw); go_simp; try with_reducible rfl)
        simp only [Act.put, List.setIfInBounds_toArray, List.set_cons_zero, List.set_cons_succ]
        refine take_w 1 (some 13) (v := ?_) rfl rfl (by kernel_rfl) (by kernel_rfl) (by kernel_rfl) (fun _ _ _ h => h) (by rfl) ?_ hHeld ?_
        rotate_left
        · (intro w hSw; (try dsimp only at hSw); go_simp; try with_reducible rfl)
        simp only [Act.put, List.setIfInBounds_toArray, List.set_cons_zero, List.set_cons_succ]
        refine take_w 2 (some 14) (v := ?_) rfl rfl (by kernel_rfl) (by kernel_rfl) (by kernel_rfl) (fun _ _ _ h => h) (by rfl) ?_ hHeld ?_
        rotate_left
        · (intro w hSw; (try dsimp only at hSw); go_simp; try with_reducible rfl)
        simp only [Act.put, List.setIfInBounds_toArray, List.set_cons_zero, List.set_cons_succ]
        refine take_w 3 (some 15) (v := ?_) rfl rfl (by kernel_rfl) (by kernel_rfl) (by kernel_rfl) (fun _ _ _ h => h) (by rfl) ?_ hHeld ?_
        rotate_left
        · (intro w hSw; (try dsimp only at hSw); go_simp; try with_reducible rfl)
        simp only [Act.put, List.setIfInBounds_toArray, List.set_cons_zero, List.set_cons_succ]
        refine take_w 4 (some 16) (v := ?_) rfl rfl (by kernel_rfl) (by kernel_rfl) (by kernel_rfl) (fun _ _ _ h => h) (by rfl) ?_ hHeld ?_
        rotate_left
        · (intro w hSw; (try dsimp only at hSw); go_simp; try with_reducible rfl)
        simp only [Act.put, List.setIfInBounds_toArray, List.set_cons_zero, List.set_cons_succ]
        refine take_w 5 (some 17) (v := ?_) rfl rfl (by kernel_rfl) (by kernel_rfl) (by kernel_rfl) (fun _ _ _ h => h) (by rfl) ?_ hHeld ?_
        rotate_left
        · (intro w hSw; (try dsimp only at hSw); go_simp; try with_reducible rfl)
        simp only [Act.put, List.setIfInBounds_toArray, List.set_cons_zero, List.set_cons_succ]
        refine take_w 6 (some 18) (v := ?_) rfl rfl (by kernel_rfl) (by kernel_rfl) (by kernel_rfl) (fun _ _ _ h => h) (by rfl) ?_ hHeld ?_
        rotate_left
        · (intro w hSw; (try dsimp only at hSw); go_simp; try with_reducible rfl)
        simp only [Act.put, List.setIfInBounds_toArray, List.set_cons_zero, List.set_cons_succ]
        refine take_w 7 (some 19) (v := ?_) rfl rfl (by kernel_rfl) (by kernel_rfl) (by kernel_rfl) (fun _ _ _ h => h) (by rfl) ?_ hHeld ?_
        rotate_left
        · (intro w hSw; (try dsimp only at hSw); go_simp; try with_reducible rfl)
        simp only [Act.put, List.setIfInBounds_toArray, List.set_cons_zero, List.set_cons_succ]
        refine take_c 8 rfl (by kernel_rfl) (by rfl) (fun K hK => ?_)
        go_simp
        refine cc.mono ?_
        rintro e w5 ⟨v5, rfl, r5, f5⟩
        have hHx := MK.out w5 f5.nil
        refine hK.out _ _ hHx (fun hHy => ?_)
        clear hK cc hHeld hHy
        try simp only [Act.put, List.setIfInBounds_toArray, List.set_cons_zero, List.set_cons_succ]
        have hw5 := HW.out.1.keep_nil f5
        obtain ⟨f, hsr, hdv⟩ := hw5.srt
        have hb5 : BlkB w5 v5 l := ⟨hL5.out, r5.mono (Nat.zero_le _)⟩
        obtain ⟨A5, c5, rfl, -, -, -, -, -⟩ := r5.shape
        have cse := srtSet_any hsr (by unfold maxLen; omega) x (wfZ_of (by omega)) (.slice A5 512 c5) rfl
        have H5 := Lib.hid (And.intro hw5 (And.intro f5 (And.intro hdv hb5)))
        clear hw5 f5 hdv hb5 hsr r5
        refine take_c 9 rfl (by kernel_rfl) (by rfl) (fun K hK => ?_)
        go_simp
        refine cse.mono ?_
        rintro e w6 ⟨rfl, hs6, f6⟩
        have hHeld := MK.out w6 (H5.out.2.1.nil.trans f6 (fun i hi => .inl hi))
        refine hK.out _ _ hHeld (fun hHy => ?_)
        clear hK cse hHx hHy
        try simp only [Act.put, List.setIfInBounds_toArray, List.set_cons_zero, List.set_cons_succ]
        refine wpAnyH_done (by kernel_rfl) ?_ _
        clear hHeld
        have hw6 := H5.out.1.set H5.out.2.2.1 hx4 H5.out.2.2.2 hs6 f6
        have hp : putD M.dirty (rs.take (k + 1)) = updD (putD M.dirty (rs.take k)) (x, l) := by
          rw [List.take_add_one, List.getElem?_eq_getElem hkr, HX.out]
          exact putD_snoc _ _ _
        have hw6' : CaW w6 P O { M with dirty := putD M.dirty (rs.take (k + 1)) } := by rw [hp]; exact hw6
        have fr6 : Fr [P.b] w w6 := (((HF.out.trans_nil HW.out.2.1).trans_nil HW.out.2.2).trans_nil H5.out.2.1).trans f6 (fun i hi => .inl hi)
        have HE := Lib.hid (And.intro hw6' fr6)
        clear hw6 hw6' fr6 hp hs6 f6
        go_wp2_with fail
        exact ⟨⟨k + 1, by omega, by go_num, HE.out⟩, by simp [intOf]; omega⟩
    · obtain rfl : k = n := by omega
      have d0 : ¬ ((k : Int) < k) := by omega
      have HP := Lib.hid (And.intro hw fr)
      clear hw fr
      go_wp2_with fail
      go_returns
      refine ⟨rfl, ?_⟩
      have := HP.out
      rwa [List.take_of_length_le (by omega)] at this
end
end Go.Proofs.YtamifdfkgbaobaaGreatDoor
/-
  Layer 15: Open.
-/
set_option linter.unusedSimpArgs false
set_option linter.unusedVariables false
set_option linter.unnecessarySimpa false
namespace Go.Proofs.YtamifdfkgbaobaaGreatDoor
open Go.RowKit
set_option maxRecDepth 100000

section
variable {w w' : World} {P : CaP} {O : List Nat} {M : CaM}
set_option maxHeartbeats 2000000 in
/-- Open, where a journal is found. -/
theorem caOpen_yes {p : Nat} {D : DkM} (h : Dsk w p O D) (x y : Int) {m : Nat} (hx : wfZ x) (hK : KG w) (hr : jRight D x y = true) (ho : D.off = false) (hm : rmV (D.readR x) = some m) (hn : (scanA D x y m).1.length ≤ 4096) (h5 : ∀ r ∈ (scanA D x y m).1, r.2.length = 512) (hk : ∀ r ∈ (scanA D x y m).1, 0 ≤ r.1 ∧ r.1 < 4096) :
    Calls Tryz.prog 9 #[.pointer (some ⟨p, 0, none⟩), .int .i64 x, .int .i64 y] w fun e w' => ∃ P : CaP, P.p = p ∧ e = .returned (.tuple #[.pointer (some ⟨P.c, 0, none⟩), .int .i64 0]) ∧ CaW w' P O ⟨D, openJ x y (scanA D x y m).2.2 (scanA D x y m).2.1, putD (fun _ => none) (scanA D x y m).1⟩ ∧ Fr [] w w' ∧
      w.heap.size ≤ P.c ∧ w.heap.size ≤ P.g ∧ w.heap.size ≤ P.s ∧ w.heap.size ≤ P.b := by
  have co := jnOpen_any h x y hx hK
  have HH := Lib.hid (And.intro h (And.intro h5 (And.intro hk hn)))
  have HR := Lib.hid (And.intro hr (And.intro ho hm))
  have hlt : ∀ i ∈ O, i < w.heap.size := by obtain ⟨X, hX⟩ := h; exact hX.lt
  have HLT := Lib.hid hlt
  obtain ⟨⟨rs, u, num⟩, hsc⟩ : ∃ r, scanA D x y m = r := ⟨_, rfl⟩
  have H5 := Lib.hid (show (∀ r ∈ rs, r.2.length = 512) ∧ (∀ r ∈ rs, 0 ≤ r.1 ∧ r.1 < 4096) ∧ rs.length ≤ 4096 by have := HH.out.2; rw [hsc] at this; exact this)
  have HSC := Lib.hid hsc
  rw [hsc]
  dsimp only
  clear h h5 hk hr ho hm hlt hK hsc hn
  go_enter Tryz.func9, Tryz.ntmps9
  go_wp2_with fail
  refine co.mono ?_
  intro e w2 hoc
  obtain ⟨g, v, ps, rfl, hg, hrr, hj, f2⟩ := hoc.yes HR.out.1 HR.out.2.1 HR.out.2.2
  rw [HSC.out] at hrr hj
  dsimp only at hrr hj
  have cn := srtNew_any w2
  have HA := Lib.hid (And.intro hrr (And.intro hj (And.intro f2 hg)))
  obtain ⟨A, cp, rfl, -⟩ := hrr.row.shape
  have hw2 := f2.size
  have HW2 := Lib.hid hw2
  clear co hoc hrr hj f2 hg hw2
  go_wp2_with fail
  refine cn.mono ?_
  rintro e w3 ⟨rfl, hs3, f3, z3⟩
  have kc := Blk.new w3 65 #[.pointer (some ⟨p, 0, none⟩), .pointer (some ⟨g, 0, none⟩), .pointer (some ⟨w2.heap.size + 1, 0, none⟩), .bool false]
  have f4 : Fr [] w3 (w3.alloc (.cells #[.pointer (some ⟨p, 0, none⟩), .pointer (some ⟨g, 0, none⟩), .pointer (some ⟨w2.heap.size + 1, 0, none⟩), .bool false] 65)) := (Fr.refl _ _).alloc _
  obtain ⟨w4, hw4⟩ : ∃ y, w3.alloc (.cells #[.pointer (some ⟨p, 0, none⟩), .pointer (some ⟨g, 0, none⟩), .pointer (some ⟨w2.heap.size + 1, 0, none⟩), .bool false] 65) = y := ⟨_, rfl⟩
  rw [hw4] at kc f4
  have fw := HA.out.2.2.1.trans_nil (f3.trans_nil f4)
  have hgl := HA.out.2.1.lt
  have hO2 : ∀ i ∈ O, i < w2.heap.size := fun i hi => Nat.lt_of_lt_of_le (HLT.out i hi) HW2.out
  have hcw : CaW w4 ⟨p, g, w2.heap.size + 1, w2.heap.size, w3.heap.size⟩ O ⟨D, openJ x y num u, fun _ => none⟩ := by
    refine ⟨kc, HH.out.1.keep_nil fw, (HA.out.2.1.keep_nil f3).keep_nil f4, ⟨_, ⟨(hs3.keep_nil f4).blk, (hs3.keep_nil f4).map.mono (Nat.zero_le _)⟩, fun x => .inl ⟨rfl, rfl⟩⟩, fun hm => ?_, fun hm => ?_, fun hm => ?_, fun hm => ?_⟩
    · have := hO2 _ hm; dsimp only at this; omega
    · have := HLT.out _ hm; have := HA.out.2.2.2; dsimp only at *; omega
    · have := hO2 _ hm; dsimp only at this; omega
    · have := hO2 _ hm; dsimp only at this; omega
  have hrd : ∀ w', Fr [w2.heap.size] w4 w' → RdX w' A rs := fun w' f => by
    have h4 := (HA.out.1.keep_nil f3).keep_nil f4
    refine (h4.keepF f (fun g' hg' hm => ?_) (fun q hq g' hg' hm => ?_)).rdx
    · have := (HA.out.1.row.lt g' hg').2
      have := List.mem_singleton.1 hm
      omega
    · have := (HA.out.1.lt q hq g' hg').2
      have := List.mem_singleton.1 hm
      omega
  have cp4 := caPut_any hcw (c := cp) rfl H5.out.2.2 hrd H5.out.1 H5.out.2.1
  rw [z3] at cp4
  have HFW := Lib.hid (And.intro fw z3)
  have HG := HA.out.2.2.2
  clear hcw hrd kc f4 fw hs3 f3 cn hO2
  go_wp2_with fail
  refine cp4.mono ?_
  rintro e w5 ⟨rfl, h5, f5⟩
  have HE := Lib.hid (And.intro h5 f5)
  clear cp4 h5 f5
  go_wp2_with fail
  go_ret2
  have hw2 := HW2.out
  have z3 := HFW.out.2
  exact ⟨⟨p, g, w2.heap.size + 1, w2.heap.size, w2.heap.size + 2⟩, rfl, rfl, HE.out.1, HFW.out.1.trans HE.out.2 (fun i hi => .inr (by rw [List.mem_singleton.1 hi]; exact hw2)), by dsimp only; omega, HG, by dsimp only; omega, hw2⟩
end
end Go.Proofs.YtamifdfkgbaobaaGreatDoor
/-
  In a round of a range over a function: a region is walked as anywhere.
-/
set_option linter.unusedSimpArgs false
set_option linter.unusedVariables false
set_option linter.unnecessarySimpa false
namespace Go.Proofs.YtamifdfkgbaobaaGreatDoor
open Go.RowKit Go.Shelf
section
variable {P : Program} {ops : Array Oper} {Q : Exit → Act → World → Prop} {md : Region.Mode} {l n : Nat}
/-- No operation is a defer statement, none calls a row of the library. -/
def plainOps (ops : Array Oper) : Bool := ops.all fun o => match o.op with | .defer _ => false | _ => true
theorem rowsIn_of {row : String} {args : Array Value} {w : World} {R : Value → World → Prop} (h : Go.Rows P row args w R) : RowsIn (Fence.wide.inRound l) n P row args w R := fun c cs _ => by
  obtain ⟨v, w', r, s⟩ := h c cs
  exact ⟨v, w', r, stepsIn_wide.2 s⟩
theorem wpOpIn_of {i : Nat} {o : Oper} {a : Act} {w : World} {K K' : Act → World → Prop} (hi : ops[i]? = some o) (hd : ∀ c, o.op ≠ .defer c) (hL : ¬ LetsOut Q) (hKK : ∀ a w, K a w → K' a w)
    (h : wpOp P ops Q i K a w) : wpOpIn (Fence.wide.inRound l) n P ops Q i K' a w := by
  unfold wpOp at h
  unfold wpOpIn
  rw [hi] at h ⊢
  dsimp only at h ⊢
  split
  · rename_i hw
    rw [if_pos hw] at h
    rcases h with h | ⟨_, h⟩
    · unfold Oper.wp at h
      unfold Oper.wpIn
      refine ⟨fun _ _ => trivial, ?_⟩
      rw [Oper.semAt_eq _ _ _ hd]
      generalize (execOp a.eval o).run P w = r at *
      cases r with
      | ok x w' =>
        cases x
        case value v => exact hKK _ _ h
        case skip => exact hKK _ _ h
        case defer d => exact hKK _ _ h
        case enter f args =>
          refine ⟨fun hd => (by cases hd), CallsIn.inRound l (callsIn_wide.2 ?_)⟩
          exact Calls.mono h (fun e w'' he => by cases e <;> first | exact hKK _ _ he | exact he)
        case row row args => exact ⟨fun hd => (by cases hd), rowsIn_of (Rows.mono h (fun _ _ he => hKK _ _ he))⟩
        all_goals exact (h : False).elim
      | halt x w' => cases x <;> first | exact h | exact (h : False).elim
    · exact absurd h hL
  · rename_i hw
    rw [if_neg hw] at h
    exact ⟨fun _ _ => trivial, hKK _ _ h⟩
theorem plainOps_at (h : plainOps ops = true) {i : Nat} {o : Oper} (hi : ops[i]? = some o) : ∀ c, o.op ≠ .defer c := fun c e => by
  have := Array.all_eq_true'.1 h o (Array.mem_of_getElem? hi)
  rw [e] at this
  cases this
theorem wpAnyIn_of (hd : plainOps ops = true) (hL : ¬ LetsOut Q) :
    ∀ (k : Nat) (listed : Array Bool) (a : Act) (w : World), wpAny P md ops Q k listed a w → wpAnyIn (Fence.wide.inRound l) n P md ops Q k listed a w
  | 0, _, _, _, h => h
  | k + 1, listed, a, w, h => ⟨h.1, fun i hi => by
      obtain ⟨-, o, ho, -⟩ := mem_ready.1 hi
      exact wpOpIn_of ho (plainOps_at hd ho) hL (fun a w h => wpAnyIn_of hd hL k _ a w h) (h.2 i hi)⟩
/-- A region that draws its order, in a round. -/
theorem wpIn_region_round {S : World → Prop} {id : Nat} {a : Act} {w : World} (z : Nat) (hm : P.follows .mixedOrders = true) (hd : plainOps ops = true) (hL : ¬ LetsOut Q)
    (h : wpAnyT P .any ops Q S z ops.size (Array.replicate ops.size false) a w.drew) : (Code.region id ops true).wpIn (Fence.wide.inRound l) n P Q a w :=
  wpIn_region_any hm (wpAnyIn_of hd hL _ _ _ _ (wpAny_of_T _ _ _ _ h))
end
end Go.Proofs.YtamifdfkgbaobaaGreatDoor
