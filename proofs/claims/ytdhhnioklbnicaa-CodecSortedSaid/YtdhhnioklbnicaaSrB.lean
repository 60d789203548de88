/-
  Sorted: All's closure as an iterator.
-/
import Derived.Test.YtdhhnioklbnicaaSrA
import Derived.Test.YtdhhnioklbnicaaDkA
import Derived.Test.YtdhhnioklbnicaaRngA
set_option linter.unusedSimpArgs false
set_option linter.unusedVariables false
set_option linter.unnecessarySimpa false
namespace Go.Proofs.Ytdhhnioklbnicaa
open Go.RowKit Go.Shelf
attribute [local go_sem] Oper.semAt_some
set_option maxRecDepth 100000

/-- A number and its value. -/
abbrev PairF (f : Int → Option Value) := { p : Int × Value // wfZ p.1 ∧ f p.1 = some p.2 }
def encP (f : Int → Option Value) (x : PairF f) : Array Value := #[.int .i64 x.1.1, x.1.2]
theorem KeyL.val {f : Int → Option Value} {zs : List Int} (h : KeyL f zs) {x : Int} (hx : x ∈ zs) : wfZ x ∧ ∃ v, f x = some v := by
  obtain ⟨h1, h2⟩ := (h.2 x).1 hx
  exact ⟨h1, Option.isSome_iff_exists.1 h2⟩
/-- All pairs, by rising numbers. -/
noncomputable def pairsF {f : Int → Option Value} {zs : List Int} (h : KeyL f zs) : List (PairF f) := zs.attach.map fun x => ⟨(x.1, (h.val x.2).2.choose), (h.val x.2).1, (h.val x.2).2.choose_spec⟩
theorem pairsF_len {f : Int → Option Value} {zs : List Int} (h : KeyL f zs) : (pairsF h).length = zs.length := by simp [pairsF]
theorem pairsF_at {f : Int → Option Value} {zs : List Int} (h : KeyL f zs) {k : Nat} (hk : k < zs.length) : ∃ x : PairF f, (pairsF h)[k]? = some x ∧ x.1.1 = zs[k] := by
  have hk' : k < (pairsF h).length := by rw [pairsF_len]; exact hk
  refine ⟨(pairsF h)[k], List.getElem?_eq_getElem hk', ?_⟩
  simp [pairsF]
theorem pairsF_keys {f : Int → Option Value} {zs : List Int} (h : KeyL f zs) : (pairsF h).map (·.1.1) = zs := by
  apply List.ext_getElem
  · simp [pairsF_len]
  · intro i h1 h2
    obtain ⟨x, e1, e2⟩ := pairsF_at h h2
    rw [List.getElem_map]
    have : (pairsF h)[i]'(by simpa using h1) = x := by
      have h3 : i < (pairsF h).length := by simpa using h1
      rw [List.getElem?_eq_getElem h3] at e1
      exact Option.some.inj e1
    rw [this, e2]
set_option maxHeartbeats 4000000 in
theorem srtAll1_in (m : Nat) (hm : 1 ≤ m) (l g p b n : Nat) {f : Int → Option Value} {zs : List Int} (FF : List Nat) (B : Nat) (hz : KeyL f zs) (hn : n ≤ 17592186044416) (J Jx : List (PairF f) → World → Prop) (W : World) (hJ : AbidesFrom W.heap.size J)
    (hY : ∀ pre x W1, J pre W1 → pre.length < n → YieldAt Fence.wide (m - 1) Try.prog l (encP f x) W1 fun e W' => (e = .returned (.bool true) ∧ J (pre ++ [x]) W' ∧ KeepC FF B W1 W') ∨ (e = .returned (.bool false) ∧ Jx (pre ++ [x]) W'))
    (hc : W.cell? ⟨g, 0, none⟩ = some (.pointer (some ⟨p, 0, none⟩))) (hg : g ∉ FF) (hs : SrtW W p b n f) (hp : p ∉ FF) (hb : b ∉ FF) (hbB : b < B) (hF : ∀ i ∈ FF, i < W.heap.size) (h0 : J [] W) :
    CallsIn Fence.wide m Try.prog 62 #[.func (.yield l) #[] #[], .pointer (some ⟨g, 0, none⟩)] W fun e W' => (∃ v, e = .returned v) ∧ ((∃ xs, xs = pairsF hz ∧ J xs W') ∨ (∃ pre, pre <+: pairsF hz ∧ Jx pre W')) := by
  have c0 := hs.c0
  obtain ⟨-, hzl⟩ := hs.map.lenS hz undS 3
  refine callsIn_of_wp Try.func62 rfl trivial ?_ rfl
  simp only [Try.ntmps62, List.size_toArray, List.length_cons, List.length_nil, Nat.reduceAdd, Nat.reduceSub, Array.replicate_succ, Array.replicate_zero, List.push_toArray, List.append_toArray, List.nil_append, List.cons_append]
  gi_wp2
  refine ⟨trivial, (callsIn_wide.2 (keysS_any b W)).mono ?_⟩
  rintro e w1 ⟨rfl, rfl⟩
  gi_wp2
  refine ⟨trivial, (callsIn_wide.2 (sortedS_any hs.map hn)).mono ?_⟩
  rintro e w2 ⟨v, zs', rfl, hz', -, r, f⟩
  obtain rfl : zs' = zs := hz'.uniq hz
  have f2 : Fr [] W w2 := ((Fr.refl [] W).alloc _).trans_nil f
  have J2 : J [] w2 := hJ _ _ _ none h0 (fr_grown f2) (fun r e => by cases e)
  obtain ⟨A, c, rfl, -, -, -, -, -⟩ := r.shape
  have r2 := r
  have hrF : ∀ k, (Value.slice A zs'.length c).ownBlock = some k → k ∉ FF := fun k hk hm => by have := (r.lt k hk).1; have := hF k hm; omega
  obtain ⟨N, hN⟩ : ∃ N, zs'.length = N := ⟨_, rfl⟩
  rw [hN] at r2 hrF
  have HZ := Lib.hid hz
  have HN := Lib.hid hN
  have HR := Lib.hid (And.intro r2 hrF)
  have HS := Lib.hid (hs.keep_nil f2)
  have hc2 := f2.cell (by simp) hc
  have HC := Lib.hid hc2
  have J2' := Lib.hid J2
  rw [hN] at hzl ⊢
  clear hz' hs f f2 J2 r r2 hrF hc hc2 c0 h0 hN
  gi_wp2
  gi_loopw [16] (fun i wr => ∃ k : Nat, k ≤ N ∧ i = .int .i64 k ∧ J ((pairsF HZ.out).take k) wr ∧ KeepC FF B w2 wr) (fun i _ => N - (intOf i).toNat)
  case atStart => exact ⟨0, by omega, rfl, J2'.out, ⟨Nat.le_refl _, fun _ _ h _ _ => h⟩⟩
  case round =>
    obtain ⟨k, hkN, rfl, hJk, hK⟩ := hrel
    by_cases hlt : k < N
    · have d0 : (k : Int) < N := by omega
      have hkz : k < zs'.length := by rw [HN.out]; exact hlt
      obtain ⟨⟨⟨y, u⟩, hwf, hfu⟩, ex, ek⟩ := pairsF_at HZ.out hkz
      replace ek : y = zs'[k] := ek
      replace hfu : f y = some u := hfu
      replace hwf : wfZ y := hwf
      have rr := hK.row HR.out.1 HR.out.2
      obtain ⟨gk, ck, e⟩ := rr.hdD (by omega)
      cases e
      obtain ⟨g', o', e', hcs⟩ := rr.rdD.1 (by intro h0; have := congrArg List.length h0; simp at this; rw [this] at hkz; exact absurd hkz (by simp))
      cases e'
      have ck0 := hcs k (.int .i64 y) (by rw [List.getElem?_map, List.getElem?_eq_getElem hkz, ek]; rfl)
      rw [Nat.zero_add] at ck0
      have cb := hK.cell (a := ⟨g, 0, none⟩) hg HC.out
      have cp := hK.cell (a := ⟨p, 0, none⟩) hp HS.out.c0
      have mz : MapZ wr b n f := HS.out.map.blk_eq (by
        obtain ⟨D, ⟨es, clock, hbk, rest⟩, hf⟩ := HS.out.map
        rw [hbk]
        exact hK.same b _ hbk hb (.inl hbB))
      have hl := mz.look_ok undS (zeroS _) hwf
      rw [hfu] at hl
      simp only [Option.getD_some, Option.isSome_some] at hl
      obtain ⟨fn, tmps, assign, body, hy, hR⟩ := hY _ ⟨(y, u), hwf, hfu⟩ wr hJk (by rw [List.length_take, pairsF_len]; omega)
      replace hy : (Instr.yield l #[.int .i64 y, u]).run Try.prog wr = _ := hy
      have HT := Lib.hid (show (pairsF HZ.out).take (k + 1) = (pairsF HZ.out).take k ++ [⟨(y, u), hwf, hfu⟩] by
        rw [List.take_add_one, ex]; rfl)
      have HKK := Lib.hid hK
      clear hcs rr mz ex hK hJk ek
      clear hkz
      gi_wp2
      refine hR.mono ?_
      rintro e W3 (⟨rfl, hJ3, hk3⟩ | ⟨rfl, hJx3⟩)
      · have HP := Lib.hid (And.intro hJ3 hk3)
        clear hR hy hl ck0 cb cp hJ3 hk3
        gi_wp2
        go_roundw
        case rel => exact ⟨k + 1, by omega, by go_num, by rw [HT.out]; exact HP.out.1, keepC_t HKK.out HP.out.2⟩
        case measure => simp [intOf]; omega
      · have HP := Lib.hid hJx3
        clear hR hy hl ck0 cb cp hJx3
        gi_wp2
        refine bodyPost_ret (results_none rfl _ _ _) rfl ?_
        exact ⟨⟨_, rfl⟩, .inr ⟨_, by rw [← HT.out]; exact List.take_prefix _ _, HP.out⟩⟩
    · obtain rfl : k = N := by omega
      have d0 : ¬ ((k : Int) < k) := by omega
      have HP := Lib.hid hJk
      clear hJk hK
      gi_wp2
      go_end0
      exact ⟨⟨_, rfl⟩, .inl (by have := HP.out; rwa [List.take_of_length_le (by rw [pairsF_len, HN.out]; omega)] at this)⟩
/-- All hands back an iterator. -/
theorem srtAll1_stops (m : Nat) (hm : 1 ≤ m) (g p b n : Nat) {f : Int → Option Value} {zs : List Int} (FF : List Nat) (B : Nat) (hz : KeyL f zs) (hn : n ≤ 17592186044416) (w : World)
    (hc : w.cell? ⟨g, 0, none⟩ = some (.pointer (some ⟨p, 0, none⟩))) (hg : g ∉ FF) (hs : SrtW w p b n f) (hp : p ∉ FF) (hb : b ∉ FF) (hbB : b < B) (hF : ∀ i ∈ FF, i < w.heap.size) :
    SeqStopsK Fence.wide m Try.prog 62 #[.pointer (some ⟨g, 0, none⟩)] (encP f) (KeepC FF B) (fun xs => xs = pairsF hz) (fun pre => pre <+: pairsF hz) n w := fun l J Jx W hW hJ _ hY h0 => by
  have hgl : g < w.heap.size := by
    rcases Nat.lt_or_ge g w.heap.size with h | h
    · exact h
    · unfold World.cell? at hc
      dsimp only at hc
      rw [Array.getElem?_eq_none h] at hc
      cases hc
  have hc' : W.cell? ⟨g, 0, none⟩ = some (.pointer (some ⟨p, 0, none⟩)) := (hW.cell (p := ⟨g, 0, none⟩) hgl).trans hc
  have hp' := hs.blk.lt
  have hb' := hs.map.lt
  have hs' : SrtW W p b n f := ⟨by show W.heap[p]? = _; rw [hW.block p hp']; exact hs.blk, hs.map.blk_eq (hW.block b hb')⟩
  exact srtAll1_in m hm l g p b n FF B hz hn J Jx W hJ hY hc' hg hs' hp hb hbB (fun i hi => Nat.lt_of_lt_of_le (hF i hi) hW.size) h0
end Go.Proofs.Ytdhhnioklbnicaa
