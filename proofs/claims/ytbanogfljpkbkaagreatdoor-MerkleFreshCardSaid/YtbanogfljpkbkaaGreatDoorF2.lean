/-
  Texts of this claim, one behind the other: MemB, FreA.
-/
import Derived.Test.YtbanogfljpkbkaaGreatDoorF1
set_option linter.unusedSimpArgs false
set_option linter.unusedVariables false
set_option linter.unnecessarySimpa false
namespace Go.Proofs.YtbanogfljpkbkaaGreatDoor
section
open Go.RowKit
section
variable {P : Program}
theorem toList_zeroCells_one (z : Value) (n : Nat) : (Builtin.zeroCells #[z] n).toList = List.replicate n z := by
 apply List.ext_getElem?
 intro j
 by_cases hj : j < n
 ·simp [Builtin.zeroCells, hj, Nat.mod_one]
 ·simp [Builtin.zeroCells, hj]
theorem run_appz {t ti e : TypeId} {bytes : Nat} {z : Value} (hT : SlT P t e 1 bytes z) (hz1 : z.cells = #[z]) (hzo : z.oneCell' = true) {ki : IntKind} (hti : P.underlying ti = some (.int ki)) (w : World) (ty : TypeId) (base : Nat) (v : Value) (n : Nat) (xs : List Value) (hown : Row w base e 1 v n xs)
  (k : IntKind) (m : Nat) (hbytes : (n + m) * bytes ≤ 140737488355328) (hbase : base ≤ w.heap.size) :
  ∃ v' w', (Builtin.append_ #[t, ti] ty #[v, .int k (m : Int)]).run P w = .ok v' w' ∧ Row w' base e 1 v' (n + m) (xs ++ List.replicate m z) ∧ Fr v.ownBlock.toList w w' ∧
   (∀ g, v'.ownBlock = some g → v.ownBlock = some g ∨ g = w.heap.size) := by
 obtain ⟨i, hi, hz, hsz, hby⟩ := info_parts hT.info
 have ht := hT.und
 have hle : n + m ≤ 140737488355328 := Nat.le_trans (Nat.le_mul_of_pos_right _ hT.bpos) hbytes
 have hw : IntKind.i64.wrap (m : Int) = m := by rw [IntKind.wrap_i64]; omega
 have hneg : ¬ ((m : Int) < 0) := by omega
 subst hby
 have hmb : m * i.bytes ≤ 140737488355328 := Nat.le_trans (Nat.mul_le_mul_right _ (Nat.le_add_left m n)) hbytes
 have hbig : ¬ (281474976710656 < (m : Int) * (i.bytes : Int)) := by
  rw [← Int.natCast_mul]
  omega
 have hx1 : xs.length = n := by simpa using hown.1
 have hlen : (xs ++ List.replicate m z).length = (n + m) * 1 := by rw [List.length_append, hx1, List.length_replicate]; omega
 have h63 : n + m ≤ maxLen := by unfold maxLen; omega
 have hone : ∀ u ∈ List.replicate m z, u.oneCell' = true := fun u hu => by rw [(List.mem_replicate.1 hu).2]; exact hzo
 rcases Nat.eq_zero_or_pos m with rfl | hm
 ·have hw0 : IntKind.i64.wrap 0 = 0 := by rw [IntKind.wrap_i64]; rfl
  refine ⟨v, w, ?_, by simpa using hown, Fr.refl _ _, fun g hg => .inl hg⟩
  rcases hown.2 with ⟨rfl, rfl⟩ | ⟨g, cap, cur, fz, rfl, _, _, _, hnc, _⟩
  ·simp [Builtin.append_, run_underlying ht, run_underlying hti, sizeOf, typeInfo, hi, hz, asInt, asIntOf, hw0, Builtin.firstCells]
  ·simp [Builtin.append_, run_underlying ht, run_underlying hti, sizeOf, typeInfo, hi, hz, asInt, asIntOf, hw0, hnc, Builtin.firstCells, storeCells]
 ·have hm0 : ¬ (m = 0) := by omega
  have hzc : Builtin.zeroCells z.cells m = (List.replicate m z).toArray := by
   apply Array.ext'
   rw [hz1, toList_zeroCells_one]
  rcases hown.2 with ⟨rfl, rfl⟩ | ⟨g, cap, cur, fz, rfl, hbg, hg, hfz, hnc, hcm, hcs, htake⟩
  ·have hx : xs = [] := List.eq_nil_of_length_eq_zero (by simpa using hown.1)
   subst hx
   have hge := grownCap_ge w m 0 e
   have hcm2 : grownCap w m 0 e ≤ maxLen := grownCap_le_maxLen w m 0 e (by omega)
   have h63' : ¬ (9223372036854775807 < (m : Int)) := by omega
   have h48' : ¬ (281474976710656 < Builtin.nextslicecap m 0 * i.bytes) := by rw [nextslicecap_zero hm]; omega
   have hrun : (Builtin.append_ #[t, ti] ty #[.slice none 0 0, .int k (m : Int)]).run P w =
     .ok (.slice (some ⟨w.heap.size, 0, none⟩) m (grownCap w m 0 e)) (w.drew.alloc (.cells (Builtin.zeroCells z.cells m ++ Builtin.zeroCells z.cells (grownCap w m 0 e - m)) e)) := by
    simp [Builtin.append_, run_underlying ht, run_underlying hti, sizeOf, typeInfo, zeroValue, hi, hz, hsz, asInt, asIntOf, hw, hm0, hneg, h63', h48', hbig, Question.forced, run_firstCells_none, newRow, grownCap]
   refine ⟨_, _, hrun, ⟨by simp, .inr ⟨w.heap.size, _, _, (0, 0), by simp, hbase, heap_alloc_new w.drew _, free_zero _, by omega, hcm2, ?_, ?_⟩⟩, ((Fr.refl _ w).drew).alloc _, fun g hg => .inr (by simpa [Value.ownBlock] using hg.symm)⟩
   ·simp only [Array.size_append, size_zeroCells, hz1, List.size_toArray, List.length_cons, List.length_nil]
    omega
   ·simp only [Array.toList_append, hz1, toList_zeroCells_one, Nat.zero_add, List.nil_append, Nat.mul_one]
    exact List.take_left' (by simp)
  ·by_cases hroom : n + m ≤ cap
   ·have hfit : n + (List.replicate m z).length ≤ cur.size := by rw [List.length_replicate, hcs]; omega
    have hst := run_storeCells_free (P := P) g n e fz (List.replicate m z) 0 cur w hg hfz (by rw [Nat.add_zero]; exact hfit) hone
    simp only [Nat.add_zero] at hst
    have hrun : (Builtin.append_ #[t, ti] ty #[.slice (some ⟨g, 0, none⟩) n cap, .int k (m : Int)]).run P w =
      .ok (.slice (some ⟨g, 0, none⟩) (n + m) cap) (w.setRow g (cur.toList.take n ++ List.replicate m z ++ cur.toList.drop (n + (List.replicate m z).length)).toArray) := by
     simp [Builtin.append_, run_underlying ht, run_underlying hti, sizeOf, typeInfo, zeroValue, hi, hz, hsz, asInt, asIntOf, hw, hm0, hneg, hbig, hroom, hzc, addr_add, hst]
    refine ⟨_, _, hrun, ⟨hlen, .inr ⟨g, cap, _, fz, rfl, hbg, setRow_heap w g cur _ e _ hg, ?_, hroom, hcm, ?_, ?_⟩⟩, (Fr.refl _ w).setRow (.inl (by simp [Value.ownBlock])) _, fun g' hg' => .inl hg'⟩
    ·have e1 : (cur.toList.take n ++ List.replicate m z ++ cur.toList.drop (n + (List.replicate m z).length)).toArray.size = cur.size := by
      simp only [List.size_toArray, List.length_append, List.length_take, List.length_drop, Array.length_toList]
      omega
     rw [e1]; exact hfz
    ·simp only [List.size_toArray, List.length_append, List.length_take, List.length_drop, Array.length_toList]
     omega
    ·rw [Nat.mul_one] at htake
     rw [htake, ← hlen]
     exact List.take_left
   ·have holds : ∀ j u, xs[j]? = some u → w.drew.cell? ((⟨g, 0, none⟩ : Addr).add j) = some u := fun j u hu => by
     rw [addr_add]
     show w.cell? _ = _
     rw [cell_of_row w g (0 + j) cur e fz hg, Nat.zero_add]
     rw [← htake, List.getElem?_take] at hu
     split at hu
     ·simpa using hu
     ·cases hu
    have hfo := run_firstCells_some (P := P) w.drew 1 n ⟨g, 0, none⟩ n cap xs hown.1 holds
    have hge := grownCap_ge w (n + m) cap e
    have hcm2 : grownCap w (n + m) cap e ≤ maxLen := grownCap_le_maxLen w (n + m) cap e h63
    have h63' : ¬ (9223372036854775807 < ((n : Int) + (m : Int))) := by omega
    have h48' : ¬ (281474976710656 < Builtin.nextslicecap (n + m) cap * i.bytes) := by have := growslice_fits (bytes := i.bytes) (show cap < n + m by omega) hbytes; omega
    have hrun : (Builtin.append_ #[t, ti] ty #[.slice (some ⟨g, 0, none⟩) n cap, .int k (m : Int)]).run P w =
      .ok (.slice (some ⟨w.heap.size, 0, none⟩) (n + m) (grownCap w (n + m) cap e)) (w.drew.alloc (.cells (xs.toArray ++ (Builtin.zeroCells z.cells m ++ Builtin.zeroCells z.cells (grownCap w (n + m) cap e - (n + m)))) e)) := by
     simp [Builtin.append_, run_underlying ht, run_underlying hti, sizeOf, typeInfo, zeroValue, hi, hz, hsz, asInt, asIntOf, hw, hm0, hneg, hbig, hroom, h63', h48', Question.forced, hfo, newRow, grownCap]
    refine ⟨_, _, hrun, ⟨hlen, .inr ⟨w.heap.size, _, _, (0, 0), rfl, hbase, heap_alloc_new w.drew _, free_zero _, hge, hcm2, ?_, ?_⟩⟩, ((Fr.refl _ w).drew).alloc _, fun g hg => .inr (by simpa [Value.ownBlock] using hg.symm)⟩
    ·simp only [Array.size_append, List.size_toArray, size_zeroCells, hz1, hx1, List.length_cons, List.length_nil]
     omega
    ·simp only [Array.toList_append, hz1, toList_zeroCells_one, ← List.append_assoc]
     rw [← hlen]
     exact List.take_left
theorem wp_appz {o : Oper} {a : Act} {w : World} {K : Act → World → Prop} {Q : Exit → Act → World → Prop} {s x : Operand} {t ti e : TypeId} {bytes : Nat} {z : Value}
  (ho : o.op = .call { callee := .builtin .append, args := #[s, x], argTypes := #[t, ti] }) (hT : SlT P t e 1 bytes z) (hz1 : z.cells = #[z]) (hzo : z.oneCell' = true) {ki : IntKind} (hti : P.underlying ti = some (.int ki)) (base : Nat) (v : Value) (n : Nat) (xs : List Value) (hs : a.eval s = v) (hown : Row w base e 1 v n xs)
  (k : IntKind) (m : Nat) (M : Int) (hx : a.eval x = .int k M) (hM : M = m) (hbytes : (n + m) * bytes ≤ 140737488355328) (hbase : base ≤ w.heap.size)
  (h : ∀ v' w', Row w' base e 1 v' (n + m) (xs ++ List.replicate m z) → Fr v.ownBlock.toList w w' → (∀ g, v'.ownBlock = some g → v.ownBlock = some g ∨ g = w.heap.size) → K (a.put o.dst v') w') :
  o.wp P a w K Q := by
 subst hM
 obtain ⟨v', w', hrun, h2, h3, h4⟩ := run_appz hT hz1 hzo hti w o.type base v n xs hown k m hbytes hbase
 unfold Oper.wp execOp
 simp only [ho, resolve, invoke, builtin, Sem.run_bind, Sem.run_pure, Result.andThen_ok, List.map_toArray, List.map_cons, List.map_nil, hs, hx, hrun]
 exact h v' w' h2 h3 h4
theorem wpList_appz {ops : Array Oper} {rest : List Oper} {o : Oper} {a : Act} {w : World} {Q : Exit → Act → World → Prop} {s x : Operand} {t ti e : TypeId} {bytes : Nat} {z : Value}
  (hgd : o.guard = none) (ho : o.op = .call { callee := .builtin .append, args := #[s, x], argTypes := #[t, ti] }) (hT : SlT P t e 1 bytes z) (hz1 : z.cells = #[z]) (hzo : z.oneCell' = true) {ki : IntKind} (hti : P.underlying ti = some (.int ki)) (base : Nat) (v : Value) (n : Nat) (xs : List Value) (hs : a.eval s = v) (hown : Row w base e 1 v n xs)
  (k : IntKind) (m : Nat) (M : Int) (hx : a.eval x = .int k M) (hM : M = m) (hbytes : (n + m) * bytes ≤ 140737488355328) (hbase : base ≤ w.heap.size)
  (h : ∀ v' w', Row w' base e 1 v' (n + m) (xs ++ List.replicate m z) → Fr v.ownBlock.toList w w' → (∀ g, v'.ownBlock = some g → v.ownBlock = some g ∨ g = w.heap.size) → wpList P ops Q rest (a.put o.dst v') w') :
  wpList P ops Q (o :: rest) a w :=
 wpList_plain hgd fun _ hK => wp_appz ho hT hz1 hzo hti base v n xs hs hown k m M hx hM hbytes hbase fun v' w' h2 h3 h4 => hK _ _ (h v' w' h2 h3 h4)
theorem run_cp {dT sT ty e : TypeId} (hu : P.underlying dT = some (.slice e)) (hsz : (P.info? e).map (·.size) = some 1) (w : World) (D A : Option Addr) (dLen dCap sLen sCap : Nat) (cs : List Value) (hn : cs.length = Nat.min sLen dLen) (hr : Rd w A cs) (h1 : ∀ u ∈ cs, u.oneCell' = true)
  (g off : Nat) (hD : cs ≠ [] → D = some ⟨g, off, none⟩) (cur : Array Value) (t : TypeId) (fz : Nat × Nat) (hg : w.heap[g]? = some (.cells cur t fz)) (hfz : Free cur.size fz) (hfit : off + cs.length ≤ cur.size) :
  (Builtin.copy_ #[dT, sT] ty #[.slice D dLen dCap, .slice A sLen sCap]).run P w = .ok (goInt cs.length) (w.setRow g (cur.toList.take off ++ cs ++ cur.toList.drop (off + cs.length)).toArray) := by
 obtain ⟨i, hi, hi1⟩ := Option.map_eq_some_iff.1 hsz
 by_cases hc : cs = []
 ·subst hc
  have h0 : Nat.min sLen dLen = 0 := by simpa using hn.symm
  have hrow : (cur.toList.take off ++ [] ++ cur.toList.drop (off + ([] : List Value).length)).toArray = cur := by simp
  rw [hrow, setRow_self w g cur t fz hg]
  exact run_copy_none (P := P) w dT sT ty e D A dLen dCap sLen sCap hu hsz h0
 ·obtain ⟨ad, rfl, hcells⟩ := hr.cells hc
  obtain rfl := hD hc
  have hf := run_firstCells_some (P := P) w i.size cs.length ad sLen sCap cs (by rw [hi1]; omega) hcells
  have hst := run_storeCells_free (P := P) g off t fz cs 0 cur w hg hfz (by simpa using hfit) h1
  simp only [Nat.add_zero] at hst
  rw [hn] at hf ⊢
  simp [Builtin.copy_, run_underlying hu, Builtin.lenOf, sizeOf, typeInfo, hi, hf, hst]
  rw [hn]
theorem wp_cp {o : Oper} {a : Act} {w : World} {K : Act → World → Prop} {Q : Exit → Act → World → Prop} {d s : Operand} {dT sT e : TypeId}
  (ho : o.op = .call { callee := .builtin .copy, args := #[d, s], argTypes := #[dT, sT] }) (hu : P.underlying dT = some (.slice e)) (hsz : (P.info? e).map (·.size) = some 1)
  (D A : Option Addr) (dLen dCap sLen sCap : Nat) (hd : a.eval d = .slice D dLen dCap) (hs : a.eval s = .slice A sLen sCap) (cs : List Value) (hn : cs.length = Nat.min sLen dLen) (hr : Rd w A cs) (h1 : ∀ u ∈ cs, u.oneCell' = true)
  (g off : Nat) (hD : cs ≠ [] → D = some ⟨g, off, none⟩) (cur : Array Value) (t : TypeId) (fz : Nat × Nat) (hg : w.heap[g]? = some (.cells cur t fz)) (hfz : Free cur.size fz) (hfit : off + cs.length ≤ cur.size)
  (h : ∀ w', w'.heap[g]? = some (.cells (cur.toList.take off ++ cs ++ cur.toList.drop (off + cs.length)).toArray t fz) → Fr [g] w w' → K (a.put o.dst (goInt cs.length)) w') : o.wp P a w K Q := by
 have hrun := run_cp (P := P) (sT := sT) (ty := o.type) hu hsz w D A dLen dCap sLen sCap cs hn hr h1 g off hD cur t fz hg hfz hfit
 unfold Oper.wp
 simp [execOp, ho, resolve, invoke, builtin, hd, hs, hrun, Result.andThen]
 refine h _ ?_ ((Fr.refl _ _).setRow (.inl (by simp)) _)
 have := setRow_heap w g cur (cur.toList.take off ++ cs ++ cur.toList.drop (off + cs.length)).toArray t fz hg
 simpa using this
theorem wpList_cp {ops : Array Oper} {rest : List Oper} {o : Oper} {a : Act} {w : World} {Q : Exit → Act → World → Prop} {d s : Operand} {dT sT e : TypeId} (hgd : o.guard = none)
  (ho : o.op = .call { callee := .builtin .copy, args := #[d, s], argTypes := #[dT, sT] }) (hu : P.underlying dT = some (.slice e)) (hsz : (P.info? e).map (·.size) = some 1)
  (D A : Option Addr) (dLen dCap sLen sCap : Nat) (hd : a.eval d = .slice D dLen dCap) (hs : a.eval s = .slice A sLen sCap) (cs : List Value) (hn : cs.length = Nat.min sLen dLen) (hr : Rd w A cs) (h1 : ∀ u ∈ cs, u.oneCell' = true)
  (g off : Nat) (hD : cs ≠ [] → D = some ⟨g, off, none⟩) (cur : Array Value) (t : TypeId) (fz : Nat × Nat) (hg : w.heap[g]? = some (.cells cur t fz)) (hfz : Free cur.size fz) (hfit : off + cs.length ≤ cur.size)
  (h : ∀ w', w'.heap[g]? = some (.cells (cur.toList.take off ++ cs ++ cur.toList.drop (off + cs.length)).toArray t fz) → Fr [g] w w' → wpList P ops Q rest (a.put o.dst (goInt cs.length)) w') :
  wpList P ops Q (o :: rest) a w :=
 wpList_plain hgd fun _ hK => wp_cp ho hu hsz D A dLen dCap sLen sCap hd hs cs hn hr h1 g off hD cur t fz hg hfz hfit fun w' h1 h2 => hK _ _ (h w' h1 h2)
theorem run_mk1 {t e : TypeId} {bytes : Nat} {z : Value} (hT : SlT P t e 1 bytes z) (hz1 : z.cells = #[z]) (w : World) (kl kc : IntKind) (n : Nat) (hb : bytes * n ≤ 281474976710656) :
  (Instr.makeSlice t (.int kl (n : Int)) (.int kc (n : Int))).run P w = .ok (.slice (some ⟨w.heap.size, 0, none⟩) n n) (w.alloc (.cells (List.replicate n z).toArray e)) := by
 obtain ⟨i, hi, hz, hsz, hby⟩ := info_parts hT.info
 have hn : n ≤ 281474976710656 := Nat.le_trans (Nat.le_mul_of_pos_left _ hT.bpos) hb
 have h := run_make (P := P) w t e i z hT.und hi hz kl kc n n (by omega) (Int.le_refl _) (by rw [hby, ← Int.natCast_mul]; omega) (by omega)
 rw [h, hsz, hz1]
 simp only [Int.toNat_natCast, Nat.mul_one]
 congr 3
 apply Array.ext'
 rw [toList_madeCells_one]
theorem wpList_mk1 {ops : Array Oper} {rest : List Oper} {o : Oper} {a : Act} {w : World} {Q : Exit → Act → World → Prop} {l c : Operand} {t e : TypeId} {bytes : Nat} {z : Value}
  (hgd : o.guard = none) (hop : o.op = .makeSlice t l c) (hT : SlT P t e 1 bytes z) (hz1 : z.cells = #[z]) (kl kc : IntKind) (N M : Int) (n : Nat) (hl : a.eval l = .int kl N) (hc : a.eval c = .int kc M) (hN : N = n) (hM : M = n) (hb : bytes * n ≤ 281474976710656)
  (h : ∀ w', Blk w' w.heap.size e (List.replicate n z).toArray → Row w' w.heap.size e 1 (.slice (some ⟨w.heap.size, 0, none⟩) n n) n (List.replicate n z) → Fr [] w w' → w'.heap.size = w.heap.size + 1 → wpList P ops Q rest (a.put o.dst (.slice (some ⟨w.heap.size, 0, none⟩) n n)) w') :
  wpList P ops Q (o :: rest) a w := by
 subst hN hM
 refine wpList_plain hgd fun _ hK => ?_
 have hrun := run_mk1 hT hz1 w kl kc n hb
 have hn : n ≤ maxLen := by
  have := Nat.le_trans (Nat.le_mul_of_pos_left n hT.bpos) hb
  unfold maxLen; omega
 unfold Oper.wp
 simp only [execOp, hop, hl, hc, hrun, Sem.run_bind, Sem.run_pure, Result.andThen_ok]
 have hr := Row.new w (List.replicate n z).toArray e 1 n (0, 0) (free_zero _) hn (by simp) (Nat.le_refl _)
 exact hK _ _ (h _ (Blk.new _ _ _) hr ((Fr.refl _ _).alloc _) (by simp))
theorem conv_str {t e d : TypeId} (hs : P.underlying t = some (.slice e)) (he : P.underlying e = some (.int .u8)) (hd : P.underlying d = some .string) (w : World) (A : Option Addr) (l : List UInt8) (n c : Nat) (hn : l.length = n) (hr : Rd w A (bvs l)) (hA : A = none → n = 0) :
  (convert t d (.slice A n c)).run P w = .ok (.string ⟨l.toArray⟩) w := by
 subst hn
 by_cases hl : l = []
 ·subst hl
  cases A with
  | none => exact run_convert_bytes_nil w t e hs he _ _ d hd
  | some a =>
   have hlc : (loadCells a 0).run P w = .ok (([] : List Int).map (Value.int .u8)).toArray w := by
    have := run_loadCells_list (P := P) w a [] (by simp)
    simpa using this
   rw [run_convert_bytes_string w t d e _ _ c hs he hd]
   have h := run_bytesToString (P := P) w a 0 c [] hlc
   rw [show ([] : List UInt8).length = 0 from rfl, h]
   rfl
 ·cases A with
  | none => exact absurd (List.eq_nil_of_length_eq_zero (hA rfl)) hl
  | some a =>
   obtain ⟨ad, e1, hc⟩ := hr.cells (by simpa [bvs] using hl)
   cases e1
   have hlc : (loadCells a l.length).run P w = .ok ((l.map fun x => (x.toNat : Int)).map (Value.int .u8)).toArray w := by
    have := run_loadCells_list (P := P) w a (bvs l) hc
    rw [bvs_length] at this
    rw [this]
    congr 2
    simp [bvs, bv]
   rw [run_convert_bytes_string w t d e _ _ c hs he hd, run_bytesToString (P := P) w a l.length c _ hlc, foldl_push_bytes]
   congr 2
   show ByteArray.mk _ = _
   congr 1
   apply Array.ext'
   simp only [ByteArray.empty, ByteArray.emptyWithCapacity, List.map_map, Array.toList_append]
   show [] ++ _ = _
   rw [List.nil_append]
   conv => rhs; rw [← List.map_id l]
   apply List.map_congr_left
   intro x _
   simp
end
end
section
open Go.RowKit
section
variable {P : Program}
theorem run_cpS {dT sT ty e : TypeId} {s : Nat} (hu : P.underlying dT = some (.slice e)) (hsz : (P.info? e).map (·.size) = some s) (w : World) (D A : Option Addr) (dLen dCap sLen sCap m : Nat) (cs : List Value) (hm : m = Nat.min sLen dLen) (hn : cs.length = m * s) (hr : Rd w A cs) (hc : cs ≠ []) (h1 : ∀ u ∈ cs, u.oneCell' = true)
  (g off : Nat) (hD : D = some ⟨g, off, none⟩) (cur : Array Value) (t : TypeId) (fz : Nat × Nat) (hg : w.heap[g]? = some (.cells cur t fz)) (hfz : Free cur.size fz) (hfit : off + cs.length ≤ cur.size) :
  (Builtin.copy_ #[dT, sT] ty #[.slice D dLen dCap, .slice A sLen sCap]).run P w = .ok (goInt m) (w.setRow g (cur.toList.take off ++ cs ++ cur.toList.drop (off + cs.length)).toArray) := by
 obtain ⟨i, hi, hi1⟩ := Option.map_eq_some_iff.1 hsz
 obtain ⟨ad, rfl, hcells⟩ := hr.cells hc
 subst hD
 have hf := run_firstCells_some (P := P) w i.size m ad sLen sCap cs (by rw [hi1]; omega) hcells
 have hst := run_storeCells_free (P := P) g off t fz cs 0 cur w hg hfz (by simpa using hfit) h1
 simp only [Nat.add_zero] at hst
 rw [hm] at hf ⊢
 simp [Builtin.copy_, run_underlying hu, Builtin.lenOf, sizeOf, typeInfo, hi, hf, hst]
theorem wp_cpS {o : Oper} {a : Act} {w : World} {K : Act → World → Prop} {Q : Exit → Act → World → Prop} {d s : Operand} {dT sT e : TypeId} {z : Nat}
  (ho : o.op = .call { callee := .builtin .copy, args := #[d, s], argTypes := #[dT, sT] }) (hu : P.underlying dT = some (.slice e)) (hsz : (P.info? e).map (·.size) = some z)
  (D A : Option Addr) (dLen dCap sLen sCap m : Nat) (hd : a.eval d = .slice D dLen dCap) (hs : a.eval s = .slice A sLen sCap) (cs : List Value) (hm : m = Nat.min sLen dLen) (hn : cs.length = m * z) (hr : Rd w A cs) (hc : cs ≠ []) (h1 : ∀ u ∈ cs, u.oneCell' = true)
  (g off : Nat) (hD : D = some ⟨g, off, none⟩) (cur : Array Value) (t : TypeId) (fz : Nat × Nat) (hg : w.heap[g]? = some (.cells cur t fz)) (hfz : Free cur.size fz) (hfit : off + cs.length ≤ cur.size)
  (h : ∀ w', w'.heap[g]? = some (.cells (cur.toList.take off ++ cs ++ cur.toList.drop (off + cs.length)).toArray t fz) → Fr [g] w w' → K (a.put o.dst (goInt m)) w') : o.wp P a w K Q := by
 have hrun := run_cpS (P := P) (sT := sT) (ty := o.type) hu hsz w D A dLen dCap sLen sCap m cs hm hn hr hc h1 g off hD cur t fz hg hfz hfit
 unfold Oper.wp
 simp [execOp, ho, resolve, invoke, builtin, hd, hs, hrun, Result.andThen]
 refine h _ ?_ ((Fr.refl _ _).setRow (.inl (by simp)) _)
 have := setRow_heap w g cur (cur.toList.take off ++ cs ++ cur.toList.drop (off + cs.length)).toArray t fz hg
 simpa using this
theorem wpList_cpS {ops : Array Oper} {rest : List Oper} {o : Oper} {a : Act} {w : World} {Q : Exit → Act → World → Prop} {d s : Operand} {dT sT e : TypeId} {z : Nat} (hgd : o.guard = none)
  (ho : o.op = .call { callee := .builtin .copy, args := #[d, s], argTypes := #[dT, sT] }) (hu : P.underlying dT = some (.slice e)) (hsz : (P.info? e).map (·.size) = some z)
  (D A : Option Addr) (dLen dCap sLen sCap m : Nat) (hd : a.eval d = .slice D dLen dCap) (hs : a.eval s = .slice A sLen sCap) (cs : List Value) (hm : m = Nat.min sLen dLen) (hn : cs.length = m * z) (hr : Rd w A cs) (hc : cs ≠ []) (h1 : ∀ u ∈ cs, u.oneCell' = true)
  (g off : Nat) (hD : D = some ⟨g, off, none⟩) (cur : Array Value) (t : TypeId) (fz : Nat × Nat) (hg : w.heap[g]? = some (.cells cur t fz)) (hfz : Free cur.size fz) (hfit : off + cs.length ≤ cur.size)
  (h : ∀ w', w'.heap[g]? = some (.cells (cur.toList.take off ++ cs ++ cur.toList.drop (off + cs.length)).toArray t fz) → Fr [g] w w' → wpList P ops Q rest (a.put o.dst (goInt m)) w') :
  wpList P ops Q (o :: rest) a w :=
 wpList_plain hgd fun _ hK => wp_cpS ho hu hsz D A dLen dCap sLen sCap m hd hs cs hm hn hr hc h1 g off hD cur t fz hg hfz hfit fun w' h1 h2 => hK _ _ (h w' h1 h2)
theorem madeCells_rep (v : Value) (k n : Nat) (hk : 0 < k) : (madeCells (List.replicate k v).toArray n).toList = List.replicate n v := by
 apply List.ext_getElem
 ·simp [madeCells]
 ·intro i h1 h2
  have h3 : i < n := by simpa using h2
  have h4 : i % k < k := Nat.mod_lt _ hk
  simp [madeCells, h4]
theorem run_mkS {t e : TypeId} {bytes s : Nat} {z v : Value} (hT : SlT P t e s bytes z) (hz : z.cells = (List.replicate s v).toArray) (w : World) (kl kc : IntKind) (n c : Nat) (hnc : n ≤ c) (hb : bytes * c ≤ 281474976710656) :
  (Instr.makeSlice t (.int kl (n : Int)) (.int kc (c : Int))).run P w = .ok (.slice (some ⟨w.heap.size, 0, none⟩) n c) (w.alloc (.cells (List.replicate (c * s) v).toArray e)) := by
 obtain ⟨i, hi, hz', hsz, hby⟩ := info_parts hT.info
 have hn : c ≤ 281474976710656 := Nat.le_trans (Nat.le_mul_of_pos_left _ hT.bpos) hb
 have h := run_make (P := P) w t e i z hT.und hi hz' kl kc n c (by omega) (by omega) (by rw [hby, ← Int.natCast_mul]; omega) (by omega)
 rw [h, hsz, hz]
 simp only [Int.toNat_natCast]
 congr 3
 apply Array.ext'
 rw [madeCells_rep _ _ _ hT.pos]
theorem wp_mkS {o : Oper} {a : Act} {w : World} {K : Act → World → Prop} {Q : Exit → Act → World → Prop} {l c : Operand} {t e : TypeId} {bytes s : Nat} {z v : Value}
  (hop : o.op = .makeSlice t l c) (hT : SlT P t e s bytes z) (hz : z.cells = (List.replicate s v).toArray) (kl kc : IntKind) (N M : Int) (n m : Nat) (hl : a.eval l = .int kl N) (hc : a.eval c = .int kc M) (hN : N = n) (hM : M = m) (hnm : n ≤ m) (hb : bytes * m ≤ 281474976710656)
  (h : ∀ w', Blk w' w.heap.size e (List.replicate (m * s) v).toArray → Fr [] w w' → w'.heap.size = w.heap.size + 1 → K (a.put o.dst (.slice (some ⟨w.heap.size, 0, none⟩) n m)) w') : o.wp P a w K Q := by
 subst hN hM
 have hrun := run_mkS hT hz w kl kc n m hnm hb
 unfold Oper.wp
 simp only [execOp, hop, hl, hc, hrun, Sem.run_bind, Sem.run_pure, Result.andThen_ok]
 exact h _ (Blk.new _ _ _) ((Fr.refl _ _).alloc _) (by simp)
theorem wpList_mkS {ops : Array Oper} {rest : List Oper} {o : Oper} {a : Act} {w : World} {Q : Exit → Act → World → Prop} {l c : Operand} {t e : TypeId} {bytes s : Nat} {z v : Value}
  (hgd : o.guard = none) (hop : o.op = .makeSlice t l c) (hT : SlT P t e s bytes z) (hz : z.cells = (List.replicate s v).toArray) (kl kc : IntKind) (N M : Int) (n m : Nat) (hl : a.eval l = .int kl N) (hc : a.eval c = .int kc M) (hN : N = n) (hM : M = m) (hnm : n ≤ m) (hb : bytes * m ≤ 281474976710656)
  (h : ∀ w', Blk w' w.heap.size e (List.replicate (m * s) v).toArray → Fr [] w w' → w'.heap.size = w.heap.size + 1 → wpList P ops Q rest (a.put o.dst (.slice (some ⟨w.heap.size, 0, none⟩) n m)) w') :
  wpList P ops Q (o :: rest) a w :=
 wpList_plain hgd fun _ hK => wp_mkS hop hT hz kl kc N M n m hl hc hN hM hnm hb fun w' h1 h2 h3 => hK _ _ (h w' h1 h2 h3)
theorem run_appR {t e : TypeId} {size bytes : Nat} {z : Value} (hT : SlT P t e size bytes z) (w : World) (ty : TypeId) (g n cap : Nat) (cur : Array Value) (hg : Blk w g e cur) (hcs : cur.size = cap * size)
  (A : Option Addr) (m c : Nat) (ys : List Value) (hl : ys.length = m * size) (hr : Rd w A ys) (hy : ys ≠ []) (h1 : ∀ u ∈ ys, u.oneCell' = true) (hroom : n + m ≤ cap) :
  (Builtin.append_ #[t, t] ty #[.slice (some ⟨g, 0, none⟩) n cap, .slice A m c]).run P w = .ok (.slice (some ⟨g, 0, none⟩) (n + m) cap) (w.setRow g (cur.toList.take (n * size) ++ ys ++ cur.toList.drop (n * size + ys.length)).toArray) := by
 obtain ⟨i, hi, hz, hsz, hby⟩ := info_parts hT.info
 have ht := hT.und
 obtain ⟨ad, rfl, hnews⟩ := hr.cells hy
 subst hsz
 have hfit : n * i.size + ys.length ≤ cur.size := by rw [hl, hcs, ← Nat.add_mul]; exact Nat.mul_le_mul_right _ hroom
 have hf := run_firstCells_some (P := P) w i.size m ad m c ys hl hnews
 have hst := run_storeCells_free (P := P) g (n * i.size) e (0, 0) ys 0 cur w hg (free_zero _) (by simpa using hfit) h1
 simp only [Nat.add_zero] at hst
 simp [Builtin.append_, run_underlying ht, sizeOf, typeInfo, hi, Builtin.lenOf, hroom, hf, addr_add, hst]
theorem wp_appR {o : Oper} {a : Act} {w : World} {K : Act → World → Prop} {Q : Exit → Act → World → Prop} {s x : Operand} {t e : TypeId} {size bytes : Nat} {z : Value}
  (ho : o.op = .call { callee := .builtin .append, args := #[s, x], argTypes := #[t, t] }) (hT : SlT P t e size bytes z) (g n cap : Nat) (hs : a.eval s = .slice (some ⟨g, 0, none⟩) n cap) (cur : Array Value) (hg : Blk w g e cur) (hcs : cur.size = cap * size)
  (A : Option Addr) (m c : Nat) (hx : a.eval x = .slice A m c) (ys : List Value) (hl : ys.length = m * size) (hr : Rd w A ys) (hy : ys ≠ []) (h1 : ∀ u ∈ ys, u.oneCell' = true) (hroom : n + m ≤ cap)
  (h : ∀ w', Blk w' g e (cur.toList.take (n * size) ++ ys ++ cur.toList.drop (n * size + ys.length)).toArray → Fr [g] w w' → K (a.put o.dst (.slice (some ⟨g, 0, none⟩) (n + m) cap)) w') : o.wp P a w K Q := by
 have hrun := run_appR (P := P) (ty := o.type) hT w g n cap cur hg hcs A m c ys hl hr hy h1 hroom
 unfold Oper.wp
 simp [execOp, ho, resolve, invoke, builtin, hs, hx, hrun, Result.andThen]
 refine h _ ?_ ((Fr.refl _ _).setRow (.inl (by simp)) _)
 have := hg.row_ (cur.toList.take (n * size) ++ ys ++ cur.toList.drop (n * size + ys.length)).toArray
 simpa using this
theorem wpList_appR {ops : Array Oper} {rest : List Oper} {o : Oper} {a : Act} {w : World} {Q : Exit → Act → World → Prop} {s x : Operand} {t e : TypeId} {size bytes : Nat} {z : Value}
  (hgd : o.guard = none) (ho : o.op = .call { callee := .builtin .append, args := #[s, x], argTypes := #[t, t] }) (hT : SlT P t e size bytes z) (g n cap : Nat) (hs : a.eval s = .slice (some ⟨g, 0, none⟩) n cap) (cur : Array Value) (hg : Blk w g e cur) (hcs : cur.size = cap * size)
  (A : Option Addr) (m c : Nat) (hx : a.eval x = .slice A m c) (ys : List Value) (hl : ys.length = m * size) (hr : Rd w A ys) (hy : ys ≠ []) (h1 : ∀ u ∈ ys, u.oneCell' = true) (hroom : n + m ≤ cap)
  (h : ∀ w', Blk w' g e (cur.toList.take (n * size) ++ ys ++ cur.toList.drop (n * size + ys.length)).toArray → Fr [g] w w' → wpList P ops Q rest (a.put o.dst (.slice (some ⟨g, 0, none⟩) (n + m) cap)) w') :
  wpList P ops Q (o :: rest) a w :=
 wpList_plain hgd fun _ hK => wp_appR ho hT g n cap hs cur hg hcs A m c hx ys hl hr hy h1 hroom fun w' h1 h2 => hK _ _ (h w' h1 h2)
end
end
end Go.Proofs.YtbanogfljpkbkaaGreatDoor
