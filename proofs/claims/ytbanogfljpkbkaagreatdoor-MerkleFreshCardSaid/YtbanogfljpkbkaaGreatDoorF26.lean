/-
  Texts of this claim, one behind the other: JnB, JnC, JnD.
-/
import Derived.Test.YtbanogfljpkbkaaGreatDoorF25
import Derived.Test.YtbanogfljpkbkaaGreatDoorF14
import Derived.Handy
import Derived.Test.YtbanogfljpkbkaaGreatDoorF3
import Derived.Test.YtbanogfljpkbkaaGreatDoorF21
set_option linter.unusedSimpArgs false
set_option linter.unusedVariables false
set_option linter.unnecessarySimpa false
namespace Go.Proofs.YtbanogfljpkbkaaGreatDoor
section
open Go.RowKit
set_option maxRecDepth 100000
inductive Stp where
 | wr (x : Int) (b : List UInt8)
 | fl
def Stp.E (D : DkM) : Stp → Int
 | .wr x b => D.writeE x b.length
 | .fl => D.flushE
def Stp.D (D : DkM) : Stp → DkM
 | .wr x b => D.write x b
 | .fl => D.flush
def runS : DkM → List Stp → Int × DkM
 | D, [] => (0, D)
 | D, s :: r => if s.E D = 0 then runS (s.D D) r else (s.E D, s.D D)
theorem Stp.D_uns (s : Stp) (D : DkM) (x : Int) : ((s.D D).uns x).length ≤ (D.uns x).length + 1 := by
 have hdec : ∀ E : DkM, E.dec.uns = E.uns := fun E => rfl
 cases s with
 | wr y b =>
  show ((D.write y b).uns x).length ≤ _
  rw [DkM.write]
  split
  ·omega
  ·split
   ·omega
   ·rw [hdec]
    show (if x = y then D.uns y ++ [b] else D.uns x).length ≤ _
    split
    ·rename_i e; subst e; simp
    ·omega
 | fl =>
  show ((D.flush).uns x).length ≤ _
  rw [DkM.flush]
  split
  ·omega
  ·rw [hdec]; exact Nat.zero_le _
section
variable {w w' : World} {p : Nat} {O : List Nat} {D : DkM}
structure Cap3 (w : World) (O : List Nat) (p g1 g2 g3 : Nat) (x : Int) (b : List UInt8) : Prop where
 k1 : Blk w g1 32 #[.pointer (some ⟨p, 0, none⟩)]
 k2 : Blk w g2 3 #[.int .i64 x]
 k3 : ∃ v, Blk w g3 27 #[v] ∧ Row w 0 5 1 v b.length (bvs b)
 nO : g1 ∉ O ∧ g2 ∉ O ∧ g3 ∉ O
theorem jnMark1_any (h : Dsk w p O D) {g1 g2 g3 : Nat} {x : Int} {b : List UInt8} (c : Cap3 w O p g1 g2 g3 x b) (hu : (D.uns x).length ≤ 4398046511104) :
  Calls Tryz.prog 110 #[.pointer (some ⟨g1, 0, none⟩), .pointer (some ⟨g2, 0, none⟩), .pointer (some ⟨g3, 0, none⟩)] w fun e w' => e = .returned (.int .i64 (Stp.E D (.wr x b))) ∧ AftD w p O (Stp.D D (.wr x b)) w' := by
 obtain ⟨v, k3, r⟩ := c.k3
 obtain ⟨A, cc, rfl, -, -, -, -, -⟩ := r.shape
 have cw := dkWrite_any h x A b.length cc b rfl r.rdD.1 r.rdD.2.2 hu
 have c1 := c.k1.cell 0
 have c2 := c.k2.cell 0
 have c3 := k3.cell 0
 obtain ⟨n, hn⟩ : ∃ n, b.length = n := ⟨_, rfl⟩
 obtain ⟨z, hz⟩ : ∃ z, D.writeE x n = z := ⟨_, rfl⟩
 rw [hn] at cw c3
 rw [hz] at cw
 have HZ := Lib.hid (show Stp.E D (.wr x b) = z by rw [Stp.E, hn, hz])
 clear hn hz r k3 c h
 go_enter Tryz.func110, Tryz.ntmps110
 go_wp2_with (go_at_call 111; refine cw.mono ?_; rintro e w' ⟨rfl, ha⟩)
 go_ret
 exact ⟨by rw [HZ.out]; rfl, ha⟩
structure CapA (w : World) (O : List Nat) (p gj g1 g2 g3 : Nat) (J : JrM) (i : Nat) (b : List UInt8) : Prop where
 kj : Jr w gj p J
 k1 : Blk w g1 129 #[.pointer (some ⟨gj, 0, none⟩)]
 k2 : Blk w g2 3 #[.int .i64 i]
 k3 : ∃ v, Blk w g3 27 #[v] ∧ Row w 0 5 1 v b.length (bvs b)
 nO : gj ∉ O ∧ g1 ∉ O ∧ g2 ∉ O ∧ g3 ∉ O
structure CapS (w : World) (O : List Nat) (p gj g1 g2 : Nat) (J : JrM) (i : Nat) : Prop where
 kj : Jr w gj p J
 k1 : Blk w g1 129 #[.pointer (some ⟨gj, 0, none⟩)]
 k2 : Blk w g2 3 #[.int .i64 i]
 nO : gj ∉ O ∧ g1 ∉ O ∧ g2 ∉ O
theorem jnAppend1_any (h : Dsk w p O D) {gj g1 g2 g3 : Nat} {J : JrM} {i : Nat} {b : List UInt8} (c : CapA w O p gj g1 g2 g3 J i b) (ok : J.ok) (hi : i ≤ 4096) (hu : (D.uns (J.first + 1 + J.used + i)).length ≤ 4398046511104) :
  Calls Tryz.prog 147 #[.pointer (some ⟨g1, 0, none⟩), .pointer (some ⟨g2, 0, none⟩), .pointer (some ⟨g3, 0, none⟩)] w fun e w' => e = .returned (.int .i64 (Stp.E D (.wr (J.first + 1 + J.used + i) b))) ∧ AftD w p O (Stp.D D (.wr (J.first + 1 + J.used + i) b)) w' := by
 obtain ⟨x, hx⟩ : ∃ x, J.first + 1 + J.used + (i : Int) = x := ⟨_, rfl⟩
 rw [hx] at hu ⊢
 obtain ⟨v, k3, r⟩ := c.k3
 obtain ⟨A, cc, rfl, -, -, -, -, -⟩ := r.shape
 have fD : Fr [] w w.drew := (Fr.refl _ _).drew
 have cw := dkWrite_any (h.keep_nil fD) x A b.length cc b rfl (r.keep_nil fD).rdD.1 r.rdD.2.2 hu
 obtain ⟨n, hn⟩ : ∃ n, b.length = n := ⟨_, rfl⟩
 obtain ⟨z, hz⟩ : ∃ z, D.writeE x n = z := ⟨_, rfl⟩
 have HZ := Lib.hid (show Stp.E D (.wr x b) = z by rw [Stp.E, hn, hz])
 rw [hn] at cw k3
 rw [hz] at cw
 have s0 : w.cell? ⟨gj, 0, none⟩ = some (.pointer (some ⟨p, 0, none⟩)) ∧ w.cell? ⟨gj, 1, none⟩ = some (.int .i64 J.first) ∧ w.cell? ⟨gj, 4, none⟩ = some (.int .i64 J.used) ∧ w.cell? ⟨g1, 0, none⟩ = some (.pointer (some ⟨gj, 0, none⟩)) ∧ w.cell? ⟨g2, 0, none⟩ = some (.int .i64 i) ∧ w.cell? ⟨g3, 0, none⟩ = some (.slice A n cc) :=
  ⟨Blk.cell c.kj 0, Blk.cell c.kj 1, Blk.cell c.kj 4, c.k1.cell 0, c.k2.cell 0, k3.cell 0⟩
 have sF : ∀ (F : List Nat) (w' : World), Fr F w w' → (∀ j ∈ F, j ∈ O) → (w'.cell? ⟨gj, 0, none⟩ = some (.pointer (some ⟨p, 0, none⟩)) ∧ w'.cell? ⟨gj, 1, none⟩ = some (.int .i64 J.first) ∧ w'.cell? ⟨gj, 4, none⟩ = some (.int .i64 J.used) ∧ w'.cell? ⟨g1, 0, none⟩ = some (.pointer (some ⟨gj, 0, none⟩)) ∧ w'.cell? ⟨g2, 0, none⟩ = some (.int .i64 i) ∧ w'.cell? ⟨g3, 0, none⟩ = some (.slice A n cc)) := fun F w' f hF =>
  ⟨f.cell (fun hm => c.nO.1 (hF _ hm)) s0.1, f.cell (fun hm => c.nO.1 (hF _ hm)) s0.2.1, f.cell (fun hm => c.nO.1 (hF _ hm)) s0.2.2.1, f.cell (fun hm => c.nO.2.1 (hF _ hm)) s0.2.2.2.1, f.cell (fun hm => c.nO.2.2.1 (hF _ hm)) s0.2.2.2.2.1, f.cell (fun hm => c.nO.2.2.2 (hF _ hm)) s0.2.2.2.2.2⟩
 have hf := ok.f
 have hus := ok.u
 have e1 : IntKind.i64.wrap (J.first + 1) = J.first + 1 := IntWalk.i64_in _ (by omega)
 have e2 : IntKind.i64.wrap (J.first + 1 + J.used) = J.first + 1 + J.used := IntWalk.i64_in _ (by omega)
 have e3 : IntKind.i64.wrap (J.first + 1 + J.used + (i : Int)) = x := by rw [← hx]; exact IntWalk.i64_in _ (by omega)
 have SF := Lib.hid sF
 have FD := Lib.hid fD
 have hD := sF [] _ fD (by simp)
 clear hx hz hn s0 sF k3 r c h fD
 go_enter Tryz.func147, Tryz.ntmps147
 go_upto_region 1 with fail
 refine wp_region_held_drew (S := fun w' => w'.cell? ⟨gj, 0, none⟩ = some (.pointer (some ⟨p, 0, none⟩)) ∧ w'.cell? ⟨gj, 1, none⟩ = some (.int .i64 J.first) ∧ w'.cell? ⟨gj, 4, none⟩ = some (.int .i64 J.used) ∧ w'.cell? ⟨g1, 0, none⟩ = some (.pointer (some ⟨gj, 0, none⟩)) ∧ w'.cell? ⟨g2, 0, none⟩ = some (.int .i64 i) ∧ w'.cell? ⟨g3, 0, none⟩ = some (.slice A n cc)) (by kernel_rfl) hD (fun hHeld => ?_)
 clear hD
 refine tw 0 4 hHeld ?_
 refine tw 1 5 hHeld ?_
 refine tw 2 6 hHeld ?_
 refine tw 3 7 hHeld ?_
 refine tw 4 8 hHeld ?_
 refine tw 5 9 hHeld ?_
 refine tw 6 10 hHeld ?_
 refine tw 7 11 hHeld ?_
 refine tw 8 12 hHeld ?_
 refine tw 9 13 hHeld ?_
 refine tw 10 14 hHeld ?_
 refine tw 11 15 hHeld ?_
 refine tw 12 16 hHeld ?_
 refine tw 13 17 hHeld ?_
 refine tw 14 18 hHeld ?_
 refine tw 15 19 hHeld ?_
 refine tw 16 20 hHeld ?_
 refine tc 17 (fun K hK => ?_)
 go_simp
 refine cw.mono ?_
 rintro e w5 ⟨rfl, ha⟩
 have hHx := SF.out O w5 (by obtain ⟨O', -, -, f⟩ := ha; exact FD.out.nil.trans f (fun i hi => .inl hi)) (fun _ h => h)
 refine hK.out _ _ hHx (fun hHy => ?_)
 clear hK cw hHeld hHy
 have hHeld := hHx
 clear hHx
 try simp only [Act.put, p1, p2, p3]
 refine tw 18 3 hHeld ?_
 refine wpAnyH_done (by kernel_rfl) ?_ _
 clear hHeld
 go_wp2_with fail
 go_ret
 exact ⟨by rw [HZ.out]; rfl, ha.pre FD.out⟩
def StV (w : World) (O : List Nat) (p : Nat) (v : Value) : Stp → Prop
 | .fl => v = .func (.func 112) #[.pointer (some ⟨p, 0, none⟩)] #[]
 | .wr x b => (∃ g1 g2 g3, v = .func (.func 110) #[] #[.pointer (some ⟨g1, 0, none⟩), .pointer (some ⟨g2, 0, none⟩), .pointer (some ⟨g3, 0, none⟩)] ∧ Cap3 w O p g1 g2 g3 x b) ∨
  (∃ gj g1 g2 g3 J i, v = .func (.func 147) #[] #[.pointer (some ⟨g1, 0, none⟩), .pointer (some ⟨g2, 0, none⟩), .pointer (some ⟨g3, 0, none⟩)] ∧ CapA w O p gj g1 g2 g3 J i b ∧ J.ok ∧ i ≤ 4096 ∧ x = J.first + 1 + J.used + i) ∨
  (∃ gj g1 g2 J i, v = .nilFunc ∧ CapS w O p gj g1 g2 J i ∧ J.ok ∧ i ≤ 4096 ∧ x = J.first + i ∧ b = zB512 ∧ False)
theorem Jr.lt {J : JrM} {g : Nat} (h : Jr w g p J) : g < w.heap.size := Blk.lt h
theorem StV.keep {F O1 : List Nat} {v : Value} {s : Stp} (h : StV w O p v s) (f : Fr F w w') (hF : ∀ i ∈ F, i ∈ O) (h8 : NoTy w O 5) (hO : ∀ i ∈ O1, i ∈ O ∨ w.heap.size ≤ i) : StV w' O1 p v s := by
 have key : ∀ g, g < w.heap.size → g ∉ O → g ∉ F ∧ g ∉ O1 := fun g hg hn => ⟨fun hm => hn (hF g hm), fun hm => by rcases hO g hm with h | h; exact hn h; omega⟩
 have h8F := h8.sub hF
 cases s with
 | fl => exact h
 | wr x b =>
  rcases h with ⟨g1, g2, g3, rfl, ⟨k1, k2, ⟨u, k3, r⟩, n1, n2, n3⟩⟩ | ⟨gj, g1, g2, g3, J, i, rfl, ⟨kj, k1, k2, ⟨u, k3, r⟩, nj, n1, n2, n3⟩, hr⟩ | ⟨gj, g1, g2, J, i, rfl, ⟨kj, k1, k2, nj, n1, n2⟩, hr⟩
  ·exact .inl ⟨g1, g2, g3, rfl, k1.keep f (key _ k1.lt n1).1, k2.keep f (key _ k2.lt n2).1, ⟨u, k3.keep f (key _ k3.lt n3).1, r.keepT f h8F⟩, (key _ k1.lt n1).2, (key _ k2.lt n2).2, (key _ k3.lt n3).2⟩
  ·exact .inr (.inl ⟨gj, g1, g2, g3, J, i, rfl, ⟨kj.keep f (key _ kj.lt nj).1, k1.keep f (key _ k1.lt n1).1, k2.keep f (key _ k2.lt n2).1, ⟨u, k3.keep f (key _ k3.lt n3).1, r.keepT f h8F⟩, (key _ kj.lt nj).2, (key _ k1.lt n1).2, (key _ k2.lt n2).2, (key _ k3.lt n3).2⟩, hr⟩)
  ·exact .inr (.inr ⟨gj, g1, g2, J, i, rfl, ⟨kj.keep f (key _ kj.lt nj).1, k1.keep f (key _ k1.lt n1).1, k2.keep f (key _ k2.lt n2).1, (key _ kj.lt nj).2, (key _ k1.lt n1).2, (key _ k2.lt n2).2⟩, hr⟩)
theorem Dsk.no8s (h : Dsk w p O D) : NoTy w O 5 := by obtain ⟨X, h⟩ := h; exact h.no8
theorem StV.calls (h : Dsk w p O D) {v : Value} {s : Stp} (hv : StV w O p v s) (hu : ∀ x, (D.uns x).length ≤ 4398046511104) :
  (v = .func (.func 112) #[.pointer (some ⟨p, 0, none⟩)] #[] ∧ Calls Tryz.prog 112 #[.pointer (some ⟨p, 0, none⟩)] w fun e w' => e = .returned (.int .i64 (s.E D)) ∧ AftD w p O (s.D D) w') ∨
  (∃ x y z, v = .func (.func 110) #[] #[x, y, z] ∧ Calls Tryz.prog 110 #[x, y, z] w fun e w' => e = .returned (.int .i64 (s.E D)) ∧ AftD w p O (s.D D) w') ∨
  (∃ x y z, v = .func (.func 147) #[] #[x, y, z] ∧ Calls Tryz.prog 147 #[x, y, z] w fun e w' => e = .returned (.int .i64 (s.E D)) ∧ AftD w p O (s.D D) w') ∨
  (∃ x y, v = .func (.func 147) #[] #[x, y] ∧ Calls Tryz.prog 147 #[x, y] w fun e w' => e = .returned (.int .i64 (s.E D)) ∧ AftD w p O (s.D D) w') := by
 cases s with
 | fl => exact .inl ⟨hv, dkFlush_any h⟩
 | wr x b =>
  rcases hv with ⟨g1, g2, g3, rfl, c⟩ | ⟨gj, g1, g2, g3, J, i, rfl, c, ok, hi, rfl⟩ | ⟨gj, g1, g2, J, i, e, c, ok, hi, hx, hb, hF⟩
  ·exact .inr (.inl ⟨_, _, _, rfl, jnMark1_any h c (hu x)⟩)
  ·exact .inr (.inr (.inl ⟨_, _, _, rfl, jnAppend1_any h c ok hi (hu _)⟩))
  ·exact hF.elim
theorem runS_drop {D : DkM} {ss : List Stp} {k : Nat} (hk : k < ss.length) : runS D (ss.drop k) = if ss[k].E D = 0 then runS (ss[k].D D) (ss.drop (k + 1)) else (ss[k].E D, ss[k].D D) := by
 rw [List.drop_eq_getElem_cons hk, runS]
set_option maxHeartbeats 1000000 in
theorem jnRun_any (h : Dsk w p O D) {A : Option Addr} {n c : Nat} {fs : List Value} {ss : List Stp} (hr : Row w 0 47 1 (.slice A n c) n fs) (hA : ∀ g, (Value.slice A n c).ownBlock = some g → g ∉ O) (hl : ss.length = n)
  (hs : ∀ i (h : i < fs.length) (h' : i < ss.length), StV w O p fs[i] ss[i]) (hu : ∀ x, (D.uns x).length + n ≤ 4398046511104) :
  Calls Tryz.prog 109 #[.slice A n c] w fun e w' => e = .returned (.int .i64 (runS D ss).1) ∧ AftD w p O (runS D ss).2 w' := by
 have hfl : fs.length = n := by have := hr.1; omega
 have HRW := Lib.hid (And.intro hr hA)
 have HS := Lib.hid (And.intro hs (And.intro hl hfl))
 have H8 := Lib.hid h.no8s
 have hd0 : ∃ O' Dk, (Dsk w p O' Dk ∧ (∀ i ∈ O', i ∈ O ∨ w.heap.size ≤ i) ∧ Fr O w w) ∧ runS Dk (ss.drop 0) = runS D ss ∧ ∀ x, (Dk.uns x).length + (n - 0) ≤ 4398046511104 := ⟨O, D, ⟨h, fun i hi => .inl hi, Fr.refl _ _⟩, by rw [List.drop_zero], by simpa using hu⟩
 have hnb : n ≤ 4398046511104 := by have := hu 0; omega
 clear hr hA hs h hu hfl
 go_enter Tryz.func109, Tryz.ntmps109
 go_wp2_with fail
 go_loopw [8] (fun i wr => ∃ k : Nat, k ≤ n ∧ i = .int .i64 k ∧ ∃ O' Dk, (Dsk wr p O' Dk ∧ (∀ i ∈ O', i ∈ O ∨ w.heap.size ≤ i) ∧ Fr O w wr) ∧ runS Dk (ss.drop k) = runS D ss ∧ ∀ x, (Dk.uns x).length + (n - k) ≤ 4398046511104) (fun i _ => n - (intOf i).toNat)
 case atStart => exact ⟨0, by omega, rfl, hd0⟩
 case round =>
  clear hd0
  obtain ⟨k, hkn, rfl, O1, Dk, ⟨hd, hO, hF⟩, hR, hU⟩ := hrel
  by_cases hlt : k < n
  ·have d0 : (k : Int) < n := by omega
   have hk' : k < ss.length := by have := HS.out.2.1; omega
   have hkf : k < fs.length := by have := HS.out.2.2; omega
   have rr := HRW.out.1.keep hF HRW.out.2
   obtain ⟨g, cg, e⟩ := rr.hdD (by omega)
   cases e
   obtain ⟨g', o', e', hcs⟩ := rr.rdD.1 (by intro h0; rw [h0] at hkf; simp at hkf)
   cases e'
   have ck := hcs k _ (List.getElem?_eq_getElem hkf)
   rw [Nat.zero_add] at ck
   have sv := (HS.out.1 k hkf hk').keep hF (fun _ h => h) H8.out hO
   have cv := StV.calls hd sv (fun x => by have := hU x; omega)
   obtain ⟨z, hz⟩ : ∃ z, ss[k].E Dk = z := ⟨_, rfl⟩
   rw [hz] at cv
   have HR := Lib.hid hR
   have HU := Lib.hid hU
   have HO := Lib.hid hO
   have HF := Lib.hid hF
   have HDk := Lib.hid hd
   obtain ⟨v, hv⟩ : ∃ v, fs[k] = v := ⟨_, rfl⟩
   rw [hv] at ck cv
   clear rr hcs sv hR hU hO hF hd hv
   rcases cv with ⟨rfl, hc⟩ | ⟨a1, a2, a3, rfl, hc⟩ | ⟨a1, a2, a3, rfl, hc⟩ | ⟨a1, a2, rfl, hc⟩
   ·as_aux_lemma =>
    have HZ := Lib.hid hz
    have HX := Lib.hid (show runS Dk (ss.drop k) = if z = 0 then runS (ss[k].D Dk) (ss.drop (k + 1)) else (z, ss[k].D Dk) by rw [runS_drop hk', hz])
    clear hz
    by_cases hz0 : z = 0
    ·have HX0 := Lib.hid (show runS Dk (ss.drop k) = runS (ss[k].D Dk) (ss.drop (k + 1)) by rw [HX.out, if_pos hz0])
     subst hz0
     go_wp2_with fail
     refine hc.mono ?_
     rintro e w5 ⟨rfl, ha⟩
     have HA := Lib.hid ha
     clear ha hc
     go_wp2_with fail
     obtain ⟨O', k1, k2, k3⟩ := HA.out
     refine ⟨⟨k + 1, by omega, by go_num, O', _, ⟨k1, fun i hi => ?_, HF.out.trans k3 (fun i hi => HO.out i hi)⟩, ?_, fun x => ?_⟩, by simp [intOf]; omega⟩
     ·rcases k2 i hi with h | h
      ·exact HO.out i h
      ·have := HF.out.size; exact .inr (by omega)
     ·rw [← HR.out, HX0.out]
     ·have := HU.out x
      have := ss[k].D_uns Dk x
      omega
    ·have dz : (z == 0) = false := by simpa using hz0
     have HX0 := Lib.hid (show runS Dk (ss.drop k) = (z, ss[k].D Dk) by rw [HX.out, if_neg hz0])
     go_wp2_with fail
     refine hc.mono ?_
     rintro e w5 ⟨rfl, ha⟩
     have HA := Lib.hid ha
     clear ha hc
     go_wp2_with fail
     go_ret
     rw [← HR.out, HX0.out]
     refine ⟨rfl, ?_⟩
     obtain ⟨O', k1, k2, k3⟩ := HA.out
     refine ⟨O', k1, fun i hi => ?_, HF.out.trans k3 (fun i hi => HO.out i hi)⟩
     rcases k2 i hi with h | h
     ·exact HO.out i h
     ·have := HF.out.size; exact .inr (by omega)
   ·as_aux_lemma =>
    have HZ := Lib.hid hz
    have HX := Lib.hid (show runS Dk (ss.drop k) = if z = 0 then runS (ss[k].D Dk) (ss.drop (k + 1)) else (z, ss[k].D Dk) by rw [runS_drop hk', hz])
    clear hz
    by_cases hz0 : z = 0
    ·have HX0 := Lib.hid (show runS Dk (ss.drop k) = runS (ss[k].D Dk) (ss.drop (k + 1)) by rw [HX.out, if_pos hz0])
     subst hz0
     go_wp2_with fail
     refine hc.mono ?_
     rintro e w5 ⟨rfl, ha⟩
     have HA := Lib.hid ha
     clear ha hc
     go_wp2_with fail
     obtain ⟨O', k1, k2, k3⟩ := HA.out
     refine ⟨⟨k + 1, by omega, by go_num, O', _, ⟨k1, fun i hi => ?_, HF.out.trans k3 (fun i hi => HO.out i hi)⟩, ?_, fun x => ?_⟩, by simp [intOf]; omega⟩
     ·rcases k2 i hi with h | h
      ·exact HO.out i h
      ·have := HF.out.size; exact .inr (by omega)
     ·rw [← HR.out, HX0.out]
     ·have := HU.out x
      have := ss[k].D_uns Dk x
      omega
    ·have dz : (z == 0) = false := by simpa using hz0
     have HX0 := Lib.hid (show runS Dk (ss.drop k) = (z, ss[k].D Dk) by rw [HX.out, if_neg hz0])
     go_wp2_with fail
     refine hc.mono ?_
     rintro e w5 ⟨rfl, ha⟩
     have HA := Lib.hid ha
     clear ha hc
     go_wp2_with fail
     go_ret
     rw [← HR.out, HX0.out]
     refine ⟨rfl, ?_⟩
     obtain ⟨O', k1, k2, k3⟩ := HA.out
     refine ⟨O', k1, fun i hi => ?_, HF.out.trans k3 (fun i hi => HO.out i hi)⟩
     rcases k2 i hi with h | h
     ·exact HO.out i h
     ·have := HF.out.size; exact .inr (by omega)
   ·as_aux_lemma =>
    have HZ := Lib.hid hz
    have HX := Lib.hid (show runS Dk (ss.drop k) = if z = 0 then runS (ss[k].D Dk) (ss.drop (k + 1)) else (z, ss[k].D Dk) by rw [runS_drop hk', hz])
    clear hz
    by_cases hz0 : z = 0
    ·have HX0 := Lib.hid (show runS Dk (ss.drop k) = runS (ss[k].D Dk) (ss.drop (k + 1)) by rw [HX.out, if_pos hz0])
     subst hz0
     go_wp2_with fail
     refine hc.mono ?_
     rintro e w5 ⟨rfl, ha⟩
     have HA := Lib.hid ha
     clear ha hc
     go_wp2_with fail
     obtain ⟨O', k1, k2, k3⟩ := HA.out
     refine ⟨⟨k + 1, by omega, by go_num, O', _, ⟨k1, fun i hi => ?_, HF.out.trans k3 (fun i hi => HO.out i hi)⟩, ?_, fun x => ?_⟩, by simp [intOf]; omega⟩
     ·rcases k2 i hi with h | h
      ·exact HO.out i h
      ·have := HF.out.size; exact .inr (by omega)
     ·rw [← HR.out, HX0.out]
     ·have := HU.out x
      have := ss[k].D_uns Dk x
      omega
    ·have dz : (z == 0) = false := by simpa using hz0
     have HX0 := Lib.hid (show runS Dk (ss.drop k) = (z, ss[k].D Dk) by rw [HX.out, if_neg hz0])
     go_wp2_with fail
     refine hc.mono ?_
     rintro e w5 ⟨rfl, ha⟩
     have HA := Lib.hid ha
     clear ha hc
     go_wp2_with fail
     go_ret
     rw [← HR.out, HX0.out]
     refine ⟨rfl, ?_⟩
     obtain ⟨O', k1, k2, k3⟩ := HA.out
     refine ⟨O', k1, fun i hi => ?_, HF.out.trans k3 (fun i hi => HO.out i hi)⟩
     rcases k2 i hi with h | h
     ·exact HO.out i h
     ·have := HF.out.size; exact .inr (by omega)
   ·as_aux_lemma =>
    have HZ := Lib.hid hz
    have HX := Lib.hid (show runS Dk (ss.drop k) = if z = 0 then runS (ss[k].D Dk) (ss.drop (k + 1)) else (z, ss[k].D Dk) by rw [runS_drop hk', hz])
    clear hz
    by_cases hz0 : z = 0
    ·have HX0 := Lib.hid (show runS Dk (ss.drop k) = runS (ss[k].D Dk) (ss.drop (k + 1)) by rw [HX.out, if_pos hz0])
     subst hz0
     go_wp2_with fail
     refine hc.mono ?_
     rintro e w5 ⟨rfl, ha⟩
     have HA := Lib.hid ha
     clear ha hc
     go_wp2_with fail
     obtain ⟨O', k1, k2, k3⟩ := HA.out
     refine ⟨⟨k + 1, by omega, by go_num, O', _, ⟨k1, fun i hi => ?_, HF.out.trans k3 (fun i hi => HO.out i hi)⟩, ?_, fun x => ?_⟩, by simp [intOf]; omega⟩
     ·rcases k2 i hi with h | h
      ·exact HO.out i h
      ·have := HF.out.size; exact .inr (by omega)
     ·rw [← HR.out, HX0.out]
     ·have := HU.out x
      have := ss[k].D_uns Dk x
      omega
    ·have dz : (z == 0) = false := by simpa using hz0
     have HX0 := Lib.hid (show runS Dk (ss.drop k) = (z, ss[k].D Dk) by rw [HX.out, if_neg hz0])
     go_wp2_with fail
     refine hc.mono ?_
     rintro e w5 ⟨rfl, ha⟩
     have HA := Lib.hid ha
     clear ha hc
     go_wp2_with fail
     go_ret
     rw [← HR.out, HX0.out]
     refine ⟨rfl, ?_⟩
     obtain ⟨O', k1, k2, k3⟩ := HA.out
     refine ⟨O', k1, fun i hi => ?_, HF.out.trans k3 (fun i hi => HO.out i hi)⟩
     rcases k2 i hi with h | h
     ·exact HO.out i h
     ·have := HF.out.size; exact .inr (by omega)
  ·obtain rfl : k = n := by omega
   have d0 : ¬ ((k : Int) < k) := by omega
   have HP := Lib.hid (And.intro hd (And.intro hO hF))
   rw [List.drop_of_length_le (by have := HS.out.2.1; omega)] at hR
   have HR := Lib.hid hR
   clear hd hO hF hR hU
   go_wp2_with fail
   go_ret
   rw [← HR.out]
   exact ⟨rfl, _, HP.out⟩
end
end
section
open Go.RowKit
set_option maxRecDepth 100000
theorem KG.keepO {w w' : World} {O : List Nat} (h : KG w) (hf : Fr O w w') (h0 : 0 ∉ O) : KG w' := rangeAt_keep h hf h0
def mkE (D : DkM) (x : Int) (n : Nat) : Int × DkM := if n = 0 then (1, D) else runS D [.wr x (markB n), .fl]
section
variable {w w' : World} {p : Nat} {O : List Nat} {D : DkM}
theorem jnMark_any (h : Dsk w p O D) (x : Int) (n : Nat) (hn : n < 18446744073709551616) (hK : KG w) (hu : ∀ x, (D.uns x).length + 2 ≤ 4398046511104) :
  Calls Tryz.prog 65 #[.pointer (some ⟨p, 0, none⟩), .int .i64 x, .int .u64 (n : Int)] w fun e w' => e = .returned (.int .i64 (mkE D x n).1) ∧ AftD w p O (mkE D x n).2 w' := by
 have HM := Lib.hid (show mkE D x n = if n = 0 then (1, D) else runS D [.wr x (markB n), .fl] from rfl)
 have HH := Lib.hid (And.intro h hu)
 have hlt : ∀ i ∈ O, i < w.heap.size := by obtain ⟨X, hX⟩ := h; exact hX.lt
 obtain ⟨k1, f1, z1⟩ := box1D w 32 (.pointer (some ⟨p, 0, none⟩))
 obtain ⟨wa, hwa⟩ : ∃ x, w.alloc (.cells #[.pointer (some ⟨p, 0, none⟩)] 32) = x := ⟨_, rfl⟩
 rw [hwa] at k1 f1 z1
 obtain ⟨k2, f2, z2⟩ := box1D wa 3 (.int .i64 x)
 obtain ⟨wb, hwb⟩ : ∃ y, wa.alloc (.cells #[.int .i64 x] 3) = y := ⟨_, rfl⟩
 rw [hwb] at k2 f2 z2
 replace k1 := k1.keep_nil f2
 obtain ⟨g2, hg2⟩ : ∃ g, wa.heap.size = g := ⟨_, rfl⟩
 rw [hg2] at k2
 have hg2' := hg2
 rw [z1] at hg2'
 have cm := rcMark_any wb n hn ((hK.keep f1).keep f2)
 unfold MarkC at cm
 have FB := Lib.hid (f1.trans_nil f2)
 obtain ⟨g1, hg1⟩ : ∃ g, w.heap.size = g := ⟨_, rfl⟩
 have HG := Lib.hid hg1
 rw [hg1] at k1
 by_cases h0 : n = 0
 ·subst h0
  rw [if_pos rfl] at HM cm
  rw [if_pos rfl, show errG (0 != 0) 1 = 1 from rfl] at cm
  clear h hu hlt k1 k2 f1 f2 z1 z2
  go_enter Tryz.func65, Tryz.ntmps65
  go_wp2_with fail
  refine cm.mono ?_
  rintro e w1 ⟨v, rfl, r, f⟩
  obtain ⟨A, c, rfl, -, -, -, -, -⟩ := r.shape
  have F := Lib.hid (FB.out.trans_nil f)
  clear r f cm
  go_wp2_with fail
  go_ret
  rw [HM.out]
  exact ⟨rfl, (AftD.same (HH.out.1.keep_nil (F.out.alloc _))).pre (F.out.alloc _)⟩
 ·rw [if_neg h0, if_neg h0, show (n != 0) = true from by simpa using h0, show errG true 1 = 0 from rfl] at cm
  rw [if_neg h0] at HM
  obtain ⟨m, hm⟩ : ∃ m, markB n = m := ⟨_, rfl⟩
  have hml : m.length = 512 := by rw [← hm, markB_len]
  rw [hm] at HM cm
  have HK1 := Lib.hid (And.intro k1 (And.intro k2 hml))
  have hw2 : wa.heap.size < wb.heap.size := by omega
  have hgw := HG.out
  clear h hu hm hml k1 k2 f1 f2 z2
  go_enter Tryz.func65, Tryz.ntmps65
  go_wp2_with fail
  refine cm.mono ?_
  rintro e w1 ⟨v, rfl, r, f⟩
  obtain ⟨A, c, rfl, -, -, -, -, -⟩ := r.shape
  have hs1 := f.size
  obtain ⟨k3, f3, z3⟩ := box1D w1 27 (.slice A 512 c)
  obtain ⟨wc, hwc⟩ : ∃ y, w1.alloc (.cells #[.slice A 512 c] 27) = y := ⟨_, rfl⟩
  rw [hwc] at k3 f3 z3
  have c1 := ((HK1.out.1.keep_nil f).keep_nil f3).cell 0
  have HR := Lib.hid (r.keep_nil f3)
  have HF := Lib.hid (And.intro f f3)
  have HK3 := Lib.hid k3
  clear cm r f f3 k3
  go_wp2_with fail
  obtain ⟨fs, hfs⟩ : ∃ fs : List Value, [.func (.func 110) #[] #[.pointer (some ⟨g1, 0, none⟩), .pointer (some ⟨g1 + 1, 0, none⟩), .pointer (some ⟨w1.heap.size, 0, none⟩)], .func (.func 112) #[.pointer (some ⟨p, 0, none⟩)] #[]] = fs := ⟨_, rfl⟩
  have rf : Row (wc.alloc (.cells fs.toArray 47)) 0 47 1 (.slice (some ⟨w1.heap.size + 1, 0, none⟩) 2 2) 2 fs := by
   have := Row.new wc fs.toArray 47 1 2 (0, 0) (free_zero _) (by unfold maxLen; omega) (by rw [← hfs]; rfl) (Nat.zero_le _)
   rw [z3] at this
   simpa using this
  have fs4 : Fr [] wc (wc.alloc (.cells fs.toArray 47)) := (Fr.refl _ _).alloc _
  have F1 := HF.out.1.trans_nil (HF.out.2.trans_nil fs4)
  have hml := HK1.out.2.2
  have cp : Cap3 (wc.alloc (.cells fs.toArray 47)) O p g1 (g1 + 1) w1.heap.size x m := ⟨HK1.out.1.keep_nil F1, (show Blk wb (g1 + 1) 3 #[.int .i64 x] from by have := HK1.out.2.1; rw [show g2 = g1 + 1 by omega] at this; exact this).keep_nil F1, ⟨_, HK3.out.keep_nil fs4, by rw [hml]; exact (HR.out.keep_nil fs4).mono (Nat.zero_le _)⟩, fun hm => by have := hlt _ hm; omega, fun hm => by have := hlt _ hm; omega, fun hm => by have := hlt _ hm; omega⟩
  have cr := jnRun_any (HH.out.1.keep_nil (FB.out.trans_nil F1)) rf (fun g hg hm => by have := hlt _ hm; cases hg; dsimp only at this; omega) (ss := [.wr x m, .fl]) rfl (fun i h1 h2 => by
   subst hfs
   match i, h1, h2 with
   | 0, _, _ => exact .inl ⟨_, _, _, rfl, cp⟩
   | 1, _, _ => rfl) HH.out.2
  subst hfs
  have HAF := Lib.hid (FB.out.trans_nil F1)
  clear rf fs4 F1 cp c1
  refine cr.mono ?_
  rintro e w5 ⟨rfl, ha⟩
  rw [← HM.out] at ha ⊢
  have HA := Lib.hid ha
  clear cr ha
  go_wp2_with fail
  go_ret
  exact ⟨rfl, HA.out.pre HAF.out⟩
def initE (D : DkM) (x y : Int) : Int × DkM := if jRight D x y then mkE D x 1 else (1, D)
theorem jnInit_any (h : Dsk w p O D) (x y : Int) (hx : wfZ x) (hK : KG w) (hu : ∀ x, (D.uns x).length + 2 ≤ 4398046511104) :
  Calls Tryz.prog 31 #[.pointer (some ⟨p, 0, none⟩), .int .i64 x, .int .i64 y] w fun e w' => e = .returned (.int .i64 (initE D x y).1) ∧ AftD w p O (initE D x y).2 w' := by
 have cr := jnRight_any h x y hx
 have cm := jnMark_any h x 1 (by decide) hK hu
 have HI := Lib.hid (show initE D x y = if jRight D x y then mkE D x 1 else (1, D) from rfl)
 obtain ⟨b, hb⟩ : ∃ b, jRight D x y = b := ⟨_, rfl⟩
 rw [hb] at cr HI
 have HD := Lib.hid h
 clear h hb
 cases b
 ·rw [if_neg (by simp)] at HI
  rw [HI.out]
  clear cm
  go_enter Tryz.func31, Tryz.ntmps31
  go_wp2_with (go_at_call 64; refine cr.mono ?_; rintro e w' ⟨rfl, rfl⟩)
  go_ret
  exact ⟨rfl, AftD.same HD.out⟩
 ·rw [if_pos rfl] at HI
  rw [HI.out]
  obtain ⟨⟨z, D'⟩, hz⟩ : ∃ r, mkE D x 1 = r := ⟨_, rfl⟩
  rw [hz] at cm ⊢
  clear hz
  go_enter Tryz.func31, Tryz.ntmps31
  go_wp2_with (first | (go_at_call 64; refine cr.mono ?_; rintro e w' ⟨rfl, rfl⟩) | (go_at_call 65; refine cm.mono ?_; rintro e w' ⟨rfl, ha⟩))
  go_ret
  exact ⟨rfl, ha⟩
end
end
section
open Go.RowKit
set_option maxRecDepth 100000
def jMay1 (n : Int) (J : JrM) (x : Int) : Bool := decide (0 ≤ x) && (decide (x < n) && !(decide (J.first ≤ x) && decide (x < J.first + J.count)))
def jMay (n : Int) (J : JrM) (rs : List (Int × List UInt8)) : Bool := rs.all fun r => jMay1 n J r.1
theorem jMay_bad {n : Int} {J : JrM} {rs : List (Int × List UInt8)} {k : Nat} (hk : k < rs.length) (h : jMay1 n J rs[k].1 = false) : jMay n J rs = false := by
 rw [jMay, List.all_eq_false]
 exact ⟨rs[k], List.getElem_mem hk, by simp [h]⟩
theorem jMay_succ {n : Int} {J : JrM} {rs : List (Int × List UInt8)} {k : Nat} (hk : k < rs.length) (h : jMay n J (rs.take k) = true) (h1 : jMay1 n J rs[k].1 = true) : jMay n J (rs.take (k + 1)) = true := by
 rw [jMay, List.take_add_one, List.getElem?_eq_getElem hk, List.all_append]
 rw [jMay] at h
 simp [h, h1]
section
variable {w w' : World} {g p : Nat} {O : List Nat} {J : JrM} {D : DkM}
set_option maxHeartbeats 1000000 in
theorem jnMay_any (h : Dsk w p O D) (hj : Jr w g p J) (ok : J.ok) {A : Option Addr} {n c : Nat} {rs : List (Int × List UInt8)} (hr : RdX w A rs) (hl : rs.length = n) (hn : n ≤ 140737488355328) :
  Calls Tryz.prog 120 #[.pointer (some ⟨g, 0, none⟩), .slice A n c] w fun e w' => e = .returned (.bool (jMay D.sure.length J rs)) ∧ Fr [] w w' := by
 obtain ⟨m, hm⟩ : ∃ m, D.sure.length = m := ⟨_, rfl⟩
 have hD := Lib.hid h
 have hl1 : ∀ w1, Fr [] w w1 → Calls Tryz.prog 107 #[.pointer (some ⟨p, 0, none⟩)] w1 fun e w' => e = .returned (.int .i64 m) ∧ w1 = w' := fun w1 f => by rw [← hm]; exact dkLen_any (h.keep_nil f)
 have HL := Lib.hid hl1
 rw [hm]
 have HJ := Lib.hid hj
 have HR := Lib.hid hr
 have hc := ok.c
 have hf := ok.f
 have e1 : IntKind.i64.wrap (J.first + J.count) = J.first + J.count := IntWalk.i64_in _ (by omega)
 clear h hj hr hm hl1
 go_enter Tryz.func120, Tryz.ntmps120
 go_wp2_with fail
 go_loopw [9] (fun i wr => ∃ k : Nat, k ≤ n ∧ i = .int .i64 k ∧ Fr [] w wr ∧ jMay m J (rs.take k) = true) (fun i _ => n - (intOf i).toNat)
 case atStart => exact ⟨0, by omega, rfl, Fr.refl _ _, rfl⟩
 case round =>
  obtain ⟨k, hkn, rfl, fr, ht⟩ := hrel
  by_cases hlt : k < n
  ·have d0 : (k : Int) < n := by omega
   have hk : k < rs.length := by omega
   obtain ⟨gr, o, v, rfl, c0, c1, sb⟩ := (HR.out.keep_nil fr) k hk
   obtain ⟨x, hx⟩ : ∃ x, rs[k].1 = x := ⟨_, rfl⟩
   obtain ⟨Av, cv, rfl, -⟩ := sb
   obtain ⟨lv, hlv⟩ : ∃ lv, rs[k].2.length = lv := ⟨_, rfl⟩
   rw [hx] at c0
   rw [hlv] at c1
   have HX := Lib.hid hx
   have HT := Lib.hid ht
   have fA : Fr [] w (wr.alloc (.cells #[.int .i64 x, .slice Av lv cv] 104)) := fr.trans_nil ((Fr.refl _ _).alloc _)
   have HFA := Lib.hid fA
   have ka := Blk.new wr 104 #[.int .i64 x, .slice Av lv cv]
   have j0 : (wr.alloc (.cells #[.int .i64 x, .slice Av lv cv] 104)).cell? ⟨g, 0, none⟩ = some (.pointer (some ⟨p, 0, none⟩)) := Blk.cell (HJ.out.keep_nil fA) 0
   have j1 : (wr.alloc (.cells #[.int .i64 x, .slice Av lv cv] 104)).cell? ⟨g, 1, none⟩ = some (.int .i64 J.first) := Blk.cell (HJ.out.keep_nil fA) 1
   have j2 : (wr.alloc (.cells #[.int .i64 x, .slice Av lv cv] 104)).cell? ⟨g, 2, none⟩ = some (.int .i64 J.count) := Blk.cell (HJ.out.keep_nil fA) 2
   clear ht fr fA hx hlv
   go_upto_region 4 with fail
   obtain ⟨wA, hwA⟩ : ∃ y, wr.alloc (.cells #[.int .i64 x, .slice Av lv cv] 104) = y := ⟨_, rfl⟩
   obtain ⟨gA, hgA⟩ : ∃ y, wr.heap.size = y := ⟨_, rfl⟩
   rw [hwA] at HFA ka j0 j1 j2 ⊢
   rw [hgA] at ka ⊢
   have a0 : wA.cell? ⟨gA, 0, none⟩ = some (.int .i64 x) := ka.cell 0
   have cl : ∀ q, Calls Tryz.prog 107 #[.pointer (some ⟨p, 0, none⟩)] (wA.drewN q) fun e w' => e = .returned (.int .i64 m) ∧ wA.drewN q = w' := fun q => HL.out _ (HFA.out.drewN q)
   have CL := Lib.hid cl
   clear cl hwA hgA ka c0 c1
   by_cases h1 : x < 0
   ·have HB := Lib.hid (show jMay1 m J rs[k].1 = false by rw [HX.out, jMay1, decide_eq_false (by omega), Bool.false_and])
    go_quiet ((go_at_call 107; exact Calls.quiet_of_same ((CL.out _).mono fun e w' h => ⟨h.1, h.2.symm⟩)))
    go_wp2_with fail
    go_ret
    exact ⟨by rw [jMay_bad hk HB.out]; rfl, HFA.out.drewN _⟩
   by_cases h2 : (m : Int) ≤ x
   ·have HB := Lib.hid (show jMay1 m J rs[k].1 = false by rw [HX.out, jMay1, decide_eq_false (show ¬ x < (m : Int) by omega), Bool.false_and, Bool.and_false])
    go_quiet ((go_at_call 107; exact Calls.quiet_of_same ((CL.out _).mono fun e w' h => ⟨h.1, h.2.symm⟩)))
    go_wp2_with fail
    go_ret
    exact ⟨by rw [jMay_bad hk HB.out]; rfl, HFA.out.drewN _⟩
   have g1 : decide (0 ≤ x) = true := decide_eq_true (by omega)
   have g2 : decide (x < (m : Int)) = true := decide_eq_true (by omega)
   have HG := Lib.hid (And.intro g1 g2)
   clear g1 g2
   by_cases h3 : J.first ≤ x
   ·by_cases h4 : x < J.first + J.count
    ·have HB := Lib.hid (show jMay1 m J rs[k].1 = false by rw [HX.out, jMay1, HG.out.1, HG.out.2, decide_eq_true h3, decide_eq_true h4]; rfl)
     go_quiet ((go_at_call 107; exact Calls.quiet_of_same ((CL.out _).mono fun e w' h => ⟨h.1, h.2.symm⟩)))
     go_wp2_with fail
     go_ret
     exact ⟨by rw [jMay_bad hk HB.out]; rfl, HFA.out.drewN _⟩
    ·have HB := Lib.hid (show jMay1 m J rs[k].1 = true by rw [HX.out, jMay1, HG.out.1, HG.out.2, decide_eq_true h3, decide_eq_false h4]; rfl)
     go_quiet ((go_at_call 107; exact Calls.quiet_of_same ((CL.out _).mono fun e w' h => ⟨h.1, h.2.symm⟩)))
     go_wp2_with fail
     exact ⟨⟨k + 1, by omega, by go_num, HFA.out.drewN _, jMay_succ hk HT.out HB.out⟩, by simp [intOf]; omega⟩
   ·have HB := Lib.hid (show jMay1 m J rs[k].1 = true by rw [HX.out, jMay1, HG.out.1, HG.out.2, decide_eq_false h3]; rfl)
    go_quiet ((go_at_call 107; exact Calls.quiet_of_same ((CL.out _).mono fun e w' h => ⟨h.1, h.2.symm⟩)))
    go_wp2_with fail
    exact ⟨⟨k + 1, by omega, by go_num, HFA.out.drewN _, jMay_succ hk HT.out HB.out⟩, by simp [intOf]; omega⟩
  ·obtain rfl : k = n := by omega
   have d0 : ¬ ((k : Int) < k) := by omega
   have HP := Lib.hid (And.intro fr ht)
   clear fr ht
   go_wp2_with fail
   go_ret
   have := HP.out.2
   rw [List.take_of_length_le (by omega)] at this
   exact ⟨by rw [this]; rfl, HP.out.1⟩
end
end
end Go.Proofs.YtbanogfljpkbkaaGreatDoor
