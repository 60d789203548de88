/-
  Words of 32 bits: how the model's numbers go over into UInt32. SHA-256 as plain functions over lists. No program of the seat is named here.
-/
import Derived.Test.YtlelgeigighecaaDoorMemB
import Derived.Laws.BitsAllLaws
import Derived.IntWalk
set_option linter.unusedSimpArgs false
set_option linter.unusedVariables false
set_option linter.unnecessarySimpa false
namespace Go.Proofs.YtlelgeigighecaaDoor
open Go.RowKit

/-- A word as the model has it. -/
def uw (x : UInt32) : Int := (x.toNat : Int)
def wv (x : UInt32) : Value := .int .u32 (uw x)
def wvs (l : List UInt32) : List Value := l.map wv
theorem wvs_length (l : List UInt32) : (wvs l).length = l.length := by simp [wvs]
theorem wvs_append (a b : List UInt32) : wvs (a ++ b) = wvs a ++ wvs b := by simp [wvs]
theorem wvs_one (l : List UInt32) : ∀ u ∈ wvs l, u.oneCell' = true := by
  intro u hu
  obtain ⟨x, _, rfl⟩ := List.mem_map.1 hu
  rfl
theorem wvs_at {l : List UInt32} {k : Nat} (h : k < l.length) : (wvs l)[k]? = some (.int .u32 (uw l[k])) := by simp [wvs, h, wv]
theorem wvs_set (l : List UInt32) (k : Nat) (x : UInt32) : (wvs l).set k (.int .u32 (uw x)) = wvs (l.set k x) := by simp [wvs, List.map_set, wv]

theorem uw_nat {x : UInt32} : uw x = ((x.toNat : Nat) : Int) := rfl
theorem uw_add (a b : UInt32) : IntKind.u32.wrap (uw a + uw b) = uw (a + b) := by
  simp only [uw, UInt32.toNat_add, IntKind.wrap_u32]; omega
theorem uw_xor (a b : UInt32) : bits .xor .u32 (uw a) (uw b) = uw (a ^^^ b) := by
  simp only [uw]; rw [u32_xor_nat _ _ a.toNat_lt b.toNat_lt, UInt32.toNat_xor]
theorem uw_or (a b : UInt32) : bits .or .u32 (uw a) (uw b) = uw (a ||| b) := by
  simp only [uw]; rw [u32_or_nat _ _ a.toNat_lt b.toNat_lt, UInt32.toNat_or]
theorem uw_and (a b : UInt32) : bits .and .u32 (uw a) (uw b) = uw (a &&& b) := by
  simp only [uw]; rw [u32_and_nat _ _ a.toNat_lt b.toNat_lt, UInt32.toNat_and]
theorem uw_byte (b : UInt8) : IntKind.u32.wrap (b.toNat : Int) = uw b.toUInt32 := by
  have := b.toNat_lt
  simp only [uw, UInt8.toNat_toUInt32, IntKind.wrap_u32]; omega

/-- To the left, to the right by a number of places. -/
def shl (x : UInt32) (n : Nat) : UInt32 := UInt32.ofNat (x.toNat * 2 ^ n)
def shr (x : UInt32) (n : Nat) : UInt32 := UInt32.ofNat (x.toNat / 2 ^ n)
theorem uw_shl (x : UInt32) (n : Nat) : IntKind.u32.wrap (uw x * 2 ^ n) = uw (shl x n) := by
  have e : (uw x * 2 ^ n) = ((x.toNat * 2 ^ n : Nat) : Int) := by unfold uw; push_cast; rfl
  rw [e, IntKind.wrap_u32]
  simp only [uw, shl, UInt32.toNat_ofNat']
  omega
theorem uw_shr (x : UInt32) (n : Nat) : uw x / 2 ^ n = uw (shr x n) := by
  have e : (uw x / 2 ^ n) = ((x.toNat / 2 ^ n : Nat) : Int) := by unfold uw; push_cast; rfl
  have h : x.toNat / 2 ^ n < 4294967296 := Nat.lt_of_le_of_lt (Nat.div_le_self _ _) x.toNat_lt
  rw [e]
  simp only [uw, shr, UInt32.toNat_ofNat']
  generalize x.toNat / 2 ^ n = m at *
  omega
/-- Turned to the right. -/
def rotr (x : UInt32) (n : Nat) : UInt32 := shl x (32 - n) ||| shr x n
theorem rotr' (x : UInt32) (n : Nat) : shr x n ||| shl x (32 - n) = rotr x n := UInt32.or_comm _ _

def smallS0 (x : UInt32) : UInt32 := rotr x 7 ^^^ rotr x 18 ^^^ shr x 3
def smallS1 (x : UInt32) : UInt32 := rotr x 17 ^^^ rotr x 19 ^^^ shr x 10
def bigS0 (x : UInt32) : UInt32 := rotr x 2 ^^^ rotr x 13 ^^^ rotr x 22
def bigS1 (x : UInt32) : UInt32 := rotr x 6 ^^^ rotr x 11 ^^^ rotr x 25
theorem ch_eq (e f g : UInt32) : g ^^^ e &&& (f ^^^ g) = (e &&& f) ^^^ (~~~e &&& g) := by
  apply UInt32.toBitVec_inj.1
  apply BitVec.eq_of_getLsbD_eq
  intro i hi
  simp only [UInt32.toBitVec_xor, UInt32.toBitVec_and, UInt32.toBitVec_not, BitVec.getLsbD_xor, BitVec.getLsbD_and, BitVec.getLsbD_not, hi, decide_true, Bool.true_and]
  cases e.toBitVec.getLsbD i <;> cases f.toBitVec.getLsbD i <;> cases g.toBitVec.getLsbD i <;> rfl
theorem maj_eq (a b c : UInt32) : a &&& b ||| c &&& (a ||| b) = (a &&& b) ^^^ (a &&& c) ^^^ (b &&& c) := by
  apply UInt32.toBitVec_inj.1
  apply BitVec.eq_of_getLsbD_eq
  intro i hi
  simp only [UInt32.toBitVec_xor, UInt32.toBitVec_and, UInt32.toBitVec_or, BitVec.getLsbD_xor, BitVec.getLsbD_and, BitVec.getLsbD_or]
  cases a.toBitVec.getLsbD i <;> cases b.toBitVec.getLsbD i <;> cases c.toBitVec.getLsbD i <;> rfl
theorem uw_not (x : UInt32) : bits .xor .u32 (uw x) 4294967295 = uw (~~~x) := by
  have e : (4294967295 : Int) = uw 4294967295 := rfl
  rw [e, uw_xor]
  congr 1
  apply UInt32.toBitVec_inj.1
  apply BitVec.eq_of_getLsbD_eq
  intro i hi
  have h1 : (4294967295 : UInt32).toBitVec = BitVec.allOnes 32 := by decide
  rw [UInt32.toBitVec_xor, UInt32.toBitVec_not, BitVec.getLsbD_xor, BitVec.getLsbD_not, h1, BitVec.getLsbD_allOnes]
  simp [hi]

/-- A piece's word number k. -/
def wordAt (p : List UInt8) (k : Nat) : UInt32 := shl (p.getD (4 * k) 0).toUInt32 24 ||| shl (p.getD (4 * k + 1) 0).toUInt32 16 ||| shl (p.getD (4 * k + 2) 0).toUInt32 8 ||| (p.getD (4 * k + 3) 0).toUInt32
/-- The word that follows from those ahead. -/
def nextW (l : List UInt32) (k : Nat) : UInt32 := l.getD (k - 16) 0 + l.getD (k - 7) 0 + smallS0 (l.getD (k - 15) 0) + smallS1 (l.getD (k - 2) 0)
def sched (p : List UInt8) : Nat → List UInt32
  | 0 => []
  | k + 1 => sched p k ++ [if k < 16 then wordAt p k else nextW (sched p k) k]
theorem sched_length (p : List UInt8) : ∀ k, (sched p k).length = k
  | 0 => rfl
  | k + 1 => by rw [sched, List.length_append, sched_length p k]; rfl

/-- The eight words of a round. -/
structure S8 where
  a : UInt32
  b : UInt32
  c : UInt32
  d : UInt32
  e : UInt32
  f : UInt32
  g : UInt32
  h : UInt32
def S8.list (s : S8) : List UInt32 := [s.a, s.b, s.c, s.d, s.e, s.f, s.g, s.h]
def S8.one (s : S8) (k w : UInt32) : UInt32 := s.h + bigS1 s.e + (s.g ^^^ s.e &&& (s.f ^^^ s.g)) + k + w
def S8.two (s : S8) : UInt32 := bigS0 s.a + (s.a &&& s.b ||| s.c &&& (s.a ||| s.b))
def S8.step (s : S8) (k w : UInt32) : S8 := ⟨s.one k w + s.two, s.a, s.b, s.c, s.d + s.one k w, s.e, s.f, s.g⟩
def S8.run (s : S8) (ks ws : List UInt32) : Nat → S8
  | 0 => s
  | k + 1 => (s.run ks ws k).step (ks.getD k 0) (ws.getD k 0)
def S8.add (s t : S8) : S8 := ⟨s.a + t.a, s.b + t.b, s.c + t.c, s.d + t.d, s.e + t.e, s.f + t.f, s.g + t.g, s.h + t.h⟩

def kC : List UInt32 := [1116352408, 1899447441, 3049323471, 3921009573, 961987163, 1508970993, 2453635748, 2870763221, 3624381080, 310598401, 607225278, 1426881987, 1925078388, 2162078206, 2614888103, 3248222580, 3835390401, 4022224774, 264347078, 604807628, 770255983, 1249150122, 1555081692, 1996064986, 2554220882, 2821834349, 2952996808, 3210313671, 3336571891, 3584528711, 113926993, 338241895, 666307205, 773529912, 1294757372, 1396182291, 1695183700, 1986661051, 2177026350, 2456956037, 2730485921, 2820302411, 3259730800, 3345764771, 3516065817, 3600352804, 4094571909, 275423344, 430227734, 506948616, 659060556, 883997877, 958139571, 1322822218, 1537002063, 1747873779, 1955562222, 2024104815, 2227730452, 2361852424, 2428436474, 2756734187, 3204031479, 3329325298]
theorem kC_length : kC.length = 64 := rfl
def first8 : S8 := ⟨1779033703, 3144134277, 1013904242, 2773480762, 1359893119, 2600822924, 528734635, 1541459225⟩
/-- The state behind a piece. -/
def shaBlk (s : S8) (p : List UInt8) : S8 := s.add (s.run kC (sched p 64) 64)
/-- The state behind n pieces. -/
def shaRun (s : S8) (m : List UInt8) : Nat → S8
  | 0 => s
  | n + 1 => shaBlk (shaRun s m n) ((m.drop (64 * n)).take 64)
/-- A number in eight bytes, the greatest first. -/
def be8 (n : Nat) : List UInt8 := (List.range 8).map fun i => UInt8.ofNat (n / 2 ^ (56 - 8 * i))
/-- What stands behind n bytes. -/
def padB (n : Nat) : List UInt8 := 128 :: List.replicate ((119 - n % 64) % 64) 0 ++ be8 (n * 8)
def wordB (x : UInt32) : List UInt8 := [UInt8.ofNat (x.toNat / 2 ^ 24), UInt8.ofNat (x.toNat / 2 ^ 16), UInt8.ofNat (x.toNat / 2 ^ 8), UInt8.ofNat x.toNat]
def shaSum (l : List UInt8) : List UInt8 := (shaRun first8 (l ++ padB l.length) ((l.length + (padB l.length).length) / 64)).list.flatMap wordB
theorem shaSum_length (l : List UInt8) : (shaSum l).length = 32 := by simp [shaSum, S8.list, wordB]
end Go.Proofs.YtlelgeigighecaaDoor
