/-
  No cell of these rows narrows 'for every input' (looked for: loops, veiled, ifaces, maps, wideKeys, modest, calm, conditions, laid).
  DERIVED. THE GIVEN ROWS OF THIS SEAT. 11 by the template 'for every input the law returns true; each argument reads behind the call as it read before'; 0 by the template 'total and deterministic' (their statements: YtmonedfafechcaaTotals.lean).
  GIVEN WITH THE SEED: the statements are not yours to turn. If you find one false, say at which input.
  Laid BY PROGRAM, IN A SANDBOX (cutbox-rows.mjs): the forced cells as the released guide's own fill.sh prints them over the translation e504a0764785b471… (all of the seat's roots in one cut). By AI agents, Wed Nov 11 2026. No macro, syntax, notation, axiom, sorry.
-/
import Derived.Test.YtmonedfafechcaaChecked
import GoSem.Claim
import GoSem.ClaimJoined
import GoSem.ClaimMapViews
import Derived.JoinedTies
import Derived.KernelRfl
namespace Go.Proofs.Ytmonedfafechcaa
/- THE CELL 'sum', in the pinned program and in every row, IS THE sha256 OF THE DUMP (.gsa) THAT YtmonedfafechcaaProg.lean LOADS. Nothing in Lean hashes anything: it is a label: what it is worth is what the hold of that sum in a sandbox is worth. -/
noncomputable def Try.pinned : Pinned := { name := "ytmonedfafechcaa", sum := "e504a0764785b4712d8e2a15ededcbc4e1c1b222f36f549d28cce86f6fabbe3e", checked := Try.checked }
namespace Rows
def none {H : Type} : Left H := { results := [], args := [] }

/-- 'casketlaw09.CodecParts': WHATEVER THE INPUT: true; the input reads as it did. -/
def codecPartsSpec : ChangeSpec := { name := "codecParts", fn := fun _ => fun
  | [d1, d2, d3] => { results := [.lit (.bool true)], args := [d1, d2, d3] }
  | _ => none }
def codecPartsRow : OpenClaim := { program := "ytmonedfafechcaa", sum := "e504a0764785b4712d8e2a15ededcbc4e1c1b222f36f549d28cce86f6fabbe3e", func := "casket/casketlaw09.CodecParts", spec := "codecParts", unfollowed := true, recurses := true, apart := false }
def CodecPartsSaid : Prop := codecPartsRow.holds Try.pinned (OpenSpec.ofChange codecPartsSpec)

/-- ITS FALSE NEIGHBOUR: 'it returns false'. Refute it at one input. -/
def codecPartsWrong : ChangeSpec := { name := "codecParts", fn := fun _ => fun
  | [d1, d2, d3] => { results := [.lit (.bool false)], args := [d1, d2, d3] }
  | _ => none }
def CodecPartsWrongFalsely : Prop := codecPartsRow.holds Try.pinned (OpenSpec.ofChange codecPartsWrong)

/-- 'casketlaw09.CodecBack': WHATEVER THE INPUT: true; the input reads as it did. -/
def codecBackSpec : ChangeSpec := { name := "codecBack", fn := fun _ => fun
  | [d] => { results := [.lit (.bool true)], args := [d] }
  | _ => none }
def codecBackRow : OpenClaim := { program := "ytmonedfafechcaa", sum := "e504a0764785b4712d8e2a15ededcbc4e1c1b222f36f549d28cce86f6fabbe3e", func := "casket/casketlaw09.CodecBack", spec := "codecBack", unfollowed := true, recurses := true, apart := false }
def CodecBackSaid : Prop := codecBackRow.holds Try.pinned (OpenSpec.ofChange codecBackSpec)

/-- ITS FALSE NEIGHBOUR: 'it returns false'. Refute it at one input. -/
def codecBackWrong : ChangeSpec := { name := "codecBack", fn := fun _ => fun
  | [d] => { results := [.lit (.bool false)], args := [d] }
  | _ => none }
def CodecBackWrongFalsely : Prop := codecBackRow.holds Try.pinned (OpenSpec.ofChange codecBackWrong)

/-- 'casketlaw09.CodecReads': WHATEVER THE INPUT: true; the input reads as it did. -/
def codecReadsSpec : ChangeSpec := { name := "codecReads", fn := fun _ => fun
  | [d1, d2] => { results := [.lit (.bool true)], args := [d1, d2] }
  | _ => none }
def codecReadsRow : OpenClaim := { program := "ytmonedfafechcaa", sum := "e504a0764785b4712d8e2a15ededcbc4e1c1b222f36f549d28cce86f6fabbe3e", func := "casket/casketlaw09.CodecReads", spec := "codecReads", unfollowed := true, recurses := true, apart := false }
def CodecReadsSaid : Prop := codecReadsRow.holds Try.pinned (OpenSpec.ofChange codecReadsSpec)

/-- ITS FALSE NEIGHBOUR: 'it returns false'. Refute it at one input. -/
def codecReadsWrong : ChangeSpec := { name := "codecReads", fn := fun _ => fun
  | [d1, d2] => { results := [.lit (.bool false)], args := [d1, d2] }
  | _ => none }
def CodecReadsWrongFalsely : Prop := codecReadsRow.holds Try.pinned (OpenSpec.ofChange codecReadsWrong)

/-- 'casketlaw09.CodecNobody': WHATEVER THE INPUT: true; the input reads as it did. -/
def codecNobodySpec : ChangeSpec := { name := "codecNobody", fn := fun _ => fun
  | [d] => { results := [.lit (.bool true)], args := [d] }
  | _ => none }
def codecNobodyRow : OpenClaim := { program := "ytmonedfafechcaa", sum := "e504a0764785b4712d8e2a15ededcbc4e1c1b222f36f549d28cce86f6fabbe3e", func := "casket/casketlaw09.CodecNobody", spec := "codecNobody", unfollowed := true, recurses := true, apart := false }
def CodecNobodySaid : Prop := codecNobodyRow.holds Try.pinned (OpenSpec.ofChange codecNobodySpec)

/-- ITS FALSE NEIGHBOUR: 'it returns false'. Refute it at one input. -/
def codecNobodyWrong : ChangeSpec := { name := "codecNobody", fn := fun _ => fun
  | [d] => { results := [.lit (.bool false)], args := [d] }
  | _ => none }
def CodecNobodyWrongFalsely : Prop := codecNobodyRow.holds Try.pinned (OpenSpec.ofChange codecNobodyWrong)

/-- 'casketlaw09.CodecLists': WHATEVER THE INPUT: true; the input reads as it did. -/
def codecListsSpec : ChangeSpec := { name := "codecLists", fn := fun _ => fun
  | [d1, d2] => { results := [.lit (.bool true)], args := [d1, d2] }
  | _ => none }
def codecListsRow : OpenClaim := { program := "ytmonedfafechcaa", sum := "e504a0764785b4712d8e2a15ededcbc4e1c1b222f36f549d28cce86f6fabbe3e", func := "casket/casketlaw09.CodecLists", spec := "codecLists", unfollowed := true, recurses := true, apart := false }
def CodecListsSaid : Prop := codecListsRow.holds Try.pinned (OpenSpec.ofChange codecListsSpec)

/-- ITS FALSE NEIGHBOUR: 'it returns false'. Refute it at one input. -/
def codecListsWrong : ChangeSpec := { name := "codecLists", fn := fun _ => fun
  | [d1, d2] => { results := [.lit (.bool false)], args := [d1, d2] }
  | _ => none }
def CodecListsWrongFalsely : Prop := codecListsRow.holds Try.pinned (OpenSpec.ofChange codecListsWrong)

/-- 'casketlaw12.SlotEncodes': WHATEVER THE INPUT: true; the input reads as it did. -/
def slotEncodesSpec : ChangeSpec := { name := "slotEncodes", fn := fun _ => fun
  | [d] => { results := [.lit (.bool true)], args := [d] }
  | _ => none }
def slotEncodesRow : OpenClaim := { program := "ytmonedfafechcaa", sum := "e504a0764785b4712d8e2a15ededcbc4e1c1b222f36f549d28cce86f6fabbe3e", func := "casket/casketlaw12.SlotEncodes", spec := "slotEncodes", unfollowed := true, recurses := true, apart := false }
def SlotEncodesSaid : Prop := slotEncodesRow.holds Try.pinned (OpenSpec.ofChange slotEncodesSpec)

/-- ITS FALSE NEIGHBOUR: 'it returns false'. Refute it at one input. -/
def slotEncodesWrong : ChangeSpec := { name := "slotEncodes", fn := fun _ => fun
  | [d] => { results := [.lit (.bool false)], args := [d] }
  | _ => none }
def SlotEncodesWrongFalsely : Prop := slotEncodesRow.holds Try.pinned (OpenSpec.ofChange slotEncodesWrong)

/-- 'casketlaw12.SlotDecodes': WHATEVER THE INPUT: true; the input reads as it did. -/
def slotDecodesSpec : ChangeSpec := { name := "slotDecodes", fn := fun _ => fun
  | [d] => { results := [.lit (.bool true)], args := [d] }
  | _ => none }
def slotDecodesRow : OpenClaim := { program := "ytmonedfafechcaa", sum := "e504a0764785b4712d8e2a15ededcbc4e1c1b222f36f549d28cce86f6fabbe3e", func := "casket/casketlaw12.SlotDecodes", spec := "slotDecodes", unfollowed := true, recurses := true, apart := false }
def SlotDecodesSaid : Prop := slotDecodesRow.holds Try.pinned (OpenSpec.ofChange slotDecodesSpec)

/-- ITS FALSE NEIGHBOUR: 'it returns false'. Refute it at one input. -/
def slotDecodesWrong : ChangeSpec := { name := "slotDecodes", fn := fun _ => fun
  | [d] => { results := [.lit (.bool false)], args := [d] }
  | _ => none }
def SlotDecodesWrongFalsely : Prop := slotDecodesRow.holds Try.pinned (OpenSpec.ofChange slotDecodesWrong)

/-- 'casketlaw12.SlotReads': WHATEVER THE INPUT: true; the input reads as it did. -/
def slotReadsSpec : ChangeSpec := { name := "slotReads", fn := fun _ => fun
  | [d] => { results := [.lit (.bool true)], args := [d] }
  | _ => none }
def slotReadsRow : OpenClaim := { program := "ytmonedfafechcaa", sum := "e504a0764785b4712d8e2a15ededcbc4e1c1b222f36f549d28cce86f6fabbe3e", func := "casket/casketlaw12.SlotReads", spec := "slotReads", unfollowed := true, recurses := true, apart := false }
def SlotReadsSaid : Prop := slotReadsRow.holds Try.pinned (OpenSpec.ofChange slotReadsSpec)

/-- ITS FALSE NEIGHBOUR: 'it returns false'. Refute it at one input. -/
def slotReadsWrong : ChangeSpec := { name := "slotReads", fn := fun _ => fun
  | [d] => { results := [.lit (.bool false)], args := [d] }
  | _ => none }
def SlotReadsWrongFalsely : Prop := slotReadsRow.holds Try.pinned (OpenSpec.ofChange slotReadsWrong)

/-- 'casketlaw12.SlotApart': WHATEVER THE INPUT: true; the input reads as it did. -/
def slotApartSpec : ChangeSpec := { name := "slotApart", fn := fun _ => fun
  | [d1, d2, d3] => { results := [.lit (.bool true)], args := [d1, d2, d3] }
  | _ => none }
def slotApartRow : OpenClaim := { program := "ytmonedfafechcaa", sum := "e504a0764785b4712d8e2a15ededcbc4e1c1b222f36f549d28cce86f6fabbe3e", func := "casket/casketlaw12.SlotApart", spec := "slotApart", unfollowed := true, recurses := true, apart := false }
def SlotApartSaid : Prop := slotApartRow.holds Try.pinned (OpenSpec.ofChange slotApartSpec)

/-- ITS FALSE NEIGHBOUR: 'it returns false'. Refute it at one input. -/
def slotApartWrong : ChangeSpec := { name := "slotApart", fn := fun _ => fun
  | [d1, d2, d3] => { results := [.lit (.bool false)], args := [d1, d2, d3] }
  | _ => none }
def SlotApartWrongFalsely : Prop := slotApartRow.holds Try.pinned (OpenSpec.ofChange slotApartWrong)

/-- 'casketlaw12.SlotKeys': WHATEVER THE INPUT: true; the input reads as it did. -/
def slotKeysSpec : ChangeSpec := { name := "slotKeys", fn := fun _ => fun
  | [d] => { results := [.lit (.bool true)], args := [d] }
  | _ => none }
def slotKeysRow : OpenClaim := { program := "ytmonedfafechcaa", sum := "e504a0764785b4712d8e2a15ededcbc4e1c1b222f36f549d28cce86f6fabbe3e", func := "casket/casketlaw12.SlotKeys", spec := "slotKeys", unfollowed := true, recurses := true, apart := false }
def SlotKeysSaid : Prop := slotKeysRow.holds Try.pinned (OpenSpec.ofChange slotKeysSpec)

/-- ITS FALSE NEIGHBOUR: 'it returns false'. Refute it at one input. -/
def slotKeysWrong : ChangeSpec := { name := "slotKeys", fn := fun _ => fun
  | [d] => { results := [.lit (.bool false)], args := [d] }
  | _ => none }
def SlotKeysWrongFalsely : Prop := slotKeysRow.holds Try.pinned (OpenSpec.ofChange slotKeysWrong)

/-- 'casketlaw09.CodecSorted': WHATEVER THE INPUT: true; the input reads as it did. -/
def codecSortedSpec : ChangeSpec := { name := "codecSorted", fn := fun _ => fun
  | [d] => { results := [.lit (.bool true)], args := [d] }
  | _ => none }
def codecSortedRow : OpenClaim := { program := "ytmonedfafechcaa", sum := "e504a0764785b4712d8e2a15ededcbc4e1c1b222f36f549d28cce86f6fabbe3e", func := "casket/casketlaw09.CodecSorted", spec := "codecSorted", unfollowed := true, recurses := true, apart := false }
def CodecSortedSaid : Prop := codecSortedRow.holds Try.pinned (OpenSpec.ofChange codecSortedSpec)

/-- ITS FALSE NEIGHBOUR: 'it returns false'. Refute it at one input. -/
def codecSortedWrong : ChangeSpec := { name := "codecSorted", fn := fun _ => fun
  | [d] => { results := [.lit (.bool false)], args := [d] }
  | _ => none }
def CodecSortedWrongFalsely : Prop := codecSortedRow.holds Try.pinned (OpenSpec.ofChange codecSortedWrong)

/- THE SECOND FORM. 'bulk': how many values and letters a reading holds, each counted each time it is reached (what is shared counts as often as it is met; a slice's spare places count too). A statement '..UptoSaid' is the law's where the arguments, and the package variables that the reading takes, are together of bulk at most 1048576: NARROWER than '..Said'. Prove '..Said' where nothing that the law and all that it calls make is longer than what came in: it says more and counts as full. Else prove '..UptoSaid'. A law counts once. -/
mutual
def uptoBulk {H : Type} : DataW H → Nat
  | .lit (.string bytes) => bytes.length + 1
  | .lit _ => 1
  | .nil => 1
  | .ptr d => uptoBulk d + 1
  | .slice elems spare => uptoBulkAll elems + uptoBulkAll spare + 1
  | .agg parts => uptoBulkAll parts + 1
  | .iface _ d => uptoBulk d + 1
  | .map entries => uptoBulkEntries entries + 1
  | .held _ => 1
def uptoBulkAll {H : Type} : List (DataW H) → Nat
  | [] => 0
  | d :: r => uptoBulk d + uptoBulkAll r
def uptoBulkEntries {H : Type} : List (Lit × DataW H) → Nat
  | [] => 0
  | x :: r => uptoBulkEntry x + uptoBulkEntries r
def uptoBulkEntry {H : Type} : Lit × DataW H → Nat
  | (.string bytes, d) => bytes.length + uptoBulk d + 1
  | (_, d) => uptoBulk d + 1
 end
def uptoSmall : (H : Type) → List (DataW H) → Bool := fun _ ds => decide (uptoBulkAll ds ≤ 1048576)
def OpenSpec.upto (s : _root_.Go.ChangeSpec) : _root_.Go.OpenSpec := { _root_.Go.OpenSpec.ofChange s with cond := some uptoSmall }

/-- 'casketlaw09.CodecParts', WHERE WHAT IT READS IS OF BULK AT MOST 1048576: true; the input reads as it did. -/
def codecPartsUptoRow : OpenClaim := { program := "ytmonedfafechcaa", sum := "e504a0764785b4712d8e2a15ededcbc4e1c1b222f36f549d28cce86f6fabbe3e", func := "casket/casketlaw09.CodecParts", spec := "codecParts", unfollowed := true, recurses := true, apart := false, narrowed := true }
def CodecPartsUptoSaid : Prop := codecPartsUptoRow.holds Try.pinned (OpenSpec.upto codecPartsSpec)

/-- 'casketlaw09.CodecBack', WHERE WHAT IT READS IS OF BULK AT MOST 1048576: true; the input reads as it did. -/
def codecBackUptoRow : OpenClaim := { program := "ytmonedfafechcaa", sum := "e504a0764785b4712d8e2a15ededcbc4e1c1b222f36f549d28cce86f6fabbe3e", func := "casket/casketlaw09.CodecBack", spec := "codecBack", unfollowed := true, recurses := true, apart := false, narrowed := true }
def CodecBackUptoSaid : Prop := codecBackUptoRow.holds Try.pinned (OpenSpec.upto codecBackSpec)

/-- 'casketlaw09.CodecReads', WHERE WHAT IT READS IS OF BULK AT MOST 1048576: true; the input reads as it did. -/
def codecReadsUptoRow : OpenClaim := { program := "ytmonedfafechcaa", sum := "e504a0764785b4712d8e2a15ededcbc4e1c1b222f36f549d28cce86f6fabbe3e", func := "casket/casketlaw09.CodecReads", spec := "codecReads", unfollowed := true, recurses := true, apart := false, narrowed := true }
def CodecReadsUptoSaid : Prop := codecReadsUptoRow.holds Try.pinned (OpenSpec.upto codecReadsSpec)

/-- 'casketlaw09.CodecNobody', WHERE WHAT IT READS IS OF BULK AT MOST 1048576: true; the input reads as it did. -/
def codecNobodyUptoRow : OpenClaim := { program := "ytmonedfafechcaa", sum := "e504a0764785b4712d8e2a15ededcbc4e1c1b222f36f549d28cce86f6fabbe3e", func := "casket/casketlaw09.CodecNobody", spec := "codecNobody", unfollowed := true, recurses := true, apart := false, narrowed := true }
def CodecNobodyUptoSaid : Prop := codecNobodyUptoRow.holds Try.pinned (OpenSpec.upto codecNobodySpec)

/-- 'casketlaw09.CodecLists', WHERE WHAT IT READS IS OF BULK AT MOST 1048576: true; the input reads as it did. -/
def codecListsUptoRow : OpenClaim := { program := "ytmonedfafechcaa", sum := "e504a0764785b4712d8e2a15ededcbc4e1c1b222f36f549d28cce86f6fabbe3e", func := "casket/casketlaw09.CodecLists", spec := "codecLists", unfollowed := true, recurses := true, apart := false, narrowed := true }
def CodecListsUptoSaid : Prop := codecListsUptoRow.holds Try.pinned (OpenSpec.upto codecListsSpec)

/-- 'casketlaw12.SlotEncodes', WHERE WHAT IT READS IS OF BULK AT MOST 1048576: true; the input reads as it did. -/
def slotEncodesUptoRow : OpenClaim := { program := "ytmonedfafechcaa", sum := "e504a0764785b4712d8e2a15ededcbc4e1c1b222f36f549d28cce86f6fabbe3e", func := "casket/casketlaw12.SlotEncodes", spec := "slotEncodes", unfollowed := true, recurses := true, apart := false, narrowed := true }
def SlotEncodesUptoSaid : Prop := slotEncodesUptoRow.holds Try.pinned (OpenSpec.upto slotEncodesSpec)

/-- 'casketlaw12.SlotDecodes', WHERE WHAT IT READS IS OF BULK AT MOST 1048576: true; the input reads as it did. -/
def slotDecodesUptoRow : OpenClaim := { program := "ytmonedfafechcaa", sum := "e504a0764785b4712d8e2a15ededcbc4e1c1b222f36f549d28cce86f6fabbe3e", func := "casket/casketlaw12.SlotDecodes", spec := "slotDecodes", unfollowed := true, recurses := true, apart := false, narrowed := true }
def SlotDecodesUptoSaid : Prop := slotDecodesUptoRow.holds Try.pinned (OpenSpec.upto slotDecodesSpec)

/-- 'casketlaw12.SlotReads', WHERE WHAT IT READS IS OF BULK AT MOST 1048576: true; the input reads as it did. -/
def slotReadsUptoRow : OpenClaim := { program := "ytmonedfafechcaa", sum := "e504a0764785b4712d8e2a15ededcbc4e1c1b222f36f549d28cce86f6fabbe3e", func := "casket/casketlaw12.SlotReads", spec := "slotReads", unfollowed := true, recurses := true, apart := false, narrowed := true }
def SlotReadsUptoSaid : Prop := slotReadsUptoRow.holds Try.pinned (OpenSpec.upto slotReadsSpec)

/-- 'casketlaw12.SlotApart', WHERE WHAT IT READS IS OF BULK AT MOST 1048576: true; the input reads as it did. -/
def slotApartUptoRow : OpenClaim := { program := "ytmonedfafechcaa", sum := "e504a0764785b4712d8e2a15ededcbc4e1c1b222f36f549d28cce86f6fabbe3e", func := "casket/casketlaw12.SlotApart", spec := "slotApart", unfollowed := true, recurses := true, apart := false, narrowed := true }
def SlotApartUptoSaid : Prop := slotApartUptoRow.holds Try.pinned (OpenSpec.upto slotApartSpec)

/-- 'casketlaw12.SlotKeys', WHERE WHAT IT READS IS OF BULK AT MOST 1048576: true; the input reads as it did. -/
def slotKeysUptoRow : OpenClaim := { program := "ytmonedfafechcaa", sum := "e504a0764785b4712d8e2a15ededcbc4e1c1b222f36f549d28cce86f6fabbe3e", func := "casket/casketlaw12.SlotKeys", spec := "slotKeys", unfollowed := true, recurses := true, apart := false, narrowed := true }
def SlotKeysUptoSaid : Prop := slotKeysUptoRow.holds Try.pinned (OpenSpec.upto slotKeysSpec)

/-- 'casketlaw09.CodecSorted', WHERE WHAT IT READS IS OF BULK AT MOST 1048576: true; the input reads as it did. -/
def codecSortedUptoRow : OpenClaim := { program := "ytmonedfafechcaa", sum := "e504a0764785b4712d8e2a15ededcbc4e1c1b222f36f549d28cce86f6fabbe3e", func := "casket/casketlaw09.CodecSorted", spec := "codecSorted", unfollowed := true, recurses := true, apart := false, narrowed := true }
def CodecSortedUptoSaid : Prop := codecSortedUptoRow.holds Try.pinned (OpenSpec.upto codecSortedSpec)

end Rows
end Go.Proofs.Ytmonedfafechcaa
