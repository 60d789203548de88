/-
  DERIVED. GIVEN WITH THE SEED: THE CARDS: each row of YtbanogfljpkbkaaGreatDoorRows.lean that lists a variable, with what it lists TIED to the program's text (the seventh form; the later family's looks); each row that meets fmt, with fmt's text TOLD by the authors' own Lean function (tested against real Go, not proved from fmt's source: count such statements apart). THE CARD IS WHAT COUNTS. Prove the row's statement (the work); the ties are given (YtbanogfljpkbkaaGreatDoorTie.lean); close each card by the builder's one call (the guide's Derived/Test/ToyasCard.lean, 'card_holds'). Laid BY PROGRAM, IN A SANDBOX (cutbox-door.mjs). By AI agents, Wed Nov 11 2026. No macro, syntax, notation, axiom, sorry.
-/
import Derived.Test.YtbanogfljpkbkaaGreatDoorRows
import GoSem.ClaimSeven
namespace Go.Proofs.YtbanogfljpkbkaaGreatDoor
namespace Rows

/-- THE TIED CARD OF 'casketlaw17.MerkleDoes'. -/
def merkleDoesCard : Claim7 := { stood := { row := merkleDoesRow, standIns := [], harness := (true, "b34d10644c8382b086a9995783897dae9088279f3603919fb31cce6f87d0f0cc"), looks := false }, kinds := [], alts := [], laidByText := true, laidKinds := [.data], laidTests := true, laidLooks := .later }
def MerkleDoesCardSaid : Prop := Claim7.holds Tryz.pinned (.plain (OpenSpec.ofChange merkleDoesSpec)) merkleDoesCard

/-- THE TIED CARD OF 'casketlaw17.MerkleRoots'. -/
def merkleRootsCard : Claim7 := { stood := { row := merkleRootsRow, standIns := [], harness := (true, "b34d10644c8382b086a9995783897dae9088279f3603919fb31cce6f87d0f0cc"), looks := false }, kinds := [], alts := [], laidByText := true, laidKinds := [.data], laidTests := true, laidLooks := .later }
def MerkleRootsCardSaid : Prop := Claim7.holds Tryz.pinned (.plain (OpenSpec.ofChange merkleRootsSpec)) merkleRootsCard

/-- THE TIED CARD OF 'casketlaw17.MerkleNobody'. -/
def merkleNobodyCard : Claim7 := { stood := { row := merkleNobodyRow, standIns := [], harness := (true, "b34d10644c8382b086a9995783897dae9088279f3603919fb31cce6f87d0f0cc"), looks := false }, kinds := [], alts := [], laidByText := true, laidKinds := [.data], laidTests := true, laidLooks := .later }
def MerkleNobodyCardSaid : Prop := Claim7.holds Tryz.pinned (.plain (OpenSpec.ofChange merkleNobodySpec)) merkleNobodyCard

/-- THE TIED CARD OF 'casketlaw17.MerkleOthers'. -/
def merkleOthersCard : Claim7 := { stood := { row := merkleOthersRow, standIns := [], harness := (true, "b34d10644c8382b086a9995783897dae9088279f3603919fb31cce6f87d0f0cc"), looks := false }, kinds := [], alts := [], laidByText := true, laidKinds := [.data], laidTests := true, laidLooks := .later }
def MerkleOthersCardSaid : Prop := Claim7.holds Tryz.pinned (.plain (OpenSpec.ofChange merkleOthersSpec)) merkleOthersCard

/-- THE TIED CARD OF 'casketlaw17.MerkleFresh'. -/
def merkleFreshCard : Claim7 := { stood := { row := merkleFreshRow, standIns := [], harness := (true, "b34d10644c8382b086a9995783897dae9088279f3603919fb31cce6f87d0f0cc"), looks := false }, kinds := [], alts := [], laidByText := true, laidKinds := [.data], laidTests := true, laidLooks := .later }
def MerkleFreshCardSaid : Prop := Claim7.holds Tryz.pinned (.plain (OpenSpec.ofChange merkleFreshSpec)) merkleFreshCard

/-- THE SECOND FORM's CARD OF 'casketlaw17.MerkleDoes'. -/
def merkleDoesUptoCard : Claim7 := { stood := { row := merkleDoesUptoRow, standIns := [], harness := (true, "b34d10644c8382b086a9995783897dae9088279f3603919fb31cce6f87d0f0cc"), looks := false }, kinds := [], alts := [], laidByText := true, laidKinds := [.data], laidTests := true, laidLooks := .later }
def MerkleDoesUptoCardSaid : Prop := Claim7.holds Tryz.pinned (.plain (OpenSpec.upto merkleDoesSpec)) merkleDoesUptoCard

/-- THE SECOND FORM's CARD OF 'casketlaw17.MerkleRoots'. -/
def merkleRootsUptoCard : Claim7 := { stood := { row := merkleRootsUptoRow, standIns := [], harness := (true, "b34d10644c8382b086a9995783897dae9088279f3603919fb31cce6f87d0f0cc"), looks := false }, kinds := [], alts := [], laidByText := true, laidKinds := [.data], laidTests := true, laidLooks := .later }
def MerkleRootsUptoCardSaid : Prop := Claim7.holds Tryz.pinned (.plain (OpenSpec.upto merkleRootsSpec)) merkleRootsUptoCard

/-- THE SECOND FORM's CARD OF 'casketlaw17.MerkleNobody'. -/
def merkleNobodyUptoCard : Claim7 := { stood := { row := merkleNobodyUptoRow, standIns := [], harness := (true, "b34d10644c8382b086a9995783897dae9088279f3603919fb31cce6f87d0f0cc"), looks := false }, kinds := [], alts := [], laidByText := true, laidKinds := [.data], laidTests := true, laidLooks := .later }
def MerkleNobodyUptoCardSaid : Prop := Claim7.holds Tryz.pinned (.plain (OpenSpec.upto merkleNobodySpec)) merkleNobodyUptoCard

/-- THE SECOND FORM's CARD OF 'casketlaw17.MerkleOthers'. -/
def merkleOthersUptoCard : Claim7 := { stood := { row := merkleOthersUptoRow, standIns := [], harness := (true, "b34d10644c8382b086a9995783897dae9088279f3603919fb31cce6f87d0f0cc"), looks := false }, kinds := [], alts := [], laidByText := true, laidKinds := [.data], laidTests := true, laidLooks := .later }
def MerkleOthersUptoCardSaid : Prop := Claim7.holds Tryz.pinned (.plain (OpenSpec.upto merkleOthersSpec)) merkleOthersUptoCard

/-- THE SECOND FORM's CARD OF 'casketlaw17.MerkleFresh'. -/
def merkleFreshUptoCard : Claim7 := { stood := { row := merkleFreshUptoRow, standIns := [], harness := (true, "b34d10644c8382b086a9995783897dae9088279f3603919fb31cce6f87d0f0cc"), looks := false }, kinds := [], alts := [], laidByText := true, laidKinds := [.data], laidTests := true, laidLooks := .later }
def MerkleFreshUptoCardSaid : Prop := Claim7.holds Tryz.pinned (.plain (OpenSpec.upto merkleFreshSpec)) merkleFreshUptoCard
end Rows
end Go.Proofs.YtbanogfljpkbkaaGreatDoor
