/-
  DERIVED. GIVEN WITH THE SEED: THE CARDS: each row of YtlelgeigighecaaDoorRows.lean that lists a variable, with what it lists TIED to the program's text (the seventh form; the later family's looks); each row that meets fmt, with fmt's text TOLD by the authors' own Lean function (tested against real Go, not proved from fmt's source: count such statements apart). THE CARD IS WHAT COUNTS. Prove the row's statement (the work); the ties are given (YtlelgeigighecaaDoorTie.lean); close each card by the builder's one call (the guide's Derived/Test/ToyasCard.lean, 'card_holds'). Laid BY PROGRAM, IN A SANDBOX (cutbox-door.mjs). By AI agents, Wed Nov 11 2026. No macro, syntax, notation, axiom, sorry.
-/
import Derived.Test.YtlelgeigighecaaDoorRows
import GoSem.ClaimSeven
namespace Go.Proofs.YtlelgeigighecaaDoor
namespace Rows

/-- THE TIED CARD OF 'casketlaw11.HeadEncodes'. -/
def headEncodesCard : Claim7 := { stood := { row := headEncodesRow, standIns := [], harness := (true, "c683f3773f66153118a1d2978bb6fa05d9fb5cd5a7fb55c4143df3e1b5c693d7"), looks := false }, kinds := [], alts := [], laidByText := true, laidKinds := [.data], laidTests := true, laidLooks := .later }
def HeadEncodesCardSaid : Prop := Claim7.holds Tryd.pinned (.plain (OpenSpec.ofChange headEncodesSpec)) headEncodesCard

/-- THE TIED CARD OF 'casketlaw11.HeadDecodes'. -/
def headDecodesCard : Claim7 := { stood := { row := headDecodesRow, standIns := [], harness := (true, "c683f3773f66153118a1d2978bb6fa05d9fb5cd5a7fb55c4143df3e1b5c693d7"), looks := false }, kinds := [], alts := [], laidByText := true, laidKinds := [.data], laidTests := true, laidLooks := .later }
def HeadDecodesCardSaid : Prop := Claim7.holds Tryd.pinned (.plain (OpenSpec.ofChange headDecodesSpec)) headDecodesCard

/-- THE TIED CARD OF 'casketlaw11.HeadParts'. -/
def headPartsCard : Claim7 := { stood := { row := headPartsRow, standIns := [], harness := (true, "c683f3773f66153118a1d2978bb6fa05d9fb5cd5a7fb55c4143df3e1b5c693d7"), looks := false }, kinds := [], alts := [], laidByText := true, laidKinds := [.data], laidTests := true, laidLooks := .later }
def HeadPartsCardSaid : Prop := Claim7.holds Tryd.pinned (.plain (OpenSpec.ofChange headPartsSpec)) headPartsCard

/-- THE TIED CARD OF 'casketlaw11.HeadChoose'. -/
def headChooseCard : Claim7 := { stood := { row := headChooseRow, standIns := [], harness := (true, "c683f3773f66153118a1d2978bb6fa05d9fb5cd5a7fb55c4143df3e1b5c693d7"), looks := false }, kinds := [], alts := [], laidByText := true, laidKinds := [.data], laidTests := true, laidLooks := .later }
def HeadChooseCardSaid : Prop := Claim7.holds Tryd.pinned (.plain (OpenSpec.ofChange headChooseSpec)) headChooseCard

/-- THE TIED CARD OF 'casketlaw11.HeadNewer'. -/
def headNewerCard : Claim7 := { stood := { row := headNewerRow, standIns := [], harness := (true, "c683f3773f66153118a1d2978bb6fa05d9fb5cd5a7fb55c4143df3e1b5c693d7"), looks := false }, kinds := [], alts := [], laidByText := true, laidKinds := [.data], laidTests := true, laidLooks := .later }
def HeadNewerCardSaid : Prop := Claim7.holds Tryd.pinned (.plain (OpenSpec.ofChange headNewerSpec)) headNewerCard

/-- THE TIED CARD OF 'casketlaw13.RecordBlocks'. -/
def recordBlocksCard : Claim7 := { stood := { row := recordBlocksRow, standIns := [], harness := (true, "c683f3773f66153118a1d2978bb6fa05d9fb5cd5a7fb55c4143df3e1b5c693d7"), looks := false }, kinds := [], alts := [], laidByText := true, laidKinds := [.data], laidTests := true, laidLooks := .later }
def RecordBlocksCardSaid : Prop := Claim7.holds Tryd.pinned (.plain (OpenSpec.ofChange recordBlocksSpec)) recordBlocksCard

/-- THE TIED CARD OF 'casketlaw13.RecordParse'. -/
def recordParseCard : Claim7 := { stood := { row := recordParseRow, standIns := [], harness := (true, "c683f3773f66153118a1d2978bb6fa05d9fb5cd5a7fb55c4143df3e1b5c693d7"), looks := false }, kinds := [], alts := [], laidByText := true, laidKinds := [.data], laidTests := true, laidLooks := .later }
def RecordParseCardSaid : Prop := Claim7.holds Tryd.pinned (.plain (OpenSpec.ofChange recordParseSpec)) recordParseCard

/-- THE TIED CARD OF 'casketlaw13.RecordMarks'. -/
def recordMarksCard : Claim7 := { stood := { row := recordMarksRow, standIns := [], harness := (true, "c683f3773f66153118a1d2978bb6fa05d9fb5cd5a7fb55c4143df3e1b5c693d7"), looks := false }, kinds := [], alts := [], laidByText := true, laidKinds := [.data], laidTests := true, laidLooks := .later }
def RecordMarksCardSaid : Prop := Claim7.holds Tryd.pinned (.plain (OpenSpec.ofChange recordMarksSpec)) recordMarksCard

/-- THE TIED CARD OF 'casketlaw13.RecordApart'. -/
def recordApartCard : Claim7 := { stood := { row := recordApartRow, standIns := [], harness := (true, "c683f3773f66153118a1d2978bb6fa05d9fb5cd5a7fb55c4143df3e1b5c693d7"), looks := false }, kinds := [], alts := [], laidByText := true, laidKinds := [.data], laidTests := true, laidLooks := .later }
def RecordApartCardSaid : Prop := Claim7.holds Tryd.pinned (.plain (OpenSpec.ofChange recordApartSpec)) recordApartCard

/-- THE TIED CARD OF 'casketlaw13.RecordPlans'. -/
def recordPlansCard : Claim7 := { stood := { row := recordPlansRow, standIns := [], harness := (true, "c683f3773f66153118a1d2978bb6fa05d9fb5cd5a7fb55c4143df3e1b5c693d7"), looks := false }, kinds := [], alts := [], laidByText := true, laidKinds := [.data], laidTests := true, laidLooks := .later }
def RecordPlansCardSaid : Prop := Claim7.holds Tryd.pinned (.plain (OpenSpec.ofChange recordPlansSpec)) recordPlansCard

/-- THE SECOND FORM's CARD OF 'casketlaw11.HeadEncodes'. -/
def headEncodesUptoCard : Claim7 := { stood := { row := headEncodesUptoRow, standIns := [], harness := (true, "c683f3773f66153118a1d2978bb6fa05d9fb5cd5a7fb55c4143df3e1b5c693d7"), looks := false }, kinds := [], alts := [], laidByText := true, laidKinds := [.data], laidTests := true, laidLooks := .later }
def HeadEncodesUptoCardSaid : Prop := Claim7.holds Tryd.pinned (.plain (OpenSpec.upto headEncodesSpec)) headEncodesUptoCard

/-- THE SECOND FORM's CARD OF 'casketlaw11.HeadDecodes'. -/
def headDecodesUptoCard : Claim7 := { stood := { row := headDecodesUptoRow, standIns := [], harness := (true, "c683f3773f66153118a1d2978bb6fa05d9fb5cd5a7fb55c4143df3e1b5c693d7"), looks := false }, kinds := [], alts := [], laidByText := true, laidKinds := [.data], laidTests := true, laidLooks := .later }
def HeadDecodesUptoCardSaid : Prop := Claim7.holds Tryd.pinned (.plain (OpenSpec.upto headDecodesSpec)) headDecodesUptoCard

/-- THE SECOND FORM's CARD OF 'casketlaw11.HeadParts'. -/
def headPartsUptoCard : Claim7 := { stood := { row := headPartsUptoRow, standIns := [], harness := (true, "c683f3773f66153118a1d2978bb6fa05d9fb5cd5a7fb55c4143df3e1b5c693d7"), looks := false }, kinds := [], alts := [], laidByText := true, laidKinds := [.data], laidTests := true, laidLooks := .later }
def HeadPartsUptoCardSaid : Prop := Claim7.holds Tryd.pinned (.plain (OpenSpec.upto headPartsSpec)) headPartsUptoCard

/-- THE SECOND FORM's CARD OF 'casketlaw11.HeadChoose'. -/
def headChooseUptoCard : Claim7 := { stood := { row := headChooseUptoRow, standIns := [], harness := (true, "c683f3773f66153118a1d2978bb6fa05d9fb5cd5a7fb55c4143df3e1b5c693d7"), looks := false }, kinds := [], alts := [], laidByText := true, laidKinds := [.data], laidTests := true, laidLooks := .later }
def HeadChooseUptoCardSaid : Prop := Claim7.holds Tryd.pinned (.plain (OpenSpec.upto headChooseSpec)) headChooseUptoCard

/-- THE SECOND FORM's CARD OF 'casketlaw11.HeadNewer'. -/
def headNewerUptoCard : Claim7 := { stood := { row := headNewerUptoRow, standIns := [], harness := (true, "c683f3773f66153118a1d2978bb6fa05d9fb5cd5a7fb55c4143df3e1b5c693d7"), looks := false }, kinds := [], alts := [], laidByText := true, laidKinds := [.data], laidTests := true, laidLooks := .later }
def HeadNewerUptoCardSaid : Prop := Claim7.holds Tryd.pinned (.plain (OpenSpec.upto headNewerSpec)) headNewerUptoCard

/-- THE SECOND FORM's CARD OF 'casketlaw13.RecordBlocks'. -/
def recordBlocksUptoCard : Claim7 := { stood := { row := recordBlocksUptoRow, standIns := [], harness := (true, "c683f3773f66153118a1d2978bb6fa05d9fb5cd5a7fb55c4143df3e1b5c693d7"), looks := false }, kinds := [], alts := [], laidByText := true, laidKinds := [.data], laidTests := true, laidLooks := .later }
def RecordBlocksUptoCardSaid : Prop := Claim7.holds Tryd.pinned (.plain (OpenSpec.upto recordBlocksSpec)) recordBlocksUptoCard

/-- THE SECOND FORM's CARD OF 'casketlaw13.RecordParse'. -/
def recordParseUptoCard : Claim7 := { stood := { row := recordParseUptoRow, standIns := [], harness := (true, "c683f3773f66153118a1d2978bb6fa05d9fb5cd5a7fb55c4143df3e1b5c693d7"), looks := false }, kinds := [], alts := [], laidByText := true, laidKinds := [.data], laidTests := true, laidLooks := .later }
def RecordParseUptoCardSaid : Prop := Claim7.holds Tryd.pinned (.plain (OpenSpec.upto recordParseSpec)) recordParseUptoCard

/-- THE SECOND FORM's CARD OF 'casketlaw13.RecordMarks'. -/
def recordMarksUptoCard : Claim7 := { stood := { row := recordMarksUptoRow, standIns := [], harness := (true, "c683f3773f66153118a1d2978bb6fa05d9fb5cd5a7fb55c4143df3e1b5c693d7"), looks := false }, kinds := [], alts := [], laidByText := true, laidKinds := [.data], laidTests := true, laidLooks := .later }
def RecordMarksUptoCardSaid : Prop := Claim7.holds Tryd.pinned (.plain (OpenSpec.upto recordMarksSpec)) recordMarksUptoCard

/-- THE SECOND FORM's CARD OF 'casketlaw13.RecordApart'. -/
def recordApartUptoCard : Claim7 := { stood := { row := recordApartUptoRow, standIns := [], harness := (true, "c683f3773f66153118a1d2978bb6fa05d9fb5cd5a7fb55c4143df3e1b5c693d7"), looks := false }, kinds := [], alts := [], laidByText := true, laidKinds := [.data], laidTests := true, laidLooks := .later }
def RecordApartUptoCardSaid : Prop := Claim7.holds Tryd.pinned (.plain (OpenSpec.upto recordApartSpec)) recordApartUptoCard

/-- THE SECOND FORM's CARD OF 'casketlaw13.RecordPlans'. -/
def recordPlansUptoCard : Claim7 := { stood := { row := recordPlansUptoRow, standIns := [], harness := (true, "c683f3773f66153118a1d2978bb6fa05d9fb5cd5a7fb55c4143df3e1b5c693d7"), looks := false }, kinds := [], alts := [], laidByText := true, laidKinds := [.data], laidTests := true, laidLooks := .later }
def RecordPlansUptoCardSaid : Prop := Claim7.holds Tryd.pinned (.plain (OpenSpec.upto recordPlansSpec)) recordPlansUptoCard
end Rows
end Go.Proofs.YtlelgeigighecaaDoor
