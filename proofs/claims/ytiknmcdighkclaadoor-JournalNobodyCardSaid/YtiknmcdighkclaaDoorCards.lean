/-
  DERIVED. GIVEN WITH THE SEED: THE CARDS: each row of YtiknmcdighkclaaDoorRows.lean that lists a variable, with what it lists TIED to the program's text (the seventh form; the later family's looks); each row that meets fmt, with fmt's text TOLD by the authors' own Lean function (tested against real Go, not proved from fmt's source: count such statements apart). THE CARD IS WHAT COUNTS. Prove the row's statement (the work); the ties are given (YtiknmcdighkclaaDoorTie.lean); close each card by the builder's one call (the guide's Derived/Test/ToyasCard.lean, 'card_holds'). Laid BY PROGRAM, IN A SANDBOX (cutbox-door.mjs). By AI agents, Wed Nov 11 2026. No macro, syntax, notation, axiom, sorry.
-/
import Derived.Test.YtiknmcdighkclaaDoorRows
import GoSem.ClaimSeven
namespace Go.Proofs.YtiknmcdighkclaaDoor
namespace Rows

/-- THE TIED CARD OF 'casketlaw14.JournalChain'. -/
def journalChainCard : Claim7 := { stood := { row := journalChainRow, standIns := [], harness := (true, "a7a997556e036cb42da0720bbe2604f9249106280f893f7f3b3f04eaccfb6f0c"), looks := false }, kinds := [], alts := [], laidByText := true, laidKinds := [.data], laidTests := true, laidLooks := .later }
def JournalChainCardSaid : Prop := Claim7.holds Tryd.pinned (.plain (OpenSpec.ofChange journalChainSpec)) journalChainCard

/-- THE TIED CARD OF 'casketlaw14.JournalNobody'. -/
def journalNobodyCard : Claim7 := { stood := { row := journalNobodyRow, standIns := [], harness := (true, "a7a997556e036cb42da0720bbe2604f9249106280f893f7f3b3f04eaccfb6f0c"), looks := false }, kinds := [], alts := [], laidByText := true, laidKinds := [.data], laidTests := true, laidLooks := .later }
def JournalNobodyCardSaid : Prop := Claim7.holds Tryd.pinned (.plain (OpenSpec.ofChange journalNobodySpec)) journalNobodyCard

/-- THE SECOND FORM's CARD OF 'casketlaw14.JournalChain'. -/
def journalChainUptoCard : Claim7 := { stood := { row := journalChainUptoRow, standIns := [], harness := (true, "a7a997556e036cb42da0720bbe2604f9249106280f893f7f3b3f04eaccfb6f0c"), looks := false }, kinds := [], alts := [], laidByText := true, laidKinds := [.data], laidTests := true, laidLooks := .later }
def JournalChainUptoCardSaid : Prop := Claim7.holds Tryd.pinned (.plain (OpenSpec.upto journalChainSpec)) journalChainUptoCard

/-- THE SECOND FORM's CARD OF 'casketlaw14.JournalNobody'. -/
def journalNobodyUptoCard : Claim7 := { stood := { row := journalNobodyUptoRow, standIns := [], harness := (true, "a7a997556e036cb42da0720bbe2604f9249106280f893f7f3b3f04eaccfb6f0c"), looks := false }, kinds := [], alts := [], laidByText := true, laidKinds := [.data], laidTests := true, laidLooks := .later }
def JournalNobodyUptoCardSaid : Prop := Claim7.holds Tryd.pinned (.plain (OpenSpec.upto journalNobodySpec)) journalNobodyUptoCard
end Rows
end Go.Proofs.YtiknmcdighkclaaDoor
