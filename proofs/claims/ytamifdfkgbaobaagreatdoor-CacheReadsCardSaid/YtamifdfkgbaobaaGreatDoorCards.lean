/-
  DERIVED. GIVEN WITH THE SEED: THE CARDS: each row of YtamifdfkgbaobaaGreatDoorRows.lean that lists a variable, with what it lists TIED to the program's text (the seventh form; the later family's looks); each row that meets fmt, with fmt's text TOLD by the authors' own Lean function (tested against real Go, not proved from fmt's source: count such statements apart). THE CARD IS WHAT COUNTS. Prove the row's statement (the work); the ties are given (YtamifdfkgbaobaaGreatDoorTie.lean); close each card by the builder's one call (the guide's Derived/Test/ToyasCard.lean, 'card_holds'). Laid BY PROGRAM, IN A SANDBOX (cutbox-door.mjs). By AI agents, Wed Nov 11 2026. No macro, syntax, notation, axiom, sorry.
-/
import Derived.Test.YtamifdfkgbaobaaGreatDoorRows
import GoSem.ClaimSeven
namespace Go.Proofs.YtamifdfkgbaobaaGreatDoor
namespace Rows

/-- THE TIED CARD OF 'casketlaw15.CacheCleans'. -/
def cacheCleansCard : Claim7 := { stood := { row := cacheCleansRow, standIns := [], harness := (true, "9730ed457e379090e58b93077cfe6c25f3e37823bebfd8ddb6a567b7433d0b6c"), looks := false }, kinds := [], alts := [], laidByText := true, laidKinds := [.data], laidTests := true, laidLooks := .later }
def CacheCleansCardSaid : Prop := Claim7.holds Tryz.pinned (.plain (OpenSpec.ofChange cacheCleansSpec)) cacheCleansCard

/-- THE TIED CARD OF 'casketlaw15.CacheNobody'. -/
def cacheNobodyCard : Claim7 := { stood := { row := cacheNobodyRow, standIns := [], harness := (true, "9730ed457e379090e58b93077cfe6c25f3e37823bebfd8ddb6a567b7433d0b6c"), looks := false }, kinds := [], alts := [], laidByText := true, laidKinds := [.data], laidTests := true, laidLooks := .later }
def CacheNobodyCardSaid : Prop := Claim7.holds Tryz.pinned (.plain (OpenSpec.ofChange cacheNobodySpec)) cacheNobodyCard

/-- THE TIED CARD OF 'casketlaw15.CacheReads'. -/
def cacheReadsCard : Claim7 := { stood := { row := cacheReadsRow, standIns := [], harness := (true, "9730ed457e379090e58b93077cfe6c25f3e37823bebfd8ddb6a567b7433d0b6c"), looks := false }, kinds := [], alts := [], laidByText := true, laidKinds := [.data], laidTests := true, laidLooks := .later }
def CacheReadsCardSaid : Prop := Claim7.holds Tryz.pinned (.plain (OpenSpec.ofChange cacheReadsSpec)) cacheReadsCard

/-- THE SECOND FORM's CARD OF 'casketlaw15.CacheCleans'. -/
def cacheCleansUptoCard : Claim7 := { stood := { row := cacheCleansUptoRow, standIns := [], harness := (true, "9730ed457e379090e58b93077cfe6c25f3e37823bebfd8ddb6a567b7433d0b6c"), looks := false }, kinds := [], alts := [], laidByText := true, laidKinds := [.data], laidTests := true, laidLooks := .later }
def CacheCleansUptoCardSaid : Prop := Claim7.holds Tryz.pinned (.plain (OpenSpec.upto cacheCleansSpec)) cacheCleansUptoCard

/-- THE SECOND FORM's CARD OF 'casketlaw15.CacheNobody'. -/
def cacheNobodyUptoCard : Claim7 := { stood := { row := cacheNobodyUptoRow, standIns := [], harness := (true, "9730ed457e379090e58b93077cfe6c25f3e37823bebfd8ddb6a567b7433d0b6c"), looks := false }, kinds := [], alts := [], laidByText := true, laidKinds := [.data], laidTests := true, laidLooks := .later }
def CacheNobodyUptoCardSaid : Prop := Claim7.holds Tryz.pinned (.plain (OpenSpec.upto cacheNobodySpec)) cacheNobodyUptoCard

/-- THE SECOND FORM's CARD OF 'casketlaw15.CacheReads'. -/
def cacheReadsUptoCard : Claim7 := { stood := { row := cacheReadsUptoRow, standIns := [], harness := (true, "9730ed457e379090e58b93077cfe6c25f3e37823bebfd8ddb6a567b7433d0b6c"), looks := false }, kinds := [], alts := [], laidByText := true, laidKinds := [.data], laidTests := true, laidLooks := .later }
def CacheReadsUptoCardSaid : Prop := Claim7.holds Tryz.pinned (.plain (OpenSpec.upto cacheReadsSpec)) cacheReadsUptoCard
end Rows
end Go.Proofs.YtamifdfkgbaobaaGreatDoor
