/-
  NARROWER THAN 'FOR EVERY INPUT', by the rows' own cells (each row's printed sentence says how): HeadEncodes: laid · HeadDecodes: laid · HeadParts: laid · HeadChoose: laid · HeadNewer: laid · RecordBlocks: laid · RecordParse: laid · RecordMarks: laid · RecordApart: laid · RecordPlans: laid.
  DERIVED. THE GIVEN ROWS OF THIS SEAT. 10 by the template 'for every input the law returns true; each argument reads behind the call as it read before'; 0 by the template 'total and deterministic' (their statements: YtlelgeigighecaaDoorTotals.lean).
  GIVEN WITH THE SEED: the statements are not yours to turn. If you find one false, say at which input.
  Laid BY PROGRAM, IN A SANDBOX (cutbox-rows.mjs): the forced cells as the released guide's own fill.sh prints them over the translation a69db2dc8650b38e… (all of the seat's roots in one cut). By AI agents, Wed Nov 11 2026. No macro, syntax, notation, axiom, sorry.
-/
import Derived.Test.YtlelgeigighecaaDoorChecked
import GoSem.Claim
import GoSem.ClaimJoined
import GoSem.ClaimMapViews
import Derived.JoinedTies
import Derived.KernelRfl
namespace Go.Proofs.YtlelgeigighecaaDoor
/- THE CELL 'sum', in the pinned program and in every row, IS THE sha256 OF THE DUMP (.gsa) THAT YtlelgeigighecaaDoorProg.lean LOADS. Nothing in Lean hashes anything: it is a label: what it is worth is what the hold of that sum in a sandbox is worth. -/
noncomputable def Tryd.pinned : Pinned := { name := "ytlelgeigighecaadoor", sum := "a69db2dc8650b38ec415436e9cbd6c2cd2549b310bbc8a07d771305434fa5d87", checked := Tryd.checked }
namespace Rows
def none {H : Type} : Left H := { results := [], args := [] }

/- WHAT THE LISTED PACKAGE-LEVEL VARIABLES READ AS WHEN THE CALL BEGINS. Each datum BY PROGRAM (the guide's laid-datum.mjs) off the statement by which the dump's own 'gosem.cut.vars' lays the variable. In a bare row this is a premise. The card (YtlelgeigighecaaDoorCards.lean) ties it to the program's text. -/
def laid_casket_sha_constants {H : Type} : DataW H := .agg [.lit (.int .u32 1116352408), .lit (.int .u32 1899447441), .lit (.int .u32 3049323471), .lit (.int .u32 3921009573), .lit (.int .u32 961987163), .lit (.int .u32 1508970993), .lit (.int .u32 2453635748), .lit (.int .u32 2870763221), .lit (.int .u32 3624381080), .lit (.int .u32 310598401), .lit (.int .u32 607225278), .lit (.int .u32 1426881987), .lit (.int .u32 1925078388), .lit (.int .u32 2162078206), .lit (.int .u32 2614888103), .lit (.int .u32 3248222580), .lit (.int .u32 3835390401), .lit (.int .u32 4022224774), .lit (.int .u32 264347078), .lit (.int .u32 604807628), .lit (.int .u32 770255983), .lit (.int .u32 1249150122), .lit (.int .u32 1555081692), .lit (.int .u32 1996064986), .lit (.int .u32 2554220882), .lit (.int .u32 2821834349), .lit (.int .u32 2952996808), .lit (.int .u32 3210313671), .lit (.int .u32 3336571891), .lit (.int .u32 3584528711), .lit (.int .u32 113926993), .lit (.int .u32 338241895), .lit (.int .u32 666307205), .lit (.int .u32 773529912), .lit (.int .u32 1294757372), .lit (.int .u32 1396182291), .lit (.int .u32 1695183700), .lit (.int .u32 1986661051), .lit (.int .u32 2177026350), .lit (.int .u32 2456956037), .lit (.int .u32 2730485921), .lit (.int .u32 2820302411), .lit (.int .u32 3259730800), .lit (.int .u32 3345764771), .lit (.int .u32 3516065817), .lit (.int .u32 3600352804), .lit (.int .u32 4094571909), .lit (.int .u32 275423344), .lit (.int .u32 430227734), .lit (.int .u32 506948616), .lit (.int .u32 659060556), .lit (.int .u32 883997877), .lit (.int .u32 958139571), .lit (.int .u32 1322822218), .lit (.int .u32 1537002063), .lit (.int .u32 1747873779), .lit (.int .u32 1955562222), .lit (.int .u32 2024104815), .lit (.int .u32 2227730452), .lit (.int .u32 2361852424), .lit (.int .u32 2428436474), .lit (.int .u32 2756734187), .lit (.int .u32 3204031479), .lit (.int .u32 3329325298)]

/-- 'casketlaw11.HeadEncodes': WHATEVER THE INPUT: true; the input reads as it did. -/
def headEncodesSpec : ChangeSpec := { name := "headEncodes", fn := fun _ => fun
  | [d] => { results := [.lit (.bool true)], args := [d] }
  | _ => none }
def headEncodesRow : OpenClaim := { program := "ytlelgeigighecaadoor", sum := "a69db2dc8650b38ec415436e9cbd6c2cd2549b310bbc8a07d771305434fa5d87", func := "casket/casketlaw11.HeadEncodes", spec := "headEncodes", unfollowed := true, recurses := true, named := ["casket/sha.constants"], apart := false, laid := [("casket/sha.constants", laid_casket_sha_constants)] }
def HeadEncodesSaid : Prop := headEncodesRow.holds Tryd.pinned (OpenSpec.ofChange headEncodesSpec)

/-- ITS FALSE NEIGHBOUR: 'it returns false'. Refute it at one input. -/
def headEncodesWrong : ChangeSpec := { name := "headEncodes", fn := fun _ => fun
  | [d] => { results := [.lit (.bool false)], args := [d] }
  | _ => none }
def HeadEncodesWrongFalsely : Prop := headEncodesRow.holds Tryd.pinned (OpenSpec.ofChange headEncodesWrong)

/-- 'casketlaw11.HeadDecodes': WHATEVER THE INPUT: true; the input reads as it did. -/
def headDecodesSpec : ChangeSpec := { name := "headDecodes", fn := fun _ => fun
  | [d] => { results := [.lit (.bool true)], args := [d] }
  | _ => none }
def headDecodesRow : OpenClaim := { program := "ytlelgeigighecaadoor", sum := "a69db2dc8650b38ec415436e9cbd6c2cd2549b310bbc8a07d771305434fa5d87", func := "casket/casketlaw11.HeadDecodes", spec := "headDecodes", unfollowed := true, recurses := true, named := ["casket/sha.constants"], apart := false, laid := [("casket/sha.constants", laid_casket_sha_constants)] }
def HeadDecodesSaid : Prop := headDecodesRow.holds Tryd.pinned (OpenSpec.ofChange headDecodesSpec)

/-- ITS FALSE NEIGHBOUR: 'it returns false'. Refute it at one input. -/
def headDecodesWrong : ChangeSpec := { name := "headDecodes", fn := fun _ => fun
  | [d] => { results := [.lit (.bool false)], args := [d] }
  | _ => none }
def HeadDecodesWrongFalsely : Prop := headDecodesRow.holds Tryd.pinned (OpenSpec.ofChange headDecodesWrong)

/-- 'casketlaw11.HeadParts': WHATEVER THE INPUT: true; the input reads as it did. -/
def headPartsSpec : ChangeSpec := { name := "headParts", fn := fun _ => fun
  | [d] => { results := [.lit (.bool true)], args := [d] }
  | _ => none }
def headPartsRow : OpenClaim := { program := "ytlelgeigighecaadoor", sum := "a69db2dc8650b38ec415436e9cbd6c2cd2549b310bbc8a07d771305434fa5d87", func := "casket/casketlaw11.HeadParts", spec := "headParts", unfollowed := true, recurses := true, named := ["casket/sha.constants"], apart := false, laid := [("casket/sha.constants", laid_casket_sha_constants)] }
def HeadPartsSaid : Prop := headPartsRow.holds Tryd.pinned (OpenSpec.ofChange headPartsSpec)

/-- ITS FALSE NEIGHBOUR: 'it returns false'. Refute it at one input. -/
def headPartsWrong : ChangeSpec := { name := "headParts", fn := fun _ => fun
  | [d] => { results := [.lit (.bool false)], args := [d] }
  | _ => none }
def HeadPartsWrongFalsely : Prop := headPartsRow.holds Tryd.pinned (OpenSpec.ofChange headPartsWrong)

/-- 'casketlaw11.HeadChoose': WHATEVER THE INPUT: true; the input reads as it did. -/
def headChooseSpec : ChangeSpec := { name := "headChoose", fn := fun _ => fun
  | [d1, d2] => { results := [.lit (.bool true)], args := [d1, d2] }
  | _ => none }
def headChooseRow : OpenClaim := { program := "ytlelgeigighecaadoor", sum := "a69db2dc8650b38ec415436e9cbd6c2cd2549b310bbc8a07d771305434fa5d87", func := "casket/casketlaw11.HeadChoose", spec := "headChoose", unfollowed := true, recurses := true, named := ["casket/sha.constants"], apart := false, laid := [("casket/sha.constants", laid_casket_sha_constants)] }
def HeadChooseSaid : Prop := headChooseRow.holds Tryd.pinned (OpenSpec.ofChange headChooseSpec)

/-- ITS FALSE NEIGHBOUR: 'it returns false'. Refute it at one input. -/
def headChooseWrong : ChangeSpec := { name := "headChoose", fn := fun _ => fun
  | [d1, d2] => { results := [.lit (.bool false)], args := [d1, d2] }
  | _ => none }
def HeadChooseWrongFalsely : Prop := headChooseRow.holds Tryd.pinned (OpenSpec.ofChange headChooseWrong)

/-- 'casketlaw11.HeadNewer': WHATEVER THE INPUT: true; the input reads as it did. -/
def headNewerSpec : ChangeSpec := { name := "headNewer", fn := fun _ => fun
  | [d1, d2] => { results := [.lit (.bool true)], args := [d1, d2] }
  | _ => none }
def headNewerRow : OpenClaim := { program := "ytlelgeigighecaadoor", sum := "a69db2dc8650b38ec415436e9cbd6c2cd2549b310bbc8a07d771305434fa5d87", func := "casket/casketlaw11.HeadNewer", spec := "headNewer", unfollowed := true, recurses := true, named := ["casket/sha.constants"], apart := false, laid := [("casket/sha.constants", laid_casket_sha_constants)] }
def HeadNewerSaid : Prop := headNewerRow.holds Tryd.pinned (OpenSpec.ofChange headNewerSpec)

/-- ITS FALSE NEIGHBOUR: 'it returns false'. Refute it at one input. -/
def headNewerWrong : ChangeSpec := { name := "headNewer", fn := fun _ => fun
  | [d1, d2] => { results := [.lit (.bool false)], args := [d1, d2] }
  | _ => none }
def HeadNewerWrongFalsely : Prop := headNewerRow.holds Tryd.pinned (OpenSpec.ofChange headNewerWrong)

/-- 'casketlaw13.RecordBlocks': WHATEVER THE INPUT: true; the input reads as it did. -/
def recordBlocksSpec : ChangeSpec := { name := "recordBlocks", fn := fun _ => fun
  | [d1, d2, d3, d4] => { results := [.lit (.bool true)], args := [d1, d2, d3, d4] }
  | _ => none }
def recordBlocksRow : OpenClaim := { program := "ytlelgeigighecaadoor", sum := "a69db2dc8650b38ec415436e9cbd6c2cd2549b310bbc8a07d771305434fa5d87", func := "casket/casketlaw13.RecordBlocks", spec := "recordBlocks", unfollowed := true, recurses := true, named := ["casket/sha.constants"], apart := false, laid := [("casket/sha.constants", laid_casket_sha_constants)] }
def RecordBlocksSaid : Prop := recordBlocksRow.holds Tryd.pinned (OpenSpec.ofChange recordBlocksSpec)

/-- ITS FALSE NEIGHBOUR: 'it returns false'. Refute it at one input. -/
def recordBlocksWrong : ChangeSpec := { name := "recordBlocks", fn := fun _ => fun
  | [d1, d2, d3, d4] => { results := [.lit (.bool false)], args := [d1, d2, d3, d4] }
  | _ => none }
def RecordBlocksWrongFalsely : Prop := recordBlocksRow.holds Tryd.pinned (OpenSpec.ofChange recordBlocksWrong)

/-- 'casketlaw13.RecordParse': WHATEVER THE INPUT: true; the input reads as it did. -/
def recordParseSpec : ChangeSpec := { name := "recordParse", fn := fun _ => fun
  | [d1, d2] => { results := [.lit (.bool true)], args := [d1, d2] }
  | _ => none }
def recordParseRow : OpenClaim := { program := "ytlelgeigighecaadoor", sum := "a69db2dc8650b38ec415436e9cbd6c2cd2549b310bbc8a07d771305434fa5d87", func := "casket/casketlaw13.RecordParse", spec := "recordParse", unfollowed := true, recurses := true, named := ["casket/sha.constants"], apart := false, laid := [("casket/sha.constants", laid_casket_sha_constants)] }
def RecordParseSaid : Prop := recordParseRow.holds Tryd.pinned (OpenSpec.ofChange recordParseSpec)

/-- ITS FALSE NEIGHBOUR: 'it returns false'. Refute it at one input. -/
def recordParseWrong : ChangeSpec := { name := "recordParse", fn := fun _ => fun
  | [d1, d2] => { results := [.lit (.bool false)], args := [d1, d2] }
  | _ => none }
def RecordParseWrongFalsely : Prop := recordParseRow.holds Tryd.pinned (OpenSpec.ofChange recordParseWrong)

/-- 'casketlaw13.RecordMarks': WHATEVER THE INPUT: true; the input reads as it did. -/
def recordMarksSpec : ChangeSpec := { name := "recordMarks", fn := fun _ => fun
  | [d] => { results := [.lit (.bool true)], args := [d] }
  | _ => none }
def recordMarksRow : OpenClaim := { program := "ytlelgeigighecaadoor", sum := "a69db2dc8650b38ec415436e9cbd6c2cd2549b310bbc8a07d771305434fa5d87", func := "casket/casketlaw13.RecordMarks", spec := "recordMarks", unfollowed := true, recurses := true, named := ["casket/sha.constants"], apart := false, laid := [("casket/sha.constants", laid_casket_sha_constants)] }
def RecordMarksSaid : Prop := recordMarksRow.holds Tryd.pinned (OpenSpec.ofChange recordMarksSpec)

/-- ITS FALSE NEIGHBOUR: 'it returns false'. Refute it at one input. -/
def recordMarksWrong : ChangeSpec := { name := "recordMarks", fn := fun _ => fun
  | [d] => { results := [.lit (.bool false)], args := [d] }
  | _ => none }
def RecordMarksWrongFalsely : Prop := recordMarksRow.holds Tryd.pinned (OpenSpec.ofChange recordMarksWrong)

/-- 'casketlaw13.RecordApart': WHATEVER THE INPUT: true; the input reads as it did. -/
def recordApartSpec : ChangeSpec := { name := "recordApart", fn := fun _ => fun
  | [d1, d2, d3, d4, d5] => { results := [.lit (.bool true)], args := [d1, d2, d3, d4, d5] }
  | _ => none }
def recordApartRow : OpenClaim := { program := "ytlelgeigighecaadoor", sum := "a69db2dc8650b38ec415436e9cbd6c2cd2549b310bbc8a07d771305434fa5d87", func := "casket/casketlaw13.RecordApart", spec := "recordApart", unfollowed := true, recurses := true, named := ["casket/sha.constants"], apart := false, laid := [("casket/sha.constants", laid_casket_sha_constants)] }
def RecordApartSaid : Prop := recordApartRow.holds Tryd.pinned (OpenSpec.ofChange recordApartSpec)

/-- ITS FALSE NEIGHBOUR: 'it returns false'. Refute it at one input. -/
def recordApartWrong : ChangeSpec := { name := "recordApart", fn := fun _ => fun
  | [d1, d2, d3, d4, d5] => { results := [.lit (.bool false)], args := [d1, d2, d3, d4, d5] }
  | _ => none }
def RecordApartWrongFalsely : Prop := recordApartRow.holds Tryd.pinned (OpenSpec.ofChange recordApartWrong)

/-- 'casketlaw13.RecordPlans': WHATEVER THE INPUT: true; the input reads as it did. -/
def recordPlansSpec : ChangeSpec := { name := "recordPlans", fn := fun _ => fun
  | [d] => { results := [.lit (.bool true)], args := [d] }
  | _ => none }
def recordPlansRow : OpenClaim := { program := "ytlelgeigighecaadoor", sum := "a69db2dc8650b38ec415436e9cbd6c2cd2549b310bbc8a07d771305434fa5d87", func := "casket/casketlaw13.RecordPlans", spec := "recordPlans", unfollowed := true, recurses := true, named := ["casket/sha.constants"], apart := false, laid := [("casket/sha.constants", laid_casket_sha_constants)] }
def RecordPlansSaid : Prop := recordPlansRow.holds Tryd.pinned (OpenSpec.ofChange recordPlansSpec)

/-- ITS FALSE NEIGHBOUR: 'it returns false'. Refute it at one input. -/
def recordPlansWrong : ChangeSpec := { name := "recordPlans", fn := fun _ => fun
  | [d] => { results := [.lit (.bool false)], args := [d] }
  | _ => none }
def RecordPlansWrongFalsely : Prop := recordPlansRow.holds Tryd.pinned (OpenSpec.ofChange recordPlansWrong)

/- THE SECOND FORM. 'bulk': how many values and letters a reading holds, each counted each time it is reached (what is shared counts as often as it is met; a slice's spare places count too). A statement '..UptoSaid' is the law's where the arguments, and the package variables that the reading takes, are together of bulk at most 1048576: NARROWER than '..Said'. Prove '..Said' where nothing that the law and all that it calls make is longer than what came in: it says more and counts as full. Else prove '..UptoSaid'. A law counts once. -/
mutual
def uptoBulk {H : Type} : DataW H → Nat
  | .lit (.string bytes) => bytes.length + 1
  | .lit _ => 1
  | .nil => 1
  | .ptr d => uptoBulk d + 1
  | .slice elems spare => uptoBulkAll elems + uptoBulkAll spare + 1
  | .agg parts => uptoBulkAll parts + 1
  | .iface _ d => uptoBulk d + 1
  | .map entries => uptoBulkEntries entries + 1
  | .held _ => 1
def uptoBulkAll {H : Type} : List (DataW H) → Nat
  | [] => 0
  | d :: r => uptoBulk d + uptoBulkAll r
def uptoBulkEntries {H : Type} : List (Lit × DataW H) → Nat
  | [] => 0
  | x :: r => uptoBulkEntry x + uptoBulkEntries r
def uptoBulkEntry {H : Type} : Lit × DataW H → Nat
  | (.string bytes, d) => bytes.length + uptoBulk d + 1
  | (_, d) => uptoBulk d + 1
 end
def uptoSmall : (H : Type) → List (DataW H) → Bool := fun _ ds => decide (uptoBulkAll ds ≤ 1048576)
def OpenSpec.upto (s : _root_.Go.ChangeSpec) : _root_.Go.OpenSpec := { _root_.Go.OpenSpec.ofChange s with cond := some uptoSmall }

/-- 'casketlaw11.HeadEncodes', WHERE WHAT IT READS IS OF BULK AT MOST 1048576: true; the input reads as it did. -/
def headEncodesUptoRow : OpenClaim := { program := "ytlelgeigighecaadoor", sum := "a69db2dc8650b38ec415436e9cbd6c2cd2549b310bbc8a07d771305434fa5d87", func := "casket/casketlaw11.HeadEncodes", spec := "headEncodes", unfollowed := true, recurses := true, named := ["casket/sha.constants"], apart := false, laid := [("casket/sha.constants", laid_casket_sha_constants)], narrowed := true }
def HeadEncodesUptoSaid : Prop := headEncodesUptoRow.holds Tryd.pinned (OpenSpec.upto headEncodesSpec)

/-- 'casketlaw11.HeadDecodes', WHERE WHAT IT READS IS OF BULK AT MOST 1048576: true; the input reads as it did. -/
def headDecodesUptoRow : OpenClaim := { program := "ytlelgeigighecaadoor", sum := "a69db2dc8650b38ec415436e9cbd6c2cd2549b310bbc8a07d771305434fa5d87", func := "casket/casketlaw11.HeadDecodes", spec := "headDecodes", unfollowed := true, recurses := true, named := ["casket/sha.constants"], apart := false, laid := [("casket/sha.constants", laid_casket_sha_constants)], narrowed := true }
def HeadDecodesUptoSaid : Prop := headDecodesUptoRow.holds Tryd.pinned (OpenSpec.upto headDecodesSpec)

/-- 'casketlaw11.HeadParts', WHERE WHAT IT READS IS OF BULK AT MOST 1048576: true; the input reads as it did. -/
def headPartsUptoRow : OpenClaim := { program := "ytlelgeigighecaadoor", sum := "a69db2dc8650b38ec415436e9cbd6c2cd2549b310bbc8a07d771305434fa5d87", func := "casket/casketlaw11.HeadParts", spec := "headParts", unfollowed := true, recurses := true, named := ["casket/sha.constants"], apart := false, laid := [("casket/sha.constants", laid_casket_sha_constants)], narrowed := true }
def HeadPartsUptoSaid : Prop := headPartsUptoRow.holds Tryd.pinned (OpenSpec.upto headPartsSpec)

/-- 'casketlaw11.HeadChoose', WHERE WHAT IT READS IS OF BULK AT MOST 1048576: true; the input reads as it did. -/
def headChooseUptoRow : OpenClaim := { program := "ytlelgeigighecaadoor", sum := "a69db2dc8650b38ec415436e9cbd6c2cd2549b310bbc8a07d771305434fa5d87", func := "casket/casketlaw11.HeadChoose", spec := "headChoose", unfollowed := true, recurses := true, named := ["casket/sha.constants"], apart := false, laid := [("casket/sha.constants", laid_casket_sha_constants)], narrowed := true }
def HeadChooseUptoSaid : Prop := headChooseUptoRow.holds Tryd.pinned (OpenSpec.upto headChooseSpec)

/-- 'casketlaw11.HeadNewer', WHERE WHAT IT READS IS OF BULK AT MOST 1048576: true; the input reads as it did. -/
def headNewerUptoRow : OpenClaim := { program := "ytlelgeigighecaadoor", sum := "a69db2dc8650b38ec415436e9cbd6c2cd2549b310bbc8a07d771305434fa5d87", func := "casket/casketlaw11.HeadNewer", spec := "headNewer", unfollowed := true, recurses := true, named := ["casket/sha.constants"], apart := false, laid := [("casket/sha.constants", laid_casket_sha_constants)], narrowed := true }
def HeadNewerUptoSaid : Prop := headNewerUptoRow.holds Tryd.pinned (OpenSpec.upto headNewerSpec)

/-- 'casketlaw13.RecordBlocks', WHERE WHAT IT READS IS OF BULK AT MOST 1048576: true; the input reads as it did. -/
def recordBlocksUptoRow : OpenClaim := { program := "ytlelgeigighecaadoor", sum := "a69db2dc8650b38ec415436e9cbd6c2cd2549b310bbc8a07d771305434fa5d87", func := "casket/casketlaw13.RecordBlocks", spec := "recordBlocks", unfollowed := true, recurses := true, named := ["casket/sha.constants"], apart := false, laid := [("casket/sha.constants", laid_casket_sha_constants)], narrowed := true }
def RecordBlocksUptoSaid : Prop := recordBlocksUptoRow.holds Tryd.pinned (OpenSpec.upto recordBlocksSpec)

/-- 'casketlaw13.RecordParse', WHERE WHAT IT READS IS OF BULK AT MOST 1048576: true; the input reads as it did. -/
def recordParseUptoRow : OpenClaim := { program := "ytlelgeigighecaadoor", sum := "a69db2dc8650b38ec415436e9cbd6c2cd2549b310bbc8a07d771305434fa5d87", func := "casket/casketlaw13.RecordParse", spec := "recordParse", unfollowed := true, recurses := true, named := ["casket/sha.constants"], apart := false, laid := [("casket/sha.constants", laid_casket_sha_constants)], narrowed := true }
def RecordParseUptoSaid : Prop := recordParseUptoRow.holds Tryd.pinned (OpenSpec.upto recordParseSpec)

/-- 'casketlaw13.RecordMarks', WHERE WHAT IT READS IS OF BULK AT MOST 1048576: true; the input reads as it did. -/
def recordMarksUptoRow : OpenClaim := { program := "ytlelgeigighecaadoor", sum := "a69db2dc8650b38ec415436e9cbd6c2cd2549b310bbc8a07d771305434fa5d87", func := "casket/casketlaw13.RecordMarks", spec := "recordMarks", unfollowed := true, recurses := true, named := ["casket/sha.constants"], apart := false, laid := [("casket/sha.constants", laid_casket_sha_constants)], narrowed := true }
def RecordMarksUptoSaid : Prop := recordMarksUptoRow.holds Tryd.pinned (OpenSpec.upto recordMarksSpec)

/-- 'casketlaw13.RecordApart', WHERE WHAT IT READS IS OF BULK AT MOST 1048576: true; the input reads as it did. -/
def recordApartUptoRow : OpenClaim := { program := "ytlelgeigighecaadoor", sum := "a69db2dc8650b38ec415436e9cbd6c2cd2549b310bbc8a07d771305434fa5d87", func := "casket/casketlaw13.RecordApart", spec := "recordApart", unfollowed := true, recurses := true, named := ["casket/sha.constants"], apart := false, laid := [("casket/sha.constants", laid_casket_sha_constants)], narrowed := true }
def RecordApartUptoSaid : Prop := recordApartUptoRow.holds Tryd.pinned (OpenSpec.upto recordApartSpec)

/-- 'casketlaw13.RecordPlans', WHERE WHAT IT READS IS OF BULK AT MOST 1048576: true; the input reads as it did. -/
def recordPlansUptoRow : OpenClaim := { program := "ytlelgeigighecaadoor", sum := "a69db2dc8650b38ec415436e9cbd6c2cd2549b310bbc8a07d771305434fa5d87", func := "casket/casketlaw13.RecordPlans", spec := "recordPlans", unfollowed := true, recurses := true, named := ["casket/sha.constants"], apart := false, laid := [("casket/sha.constants", laid_casket_sha_constants)], narrowed := true }
def RecordPlansUptoSaid : Prop := recordPlansUptoRow.holds Tryd.pinned (OpenSpec.upto recordPlansSpec)

end Rows
end Go.Proofs.YtlelgeigighecaaDoor
