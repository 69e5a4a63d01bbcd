/-
  NARROWER THAN 'FOR EVERY INPUT', by the rows' own cells (each row's printed sentence says how): WriteExact: loops, laid · WriteUnlike: loops, laid · WriteNames: laid · ReadExact: laid · ReadRight: laid · ReadBehind: laid · ReadInner: laid · ReadLevels: laid · ReadSymbols: laid · WriteBack: loops, laid · WriteFixed: laid.
  DERIVED. THE GIVEN ROWS OF THIS SEAT. 11 by the template 'for every input the law returns true; each argument reads behind the call as it read before'; 0 by the template 'total and deterministic' (their statements: YtefjgpahgffmfaaDoorTotals.lean).
  GIVEN WITH THE SEED: the statements are not yours to turn. If you find one false, say at which input.
  Laid BY PROGRAM, IN A SANDBOX (cutbox-rows.mjs): the forced cells as the released guide's own fill.sh prints them over the translation aac7397780adf90f… (all of the seat's roots in one cut). By AI agents, Wed Nov 11 2026. No macro, syntax, notation, axiom, sorry.
-/
import Derived.Test.YtefjgpahgffmfaaDoorChecked
import GoSem.Claim
import GoSem.ClaimJoined
import GoSem.ClaimMapViews
import Derived.JoinedTies
import Derived.KernelRfl
namespace Go.Proofs.YtefjgpahgffmfaaDoor
/- THE CELL 'sum', in the pinned program and in every row, IS THE sha256 OF THE DUMP (.gsa) THAT YtefjgpahgffmfaaDoorProg.lean LOADS. Nothing in Lean hashes anything: it is a label: what it is worth is what the hold of that sum in a sandbox is worth. -/
noncomputable def Tryd.pinned : Pinned := { name := "ytefjgpahgffmfaadoor", sum := "aac7397780adf90ff74fbd4c4f66a9d9eaf51a1992508d765f64c29733da9e3b", checked := Tryd.checked }
namespace Rows
def none {H : Type} : Left H := { results := [], args := [] }

/- WHAT THE LISTED PACKAGE-LEVEL VARIABLES READ AS WHEN THE CALL BEGINS. Each datum BY PROGRAM (the guide's laid-datum.mjs) off the statement by which the dump's own 'gosem.cut.vars' lays the variable. In a bare row this is a premise. The card (YtefjgpahgffmfaaDoorCards.lean) ties it to the program's text. -/
def laid_math_bits_deBruijn32tab {H : Type} : DataW H := .agg [.lit (.int .u8 0), .lit (.int .u8 1), .lit (.int .u8 28), .lit (.int .u8 2), .lit (.int .u8 29), .lit (.int .u8 14), .lit (.int .u8 24), .lit (.int .u8 3), .lit (.int .u8 30), .lit (.int .u8 22), .lit (.int .u8 20), .lit (.int .u8 15), .lit (.int .u8 25), .lit (.int .u8 17), .lit (.int .u8 4), .lit (.int .u8 8), .lit (.int .u8 31), .lit (.int .u8 27), .lit (.int .u8 13), .lit (.int .u8 23), .lit (.int .u8 21), .lit (.int .u8 19), .lit (.int .u8 16), .lit (.int .u8 7), .lit (.int .u8 26), .lit (.int .u8 12), .lit (.int .u8 18), .lit (.int .u8 6), .lit (.int .u8 11), .lit (.int .u8 5), .lit (.int .u8 10), .lit (.int .u8 9)]
def laid_math_bits_deBruijn64tab {H : Type} : DataW H := .agg [.lit (.int .u8 0), .lit (.int .u8 1), .lit (.int .u8 56), .lit (.int .u8 2), .lit (.int .u8 57), .lit (.int .u8 49), .lit (.int .u8 28), .lit (.int .u8 3), .lit (.int .u8 61), .lit (.int .u8 58), .lit (.int .u8 42), .lit (.int .u8 50), .lit (.int .u8 38), .lit (.int .u8 29), .lit (.int .u8 17), .lit (.int .u8 4), .lit (.int .u8 62), .lit (.int .u8 47), .lit (.int .u8 59), .lit (.int .u8 36), .lit (.int .u8 45), .lit (.int .u8 43), .lit (.int .u8 51), .lit (.int .u8 22), .lit (.int .u8 53), .lit (.int .u8 39), .lit (.int .u8 33), .lit (.int .u8 30), .lit (.int .u8 24), .lit (.int .u8 18), .lit (.int .u8 12), .lit (.int .u8 5), .lit (.int .u8 63), .lit (.int .u8 55), .lit (.int .u8 48), .lit (.int .u8 27), .lit (.int .u8 60), .lit (.int .u8 41), .lit (.int .u8 37), .lit (.int .u8 16), .lit (.int .u8 46), .lit (.int .u8 35), .lit (.int .u8 44), .lit (.int .u8 21), .lit (.int .u8 52), .lit (.int .u8 32), .lit (.int .u8 23), .lit (.int .u8 11), .lit (.int .u8 54), .lit (.int .u8 26), .lit (.int .u8 40), .lit (.int .u8 15), .lit (.int .u8 34), .lit (.int .u8 20), .lit (.int .u8 31), .lit (.int .u8 10), .lit (.int .u8 25), .lit (.int .u8 14), .lit (.int .u8 19), .lit (.int .u8 9), .lit (.int .u8 13), .lit (.int .u8 8), .lit (.int .u8 7), .lit (.int .u8 6)]
def laid_internal_strconv_uint64pow10 {H : Type} : DataW H := .agg [.lit (.int .u64 1), .lit (.int .u64 10), .lit (.int .u64 100), .lit (.int .u64 1000), .lit (.int .u64 10000), .lit (.int .u64 100000), .lit (.int .u64 1000000), .lit (.int .u64 10000000), .lit (.int .u64 100000000), .lit (.int .u64 1000000000), .lit (.int .u64 10000000000), .lit (.int .u64 100000000000), .lit (.int .u64 1000000000000), .lit (.int .u64 10000000000000), .lit (.int .u64 100000000000000), .lit (.int .u64 1000000000000000), .lit (.int .u64 10000000000000000), .lit (.int .u64 100000000000000000), .lit (.int .u64 1000000000000000000), .lit (.int .u64 10000000000000000000)]

/-- 'transhiplaw10.WriteExact': WHATEVER THE INPUT: true; the input reads as it did. -/
def writeExactSpec : ChangeSpec := { name := "writeExact", fn := fun _ => fun
  | [d1, d2] => { results := [.lit (.bool true)], args := [d1, d2] }
  | _ => none }
def writeExactRow : OpenClaim := { program := "ytefjgpahgffmfaadoor", sum := "aac7397780adf90ff74fbd4c4f66a9d9eaf51a1992508d765f64c29733da9e3b", func := "tranship/transhiplaw10.WriteExact", spec := "writeExact", inPlace := ["internal/abi.NoEscape"], recurses := true, named := ["internal/strconv.uint64pow10", "math/bits.deBruijn32tab", "math/bits.deBruijn64tab"], loops := true, apart := false, laid := [("math/bits.deBruijn32tab", laid_math_bits_deBruijn32tab), ("math/bits.deBruijn64tab", laid_math_bits_deBruijn64tab), ("internal/strconv.uint64pow10", laid_internal_strconv_uint64pow10)] }
def WriteExactSaid : Prop := writeExactRow.holds Tryd.pinned (OpenSpec.ofChange writeExactSpec)

/-- ITS FALSE NEIGHBOUR: 'it returns false'. Refute it at one input. -/
def writeExactWrong : ChangeSpec := { name := "writeExact", fn := fun _ => fun
  | [d1, d2] => { results := [.lit (.bool false)], args := [d1, d2] }
  | _ => none }
def WriteExactWrongFalsely : Prop := writeExactRow.holds Tryd.pinned (OpenSpec.ofChange writeExactWrong)

/-- 'transhiplaw10.WriteUnlike': WHATEVER THE INPUT: true; the input reads as it did. -/
def writeUnlikeSpec : ChangeSpec := { name := "writeUnlike", fn := fun _ => fun
  | [d1, d2, d3] => { results := [.lit (.bool true)], args := [d1, d2, d3] }
  | _ => none }
def writeUnlikeRow : OpenClaim := { program := "ytefjgpahgffmfaadoor", sum := "aac7397780adf90ff74fbd4c4f66a9d9eaf51a1992508d765f64c29733da9e3b", func := "tranship/transhiplaw10.WriteUnlike", spec := "writeUnlike", inPlace := ["internal/abi.NoEscape"], recurses := true, named := ["internal/strconv.uint64pow10", "math/bits.deBruijn32tab", "math/bits.deBruijn64tab"], loops := true, apart := false, laid := [("math/bits.deBruijn32tab", laid_math_bits_deBruijn32tab), ("math/bits.deBruijn64tab", laid_math_bits_deBruijn64tab), ("internal/strconv.uint64pow10", laid_internal_strconv_uint64pow10)] }
def WriteUnlikeSaid : Prop := writeUnlikeRow.holds Tryd.pinned (OpenSpec.ofChange writeUnlikeSpec)

/-- ITS FALSE NEIGHBOUR: 'it returns false'. Refute it at one input. -/
def writeUnlikeWrong : ChangeSpec := { name := "writeUnlike", fn := fun _ => fun
  | [d1, d2, d3] => { results := [.lit (.bool false)], args := [d1, d2, d3] }
  | _ => none }
def WriteUnlikeWrongFalsely : Prop := writeUnlikeRow.holds Tryd.pinned (OpenSpec.ofChange writeUnlikeWrong)

/-- 'transhiplaw10.WriteNames': WHATEVER THE INPUT: true; the input reads as it did. -/
def writeNamesSpec : ChangeSpec := { name := "writeNames", fn := fun _ => fun
  | [d] => { results := [.lit (.bool true)], args := [d] }
  | _ => none }
def writeNamesRow : OpenClaim := { program := "ytefjgpahgffmfaadoor", sum := "aac7397780adf90ff74fbd4c4f66a9d9eaf51a1992508d765f64c29733da9e3b", func := "tranship/transhiplaw10.WriteNames", spec := "writeNames", inPlace := ["internal/abi.NoEscape"], recurses := true, named := ["internal/strconv.uint64pow10", "math/bits.deBruijn32tab", "math/bits.deBruijn64tab"], apart := false, laid := [("math/bits.deBruijn32tab", laid_math_bits_deBruijn32tab), ("math/bits.deBruijn64tab", laid_math_bits_deBruijn64tab), ("internal/strconv.uint64pow10", laid_internal_strconv_uint64pow10)] }
def WriteNamesSaid : Prop := writeNamesRow.holds Tryd.pinned (OpenSpec.ofChange writeNamesSpec)

/-- ITS FALSE NEIGHBOUR: 'it returns false'. Refute it at one input. -/
def writeNamesWrong : ChangeSpec := { name := "writeNames", fn := fun _ => fun
  | [d] => { results := [.lit (.bool false)], args := [d] }
  | _ => none }
def WriteNamesWrongFalsely : Prop := writeNamesRow.holds Tryd.pinned (OpenSpec.ofChange writeNamesWrong)

/-- 'transhiplaw09.ReadExact': WHATEVER THE INPUT: true; the input reads as it did. -/
def readExactSpec : ChangeSpec := { name := "readExact", fn := fun _ => fun
  | [d1, d2, d3, d4] => { results := [.lit (.bool true)], args := [d1, d2, d3, d4] }
  | _ => none }
def readExactRow : OpenClaim := { program := "ytefjgpahgffmfaadoor", sum := "aac7397780adf90ff74fbd4c4f66a9d9eaf51a1992508d765f64c29733da9e3b", func := "tranship/transhiplaw09.ReadExact", spec := "readExact", recurses := true, named := ["internal/strconv.uint64pow10", "math/bits.deBruijn32tab", "math/bits.deBruijn64tab"], apart := false, laid := [("math/bits.deBruijn32tab", laid_math_bits_deBruijn32tab), ("math/bits.deBruijn64tab", laid_math_bits_deBruijn64tab), ("internal/strconv.uint64pow10", laid_internal_strconv_uint64pow10)] }
def ReadExactSaid : Prop := readExactRow.holds Tryd.pinned (OpenSpec.ofChange readExactSpec)

/-- ITS FALSE NEIGHBOUR: 'it returns false'. Refute it at one input. -/
def readExactWrong : ChangeSpec := { name := "readExact", fn := fun _ => fun
  | [d1, d2, d3, d4] => { results := [.lit (.bool false)], args := [d1, d2, d3, d4] }
  | _ => none }
def ReadExactWrongFalsely : Prop := readExactRow.holds Tryd.pinned (OpenSpec.ofChange readExactWrong)

/-- 'transhiplaw09.ReadRight': WHATEVER THE INPUT: true; the input reads as it did. -/
def readRightSpec : ChangeSpec := { name := "readRight", fn := fun _ => fun
  | [d1, d2, d3, d4] => { results := [.lit (.bool true)], args := [d1, d2, d3, d4] }
  | _ => none }
def readRightRow : OpenClaim := { program := "ytefjgpahgffmfaadoor", sum := "aac7397780adf90ff74fbd4c4f66a9d9eaf51a1992508d765f64c29733da9e3b", func := "tranship/transhiplaw09.ReadRight", spec := "readRight", recurses := true, named := ["internal/strconv.uint64pow10", "math/bits.deBruijn32tab", "math/bits.deBruijn64tab"], apart := false, laid := [("math/bits.deBruijn32tab", laid_math_bits_deBruijn32tab), ("math/bits.deBruijn64tab", laid_math_bits_deBruijn64tab), ("internal/strconv.uint64pow10", laid_internal_strconv_uint64pow10)] }
def ReadRightSaid : Prop := readRightRow.holds Tryd.pinned (OpenSpec.ofChange readRightSpec)

/-- ITS FALSE NEIGHBOUR: 'it returns false'. Refute it at one input. -/
def readRightWrong : ChangeSpec := { name := "readRight", fn := fun _ => fun
  | [d1, d2, d3, d4] => { results := [.lit (.bool false)], args := [d1, d2, d3, d4] }
  | _ => none }
def ReadRightWrongFalsely : Prop := readRightRow.holds Tryd.pinned (OpenSpec.ofChange readRightWrong)

/-- 'transhiplaw09.ReadBehind': WHATEVER THE INPUT: true; the input reads as it did. -/
def readBehindSpec : ChangeSpec := { name := "readBehind", fn := fun _ => fun
  | [d1, d2, d3] => { results := [.lit (.bool true)], args := [d1, d2, d3] }
  | _ => none }
def readBehindRow : OpenClaim := { program := "ytefjgpahgffmfaadoor", sum := "aac7397780adf90ff74fbd4c4f66a9d9eaf51a1992508d765f64c29733da9e3b", func := "tranship/transhiplaw09.ReadBehind", spec := "readBehind", recurses := true, named := ["internal/strconv.uint64pow10", "math/bits.deBruijn32tab", "math/bits.deBruijn64tab"], apart := false, laid := [("math/bits.deBruijn32tab", laid_math_bits_deBruijn32tab), ("math/bits.deBruijn64tab", laid_math_bits_deBruijn64tab), ("internal/strconv.uint64pow10", laid_internal_strconv_uint64pow10)] }
def ReadBehindSaid : Prop := readBehindRow.holds Tryd.pinned (OpenSpec.ofChange readBehindSpec)

/-- ITS FALSE NEIGHBOUR: 'it returns false'. Refute it at one input. -/
def readBehindWrong : ChangeSpec := { name := "readBehind", fn := fun _ => fun
  | [d1, d2, d3] => { results := [.lit (.bool false)], args := [d1, d2, d3] }
  | _ => none }
def ReadBehindWrongFalsely : Prop := readBehindRow.holds Tryd.pinned (OpenSpec.ofChange readBehindWrong)

/-- 'transhiplaw09.ReadInner': WHATEVER THE INPUT: true; the input reads as it did. -/
def readInnerSpec : ChangeSpec := { name := "readInner", fn := fun _ => fun
  | [d1, d2] => { results := [.lit (.bool true)], args := [d1, d2] }
  | _ => none }
def readInnerRow : OpenClaim := { program := "ytefjgpahgffmfaadoor", sum := "aac7397780adf90ff74fbd4c4f66a9d9eaf51a1992508d765f64c29733da9e3b", func := "tranship/transhiplaw09.ReadInner", spec := "readInner", recurses := true, named := ["internal/strconv.uint64pow10", "math/bits.deBruijn32tab", "math/bits.deBruijn64tab"], apart := false, laid := [("math/bits.deBruijn32tab", laid_math_bits_deBruijn32tab), ("math/bits.deBruijn64tab", laid_math_bits_deBruijn64tab), ("internal/strconv.uint64pow10", laid_internal_strconv_uint64pow10)] }
def ReadInnerSaid : Prop := readInnerRow.holds Tryd.pinned (OpenSpec.ofChange readInnerSpec)

/-- ITS FALSE NEIGHBOUR: 'it returns false'. Refute it at one input. -/
def readInnerWrong : ChangeSpec := { name := "readInner", fn := fun _ => fun
  | [d1, d2] => { results := [.lit (.bool false)], args := [d1, d2] }
  | _ => none }
def ReadInnerWrongFalsely : Prop := readInnerRow.holds Tryd.pinned (OpenSpec.ofChange readInnerWrong)

/-- 'transhiplaw09.ReadLevels': WHATEVER THE INPUT: true; the input reads as it did. -/
def readLevelsSpec : ChangeSpec := { name := "readLevels", fn := fun _ => fun
  | [d1, d2, d3, d4] => { results := [.lit (.bool true)], args := [d1, d2, d3, d4] }
  | _ => none }
def readLevelsRow : OpenClaim := { program := "ytefjgpahgffmfaadoor", sum := "aac7397780adf90ff74fbd4c4f66a9d9eaf51a1992508d765f64c29733da9e3b", func := "tranship/transhiplaw09.ReadLevels", spec := "readLevels", recurses := true, named := ["internal/strconv.uint64pow10", "math/bits.deBruijn32tab", "math/bits.deBruijn64tab"], apart := false, laid := [("math/bits.deBruijn32tab", laid_math_bits_deBruijn32tab), ("math/bits.deBruijn64tab", laid_math_bits_deBruijn64tab), ("internal/strconv.uint64pow10", laid_internal_strconv_uint64pow10)] }
def ReadLevelsSaid : Prop := readLevelsRow.holds Tryd.pinned (OpenSpec.ofChange readLevelsSpec)

/-- ITS FALSE NEIGHBOUR: 'it returns false'. Refute it at one input. -/
def readLevelsWrong : ChangeSpec := { name := "readLevels", fn := fun _ => fun
  | [d1, d2, d3, d4] => { results := [.lit (.bool false)], args := [d1, d2, d3, d4] }
  | _ => none }
def ReadLevelsWrongFalsely : Prop := readLevelsRow.holds Tryd.pinned (OpenSpec.ofChange readLevelsWrong)

/-- 'transhiplaw09.ReadSymbols': WHATEVER THE INPUT: true; the input reads as it did. -/
def readSymbolsSpec : ChangeSpec := { name := "readSymbols", fn := fun _ => fun
  | [d1, d2] => { results := [.lit (.bool true)], args := [d1, d2] }
  | _ => none }
def readSymbolsRow : OpenClaim := { program := "ytefjgpahgffmfaadoor", sum := "aac7397780adf90ff74fbd4c4f66a9d9eaf51a1992508d765f64c29733da9e3b", func := "tranship/transhiplaw09.ReadSymbols", spec := "readSymbols", recurses := true, named := ["internal/strconv.uint64pow10", "math/bits.deBruijn32tab", "math/bits.deBruijn64tab"], apart := false, laid := [("math/bits.deBruijn32tab", laid_math_bits_deBruijn32tab), ("math/bits.deBruijn64tab", laid_math_bits_deBruijn64tab), ("internal/strconv.uint64pow10", laid_internal_strconv_uint64pow10)] }
def ReadSymbolsSaid : Prop := readSymbolsRow.holds Tryd.pinned (OpenSpec.ofChange readSymbolsSpec)

/-- ITS FALSE NEIGHBOUR: 'it returns false'. Refute it at one input. -/
def readSymbolsWrong : ChangeSpec := { name := "readSymbols", fn := fun _ => fun
  | [d1, d2] => { results := [.lit (.bool false)], args := [d1, d2] }
  | _ => none }
def ReadSymbolsWrongFalsely : Prop := readSymbolsRow.holds Tryd.pinned (OpenSpec.ofChange readSymbolsWrong)

/-- 'transhiplaw10.WriteBack': WHATEVER THE INPUT: true; the input reads as it did. -/
def writeBackSpec : ChangeSpec := { name := "writeBack", fn := fun _ => fun
  | [d1, d2] => { results := [.lit (.bool true)], args := [d1, d2] }
  | _ => none }
def writeBackRow : OpenClaim := { program := "ytefjgpahgffmfaadoor", sum := "aac7397780adf90ff74fbd4c4f66a9d9eaf51a1992508d765f64c29733da9e3b", func := "tranship/transhiplaw10.WriteBack", spec := "writeBack", inPlace := ["internal/abi.NoEscape"], recurses := true, named := ["internal/strconv.uint64pow10", "math/bits.deBruijn32tab", "math/bits.deBruijn64tab"], loops := true, apart := false, laid := [("math/bits.deBruijn32tab", laid_math_bits_deBruijn32tab), ("math/bits.deBruijn64tab", laid_math_bits_deBruijn64tab), ("internal/strconv.uint64pow10", laid_internal_strconv_uint64pow10)] }
def WriteBackSaid : Prop := writeBackRow.holds Tryd.pinned (OpenSpec.ofChange writeBackSpec)

/-- ITS FALSE NEIGHBOUR: 'it returns false'. Refute it at one input. -/
def writeBackWrong : ChangeSpec := { name := "writeBack", fn := fun _ => fun
  | [d1, d2] => { results := [.lit (.bool false)], args := [d1, d2] }
  | _ => none }
def WriteBackWrongFalsely : Prop := writeBackRow.holds Tryd.pinned (OpenSpec.ofChange writeBackWrong)

/-- 'transhiplaw10.WriteFixed': WHATEVER THE INPUT: true; the input reads as it did. -/
def writeFixedSpec : ChangeSpec := { name := "writeFixed", fn := fun _ => fun
  | [d1, d2] => { results := [.lit (.bool true)], args := [d1, d2] }
  | _ => none }
def writeFixedRow : OpenClaim := { program := "ytefjgpahgffmfaadoor", sum := "aac7397780adf90ff74fbd4c4f66a9d9eaf51a1992508d765f64c29733da9e3b", func := "tranship/transhiplaw10.WriteFixed", spec := "writeFixed", inPlace := ["internal/abi.NoEscape"], recurses := true, named := ["internal/strconv.uint64pow10", "math/bits.deBruijn32tab", "math/bits.deBruijn64tab"], apart := false, laid := [("math/bits.deBruijn32tab", laid_math_bits_deBruijn32tab), ("math/bits.deBruijn64tab", laid_math_bits_deBruijn64tab), ("internal/strconv.uint64pow10", laid_internal_strconv_uint64pow10)] }
def WriteFixedSaid : Prop := writeFixedRow.holds Tryd.pinned (OpenSpec.ofChange writeFixedSpec)

/-- ITS FALSE NEIGHBOUR: 'it returns false'. Refute it at one input. -/
def writeFixedWrong : ChangeSpec := { name := "writeFixed", fn := fun _ => fun
  | [d1, d2] => { results := [.lit (.bool false)], args := [d1, d2] }
  | _ => none }
def WriteFixedWrongFalsely : Prop := writeFixedRow.holds Tryd.pinned (OpenSpec.ofChange writeFixedWrong)

/- THE SECOND FORM. 'bulk': how many values and letters a reading holds, each counted each time it is reached (what is shared counts as often as it is met; a slice's spare places count too). A statement '..UptoSaid' is the law's where the arguments, and the package variables that the reading takes, are together of bulk at most 1048576: NARROWER than '..Said'. Prove '..Said' where nothing that the law and all that it calls make is longer than what came in: it says more and counts as full. Else prove '..UptoSaid'. A law counts once. -/
mutual
def uptoBulk {H : Type} : DataW H → Nat
  | .lit (.string bytes) => bytes.length + 1
  | .lit _ => 1
  | .nil => 1
  | .ptr d => uptoBulk d + 1
  | .slice elems spare => uptoBulkAll elems + uptoBulkAll spare + 1
  | .agg parts => uptoBulkAll parts + 1
  | .iface _ d => uptoBulk d + 1
  | .map entries => uptoBulkEntries entries + 1
  | .held _ => 1
def uptoBulkAll {H : Type} : List (DataW H) → Nat
  | [] => 0
  | d :: r => uptoBulk d + uptoBulkAll r
def uptoBulkEntries {H : Type} : List (Lit × DataW H) → Nat
  | [] => 0
  | x :: r => uptoBulkEntry x + uptoBulkEntries r
def uptoBulkEntry {H : Type} : Lit × DataW H → Nat
  | (.string bytes, d) => bytes.length + uptoBulk d + 1
  | (_, d) => uptoBulk d + 1
 end
def uptoSmall : (H : Type) → List (DataW H) → Bool := fun _ ds => decide (uptoBulkAll ds ≤ 1048576)
def OpenSpec.upto (s : _root_.Go.ChangeSpec) : _root_.Go.OpenSpec := { _root_.Go.OpenSpec.ofChange s with cond := some uptoSmall }

/-- 'transhiplaw10.WriteExact', WHERE WHAT IT READS IS OF BULK AT MOST 1048576: true; the input reads as it did. -/
def writeExactUptoRow : OpenClaim := { program := "ytefjgpahgffmfaadoor", sum := "aac7397780adf90ff74fbd4c4f66a9d9eaf51a1992508d765f64c29733da9e3b", func := "tranship/transhiplaw10.WriteExact", spec := "writeExact", inPlace := ["internal/abi.NoEscape"], recurses := true, named := ["internal/strconv.uint64pow10", "math/bits.deBruijn32tab", "math/bits.deBruijn64tab"], loops := true, apart := false, laid := [("math/bits.deBruijn32tab", laid_math_bits_deBruijn32tab), ("math/bits.deBruijn64tab", laid_math_bits_deBruijn64tab), ("internal/strconv.uint64pow10", laid_internal_strconv_uint64pow10)], narrowed := true }
def WriteExactUptoSaid : Prop := writeExactUptoRow.holds Tryd.pinned (OpenSpec.upto writeExactSpec)

/-- 'transhiplaw10.WriteUnlike', WHERE WHAT IT READS IS OF BULK AT MOST 1048576: true; the input reads as it did. -/
def writeUnlikeUptoRow : OpenClaim := { program := "ytefjgpahgffmfaadoor", sum := "aac7397780adf90ff74fbd4c4f66a9d9eaf51a1992508d765f64c29733da9e3b", func := "tranship/transhiplaw10.WriteUnlike", spec := "writeUnlike", inPlace := ["internal/abi.NoEscape"], recurses := true, named := ["internal/strconv.uint64pow10", "math/bits.deBruijn32tab", "math/bits.deBruijn64tab"], loops := true, apart := false, laid := [("math/bits.deBruijn32tab", laid_math_bits_deBruijn32tab), ("math/bits.deBruijn64tab", laid_math_bits_deBruijn64tab), ("internal/strconv.uint64pow10", laid_internal_strconv_uint64pow10)], narrowed := true }
def WriteUnlikeUptoSaid : Prop := writeUnlikeUptoRow.holds Tryd.pinned (OpenSpec.upto writeUnlikeSpec)

/-- 'transhiplaw10.WriteNames', WHERE WHAT IT READS IS OF BULK AT MOST 1048576: true; the input reads as it did. -/
def writeNamesUptoRow : OpenClaim := { program := "ytefjgpahgffmfaadoor", sum := "aac7397780adf90ff74fbd4c4f66a9d9eaf51a1992508d765f64c29733da9e3b", func := "tranship/transhiplaw10.WriteNames", spec := "writeNames", inPlace := ["internal/abi.NoEscape"], recurses := true, named := ["internal/strconv.uint64pow10", "math/bits.deBruijn32tab", "math/bits.deBruijn64tab"], apart := false, laid := [("math/bits.deBruijn32tab", laid_math_bits_deBruijn32tab), ("math/bits.deBruijn64tab", laid_math_bits_deBruijn64tab), ("internal/strconv.uint64pow10", laid_internal_strconv_uint64pow10)], narrowed := true }
def WriteNamesUptoSaid : Prop := writeNamesUptoRow.holds Tryd.pinned (OpenSpec.upto writeNamesSpec)

/-- 'transhiplaw09.ReadExact', WHERE WHAT IT READS IS OF BULK AT MOST 1048576: true; the input reads as it did. -/
def readExactUptoRow : OpenClaim := { program := "ytefjgpahgffmfaadoor", sum := "aac7397780adf90ff74fbd4c4f66a9d9eaf51a1992508d765f64c29733da9e3b", func := "tranship/transhiplaw09.ReadExact", spec := "readExact", recurses := true, named := ["internal/strconv.uint64pow10", "math/bits.deBruijn32tab", "math/bits.deBruijn64tab"], apart := false, laid := [("math/bits.deBruijn32tab", laid_math_bits_deBruijn32tab), ("math/bits.deBruijn64tab", laid_math_bits_deBruijn64tab), ("internal/strconv.uint64pow10", laid_internal_strconv_uint64pow10)], narrowed := true }
def ReadExactUptoSaid : Prop := readExactUptoRow.holds Tryd.pinned (OpenSpec.upto readExactSpec)

/-- 'transhiplaw09.ReadRight', WHERE WHAT IT READS IS OF BULK AT MOST 1048576: true; the input reads as it did. -/
def readRightUptoRow : OpenClaim := { program := "ytefjgpahgffmfaadoor", sum := "aac7397780adf90ff74fbd4c4f66a9d9eaf51a1992508d765f64c29733da9e3b", func := "tranship/transhiplaw09.ReadRight", spec := "readRight", recurses := true, named := ["internal/strconv.uint64pow10", "math/bits.deBruijn32tab", "math/bits.deBruijn64tab"], apart := false, laid := [("math/bits.deBruijn32tab", laid_math_bits_deBruijn32tab), ("math/bits.deBruijn64tab", laid_math_bits_deBruijn64tab), ("internal/strconv.uint64pow10", laid_internal_strconv_uint64pow10)], narrowed := true }
def ReadRightUptoSaid : Prop := readRightUptoRow.holds Tryd.pinned (OpenSpec.upto readRightSpec)

/-- 'transhiplaw09.ReadBehind', WHERE WHAT IT READS IS OF BULK AT MOST 1048576: true; the input reads as it did. -/
def readBehindUptoRow : OpenClaim := { program := "ytefjgpahgffmfaadoor", sum := "aac7397780adf90ff74fbd4c4f66a9d9eaf51a1992508d765f64c29733da9e3b", func := "tranship/transhiplaw09.ReadBehind", spec := "readBehind", recurses := true, named := ["internal/strconv.uint64pow10", "math/bits.deBruijn32tab", "math/bits.deBruijn64tab"], apart := false, laid := [("math/bits.deBruijn32tab", laid_math_bits_deBruijn32tab), ("math/bits.deBruijn64tab", laid_math_bits_deBruijn64tab), ("internal/strconv.uint64pow10", laid_internal_strconv_uint64pow10)], narrowed := true }
def ReadBehindUptoSaid : Prop := readBehindUptoRow.holds Tryd.pinned (OpenSpec.upto readBehindSpec)

/-- 'transhiplaw09.ReadInner', WHERE WHAT IT READS IS OF BULK AT MOST 1048576: true; the input reads as it did. -/
def readInnerUptoRow : OpenClaim := { program := "ytefjgpahgffmfaadoor", sum := "aac7397780adf90ff74fbd4c4f66a9d9eaf51a1992508d765f64c29733da9e3b", func := "tranship/transhiplaw09.ReadInner", spec := "readInner", recurses := true, named := ["internal/strconv.uint64pow10", "math/bits.deBruijn32tab", "math/bits.deBruijn64tab"], apart := false, laid := [("math/bits.deBruijn32tab", laid_math_bits_deBruijn32tab), ("math/bits.deBruijn64tab", laid_math_bits_deBruijn64tab), ("internal/strconv.uint64pow10", laid_internal_strconv_uint64pow10)], narrowed := true }
def ReadInnerUptoSaid : Prop := readInnerUptoRow.holds Tryd.pinned (OpenSpec.upto readInnerSpec)

/-- 'transhiplaw09.ReadLevels', WHERE WHAT IT READS IS OF BULK AT MOST 1048576: true; the input reads as it did. -/
def readLevelsUptoRow : OpenClaim := { program := "ytefjgpahgffmfaadoor", sum := "aac7397780adf90ff74fbd4c4f66a9d9eaf51a1992508d765f64c29733da9e3b", func := "tranship/transhiplaw09.ReadLevels", spec := "readLevels", recurses := true, named := ["internal/strconv.uint64pow10", "math/bits.deBruijn32tab", "math/bits.deBruijn64tab"], apart := false, laid := [("math/bits.deBruijn32tab", laid_math_bits_deBruijn32tab), ("math/bits.deBruijn64tab", laid_math_bits_deBruijn64tab), ("internal/strconv.uint64pow10", laid_internal_strconv_uint64pow10)], narrowed := true }
def ReadLevelsUptoSaid : Prop := readLevelsUptoRow.holds Tryd.pinned (OpenSpec.upto readLevelsSpec)

/-- 'transhiplaw09.ReadSymbols', WHERE WHAT IT READS IS OF BULK AT MOST 1048576: true; the input reads as it did. -/
def readSymbolsUptoRow : OpenClaim := { program := "ytefjgpahgffmfaadoor", sum := "aac7397780adf90ff74fbd4c4f66a9d9eaf51a1992508d765f64c29733da9e3b", func := "tranship/transhiplaw09.ReadSymbols", spec := "readSymbols", recurses := true, named := ["internal/strconv.uint64pow10", "math/bits.deBruijn32tab", "math/bits.deBruijn64tab"], apart := false, laid := [("math/bits.deBruijn32tab", laid_math_bits_deBruijn32tab), ("math/bits.deBruijn64tab", laid_math_bits_deBruijn64tab), ("internal/strconv.uint64pow10", laid_internal_strconv_uint64pow10)], narrowed := true }
def ReadSymbolsUptoSaid : Prop := readSymbolsUptoRow.holds Tryd.pinned (OpenSpec.upto readSymbolsSpec)

/-- 'transhiplaw10.WriteBack', WHERE WHAT IT READS IS OF BULK AT MOST 1048576: true; the input reads as it did. -/
def writeBackUptoRow : OpenClaim := { program := "ytefjgpahgffmfaadoor", sum := "aac7397780adf90ff74fbd4c4f66a9d9eaf51a1992508d765f64c29733da9e3b", func := "tranship/transhiplaw10.WriteBack", spec := "writeBack", inPlace := ["internal/abi.NoEscape"], recurses := true, named := ["internal/strconv.uint64pow10", "math/bits.deBruijn32tab", "math/bits.deBruijn64tab"], loops := true, apart := false, laid := [("math/bits.deBruijn32tab", laid_math_bits_deBruijn32tab), ("math/bits.deBruijn64tab", laid_math_bits_deBruijn64tab), ("internal/strconv.uint64pow10", laid_internal_strconv_uint64pow10)], narrowed := true }
def WriteBackUptoSaid : Prop := writeBackUptoRow.holds Tryd.pinned (OpenSpec.upto writeBackSpec)

/-- 'transhiplaw10.WriteFixed', WHERE WHAT IT READS IS OF BULK AT MOST 1048576: true; the input reads as it did. -/
def writeFixedUptoRow : OpenClaim := { program := "ytefjgpahgffmfaadoor", sum := "aac7397780adf90ff74fbd4c4f66a9d9eaf51a1992508d765f64c29733da9e3b", func := "tranship/transhiplaw10.WriteFixed", spec := "writeFixed", inPlace := ["internal/abi.NoEscape"], recurses := true, named := ["internal/strconv.uint64pow10", "math/bits.deBruijn32tab", "math/bits.deBruijn64tab"], apart := false, laid := [("math/bits.deBruijn32tab", laid_math_bits_deBruijn32tab), ("math/bits.deBruijn64tab", laid_math_bits_deBruijn64tab), ("internal/strconv.uint64pow10", laid_internal_strconv_uint64pow10)], narrowed := true }
def WriteFixedUptoSaid : Prop := writeFixedUptoRow.holds Tryd.pinned (OpenSpec.upto writeFixedSpec)

end Rows
end Go.Proofs.YtefjgpahgffmfaaDoor
