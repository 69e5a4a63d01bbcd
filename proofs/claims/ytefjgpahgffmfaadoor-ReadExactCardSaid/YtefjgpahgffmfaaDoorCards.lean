/-
  DERIVED. GIVEN WITH THE SEED: THE CARDS: each row of YtefjgpahgffmfaaDoorRows.lean that lists a variable, with what it lists TIED to the program's text (the seventh form; the later family's looks); each row that meets fmt, with fmt's text TOLD by the authors' own Lean function (tested against real Go, not proved from fmt's source: count such statements apart). THE CARD IS WHAT COUNTS. Prove the row's statement (the work); the ties are given (YtefjgpahgffmfaaDoorTie.lean); close each card by the builder's one call (the guide's Derived/Test/ToyasCard.lean, 'card_holds'). Laid BY PROGRAM, IN A SANDBOX (cutbox-door.mjs). By AI agents, Wed Nov 11 2026. No macro, syntax, notation, axiom, sorry.
-/
import Derived.Test.YtefjgpahgffmfaaDoorRows
import GoSem.ClaimSeven
namespace Go.Proofs.YtefjgpahgffmfaaDoor
namespace Rows

/-- THE TIED CARD OF 'transhiplaw10.WriteExact'. -/
def writeExactCard : Claim7 := { stood := { row := writeExactRow, standIns := [], harness := (true, "488ca4a19494b6fe71ace8426bb594764facd045fc7b1991042c4395df009f61"), looks := false }, kinds := [], alts := [], laidByText := true, laidKinds := [.data, .data, .data], laidTests := true, laidLooks := .later }
def WriteExactCardSaid : Prop := Claim7.holds Tryd.pinned (.plain (OpenSpec.ofChange writeExactSpec)) writeExactCard

/-- THE TIED CARD OF 'transhiplaw10.WriteUnlike'. -/
def writeUnlikeCard : Claim7 := { stood := { row := writeUnlikeRow, standIns := [], harness := (true, "488ca4a19494b6fe71ace8426bb594764facd045fc7b1991042c4395df009f61"), looks := false }, kinds := [], alts := [], laidByText := true, laidKinds := [.data, .data, .data], laidTests := true, laidLooks := .later }
def WriteUnlikeCardSaid : Prop := Claim7.holds Tryd.pinned (.plain (OpenSpec.ofChange writeUnlikeSpec)) writeUnlikeCard

/-- THE TIED CARD OF 'transhiplaw10.WriteNames'. -/
def writeNamesCard : Claim7 := { stood := { row := writeNamesRow, standIns := [], harness := (true, "488ca4a19494b6fe71ace8426bb594764facd045fc7b1991042c4395df009f61"), looks := false }, kinds := [], alts := [], laidByText := true, laidKinds := [.data, .data, .data], laidTests := true, laidLooks := .later }
def WriteNamesCardSaid : Prop := Claim7.holds Tryd.pinned (.plain (OpenSpec.ofChange writeNamesSpec)) writeNamesCard

/-- THE TIED CARD OF 'transhiplaw09.ReadExact'. -/
def readExactCard : Claim7 := { stood := { row := readExactRow, standIns := [], harness := (true, "488ca4a19494b6fe71ace8426bb594764facd045fc7b1991042c4395df009f61"), looks := false }, kinds := [], alts := [], laidByText := true, laidKinds := [.data, .data, .data], laidTests := true, laidLooks := .later }
def ReadExactCardSaid : Prop := Claim7.holds Tryd.pinned (.plain (OpenSpec.ofChange readExactSpec)) readExactCard

/-- THE TIED CARD OF 'transhiplaw09.ReadRight'. -/
def readRightCard : Claim7 := { stood := { row := readRightRow, standIns := [], harness := (true, "488ca4a19494b6fe71ace8426bb594764facd045fc7b1991042c4395df009f61"), looks := false }, kinds := [], alts := [], laidByText := true, laidKinds := [.data, .data, .data], laidTests := true, laidLooks := .later }
def ReadRightCardSaid : Prop := Claim7.holds Tryd.pinned (.plain (OpenSpec.ofChange readRightSpec)) readRightCard

/-- THE TIED CARD OF 'transhiplaw09.ReadBehind'. -/
def readBehindCard : Claim7 := { stood := { row := readBehindRow, standIns := [], harness := (true, "488ca4a19494b6fe71ace8426bb594764facd045fc7b1991042c4395df009f61"), looks := false }, kinds := [], alts := [], laidByText := true, laidKinds := [.data, .data, .data], laidTests := true, laidLooks := .later }
def ReadBehindCardSaid : Prop := Claim7.holds Tryd.pinned (.plain (OpenSpec.ofChange readBehindSpec)) readBehindCard

/-- THE TIED CARD OF 'transhiplaw09.ReadInner'. -/
def readInnerCard : Claim7 := { stood := { row := readInnerRow, standIns := [], harness := (true, "488ca4a19494b6fe71ace8426bb594764facd045fc7b1991042c4395df009f61"), looks := false }, kinds := [], alts := [], laidByText := true, laidKinds := [.data, .data, .data], laidTests := true, laidLooks := .later }
def ReadInnerCardSaid : Prop := Claim7.holds Tryd.pinned (.plain (OpenSpec.ofChange readInnerSpec)) readInnerCard

/-- THE TIED CARD OF 'transhiplaw09.ReadLevels'. -/
def readLevelsCard : Claim7 := { stood := { row := readLevelsRow, standIns := [], harness := (true, "488ca4a19494b6fe71ace8426bb594764facd045fc7b1991042c4395df009f61"), looks := false }, kinds := [], alts := [], laidByText := true, laidKinds := [.data, .data, .data], laidTests := true, laidLooks := .later }
def ReadLevelsCardSaid : Prop := Claim7.holds Tryd.pinned (.plain (OpenSpec.ofChange readLevelsSpec)) readLevelsCard

/-- THE TIED CARD OF 'transhiplaw09.ReadSymbols'. -/
def readSymbolsCard : Claim7 := { stood := { row := readSymbolsRow, standIns := [], harness := (true, "488ca4a19494b6fe71ace8426bb594764facd045fc7b1991042c4395df009f61"), looks := false }, kinds := [], alts := [], laidByText := true, laidKinds := [.data, .data, .data], laidTests := true, laidLooks := .later }
def ReadSymbolsCardSaid : Prop := Claim7.holds Tryd.pinned (.plain (OpenSpec.ofChange readSymbolsSpec)) readSymbolsCard

/-- THE TIED CARD OF 'transhiplaw10.WriteBack'. -/
def writeBackCard : Claim7 := { stood := { row := writeBackRow, standIns := [], harness := (true, "488ca4a19494b6fe71ace8426bb594764facd045fc7b1991042c4395df009f61"), looks := false }, kinds := [], alts := [], laidByText := true, laidKinds := [.data, .data, .data], laidTests := true, laidLooks := .later }
def WriteBackCardSaid : Prop := Claim7.holds Tryd.pinned (.plain (OpenSpec.ofChange writeBackSpec)) writeBackCard

/-- THE TIED CARD OF 'transhiplaw10.WriteFixed'. -/
def writeFixedCard : Claim7 := { stood := { row := writeFixedRow, standIns := [], harness := (true, "488ca4a19494b6fe71ace8426bb594764facd045fc7b1991042c4395df009f61"), looks := false }, kinds := [], alts := [], laidByText := true, laidKinds := [.data, .data, .data], laidTests := true, laidLooks := .later }
def WriteFixedCardSaid : Prop := Claim7.holds Tryd.pinned (.plain (OpenSpec.ofChange writeFixedSpec)) writeFixedCard

/-- THE SECOND FORM's CARD OF 'transhiplaw10.WriteExact'. -/
def writeExactUptoCard : Claim7 := { stood := { row := writeExactUptoRow, standIns := [], harness := (true, "488ca4a19494b6fe71ace8426bb594764facd045fc7b1991042c4395df009f61"), looks := false }, kinds := [], alts := [], laidByText := true, laidKinds := [.data, .data, .data], laidTests := true, laidLooks := .later }
def WriteExactUptoCardSaid : Prop := Claim7.holds Tryd.pinned (.plain (OpenSpec.upto writeExactSpec)) writeExactUptoCard

/-- THE SECOND FORM's CARD OF 'transhiplaw10.WriteUnlike'. -/
def writeUnlikeUptoCard : Claim7 := { stood := { row := writeUnlikeUptoRow, standIns := [], harness := (true, "488ca4a19494b6fe71ace8426bb594764facd045fc7b1991042c4395df009f61"), looks := false }, kinds := [], alts := [], laidByText := true, laidKinds := [.data, .data, .data], laidTests := true, laidLooks := .later }
def WriteUnlikeUptoCardSaid : Prop := Claim7.holds Tryd.pinned (.plain (OpenSpec.upto writeUnlikeSpec)) writeUnlikeUptoCard

/-- THE SECOND FORM's CARD OF 'transhiplaw10.WriteNames'. -/
def writeNamesUptoCard : Claim7 := { stood := { row := writeNamesUptoRow, standIns := [], harness := (true, "488ca4a19494b6fe71ace8426bb594764facd045fc7b1991042c4395df009f61"), looks := false }, kinds := [], alts := [], laidByText := true, laidKinds := [.data, .data, .data], laidTests := true, laidLooks := .later }
def WriteNamesUptoCardSaid : Prop := Claim7.holds Tryd.pinned (.plain (OpenSpec.upto writeNamesSpec)) writeNamesUptoCard

/-- THE SECOND FORM's CARD OF 'transhiplaw09.ReadExact'. -/
def readExactUptoCard : Claim7 := { stood := { row := readExactUptoRow, standIns := [], harness := (true, "488ca4a19494b6fe71ace8426bb594764facd045fc7b1991042c4395df009f61"), looks := false }, kinds := [], alts := [], laidByText := true, laidKinds := [.data, .data, .data], laidTests := true, laidLooks := .later }
def ReadExactUptoCardSaid : Prop := Claim7.holds Tryd.pinned (.plain (OpenSpec.upto readExactSpec)) readExactUptoCard

/-- THE SECOND FORM's CARD OF 'transhiplaw09.ReadRight'. -/
def readRightUptoCard : Claim7 := { stood := { row := readRightUptoRow, standIns := [], harness := (true, "488ca4a19494b6fe71ace8426bb594764facd045fc7b1991042c4395df009f61"), looks := false }, kinds := [], alts := [], laidByText := true, laidKinds := [.data, .data, .data], laidTests := true, laidLooks := .later }
def ReadRightUptoCardSaid : Prop := Claim7.holds Tryd.pinned (.plain (OpenSpec.upto readRightSpec)) readRightUptoCard

/-- THE SECOND FORM's CARD OF 'transhiplaw09.ReadBehind'. -/
def readBehindUptoCard : Claim7 := { stood := { row := readBehindUptoRow, standIns := [], harness := (true, "488ca4a19494b6fe71ace8426bb594764facd045fc7b1991042c4395df009f61"), looks := false }, kinds := [], alts := [], laidByText := true, laidKinds := [.data, .data, .data], laidTests := true, laidLooks := .later }
def ReadBehindUptoCardSaid : Prop := Claim7.holds Tryd.pinned (.plain (OpenSpec.upto readBehindSpec)) readBehindUptoCard

/-- THE SECOND FORM's CARD OF 'transhiplaw09.ReadInner'. -/
def readInnerUptoCard : Claim7 := { stood := { row := readInnerUptoRow, standIns := [], harness := (true, "488ca4a19494b6fe71ace8426bb594764facd045fc7b1991042c4395df009f61"), looks := false }, kinds := [], alts := [], laidByText := true, laidKinds := [.data, .data, .data], laidTests := true, laidLooks := .later }
def ReadInnerUptoCardSaid : Prop := Claim7.holds Tryd.pinned (.plain (OpenSpec.upto readInnerSpec)) readInnerUptoCard

/-- THE SECOND FORM's CARD OF 'transhiplaw09.ReadLevels'. -/
def readLevelsUptoCard : Claim7 := { stood := { row := readLevelsUptoRow, standIns := [], harness := (true, "488ca4a19494b6fe71ace8426bb594764facd045fc7b1991042c4395df009f61"), looks := false }, kinds := [], alts := [], laidByText := true, laidKinds := [.data, .data, .data], laidTests := true, laidLooks := .later }
def ReadLevelsUptoCardSaid : Prop := Claim7.holds Tryd.pinned (.plain (OpenSpec.upto readLevelsSpec)) readLevelsUptoCard

/-- THE SECOND FORM's CARD OF 'transhiplaw09.ReadSymbols'. -/
def readSymbolsUptoCard : Claim7 := { stood := { row := readSymbolsUptoRow, standIns := [], harness := (true, "488ca4a19494b6fe71ace8426bb594764facd045fc7b1991042c4395df009f61"), looks := false }, kinds := [], alts := [], laidByText := true, laidKinds := [.data, .data, .data], laidTests := true, laidLooks := .later }
def ReadSymbolsUptoCardSaid : Prop := Claim7.holds Tryd.pinned (.plain (OpenSpec.upto readSymbolsSpec)) readSymbolsUptoCard

/-- THE SECOND FORM's CARD OF 'transhiplaw10.WriteBack'. -/
def writeBackUptoCard : Claim7 := { stood := { row := writeBackUptoRow, standIns := [], harness := (true, "488ca4a19494b6fe71ace8426bb594764facd045fc7b1991042c4395df009f61"), looks := false }, kinds := [], alts := [], laidByText := true, laidKinds := [.data, .data, .data], laidTests := true, laidLooks := .later }
def WriteBackUptoCardSaid : Prop := Claim7.holds Tryd.pinned (.plain (OpenSpec.upto writeBackSpec)) writeBackUptoCard

/-- THE SECOND FORM's CARD OF 'transhiplaw10.WriteFixed'. -/
def writeFixedUptoCard : Claim7 := { stood := { row := writeFixedUptoRow, standIns := [], harness := (true, "488ca4a19494b6fe71ace8426bb594764facd045fc7b1991042c4395df009f61"), looks := false }, kinds := [], alts := [], laidByText := true, laidKinds := [.data, .data, .data], laidTests := true, laidLooks := .later }
def WriteFixedUptoCardSaid : Prop := Claim7.holds Tryd.pinned (.plain (OpenSpec.upto writeFixedSpec)) writeFixedUptoCard
end Rows
end Go.Proofs.YtefjgpahgffmfaaDoor
