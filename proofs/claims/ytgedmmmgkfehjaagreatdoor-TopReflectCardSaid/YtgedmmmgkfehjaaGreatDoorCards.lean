/-
  DERIVED. GIVEN WITH THE SEED: THE CARDS: each row of YtgedmmmgkfehjaaGreatDoorRows.lean that lists a variable, with what it lists TIED to the program's text (the seventh form; the later family's looks); each row that meets fmt, with fmt's text TOLD by the authors' own Lean function (tested against real Go, not proved from fmt's source: count such statements apart). THE CARD IS WHAT COUNTS. Prove the row's statement (the work); the ties are given (YtgedmmmgkfehjaaGreatDoorTie.lean); close each card by the builder's one call (the guide's Derived/Test/ToyasCard.lean, 'card_holds'). Laid BY PROGRAM, IN A SANDBOX (cutbox-door.mjs). By AI agents, Wed Nov 11 2026. No macro, syntax, notation, axiom, sorry.
-/
import Derived.Test.YtgedmmmgkfehjaaGreatDoorRows
import GoSem.ClaimSeven
namespace Go.Proofs.YtgedmmmgkfehjaaGreatDoor
namespace Rows

/-- THE TIED CARD OF 'transhiptop.TopCarried'. -/
def topCarriedCard : Claim7 := { stood := { row := topCarriedRow, standIns := [], harness := (true, "2a1e3e49bfc5f08fb0dd6c7016a38b942afaa5aee61ac72a71119c15fb64ae79"), looks := true }, kinds := [], alts := [], laidByText := true, laidKinds := [.data, .data, .data], laidTests := true, laidLooks := .later }
def TopCarriedCardSaid : Prop := Claim7.holds Tryz.pinned (.plain (OpenSpec.ofChange topCarriedSpec)) topCarriedCard

/-- THE TIED CARD OF 'transhiptop.TopChecked'. -/
def topCheckedCard : Claim7 := { stood := { row := topCheckedRow, standIns := [], harness := (true, "2a1e3e49bfc5f08fb0dd6c7016a38b942afaa5aee61ac72a71119c15fb64ae79"), looks := true }, kinds := [], alts := [], laidByText := true, laidKinds := [.data, .data, .data], laidTests := true, laidLooks := .later }
def TopCheckedCardSaid : Prop := Claim7.holds Tryz.pinned (.plain (OpenSpec.ofChange topCheckedSpec)) topCheckedCard

/-- THE TIED CARD OF 'transhiptop.TopInfers'. -/
def topInfersCard : Claim7 := { stood := { row := topInfersRow, standIns := [], harness := (true, "2a1e3e49bfc5f08fb0dd6c7016a38b942afaa5aee61ac72a71119c15fb64ae79"), looks := true }, kinds := [], alts := [], laidByText := true, laidKinds := [.data, .data, .data], laidTests := true, laidLooks := .later }
def TopInfersCardSaid : Prop := Claim7.holds Tryz.pinned (.plain (OpenSpec.ofChange topInfersSpec)) topInfersCard

/-- THE TIED CARD OF 'transhiptop.TopReflect'. -/
def topReflectCard : Claim7 := { stood := { row := topReflectRow, standIns := [], harness := (true, "2a1e3e49bfc5f08fb0dd6c7016a38b942afaa5aee61ac72a71119c15fb64ae79"), looks := true }, kinds := [], alts := [], laidByText := true, laidKinds := [.data, .data, .data], laidTests := true, laidLooks := .later }
def TopReflectCardSaid : Prop := Claim7.holds Tryz.pinned (.plain (OpenSpec.ofChange topReflectSpec)) topReflectCard

/-- THE SECOND FORM's CARD OF 'transhiptop.TopCarried'. -/
def topCarriedUptoCard : Claim7 := { stood := { row := topCarriedUptoRow, standIns := [], harness := (true, "2a1e3e49bfc5f08fb0dd6c7016a38b942afaa5aee61ac72a71119c15fb64ae79"), looks := true }, kinds := [], alts := [], laidByText := true, laidKinds := [.data, .data, .data], laidTests := true, laidLooks := .later }
def TopCarriedUptoCardSaid : Prop := Claim7.holds Tryz.pinned (.plain (OpenSpec.upto topCarriedSpec)) topCarriedUptoCard

/-- THE SECOND FORM's CARD OF 'transhiptop.TopChecked'. -/
def topCheckedUptoCard : Claim7 := { stood := { row := topCheckedUptoRow, standIns := [], harness := (true, "2a1e3e49bfc5f08fb0dd6c7016a38b942afaa5aee61ac72a71119c15fb64ae79"), looks := true }, kinds := [], alts := [], laidByText := true, laidKinds := [.data, .data, .data], laidTests := true, laidLooks := .later }
def TopCheckedUptoCardSaid : Prop := Claim7.holds Tryz.pinned (.plain (OpenSpec.upto topCheckedSpec)) topCheckedUptoCard

/-- THE SECOND FORM's CARD OF 'transhiptop.TopInfers'. -/
def topInfersUptoCard : Claim7 := { stood := { row := topInfersUptoRow, standIns := [], harness := (true, "2a1e3e49bfc5f08fb0dd6c7016a38b942afaa5aee61ac72a71119c15fb64ae79"), looks := true }, kinds := [], alts := [], laidByText := true, laidKinds := [.data, .data, .data], laidTests := true, laidLooks := .later }
def TopInfersUptoCardSaid : Prop := Claim7.holds Tryz.pinned (.plain (OpenSpec.upto topInfersSpec)) topInfersUptoCard

/-- THE SECOND FORM's CARD OF 'transhiptop.TopReflect'. -/
def topReflectUptoCard : Claim7 := { stood := { row := topReflectUptoRow, standIns := [], harness := (true, "2a1e3e49bfc5f08fb0dd6c7016a38b942afaa5aee61ac72a71119c15fb64ae79"), looks := true }, kinds := [], alts := [], laidByText := true, laidKinds := [.data, .data, .data], laidTests := true, laidLooks := .later }
def TopReflectUptoCardSaid : Prop := Claim7.holds Tryz.pinned (.plain (OpenSpec.upto topReflectSpec)) topReflectUptoCard
end Rows
end Go.Proofs.YtgedmmmgkfehjaaGreatDoor
