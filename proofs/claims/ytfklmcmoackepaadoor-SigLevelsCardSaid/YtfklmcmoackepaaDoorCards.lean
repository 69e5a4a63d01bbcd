/-
  DERIVED. GIVEN WITH THE SEED: THE CARDS: each row of YtfklmcmoackepaaDoorRows.lean that lists a variable, with what it lists TIED to the program's text (the seventh form; the later family's looks); each row that meets fmt, with fmt's text TOLD by the authors' own Lean function (tested against real Go, not proved from fmt's source: count such statements apart). THE CARD IS WHAT COUNTS. Prove the row's statement (the work); the ties are given (YtfklmcmoackepaaDoorTie.lean); close each card by the builder's one call (the guide's Derived/Test/ToyasCard.lean, 'card_holds'). Laid BY PROGRAM, IN A SANDBOX (cutbox-door.mjs). By AI agents, Wed Nov 11 2026. No macro, syntax, notation, axiom, sorry.
-/
import Derived.Test.YtfklmcmoackepaaDoorRows
import GoSem.ClaimSeven
namespace Go.Proofs.YtfklmcmoackepaaDoor
namespace Rows

/-- THE TIED CARD OF 'transhiplaw17.SigExact'. -/
def sigExactCard : Claim7 := { stood := { row := sigExactRow, standIns := [], harness := (true, "f2617212eabcf7469a1c7cb707a359bedef63d8c5bb3f1c4bf0ae78a0d330593"), looks := false }, kinds := [], alts := [], laidByText := true, laidKinds := [.data, .data, .data], laidTests := true, laidLooks := .later }
def SigExactCardSaid : Prop := Claim7.holds Tryd.pinned (.plain (OpenSpec.ofChange sigExactSpec)) sigExactCard

/-- THE TIED CARD OF 'transhiplaw17.SigLevels'. -/
def sigLevelsCard : Claim7 := { stood := { row := sigLevelsRow, standIns := [], harness := (true, "f2617212eabcf7469a1c7cb707a359bedef63d8c5bb3f1c4bf0ae78a0d330593"), looks := false }, kinds := [], alts := [], laidByText := true, laidKinds := [.data, .data, .data], laidTests := true, laidLooks := .later }
def SigLevelsCardSaid : Prop := Claim7.holds Tryd.pinned (.plain (OpenSpec.ofChange sigLevelsSpec)) sigLevelsCard

/-- THE TIED CARD OF 'transhiplaw17.SigShape'. -/
def sigShapeCard : Claim7 := { stood := { row := sigShapeRow, standIns := [], harness := (true, "f2617212eabcf7469a1c7cb707a359bedef63d8c5bb3f1c4bf0ae78a0d330593"), looks := false }, kinds := [], alts := [], laidByText := true, laidKinds := [.data, .data, .data], laidTests := true, laidLooks := .later }
def SigShapeCardSaid : Prop := Claim7.holds Tryd.pinned (.plain (OpenSpec.ofChange sigShapeSpec)) sigShapeCard

/-- THE SECOND FORM's CARD OF 'transhiplaw17.SigExact'. -/
def sigExactUptoCard : Claim7 := { stood := { row := sigExactUptoRow, standIns := [], harness := (true, "f2617212eabcf7469a1c7cb707a359bedef63d8c5bb3f1c4bf0ae78a0d330593"), looks := false }, kinds := [], alts := [], laidByText := true, laidKinds := [.data, .data, .data], laidTests := true, laidLooks := .later }
def SigExactUptoCardSaid : Prop := Claim7.holds Tryd.pinned (.plain (OpenSpec.upto sigExactSpec)) sigExactUptoCard

/-- THE SECOND FORM's CARD OF 'transhiplaw17.SigLevels'. -/
def sigLevelsUptoCard : Claim7 := { stood := { row := sigLevelsUptoRow, standIns := [], harness := (true, "f2617212eabcf7469a1c7cb707a359bedef63d8c5bb3f1c4bf0ae78a0d330593"), looks := false }, kinds := [], alts := [], laidByText := true, laidKinds := [.data, .data, .data], laidTests := true, laidLooks := .later }
def SigLevelsUptoCardSaid : Prop := Claim7.holds Tryd.pinned (.plain (OpenSpec.upto sigLevelsSpec)) sigLevelsUptoCard

/-- THE SECOND FORM's CARD OF 'transhiplaw17.SigShape'. -/
def sigShapeUptoCard : Claim7 := { stood := { row := sigShapeUptoRow, standIns := [], harness := (true, "f2617212eabcf7469a1c7cb707a359bedef63d8c5bb3f1c4bf0ae78a0d330593"), looks := false }, kinds := [], alts := [], laidByText := true, laidKinds := [.data, .data, .data], laidTests := true, laidLooks := .later }
def SigShapeUptoCardSaid : Prop := Claim7.holds Tryd.pinned (.plain (OpenSpec.upto sigShapeSpec)) sigShapeUptoCard
end Rows
end Go.Proofs.YtfklmcmoackepaaDoor
