/-
  DERIVED. GIVEN WITH THE SEED: THE CARDS: each row of YtfpiogaakblpeaaDoorRows.lean that lists a variable, with what it lists TIED to the program's text (the seventh form; the later family's looks); each row that meets fmt, with fmt's text TOLD by the authors' own Lean function (tested against real Go, not proved from fmt's source: count such statements apart). THE CARD IS WHAT COUNTS. Prove the row's statement (the work); the ties are given (YtfpiogaakblpeaaDoorTie.lean); close each card by the builder's one call (the guide's Derived/Test/ToyasCard.lean, 'card_holds'). Laid BY PROGRAM, IN A SANDBOX (cutbox-door.mjs). By AI agents, Wed Nov 11 2026. No macro, syntax, notation, axiom, sorry.
-/
import Derived.Test.YtfpiogaakblpeaaDoorRows
import GoSem.ClaimSeven
namespace Go.Proofs.YtfpiogaakblpeaaDoor
namespace Rows

/-- THE TIED CARD OF 'transhiplaw14.ShowExact'. -/
def showExactCard : Claim7 := { stood := { row := showExactRow, standIns := [], harness := (true, "813a904e481d6d0d71723e9ddf58911b69bbb73aaa84e2539a8ab7f9d2da5bdd"), looks := true }, kinds := [], alts := [], laidByText := true, laidKinds := [.data, .data, .data], laidTests := true, laidLooks := .later }
def ShowExactCardSaid : Prop := Claim7.holds Tryd.pinned (.plain (OpenSpec.ofChange showExactSpec)) showExactCard

/-- THE TIED CARD OF 'transhiplaw14.ShowUnlike'. -/
def showUnlikeCard : Claim7 := { stood := { row := showUnlikeRow, standIns := [], harness := (true, "813a904e481d6d0d71723e9ddf58911b69bbb73aaa84e2539a8ab7f9d2da5bdd"), looks := true }, kinds := [], alts := [], laidByText := true, laidKinds := [.data, .data, .data], laidTests := true, laidLooks := .later }
def ShowUnlikeCardSaid : Prop := Claim7.holds Tryd.pinned (.plain (OpenSpec.ofChange showUnlikeSpec)) showUnlikeCard

/-- THE TIED CARD OF 'transhiplaw13.ParseExact'. -/
def parseExactCard : Claim7 := { stood := { row := parseExactRow, standIns := [], harness := (true, "813a904e481d6d0d71723e9ddf58911b69bbb73aaa84e2539a8ab7f9d2da5bdd"), looks := true }, kinds := [], alts := [], laidByText := true, laidKinds := [.data, .data, .data], laidTests := true, laidLooks := .later }
def ParseExactCardSaid : Prop := Claim7.holds Tryd.pinned (.plain (OpenSpec.ofChange parseExactSpec)) parseExactCard

/-- THE TIED CARD OF 'transhiplaw13.ParseMore'. -/
def parseMoreCard : Claim7 := { stood := { row := parseMoreRow, standIns := [], harness := (true, "813a904e481d6d0d71723e9ddf58911b69bbb73aaa84e2539a8ab7f9d2da5bdd"), looks := true }, kinds := [], alts := [], laidByText := true, laidKinds := [.data, .data, .data], laidTests := true, laidLooks := .later }
def ParseMoreCardSaid : Prop := Claim7.holds Tryd.pinned (.plain (OpenSpec.ofChange parseMoreSpec)) parseMoreCard

/-- THE TIED CARD OF 'transhiplaw13.ParseLimits'. -/
def parseLimitsCard : Claim7 := { stood := { row := parseLimitsRow, standIns := [], harness := (true, "813a904e481d6d0d71723e9ddf58911b69bbb73aaa84e2539a8ab7f9d2da5bdd"), looks := true }, kinds := [], alts := [], laidByText := true, laidKinds := [.data, .data, .data], laidTests := true, laidLooks := .later }
def ParseLimitsCardSaid : Prop := Claim7.holds Tryd.pinned (.plain (OpenSpec.ofChange parseLimitsSpec)) parseLimitsCard

/-- THE TIED CARD OF 'transhiplaw13.ParseBetween'. -/
def parseBetweenCard : Claim7 := { stood := { row := parseBetweenRow, standIns := [], harness := (true, "813a904e481d6d0d71723e9ddf58911b69bbb73aaa84e2539a8ab7f9d2da5bdd"), looks := true }, kinds := [], alts := [], laidByText := true, laidKinds := [.data, .data, .data], laidTests := true, laidLooks := .later }
def ParseBetweenCardSaid : Prop := Claim7.holds Tryd.pinned (.plain (OpenSpec.ofChange parseBetweenSpec)) parseBetweenCard

/-- THE TIED CARD OF 'transhiplaw13.ParseRight'. -/
def parseRightCard : Claim7 := { stood := { row := parseRightRow, standIns := [], harness := (true, "813a904e481d6d0d71723e9ddf58911b69bbb73aaa84e2539a8ab7f9d2da5bdd"), looks := true }, kinds := [], alts := [], laidByText := true, laidKinds := [.data, .data, .data], laidTests := true, laidLooks := .later }
def ParseRightCardSaid : Prop := Claim7.holds Tryd.pinned (.plain (OpenSpec.ofChange parseRightSpec)) parseRightCard

/-- THE TIED CARD OF 'transhiplaw14.ShowBack'. -/
def showBackCard : Claim7 := { stood := { row := showBackRow, standIns := [], harness := (true, "813a904e481d6d0d71723e9ddf58911b69bbb73aaa84e2539a8ab7f9d2da5bdd"), looks := true }, kinds := [], alts := [], laidByText := true, laidKinds := [.data, .data, .data], laidTests := true, laidLooks := .later }
def ShowBackCardSaid : Prop := Claim7.holds Tryd.pinned (.plain (OpenSpec.ofChange showBackSpec)) showBackCard

/-- THE TIED CARD OF 'transhiplaw14.ShowFixed'. -/
def showFixedCard : Claim7 := { stood := { row := showFixedRow, standIns := [], harness := (true, "813a904e481d6d0d71723e9ddf58911b69bbb73aaa84e2539a8ab7f9d2da5bdd"), looks := true }, kinds := [], alts := [], laidByText := true, laidKinds := [.data, .data, .data], laidTests := true, laidLooks := .later }
def ShowFixedCardSaid : Prop := Claim7.holds Tryd.pinned (.plain (OpenSpec.ofChange showFixedSpec)) showFixedCard

/-- THE SECOND FORM's CARD OF 'transhiplaw14.ShowExact'. -/
def showExactUptoCard : Claim7 := { stood := { row := showExactUptoRow, standIns := [], harness := (true, "813a904e481d6d0d71723e9ddf58911b69bbb73aaa84e2539a8ab7f9d2da5bdd"), looks := true }, kinds := [], alts := [], laidByText := true, laidKinds := [.data, .data, .data], laidTests := true, laidLooks := .later }
def ShowExactUptoCardSaid : Prop := Claim7.holds Tryd.pinned (.plain (OpenSpec.upto showExactSpec)) showExactUptoCard

/-- THE SECOND FORM's CARD OF 'transhiplaw14.ShowUnlike'. -/
def showUnlikeUptoCard : Claim7 := { stood := { row := showUnlikeUptoRow, standIns := [], harness := (true, "813a904e481d6d0d71723e9ddf58911b69bbb73aaa84e2539a8ab7f9d2da5bdd"), looks := true }, kinds := [], alts := [], laidByText := true, laidKinds := [.data, .data, .data], laidTests := true, laidLooks := .later }
def ShowUnlikeUptoCardSaid : Prop := Claim7.holds Tryd.pinned (.plain (OpenSpec.upto showUnlikeSpec)) showUnlikeUptoCard

/-- THE SECOND FORM's CARD OF 'transhiplaw13.ParseExact'. -/
def parseExactUptoCard : Claim7 := { stood := { row := parseExactUptoRow, standIns := [], harness := (true, "813a904e481d6d0d71723e9ddf58911b69bbb73aaa84e2539a8ab7f9d2da5bdd"), looks := true }, kinds := [], alts := [], laidByText := true, laidKinds := [.data, .data, .data], laidTests := true, laidLooks := .later }
def ParseExactUptoCardSaid : Prop := Claim7.holds Tryd.pinned (.plain (OpenSpec.upto parseExactSpec)) parseExactUptoCard

/-- THE SECOND FORM's CARD OF 'transhiplaw13.ParseMore'. -/
def parseMoreUptoCard : Claim7 := { stood := { row := parseMoreUptoRow, standIns := [], harness := (true, "813a904e481d6d0d71723e9ddf58911b69bbb73aaa84e2539a8ab7f9d2da5bdd"), looks := true }, kinds := [], alts := [], laidByText := true, laidKinds := [.data, .data, .data], laidTests := true, laidLooks := .later }
def ParseMoreUptoCardSaid : Prop := Claim7.holds Tryd.pinned (.plain (OpenSpec.upto parseMoreSpec)) parseMoreUptoCard

/-- THE SECOND FORM's CARD OF 'transhiplaw13.ParseLimits'. -/
def parseLimitsUptoCard : Claim7 := { stood := { row := parseLimitsUptoRow, standIns := [], harness := (true, "813a904e481d6d0d71723e9ddf58911b69bbb73aaa84e2539a8ab7f9d2da5bdd"), looks := true }, kinds := [], alts := [], laidByText := true, laidKinds := [.data, .data, .data], laidTests := true, laidLooks := .later }
def ParseLimitsUptoCardSaid : Prop := Claim7.holds Tryd.pinned (.plain (OpenSpec.upto parseLimitsSpec)) parseLimitsUptoCard

/-- THE SECOND FORM's CARD OF 'transhiplaw13.ParseBetween'. -/
def parseBetweenUptoCard : Claim7 := { stood := { row := parseBetweenUptoRow, standIns := [], harness := (true, "813a904e481d6d0d71723e9ddf58911b69bbb73aaa84e2539a8ab7f9d2da5bdd"), looks := true }, kinds := [], alts := [], laidByText := true, laidKinds := [.data, .data, .data], laidTests := true, laidLooks := .later }
def ParseBetweenUptoCardSaid : Prop := Claim7.holds Tryd.pinned (.plain (OpenSpec.upto parseBetweenSpec)) parseBetweenUptoCard

/-- THE SECOND FORM's CARD OF 'transhiplaw13.ParseRight'. -/
def parseRightUptoCard : Claim7 := { stood := { row := parseRightUptoRow, standIns := [], harness := (true, "813a904e481d6d0d71723e9ddf58911b69bbb73aaa84e2539a8ab7f9d2da5bdd"), looks := true }, kinds := [], alts := [], laidByText := true, laidKinds := [.data, .data, .data], laidTests := true, laidLooks := .later }
def ParseRightUptoCardSaid : Prop := Claim7.holds Tryd.pinned (.plain (OpenSpec.upto parseRightSpec)) parseRightUptoCard

/-- THE SECOND FORM's CARD OF 'transhiplaw14.ShowBack'. -/
def showBackUptoCard : Claim7 := { stood := { row := showBackUptoRow, standIns := [], harness := (true, "813a904e481d6d0d71723e9ddf58911b69bbb73aaa84e2539a8ab7f9d2da5bdd"), looks := true }, kinds := [], alts := [], laidByText := true, laidKinds := [.data, .data, .data], laidTests := true, laidLooks := .later }
def ShowBackUptoCardSaid : Prop := Claim7.holds Tryd.pinned (.plain (OpenSpec.upto showBackSpec)) showBackUptoCard

/-- THE SECOND FORM's CARD OF 'transhiplaw14.ShowFixed'. -/
def showFixedUptoCard : Claim7 := { stood := { row := showFixedUptoRow, standIns := [], harness := (true, "813a904e481d6d0d71723e9ddf58911b69bbb73aaa84e2539a8ab7f9d2da5bdd"), looks := true }, kinds := [], alts := [], laidByText := true, laidKinds := [.data, .data, .data], laidTests := true, laidLooks := .later }
def ShowFixedUptoCardSaid : Prop := Claim7.holds Tryd.pinned (.plain (OpenSpec.upto showFixedSpec)) showFixedUptoCard
end Rows
end Go.Proofs.YtfpiogaakblpeaaDoor
