/-
  DERIVED. GIVEN WITH THE SEED: THE CARDS: each row of YtcnmejahighkfaaDoorRows.lean that lists a variable, with what it lists TIED to the program's text (the seventh form; the later family's looks); each row that meets fmt, with fmt's text TOLD by the authors' own Lean function (tested against real Go, not proved from fmt's source: count such statements apart). THE CARD IS WHAT COUNTS. Prove the row's statement (the work); the ties are given (YtcnmejahighkfaaDoorTie.lean); close each card by the builder's one call (the guide's Derived/Test/ToyasCard.lean, 'card_holds'). Laid BY PROGRAM, IN A SANDBOX (cutbox-door.mjs). By AI agents, Wed Nov 11 2026. No macro, syntax, notation, axiom, sorry.
-/
import Derived.Test.YtcnmejahighkfaaDoorRows
import GoSem.ClaimSeven
namespace Go.Proofs.YtcnmejahighkfaaDoor
namespace Rows

/-- THE TIED CARD OF 'timeboundlaw03.ParseExprs'. -/
def parseExprsCard : Claim7 := { stood := { row := parseExprsRow, standIns := [], harness := (true, "ade6f8b8a6c28fb42adbd92ba68fa1302141f9c1fd3b9ca930f4d5cf338f862b"), looks := true }, kinds := [], alts := [], laidByText := true, laidKinds := [.widerDeep, .widerDeep, .widerDeep, .widerDeep], laidTests := true, laidLooks := .later }
def ParseExprsCardSaid : Prop := Claim7.holds Tryd.pinned (.plain (OpenSpec.ofChange parseExprsSpec)) parseExprsCard

/-- THE TIED CARD OF 'timeboundlaw03.ParseParens'. -/
def parseParensCard : Claim7 := { stood := { row := parseParensRow, standIns := [], harness := (true, "ade6f8b8a6c28fb42adbd92ba68fa1302141f9c1fd3b9ca930f4d5cf338f862b"), looks := true }, kinds := [], alts := [], laidByText := true, laidKinds := [.widerDeep, .widerDeep, .widerDeep, .widerDeep], laidTests := true, laidLooks := .later }
def ParseParensCardSaid : Prop := Claim7.holds Tryd.pinned (.plain (OpenSpec.ofChange parseParensSpec)) parseParensCard

/-- THE TIED CARD OF 'timeboundlaw02.TokenRaw'. -/
def tokenRawCard : Claim7 := { stood := { row := tokenRawRow, standIns := [], harness := (true, "ade6f8b8a6c28fb42adbd92ba68fa1302141f9c1fd3b9ca930f4d5cf338f862b"), looks := true }, kinds := [], alts := [], laidByText := true, laidKinds := [.data, .data, .data], laidTests := true, laidLooks := .later }
def TokenRawCardSaid : Prop := Claim7.holds Tryd.pinned (.plain (OpenSpec.ofChange tokenRawSpec)) tokenRawCard

/-- THE TIED CARD OF 'timeboundlaw02.TokenPieces'. -/
def tokenPiecesCard : Claim7 := { stood := { row := tokenPiecesRow, standIns := [], harness := (true, "ade6f8b8a6c28fb42adbd92ba68fa1302141f9c1fd3b9ca930f4d5cf338f862b"), looks := true }, kinds := [], alts := [], laidByText := true, laidKinds := [.data, .data, .data], laidTests := true, laidLooks := .later }
def TokenPiecesCardSaid : Prop := Claim7.holds Tryd.pinned (.plain (OpenSpec.ofChange tokenPiecesSpec)) tokenPiecesCard

/-- THE TIED CARD OF 'timeboundlaw02.TokenAgain'. -/
def tokenAgainCard : Claim7 := { stood := { row := tokenAgainRow, standIns := [], harness := (true, "ade6f8b8a6c28fb42adbd92ba68fa1302141f9c1fd3b9ca930f4d5cf338f862b"), looks := true }, kinds := [], alts := [], laidByText := true, laidKinds := [.data, .data, .data], laidTests := true, laidLooks := .later }
def TokenAgainCardSaid : Prop := Claim7.holds Tryd.pinned (.plain (OpenSpec.ofChange tokenAgainSpec)) tokenAgainCard

/-- THE TIED CARD OF 'timeboundlaw02.TokenPrograms'. -/
def tokenProgramsCard : Claim7 := { stood := { row := tokenProgramsRow, standIns := [], harness := (true, "ade6f8b8a6c28fb42adbd92ba68fa1302141f9c1fd3b9ca930f4d5cf338f862b"), looks := true }, kinds := [], alts := [], laidByText := true, laidKinds := [.data, .data, .data], laidTests := true, laidLooks := .later }
def TokenProgramsCardSaid : Prop := Claim7.holds Tryd.pinned (.plain (OpenSpec.ofChange tokenProgramsSpec)) tokenProgramsCard

/-- THE TIED CARD OF 'timeboundlaw02.TokenSpaces'. -/
def tokenSpacesCard : Claim7 := { stood := { row := tokenSpacesRow, standIns := [], harness := (true, "ade6f8b8a6c28fb42adbd92ba68fa1302141f9c1fd3b9ca930f4d5cf338f862b"), looks := true }, kinds := [], alts := [], laidByText := true, laidKinds := [.data, .data, .data], laidTests := true, laidLooks := .later }
def TokenSpacesCardSaid : Prop := Claim7.holds Tryd.pinned (.plain (OpenSpec.ofChange tokenSpacesSpec)) tokenSpacesCard

/-- THE TIED CARD OF 'timeboundlaw04.PrintDeep'. -/
def printDeepCard : Claim7 := { stood := { row := printDeepRow, standIns := [], harness := (true, "ade6f8b8a6c28fb42adbd92ba68fa1302141f9c1fd3b9ca930f4d5cf338f862b"), looks := true }, kinds := [], alts := [], laidByText := true, laidKinds := [.data, .data, .data, .widerDeep, .widerDeep], laidTests := true, laidLooks := .later }
def PrintDeepCardSaid : Prop := Claim7.holds Tryd.pinned (.plain (OpenSpec.ofChange printDeepSpec)) printDeepCard

/-- THE TIED CARD OF 'timeboundlaw03.ParseRaw'. -/
def parseRawCard : Claim7 := { stood := { row := parseRawRow, standIns := [], harness := (true, "ade6f8b8a6c28fb42adbd92ba68fa1302141f9c1fd3b9ca930f4d5cf338f862b"), looks := true }, kinds := [], alts := [], laidByText := true, laidKinds := [.widerDeep, .widerDeep, .widerDeep, .widerDeep], laidTests := true, laidLooks := .later }
def ParseRawCardSaid : Prop := Claim7.holds Tryd.pinned (.plain (OpenSpec.ofChange parseRawSpec)) parseRawCard

/-- THE TIED CARD OF 'timeboundlaw03.ParseWords'. -/
def parseWordsCard : Claim7 := { stood := { row := parseWordsRow, standIns := [], harness := (true, "ade6f8b8a6c28fb42adbd92ba68fa1302141f9c1fd3b9ca930f4d5cf338f862b"), looks := true }, kinds := [], alts := [], laidByText := true, laidKinds := [.widerDeep, .widerDeep, .widerDeep, .widerDeep], laidTests := true, laidLooks := .later }
def ParseWordsCardSaid : Prop := Claim7.holds Tryd.pinned (.plain (OpenSpec.ofChange parseWordsSpec)) parseWordsCard

/-- THE TIED CARD OF 'timeboundlaw03.ParseLines'. -/
def parseLinesCard : Claim7 := { stood := { row := parseLinesRow, standIns := [], harness := (true, "ade6f8b8a6c28fb42adbd92ba68fa1302141f9c1fd3b9ca930f4d5cf338f862b"), looks := true }, kinds := [], alts := [], laidByText := true, laidKinds := [.widerDeep, .widerDeep, .widerDeep, .widerDeep], laidTests := true, laidLooks := .later }
def ParseLinesCardSaid : Prop := Claim7.holds Tryd.pinned (.plain (OpenSpec.ofChange parseLinesSpec)) parseLinesCard

/-- THE SECOND FORM's CARD OF 'timeboundlaw03.ParseExprs'. -/
def parseExprsUptoCard : Claim7 := { stood := { row := parseExprsUptoRow, standIns := [], harness := (true, "ade6f8b8a6c28fb42adbd92ba68fa1302141f9c1fd3b9ca930f4d5cf338f862b"), looks := true }, kinds := [], alts := [], laidByText := true, laidKinds := [.widerDeep, .widerDeep, .widerDeep, .widerDeep], laidTests := true, laidLooks := .later }
def ParseExprsUptoCardSaid : Prop := Claim7.holds Tryd.pinned (.plain (OpenSpec.upto parseExprsSpec)) parseExprsUptoCard

/-- THE SECOND FORM's CARD OF 'timeboundlaw03.ParseParens'. -/
def parseParensUptoCard : Claim7 := { stood := { row := parseParensUptoRow, standIns := [], harness := (true, "ade6f8b8a6c28fb42adbd92ba68fa1302141f9c1fd3b9ca930f4d5cf338f862b"), looks := true }, kinds := [], alts := [], laidByText := true, laidKinds := [.widerDeep, .widerDeep, .widerDeep, .widerDeep], laidTests := true, laidLooks := .later }
def ParseParensUptoCardSaid : Prop := Claim7.holds Tryd.pinned (.plain (OpenSpec.upto parseParensSpec)) parseParensUptoCard

/-- THE SECOND FORM's CARD OF 'timeboundlaw02.TokenRaw'. -/
def tokenRawUptoCard : Claim7 := { stood := { row := tokenRawUptoRow, standIns := [], harness := (true, "ade6f8b8a6c28fb42adbd92ba68fa1302141f9c1fd3b9ca930f4d5cf338f862b"), looks := true }, kinds := [], alts := [], laidByText := true, laidKinds := [.data, .data, .data], laidTests := true, laidLooks := .later }
def TokenRawUptoCardSaid : Prop := Claim7.holds Tryd.pinned (.plain (OpenSpec.upto tokenRawSpec)) tokenRawUptoCard

/-- THE SECOND FORM's CARD OF 'timeboundlaw02.TokenPieces'. -/
def tokenPiecesUptoCard : Claim7 := { stood := { row := tokenPiecesUptoRow, standIns := [], harness := (true, "ade6f8b8a6c28fb42adbd92ba68fa1302141f9c1fd3b9ca930f4d5cf338f862b"), looks := true }, kinds := [], alts := [], laidByText := true, laidKinds := [.data, .data, .data], laidTests := true, laidLooks := .later }
def TokenPiecesUptoCardSaid : Prop := Claim7.holds Tryd.pinned (.plain (OpenSpec.upto tokenPiecesSpec)) tokenPiecesUptoCard

/-- THE SECOND FORM's CARD OF 'timeboundlaw02.TokenAgain'. -/
def tokenAgainUptoCard : Claim7 := { stood := { row := tokenAgainUptoRow, standIns := [], harness := (true, "ade6f8b8a6c28fb42adbd92ba68fa1302141f9c1fd3b9ca930f4d5cf338f862b"), looks := true }, kinds := [], alts := [], laidByText := true, laidKinds := [.data, .data, .data], laidTests := true, laidLooks := .later }
def TokenAgainUptoCardSaid : Prop := Claim7.holds Tryd.pinned (.plain (OpenSpec.upto tokenAgainSpec)) tokenAgainUptoCard

/-- THE SECOND FORM's CARD OF 'timeboundlaw02.TokenPrograms'. -/
def tokenProgramsUptoCard : Claim7 := { stood := { row := tokenProgramsUptoRow, standIns := [], harness := (true, "ade6f8b8a6c28fb42adbd92ba68fa1302141f9c1fd3b9ca930f4d5cf338f862b"), looks := true }, kinds := [], alts := [], laidByText := true, laidKinds := [.data, .data, .data], laidTests := true, laidLooks := .later }
def TokenProgramsUptoCardSaid : Prop := Claim7.holds Tryd.pinned (.plain (OpenSpec.upto tokenProgramsSpec)) tokenProgramsUptoCard

/-- THE SECOND FORM's CARD OF 'timeboundlaw02.TokenSpaces'. -/
def tokenSpacesUptoCard : Claim7 := { stood := { row := tokenSpacesUptoRow, standIns := [], harness := (true, "ade6f8b8a6c28fb42adbd92ba68fa1302141f9c1fd3b9ca930f4d5cf338f862b"), looks := true }, kinds := [], alts := [], laidByText := true, laidKinds := [.data, .data, .data], laidTests := true, laidLooks := .later }
def TokenSpacesUptoCardSaid : Prop := Claim7.holds Tryd.pinned (.plain (OpenSpec.upto tokenSpacesSpec)) tokenSpacesUptoCard

/-- THE SECOND FORM's CARD OF 'timeboundlaw04.PrintDeep'. -/
def printDeepUptoCard : Claim7 := { stood := { row := printDeepUptoRow, standIns := [], harness := (true, "ade6f8b8a6c28fb42adbd92ba68fa1302141f9c1fd3b9ca930f4d5cf338f862b"), looks := true }, kinds := [], alts := [], laidByText := true, laidKinds := [.data, .data, .data, .widerDeep, .widerDeep], laidTests := true, laidLooks := .later }
def PrintDeepUptoCardSaid : Prop := Claim7.holds Tryd.pinned (.plain (OpenSpec.upto printDeepSpec)) printDeepUptoCard

/-- THE SECOND FORM's CARD OF 'timeboundlaw03.ParseRaw'. -/
def parseRawUptoCard : Claim7 := { stood := { row := parseRawUptoRow, standIns := [], harness := (true, "ade6f8b8a6c28fb42adbd92ba68fa1302141f9c1fd3b9ca930f4d5cf338f862b"), looks := true }, kinds := [], alts := [], laidByText := true, laidKinds := [.widerDeep, .widerDeep, .widerDeep, .widerDeep], laidTests := true, laidLooks := .later }
def ParseRawUptoCardSaid : Prop := Claim7.holds Tryd.pinned (.plain (OpenSpec.upto parseRawSpec)) parseRawUptoCard

/-- THE SECOND FORM's CARD OF 'timeboundlaw03.ParseWords'. -/
def parseWordsUptoCard : Claim7 := { stood := { row := parseWordsUptoRow, standIns := [], harness := (true, "ade6f8b8a6c28fb42adbd92ba68fa1302141f9c1fd3b9ca930f4d5cf338f862b"), looks := true }, kinds := [], alts := [], laidByText := true, laidKinds := [.widerDeep, .widerDeep, .widerDeep, .widerDeep], laidTests := true, laidLooks := .later }
def ParseWordsUptoCardSaid : Prop := Claim7.holds Tryd.pinned (.plain (OpenSpec.upto parseWordsSpec)) parseWordsUptoCard

/-- THE SECOND FORM's CARD OF 'timeboundlaw03.ParseLines'. -/
def parseLinesUptoCard : Claim7 := { stood := { row := parseLinesUptoRow, standIns := [], harness := (true, "ade6f8b8a6c28fb42adbd92ba68fa1302141f9c1fd3b9ca930f4d5cf338f862b"), looks := true }, kinds := [], alts := [], laidByText := true, laidKinds := [.widerDeep, .widerDeep, .widerDeep, .widerDeep], laidTests := true, laidLooks := .later }
def ParseLinesUptoCardSaid : Prop := Claim7.holds Tryd.pinned (.plain (OpenSpec.upto parseLinesSpec)) parseLinesUptoCard
end Rows
end Go.Proofs.YtcnmejahighkfaaDoor
