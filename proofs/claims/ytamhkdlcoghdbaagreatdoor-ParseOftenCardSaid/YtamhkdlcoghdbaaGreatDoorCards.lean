/-
  DERIVED. GIVEN WITH THE SEED: THE CARDS: each row of YtamhkdlcoghdbaaGreatDoorRows.lean that lists a variable, with what it lists TIED to the program's text (the seventh form; the later family's looks); each row that meets fmt, with fmt's text TOLD by the authors' own Lean function (tested against real Go, not proved from fmt's source: count such statements apart). THE CARD IS WHAT COUNTS. Prove the row's statement (the work); the ties are given (YtamhkdlcoghdbaaGreatDoorTie.lean); close each card by the builder's one call (the guide's Derived/Test/ToyasCard.lean, 'card_holds'). Laid BY PROGRAM, IN A SANDBOX (cutbox-door.mjs). By AI agents, Wed Nov 11 2026. No macro, syntax, notation, axiom, sorry.
-/
import Derived.Test.YtamhkdlcoghdbaaGreatDoorRows
import GoSem.ClaimSeven
namespace Go.Proofs.YtamhkdlcoghdbaaGreatDoor
namespace Rows

/-- THE TIED CARD OF 'dredgelaw07.LexerReads'. -/
def lexerReadsCard : Claim7 := { stood := { row := lexerReadsRow, standIns := [], harness := (true, "9eba7e2e07fb4f9dc5d4e865b65b82efb9c189ccd385efd6d8e56b032c7d01aa"), looks := true }, kinds := [], alts := [], laidByText := true, laidKinds := [.data, .pinned], laidTests := true, laidLooks := .later }
def LexerReadsCardSaid : Prop := Claim7.holds Tryz.pinned (.plain (OpenSpec.ofChange lexerReadsSpec)) lexerReadsCard

/-- THE TIED CARD OF 'dredgelaw09.ParseReads'. -/
def parseReadsCard : Claim7 := { stood := { row := parseReadsRow, standIns := [], harness := (true, "9eba7e2e07fb4f9dc5d4e865b65b82efb9c189ccd385efd6d8e56b032c7d01aa"), looks := true }, kinds := [], alts := [], laidByText := true, laidKinds := [.data, .pinned], laidTests := true, laidLooks := .later }
def ParseReadsCardSaid : Prop := Claim7.holds Tryz.pinned (.plain (OpenSpec.ofChange parseReadsSpec)) parseReadsCard

/-- THE TIED CARD OF 'dredgelaw09.ParseGroup'. -/
def parseGroupCard : Claim7 := { stood := { row := parseGroupRow, standIns := [], harness := (true, "9eba7e2e07fb4f9dc5d4e865b65b82efb9c189ccd385efd6d8e56b032c7d01aa"), looks := true }, kinds := [], alts := [], laidByText := true, laidKinds := [.data, .pinned], laidTests := true, laidLooks := .later }
def ParseGroupCardSaid : Prop := Claim7.holds Tryz.pinned (.plain (OpenSpec.ofChange parseGroupSpec)) parseGroupCard

/-- THE TIED CARD OF 'dredgelaw09.ParseOften'. -/
def parseOftenCard : Claim7 := { stood := { row := parseOftenRow, standIns := [], harness := (true, "9eba7e2e07fb4f9dc5d4e865b65b82efb9c189ccd385efd6d8e56b032c7d01aa"), looks := true }, kinds := [], alts := [], laidByText := true, laidKinds := [.data, .pinned], laidTests := true, laidLooks := .later }
def ParseOftenCardSaid : Prop := Claim7.holds Tryz.pinned (.plain (OpenSpec.ofChange parseOftenSpec)) parseOftenCard

/-- THE TIED CARD OF 'dredgelaw09.ParseLiteral'. -/
def parseLiteralCard : Claim7 := { stood := { row := parseLiteralRow, standIns := [], harness := (true, "9eba7e2e07fb4f9dc5d4e865b65b82efb9c189ccd385efd6d8e56b032c7d01aa"), looks := true }, kinds := [], alts := [], laidByText := true, laidKinds := [.data, .pinned], laidTests := true, laidLooks := .later }
def ParseLiteralCardSaid : Prop := Claim7.holds Tryz.pinned (.plain (OpenSpec.ofChange parseLiteralSpec)) parseLiteralCard

/-- THE TIED CARD OF 'dredgelaw09.ParseSound'. -/
def parseSoundCard : Claim7 := { stood := { row := parseSoundRow, standIns := [], harness := (true, "9eba7e2e07fb4f9dc5d4e865b65b82efb9c189ccd385efd6d8e56b032c7d01aa"), looks := true }, kinds := [], alts := [], laidByText := true, laidKinds := [.data, .pinned], laidTests := true, laidLooks := .later }
def ParseSoundCardSaid : Prop := Claim7.holds Tryz.pinned (.plain (OpenSpec.ofChange parseSoundSpec)) parseSoundCard

/-- THE TIED CARD OF 'dredgelaw10.ShowPrints'. -/
def showPrintsCard : Claim7 := { stood := { row := showPrintsRow, standIns := [], harness := (true, "9eba7e2e07fb4f9dc5d4e865b65b82efb9c189ccd385efd6d8e56b032c7d01aa"), looks := true }, kinds := [], alts := [], laidByText := true, laidKinds := [.data, .data, .data, .data, .pinned], laidTests := true, laidLooks := .later }
def ShowPrintsCardSaid : Prop := Claim7.holds Tryz.pinned (.plain (OpenSpec.ofChange showPrintsSpec)) showPrintsCard

/-- THE TIED CARD OF 'dredgelaw10.ShowApart'. -/
def showApartCard : Claim7 := { stood := { row := showApartRow, standIns := [], harness := (true, "9eba7e2e07fb4f9dc5d4e865b65b82efb9c189ccd385efd6d8e56b032c7d01aa"), looks := true }, kinds := [], alts := [], laidByText := true, laidKinds := [.data, .data, .data, .data, .pinned], laidTests := true, laidLooks := .later }
def ShowApartCardSaid : Prop := Claim7.holds Tryz.pinned (.plain (OpenSpec.ofChange showApartSpec)) showApartCard

/-- THE TIED CARD OF 'dredgelaw10.ShowAgain'. -/
def showAgainCard : Claim7 := { stood := { row := showAgainRow, standIns := [], harness := (true, "9eba7e2e07fb4f9dc5d4e865b65b82efb9c189ccd385efd6d8e56b032c7d01aa"), looks := true }, kinds := [], alts := [], laidByText := true, laidKinds := [.data, .data, .data, .data, .pinned], laidTests := true, laidLooks := .later }
def ShowAgainCardSaid : Prop := Claim7.holds Tryz.pinned (.plain (OpenSpec.ofChange showAgainSpec)) showAgainCard

/-- THE SECOND FORM's CARD OF 'dredgelaw07.LexerReads'. -/
def lexerReadsUptoCard : Claim7 := { stood := { row := lexerReadsUptoRow, standIns := [], harness := (true, "9eba7e2e07fb4f9dc5d4e865b65b82efb9c189ccd385efd6d8e56b032c7d01aa"), looks := true }, kinds := [], alts := [], laidByText := true, laidKinds := [.data, .pinned], laidTests := true, laidLooks := .later }
def LexerReadsUptoCardSaid : Prop := Claim7.holds Tryz.pinned (.plain (OpenSpec.upto lexerReadsSpec)) lexerReadsUptoCard

/-- THE SECOND FORM's CARD OF 'dredgelaw09.ParseReads'. -/
def parseReadsUptoCard : Claim7 := { stood := { row := parseReadsUptoRow, standIns := [], harness := (true, "9eba7e2e07fb4f9dc5d4e865b65b82efb9c189ccd385efd6d8e56b032c7d01aa"), looks := true }, kinds := [], alts := [], laidByText := true, laidKinds := [.data, .pinned], laidTests := true, laidLooks := .later }
def ParseReadsUptoCardSaid : Prop := Claim7.holds Tryz.pinned (.plain (OpenSpec.upto parseReadsSpec)) parseReadsUptoCard

/-- THE SECOND FORM's CARD OF 'dredgelaw09.ParseGroup'. -/
def parseGroupUptoCard : Claim7 := { stood := { row := parseGroupUptoRow, standIns := [], harness := (true, "9eba7e2e07fb4f9dc5d4e865b65b82efb9c189ccd385efd6d8e56b032c7d01aa"), looks := true }, kinds := [], alts := [], laidByText := true, laidKinds := [.data, .pinned], laidTests := true, laidLooks := .later }
def ParseGroupUptoCardSaid : Prop := Claim7.holds Tryz.pinned (.plain (OpenSpec.upto parseGroupSpec)) parseGroupUptoCard

/-- THE SECOND FORM's CARD OF 'dredgelaw09.ParseOften'. -/
def parseOftenUptoCard : Claim7 := { stood := { row := parseOftenUptoRow, standIns := [], harness := (true, "9eba7e2e07fb4f9dc5d4e865b65b82efb9c189ccd385efd6d8e56b032c7d01aa"), looks := true }, kinds := [], alts := [], laidByText := true, laidKinds := [.data, .pinned], laidTests := true, laidLooks := .later }
def ParseOftenUptoCardSaid : Prop := Claim7.holds Tryz.pinned (.plain (OpenSpec.upto parseOftenSpec)) parseOftenUptoCard

/-- THE SECOND FORM's CARD OF 'dredgelaw09.ParseLiteral'. -/
def parseLiteralUptoCard : Claim7 := { stood := { row := parseLiteralUptoRow, standIns := [], harness := (true, "9eba7e2e07fb4f9dc5d4e865b65b82efb9c189ccd385efd6d8e56b032c7d01aa"), looks := true }, kinds := [], alts := [], laidByText := true, laidKinds := [.data, .pinned], laidTests := true, laidLooks := .later }
def ParseLiteralUptoCardSaid : Prop := Claim7.holds Tryz.pinned (.plain (OpenSpec.upto parseLiteralSpec)) parseLiteralUptoCard

/-- THE SECOND FORM's CARD OF 'dredgelaw09.ParseSound'. -/
def parseSoundUptoCard : Claim7 := { stood := { row := parseSoundUptoRow, standIns := [], harness := (true, "9eba7e2e07fb4f9dc5d4e865b65b82efb9c189ccd385efd6d8e56b032c7d01aa"), looks := true }, kinds := [], alts := [], laidByText := true, laidKinds := [.data, .pinned], laidTests := true, laidLooks := .later }
def ParseSoundUptoCardSaid : Prop := Claim7.holds Tryz.pinned (.plain (OpenSpec.upto parseSoundSpec)) parseSoundUptoCard

/-- THE SECOND FORM's CARD OF 'dredgelaw10.ShowPrints'. -/
def showPrintsUptoCard : Claim7 := { stood := { row := showPrintsUptoRow, standIns := [], harness := (true, "9eba7e2e07fb4f9dc5d4e865b65b82efb9c189ccd385efd6d8e56b032c7d01aa"), looks := true }, kinds := [], alts := [], laidByText := true, laidKinds := [.data, .data, .data, .data, .pinned], laidTests := true, laidLooks := .later }
def ShowPrintsUptoCardSaid : Prop := Claim7.holds Tryz.pinned (.plain (OpenSpec.upto showPrintsSpec)) showPrintsUptoCard

/-- THE SECOND FORM's CARD OF 'dredgelaw10.ShowApart'. -/
def showApartUptoCard : Claim7 := { stood := { row := showApartUptoRow, standIns := [], harness := (true, "9eba7e2e07fb4f9dc5d4e865b65b82efb9c189ccd385efd6d8e56b032c7d01aa"), looks := true }, kinds := [], alts := [], laidByText := true, laidKinds := [.data, .data, .data, .data, .pinned], laidTests := true, laidLooks := .later }
def ShowApartUptoCardSaid : Prop := Claim7.holds Tryz.pinned (.plain (OpenSpec.upto showApartSpec)) showApartUptoCard

/-- THE SECOND FORM's CARD OF 'dredgelaw10.ShowAgain'. -/
def showAgainUptoCard : Claim7 := { stood := { row := showAgainUptoRow, standIns := [], harness := (true, "9eba7e2e07fb4f9dc5d4e865b65b82efb9c189ccd385efd6d8e56b032c7d01aa"), looks := true }, kinds := [], alts := [], laidByText := true, laidKinds := [.data, .data, .data, .data, .pinned], laidTests := true, laidLooks := .later }
def ShowAgainUptoCardSaid : Prop := Claim7.holds Tryz.pinned (.plain (OpenSpec.upto showAgainSpec)) showAgainUptoCard
end Rows
end Go.Proofs.YtamhkdlcoghdbaaGreatDoor
