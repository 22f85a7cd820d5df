/-
  DERIVED. GIVEN WITH THE SEED: THE CARDS: each row of YtamhkdlcoghdbaaDoorRows.lean that lists a variable, with what it lists TIED to the program's text (the seventh form; the later family's looks); each row that meets fmt, with fmt's text TOLD by the authors' own Lean function (tested against real Go, not proved from fmt's source: count such statements apart). THE CARD IS WHAT COUNTS. Prove the row's statement (the work); the ties are given (YtamhkdlcoghdbaaDoorTie.lean); close each card by the builder's one call (the guide's Derived/Test/ToyasCard.lean, 'card_holds'). Laid BY PROGRAM, IN A SANDBOX (cutbox-door.mjs). By AI agents, Wed Nov 11 2026. No macro, syntax, notation, axiom, sorry.
-/
import Derived.Test.YtamhkdlcoghdbaaDoorRows
import GoSem.ClaimSeven
namespace Go.Proofs.YtamhkdlcoghdbaaDoor
namespace Rows

/-- THE TIED CARD OF 'dredgelaw08.TreeSpells'. -/
def treeSpellsCard : Claim7 := { stood := { row := treeSpellsRow, standIns := [], harness := (true, "9daf41214732af70fb8ae7f5aae76e290871eed073965ac48223bbda5e00a090"), looks := true }, kinds := [], alts := [], laidByText := true, laidKinds := [.data, .pinned], laidTests := true, laidLooks := .later }
def TreeSpellsCardSaid : Prop := Claim7.holds Tryd.pinned (.plain (OpenSpec.ofChange treeSpellsSpec)) treeSpellsCard

/-- THE TIED CARD OF 'dredgelaw08.TreeLiteral'. -/
def treeLiteralCard : Claim7 := { stood := { row := treeLiteralRow, standIns := [], harness := (true, "9daf41214732af70fb8ae7f5aae76e290871eed073965ac48223bbda5e00a090"), looks := true }, kinds := [], alts := [], laidByText := true, laidKinds := [.data, .pinned], laidTests := true, laidLooks := .later }
def TreeLiteralCardSaid : Prop := Claim7.holds Tryd.pinned (.plain (OpenSpec.ofChange treeLiteralSpec)) treeLiteralCard

/-- THE TIED CARD OF 'dredgelaw07.LexerStands'. -/
def lexerStandsCard : Claim7 := { stood := { row := lexerStandsRow, standIns := [], harness := (true, "9daf41214732af70fb8ae7f5aae76e290871eed073965ac48223bbda5e00a090"), looks := true }, kinds := [], alts := [], laidByText := true, laidKinds := [.data, .pinned], laidTests := true, laidLooks := .later }
def LexerStandsCardSaid : Prop := Claim7.holds Tryd.pinned (.plain (OpenSpec.ofChange lexerStandsSpec)) lexerStandsCard

/-- THE TIED CARD OF 'dredgelaw07.LexerPlain'. -/
def lexerPlainCard : Claim7 := { stood := { row := lexerPlainRow, standIns := [], harness := (true, "9daf41214732af70fb8ae7f5aae76e290871eed073965ac48223bbda5e00a090"), looks := true }, kinds := [], alts := [], laidByText := true, laidKinds := [.data, .pinned], laidTests := true, laidLooks := .later }
def LexerPlainCardSaid : Prop := Claim7.holds Tryd.pinned (.plain (OpenSpec.ofChange lexerPlainSpec)) lexerPlainCard

/-- THE TIED CARD OF 'dredgelaw07.LexerAround'. -/
def lexerAroundCard : Claim7 := { stood := { row := lexerAroundRow, standIns := [], harness := (true, "9daf41214732af70fb8ae7f5aae76e290871eed073965ac48223bbda5e00a090"), looks := true }, kinds := [], alts := [], laidByText := true, laidKinds := [.data, .pinned], laidTests := true, laidLooks := .later }
def LexerAroundCardSaid : Prop := Claim7.holds Tryd.pinned (.plain (OpenSpec.ofChange lexerAroundSpec)) lexerAroundCard

/-- THE TIED CARD OF 'dredgelaw07.LexerNumbers'. -/
def lexerNumbersCard : Claim7 := { stood := { row := lexerNumbersRow, standIns := [], harness := (true, "9daf41214732af70fb8ae7f5aae76e290871eed073965ac48223bbda5e00a090"), looks := true }, kinds := [], alts := [], laidByText := true, laidKinds := [.data, .pinned], laidTests := true, laidLooks := .later }
def LexerNumbersCardSaid : Prop := Claim7.holds Tryd.pinned (.plain (OpenSpec.ofChange lexerNumbersSpec)) lexerNumbersCard

/-- THE SECOND FORM's CARD OF 'dredgelaw08.TreeSpells'. -/
def treeSpellsUptoCard : Claim7 := { stood := { row := treeSpellsUptoRow, standIns := [], harness := (true, "9daf41214732af70fb8ae7f5aae76e290871eed073965ac48223bbda5e00a090"), looks := true }, kinds := [], alts := [], laidByText := true, laidKinds := [.data, .pinned], laidTests := true, laidLooks := .later }
def TreeSpellsUptoCardSaid : Prop := Claim7.holds Tryd.pinned (.plain (OpenSpec.upto treeSpellsSpec)) treeSpellsUptoCard

/-- THE SECOND FORM's CARD OF 'dredgelaw08.TreeLiteral'. -/
def treeLiteralUptoCard : Claim7 := { stood := { row := treeLiteralUptoRow, standIns := [], harness := (true, "9daf41214732af70fb8ae7f5aae76e290871eed073965ac48223bbda5e00a090"), looks := true }, kinds := [], alts := [], laidByText := true, laidKinds := [.data, .pinned], laidTests := true, laidLooks := .later }
def TreeLiteralUptoCardSaid : Prop := Claim7.holds Tryd.pinned (.plain (OpenSpec.upto treeLiteralSpec)) treeLiteralUptoCard

/-- THE SECOND FORM's CARD OF 'dredgelaw07.LexerStands'. -/
def lexerStandsUptoCard : Claim7 := { stood := { row := lexerStandsUptoRow, standIns := [], harness := (true, "9daf41214732af70fb8ae7f5aae76e290871eed073965ac48223bbda5e00a090"), looks := true }, kinds := [], alts := [], laidByText := true, laidKinds := [.data, .pinned], laidTests := true, laidLooks := .later }
def LexerStandsUptoCardSaid : Prop := Claim7.holds Tryd.pinned (.plain (OpenSpec.upto lexerStandsSpec)) lexerStandsUptoCard

/-- THE SECOND FORM's CARD OF 'dredgelaw07.LexerPlain'. -/
def lexerPlainUptoCard : Claim7 := { stood := { row := lexerPlainUptoRow, standIns := [], harness := (true, "9daf41214732af70fb8ae7f5aae76e290871eed073965ac48223bbda5e00a090"), looks := true }, kinds := [], alts := [], laidByText := true, laidKinds := [.data, .pinned], laidTests := true, laidLooks := .later }
def LexerPlainUptoCardSaid : Prop := Claim7.holds Tryd.pinned (.plain (OpenSpec.upto lexerPlainSpec)) lexerPlainUptoCard

/-- THE SECOND FORM's CARD OF 'dredgelaw07.LexerAround'. -/
def lexerAroundUptoCard : Claim7 := { stood := { row := lexerAroundUptoRow, standIns := [], harness := (true, "9daf41214732af70fb8ae7f5aae76e290871eed073965ac48223bbda5e00a090"), looks := true }, kinds := [], alts := [], laidByText := true, laidKinds := [.data, .pinned], laidTests := true, laidLooks := .later }
def LexerAroundUptoCardSaid : Prop := Claim7.holds Tryd.pinned (.plain (OpenSpec.upto lexerAroundSpec)) lexerAroundUptoCard

/-- THE SECOND FORM's CARD OF 'dredgelaw07.LexerNumbers'. -/
def lexerNumbersUptoCard : Claim7 := { stood := { row := lexerNumbersUptoRow, standIns := [], harness := (true, "9daf41214732af70fb8ae7f5aae76e290871eed073965ac48223bbda5e00a090"), looks := true }, kinds := [], alts := [], laidByText := true, laidKinds := [.data, .pinned], laidTests := true, laidLooks := .later }
def LexerNumbersUptoCardSaid : Prop := Claim7.holds Tryd.pinned (.plain (OpenSpec.upto lexerNumbersSpec)) lexerNumbersUptoCard
end Rows
end Go.Proofs.YtamhkdlcoghdbaaDoor
