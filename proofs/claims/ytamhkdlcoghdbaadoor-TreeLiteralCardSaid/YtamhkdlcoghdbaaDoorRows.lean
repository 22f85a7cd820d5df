/-
  NARROWER THAN 'FOR EVERY INPUT', by the rows' own cells (each row's printed sentence says how): TreeSpells: laid · TreeLiteral: laid · LexerStands: laid · LexerPlain: laid · LexerAround: laid · LexerNumbers: laid.
  DERIVED. THE GIVEN ROWS OF THIS SEAT. 6 by the template 'for every input the law returns true; each argument reads behind the call as it read before'; 0 by the template 'total and deterministic' (their statements: YtamhkdlcoghdbaaDoorTotals.lean).
  GIVEN WITH THE SEED: the statements are not yours to turn. If you find one false, say at which input.
  Laid BY PROGRAM, IN A SANDBOX (cutbox-rows.mjs): the forced cells as the released guide's own fill.sh prints them over the translation ddb02d421342068f… (all of the seat's roots in one cut). By AI agents, Wed Nov 11 2026. No macro, syntax, notation, axiom, sorry.
-/
import Derived.Test.YtamhkdlcoghdbaaDoorChecked
import GoSem.PinnedTables
import GoSem.Claim
import GoSem.ClaimJoined
import GoSem.ClaimMapViews
import Derived.JoinedTies
import Derived.KernelRfl
namespace Go.Proofs.YtamhkdlcoghdbaaDoor
/- THE CELL 'sum', in the pinned program and in every row, IS THE sha256 OF THE DUMP (.gsa) THAT YtamhkdlcoghdbaaDoorProg.lean LOADS. Nothing in Lean hashes anything: it is a label: what it is worth is what the hold of that sum in a sandbox is worth. -/
noncomputable def Tryd.pinned : Pinned := { name := "ytamhkdlcoghdbaadoor", sum := "ddb02d421342068ff146bdab7873a7acbca86e8955e26bdaf66fb65166cc7385", checked := Tryd.checked }
namespace Rows
def none {H : Type} : Left H := { results := [], args := [] }

/- WHAT THE LISTED PACKAGE-LEVEL VARIABLES READ AS WHEN THE CALL BEGINS. Each datum BY PROGRAM (the guide's laid-datum.mjs) off the statement by which the dump's own 'gosem.cut.vars' lays the variable. In a bare row this is a premise. The card (YtamhkdlcoghdbaaDoorCards.lean) ties it to the program's text. -/
def laid_unicode_utf8_acceptRanges {H : Type} : DataW H := .agg [.agg [.lit (.int .u8 128), .lit (.int .u8 191)], .agg [.lit (.int .u8 160), .lit (.int .u8 191)], .agg [.lit (.int .u8 128), .lit (.int .u8 159)], .agg [.lit (.int .u8 144), .lit (.int .u8 191)], .agg [.lit (.int .u8 128), .lit (.int .u8 143)], .agg [.lit (.int .u8 0), .lit (.int .u8 0)], .agg [.lit (.int .u8 0), .lit (.int .u8 0)], .agg [.lit (.int .u8 0), .lit (.int .u8 0)], .agg [.lit (.int .u8 0), .lit (.int .u8 0)], .agg [.lit (.int .u8 0), .lit (.int .u8 0)], .agg [.lit (.int .u8 0), .lit (.int .u8 0)], .agg [.lit (.int .u8 0), .lit (.int .u8 0)], .agg [.lit (.int .u8 0), .lit (.int .u8 0)], .agg [.lit (.int .u8 0), .lit (.int .u8 0)], .agg [.lit (.int .u8 0), .lit (.int .u8 0)], .agg [.lit (.int .u8 0), .lit (.int .u8 0)]]
/-- One of Go's own tables, pinned by name: the form's constant. -/
def laid_unicode_utf8_first : DataW Unit := Go.Pinned.utf8First

/-- 'dredgelaw08.TreeSpells': WHATEVER THE INPUT: true; the input reads as it did. -/
def treeSpellsSpec : ChangeSpec := { name := "treeSpells", fn := fun _ => fun
  | [d1, d2, d3] => { results := [.lit (.bool true)], args := [d1, d2, d3] }
  | _ => none }
def treeSpellsRow : OpenClaim := { program := "ytamhkdlcoghdbaadoor", sum := "ddb02d421342068ff146bdab7873a7acbca86e8955e26bdaf66fb65166cc7385", func := "dredge/dredgelaw08.TreeSpells", spec := "treeSpells", unfollowed := true, recurses := true, named := ["unicode/utf8.first", "unicode/utf8.acceptRanges"], apart := false, laid := [("unicode/utf8.acceptRanges", laid_unicode_utf8_acceptRanges), ("unicode/utf8.first", laid_unicode_utf8_first)] }
def TreeSpellsSaid : Prop := treeSpellsRow.holds Tryd.pinned (OpenSpec.ofChange treeSpellsSpec)

/-- ITS FALSE NEIGHBOUR: 'it returns false'. Refute it at one input. -/
def treeSpellsWrong : ChangeSpec := { name := "treeSpells", fn := fun _ => fun
  | [d1, d2, d3] => { results := [.lit (.bool false)], args := [d1, d2, d3] }
  | _ => none }
def TreeSpellsWrongFalsely : Prop := treeSpellsRow.holds Tryd.pinned (OpenSpec.ofChange treeSpellsWrong)

/-- 'dredgelaw08.TreeLiteral': WHATEVER THE INPUT: true; the input reads as it did. -/
def treeLiteralSpec : ChangeSpec := { name := "treeLiteral", fn := fun _ => fun
  | [d1, d2] => { results := [.lit (.bool true)], args := [d1, d2] }
  | _ => none }
def treeLiteralRow : OpenClaim := { program := "ytamhkdlcoghdbaadoor", sum := "ddb02d421342068ff146bdab7873a7acbca86e8955e26bdaf66fb65166cc7385", func := "dredge/dredgelaw08.TreeLiteral", spec := "treeLiteral", unfollowed := true, recurses := true, named := ["unicode/utf8.first", "unicode/utf8.acceptRanges"], apart := false, laid := [("unicode/utf8.acceptRanges", laid_unicode_utf8_acceptRanges), ("unicode/utf8.first", laid_unicode_utf8_first)] }
def TreeLiteralSaid : Prop := treeLiteralRow.holds Tryd.pinned (OpenSpec.ofChange treeLiteralSpec)

/-- ITS FALSE NEIGHBOUR: 'it returns false'. Refute it at one input. -/
def treeLiteralWrong : ChangeSpec := { name := "treeLiteral", fn := fun _ => fun
  | [d1, d2] => { results := [.lit (.bool false)], args := [d1, d2] }
  | _ => none }
def TreeLiteralWrongFalsely : Prop := treeLiteralRow.holds Tryd.pinned (OpenSpec.ofChange treeLiteralWrong)

/-- 'dredgelaw07.LexerStands': WHATEVER THE INPUT: true; the input reads as it did. -/
def lexerStandsSpec : ChangeSpec := { name := "lexerStands", fn := fun _ => fun
  | [d1, d2] => { results := [.lit (.bool true)], args := [d1, d2] }
  | _ => none }
def lexerStandsRow : OpenClaim := { program := "ytamhkdlcoghdbaadoor", sum := "ddb02d421342068ff146bdab7873a7acbca86e8955e26bdaf66fb65166cc7385", func := "dredge/dredgelaw07.LexerStands", spec := "lexerStands", inPlace := ["internal/bytealg.IndexByteString", "internal/bytealg.IndexString"], unfollowed := true, recurses := true, named := ["unicode/utf8.first", "unicode/utf8.acceptRanges", "internal/bytealg.MaxLen"], apart := false, laid := [("unicode/utf8.acceptRanges", laid_unicode_utf8_acceptRanges), ("unicode/utf8.first", laid_unicode_utf8_first)] }
def LexerStandsSaid : Prop := lexerStandsRow.holds Tryd.pinned (OpenSpec.ofChange lexerStandsSpec)

/-- ITS FALSE NEIGHBOUR: 'it returns false'. Refute it at one input. -/
def lexerStandsWrong : ChangeSpec := { name := "lexerStands", fn := fun _ => fun
  | [d1, d2] => { results := [.lit (.bool false)], args := [d1, d2] }
  | _ => none }
def LexerStandsWrongFalsely : Prop := lexerStandsRow.holds Tryd.pinned (OpenSpec.ofChange lexerStandsWrong)

/-- 'dredgelaw07.LexerPlain': WHATEVER THE INPUT: true; the input reads as it did. -/
def lexerPlainSpec : ChangeSpec := { name := "lexerPlain", fn := fun _ => fun
  | [d1, d2] => { results := [.lit (.bool true)], args := [d1, d2] }
  | _ => none }
def lexerPlainRow : OpenClaim := { program := "ytamhkdlcoghdbaadoor", sum := "ddb02d421342068ff146bdab7873a7acbca86e8955e26bdaf66fb65166cc7385", func := "dredge/dredgelaw07.LexerPlain", spec := "lexerPlain", inPlace := ["internal/bytealg.IndexByteString", "internal/bytealg.IndexString"], unfollowed := true, recurses := true, named := ["unicode/utf8.first", "unicode/utf8.acceptRanges", "internal/bytealg.MaxLen"], apart := false, laid := [("unicode/utf8.acceptRanges", laid_unicode_utf8_acceptRanges), ("unicode/utf8.first", laid_unicode_utf8_first)] }
def LexerPlainSaid : Prop := lexerPlainRow.holds Tryd.pinned (OpenSpec.ofChange lexerPlainSpec)

/-- ITS FALSE NEIGHBOUR: 'it returns false'. Refute it at one input. -/
def lexerPlainWrong : ChangeSpec := { name := "lexerPlain", fn := fun _ => fun
  | [d1, d2] => { results := [.lit (.bool false)], args := [d1, d2] }
  | _ => none }
def LexerPlainWrongFalsely : Prop := lexerPlainRow.holds Tryd.pinned (OpenSpec.ofChange lexerPlainWrong)

/-- 'dredgelaw07.LexerAround': WHATEVER THE INPUT: true; the input reads as it did. -/
def lexerAroundSpec : ChangeSpec := { name := "lexerAround", fn := fun _ => fun
  | [d1, d2] => { results := [.lit (.bool true)], args := [d1, d2] }
  | _ => none }
def lexerAroundRow : OpenClaim := { program := "ytamhkdlcoghdbaadoor", sum := "ddb02d421342068ff146bdab7873a7acbca86e8955e26bdaf66fb65166cc7385", func := "dredge/dredgelaw07.LexerAround", spec := "lexerAround", inPlace := ["internal/bytealg.IndexByteString", "internal/bytealg.IndexString"], unfollowed := true, recurses := true, named := ["unicode/utf8.first", "unicode/utf8.acceptRanges", "internal/bytealg.MaxLen"], apart := false, laid := [("unicode/utf8.acceptRanges", laid_unicode_utf8_acceptRanges), ("unicode/utf8.first", laid_unicode_utf8_first)] }
def LexerAroundSaid : Prop := lexerAroundRow.holds Tryd.pinned (OpenSpec.ofChange lexerAroundSpec)

/-- ITS FALSE NEIGHBOUR: 'it returns false'. Refute it at one input. -/
def lexerAroundWrong : ChangeSpec := { name := "lexerAround", fn := fun _ => fun
  | [d1, d2] => { results := [.lit (.bool false)], args := [d1, d2] }
  | _ => none }
def LexerAroundWrongFalsely : Prop := lexerAroundRow.holds Tryd.pinned (OpenSpec.ofChange lexerAroundWrong)

/-- 'dredgelaw07.LexerNumbers': WHATEVER THE INPUT: true; the input reads as it did. -/
def lexerNumbersSpec : ChangeSpec := { name := "lexerNumbers", fn := fun _ => fun
  | [d1, d2, d3] => { results := [.lit (.bool true)], args := [d1, d2, d3] }
  | _ => none }
def lexerNumbersRow : OpenClaim := { program := "ytamhkdlcoghdbaadoor", sum := "ddb02d421342068ff146bdab7873a7acbca86e8955e26bdaf66fb65166cc7385", func := "dredge/dredgelaw07.LexerNumbers", spec := "lexerNumbers", inPlace := ["internal/bytealg.IndexByteString", "internal/bytealg.IndexString"], unfollowed := true, recurses := true, named := ["unicode/utf8.first", "unicode/utf8.acceptRanges", "internal/bytealg.MaxLen"], apart := false, laid := [("unicode/utf8.acceptRanges", laid_unicode_utf8_acceptRanges), ("unicode/utf8.first", laid_unicode_utf8_first)] }
def LexerNumbersSaid : Prop := lexerNumbersRow.holds Tryd.pinned (OpenSpec.ofChange lexerNumbersSpec)

/-- ITS FALSE NEIGHBOUR: 'it returns false'. Refute it at one input. -/
def lexerNumbersWrong : ChangeSpec := { name := "lexerNumbers", fn := fun _ => fun
  | [d1, d2, d3] => { results := [.lit (.bool false)], args := [d1, d2, d3] }
  | _ => none }
def LexerNumbersWrongFalsely : Prop := lexerNumbersRow.holds Tryd.pinned (OpenSpec.ofChange lexerNumbersWrong)

/- THE SECOND FORM. 'bulk': how many values and letters a reading holds, each counted each time it is reached (what is shared counts as often as it is met; a slice's spare places count too). A statement '..UptoSaid' is the law's where the arguments, and the package variables that the reading takes, are together of bulk at most 1048576: NARROWER than '..Said'. Prove '..Said' where nothing that the law and all that it calls make is longer than what came in: it says more and counts as full. Else prove '..UptoSaid'. A law counts once. -/
mutual
def uptoBulk {H : Type} : DataW H → Nat
  | .lit (.string bytes) => bytes.length + 1
  | .lit _ => 1
  | .nil => 1
  | .ptr d => uptoBulk d + 1
  | .slice elems spare => uptoBulkAll elems + uptoBulkAll spare + 1
  | .agg parts => uptoBulkAll parts + 1
  | .iface _ d => uptoBulk d + 1
  | .map entries => uptoBulkEntries entries + 1
  | .held _ => 1
def uptoBulkAll {H : Type} : List (DataW H) → Nat
  | [] => 0
  | d :: r => uptoBulk d + uptoBulkAll r
def uptoBulkEntries {H : Type} : List (Lit × DataW H) → Nat
  | [] => 0
  | x :: r => uptoBulkEntry x + uptoBulkEntries r
def uptoBulkEntry {H : Type} : Lit × DataW H → Nat
  | (.string bytes, d) => bytes.length + uptoBulk d + 1
  | (_, d) => uptoBulk d + 1
 end
def uptoSmall : (H : Type) → List (DataW H) → Bool := fun _ ds => decide (uptoBulkAll ds ≤ 1048576)
def OpenSpec.upto (s : _root_.Go.ChangeSpec) : _root_.Go.OpenSpec := { _root_.Go.OpenSpec.ofChange s with cond := some uptoSmall }

/-- 'dredgelaw08.TreeSpells', WHERE WHAT IT READS IS OF BULK AT MOST 1048576: true; the input reads as it did. -/
def treeSpellsUptoRow : OpenClaim := { program := "ytamhkdlcoghdbaadoor", sum := "ddb02d421342068ff146bdab7873a7acbca86e8955e26bdaf66fb65166cc7385", func := "dredge/dredgelaw08.TreeSpells", spec := "treeSpells", unfollowed := true, recurses := true, named := ["unicode/utf8.first", "unicode/utf8.acceptRanges"], apart := false, laid := [("unicode/utf8.acceptRanges", laid_unicode_utf8_acceptRanges), ("unicode/utf8.first", laid_unicode_utf8_first)], narrowed := true }
def TreeSpellsUptoSaid : Prop := treeSpellsUptoRow.holds Tryd.pinned (OpenSpec.upto treeSpellsSpec)

/-- 'dredgelaw08.TreeLiteral', WHERE WHAT IT READS IS OF BULK AT MOST 1048576: true; the input reads as it did. -/
def treeLiteralUptoRow : OpenClaim := { program := "ytamhkdlcoghdbaadoor", sum := "ddb02d421342068ff146bdab7873a7acbca86e8955e26bdaf66fb65166cc7385", func := "dredge/dredgelaw08.TreeLiteral", spec := "treeLiteral", unfollowed := true, recurses := true, named := ["unicode/utf8.first", "unicode/utf8.acceptRanges"], apart := false, laid := [("unicode/utf8.acceptRanges", laid_unicode_utf8_acceptRanges), ("unicode/utf8.first", laid_unicode_utf8_first)], narrowed := true }
def TreeLiteralUptoSaid : Prop := treeLiteralUptoRow.holds Tryd.pinned (OpenSpec.upto treeLiteralSpec)

/-- 'dredgelaw07.LexerStands', WHERE WHAT IT READS IS OF BULK AT MOST 1048576: true; the input reads as it did. -/
def lexerStandsUptoRow : OpenClaim := { program := "ytamhkdlcoghdbaadoor", sum := "ddb02d421342068ff146bdab7873a7acbca86e8955e26bdaf66fb65166cc7385", func := "dredge/dredgelaw07.LexerStands", spec := "lexerStands", inPlace := ["internal/bytealg.IndexByteString", "internal/bytealg.IndexString"], unfollowed := true, recurses := true, named := ["unicode/utf8.first", "unicode/utf8.acceptRanges", "internal/bytealg.MaxLen"], apart := false, laid := [("unicode/utf8.acceptRanges", laid_unicode_utf8_acceptRanges), ("unicode/utf8.first", laid_unicode_utf8_first)], narrowed := true }
def LexerStandsUptoSaid : Prop := lexerStandsUptoRow.holds Tryd.pinned (OpenSpec.upto lexerStandsSpec)

/-- 'dredgelaw07.LexerPlain', WHERE WHAT IT READS IS OF BULK AT MOST 1048576: true; the input reads as it did. -/
def lexerPlainUptoRow : OpenClaim := { program := "ytamhkdlcoghdbaadoor", sum := "ddb02d421342068ff146bdab7873a7acbca86e8955e26bdaf66fb65166cc7385", func := "dredge/dredgelaw07.LexerPlain", spec := "lexerPlain", inPlace := ["internal/bytealg.IndexByteString", "internal/bytealg.IndexString"], unfollowed := true, recurses := true, named := ["unicode/utf8.first", "unicode/utf8.acceptRanges", "internal/bytealg.MaxLen"], apart := false, laid := [("unicode/utf8.acceptRanges", laid_unicode_utf8_acceptRanges), ("unicode/utf8.first", laid_unicode_utf8_first)], narrowed := true }
def LexerPlainUptoSaid : Prop := lexerPlainUptoRow.holds Tryd.pinned (OpenSpec.upto lexerPlainSpec)

/-- 'dredgelaw07.LexerAround', WHERE WHAT IT READS IS OF BULK AT MOST 1048576: true; the input reads as it did. -/
def lexerAroundUptoRow : OpenClaim := { program := "ytamhkdlcoghdbaadoor", sum := "ddb02d421342068ff146bdab7873a7acbca86e8955e26bdaf66fb65166cc7385", func := "dredge/dredgelaw07.LexerAround", spec := "lexerAround", inPlace := ["internal/bytealg.IndexByteString", "internal/bytealg.IndexString"], unfollowed := true, recurses := true, named := ["unicode/utf8.first", "unicode/utf8.acceptRanges", "internal/bytealg.MaxLen"], apart := false, laid := [("unicode/utf8.acceptRanges", laid_unicode_utf8_acceptRanges), ("unicode/utf8.first", laid_unicode_utf8_first)], narrowed := true }
def LexerAroundUptoSaid : Prop := lexerAroundUptoRow.holds Tryd.pinned (OpenSpec.upto lexerAroundSpec)

/-- 'dredgelaw07.LexerNumbers', WHERE WHAT IT READS IS OF BULK AT MOST 1048576: true; the input reads as it did. -/
def lexerNumbersUptoRow : OpenClaim := { program := "ytamhkdlcoghdbaadoor", sum := "ddb02d421342068ff146bdab7873a7acbca86e8955e26bdaf66fb65166cc7385", func := "dredge/dredgelaw07.LexerNumbers", spec := "lexerNumbers", inPlace := ["internal/bytealg.IndexByteString", "internal/bytealg.IndexString"], unfollowed := true, recurses := true, named := ["unicode/utf8.first", "unicode/utf8.acceptRanges", "internal/bytealg.MaxLen"], apart := false, laid := [("unicode/utf8.acceptRanges", laid_unicode_utf8_acceptRanges), ("unicode/utf8.first", laid_unicode_utf8_first)], narrowed := true }
def LexerNumbersUptoSaid : Prop := lexerNumbersUptoRow.holds Tryd.pinned (OpenSpec.upto lexerNumbersSpec)

end Rows
end Go.Proofs.YtamhkdlcoghdbaaDoor
