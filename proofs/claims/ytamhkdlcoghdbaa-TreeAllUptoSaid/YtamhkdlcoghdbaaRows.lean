/-
  NARROWER THAN 'FOR EVERY INPUT', by the rows' own cells (each row's printed sentence says how): TreeSound: loops · TreeKids: loops · TreeJoins: loops · TreeRight: loops · TreeCounts: loops · TreeAll: loops.
  DERIVED. THE GIVEN ROWS OF THIS SEAT. 13 by the template 'for every input the law returns true; each argument reads behind the call as it read before'; 0 by the template 'total and deterministic' (their statements: YtamhkdlcoghdbaaTotals.lean).
  GIVEN WITH THE SEED: the statements are not yours to turn. If you find one false, say at which input.
  Laid BY PROGRAM, IN A SANDBOX (cutbox-rows.mjs): the forced cells as the released guide's own fill.sh prints them over the translation 5eb304043618f8cc… (all of the seat's roots in one cut). By AI agents, Wed Nov 11 2026. No macro, syntax, notation, axiom, sorry.
-/
import Derived.Test.YtamhkdlcoghdbaaChecked
import GoSem.Claim
import GoSem.ClaimJoined
import GoSem.ClaimMapViews
import Derived.JoinedTies
import Derived.KernelRfl
namespace Go.Proofs.Ytamhkdlcoghdbaa
/- THE CELL 'sum', in the pinned program and in every row, IS THE sha256 OF THE DUMP (.gsa) THAT YtamhkdlcoghdbaaProg.lean LOADS. Nothing in Lean hashes anything: it is a label: what it is worth is what the hold of that sum in a sandbox is worth. -/
noncomputable def Try.pinned : Pinned := { name := "ytamhkdlcoghdbaa", sum := "5eb304043618f8cc74b5cc14adcb5efd955edc1226e26e371de9c3fc2f72cb7f", checked := Try.checked }
namespace Rows
def none {H : Type} : Left H := { results := [], args := [] }

/-- 'dredgelaw06.ClassesAsk': WHATEVER THE INPUT: true; the input reads as it did. -/
def classesAskSpec : ChangeSpec := { name := "classesAsk", fn := fun _ => fun
  | [d1, d2, d3] => { results := [.lit (.bool true)], args := [d1, d2, d3] }
  | _ => none }
def classesAskRow : OpenClaim := { program := "ytamhkdlcoghdbaa", sum := "5eb304043618f8cc74b5cc14adcb5efd955edc1226e26e371de9c3fc2f72cb7f", func := "dredge/dredgelaw06.ClassesAsk", spec := "classesAsk", unfollowed := true, recurses := true, apart := false }
def ClassesAskSaid : Prop := classesAskRow.holds Try.pinned (OpenSpec.ofChange classesAskSpec)

/-- ITS FALSE NEIGHBOUR: 'it returns false'. Refute it at one input. -/
def classesAskWrong : ChangeSpec := { name := "classesAsk", fn := fun _ => fun
  | [d1, d2, d3] => { results := [.lit (.bool false)], args := [d1, d2, d3] }
  | _ => none }
def ClassesAskWrongFalsely : Prop := classesAskRow.holds Try.pinned (OpenSpec.ofChange classesAskWrong)

/-- 'dredgelaw06.ClassesNamed': WHATEVER THE INPUT: true; the input reads as it did. -/
def classesNamedSpec : ChangeSpec := { name := "classesNamed", fn := fun _ => fun
  | [d] => { results := [.lit (.bool true)], args := [d] }
  | _ => none }
def classesNamedRow : OpenClaim := { program := "ytamhkdlcoghdbaa", sum := "5eb304043618f8cc74b5cc14adcb5efd955edc1226e26e371de9c3fc2f72cb7f", func := "dredge/dredgelaw06.ClassesNamed", spec := "classesNamed", unfollowed := true, recurses := true, apart := false }
def ClassesNamedSaid : Prop := classesNamedRow.holds Try.pinned (OpenSpec.ofChange classesNamedSpec)

/-- ITS FALSE NEIGHBOUR: 'it returns false'. Refute it at one input. -/
def classesNamedWrong : ChangeSpec := { name := "classesNamed", fn := fun _ => fun
  | [d] => { results := [.lit (.bool false)], args := [d] }
  | _ => none }
def ClassesNamedWrongFalsely : Prop := classesNamedRow.holds Try.pinned (OpenSpec.ofChange classesNamedWrong)

/-- 'dredgelaw06.ClassesEach': WHATEVER THE INPUT: true; the input reads as it did. -/
def classesEachSpec : ChangeSpec := { name := "classesEach", fn := fun _ => fun
  | [d1, d2, d3, d4] => { results := [.lit (.bool true)], args := [d1, d2, d3, d4] }
  | _ => none }
def classesEachRow : OpenClaim := { program := "ytamhkdlcoghdbaa", sum := "5eb304043618f8cc74b5cc14adcb5efd955edc1226e26e371de9c3fc2f72cb7f", func := "dredge/dredgelaw06.ClassesEach", spec := "classesEach", unfollowed := true, recurses := true, apart := false }
def ClassesEachSaid : Prop := classesEachRow.holds Try.pinned (OpenSpec.ofChange classesEachSpec)

/-- ITS FALSE NEIGHBOUR: 'it returns false'. Refute it at one input. -/
def classesEachWrong : ChangeSpec := { name := "classesEach", fn := fun _ => fun
  | [d1, d2, d3, d4] => { results := [.lit (.bool false)], args := [d1, d2, d3, d4] }
  | _ => none }
def ClassesEachWrongFalsely : Prop := classesEachRow.holds Try.pinned (OpenSpec.ofChange classesEachWrong)

/-- 'dredgelaw06.ClassesNorm': WHATEVER THE INPUT: true; the input reads as it did. -/
def classesNormSpec : ChangeSpec := { name := "classesNorm", fn := fun _ => fun
  | [d1, d2] => { results := [.lit (.bool true)], args := [d1, d2] }
  | _ => none }
def classesNormRow : OpenClaim := { program := "ytamhkdlcoghdbaa", sum := "5eb304043618f8cc74b5cc14adcb5efd955edc1226e26e371de9c3fc2f72cb7f", func := "dredge/dredgelaw06.ClassesNorm", spec := "classesNorm", unfollowed := true, recurses := true, apart := false }
def ClassesNormSaid : Prop := classesNormRow.holds Try.pinned (OpenSpec.ofChange classesNormSpec)

/-- ITS FALSE NEIGHBOUR: 'it returns false'. Refute it at one input. -/
def classesNormWrong : ChangeSpec := { name := "classesNorm", fn := fun _ => fun
  | [d1, d2] => { results := [.lit (.bool false)], args := [d1, d2] }
  | _ => none }
def ClassesNormWrongFalsely : Prop := classesNormRow.holds Try.pinned (OpenSpec.ofChange classesNormWrong)

/-- 'dredgelaw06.ClassesMix': WHATEVER THE INPUT: true; the input reads as it did. -/
def classesMixSpec : ChangeSpec := { name := "classesMix", fn := fun _ => fun
  | [d1, d2] => { results := [.lit (.bool true)], args := [d1, d2] }
  | _ => none }
def classesMixRow : OpenClaim := { program := "ytamhkdlcoghdbaa", sum := "5eb304043618f8cc74b5cc14adcb5efd955edc1226e26e371de9c3fc2f72cb7f", func := "dredge/dredgelaw06.ClassesMix", spec := "classesMix", unfollowed := true, recurses := true, apart := false }
def ClassesMixSaid : Prop := classesMixRow.holds Try.pinned (OpenSpec.ofChange classesMixSpec)

/-- ITS FALSE NEIGHBOUR: 'it returns false'. Refute it at one input. -/
def classesMixWrong : ChangeSpec := { name := "classesMix", fn := fun _ => fun
  | [d1, d2] => { results := [.lit (.bool false)], args := [d1, d2] }
  | _ => none }
def ClassesMixWrongFalsely : Prop := classesMixRow.holds Try.pinned (OpenSpec.ofChange classesMixWrong)

/-- 'dredgelaw06.ClassesCount': WHATEVER THE INPUT: true; the input reads as it did. -/
def classesCountSpec : ChangeSpec := { name := "classesCount", fn := fun _ => fun
  | [d1, d2, d3] => { results := [.lit (.bool true)], args := [d1, d2, d3] }
  | _ => none }
def classesCountRow : OpenClaim := { program := "ytamhkdlcoghdbaa", sum := "5eb304043618f8cc74b5cc14adcb5efd955edc1226e26e371de9c3fc2f72cb7f", func := "dredge/dredgelaw06.ClassesCount", spec := "classesCount", unfollowed := true, recurses := true, apart := false }
def ClassesCountSaid : Prop := classesCountRow.holds Try.pinned (OpenSpec.ofChange classesCountSpec)

/-- ITS FALSE NEIGHBOUR: 'it returns false'. Refute it at one input. -/
def classesCountWrong : ChangeSpec := { name := "classesCount", fn := fun _ => fun
  | [d1, d2, d3] => { results := [.lit (.bool false)], args := [d1, d2, d3] }
  | _ => none }
def ClassesCountWrongFalsely : Prop := classesCountRow.holds Try.pinned (OpenSpec.ofChange classesCountWrong)

/-- 'dredgelaw06.ClassesRight': WHATEVER THE INPUT: true; the input reads as it did. -/
def classesRightSpec : ChangeSpec := { name := "classesRight", fn := fun _ => fun
  | [d1, d2, d3] => { results := [.lit (.bool true)], args := [d1, d2, d3] }
  | _ => none }
def classesRightRow : OpenClaim := { program := "ytamhkdlcoghdbaa", sum := "5eb304043618f8cc74b5cc14adcb5efd955edc1226e26e371de9c3fc2f72cb7f", func := "dredge/dredgelaw06.ClassesRight", spec := "classesRight", unfollowed := true, recurses := true, apart := false }
def ClassesRightSaid : Prop := classesRightRow.holds Try.pinned (OpenSpec.ofChange classesRightSpec)

/-- ITS FALSE NEIGHBOUR: 'it returns false'. Refute it at one input. -/
def classesRightWrong : ChangeSpec := { name := "classesRight", fn := fun _ => fun
  | [d1, d2, d3] => { results := [.lit (.bool false)], args := [d1, d2, d3] }
  | _ => none }
def ClassesRightWrongFalsely : Prop := classesRightRow.holds Try.pinned (OpenSpec.ofChange classesRightWrong)

/-- 'dredgelaw08.TreeSound': WHATEVER THE INPUT: true; the input reads as it did. -/
def treeSoundSpec : ChangeSpec := { name := "treeSound", fn := fun _ => fun
  | [d1, d2] => { results := [.lit (.bool true)], args := [d1, d2] }
  | _ => none }
def treeSoundRow : OpenClaim := { program := "ytamhkdlcoghdbaa", sum := "5eb304043618f8cc74b5cc14adcb5efd955edc1226e26e371de9c3fc2f72cb7f", func := "dredge/dredgelaw08.TreeSound", spec := "treeSound", unfollowed := true, recurses := true, loops := true, apart := false }
def TreeSoundSaid : Prop := treeSoundRow.holds Try.pinned (OpenSpec.ofChange treeSoundSpec)

/-- ITS FALSE NEIGHBOUR: 'it returns false'. Refute it at one input. -/
def treeSoundWrong : ChangeSpec := { name := "treeSound", fn := fun _ => fun
  | [d1, d2] => { results := [.lit (.bool false)], args := [d1, d2] }
  | _ => none }
def TreeSoundWrongFalsely : Prop := treeSoundRow.holds Try.pinned (OpenSpec.ofChange treeSoundWrong)

/-- 'dredgelaw08.TreeKids': WHATEVER THE INPUT: true; the input reads as it did. -/
def treeKidsSpec : ChangeSpec := { name := "treeKids", fn := fun _ => fun
  | [d1, d2] => { results := [.lit (.bool true)], args := [d1, d2] }
  | _ => none }
def treeKidsRow : OpenClaim := { program := "ytamhkdlcoghdbaa", sum := "5eb304043618f8cc74b5cc14adcb5efd955edc1226e26e371de9c3fc2f72cb7f", func := "dredge/dredgelaw08.TreeKids", spec := "treeKids", unfollowed := true, recurses := true, loops := true, apart := false }
def TreeKidsSaid : Prop := treeKidsRow.holds Try.pinned (OpenSpec.ofChange treeKidsSpec)

/-- ITS FALSE NEIGHBOUR: 'it returns false'. Refute it at one input. -/
def treeKidsWrong : ChangeSpec := { name := "treeKids", fn := fun _ => fun
  | [d1, d2] => { results := [.lit (.bool false)], args := [d1, d2] }
  | _ => none }
def TreeKidsWrongFalsely : Prop := treeKidsRow.holds Try.pinned (OpenSpec.ofChange treeKidsWrong)

/-- 'dredgelaw08.TreeJoins': WHATEVER THE INPUT: true; the input reads as it did. -/
def treeJoinsSpec : ChangeSpec := { name := "treeJoins", fn := fun _ => fun
  | [d1, d2, d3] => { results := [.lit (.bool true)], args := [d1, d2, d3] }
  | _ => none }
def treeJoinsRow : OpenClaim := { program := "ytamhkdlcoghdbaa", sum := "5eb304043618f8cc74b5cc14adcb5efd955edc1226e26e371de9c3fc2f72cb7f", func := "dredge/dredgelaw08.TreeJoins", spec := "treeJoins", unfollowed := true, recurses := true, loops := true, apart := false }
def TreeJoinsSaid : Prop := treeJoinsRow.holds Try.pinned (OpenSpec.ofChange treeJoinsSpec)

/-- ITS FALSE NEIGHBOUR: 'it returns false'. Refute it at one input. -/
def treeJoinsWrong : ChangeSpec := { name := "treeJoins", fn := fun _ => fun
  | [d1, d2, d3] => { results := [.lit (.bool false)], args := [d1, d2, d3] }
  | _ => none }
def TreeJoinsWrongFalsely : Prop := treeJoinsRow.holds Try.pinned (OpenSpec.ofChange treeJoinsWrong)

/-- 'dredgelaw08.TreeRight': WHATEVER THE INPUT: true; the input reads as it did. -/
def treeRightSpec : ChangeSpec := { name := "treeRight", fn := fun _ => fun
  | [d1, d2] => { results := [.lit (.bool true)], args := [d1, d2] }
  | _ => none }
def treeRightRow : OpenClaim := { program := "ytamhkdlcoghdbaa", sum := "5eb304043618f8cc74b5cc14adcb5efd955edc1226e26e371de9c3fc2f72cb7f", func := "dredge/dredgelaw08.TreeRight", spec := "treeRight", unfollowed := true, recurses := true, loops := true, apart := false }
def TreeRightSaid : Prop := treeRightRow.holds Try.pinned (OpenSpec.ofChange treeRightSpec)

/-- ITS FALSE NEIGHBOUR: 'it returns false'. Refute it at one input. -/
def treeRightWrong : ChangeSpec := { name := "treeRight", fn := fun _ => fun
  | [d1, d2] => { results := [.lit (.bool false)], args := [d1, d2] }
  | _ => none }
def TreeRightWrongFalsely : Prop := treeRightRow.holds Try.pinned (OpenSpec.ofChange treeRightWrong)

/-- 'dredgelaw08.TreeCounts': WHATEVER THE INPUT: true; the input reads as it did. -/
def treeCountsSpec : ChangeSpec := { name := "treeCounts", fn := fun _ => fun
  | [d1, d2] => { results := [.lit (.bool true)], args := [d1, d2] }
  | _ => none }
def treeCountsRow : OpenClaim := { program := "ytamhkdlcoghdbaa", sum := "5eb304043618f8cc74b5cc14adcb5efd955edc1226e26e371de9c3fc2f72cb7f", func := "dredge/dredgelaw08.TreeCounts", spec := "treeCounts", unfollowed := true, recurses := true, loops := true, apart := false }
def TreeCountsSaid : Prop := treeCountsRow.holds Try.pinned (OpenSpec.ofChange treeCountsSpec)

/-- ITS FALSE NEIGHBOUR: 'it returns false'. Refute it at one input. -/
def treeCountsWrong : ChangeSpec := { name := "treeCounts", fn := fun _ => fun
  | [d1, d2] => { results := [.lit (.bool false)], args := [d1, d2] }
  | _ => none }
def TreeCountsWrongFalsely : Prop := treeCountsRow.holds Try.pinned (OpenSpec.ofChange treeCountsWrong)

/-- 'dredgelaw08.TreeAll': WHATEVER THE INPUT: true; the input reads as it did. -/
def treeAllSpec : ChangeSpec := { name := "treeAll", fn := fun _ => fun
  | [d1, d2] => { results := [.lit (.bool true)], args := [d1, d2] }
  | _ => none }
def treeAllRow : OpenClaim := { program := "ytamhkdlcoghdbaa", sum := "5eb304043618f8cc74b5cc14adcb5efd955edc1226e26e371de9c3fc2f72cb7f", func := "dredge/dredgelaw08.TreeAll", spec := "treeAll", unfollowed := true, recurses := true, loops := true, apart := false }
def TreeAllSaid : Prop := treeAllRow.holds Try.pinned (OpenSpec.ofChange treeAllSpec)

/-- ITS FALSE NEIGHBOUR: 'it returns false'. Refute it at one input. -/
def treeAllWrong : ChangeSpec := { name := "treeAll", fn := fun _ => fun
  | [d1, d2] => { results := [.lit (.bool false)], args := [d1, d2] }
  | _ => none }
def TreeAllWrongFalsely : Prop := treeAllRow.holds Try.pinned (OpenSpec.ofChange treeAllWrong)

/- THE SECOND FORM. 'bulk': how many values and letters a reading holds, each counted each time it is reached (what is shared counts as often as it is met; a slice's spare places count too). A statement '..UptoSaid' is the law's where the arguments, and the package variables that the reading takes, are together of bulk at most 1048576: NARROWER than '..Said'. Prove '..Said' where nothing that the law and all that it calls make is longer than what came in: it says more and counts as full. Else prove '..UptoSaid'. A law counts once. -/
mutual
def uptoBulk {H : Type} : DataW H → Nat
  | .lit (.string bytes) => bytes.length + 1
  | .lit _ => 1
  | .nil => 1
  | .ptr d => uptoBulk d + 1
  | .slice elems spare => uptoBulkAll elems + uptoBulkAll spare + 1
  | .agg parts => uptoBulkAll parts + 1
  | .iface _ d => uptoBulk d + 1
  | .map entries => uptoBulkEntries entries + 1
  | .held _ => 1
def uptoBulkAll {H : Type} : List (DataW H) → Nat
  | [] => 0
  | d :: r => uptoBulk d + uptoBulkAll r
def uptoBulkEntries {H : Type} : List (Lit × DataW H) → Nat
  | [] => 0
  | x :: r => uptoBulkEntry x + uptoBulkEntries r
def uptoBulkEntry {H : Type} : Lit × DataW H → Nat
  | (.string bytes, d) => bytes.length + uptoBulk d + 1
  | (_, d) => uptoBulk d + 1
 end
def uptoSmall : (H : Type) → List (DataW H) → Bool := fun _ ds => decide (uptoBulkAll ds ≤ 1048576)
def OpenSpec.upto (s : _root_.Go.ChangeSpec) : _root_.Go.OpenSpec := { _root_.Go.OpenSpec.ofChange s with cond := some uptoSmall }

/-- 'dredgelaw06.ClassesAsk', WHERE WHAT IT READS IS OF BULK AT MOST 1048576: true; the input reads as it did. -/
def classesAskUptoRow : OpenClaim := { program := "ytamhkdlcoghdbaa", sum := "5eb304043618f8cc74b5cc14adcb5efd955edc1226e26e371de9c3fc2f72cb7f", func := "dredge/dredgelaw06.ClassesAsk", spec := "classesAsk", unfollowed := true, recurses := true, apart := false, narrowed := true }
def ClassesAskUptoSaid : Prop := classesAskUptoRow.holds Try.pinned (OpenSpec.upto classesAskSpec)

/-- 'dredgelaw06.ClassesNamed', WHERE WHAT IT READS IS OF BULK AT MOST 1048576: true; the input reads as it did. -/
def classesNamedUptoRow : OpenClaim := { program := "ytamhkdlcoghdbaa", sum := "5eb304043618f8cc74b5cc14adcb5efd955edc1226e26e371de9c3fc2f72cb7f", func := "dredge/dredgelaw06.ClassesNamed", spec := "classesNamed", unfollowed := true, recurses := true, apart := false, narrowed := true }
def ClassesNamedUptoSaid : Prop := classesNamedUptoRow.holds Try.pinned (OpenSpec.upto classesNamedSpec)

/-- 'dredgelaw06.ClassesEach', WHERE WHAT IT READS IS OF BULK AT MOST 1048576: true; the input reads as it did. -/
def classesEachUptoRow : OpenClaim := { program := "ytamhkdlcoghdbaa", sum := "5eb304043618f8cc74b5cc14adcb5efd955edc1226e26e371de9c3fc2f72cb7f", func := "dredge/dredgelaw06.ClassesEach", spec := "classesEach", unfollowed := true, recurses := true, apart := false, narrowed := true }
def ClassesEachUptoSaid : Prop := classesEachUptoRow.holds Try.pinned (OpenSpec.upto classesEachSpec)

/-- 'dredgelaw06.ClassesNorm', WHERE WHAT IT READS IS OF BULK AT MOST 1048576: true; the input reads as it did. -/
def classesNormUptoRow : OpenClaim := { program := "ytamhkdlcoghdbaa", sum := "5eb304043618f8cc74b5cc14adcb5efd955edc1226e26e371de9c3fc2f72cb7f", func := "dredge/dredgelaw06.ClassesNorm", spec := "classesNorm", unfollowed := true, recurses := true, apart := false, narrowed := true }
def ClassesNormUptoSaid : Prop := classesNormUptoRow.holds Try.pinned (OpenSpec.upto classesNormSpec)

/-- 'dredgelaw06.ClassesMix', WHERE WHAT IT READS IS OF BULK AT MOST 1048576: true; the input reads as it did. -/
def classesMixUptoRow : OpenClaim := { program := "ytamhkdlcoghdbaa", sum := "5eb304043618f8cc74b5cc14adcb5efd955edc1226e26e371de9c3fc2f72cb7f", func := "dredge/dredgelaw06.ClassesMix", spec := "classesMix", unfollowed := true, recurses := true, apart := false, narrowed := true }
def ClassesMixUptoSaid : Prop := classesMixUptoRow.holds Try.pinned (OpenSpec.upto classesMixSpec)

/-- 'dredgelaw06.ClassesCount', WHERE WHAT IT READS IS OF BULK AT MOST 1048576: true; the input reads as it did. -/
def classesCountUptoRow : OpenClaim := { program := "ytamhkdlcoghdbaa", sum := "5eb304043618f8cc74b5cc14adcb5efd955edc1226e26e371de9c3fc2f72cb7f", func := "dredge/dredgelaw06.ClassesCount", spec := "classesCount", unfollowed := true, recurses := true, apart := false, narrowed := true }
def ClassesCountUptoSaid : Prop := classesCountUptoRow.holds Try.pinned (OpenSpec.upto classesCountSpec)

/-- 'dredgelaw06.ClassesRight', WHERE WHAT IT READS IS OF BULK AT MOST 1048576: true; the input reads as it did. -/
def classesRightUptoRow : OpenClaim := { program := "ytamhkdlcoghdbaa", sum := "5eb304043618f8cc74b5cc14adcb5efd955edc1226e26e371de9c3fc2f72cb7f", func := "dredge/dredgelaw06.ClassesRight", spec := "classesRight", unfollowed := true, recurses := true, apart := false, narrowed := true }
def ClassesRightUptoSaid : Prop := classesRightUptoRow.holds Try.pinned (OpenSpec.upto classesRightSpec)

/-- 'dredgelaw08.TreeSound', WHERE WHAT IT READS IS OF BULK AT MOST 1048576: true; the input reads as it did. -/
def treeSoundUptoRow : OpenClaim := { program := "ytamhkdlcoghdbaa", sum := "5eb304043618f8cc74b5cc14adcb5efd955edc1226e26e371de9c3fc2f72cb7f", func := "dredge/dredgelaw08.TreeSound", spec := "treeSound", unfollowed := true, recurses := true, loops := true, apart := false, narrowed := true }
def TreeSoundUptoSaid : Prop := treeSoundUptoRow.holds Try.pinned (OpenSpec.upto treeSoundSpec)

/-- 'dredgelaw08.TreeKids', WHERE WHAT IT READS IS OF BULK AT MOST 1048576: true; the input reads as it did. -/
def treeKidsUptoRow : OpenClaim := { program := "ytamhkdlcoghdbaa", sum := "5eb304043618f8cc74b5cc14adcb5efd955edc1226e26e371de9c3fc2f72cb7f", func := "dredge/dredgelaw08.TreeKids", spec := "treeKids", unfollowed := true, recurses := true, loops := true, apart := false, narrowed := true }
def TreeKidsUptoSaid : Prop := treeKidsUptoRow.holds Try.pinned (OpenSpec.upto treeKidsSpec)

/-- 'dredgelaw08.TreeJoins', WHERE WHAT IT READS IS OF BULK AT MOST 1048576: true; the input reads as it did. -/
def treeJoinsUptoRow : OpenClaim := { program := "ytamhkdlcoghdbaa", sum := "5eb304043618f8cc74b5cc14adcb5efd955edc1226e26e371de9c3fc2f72cb7f", func := "dredge/dredgelaw08.TreeJoins", spec := "treeJoins", unfollowed := true, recurses := true, loops := true, apart := false, narrowed := true }
def TreeJoinsUptoSaid : Prop := treeJoinsUptoRow.holds Try.pinned (OpenSpec.upto treeJoinsSpec)

/-- 'dredgelaw08.TreeRight', WHERE WHAT IT READS IS OF BULK AT MOST 1048576: true; the input reads as it did. -/
def treeRightUptoRow : OpenClaim := { program := "ytamhkdlcoghdbaa", sum := "5eb304043618f8cc74b5cc14adcb5efd955edc1226e26e371de9c3fc2f72cb7f", func := "dredge/dredgelaw08.TreeRight", spec := "treeRight", unfollowed := true, recurses := true, loops := true, apart := false, narrowed := true }
def TreeRightUptoSaid : Prop := treeRightUptoRow.holds Try.pinned (OpenSpec.upto treeRightSpec)

/-- 'dredgelaw08.TreeCounts', WHERE WHAT IT READS IS OF BULK AT MOST 1048576: true; the input reads as it did. -/
def treeCountsUptoRow : OpenClaim := { program := "ytamhkdlcoghdbaa", sum := "5eb304043618f8cc74b5cc14adcb5efd955edc1226e26e371de9c3fc2f72cb7f", func := "dredge/dredgelaw08.TreeCounts", spec := "treeCounts", unfollowed := true, recurses := true, loops := true, apart := false, narrowed := true }
def TreeCountsUptoSaid : Prop := treeCountsUptoRow.holds Try.pinned (OpenSpec.upto treeCountsSpec)

/-- 'dredgelaw08.TreeAll', WHERE WHAT IT READS IS OF BULK AT MOST 1048576: true; the input reads as it did. -/
def treeAllUptoRow : OpenClaim := { program := "ytamhkdlcoghdbaa", sum := "5eb304043618f8cc74b5cc14adcb5efd955edc1226e26e371de9c3fc2f72cb7f", func := "dredge/dredgelaw08.TreeAll", spec := "treeAll", unfollowed := true, recurses := true, loops := true, apart := false, narrowed := true }
def TreeAllUptoSaid : Prop := treeAllUptoRow.holds Try.pinned (OpenSpec.upto treeAllSpec)

end Rows
end Go.Proofs.Ytamhkdlcoghdbaa
