/- Out of TEx (wip/tools/prune2.py): the declarations alone that the texts of the trees name. -/
import Derived.Test.YtamhkdlcoghdbaaGreatDoorKMQTOut
namespace Go.Proofs.YtamhkdlcoghdbaaGreatDoor.PCls
open Go.RowKit Go.Proofs.YtamhkdlcoghdbaaGreatDoorW.PrintWords Go.Proofs.YtamhkdlcoghdbaaGreatDoorW.PrintLast Go.Proofs.YtamhkdlcoghdbaaGreatDoorW.PrintMore
set_option linter.unusedVariables false
set_option linter.unusedSimpArgs false
theorem NIn.leaf (w : World) (P : Nat → Prop) (k m lo hi : Int) : NIn w P (.mk k m lo hi [] []) [.int .i64 k, .int .i64 m, .int .i64 lo, .int .i64 hi, .slice none 0 0, .slice none 0 0] :=
 NIn.mk k m lo hi [] [] none none 0 0 (fun _ => []) ⟨rfl, by simp, fun h => by simp at h⟩ (fun ad e => by cases e) (by simp) (by simp) rfl (by simp) (by simp) (fun j t h => by simp at h) (fun j h => by simp at h)
theorem NIn.shape {w : World} {P : Nat → Prop} {k m lo hi : Int} {r : List S64} {kids : List NT} {cs : List Value} (h : NIn w P (.mk k m lo hi r kids) cs) :
  ∃ ar ak cr ck, cs = [.int .i64 k, .int .i64 m, .int .i64 lo, .int .i64 hi, .slice ar r.length cr, .slice ak kids.length ck] := by
 cases h; exact ⟨_, _, _, _, rfl⟩
end Go.Proofs.YtamhkdlcoghdbaaGreatDoor.PCls
