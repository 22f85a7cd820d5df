/- Out of LRef (wip/tools/prune2.py): the declarations alone that the texts of the trees name. -/
import Derived.Test.YtamhkdlcoghdbaaZLOne
import Derived.Test.YtamhkdlcoghdbaaZPClsx0
namespace Go.Proofs.Ytamhkdlcoghdbaa.PCls
open Go.RowKit Go.Proofs.YtamhkdlcoghdbaaW.PrintWords Go.Proofs.YtamhkdlcoghdbaaW.PrintLast Go.Proofs.YtamhkdlcoghdbaaW.PrintMore
set_option linter.unusedVariables false
set_option linter.unusedSimpArgs false
theorem Ends.succ {α : Type} {f g : Nat → Option α} {r : α} (h : Ends g r) (hf : ∀ k, f (k + 1) = g k) : Ends f r := by
  obtain ⟨k, hk⟩ := h
  refine ⟨k + 1, fun k' h' => ?_⟩
  obtain ⟨m, rfl⟩ : ∃ m, k' = m + 1 := ⟨k' - 1, by omega⟩
  rw [hf]
  exact hk m (by omega)
end Go.Proofs.Ytamhkdlcoghdbaa.PCls
