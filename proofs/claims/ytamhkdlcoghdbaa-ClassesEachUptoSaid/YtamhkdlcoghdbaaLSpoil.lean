/- spoil ends, whatever list it is handed. -/
import Derived.Test.YtamhkdlcoghdbaaLOne
import Derived.Test.YtamhkdlcoghdbaaPClsx16
namespace Go.Proofs.Ytamhkdlcoghdbaa.PCls
open Go.RowKit Go.Proofs.YtamhkdlcoghdbaaW.PrintWords Go.Proofs.YtamhkdlcoghdbaaW.PrintLast Go.Proofs.YtamhkdlcoghdbaaW.PrintMore
set_option linter.unusedVariables false
set_option linter.unusedSimpArgs false

theorem Ends.next {α : Type} {f g : Nat → Option α} {r : α} (h : Ends g r) (hf : ∀ k, f (k + 1) = g k) : Ends f r := by
  obtain ⟨k, hk⟩ := h
  refine ⟨k + 1, fun k' h' => ?_⟩
  obtain ⟨m, rfl⟩ : ∃ m, k' = m + 1 := ⟨k' - 1, by omega⟩
  rw [hf]
  exact hk m (by omega)
/-! ### spoil ends, whatever it leaves -/
theorem spoil_loop : ∀ (d k i : Nat) (l : List S64), i + d = l.length → l.length < 8796093022208 → d < k → ∃ r, ∀ k', k ≤ k' → dredgelaw06_spoil.l0 k' l (i : Int) = some r := by
  intro d
  induction d with
  | zero =>
    intro k i l hd hl hk
    refine ⟨l, fun k' h' => ?_⟩
    obtain ⟨m, rfl⟩ : ∃ m, k' = m + 1 := ⟨k' - 1, by omega⟩
    simp only [dredgelaw06_spoil.l0]
    rw [if_neg (by omega)]
  | succ d ih =>
    intro k i l hd hl hk
    obtain ⟨r, hr⟩ := ih (k - 1) (i + 1) (l.set i ⟨3, -3⟩) (by simp; omega) (by simpa using hl) (by omega)
    refine ⟨r, fun k' h' => ?_⟩
    obtain ⟨m, rfl⟩ : ∃ m, k' = m + 1 := ⟨k' - 1, by omega⟩
    simp only [dredgelaw06_spoil.l0]
    rw [if_pos (by omega), if_pos (by omega), Int.toNat_natCast, w64_lit ((i : Int) + 1) (by omega) (by omega)]
    have := hr m (by omega)
    rwa [show ((i + 1 : Nat) : Int) = (i : Int) + 1 by omega] at this
theorem spoil_ends (l : List S64) (hl : l.length < 8796093022208) : ∃ r, Ends (fun k => dredgelaw06_spoil.f k l) r := by
  obtain ⟨r, hr⟩ := spoil_loop l.length (l.length + 1) 0 l (by omega) hl (by omega)
  exact ⟨r, l.length + 1, hr⟩
end Go.Proofs.Ytamhkdlcoghdbaa.PCls
