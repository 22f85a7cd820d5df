/- The plain law of ClassesAsk: it says yes of every list of ranges that a Go program can hold. -/
import Derived.Test.YtamhkdlcoghdbaaLOne
import Derived.Test.YtamhkdlcoghdbaaPClsx8
import Derived.Test.YtamhkdlcoghdbaaPClsx9
import Derived.Test.YtamhkdlcoghdbaaPClsx13
namespace Go.Proofs.Ytamhkdlcoghdbaa.PCls
open Go.RowKit Go.Proofs.YtamhkdlcoghdbaaW.PrintWords Go.Proofs.YtamhkdlcoghdbaaW.PrintLast Go.Proofs.YtamhkdlcoghdbaaW.PrintMore
set_option linter.unusedVariables false
set_option linter.unusedSimpArgs false

def Cls.has (l : List S64) (c : Int) : Bool := l.any fun r => decide (r.f0 ≤ c) && decide (c ≤ r.f1)
theorem has_loop (l : List S64) (c : Int) (hl : l.length < 8796093022208) : ∀ (d k i : Nat), i + d = l.length → d < k → dredgeref06_Has.l0 k l c (i : Int) = some (Cls.has (l.drop i) c) := by
  intro d
  induction d with
  | zero =>
    intro k i hd hk
    obtain ⟨k, rfl⟩ : ∃ m, k = m + 1 := ⟨k - 1, by omega⟩
    simp only [dredgeref06_Has.l0]
    rw [if_neg (by omega), List.drop_of_length_le (by omega)]
    rfl
  | succ d ih =>
    intro k i hd hk
    obtain ⟨k, rfl⟩ : ∃ m, k = m + 1 := ⟨k - 1, by omega⟩
    have hil : i < l.length := by omega
    have hdrop : l.drop i = l[i] :: l.drop (i + 1) := List.drop_eq_getElem_cons hil
    have hw : wrap64 ((i : Int) + 1) = ((i + 1 : Nat) : Int) := by rw [w64_lit _ (by omega) (by omega)]; omega
    have h := ih k (i + 1) (by omega) (by omega)
    have e : Cls.has (l[i] :: l.drop (i + 1)) c = ((decide (l[i].f0 ≤ c) && decide (c ≤ l[i].f1)) || Cls.has (l.drop (i + 1)) c) := by unfold Cls.has; rw [List.any_cons]
    simp only [dredgeref06_Has.l0]
    rw [if_pos (by omega), if_pos (by omega), rd_at l i hil, hw, h, hdrop, e]
    by_cases h1 : l[i].f0 ≤ c
    · by_cases h2 : c ≤ l[i].f1
      · rw [if_pos h1, if_pos h2, decide_eq_true h1, decide_eq_true h2]
        rfl
      · rw [if_pos h1, if_neg h2, decide_eq_false h2, Bool.and_false, Bool.false_or]
    · rw [if_neg h1, decide_eq_false h1, Bool.false_and, Bool.false_or]
theorem refhas_ends (l : List S64) (c : Int) (hl : l.length < 8796093022208) : Ends (fun k => dredgeref06_Has.f k l c) (Cls.has l c) := by
  refine ⟨l.length + 1, fun k hk => ?_⟩
  have := has_loop l c hl l.length k 0 (by omega) (by omega)
  simpa [dredgeref06_Has.f] using this
theorem still_ends (l : List S64) (hl : l.length < 8796093022208) : Ends (fun k => dredgelaw06_still.f k (l ++ [⟨-7, 7⟩]) l) true := by
  unfold dredgelaw06_still.f
  have e1 : (0 : Int) ≤ (l.length : Int) := by omega
  have e2 : (l.length : Int) ≤ ((l ++ [(⟨-7, 7⟩ : S64)]).length : Int) := by simp; omega
  have e3 : (l.length : Int) < ((l ++ [(⟨-7, 7⟩ : S64)]).length : Int) := by simp; omega
  have e4 : (l ++ [(⟨-7, 7⟩ : S64)]).take l.length = l := List.take_left' rfl
  simp only [if_pos e1, if_pos e2, Int.toNat_natCast, e4, rd_last]
  refine Ends.bind (alike_ends l l hl) ?_
  simp only [decide_true, if_true, if_pos e3]
  exact Ends.some_ _
theorem ask_ends (l : List S64) (c : Int) (m : Bool) (hl : l.length + 1 < 8796093022208) (hin : inR l = true) : Ends (fun k => dredgelaw06_ClassesAsk.f k l c m) true := by
  unfold dredgelaw06_ClassesAsk.f dredgelaw06_examples.f dredgelaw06_lent.f
  have e1 : (0 : Int) ≤ (l.length : Int) := by omega
  have e2 : (l.length : Int) ≤ ((l ++ [(⟨-7, 7⟩ : S64)]).length : Int) := by simp; omega
  have e3 : (l ++ [(⟨-7, 7⟩ : S64)]).take l.length = l := List.take_left' rfl
  rw [if_pos hl]
  simp only [Option.bind_some]
  simp only [if_pos e1, if_pos e2, Int.toNat_natCast, e3]
  have h0 : classes_Has.f l c = some (Cls.has l c) := rfl
  simp only [h0, Option.bind_some]
  refine Ends.bind (count_ends l (by omega) hin) (Ends.bind (still_ends l (by omega)) ?_)
  simp only [if_true]
  refine Ends.bind (refhas_ends l c (by omega)) ?_
  simp only [beq_self_eq_true, if_true]
  refine Ends.bind (refcount_ends l (by omega) hin) ?_
  simp only [if_true]
  cases m <;> exact Ends.some_ _
end Go.Proofs.Ytamhkdlcoghdbaa.PCls
