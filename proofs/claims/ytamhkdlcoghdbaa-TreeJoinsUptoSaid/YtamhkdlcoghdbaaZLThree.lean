/- Out of LThree (wip/tools/prune2.py): the declarations alone that the texts of the trees name. -/
import Derived.Test.YtamhkdlcoghdbaaZLRef
import Derived.Test.YtamhkdlcoghdbaaZPClsx0
import Derived.Test.YtamhkdlcoghdbaaZPClsx3
import Derived.Test.YtamhkdlcoghdbaaZPClsx20
import Derived.Test.YtamhkdlcoghdbaaZPClsx21
import Derived.Test.YtamhkdlcoghdbaaZPClsx22
import Derived.Test.YtamhkdlcoghdbaaZPClsx1
namespace Go.Proofs.Ytamhkdlcoghdbaa.PCls
open Go.RowKit Go.Proofs.YtamhkdlcoghdbaaW.PrintWords Go.Proofs.YtamhkdlcoghdbaaW.PrintLast Go.Proofs.YtamhkdlcoghdbaaW.PrintMore
set_option linter.unusedVariables false
set_option linter.unusedSimpArgs false
theorem equal_loop (a : List S64) : ∀ (s p : List S64) (k : Nat), s.length < k → (p ++ s).length < 8796093022208 → p.length ≤ a.length → a = p ++ a.drop p.length → (p ++ s).length = a.length →
    api_Range_77.l0 k (p ++ s) a ((p ++ s).length : Int) (p.length : Int) = some (decide (s = a.drop p.length)) := by
  intro s
  induction s with
  | nil =>
    intro p k hk hl hp ha he
    obtain ⟨k, rfl⟩ : ∃ m, k = m + 1 := ⟨k - 1, by simp at hk; omega⟩
    simp only [api_Range_77.l0]
    rw [if_neg (by simp)]
    simp at he
    simp [he]
  | cons x s ih =>
    intro p k hk hl hp ha he
    obtain ⟨k, rfl⟩ : ∃ m, k = m + 1 := ⟨k - 1, by simp at hk; omega⟩
    have hl2 : (p.length : Int) < ((p ++ x :: s).length : Int) := by simp; omega
    have hpa : p.length < a.length := by rw [← he]; simp
    have hdrop : a.drop p.length = a[p.length] :: a.drop (p.length + 1) := List.drop_eq_getElem_cons hpa
    simp only [api_Range_77.l0]
    rw [if_pos hl2, if_pos (by omega), if_pos hl2, if_pos (by omega), rd_mid, rd_at a p.length hpa, hdrop]
    simp at hl hk
    rw [w64_lit ((p.length : Int) + 1) (by omega) (by omega)]
    by_cases hx : x = a[p.length]
    · rw [if_neg (by rw [hx]; simp)]
      have h := ih (p ++ [x]) k (by omega) (by simp; omega) (by simp; omega) (by rw [List.length_append, List.length_singleton, List.append_assoc, hx, List.singleton_append, ← hdrop]; exact ha) (by simpa using he)
      simp only [List.append_assoc, List.singleton_append, List.length_append, List.length_singleton] at h
      rw [show ((p.length + 1 : Nat) : Int) = (p.length : Int) + 1 by omega] at h
      simp only [List.length_append]
      rw [h]
      simp only [hx, List.cons.injEq, true_and]
    · rw [if_pos (by
        cases x with | mk x0 x1 =>
        cases hq : a[p.length] with | mk y0 y1 =>
        rw [hq] at hx
        simp at hx ⊢
        by_cases h0 : x0 = y0
        · exact .inr (hx h0)
        · exact .inl h0)]
      simp only [hx, List.cons.injEq, false_and, decide_false]
theorem equal_ends (a b : List S64) (hl : a.length < 8796093022208) : Ends (fun k => api_Range_77.f k a b) (decide (a = b)) := by
  refine ⟨a.length + 1, fun k hk => ?_⟩
  show api_Range_77.f k a b = _
  unfold api_Range_77.f
  by_cases h : a.length = b.length
  · rw [if_pos (by omega)]
    have := equal_loop b a [] k (by omega) (by simpa using hl) (by simp) (by simp) (by simpa using h)
    simpa using this
  · rw [if_neg (by omega)]
    rw [decide_eq_false (fun e => h (by rw [e]))]
theorem right_ends (l : List S64) (m : Bool) (h1 : l.length < 2097152) (h : inR l = true) : Ends (fun k => classes_Right.f k l m) (decide (l = Cls.norm l m)) := by
  unfold classes_Right.f
  exact Ends.bind (norm_ends l m (by omega) h) (Ends.bind (equal_ends _ _ (by omega)) (Ends.some_ _))
end Go.Proofs.Ytamhkdlcoghdbaa.PCls
