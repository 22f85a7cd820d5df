/- The plain functions of the tree's package: how many nodes, what is right. No program in it. -/
import Derived.Test.YtamhkdlcoghdbaaTTree
import Derived.Test.YtamhkdlcoghdbaaZLThree
namespace Go.Proofs.Ytamhkdlcoghdbaa.PCls
open Go.RowKit
set_option linter.unusedVariables false
set_option linter.unusedSimpArgs false

namespace NT
mutual
/-- are two trees the same? -/
def same : NT → NT → Bool
  | .mk k m lo hi r kids, .mk k' m' lo' hi' r' kids' => decide (k = k') && decide (m = m') && decide (lo = lo') && decide (hi = hi') && decide (r = r') && sameL kids kids'
def sameL : List NT → List NT → Bool
  | [], [] => true
  | a :: xs, b :: ys => same a b && sameL xs ys
  | _, _ => false
end
theorem same_iff (a : NT) : ∀ b, same a b = true ↔ a = b := by
  have hL : ∀ l : List NT, (∀ t, t ∈ l → ∀ b, same t b = true ↔ t = b) → ∀ l', sameL l l' = true ↔ l = l' := by
    intro l
    induction l with
    | nil => intro _ l'; cases l' <;> simp [sameL]
    | cons a l ih =>
      intro h l'
      cases l' with
      | nil => simp [sameL]
      | cons b l' =>
        simp only [sameL, Bool.and_eq_true, List.cons.injEq]
        rw [h a List.mem_cons_self b, ih (fun t ht => h t (List.mem_cons_of_mem _ ht)) l']
  refine ind (P := fun a => ∀ b, same a b = true ↔ a = b) (fun k m lo hi r kids ih b => ?_) a
  cases b with
  | mk k' m' lo' hi' r' kids' =>
    simp only [same, Bool.and_eq_true, decide_eq_true_eq, NT.mk.injEq, hL kids ih kids']
    constructor
    · rintro ⟨⟨⟨⟨⟨h1, h2⟩, h3⟩, h4⟩, h5⟩, h6⟩; exact ⟨h1, h2, h3, h4, h5, h6⟩
    · rintro ⟨h1, h2, h3, h4, h5, h6⟩; exact ⟨⟨⟨⟨⟨h1, h2⟩, h3⟩, h4⟩, h5⟩, h6⟩
end NT

/-! ### the counting -/
def visC (n : Int) (_ : Step) : Bool × Int := (decide (n + 1 ≤ 2000), n + 1)
def lvN {σ : Type} (s : σ) (_ : Step) : σ := s
theorem run_count (l : List Ev) : ∀ n : Int, n ≤ 2000 → run visC lvN l n = (decide (n + (enters l).length ≤ 2000), min (n + (enters l).length) 2001) := by
  induction l with
  | nil => intro n hn; simp [run, enters]; omega
  | cons x l ih =>
    intro n hn
    cases x with
    | enter t =>
      have hlen : (enters (Ev.enter t :: l)).length = (enters l).length + 1 := rfl
      rw [hlen]
      by_cases h : n + 1 ≤ 2000
      · have hv : (visC n t).1 = true := decide_eq_true h
        rw [run_enter hv, show (visC n t).2 = n + 1 from rfl, ih _ h]
        push_cast
        rw [show n + 1 + ((enters l).length : Int) = n + ((enters l).length + 1) by omega]
      · have hv : (visC n t).1 = false := decide_eq_false h
        rw [run_stop hv, show (visC n t).2 = n + 1 from rfl, decide_eq_false (by push_cast; omega)]
        push_cast
        congr 1
        omega
    | leave t => simp only [run, lvN, enters]; exact ih n hn
/-- Count -/
def countT (t : NT) : Int := min (t.nodes : Int) 2001
theorem count_run (t : NT) : (run visC lvN (Step.top t).evs 0).2 = countT t := by
  rw [run_count _ 0 (by omega)]
  unfold Step.evs countT
  rw [enters_length]
  simp [Step.top]

/-! ### what is right -/
def thing (k : Int) : Bool := decide (k = 2) || decide (k = 7) || decide (k = 8) || decide (k = 9)
def stands (s : Step) : Bool :=
  if s.around = 9 then thing s.n.k
  else if s.around = 6 then !decide (s.n.k = 6)
  else if s.around = 5 then (if s.n.k = 3 then s.branch && s.first else if s.n.k = 4 then s.branch && s.last else thing s.n.k)
  else true
def bounds (lo hi : Int) : Bool := decide (0 ≤ lo) && decide (lo ≤ 255) && (decide (hi = -1) || (decide (lo ≤ hi) && decide (hi ≤ 255)))
def setOk (r : List S64) (chars fold : Bool) : Bool := decide (r = Cls.norm r chars) && (!fold || decide (Cls.fold r = r))
def formed (t : NT) (chars fold : Bool) : Bool :=
  if t.k = 1 ∨ t.k = 3 ∨ t.k = 4 then decide (t.kids.length = 0) && decide (t.r.length = 0) && decide (t.m = 0) && (decide (t.lo = 0) && decide (t.hi = 0))
  else if t.k = 2 then setOk t.r chars fold && (decide (t.kids.length = 0) && decide (t.m = 0) && (decide (t.lo = 0) && decide (t.hi = 0)))
  else if t.k = 5 ∨ t.k = 6 then decide (2 ≤ t.kids.length) && decide (t.r.length = 0) && decide (t.m = 0) && (decide (t.lo = 0) && decide (t.hi = 0))
  else if t.k = 7 then decide (t.kids.length = 1) && decide (t.r.length = 0) && (decide (t.lo = 0) && decide (t.hi = 0))
  else if t.k = 8 then decide (1 ≤ t.m) && decide (t.m ≤ 9) && decide (t.kids.length = 0) && decide (t.r.length = 0) && (decide (t.lo = 0) && decide (t.hi = 0))
  else if t.k = 9 then bounds t.lo t.hi && decide (t.kids.length = 1) && decide (t.r.length = 0) && decide (t.m = 0)
  else false
structure SR where
  wrong : Int
  many : Int
  groups : Int
  ended : List Int
def visR (chars fold : Bool) (st : SR) (s : Step) : Bool × SR :=
  if 2000 ≤ st.many then (false, ⟨42, st.many + 1, st.groups, st.ended⟩)
  else if 40 < s.deep then (false, ⟨43, st.many + 1, st.groups, st.ended⟩)
  else if (!stands s || !formed s.n chars fold) = true then (false, ⟨50, st.many + 1, st.groups, st.ended⟩)
  else if s.n.k = 7 then
    if s.n.m ≠ st.groups + 1 then (false, ⟨50, st.many + 1, st.groups + 1, st.ended⟩)
    else if 30 < st.groups + 1 then (false, ⟨42, st.many + 1, st.groups + 1, st.ended⟩)
    else (decide (st.wrong = 0), ⟨st.wrong, st.many + 1, st.groups + 1, st.ended⟩)
  else if s.n.k = 8 ∧ st.ended.contains s.n.m = false then (false, ⟨41, st.many + 1, st.groups, st.ended⟩)
  else (decide (st.wrong = 0), ⟨st.wrong, st.many + 1, st.groups, st.ended⟩)
def lvR (st : SR) (s : Step) : SR := if s.n.k = 7 then ⟨st.wrong, st.many, st.groups, st.ended ++ [s.n.m]⟩ else st
/-- Right -/
def rightT (t : NT) (chars fold : Bool) : Int := (run (visR chars fold) lvR (Step.top t).evs ⟨0, 0, 0, []⟩).2.wrong
end Go.Proofs.Ytamhkdlcoghdbaa.PCls
