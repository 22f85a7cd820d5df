/- The plain laws of what is right: a tree that is right has so many nodes, so deep, its groups are numbered; its kids are right. No program in it. -/
import Derived.Test.YtamhkdlcoghdbaaTPure
namespace Go.Proofs.Ytamhkdlcoghdbaa.PCls
open Go.RowKit
set_option linter.unusedVariables false
set_option linter.unusedSimpArgs false

def groupsIn (l : List Step) : Nat := (l.filter fun s => decide (s.n.k = 7)).length
/-- the groups' numbers rise by one -/
def numbered : List Step → Int → Bool
  | [], _ => true
  | s :: l, g => if s.n.k = 7 then decide (s.n.m = g + 1) && numbered l (g + 1) else numbered l g
theorem groupsIn_cons (s : Step) (l : List Step) : groupsIn (s :: l) = (if s.n.k = 7 then 1 else 0) + groupsIn l := by
  unfold groupsIn
  by_cases h : s.n.k = 7
  · simp [List.filter_cons, h]; omega
  · simp [List.filter_cons, h]

theorem visR_ok (chars fold : Bool) (st : SR) (s : Step) (h : (visR chars fold st s).1 = true) :
    (visR chars fold st s).2 = ⟨st.wrong, st.many + 1, if s.n.k = 7 then st.groups + 1 else st.groups, st.ended⟩ ∧ st.wrong = 0 ∧ st.many < 2000 ∧ s.deep ≤ 40 ∧ stands s = true ∧ formed s.n chars fold = true ∧
      (s.n.k = 7 → s.n.m = st.groups + 1 ∧ st.groups + 1 ≤ 30) ∧ (s.n.k = 8 → st.ended.contains s.n.m = true) := by
  unfold visR at h ⊢
  by_cases h1 : 2000 ≤ st.many
  · rw [if_pos h1] at h; simp at h
  rw [if_neg h1] at h ⊢
  by_cases h2 : 40 < s.deep
  · rw [if_pos h2] at h; simp at h
  rw [if_neg h2] at h ⊢
  by_cases h3 : (!stands s || !formed s.n chars fold) = true
  · rw [if_pos h3] at h; simp at h
  rw [if_neg h3] at h ⊢
  simp only [Bool.or_eq_true, Bool.not_eq_true', not_or, Bool.not_eq_false] at h3
  by_cases h4 : s.n.k = 7
  · rw [if_pos h4] at h ⊢
    by_cases h5 : s.n.m ≠ st.groups + 1
    · rw [if_pos h5] at h; simp at h
    rw [if_neg h5] at h ⊢
    by_cases h6 : 30 < st.groups + 1
    · rw [if_pos h6] at h; simp at h
    rw [if_neg h6] at h ⊢
    simp only [decide_eq_true_eq] at h
    refine ⟨by rw [if_pos h4], h, by omega, by omega, h3.1, h3.2, fun _ => ⟨by omega, by omega⟩, fun h8 => ?_⟩
    omega
  · rw [if_neg h4] at h ⊢
    by_cases h5 : s.n.k = 8 ∧ st.ended.contains s.n.m = false
    · rw [if_pos h5] at h; simp at h
    rw [if_neg h5] at h ⊢
    simp only [decide_eq_true_eq] at h
    refine ⟨by rw [if_neg h4], h, by omega, by omega, h3.1, h3.2, fun h7 => absurd h7 h4, fun h8 => ?_⟩
    cases hc : st.ended.contains s.n.m
    · exact absurd ⟨h8, hc⟩ h5
    · rfl
theorem visR_bad (chars fold : Bool) (st : SR) (s : Step) (h0 : st.wrong = 0) (h : (visR chars fold st s).1 ≠ true) : (visR chars fold st s).2.wrong ≠ 0 := by
  unfold visR at h ⊢
  by_cases h1 : 2000 ≤ st.many
  · rw [if_pos h1]; simp
  rw [if_neg h1] at h ⊢
  by_cases h2 : 40 < s.deep
  · rw [if_pos h2]; simp
  rw [if_neg h2] at h ⊢
  by_cases h3 : (!stands s || !formed s.n chars fold) = true
  · rw [if_pos h3]; simp
  rw [if_neg h3] at h ⊢
  by_cases h4 : s.n.k = 7
  · rw [if_pos h4] at h ⊢
    by_cases h5 : s.n.m ≠ st.groups + 1
    · rw [if_pos h5]; simp
    rw [if_neg h5] at h ⊢
    by_cases h6 : 30 < st.groups + 1
    · rw [if_pos h6]; simp
    rw [if_neg h6] at h
    exact absurd (decide_eq_true h0) h
  · rw [if_neg h4] at h ⊢
    by_cases h5 : s.n.k = 8 ∧ st.ended.contains s.n.m = false
    · rw [if_pos h5]; simp
    rw [if_neg h5] at h
    exact absurd (decide_eq_true h0) h
theorem lvR_same (st : SR) (s : Step) : (lvR st s).wrong = st.wrong ∧ (lvR st s).many = st.many ∧ (lvR st s).groups = st.groups := by
  unfold lvR
  split <;> exact ⟨rfl, rfl, rfl⟩

/-- what is right in every place is right; and what is right is so in every place -/
theorem right_ok (chars fold : Bool) (l : List Ev) : ∀ st : SR, st.wrong = 0 → st.many ≤ 2000 → (run (visR chars fold) lvR l st).2.wrong = 0 →
    (run (visR chars fold) lvR l st).1 = true ∧ st.many + (enters l).length ≤ 2000 ∧ (∀ s, s ∈ enters l → s.deep ≤ 40 ∧ stands s = true ∧ formed s.n chars fold = true) ∧ numbered (enters l) st.groups = true ∧
      (st.groups ≤ 30 → st.groups + groupsIn (enters l) ≤ 30) := by
  induction l with
  | nil => intro st h0 hm _; exact ⟨rfl, by simp [enters]; omega, fun s h => by simp [enters] at h, rfl, fun h => by simp [enters, groupsIn]; omega⟩
  | cons x l ih =>
    intro st h0 hm hw
    cases x with
    | leave t =>
      simp only [run, enters] at hw ⊢
      obtain ⟨e1, e2, e3⟩ := lvR_same st t
      have := ih (lvR st t) (e1.trans h0) (by omega) hw
      rw [e2, e3] at this
      exact this
    | enter t =>
      by_cases hv : (visR chars fold st t).1 = true
      · obtain ⟨e, _, g1, g2, g3, g4, g5, g6⟩ := visR_ok chars fold st t hv
        simp only [run, if_pos hv] at hw ⊢
        rw [e] at hw ⊢
        have := ih ⟨st.wrong, st.many + 1, if t.n.k = 7 then st.groups + 1 else st.groups, st.ended⟩ h0 (show st.many + 1 ≤ 2000 by omega) hw
        obtain ⟨a1, a2, a3, a4, a5⟩ := this
        refine ⟨a1, ?_, ?_, ?_, ?_⟩
        · simp only [enters, List.length_cons] at a2 ⊢
          push_cast
          omega
        · intro s hs
          rcases List.mem_cons.1 hs with rfl | hs
          · exact ⟨g2, g3, g4⟩
          · exact a3 s hs
        · simp only [enters, numbered]
          by_cases h7 : t.n.k = 7
          · rw [if_pos h7, decide_eq_true (g5 h7).1, Bool.true_and]
            simp only [if_pos h7] at a4
            exact a4
          · rw [if_neg h7]
            simp only [if_neg h7] at a4
            exact a4
        · intro hg
          simp only [enters, groupsIn_cons]
          by_cases h7 : t.n.k = 7
          · simp only [if_pos h7] at a5 ⊢
            have := a5 (g5 h7).2
            push_cast
            omega
          · simp only [if_neg h7] at a5 ⊢
            have := a5 hg
            push_cast
            omega
      · simp only [run, if_neg hv] at hw
        exact absurd hw (visR_bad chars fold st t h0 hv)
/-- what is right in every place, without groups and what goes back to one, is right -/
theorem right_of (chars fold : Bool) (l : List Ev) : ∀ st : SR, st.wrong = 0 → st.many + (enters l).length ≤ 2000 → (∀ s, s ∈ enters l → s.deep ≤ 40 ∧ stands s = true ∧ formed s.n chars fold = true ∧ s.n.k ≠ 7 ∧ s.n.k ≠ 8) →
    (run (visR chars fold) lvR l st).2.wrong = 0 := by
  induction l with
  | nil => intro st h0 _ _; exact h0
  | cons x l ih =>
    intro st h0 hm hs
    cases x with
    | leave t =>
      simp only [run]
      obtain ⟨e1, e2, e3⟩ := lvR_same st t
      exact ih (lvR st t) (e1.trans h0) (by rw [e2]; exact hm) hs
    | enter t =>
      obtain ⟨g1, g2, g3, g4, g5⟩ := hs t List.mem_cons_self
      have hlen : (enters (Ev.enter t :: l)).length = (enters l).length + 1 := rfl
      rw [hlen] at hm
      push_cast at hm
      have e : visR chars fold st t = (true, ⟨st.wrong, st.many + 1, st.groups, st.ended⟩) := by
        unfold visR
        rw [if_neg (by omega), if_neg (by omega), if_neg (by rw [g2, g3]; simp), if_neg g4, if_neg (fun h => g5 h.1), decide_eq_true h0]
      simp only [run, e, if_true]
      exact ih _ h0 (show st.many + 1 + ((enters l).length : Int) ≤ 2000 by omega) (fun s h => hs s (List.mem_cons_of_mem _ h))

/-- no group has ended, so none can be gone back to -/
theorem right_back (chars fold : Bool) (l : List Ev) : ∀ st : SR, st.wrong = 0 → st.ended = [] → (∀ s, s ∈ enters l → s.n.k ≠ 7) → (∀ s, Ev.leave s ∈ l → s.n.k ≠ 7) → (run (visR chars fold) lvR l st).2.wrong = 0 → ∀ s, s ∈ enters l → s.n.k ≠ 8 := by
  induction l with
  | nil => intro st _ _ _ _ _ s h; simp [enters] at h
  | cons x l ih =>
    intro st h0 he hs hl hw
    cases x with
    | leave t =>
      simp only [run, enters] at hw ⊢
      have e : lvR st t = st := by unfold lvR; rw [if_neg (hl t List.mem_cons_self)]
      rw [e] at hw
      exact ih st h0 he hs (fun s h => hl s (List.mem_cons_of_mem _ h)) hw
    | enter t =>
      by_cases hv : (visR chars fold st t).1 = true
      · obtain ⟨e, _, g1, g2, g3, g4, g5, g6⟩ := visR_ok chars fold st t hv
        simp only [run, if_pos hv] at hw
        rw [e] at hw
        intro s h
        rcases List.mem_cons.1 h with rfl | h
        · intro h8
          have := g6 h8
          rw [he] at this
          simp at this
        · exact ih ⟨st.wrong, st.many + 1, if t.n.k = 7 then st.groups + 1 else st.groups, st.ended⟩ h0 he (fun s h => hs s (List.mem_cons_of_mem _ h)) (fun s h => hl s (List.mem_cons_of_mem _ h)) hw s h
      · simp only [run, if_neg hv] at hw
        exact absurd hw (visR_bad chars fold st t h0 hv)
/-- who leaves has come -/
theorem leave_entered : ∀ (t : NT) (d a : Int) (f l b : Bool) (s : Step), Ev.leave s ∈ evs t d a f l b → s ∈ enters (evs t d a f l b) := by
  have hL : ∀ ts : List NT, (∀ t, t ∈ ts → ∀ (d a : Int) (f l b : Bool) (s : Step), Ev.leave s ∈ evs t d a f l b → s ∈ enters (evs t d a f l b)) → ∀ (d a : Int) (n i : Nat) (b : Bool) (s : Step), Ev.leave s ∈ evsL ts d a n i b → s ∈ enters (evsL ts d a n i b) := by
    intro ts
    induction ts with
    | nil => intro _ d a n i b s h; simp [evsL] at h
    | cons x ts ih =>
      intro h d a n i b s hs
      simp only [evsL, List.mem_append, enters_append] at hs ⊢
      rcases hs with hs | hs
      · exact .inl (h x List.mem_cons_self _ _ _ _ _ s hs)
      · exact .inr (ih (fun t ht => h t (List.mem_cons_of_mem _ ht)) _ _ _ _ _ s hs)
  refine fun t => NT.ind (P := fun t => ∀ (d a : Int) (f l b : Bool) (s : Step), Ev.leave s ∈ evs t d a f l b → s ∈ enters (evs t d a f l b)) (fun k m lo hi r kids ih d a f l b s hs => ?_) t
  simp only [evs, List.mem_cons, List.mem_append, enters, enters_append, reduceCtorEq, false_or, Ev.leave.injEq, List.not_mem_nil, or_false] at hs ⊢
  rcases hs with hs | hs
  · exact .inr (hL kids ih _ _ _ _ _ s hs)
  · exact .inl hs
/-- the same tree, less deep, at a branch where it was at one: each node stands where it may, where it did -/
theorem evs_mono : ∀ (t : NT) (d d' a a' : Int) (f f' l l' b b' : Bool), d' ≤ d → (b = true → b' = true) → (a' = 0 ∨ a' = a ∧ f' = f ∧ l' = l) → ∀ s', s' ∈ enters (evs t d' a' f' l' b') → ∃ s, s ∈ enters (evs t d a f l b) ∧ s'.n = s.n ∧ s'.deep ≤ s.deep ∧ (stands s = true → stands s' = true) := by
  have hL : ∀ ts : List NT, (∀ t, t ∈ ts → ∀ (d d' a a' : Int) (f f' l l' b b' : Bool), d' ≤ d → (b = true → b' = true) → (a' = 0 ∨ a' = a ∧ f' = f ∧ l' = l) → ∀ s', s' ∈ enters (evs t d' a' f' l' b') → ∃ s, s ∈ enters (evs t d a f l b) ∧ s'.n = s.n ∧ s'.deep ≤ s.deep ∧ (stands s = true → stands s' = true)) →
      ∀ (d d' a : Int) (n i : Nat) (b b' : Bool), d' ≤ d → (b = true → b' = true) → ∀ s', s' ∈ enters (evsL ts d' a n i b') → ∃ s, s ∈ enters (evsL ts d a n i b) ∧ s'.n = s.n ∧ s'.deep ≤ s.deep ∧ (stands s = true → stands s' = true) := by
    intro ts
    induction ts with
    | nil => intro _ d d' a n i b b' _ _ s' h; simp [evsL, enters] at h
    | cons x ts ih =>
      intro h d d' a n i b b' hd hb s' hs
      simp only [evsL, enters_append, List.mem_append] at hs ⊢
      rcases hs with hs | hs
      · obtain ⟨s, h1, h2⟩ := h x List.mem_cons_self d d' a a _ _ _ _ b b' hd hb (.inr ⟨rfl, rfl, rfl⟩) s' hs
        exact ⟨s, .inl h1, h2⟩
      · obtain ⟨s, h1, h2⟩ := ih (fun t ht => h t (List.mem_cons_of_mem _ ht)) d d' a n (i + 1) b b' hd hb s' hs
        exact ⟨s, .inr h1, h2⟩
  refine fun t => NT.ind (P := fun t => ∀ (d d' a a' : Int) (f f' l l' b b' : Bool), d' ≤ d → (b = true → b' = true) → (a' = 0 ∨ a' = a ∧ f' = f ∧ l' = l) → ∀ s', s' ∈ enters (evs t d' a' f' l' b') → ∃ s, s ∈ enters (evs t d a f l b) ∧ s'.n = s.n ∧ s'.deep ≤ s.deep ∧ (stands s = true → stands s' = true)) (fun k m lo hi r kids ih d d' a a' f f' l l' b b' hd hb ha s' hs => ?_) t
  simp only [evs, enters, enters_append, List.mem_cons, List.mem_append, List.append_nil, List.not_mem_nil, or_false] at hs ⊢
  rcases hs with rfl | hs
  · refine ⟨_, .inl rfl, rfl, hd, ?_⟩
    rcases ha with ha | ⟨rfl, rfl, rfl⟩
    · intro _; unfold stands; simp [ha]
    · unfold stands
      simp only
      by_cases h9 : a' = 9
      · simp [h9]
      by_cases h6 : a' = 6
      · simp [h6]
      by_cases h5 : a' = 5
      · simp only [h5, show ((5 : Int) = 9) ↔ False by decide, show ((5 : Int) = 6) ↔ False by decide, if_true, if_false]
        by_cases h3 : k = 3
        · simp only [NT.k, h3, if_true, Bool.and_eq_true]; exact fun h => ⟨hb h.1, h.2⟩
        · by_cases h4 : k = 4
          · simp only [NT.k, h4, show ((4 : Int) = 3) ↔ False by decide, if_false, if_true, Bool.and_eq_true]; exact fun h => ⟨hb h.1, h.2⟩
          · simp only [NT.k, h3, h4, if_false]; exact id
      · simp [h9, h6, h5]
  · have hbr : branchOf k b = true → branchOf k b' = true := by
      unfold branchOf
      simp only [Bool.or_eq_true, Bool.and_eq_true, decide_eq_true_eq]
      rintro (h | ⟨h, k⟩)
      · exact .inl h
      · exact .inr ⟨h, hb k⟩
    obtain ⟨s, h1, h2⟩ := hL kids ih (d + 1) (d' + 1) k kids.length 0 _ _ (by omega) hbr s' hs
    exact ⟨s, .inr h1, h2⟩
/-- the kids of a right tree without groups are right -/
theorem kid_right (chars fold : Bool) (t : NT) (c : NT) (hc : c ∈ t.kids) (hr : rightT t chars fold = 0) (hg : groupsIn (enters (Step.top t).evs) = 0) : rightT c chars fold = 0 ∧ groupsIn (enters (Step.top c).evs) = 0 := by
  obtain ⟨h1, h2, h3, h4, h5⟩ := right_ok chars fold _ ⟨0, 0, 0, []⟩ rfl (by decide) hr
  have hno7 : ∀ s, s ∈ enters (Step.top t).evs → s.n.k ≠ 7 := by
    intro s hs h7
    have : s ∈ (enters (Step.top t).evs).filter fun s => decide (s.n.k = 7) := List.mem_filter.2 ⟨hs, by simp [h7]⟩
    unfold groupsIn at hg
    rw [List.length_eq_zero_iff.1 hg] at this
    cases this
  have hno8 := right_back chars fold _ ⟨0, 0, 0, []⟩ rfl rfl hno7 (fun s hs => hno7 s (leave_entered _ _ _ _ _ _ s hs)) hr
  -- the kid's place in the tree
  obtain ⟨k, m, lo, hi, r, kids⟩ := t
  simp only [NT.kids] at hc
  have hsub : ∀ (ts : List NT) (d a : Int) (n i : Nat) (b : Bool), c ∈ ts → ∃ f l, ∀ s, s ∈ enters (evs c d a f l b) → s ∈ enters (evsL ts d a n i b) := by
    intro ts
    induction ts with
    | nil => intro d a n i b h; cases h
    | cons x ts ih =>
      intro d a n i b h
      simp only [evsL, enters_append, List.mem_append]
      rcases List.mem_cons.1 h with rfl | h
      · exact ⟨_, _, fun s hs => .inl hs⟩
      · obtain ⟨f, l, hfl⟩ := ih d a n (i + 1) b h
        exact ⟨f, l, fun s hs => .inr (hfl s hs)⟩
  obtain ⟨f, l, hin⟩ := hsub kids 2 k kids.length 0 (branchOf k true) hc
  have hmem : ∀ s, s ∈ enters (evs c 2 k f l (branchOf k true)) → s ∈ enters (Step.top (.mk k m lo hi r kids)).evs := fun s hs => by
    simp only [Step.top, Step.evs, evs, enters, enters_append, List.mem_cons, List.mem_append]
    exact .inr (.inl (hin s hs))
  have hmono := evs_mono c 2 1 k 0 f true l true (branchOf k true) true (by decide) (fun _ => rfl) (.inl rfl)
  have hall : ∀ s', s' ∈ enters (Step.top c).evs → s'.deep ≤ 40 ∧ stands s' = true ∧ formed s'.n chars fold = true ∧ s'.n.k ≠ 7 ∧ s'.n.k ≠ 8 := fun s' hs' => by
    obtain ⟨s, hs, e, hd, hst⟩ := hmono s' hs'
    have hm := hmem s hs
    obtain ⟨g1, g2, g3⟩ := h3 s hm
    exact ⟨by omega, hst g2, by rw [e]; exact g3, by rw [e]; exact hno7 s hm, by rw [e]; exact hno8 s hm⟩
  have hnod : (enters (Step.top c).evs).length ≤ (enters (Step.top (NT.mk k m lo hi r kids)).evs).length := by
    unfold Step.evs
    rw [enters_length, enters_length]
    have := NT.nodes_kid hc
    simp only [Step.top, NT.nodes]
    omega
  refine ⟨right_of chars fold _ ⟨0, 0, 0, []⟩ rfl (by simp only at h2 ⊢; omega) hall, ?_⟩
  unfold groupsIn
  rw [List.length_eq_zero_iff, List.filter_eq_nil_iff]
  intro s hs
  simp [(hall s hs).2.2.2.1]
end Go.Proofs.Ytamhkdlcoghdbaa.PCls
