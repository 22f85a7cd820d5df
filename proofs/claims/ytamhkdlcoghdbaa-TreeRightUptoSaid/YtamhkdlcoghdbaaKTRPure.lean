/- Out of TRPure (wip/tools/prune2.py): the declarations alone that the texts of the trees name. -/
import Derived.Test.YtamhkdlcoghdbaaKMTLay0
import Derived.Test.YtamhkdlcoghdbaaKMTRight2
namespace Go.Proofs.Ytamhkdlcoghdbaa.PCls
open Go.RowKit
set_option linter.unusedVariables false
set_option linter.unusedSimpArgs false
/-- the reference's Right: the places from one on, where it stands, where each group ends -/
def refRun (chars fold : Bool) : List (Step × Nat) → Nat → List Nat → Int
 | [], _, _ => 0
 | (s, en) :: rest, i, ends =>
  if 2000 ≤ i then 42 else if 40 < s.deep then 43
  else if (!(stands s && formed s.n chars fold) || (decide (s.n.k = 7) && decide (s.n.m ≠ (ends.length : Int) + 1))) = true then 50
  else if s.n.k = 7 then (if 30 < ends.length + 1 then 42 else refRun chars fold rest (i + 1) (ends ++ [en]))
  else if s.n.k = 8 ∧ ((ends.length : Int) < s.n.m ∨ i < ends.getD (s.n.m - 1).toNat 0) then 41
  else refRun chars fold rest (i + 1) ends
/-- which groups have ended, and where -/
def Hyp (E : List Int) (ends : List Nat) (i e : Nat) : Prop := (∀ m, E.contains m = true → 1 ≤ m ∧ m ≤ (ends.length : Int)) ∧ ∀ (q en : Nat), ends[q]? = some en → (E.contains ((q : Int) + 1) = true ∧ en ≤ i) ∨ (E.contains ((q : Int) + 1) = false ∧ min 2001 e ≤ en)
theorem ref_one (chars fold : Bool) (s : Step) (en i : Nat) (ends : List Nat) (rest : List (Step × Nat)) (st : SR) (h0 : st.wrong = 0) (hm : st.many = i) (hg : st.groups = ends.length) (e : Nat) (he : i < e) (H : Hyp st.ended ends i e) :
  ((visR chars fold st s).1 = false → refRun chars fold ((s, en) :: rest) i ends = (visR chars fold st s).2.wrong) ∧
  ((visR chars fold st s).1 = true → ∃ ends1 : List Nat, (s.n.k = 7 → ends1 = ends ++ [en]) ∧ (¬ s.n.k = 7 → ends1 = ends) ∧ i < 2000 ∧ refRun chars fold ((s, en) :: rest) i ends = refRun chars fold rest (i + 1) ends1 ∧ (visR chars fold st s).2 = ⟨0, (i : Int) + 1, (ends1.length : Int), st.ended⟩ ∧ (s.n.k = 7 → s.n.m = (ends.length : Int) + 1)) := by
 simp only [refRun, visR, hm, hg, h0]
 by_cases h1 : 2000 ≤ i
 ·rw [if_pos (show (2000 : Int) ≤ (i : Int) by omega), if_pos h1]
  exact ⟨fun _ => rfl, fun h => by simp at h⟩
 rw [if_neg (show ¬ (2000 : Int) ≤ (i : Int) by omega), if_neg h1]
 by_cases h2 : 40 < s.deep
 ·rw [if_pos h2, if_pos h2]; exact ⟨fun _ => rfl, fun h => by simp at h⟩
 rw [if_neg h2, if_neg h2]
 have e3 : (!stands s || !formed s.n chars fold) = !(stands s && formed s.n chars fold) := by rw [Bool.not_and]
 rw [e3]
 by_cases h3 : (!(stands s && formed s.n chars fold)) = true
 ·rw [if_pos h3, if_pos (by rw [h3]; rfl)]; exact ⟨fun _ => rfl, fun h => by simp at h⟩
 have h3f : (!(stands s && formed s.n chars fold)) = false := by simpa using h3
 rw [if_neg h3, h3f, Bool.false_or]
 by_cases h7 : s.n.k = 7
 ·rw [if_pos h7, decide_eq_true h7, Bool.true_and]
  by_cases h4 : s.n.m ≠ (ends.length : Int) + 1
  ·rw [if_pos h4, if_pos (decide_eq_true h4)]; exact ⟨fun _ => rfl, fun h => by simp at h⟩
  ·rw [if_neg h4, if_neg (show ¬ decide (s.n.m ≠ (ends.length : Int) + 1) = true by simpa using h4)]
   by_cases h5 : (30 : Int) < (ends.length : Int) + 1
   ·rw [if_pos h5, if_pos h7, if_pos (show 30 < ends.length + 1 by omega)]; exact ⟨fun _ => rfl, fun h => by simp at h⟩
   ·rw [if_neg h5, if_pos h7, if_neg (show ¬ 30 < ends.length + 1 by omega)]
    refine ⟨fun h => by simp at h, fun _ => ⟨ends ++ [en], fun _ => rfl, fun h => absurd h7 h, by omega, rfl, by simp, fun _ => by omega⟩⟩
 ·rw [if_neg h7, decide_eq_false h7, Bool.false_and, if_neg Bool.false_ne_true, if_neg h7]
  by_cases h8 : s.n.k = 8
  ·-- what goes back
   have hf : formed s.n chars fold = true := by
    have := h3f
    simp only [Bool.not_eq_false', Bool.and_eq_true] at this
    exact this.2
   have hm1 : 1 ≤ s.n.m := by
    obtain ⟨⟨k, m, lo, hi, r, kids⟩, d, a, f, l, b⟩ := s
    simp only [NT.k] at h8
    subst h8
    have e8 : formed (.mk 8 m lo hi r kids) chars fold = (decide (1 ≤ m) && decide (m ≤ 9) && decide (kids.length = 0) && decide (r.length = 0) && (decide (lo = 0) && decide (hi = 0))) := rfl
    simp only at hf
    rw [e8] at hf
    simp only [Bool.and_eq_true, decide_eq_true_eq] at hf
    exact hf.1.1.1.1
   have key : (st.ended.contains s.n.m = false) ↔ ((ends.length : Int) < s.n.m ∨ i < ends.getD (s.n.m - 1).toNat 0) := by
    by_cases hle : s.n.m ≤ (ends.length : Int)
    ·obtain ⟨q, hq⟩ : ∃ q : Nat, s.n.m = (q : Int) + 1 := ⟨(s.n.m - 1).toNat, by omega⟩
     have hql : q < ends.length := by omega
     rw [hq]
     have eq : ((q : Int) + 1 - 1).toNat = q := by omega
     rw [eq]
     have hg2 : ends[q]? = some ends[q] := List.getElem?_eq_getElem hql
     have hgd : ends.getD q 0 = ends[q] := by simp [List.getD_eq_getElem?_getD, hg2]
     rw [hgd]
     rcases H.2 q _ hg2 with ⟨g1, g2⟩ | ⟨g1, g2⟩
     ·rw [g1]; constructor
      ·intro h; cases h
      ·rintro (h | h)
       ·omega
       ·omega
     ·rw [g1]; constructor
      ·intro _; right; omega
      ·intro _; rfl
    ·constructor
     ·intro _; left; omega
     ·intro _
      cases hc : st.ended.contains s.n.m
      ·rfl
      ·have := H.1 _ hc; omega
   by_cases hc : st.ended.contains s.n.m = false
   ·rw [if_pos ⟨h8, hc⟩, if_pos ⟨h8, key.1 hc⟩]; exact ⟨fun _ => rfl, fun h => by simp at h⟩
   ·rw [if_neg (fun h => hc h.2), if_neg (fun h => hc (key.2 h.2))]
    exact ⟨fun h => by simp at h, fun _ => ⟨ends, fun h => absurd h h7, fun _ => rfl, by omega, rfl, rfl, fun h => absurd h h7⟩⟩
  ·rw [if_neg (fun h => h8 h.1), if_neg (fun h => h8 h.1)]
   exact ⟨fun h => by simp at h, fun _ => ⟨ends, fun h => absurd h h7, fun _ => rfl, by omega, rfl, rfl, fun h => absurd h h7⟩⟩
/-- what is there when a part has been gone through -/
structure Gone (E E' : List Int) (ends news : List Nat) (i' : Nat) : Prop where
 old : ∀ q : Nat, q < ends.length → E'.contains ((q : Int) + 1) = E.contains ((q : Int) + 1)
 new : ∀ q en : Nat, news[q]? = some en → E'.contains ((ends.length : Int) + q + 1) = true ∧ en ≤ i'
 all : ∀ m, E'.contains m = true → 1 ≤ m ∧ m ≤ ((ends ++ news).length : Int)
theorem Gone.hyp {E E' : List Int} {ends news : List Nat} {i i' e : Nat} (h : Gone E E' ends news i') (hi : i ≤ i') (H : Hyp E ends i e) : Hyp E' (ends ++ news) i' e := by
 refine ⟨h.all, fun q en hq => ?_⟩
 by_cases hl : q < ends.length
 ·rw [List.getElem?_append_left hl] at hq
  rw [h.old q hl]
  rcases H.2 q en hq with ⟨a, b⟩ | ⟨a, b⟩
  ·exact .inl ⟨a, by omega⟩
  ·exact .inr ⟨a, b⟩
 ·rw [List.getElem?_append_right (by omega)] at hq
  obtain ⟨a, b⟩ := h.new _ en hq
  refine .inl ⟨?_, b⟩
  rw [show (q : Int) + 1 = (ends.length : Int) + ((q - ends.length : Nat) : Int) + 1 by omega]
  exact a
theorem Gone.trans {E E1 E2 : List Int} {ends n1 n2 : List Nat} {i1 i2 : Nat} (h : Gone E E1 ends n1 i1) (k : Gone E1 E2 (ends ++ n1) n2 i2) (hi : i1 ≤ i2) : Gone E E2 ends (n1 ++ n2) i2 := by
 refine ⟨fun q hq => (k.old q (by simp; omega)).trans (h.old q hq), fun q en hq => ?_, fun m hm => by have := k.all m hm; rw [List.append_assoc] at this; exact this⟩
 by_cases hl : q < n1.length
 ·rw [List.getElem?_append_left hl] at hq
  obtain ⟨a, b⟩ := h.new q en hq
  refine ⟨?_, by omega⟩
  have := k.old (ends.length + q) (by simp; omega)
  rw [show (ends.length : Int) + q + 1 = ((ends.length + q : Nat) : Int) + 1 by omega, this]
  rw [show ((ends.length + q : Nat) : Int) + 1 = (ends.length : Int) + q + 1 by omega]
  exact a
 ·rw [List.getElem?_append_right (by omega)] at hq
  obtain ⟨a, b⟩ := k.new _ en hq
  refine ⟨?_, b⟩
  rw [show (ends.length : Int) + q + 1 = ((ends ++ n1).length : Int) + ((q - n1.length : Nat) : Int) + 1 by simp; omega]
  exact a
theorem Gone.none_ {E : List Int} {ends : List Nat} {i e : Nat} (H : Hyp E ends i e) : Gone E E ends [] i := ⟨fun _ _ => rfl, fun q en h => by simp at h, fun m hm => by have := H.1 m hm; simpa using this⟩
theorem layN_length (most : Nat) (t : NT) (d a : Int) (f l b : Bool) (n : Nat) : (layN most t d a f l b n).length = min (most - n) t.nodes := by
 have := congrArg List.length (layN_fst most t d a f l b n)
 simp only [List.length_map, List.length_take, enters_length] at this
 exact this
def RefPart (chars fold : Bool) (es : List Ev) (ls : Nat → List (Step × Nat)) (n : Nat) : Prop :=
 ∀ (i : Nat) (st : SR) (ends : List Nat) (rest : List (Step × Nat)) (e : Nat), i ≤ 2000 → st.wrong = 0 → st.many = i → st.groups = ends.length → Hyp st.ended ends i e → i + n ≤ e →
  ((run (visR chars fold) lvR es st).1 = false → refRun chars fold (ls i ++ rest) i ends = (run (visR chars fold) lvR es st).2.wrong) ∧
  ((run (visR chars fold) lvR es st).1 = true → ∃ news, refRun chars fold (ls i ++ rest) i ends = refRun chars fold rest (i + n) (ends ++ news) ∧ i + n ≤ 2000 ∧ (run (visR chars fold) lvR es st).2.wrong = 0 ∧ (run (visR chars fold) lvR es st).2.many = ((i + n : Nat) : Int) ∧ (run (visR chars fold) lvR es st).2.groups = ((ends ++ news).length : Int) ∧ Gone st.ended (run (visR chars fold) lvR es st).2.ended ends news (i + n))
theorem ref_tree (chars fold : Bool) : ∀ (t : NT) (d a : Int) (f l b : Bool), RefPart chars fold (evs t d a f l b) (layN 2001 t d a f l b) t.nodes := by
 have hL : ∀ ts : List NT, (∀ t, t ∈ ts → ∀ (d a : Int) (f l b : Bool), RefPart chars fold (evs t d a f l b) (layN 2001 t d a f l b) t.nodes) → ∀ (d a : Int) (c j : Nat) (b : Bool), RefPart chars fold (evsL ts d a c j b) (layL 2001 ts d a c j b) (NT.nodesL ts) := by
  intro ts
  induction ts with
  | nil =>
   intro _ d a c j b i st ends rest e hi h0 hm hg H he
   refine ⟨fun h => by simp [evsL, run] at h, fun _ => ⟨[], ?_⟩⟩
   simp only [layL, evsL, run, NT.nodesL, List.nil_append, List.append_nil, Nat.add_zero]
   exact ⟨trivial, hi, h0, hm, hg, Gone.none_ H⟩
  | cons x ts ih =>
   intro h d a c j b i st ends rest e hi h0 hm hg H he
   simp only [NT.nodesL] at he
   have hx := h x List.mem_cons_self d a (decide (j = 0)) (decide (j + 1 = c)) b i st ends (layL 2001 ts d a c (j + 1) b (i + (layN 2001 x d a (decide (j = 0)) (decide (j + 1 = c)) b i).length) ++ rest) e hi h0 hm hg H (by omega)
   simp only [evsL, layL, List.append_assoc]
   obtain ⟨r1, r2⟩ := run_append (visR chars fold) lvR (evsL ts d a c (j + 1) b) (evs x d a (decide (j = 0)) (decide (j + 1 = c)) b) st
   cases hr : (run (visR chars fold) lvR (evs x d a (decide (j = 0)) (decide (j + 1 = c)) b) st).1 with
   | false =>
    rw [r2 hr]
    exact ⟨fun _ => hx.1 hr, fun h => by rw [hr] at h; cases h⟩
   | true =>
    rw [r1 hr]
    obtain ⟨news, e1, e2, e3, e4, e5, e6⟩ := hx.2 hr
    have hlen : (layN 2001 x d a (decide (j = 0)) (decide (j + 1 = c)) b i).length = x.nodes := by rw [layN_length]; omega
    rw [hlen] at e1 ⊢
    have hy := ih (fun t ht => h t (List.mem_cons_of_mem _ ht)) d a c (j + 1) b (i + x.nodes) _ (ends ++ news) rest e e2 e3 e4 e5 (e6.hyp (by omega) H) (by omega)
    rw [e1]
    refine ⟨hy.1, fun hh => ?_⟩
    obtain ⟨n2, f1, f2, f3, f4, f5, f6⟩ := hy.2 hh
    rw [List.append_assoc] at f1 f5
    simp only [NT.nodesL]
    rw [← Nat.add_assoc]
    exact ⟨news ++ n2, f1, f2, f3, f4, f5, e6.trans f6 (by omega)⟩
 refine fun t => NT.ind (P := fun t => ∀ (d a : Int) (f l b : Bool), RefPart chars fold (evs t d a f l b) (layN 2001 t d a f l b) t.nodes) (fun k m lo hi r kids ih d a f l b i st ends rest e hi' h0 hm hg H he => ?_) t
 have hK := hL kids ih (d + 1) k kids.length 0 (branchOf k b)
 simp only [NT.nodes] at he
 simp only [evs, layN]
 rw [if_neg (show ¬ 2001 ≤ i by omega)]
 obtain ⟨en, hen⟩ : ∃ en, en = i + 1 + (layL 2001 kids (d + 1) k kids.length 0 (branchOf k b) (i + 1)).length := ⟨_, rfl⟩
 rw [← hen]
 have h1 := ref_one chars fold ⟨.mk k m lo hi r kids, d, a, f, l, b⟩ en i ends (layL 2001 kids (d + 1) k kids.length 0 (branchOf k b) (i + 1) ++ rest) st h0 hm hg e (by omega) H
 cases hv : (visR chars fold st ⟨.mk k m lo hi r kids, d, a, f, l, b⟩).1 with
 | false =>
  rw [run_stop hv]
  exact ⟨fun _ => h1.1 hv, fun h => by cases h⟩
 | true =>
  rw [run_enter hv]
  obtain ⟨ends1, q7, qn, g1, g2, g3, g4⟩ := h1.2 hv
  have q7 : k = 7 → ends1 = ends ++ [en] := q7
  have qn : ¬ k = 7 → ends1 = ends := qn
  have g4 : k = 7 → m = (ends.length : Int) + 1 := g4
  rw [g3, List.cons_append, g2]
  have hlenL : en = min 2001 (i + 1 + NT.nodesL kids) := by
   have hx := layN_length 2001 (.mk k m lo hi r kids) d a f l b i
   simp only [layN] at hx
   rw [if_neg (show ¬ 2001 ≤ i by omega)] at hx
   simp only [List.length_cons, NT.nodes] at hx
   omega
  have H1 : Hyp st.ended ends1 (i + 1) (i + 1 + NT.nodesL kids) := by
   by_cases h7 : k = 7
   ·rw [q7 h7]
    refine ⟨fun m hm => by have := H.1 m hm; simp; omega, fun q en' hq => ?_⟩
    by_cases hl : q < ends.length
    ·rw [List.getElem?_append_left hl] at hq
     rcases H.2 q en' hq with ⟨a, b⟩ | ⟨a, b⟩
     ·exact .inl ⟨a, by omega⟩
     ·exact .inr ⟨a, by omega⟩
    ·rw [List.getElem?_append_right (by omega)] at hq
     have hq0 : q = ends.length := by have := (List.getElem?_eq_some_iff.1 hq).1; simp at this; omega
     subst hq0
     simp at hq
     subst hq
     refine .inr ⟨?_, by omega⟩
     cases hc : st.ended.contains ((ends.length : Int) + 1)
     ·rfl
     ·have := H.1 _ hc; omega
   ·rw [qn h7]
    refine ⟨H.1, fun q en' hq => ?_⟩
    rcases H.2 q en' hq with ⟨a, b⟩ | ⟨a, b⟩
    ·exact .inl ⟨a, by omega⟩
    ·exact .inr ⟨a, by omega⟩
  have hk := hK (i + 1) ⟨0, (i : Int) + 1, (ends1.length : Int), st.ended⟩ ends1 rest (i + 1 + NT.nodesL kids) (by omega) rfl (by push_cast; rfl) rfl H1 (Nat.le_refl _)
  obtain ⟨r1, r2⟩ := run_append (visR chars fold) lvR [Ev.leave ⟨.mk k m lo hi r kids, d, a, f, l, b⟩] (evsL kids (d + 1) k kids.length 0 (branchOf k b)) ⟨0, (i : Int) + 1, (ends1.length : Int), st.ended⟩
  cases hr : (run (visR chars fold) lvR (evsL kids (d + 1) k kids.length 0 (branchOf k b)) ⟨0, (i : Int) + 1, (ends1.length : Int), st.ended⟩).1 with
  | false =>
   rw [r2 hr]
   exact ⟨fun _ => hk.1 hr, fun h => by rw [hr] at h; cases h⟩
  | true =>
   rw [r1 hr]
   obtain ⟨news, e1, e2, e3, e4, e5, e6⟩ := hk.2 hr
   generalize (run (visR chars fold) lvR (evsL kids (d + 1) k kids.length 0 (branchOf k b)) ⟨0, (i : Int) + 1, (ends1.length : Int), st.ended⟩).2 = st2 at e3 e4 e5 e6
   rw [run_leave, e1]
   have hnn : i + 1 + NT.nodesL kids = i + NT.nodes (.mk k m lo hi r kids) := by simp only [NT.nodes]; omega
   rw [hnn] at e1 e2 e4 e6 ⊢
   refine ⟨(fun h => by cases h), fun _ => ?_⟩
   by_cases h7 : k = 7
   ·have hends1 := q7 h7
    refine ⟨en :: news, by rw [hends1]; simp, e2, ?_⟩
    have elv : lvR st2 ⟨.mk k m lo hi r kids, d, a, f, l, b⟩ = ⟨st2.wrong, st2.many, st2.groups, st2.ended ++ [m]⟩ := by unfold lvR; rw [if_pos (show (NT.mk k m lo hi r kids).k = 7 from h7)]; rfl
    simp only [run]
    rw [elv]
    refine ⟨e3, e4, by rw [e5, hends1]; simp, ?_⟩
    have hm7 := g4 h7
    have hc : ∀ x : Int, (st2.ended ++ [m]).contains x = (st2.ended.contains x || decide (x = m)) := fun x => by
     rw [Bool.eq_iff_iff]; simp [List.contains_eq_mem]
    have hall := e6.all
    have hl1 : ends1.length = ends.length + 1 := by rw [hends1]; simp
    refine ⟨fun q hq => ?_, fun q en' hq => ?_, fun x hx => ?_⟩
    ·simp only
     rw [hc, decide_eq_false (by omega), Bool.or_false]
     exact e6.old q (by omega)
    ·simp only
     rw [hc]
     cases q with
     | zero =>
      simp only [List.getElem?_cons_zero, Option.some.injEq] at hq
      subst hq
      exact ⟨by rw [decide_eq_true (by rw [hm7]; simp)]; simp, by omega⟩
     | succ q =>
      simp only [List.getElem?_cons_succ] at hq
      obtain ⟨a1, a2⟩ := e6.new q en' hq
      refine ⟨?_, a2⟩
      rw [hl1] at a1
      rw [show (ends.length : Int) + ((q + 1 : Nat) : Int) + 1 = ((ends.length + 1 : Nat) : Int) + q + 1 by omega, a1]
      rfl
    ·simp only at hx
     rw [hc, Bool.or_eq_true] at hx
     have e9 : (ends ++ en :: news).length = (ends1 ++ news).length := by rw [hends1]; simp
     rw [e9]
     rcases hx with hx | hx
     ·exact e6.all x hx
     ·rw [decide_eq_true_eq] at hx
      rw [hx, hm7, List.length_append, hl1]
      omega
   ·obtain rfl := qn h7
    have elv : lvR st2 ⟨.mk k m lo hi r kids, d, a, f, l, b⟩ = st2 := by unfold lvR; rw [if_neg (show ¬ (NT.mk k m lo hi r kids).k = 7 from h7)]
    simp only [run]
    rw [elv]
    exact ⟨news, rfl, e2, e3, e4, e5, e6⟩
/-- the reference's Right is Right -/
theorem ref_right (chars fold : Bool) (t : NT) : refRun chars fold (layS 2001 (Step.top t) 0) 0 [] = rightT t chars fold := by
 have H : Hyp [] [] 0 t.nodes := ⟨fun m h => by simp at h, fun q en h => by simp at h⟩
 have h := ref_tree chars fold t 1 0 true true true 0 ⟨0, 0, 0, []⟩ [] [] t.nodes (by omega) rfl rfl rfl H (by omega)
 rw [List.append_nil] at h
 show refRun chars fold (layN 2001 t 1 0 true true true 0) 0 [] = (run (visR chars fold) lvR (evs t 1 0 true true true) ⟨0, 0, 0, []⟩).2.wrong
 cases hr : (run (visR chars fold) lvR (evs t 1 0 true true true) ⟨0, 0, 0, []⟩).1 with
 | false => exact h.1 hr
 | true =>
  obtain ⟨news, e1, _, e3, _⟩ := h.2 hr
  rw [e1, e3]
  rfl
end Go.Proofs.Ytamhkdlcoghdbaa.PCls
