/- The plain laws of Equal, Right, Same, rising, and of the reference's Fold, Or, Right, Same; what Has, Count say of a class. -/
import Derived.Test.YtamhkdlcoghdbaaLTwo
namespace Go.Proofs.Ytamhkdlcoghdbaa.PCls
open Go.RowKit Go.Proofs.YtamhkdlcoghdbaaW.PrintWords Go.Proofs.YtamhkdlcoghdbaaW.PrintLast Go.Proofs.YtamhkdlcoghdbaaW.PrintMore
set_option linter.unusedVariables false
set_option linter.unusedSimpArgs false

/-! ### the reference's Fold -/
theorem reffold_low (R : List S64) : ∀ (s p out : List S64), (p ++ s).length < 8796093022208 → out.length + s.length < 8796093022208 → (∀ x, x ∈ s → 0 ≤ x.f0 ∧ x.f0 ≤ 1000 ∧ 0 ≤ x.f1 ∧ x.f1 ≤ 1000) →
    Ends (fun k => (dredgeref06_Class.f k (out ++ Cls.shift s (-32))).bind fun t => some t) R → Ends (fun k => dredgeref06_Fold.l1 k out (p ++ s) (p.length : Int)) R := by
  intro s
  induction s with
  | nil =>
    intro p out hl ho hx h
    rw [show Cls.shift [] (-32) = [] from rfl, List.append_nil] at h
    refine Ends.succ h fun k => ?_
    simp only [dredgeref06_Fold.l1]
    rw [if_neg (by simp)]
  | cons x s ih =>
    intro p out hl ho hx h
    have h0 := hx x List.mem_cons_self
    have hl2 : (p.length : Int) < ((p ++ x :: s).length : Int) := by simp; omega
    simp at hl ho
    have hnext := ih (p ++ [x]) (out ++ [⟨x.f0 - 32, x.f1 - 32⟩]) (by simp; omega) (by simp; omega) (fun y hy => hx y (List.mem_cons_of_mem _ hy)) (by rw [List.append_assoc]; exact h)
    simp only [List.append_assoc, List.singleton_append, List.length_append, List.length_singleton] at hnext
    rw [show ((p.length + 1 : Nat) : Int) = (p.length : Int) + 1 by omega] at hnext
    refine Ends.succ hnext fun k => ?_
    simp only [dredgeref06_Fold.l1]
    rw [if_pos hl2, if_pos (by omega), if_pos (by omega), rd_mid, w64_lit (x.f0 - 32) (by omega) (by omega), w64_lit (x.f1 - 32) (by omega) (by omega), w64_lit ((p.length : Int) + 1) (by omega) (by omega)]
theorem reffold_up (R t : List S64) (ht : t.length < 4398046511104) (hxt : ∀ x, x ∈ t → 0 ≤ x.f0 ∧ x.f0 ≤ 1000 ∧ 0 ≤ x.f1 ∧ x.f1 ≤ 1000) : ∀ (s p out : List S64), (p ++ s).length < 4398046511104 → out.length + s.length < 4398046511104 → (∀ x, x ∈ s → 0 ≤ x.f0 ∧ x.f0 ≤ 1000 ∧ 0 ≤ x.f1 ∧ x.f1 ≤ 1000) →
    Ends (fun k => (dredgeref06_Class.f k (out ++ Cls.shift s 32 ++ Cls.shift t (-32))).bind fun t => some t) R → Ends (fun k => dredgeref06_Fold.l0 k out (p ++ s) t (p.length : Int)) R := by
  intro s
  induction s with
  | nil =>
    intro p out hl ho hx h
    rw [show Cls.shift [] 32 = [] from rfl, List.append_nil] at h
    have h2 := reffold_low R t [] out (by simp; omega) (by simp at ho; omega) hxt h
    refine Ends.succ h2 fun k => ?_
    simp only [dredgeref06_Fold.l0]
    rw [if_neg (by simp)]
    rfl
  | cons x s ih =>
    intro p out hl ho hx h
    have h0 := hx x List.mem_cons_self
    have hl2 : (p.length : Int) < ((p ++ x :: s).length : Int) := by simp; omega
    simp at hl ho
    have hnext := ih (p ++ [x]) (out ++ [⟨x.f0 + 32, x.f1 + 32⟩]) (by simp; omega) (by simp; omega) (fun y hy => hx y (List.mem_cons_of_mem _ hy)) (by rw [show out ++ [(⟨x.f0 + 32, x.f1 + 32⟩ : S64)] ++ Cls.shift s 32 = out ++ Cls.shift (x :: s) 32 by simp [Cls.shift]]; exact h)
    simp only [List.append_assoc, List.singleton_append, List.length_append, List.length_singleton] at hnext
    rw [show ((p.length + 1 : Nat) : Int) = (p.length : Int) + 1 by omega] at hnext
    refine Ends.succ hnext fun k => ?_
    simp only [dredgeref06_Fold.l0]
    rw [if_pos hl2, if_pos (by omega), if_pos (by omega), rd_mid, w64_lit (x.f0 + 32) (by omega) (by omega), w64_lit (x.f1 + 32) (by omega) (by omega), w64_lit ((p.length : Int) + 1) (by omega) (by omega)]
theorem between_small (l : List S64) (lo hi : Int) (h0 : 0 ≤ lo) (h1 : lo ≤ hi) (h2 : hi ≤ 1000) : ∀ x, x ∈ Cls.and_ l [⟨lo, hi⟩] → 0 ≤ x.f0 ∧ x.f0 ≤ 1000 ∧ 0 ≤ x.f1 ∧ x.f1 ≤ 1000 := by
  intro x hx
  have hle := (Cls.and_can l [⟨lo, hi⟩]).2 x hx
  have h3 := (Cls.and_mem l [⟨lo, hi⟩] x.f0).1 ⟨x, hx, Int.le_refl _, hle⟩
  have h4 := (Cls.and_mem l [⟨lo, hi⟩] x.f1).1 ⟨x, hx, hle, Int.le_refl _⟩
  rw [mem_one] at h3 h4
  omega
theorem reffold_ends (l : List S64) (h1 : l.length < 2097152) (h : inR l = true) : Ends (fun k => dredgeref06_Fold.f k l) (Cls.fold l) := by
  unfold dredgeref06_Fold.f
  have hA : inR [⟨65, 90⟩] = true := by decide
  have hB : inR [⟨97, 122⟩] = true := by decide
  refine Ends.bind (refclass_ends l (by omega) h) (Ends.bind (refand_ends l [⟨65, 90⟩] h1 (by simp) h hA) (Ends.bind (refand_ends l [⟨97, 122⟩] h1 (by simp) h hB) ?_))
  have eA : Cls.and_ l [⟨65, 90⟩] = Cls.inter (Cls.cls l) [⟨65, 90⟩] := by unfold Cls.and_; rw [cls_of_can (can_one 65 90 (by omega))]
  have eB : Cls.and_ l [⟨97, 122⟩] = Cls.inter (Cls.cls l) [⟨97, 122⟩] := by unfold Cls.and_; rw [cls_of_can (can_one 97 122 (by omega))]
  have lA := between_length l 65 90 (by omega)
  have lB := between_length l 97 122 (by omega)
  rw [← eA] at lA
  rw [← eB] at lB
  have lC := cls_length l
  have iA := between_inR l 65 90 32 (by omega) (by omega) (by omega) (by omega)
  have iB := between_inR l 97 122 (-32) (by omega) (by omega) (by omega) (by omega)
  rw [← eA] at iA
  rw [← eB] at iB
  have hin : inR (Cls.cls l ++ Cls.shift (Cls.and_ l [⟨65, 90⟩]) 32 ++ Cls.shift (Cls.and_ l [⟨97, 122⟩]) (-32)) = true := by
    rw [inR_append, inR_append]
    exact ⟨⟨inR_cls l h, iA⟩, iB⟩
  have hlen : (Cls.cls l ++ Cls.shift (Cls.and_ l [⟨65, 90⟩]) 32 ++ Cls.shift (Cls.and_ l [⟨97, 122⟩]) (-32)).length < 8796093022208 := by
    rw [List.length_append, List.length_append, shift_length, shift_length]
    omega
  have e : Cls.cls (Cls.cls l ++ Cls.shift (Cls.and_ l [⟨65, 90⟩]) 32 ++ Cls.shift (Cls.and_ l [⟨97, 122⟩]) (-32)) = Cls.fold l := (Cls.cls_unique (Cls.fold_can l) fun c => by
    rw [Cls.fold_mem, Cls.mem_append, Cls.mem_append, Cls.cls_mem, shift_mem, shift_mem, Cls.and_mem, Cls.and_mem, mem_one, mem_one, or_assoc, show c - -32 = c + 32 by omega]).symm
  have hcl := Ends.bind (refclass_ends _ hlen hin) (Ends.some_ (Cls.cls (Cls.cls l ++ Cls.shift (Cls.and_ l [⟨65, 90⟩]) 32 ++ Cls.shift (Cls.and_ l [⟨97, 122⟩]) (-32))))
  rw [e] at hcl
  have := reffold_up (Cls.fold l) (Cls.and_ l [⟨97, 122⟩]) (by omega) (between_small l 97 122 (by omega) (by omega) (by omega)) (Cls.and_ l [⟨65, 90⟩]) [] (Cls.cls l) (by simp; omega) (by omega) (between_small l 65 90 (by omega) (by omega) (by omega)) hcl
  simpa using this
/-! ### Equal, Right, Same; the reference's Or -/
theorem equal_loop (a : List S64) : ∀ (s p : List S64) (k : Nat), s.length < k → (p ++ s).length < 8796093022208 → p.length ≤ a.length → a = p ++ a.drop p.length → (p ++ s).length = a.length →
    api_Range_77.l0 k (p ++ s) a ((p ++ s).length : Int) (p.length : Int) = some (decide (s = a.drop p.length)) := by
  intro s
  induction s with
  | nil =>
    intro p k hk hl hp ha he
    obtain ⟨k, rfl⟩ : ∃ m, k = m + 1 := ⟨k - 1, by simp at hk; omega⟩
    simp only [api_Range_77.l0]
    rw [if_neg (by simp)]
    simp at he
    simp [he]
  | cons x s ih =>
    intro p k hk hl hp ha he
    obtain ⟨k, rfl⟩ : ∃ m, k = m + 1 := ⟨k - 1, by simp at hk; omega⟩
    have hl2 : (p.length : Int) < ((p ++ x :: s).length : Int) := by simp; omega
    have hpa : p.length < a.length := by rw [← he]; simp
    have hdrop : a.drop p.length = a[p.length] :: a.drop (p.length + 1) := List.drop_eq_getElem_cons hpa
    simp only [api_Range_77.l0]
    rw [if_pos hl2, if_pos (by omega), if_pos hl2, if_pos (by omega), rd_mid, rd_at a p.length hpa, hdrop]
    simp at hl hk
    rw [w64_lit ((p.length : Int) + 1) (by omega) (by omega)]
    by_cases hx : x = a[p.length]
    · rw [if_neg (by rw [hx]; simp)]
      have h := ih (p ++ [x]) k (by omega) (by simp; omega) (by simp; omega) (by rw [List.length_append, List.length_singleton, List.append_assoc, hx, List.singleton_append, ← hdrop]; exact ha) (by simpa using he)
      simp only [List.append_assoc, List.singleton_append, List.length_append, List.length_singleton] at h
      rw [show ((p.length + 1 : Nat) : Int) = (p.length : Int) + 1 by omega] at h
      simp only [List.length_append]
      rw [h]
      simp only [hx, List.cons.injEq, true_and]
    · rw [if_pos (by
        cases x with | mk x0 x1 =>
        cases hq : a[p.length] with | mk y0 y1 =>
        rw [hq] at hx
        simp at hx ⊢
        by_cases h0 : x0 = y0
        · exact .inr (hx h0)
        · exact .inl h0)]
      simp only [hx, List.cons.injEq, false_and, decide_false]
theorem equal_ends (a b : List S64) (hl : a.length < 8796093022208) : Ends (fun k => api_Range_77.f k a b) (decide (a = b)) := by
  refine ⟨a.length + 1, fun k hk => ?_⟩
  show api_Range_77.f k a b = _
  unfold api_Range_77.f
  by_cases h : a.length = b.length
  · rw [if_pos (by omega)]
    have := equal_loop b a [] k (by omega) (by simpa using hl) (by simp) (by simp) (by simpa using h)
    simpa using this
  · rw [if_neg (by omega)]
    rw [decide_eq_false (fun e => h (by rw [e]))]
theorem right_ends (l : List S64) (m : Bool) (h1 : l.length < 2097152) (h : inR l = true) : Ends (fun k => classes_Right.f k l m) (decide (l = Cls.norm l m)) := by
  unfold classes_Right.f
  exact Ends.bind (norm_ends l m (by omega) h) (Ends.bind (equal_ends _ _ (by omega)) (Ends.some_ _))
theorem refright_ends (l : List S64) (m : Bool) (h1 : l.length < 2097152) (h : inR l = true) : Ends (fun k => dredgeref06_Right.f k l m) (decide (l = Cls.norm l m)) := by
  unfold dredgeref06_Right.f
  exact Ends.bind (refnorm_ends l m h1 h) (Ends.bind (alike_ends _ _ (by omega)) (Ends.some_ _))
theorem same_ends (a b : List S64) (h1 : a.length < 8796093022208) (h2 : b.length < 8796093022208) (ha : inR a = true) (hb : inR b = true) : Ends (fun k => classes_Same.f k a b) (decide (Cls.cls a = Cls.cls b)) := by
  unfold classes_Same.f
  exact Ends.bind (class_ends a h1 ha) (Ends.bind (class_ends b h2 hb) (Ends.bind (equal_ends _ _ (by have := cls_length a; omega)) (Ends.some_ _)))
theorem refsame_ends (a b : List S64) (h1 : a.length < 8796093022208) (h2 : b.length < 8796093022208) (ha : inR a = true) (hb : inR b = true) : Ends (fun k => dredgeref06_Same.f k a b) (decide (Cls.cls a = Cls.cls b)) := by
  unfold dredgeref06_Same.f
  exact Ends.bind (refclass_ends a h1 ha) (Ends.bind (refclass_ends b h2 hb) (Ends.bind (alike_ends _ _ (by have := cls_length a; omega)) (Ends.some_ _)))
theorem refor_ends (a b : List S64) (h1 : a.length < 2097152) (h2 : b.length < 2097152) (ha : inR a = true) (hb : inR b = true) : Ends (fun k => dredgeref06_Or.f k a b) (Cls.cls (a ++ b)) := by
  unfold dredgeref06_Or.f
  have e1 : ([] : List S64).length + a.length < 8796093022208 := by simp; omega
  have e2 : a.length + b.length < 8796093022208 := by omega
  simp only [if_pos e1, List.nil_append, Option.bind_some, if_pos e2]
  exact Ends.bind (refclass_ends (a ++ b) (by rw [List.length_append]; omega) ((inR_append a b).2 ⟨ha, hb⟩)) (Ends.some_ _)
/-! ### rising -/
theorem rising_loop (l : List S64) (hc : Cls.Can l) (hin : inR l = true) (hl : l.length < 8796093022208) : ∀ (d k i : Nat), i + d = l.length → d < k → dredgelaw06_rising.l0 k l (i : Int) = some true := by
  intro d
  induction d with
  | zero =>
    intro k i hd hk
    obtain ⟨k, rfl⟩ : ∃ m, k = m + 1 := ⟨k - 1, by omega⟩
    simp only [dredgelaw06_rising.l0]
    rw [if_neg (by omega)]
  | succ d ih =>
    intro k i hd hk
    obtain ⟨k, rfl⟩ : ∃ m, k = m + 1 := ⟨k - 1, by omega⟩
    have hi : i < l.length := by omega
    have hr := hc.2 _ (List.getElem_mem hi)
    have hR := (inR_iff l).1 hin _ (List.getElem_mem hi)
    have h := ih k (i + 1) (by omega) (by omega)
    simp only [dredgelaw06_rising.l0]
    rw [if_pos (by omega), if_pos (by omega), rd_at l i hi, if_neg (by omega), wrap_succ i (by omega), h]
    by_cases h0 : (i : Int) > 0
    · rw [if_pos h0]
      have hw : wrap64 ((i : Int) - 1) = ((i - 1 : Nat) : Int) := by rw [w64_lit _ (by omega) (by omega)]; omega
      have hi2 : i - 1 < l.length := by omega
      have hg := List.pairwise_iff_getElem.1 hc.1 (i - 1) i hi2 hi (by omega)
      rw [hw, if_pos (by omega), if_pos (by omega), rd_at l (i - 1) hi2, if_neg (by omega), w64_lit (l[i].f0 - 1) (by have := hc.2 _ (List.getElem_mem hi2); have := (inR_iff l).1 hin _ (List.getElem_mem hi2); omega) (by omega), if_neg (by omega)]
    · rw [if_neg h0]
theorem rising_ends (l : List S64) (hc : Cls.Can l) (hin : inR l = true) (hl : l.length < 8796093022208) : Ends (fun k => dredgelaw06_rising.f k l) true :=
  ⟨l.length + 1, fun k hk => rising_loop l hc hin hl l.length k 0 (by omega) (by omega)⟩
/-! ### Has and Mem -/
theorem has_mem (l : List S64) (c : Int) : (l.any fun r => decide (r.f0 ≤ c) && decide (c ≤ r.f1)) = true ↔ Cls.Mem l c := by
  rw [List.any_eq_true]
  constructor
  · rintro ⟨r, hr, h⟩
    simp at h
    exact ⟨r, hr, h⟩
  · rintro ⟨r, hr, h⟩
    exact ⟨r, hr, by simpa using h⟩
end Go.Proofs.Ytamhkdlcoghdbaa.PCls
