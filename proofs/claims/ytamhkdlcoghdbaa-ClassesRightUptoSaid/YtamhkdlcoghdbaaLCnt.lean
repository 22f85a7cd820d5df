/- How many numbers: a class of numbers below N has as many as a search through them finds; so Or and And have together as many as both. -/
import Derived.Test.YtamhkdlcoghdbaaLThree
namespace Go.Proofs.Ytamhkdlcoghdbaa.PCls
open Go.RowKit Go.Proofs.YtamhkdlcoghdbaaW.PrintWords Go.Proofs.YtamhkdlcoghdbaaW.PrintLast Go.Proofs.YtamhkdlcoghdbaaW.PrintMore
set_option linter.unusedVariables false
set_option linter.unusedSimpArgs false

def Cls.is (l : List S64) (i : Nat) : Bool := l.any fun r => decide (r.f0 ≤ (i : Int)) && decide ((i : Int) ≤ r.f1)
theorem is_mem (l : List S64) (i : Nat) : Cls.is l i = true ↔ Cls.Mem l i := has_mem l i
theorem count_between (lo hi : Int) (h0 : 0 ≤ lo) : ∀ N : Nat, (((List.range N).countP fun i => decide (lo ≤ ((i : Nat) : Int)) && decide (((i : Nat) : Int) ≤ hi) : Nat) : Int) = max 0 (min hi ((N : Int) - 1) - lo + 1)
  | 0 => by simp; omega
  | N + 1 => by
    have ih := count_between lo hi h0 N
    rw [List.range_succ, List.countP_append, List.countP_cons, List.countP_nil]
    by_cases h1 : lo ≤ (N : Int)
    · by_cases h2 : (N : Int) ≤ hi
      · rw [decide_eq_true h1, decide_eq_true h2]
        simp only [Bool.and_self, if_true]
        omega
      · rw [decide_eq_false h2]
        simp only [Bool.and_false, Bool.false_eq_true, if_false]
        omega
    · rw [decide_eq_false h1]
      simp only [Bool.false_and, Bool.false_eq_true, if_false]
      omega
theorem count_both {α : Type} (p q : α → Bool) : ∀ L : List α, (L.countP fun x => p x || q x) + (L.countP fun x => p x && q x) = L.countP p + L.countP q
  | [] => rfl
  | x :: L => by
    have ih := count_both p q L
    simp only [List.countP_cons]
    cases p x <;> cases q x <;> simp <;> omega
theorem count_none {α : Type} (p : α → Bool) (L : List α) (h : ∀ x, p x = false) : L.countP p = 0 := by
  rw [List.countP_eq_zero]
  intro x _
  rw [h x]
  simp
theorem count_same {α : Type} (p q : α → Bool) (L : List α) (h : ∀ x, p x = q x) : L.countP p = L.countP q := by
  rw [show p = q from funext h]
theorem many_is (N : Nat) : ∀ l : List S64, Cls.Can l → (∀ c, Cls.Mem l c → 0 ≤ c ∧ c < N) → Cls.many l = (((List.range N).countP (Cls.is l) : Nat) : Int)
  | [], _, _ => by
    rw [count_none (Cls.is []) _ fun x => rfl]
    rfl
  | r :: l, hc, h => by
    have ih := many_is N l (Cls.can_tail hc) fun c hm => h c ((Cls.mem_cons ..).2 (.inr hm))
    have hr := Cls.can_head hc
    have h0 := h r.f0 ((Cls.mem_cons ..).2 (.inl ⟨Int.le_refl _, hr⟩))
    have h1 := h r.f1 ((Cls.mem_cons ..).2 (.inl ⟨hr, Int.le_refl _⟩))
    have hb := count_both (fun i : Nat => decide (r.f0 ≤ (i : Int)) && decide ((i : Int) ≤ r.f1)) (Cls.is l) (List.range N)
    have hz : (List.range N).countP (fun i : Nat => (decide (r.f0 ≤ (i : Int)) && decide ((i : Int) ≤ r.f1)) && Cls.is l i) = 0 := count_none _ _ fun i => by
      by_cases hm : Cls.is l i = true
      · have := Cls.can_beyond hc ((is_mem l i).1 hm)
        rw [show decide ((i : Int) ≤ r.f1) = false from decide_eq_false (by omega)]
        simp
      · simp [hm]
    have hi := count_between r.f0 r.f1 h0.1 N
    have he : (List.range N).countP (Cls.is (r :: l)) = (List.range N).countP (fun i : Nat => (decide (r.f0 ≤ (i : Int)) && decide ((i : Int) ≤ r.f1)) || Cls.is l i) := count_same _ _ _ fun i => by unfold Cls.is; rw [List.any_cons]
    rw [many_cons, ih, he]
    omega
theorem is_iff {l : List S64} {i : Nat} {P : Prop} [Decidable P] (h : Cls.Mem l i ↔ P) : Cls.is l i = decide P := by
  rw [Bool.eq_iff_iff, is_mem, h]
  simp
theorem bool_iff {a b : Bool} (h : a = true ↔ b = true) : a = b := by cases a <;> cases b <;> simp_all
/-- all numbers of a mode lie below this -/
theorem all_below (m : Bool) (c : Int) (h : Cls.Mem (Cls.all m) c) : 0 ≤ c ∧ c < ((1114112 : Nat) : Int) := by
  cases m
  · simp [Cls.all, Cls.Mem] at h; omega
  · simp [Cls.all, Cls.Mem] at h; omega
theorem count_or_and (m : Bool) (P Q : List S64) (hP : Cls.Can P) (hQ : Cls.Can Q) (sP : ∀ c, Cls.Mem P c → Cls.Mem (Cls.all m) c) (sQ : ∀ c, Cls.Mem Q c → Cls.Mem (Cls.all m) c) :
    Cls.many (Cls.cls (P ++ Q)) + Cls.many (Cls.and_ P Q) = Cls.many P + Cls.many Q := by
  rw [many_is 1114112 P hP fun c h => all_below m c (sP c h), many_is 1114112 Q hQ fun c h => all_below m c (sQ c h),
    many_is 1114112 (Cls.cls (P ++ Q)) (Cls.cls_can _) fun c h => all_below m c (by rw [Cls.cls_mem, Cls.mem_append] at h; rcases h with h | h; exact sP c h; exact sQ c h),
    many_is 1114112 (Cls.and_ P Q) (Cls.and_can _ _) fun c h => all_below m c (sP c ((Cls.and_mem P Q c).1 h).1)]
  have h := count_both (Cls.is P) (Cls.is Q) (List.range 1114112)
  rw [count_same (Cls.is (Cls.cls (P ++ Q))) (fun x => Cls.is P x || Cls.is Q x) _ fun i => bool_iff (by rw [is_mem, Bool.or_eq_true, is_mem, is_mem, Cls.cls_mem, Cls.mem_append]),
    count_same (Cls.is (Cls.and_ P Q)) (fun x => Cls.is P x && Cls.is Q x) _ fun i => bool_iff (by rw [is_mem, Bool.and_eq_true, is_mem, is_mem, Cls.and_mem])]
  omega
theorem count_rest (m : Bool) (P : List S64) (hP : Cls.Can P) (sP : ∀ c, Cls.Mem P c → Cls.Mem (Cls.all m) c) : Cls.many P + Cls.many (Cls.less_ (Cls.all m) P) = Cls.many (Cls.all m) := by
  rw [many_is 1114112 P hP fun c h => all_below m c (sP c h), many_is 1114112 (Cls.all m) (all_can m) fun c h => all_below m c h,
    many_is 1114112 (Cls.less_ (Cls.all m) P) (Cls.less_can _ _) fun c h => all_below m c ((Cls.less_mem _ P c).1 h).1]
  have h := count_both (Cls.is P) (Cls.is (Cls.less_ (Cls.all m) P)) (List.range 1114112)
  rw [count_same (fun x => Cls.is P x || Cls.is (Cls.less_ (Cls.all m) P) x) (Cls.is (Cls.all m)) _ fun i => bool_iff (by
      rw [Bool.or_eq_true, is_mem, is_mem, is_mem, Cls.less_mem]
      constructor
      · rintro (h | h)
        · exact sP _ h
        · exact h.1
      · intro h
        by_cases g : Cls.Mem P i
        · exact .inl g
        · exact .inr ⟨h, g⟩),
    count_none (fun x => Cls.is P x && Cls.is (Cls.less_ (Cls.all m) P) x) _ fun i => by
      rw [Bool.eq_false_iff]
      intro h
      rw [Bool.and_eq_true, is_mem, is_mem, Cls.less_mem] at h
      exact h.2.2 h.1] at h
  omega
theorem many_small (m : Bool) (P : List S64) (hP : Cls.Can P) (sP : ∀ c, Cls.Mem P c → Cls.Mem (Cls.all m) c) : 0 ≤ Cls.many P ∧ Cls.many P ≤ 1114112 := by
  rw [many_is 1114112 P hP fun c h => all_below m c (sP c h)]
  have := List.countP_le_length (p := Cls.is P) (l := List.range 1114112)
  rw [List.length_range] at this
  omega
theorem count_small (m : Bool) (P : List S64) (hP : Cls.Can P) (sP : ∀ c, Cls.Mem P c → Cls.Mem (Cls.all m) c) : Cls.count P = Cls.many P := by
  have := many_small m P hP sP
  unfold Cls.count
  omega
end Go.Proofs.Ytamhkdlcoghdbaa.PCls
