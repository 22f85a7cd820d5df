/- The plain laws of Less, Not, Equal, Right, Same, and of the reference's And, Norm, Less, Not, Fold, Or, Right, Same; of rising. -/
import Derived.Test.YtamhkdlcoghdbaaLRef
import Derived.Test.YtamhkdlcoghdbaaPClsx19
import Derived.Test.YtamhkdlcoghdbaaPClsx20
import Derived.Test.YtamhkdlcoghdbaaPClsx21
import Derived.Test.YtamhkdlcoghdbaaPClsx25
import Derived.Test.YtamhkdlcoghdbaaPClsx26
import Derived.Test.YtamhkdlcoghdbaaPClsx27
import Derived.Test.YtamhkdlcoghdbaaPClsx28
namespace Go.Proofs.Ytamhkdlcoghdbaa.PCls
open Go.RowKit Go.Proofs.YtamhkdlcoghdbaaW.PrintWords Go.Proofs.YtamhkdlcoghdbaaW.PrintLast Go.Proofs.YtamhkdlcoghdbaaW.PrintMore
set_option linter.unusedVariables false
set_option linter.unusedSimpArgs false

theorem wrap_succ (i : Nat) (h : i < 8796093022208) : wrap64 ((i : Int) + 1) = ((i + 1 : Nat) : Int) := by rw [w64_lit _ (by omega) (by omega)]; omega
theorem eta64 (x : S64) : (⟨x.f0, x.f1⟩ : S64) = x := rfl
theorem mx_max (a b : Int) : mx a b = max a b := by unfold mx; omega
theorem mn_min (a b : Int) : mn a b = min a b := by unfold mn; omega

/-! ### the reference's And: every pair, then the class -/
def pairs (r : S64) (b : List S64) : List S64 := b.map fun s => ⟨max r.f0 s.f0, min r.f1 s.f1⟩
def allPairs (a b : List S64) : List S64 := a.flatMap fun r => pairs r b
theorem pairs_length (r : S64) (b : List S64) : (pairs r b).length = b.length := by simp [pairs]
theorem refand_inner (a b : List S64) (i : Nat) (hi : i < a.length) (ha : a.length < 8796093022208) (hb : b.length < 8796093022208) (R : List S64) : ∀ (d j : Nat) (out : List S64), j + d = b.length → out.length + d < 8796093022208 →
    Ends (fun k => dredgeref06_And.l0 k a b (out ++ pairs a[i] (b.drop j)) ((i + 1 : Nat) : Int)) R → Ends (fun k => dredgeref06_And.l1 k a b out (i : Int) (j : Int)) R := by
  intro d
  induction d with
  | zero =>
    intro j out hd ho h
    rw [List.drop_of_length_le (by omega), show pairs a[i] [] = [] from rfl, List.append_nil] at h
    refine Ends.succ h fun k => ?_
    simp only [dredgeref06_And.l1]
    rw [if_neg (by omega), wrap_succ i (by omega)]
  | succ d ih =>
    intro j out hd ho h
    have hj : j < b.length := by omega
    have hdrop : b.drop j = b[j] :: b.drop (j + 1) := List.drop_eq_getElem_cons hj
    refine Ends.succ (ih (j + 1) (out ++ [⟨max a[i].f0 b[j].f0, min a[i].f1 b[j].f1⟩]) (by omega) (by simp; omega) ?_) fun k => ?_
    · rw [List.append_assoc]
      rw [hdrop] at h
      exact h
    · simp only [dredgeref06_And.l1]
      rw [if_pos (by omega), if_pos (by omega), if_pos (by omega), if_pos (by omega), if_pos (by omega), rd_at a i hi, rd_at b j hj, wrap_succ j (by omega), mx_max, mn_min]
theorem refand_outer (a b : List S64) (ha : a.length < 8796093022208) (hb : b.length < 8796093022208) : ∀ (d i : Nat) (out : List S64), i + d = a.length → out.length + d * b.length < 8796093022208 → inR (out ++ allPairs (a.drop i) b) = true →
    Ends (fun k => dredgeref06_And.l0 k a b out (i : Int)) (Cls.cls (out ++ allPairs (a.drop i) b)) := by
  intro d
  induction d with
  | zero =>
    intro i out hd ho hin
    rw [List.drop_of_length_le (by omega), show allPairs [] b = [] from rfl, List.append_nil] at hin ⊢
    refine Ends.succ (g := fun k => (dredgeref06_Class.f k out).bind fun t => some t) (Ends.bind (refclass_ends out (by omega) hin) (Ends.some_ _)) fun k => ?_
    simp only [dredgeref06_And.l0]
    rw [if_neg (by omega)]
  | succ d ih =>
    intro i out hd ho hin
    have hi : i < a.length := by omega
    have hdrop : a.drop i = a[i] :: a.drop (i + 1) := List.drop_eq_getElem_cons hi
    have hp : allPairs (a.drop i) b = pairs a[i] b ++ allPairs (a.drop (i + 1)) b := by rw [hdrop]; rfl
    rw [Nat.succ_mul] at ho
    rw [hp, ← List.append_assoc] at hin ⊢
    refine Ends.succ (refand_inner a b i hi ha hb _ b.length 0 out (by omega) (by omega) ?_) fun k => ?_
    · rw [List.drop_zero]
      exact ih (i + 1) (out ++ pairs a[i] b) (by omega) (by rw [List.length_append, pairs_length]; omega) hin
    · simp only [dredgeref06_And.l0]
      rw [if_pos (by omega)]
      rfl
theorem mem_pairs (r : S64) (b : List S64) (c : Int) : Cls.Mem (pairs r b) c ↔ (r.f0 ≤ c ∧ c ≤ r.f1) ∧ Cls.Mem b c := by
  constructor
  · rintro ⟨x, hx, h0, h1⟩
    obtain ⟨s, hs, rfl⟩ := List.mem_map.1 hx
    simp only at h0 h1
    exact ⟨by omega, s, hs, by omega, by omega⟩
  · rintro ⟨h, s, hs, h0, h1⟩
    exact ⟨_, List.mem_map.2 ⟨s, hs, rfl⟩, by simp only; omega, by simp only; omega⟩
theorem mem_allPairs (a b : List S64) (c : Int) : Cls.Mem (allPairs a b) c ↔ Cls.Mem a c ∧ Cls.Mem b c := by
  induction a with
  | nil => simp [allPairs, Cls.mem_nil]
  | cons r a ih =>
    rw [show allPairs (r :: a) b = pairs r b ++ allPairs a b from rfl, Cls.mem_append, ih, mem_pairs, Cls.mem_cons]
    constructor
    · rintro (⟨h, g⟩ | ⟨h, g⟩)
      · exact ⟨.inl h, g⟩
      · exact ⟨.inr h, g⟩
    · rintro ⟨h | h, g⟩
      · exact .inl ⟨h, g⟩
      · exact .inr ⟨h, g⟩
theorem allPairs_inR (a b : List S64) (ha : inR a = true) (hb : inR b = true) : inR (allPairs a b) = true := by
  refine (inR_iff _).2 fun x hx => ?_
  obtain ⟨r, hr, hx⟩ := List.mem_flatMap.1 hx
  obtain ⟨s, hs, rfl⟩ := List.mem_map.1 hx
  have h1 := (inR_iff a).1 ha r hr
  have h2 := (inR_iff b).1 hb s hs
  simp only
  omega
theorem refand_ends (a b : List S64) (h1 : a.length < 2097152) (h2 : b.length < 2097152) (ha : inR a = true) (hb : inR b = true) : Ends (fun k => dredgeref06_And.f k a b) (Cls.and_ a b) := by
  unfold dredgeref06_And.f
  refine Ends.bind (refclass_ends a (by omega) ha) (Ends.bind (refclass_ends b (by omega) hb) ?_)
  have l1 := cls_length a
  have l2 := cls_length b
  have hm : (Cls.cls a).length * (Cls.cls b).length ≤ 2097152 * 2097152 := Nat.mul_le_mul (by omega) (by omega)
  have h := refand_outer (Cls.cls a) (Cls.cls b) (by omega) (by omega) (Cls.cls a).length 0 [] (by omega) (by simp; omega) (by simpa using allPairs_inR _ _ (inR_cls a ha) (inR_cls b hb))
  have e : Cls.cls (allPairs (Cls.cls a) (Cls.cls b)) = Cls.and_ a b := (Cls.cls_unique (Cls.and_can a b) fun c => by rw [mem_allPairs, Cls.cls_mem, Cls.cls_mem, Cls.and_mem]).symm
  simp only [List.drop_zero, List.nil_append] at h
  rw [e] at h
  exact h
theorem refnorm_ends (l : List S64) (m : Bool) (h1 : l.length < 2097152) (h : inR l = true) : Ends (fun k => dredgeref06_Norm.f k l m) (Cls.norm l m) := by
  unfold dredgeref06_Norm.f
  rw [show dredgeref06_All.f m = some (Cls.all m) by cases m <;> rfl]
  simp only [Option.bind_some]
  exact Ends.bind (refand_ends l (Cls.all m) h1 (by have := all_length m; omega) h (all_inR m)) (Ends.some_ _)

/-! ### Less -/
theorem cut_length (hi : Int) : ∀ (b : List S64) (lo : Int), (Cls.cut hi lo b).length ≤ b.length + 1
  | [], _ => by simp [Cls.cut]
  | x :: b, lo => by
    have := cut_length hi b (x.f1 + 1)
    unfold Cls.cut
    split
    · simp
    · rw [List.length_append, List.length_cons]
      split <;> split <;> simp <;> omega
theorem drop_length (lo : Int) (b : List S64) : (b.dropWhile fun x => decide (x.f1 < lo)).length ≤ b.length := (List.dropWhile_sublist _).length_le
theorem less_inner (a b : List S64) (i n : Nat) (top : Int) (hin : inR b = true) (hb : b.length < 8796093022208) (hia : i < 8796093022208) (ht : top ≤ 9223372036854775807) (R : List S64) : ∀ (d j : Nat) (out : List S64) (lo : Int), j + d = b.length → out.length + d + 1 < 8796093022208 → -9223372036854775808 ≤ lo →
    Ends (fun k => classes_Less.l0 k b (out ++ Cls.cut top lo (b.drop j)) a (n : Int) ((i + 1 : Nat) : Int)) R → Ends (fun k => classes_Less.l2 k b out true a (n : Int) (i : Int) b (b.length : Int) (j : Int) lo top) R := by
  intro d
  induction d with
  | zero =>
    intro j out lo hd ho hlo h
    rw [List.drop_of_length_le (by omega)] at h
    refine Ends.succ h fun k => ?_
    simp only [classes_Less.l2]
    rw [if_neg (by omega), wrap_succ i hia]
    simp only [if_true]
    rw [if_pos (by omega)]
    rfl
  | succ d ih =>
    intro j out lo hd ho hlo h
    have hj : j < b.length := by omega
    have hdrop : b.drop j = b[j] :: b.drop (j + 1) := List.drop_eq_getElem_cons hj
    have hR := (inR_iff b).1 hin _ (List.getElem_mem hj)
    rw [hdrop] at h
    have hstep : ∀ k, classes_Less.l2 (k + 1) b out true a (n : Int) (i : Int) b (b.length : Int) (j : Int) lo top = (if b[j].f0 > top then classes_Less.l0 k b (out ++ [⟨lo, top⟩]) a (n : Int) ((i + 1 : Nat) : Int) else if b[j].f1 < top then classes_Less.l2 k b (out ++ if lo < b[j].f0 then [⟨lo, b[j].f0 - 1⟩] else []) true a (n : Int) (i : Int) b (b.length : Int) ((j + 1 : Nat) : Int) (b[j].f1 + 1) top else classes_Less.l0 k b (out ++ if lo < b[j].f0 then [⟨lo, b[j].f0 - 1⟩] else []) a (n : Int) ((i + 1 : Nat) : Int)) := by
      intro k
      simp only [classes_Less.l2]
      rw [if_pos (show (j : Int) < (b.length : Int) by omega), if_pos (show (0 : Int) ≤ (j : Int) by omega), if_pos (show (j : Int) < (b.length : Int) by omega), rd_at b j hj, wrap_succ i hia, wrap_succ j (by omega)]
      simp only [if_true]
      by_cases g1 : b[j].f0 > top
      · rw [if_pos g1, if_pos g1, if_pos (show out.length < 8796093022208 by omega)]
      · rw [if_neg g1, if_neg g1]
        by_cases g2 : b[j].f0 > lo
        · rw [if_pos g2, if_pos (show out.length < 8796093022208 by omega), Option.bind_some, w64_lit (b[j].f0 - 1) (by omega) (by omega), if_pos (show lo < b[j].f0 from g2)]
          by_cases g3 : b[j].f1 < top
          · rw [if_pos g3, if_pos g3, w64_lit (b[j].f1 + 1) (by omega) (by omega), decide_eq_true g3]
          · rw [if_neg g3, if_neg g3, if_neg g3]
        · rw [if_neg g2, if_neg (show ¬ lo < b[j].f0 from g2), List.append_nil]
          by_cases g3 : b[j].f1 < top
          · rw [if_pos g3, if_pos g3, w64_lit (b[j].f1 + 1) (by omega) (by omega), decide_eq_true g3]
          · rw [if_neg g3, if_neg g3, if_neg g3]
    rw [Cls.cut] at h
    by_cases g1 : b[j].f0 > top
    · rw [if_pos g1] at h
      exact Ends.succ h fun k => by rw [hstep k, if_pos g1]
    · rw [if_neg g1, ← List.append_assoc] at h
      by_cases g3 : b[j].f1 < top
      · rw [if_pos g3] at h
        refine Ends.succ (ih (j + 1) _ (b[j].f1 + 1) (by omega) (by rw [List.length_append]; split <;> simp <;> omega) (by omega) h) fun k => by rw [hstep k, if_neg g1, if_pos g3]
      · rw [if_neg g3, List.append_nil] at h
        exact Ends.succ h fun k => by rw [hstep k, if_neg g1, if_neg g3]
theorem less_skip (a : List S64) (i n : Nat) (lo top : Int) (hia : i < 8796093022208) (ht : top ≤ 9223372036854775807) (hlo : -9223372036854775808 ≤ lo) (R out : List S64) : ∀ (b : List S64), inR b = true → out.length + b.length + 1 < 8796093022208 →
    Ends (fun k => classes_Less.l0 k (b.dropWhile fun x => decide (x.f1 < lo)) (out ++ Cls.cut top lo (b.dropWhile fun x => decide (x.f1 < lo))) a (n : Int) ((i + 1 : Nat) : Int)) R → Ends (fun k => classes_Less.l1 k b out a (n : Int) (i : Int) lo top) R := by
  intro b
  induction b with
  | nil =>
    intro hin hl h
    have h2 := less_inner a [] i n top rfl (by simp) hia ht R 0 0 out lo rfl (by simpa using hl) hlo h
    refine Ends.succ (Ends.succ (f := fun k => classes_Less.j2 k [] out a (n : Int) (i : Int) lo top) h2 fun k => ?_) fun k => ?_
    · simp only [classes_Less.j2]
      rfl
    · simp only [classes_Less.l1]
      rw [if_neg (by simp)]
  | cons x b ih =>
    intro hin hl h
    have hp : ((x :: b).length : Int) > 0 := by simp
    have hp1 : (1 : Int) ≤ ((x :: b).length : Int) := by simp; omega
    have hd1 : (x :: b).drop ((1 : Int)).toNat = b := rfl
    simp only [List.length_cons] at hl
    by_cases g : x.f1 < lo
    · rw [List.dropWhile_cons_of_pos (by simpa using g)] at h
      have hin2 : inR b = true := (inR_iff b).2 fun r hr => (inR_iff _).1 hin r (List.mem_cons_of_mem _ hr)
      refine Ends.succ (ih hin2 (by omega) h) fun k => ?_
      simp only [classes_Less.l1]
      rw [if_pos hp, if_pos hp, rd_zero, if_pos g, if_pos hp1, hd1]
    · rw [List.dropWhile_cons_of_neg (by simpa using g)] at h
      have h2 := less_inner a (x :: b) i n top hin (by simp; omega) hia ht R (x :: b).length 0 out lo (by omega) (by simp; omega) hlo h
      refine Ends.succ (Ends.succ (f := fun k => classes_Less.j2 k (x :: b) out a (n : Int) (i : Int) lo top) h2 fun k => ?_) fun k => ?_
      · simp only [classes_Less.j2]
        rfl
      · simp only [classes_Less.l1]
        rw [if_pos hp, if_pos hp, rd_zero, if_neg g]
theorem less_outer (a : List S64) (ha : inR a = true) (hl : a.length < 8796093022208) : ∀ (d i : Nat) (b out : List S64), i + d = a.length → inR b = true → b.length < 8796093022208 → out.length + d * (b.length + 1) + b.length + 2 < 8796093022208 →
    Ends (fun k => classes_Less.l0 k b out a (a.length : Int) (i : Int)) (out ++ Cls.less (a.drop i) b) := by
  intro d
  induction d with
  | zero =>
    intro i b out hd hin hb ho
    rw [List.drop_of_length_le (by omega)]
    refine Ends.succ (Ends.some_ (out ++ Cls.less [] b)) fun k => ?_
    simp only [classes_Less.l0]
    rw [if_neg (by omega)]
    simp [Cls.less]
  | succ d ih =>
    intro i b out hd hin hb ho
    have hi : i < a.length := by omega
    have hdrop : a.drop i = a[i] :: a.drop (i + 1) := List.drop_eq_getElem_cons hi
    have hR := (inR_iff a).1 ha _ (List.getElem_mem hi)
    rw [Nat.succ_mul] at ho
    rw [hdrop, Cls.less, ← List.append_assoc]
    have hin2 : inR (b.dropWhile fun x => decide (x.f1 < a[i].f0)) = true := (inR_iff _).2 fun r hr => (inR_iff b).1 hin r ((List.dropWhile_sublist _).subset hr)
    have hdl := drop_length a[i].f0 b
    have hcl := cut_length a[i].f1 (b.dropWhile fun x => decide (x.f1 < a[i].f0)) a[i].f0
    have hmul : d * ((b.dropWhile fun x => decide (x.f1 < a[i].f0)).length + 1) ≤ d * (b.length + 1) := Nat.mul_le_mul_left d (by omega)
    refine Ends.succ (less_skip a i a.length a[i].f0 a[i].f1 (by omega) (by omega) (by omega) _ out b hin (by omega) (ih (i + 1) _ _ (by omega) hin2 (by omega) (by rw [List.length_append]; omega))) fun k => ?_
    simp only [classes_Less.l0]
    rw [if_pos (by omega), if_pos (by omega), if_pos (by omega), rd_at a i hi]
def Cls.less_ (a b : List S64) : List S64 := Cls.less (Cls.cls a) (Cls.cls b)
theorem Cls.less_can (a b : List S64) : Cls.Can (Cls.less_ a b) := (Cls.less_spec _ _ (Cls.cls_can a) (Cls.cls_can b)).1
theorem Cls.less_mem (a b : List S64) (c : Int) : Cls.Mem (Cls.less_ a b) c ↔ Cls.Mem a c ∧ ¬ Cls.Mem b c := by
  unfold Cls.less_
  rw [(Cls.less_spec _ _ (Cls.cls_can a) (Cls.cls_can b)).2 c, Cls.cls_mem, Cls.cls_mem]
theorem mul_small (a b : Nat) (h1 : a < 2097152) (h2 : b < 2097152) : a * (b + 1) ≤ 4398046511104 := by
  have : a * (b + 1) ≤ 2097152 * 2097152 := Nat.mul_le_mul (by omega) (by omega)
  omega
theorem less_ends (a b : List S64) (h1 : a.length < 2097152) (h2 : b.length < 2097152) (ha : inR a = true) (hb : inR b = true) : Ends (fun k => classes_Less.f k a b) (Cls.less_ a b) := by
  unfold classes_Less.f
  refine Ends.bind (class_ends a (by omega) ha) (Ends.bind (class_ends b (by omega) hb) ?_)
  have l1 := cls_length a
  have l2 := cls_length b
  have hm := mul_small (Cls.cls a).length (Cls.cls b).length (by omega) (by omega)
  have h := less_outer (Cls.cls a) (inR_cls a ha) (by omega) (Cls.cls a).length 0 (Cls.cls b) [] (by omega) (inR_cls b hb) (by omega) (by simp; omega)
  unfold Cls.less_
  simpa using h
theorem not_ends (l : List S64) (m : Bool) (h1 : l.length < 2097152) (h : inR l = true) : Ends (fun k => classes_Not.f k l m) (Cls.less_ (Cls.all m) l) := by
  unfold classes_Not.f
  rw [all_f]
  simp only [Option.bind_some]
  exact Ends.bind (less_ends (Cls.all m) l (by have := all_length m; omega) h1 (all_inR m) h) (Ends.some_ _)

/-! ### the reference's Less: every range of the first, cut by each of the second that meets it -/
def rcut (hi : Int) : Int → List S64 → List S64
  | lo, [] => [⟨lo, hi⟩]
  | lo, x :: b => if x.f1 < lo ∨ x.f0 > hi then rcut hi lo b else (if lo < x.f0 then [⟨lo, x.f0 - 1⟩] else []) ++ (if x.f1 < hi then rcut hi (x.f1 + 1) b else [])
theorem rcut_beyond (hi lo : Int) : ∀ (b : List S64), (∀ y, y ∈ b → y.f0 > hi) → rcut hi lo b = [⟨lo, hi⟩]
  | [], _ => rfl
  | x :: b, h => by
    rw [rcut, if_pos (.inr (h x List.mem_cons_self))]
    exact rcut_beyond hi lo b fun y hy => h y (List.mem_cons_of_mem _ hy)
theorem drop_none (lo : Int) (b : List S64) (h : ∀ y, y ∈ b → lo ≤ y.f1) : (b.dropWhile fun x => decide (x.f1 < lo)) = b := by
  cases b with
  | nil => rfl
  | cons x b => rw [List.dropWhile_cons_of_neg (by have := h x List.mem_cons_self; simp; omega)]
theorem rcut_eq (hi : Int) : ∀ (b : List S64) (lo : Int), Cls.Can b → rcut hi lo b = Cls.cut hi lo (b.dropWhile fun x => decide (x.f1 < lo))
  | [], _, _ => rfl
  | x :: b, lo, hc => by
    have hg := Cls.can_gap hc
    have hx := Cls.can_head hc
    have ht := Cls.can_tail hc
    rw [rcut]
    by_cases h1 : x.f1 < lo
    · rw [if_pos (.inl h1), List.dropWhile_cons_of_pos (by simpa using h1)]
      exact rcut_eq hi b lo ht
    · rw [List.dropWhile_cons_of_neg (by simpa using h1), Cls.cut]
      by_cases h2 : x.f0 > hi
      · rw [if_pos (.inr h2), if_pos h2, rcut_beyond hi lo b fun y hy => by have := hg y hy; omega]
      · rw [if_neg (by omega), if_neg h2, rcut_eq hi b (x.f1 + 1) ht, drop_none (x.f1 + 1) b fun y hy => by have := hg y hy; have := hc.2 y (List.mem_cons_of_mem _ hy); omega]
theorem rcut_length (hi : Int) : ∀ (b : List S64) (lo : Int), (rcut hi lo b).length ≤ b.length + 1
  | [], _ => by simp [rcut]
  | x :: b, lo => by
    have h1 := rcut_length hi b (x.f1 + 1)
    have h2 := rcut_length hi b lo
    rw [rcut]
    split
    · simp; omega
    · rw [List.length_append, List.length_cons]
      split <;> split <;> simp <;> omega
def refLess (a b : List S64) : List S64 := a.flatMap fun r => rcut r.f1 r.f0 b
theorem refless_inner (a b : List S64) (i : Nat) (top : Int) (hin : inR b = true) (hb : b.length < 8796093022208) (hia : i < 8796093022208) (ht : top ≤ 9223372036854775807) (R : List S64) : ∀ (d j : Nat) (out : List S64) (lo : Int), j + d = b.length → out.length + d + 1 < 8796093022208 → -9223372036854775808 ≤ lo →
    Ends (fun k => dredgeref06_Less.l0 k a b (out ++ rcut top lo (b.drop j)) ((i + 1 : Nat) : Int)) R → Ends (fun k => dredgeref06_Less.l1 k a b out (i : Int) true (j : Int) lo top) R := by
  intro d
  induction d with
  | zero =>
    intro j out lo hd ho hlo h
    rw [List.drop_of_length_le (by omega)] at h
    refine Ends.succ (Ends.succ (f := fun k => dredgeref06_Less.j2 k a b out (i : Int) true (j : Int) false lo top) h fun k => ?_) fun k => ?_
    · simp only [dredgeref06_Less.j2]
      simp only [Bool.false_eq_true, if_false, if_true]
      rw [if_pos (by omega), wrap_succ i hia]
      rfl
    · simp only [dredgeref06_Less.l1]
      rw [if_neg (by omega)]
  | succ d ih =>
    intro j out lo hd ho hlo h
    have hj : j < b.length := by omega
    have hdrop : b.drop j = b[j] :: b.drop (j + 1) := List.drop_eq_getElem_cons hj
    have hR := (inR_iff b).1 hin _ (List.getElem_mem hj)
    rw [hdrop, rcut] at h
    have h1 : ∀ k, dredgeref06_Less.l1 (k + 1) a b out (i : Int) true (j : Int) lo top = dredgeref06_Less.j2 k a b out (i : Int) true (j : Int) true lo top := fun k => by
      simp only [dredgeref06_Less.l1]
      rw [if_pos (by omega)]
    have h2 : ∀ k, dredgeref06_Less.j2 (k + 1) a b out (i : Int) true (j : Int) true lo top = dredgeref06_Less.j3 k a b out (i : Int) true (j : Int) (decide (b[j].f1 < lo ∨ b[j].f0 > top)) lo top := fun k => by
      simp only [dredgeref06_Less.j2]
      simp only [if_true]
      rw [if_pos (by omega), if_pos (by omega), rd_at b j hj]
      by_cases g : b[j].f1 < lo
      · rw [if_pos g, decide_eq_true (Or.inl g)]
      · rw [if_neg g]
        congr 1
        rw [decide_eq_decide]
        omega
    by_cases g : b[j].f1 < lo ∨ b[j].f0 > top
    · rw [if_pos g] at h
      have h3 : ∀ k, dredgeref06_Less.j3 (k + 1) a b out (i : Int) true (j : Int) true lo top = dredgeref06_Less.l1 k a b out (i : Int) true ((j + 1 : Nat) : Int) lo top := fun k => by
        simp only [dredgeref06_Less.j3]
        simp only [if_true]
        rw [wrap_succ j (by omega)]
      rw [decide_eq_true g] at h2
      exact Ends.succ (Ends.succ (Ends.succ (ih (j + 1) out lo (by omega) (by omega) hlo h) h3) h2) h1
    · rw [if_neg g, ← List.append_assoc] at h
      rw [decide_eq_false g] at h2
      have hlen : (out ++ if lo < b[j].f0 then [(⟨lo, b[j].f0 - 1⟩ : S64)] else []).length ≤ out.length + 1 := by rw [List.length_append]; split <;> simp
      have h3 : ∀ k, dredgeref06_Less.j3 (k + 1) a b out (i : Int) true (j : Int) false lo top = (if b[j].f1 < top then dredgeref06_Less.l1 k a b (out ++ if lo < b[j].f0 then [⟨lo, b[j].f0 - 1⟩] else []) (i : Int) true ((j + 1 : Nat) : Int) (b[j].f1 + 1) top else dredgeref06_Less.l1 k a b (out ++ if lo < b[j].f0 then [⟨lo, b[j].f0 - 1⟩] else []) (i : Int) false ((j + 1 : Nat) : Int) lo top) := fun k => by
        simp only [dredgeref06_Less.j3]
        simp only [Bool.false_eq_true, if_false]
        rw [if_pos (show (0 : Int) ≤ (j : Int) by omega), if_pos (show (j : Int) < (b.length : Int) by omega), rd_at b j hj, wrap_succ j (by omega)]
        by_cases g2 : b[j].f0 > lo
        · rw [if_pos g2, if_pos (show out.length < 8796093022208 by omega), Option.bind_some, w64_lit (b[j].f0 - 1) (by omega) (by omega), if_pos (show lo < b[j].f0 from g2)]
          by_cases g3 : b[j].f1 < top
          · rw [if_pos g3, if_pos g3, w64_lit (b[j].f1 + 1) (by omega) (by omega), decide_eq_true g3]
          · rw [if_neg g3, if_neg g3, decide_eq_false g3]
        · rw [if_neg g2, if_neg (show ¬ lo < b[j].f0 from g2), List.append_nil]
          by_cases g3 : b[j].f1 < top
          · rw [if_pos g3, if_pos g3, w64_lit (b[j].f1 + 1) (by omega) (by omega), decide_eq_true g3]
          · rw [if_neg g3, if_neg g3, decide_eq_false g3]
      by_cases g3 : b[j].f1 < top
      · rw [if_pos g3] at h
        refine Ends.succ (Ends.succ (Ends.succ (ih (j + 1) _ (b[j].f1 + 1) (by omega) (by omega) (by omega) h) fun k => ?_) h2) h1
        rw [h3 k, if_pos g3]
      · rw [if_neg g3, List.append_nil] at h
        have h5 : ∀ n m out2 lo2, n + m = b.length → Ends (fun k => dredgeref06_Less.l0 k a b out2 ((i + 1 : Nat) : Int)) R → Ends (fun k => dredgeref06_Less.l1 k a b out2 (i : Int) false (n : Int) lo2 top) R := by
          intro n m out2 lo2 hnm hE
          refine Ends.succ (Ends.succ (f := fun k => dredgeref06_Less.j2 k a b out2 (i : Int) false (n : Int) false lo2 top) hE fun k => ?_) fun k => ?_
          · simp only [dredgeref06_Less.j2]
            simp only [Bool.false_eq_true, if_false]
            rw [wrap_succ i hia]
          · simp only [dredgeref06_Less.l1]
            split <;> rfl
        refine Ends.succ (Ends.succ (Ends.succ (h5 (j + 1) d _ lo (by omega) h) fun k => ?_) h2) h1
        rw [h3 k, if_neg g3]
theorem refless_outer (a b : List S64) (ha : inR a = true) (hl : a.length < 8796093022208) (hin : inR b = true) (hb : b.length < 8796093022208) : ∀ (d i : Nat) (out : List S64), i + d = a.length → out.length + d * (b.length + 1) < 8796093022208 → inR (out ++ refLess (a.drop i) b) = true →
    Ends (fun k => dredgeref06_Less.l0 k a b out (i : Int)) (Cls.cls (out ++ refLess (a.drop i) b)) := by
  intro d
  induction d with
  | zero =>
    intro i out hd ho hr
    rw [List.drop_of_length_le (by omega), show refLess [] b = [] from rfl, List.append_nil] at hr ⊢
    refine Ends.succ (g := fun k => (dredgeref06_Class.f k out).bind fun t => some t) (Ends.bind (refclass_ends out (by omega) hr) (Ends.some_ _)) fun k => ?_
    simp only [dredgeref06_Less.l0]
    rw [if_neg (by omega)]
  | succ d ih =>
    intro i out hd ho hr
    have hi : i < a.length := by omega
    have hdrop : a.drop i = a[i] :: a.drop (i + 1) := List.drop_eq_getElem_cons hi
    have hp : refLess (a.drop i) b = rcut a[i].f1 a[i].f0 b ++ refLess (a.drop (i + 1)) b := by rw [hdrop]; rfl
    have hR := (inR_iff a).1 ha _ (List.getElem_mem hi)
    have hcl := rcut_length a[i].f1 b a[i].f0
    rw [Nat.succ_mul] at ho
    rw [hp, ← List.append_assoc] at hr ⊢
    refine Ends.succ (refless_inner a b i a[i].f1 hin hb (by omega) (by omega) _ b.length 0 out a[i].f0 (by omega) (by omega) (by omega) ?_) fun k => ?_
    · rw [List.drop_zero]
      exact ih (i + 1) (out ++ rcut a[i].f1 a[i].f0 b) (by omega) (by rw [List.length_append]; omega) hr
    · simp only [dredgeref06_Less.l0]
      rw [if_pos (by omega), if_pos (by omega), rd_at a i hi]
      rfl
theorem rcut_mem (hi lo : Int) (b : List S64) (h : lo ≤ hi) (hc : Cls.Can b) (c : Int) : Cls.Mem (rcut hi lo b) c ↔ (lo ≤ c ∧ c ≤ hi) ∧ ¬ Cls.Mem b c := by
  rw [rcut_eq hi b lo hc, Cls.cut_mem hi lo _ h (Cls.drop_can lo hc) (Cls.drop_from lo hc)]
  constructor
  · rintro ⟨h1, h2⟩
    exact ⟨h1, fun hm => h2 ((Cls.drop_mem lo hc c h1.1).2 hm)⟩
  · rintro ⟨h1, h2⟩
    exact ⟨h1, fun hm => h2 ((Cls.drop_mem lo hc c h1.1).1 hm)⟩
theorem refless_mem (a b : List S64) (ha : Cls.Can a) (hb : Cls.Can b) (c : Int) : Cls.Mem (refLess a b) c ↔ Cls.Mem a c ∧ ¬ Cls.Mem b c := by
  induction a with
  | nil => simp [refLess, Cls.mem_nil]
  | cons r a ih =>
    rw [show refLess (r :: a) b = rcut r.f1 r.f0 b ++ refLess a b from rfl, Cls.mem_append, ih (Cls.can_tail ha), rcut_mem _ _ _ (Cls.can_head ha) hb, Cls.mem_cons]
    constructor
    · rintro (⟨h, g⟩ | ⟨h, g⟩)
      · exact ⟨.inl h, g⟩
      · exact ⟨.inr h, g⟩
    · rintro ⟨h | h, g⟩
      · exact .inl ⟨h, g⟩
      · exact .inr ⟨h, g⟩
theorem refless_inR (a b : List S64) (ha : Cls.Can a) (hb : Cls.Can b) (hin : inR a = true) : inR (refLess a b) = true := by
  refine (inR_iff _).2 fun x hx => ?_
  obtain ⟨r, hr, hx⟩ := List.mem_flatMap.1 hx
  have h1 := (inR_iff a).1 hin r hr
  have h2 := ha.2 r hr
  rw [rcut_eq _ _ _ hb] at hx
  have h3 := Cls.cut_in r.f1 r.f0 _ h2 (Cls.drop_can _ hb) (Cls.drop_from _ hb) x hx
  omega
theorem refless_ends (a b : List S64) (h1 : a.length < 2097152) (h2 : b.length < 2097152) (ha : inR a = true) (hb : inR b = true) : Ends (fun k => dredgeref06_Less.f k a b) (Cls.less_ a b) := by
  unfold dredgeref06_Less.f
  refine Ends.bind (refclass_ends a (by omega) ha) (Ends.bind (refclass_ends b (by omega) hb) ?_)
  have l1 := cls_length a
  have l2 := cls_length b
  have hm := mul_small (Cls.cls a).length (Cls.cls b).length (by omega) (by omega)
  have h := refless_outer (Cls.cls a) (Cls.cls b) (inR_cls a ha) (by omega) (inR_cls b hb) (by omega) (Cls.cls a).length 0 [] (by omega) (by simp; omega) (by simpa using refless_inR _ _ (Cls.cls_can a) (Cls.cls_can b) (inR_cls a ha))
  have e : Cls.cls (refLess (Cls.cls a) (Cls.cls b)) = Cls.less_ a b := (Cls.cls_unique (Cls.less_can a b) fun c => by rw [refless_mem _ _ (Cls.cls_can a) (Cls.cls_can b), Cls.cls_mem, Cls.cls_mem, Cls.less_mem]).symm
  simp only [List.drop_zero, List.nil_append] at h
  rw [e] at h
  exact h
theorem refnot_ends (l : List S64) (m : Bool) (h1 : l.length < 2097152) (h : inR l = true) : Ends (fun k => dredgeref06_Not.f k l m) (Cls.less_ (Cls.all m) l) := by
  unfold dredgeref06_Not.f
  rw [show dredgeref06_All.f m = some (Cls.all m) by cases m <;> rfl]
  simp only [Option.bind_some]
  exact Ends.bind (refless_ends (Cls.all m) l (by have := all_length m; omega) h1 (all_inR m) h) (Ends.some_ _)
end Go.Proofs.Ytamhkdlcoghdbaa.PCls
