/- Out of YLRef (wip/tools/prune2.py): the declarations alone that the texts of the trees name. -/
import Derived.Test.YtamhkdlcoghdbaaGreatDoorKMQYPClsx7
import Derived.Test.YtamhkdlcoghdbaaGreatDoorKQYPClsx11
namespace Go.Proofs.YtamhkdlcoghdbaaGreatDoor.PCls
open Go.RowKit Go.Proofs.YtamhkdlcoghdbaaGreatDoorW.PrintWords Go.Proofs.YtamhkdlcoghdbaaGreatDoorW.PrintLast Go.Proofs.YtamhkdlcoghdbaaGreatDoorW.PrintMore
set_option linter.unusedVariables false
set_option linter.unusedSimpArgs false
def leLo (a b : S64) : Bool := decide (a.f0 ≤ b.f0)
theorem merge_loop : ∀ (n : Nat) (k i : Nat) (out a b : List S64), a.length - i + b.length = n → i ≤ a.length → out.length + n < 8796093022208 →
  (2 * n + 2 ≤ k → a.length < 8796093022208 → dredgeref06_sorted.l0 k out a b (i : Int) = some (out ++ List.merge (a.drop i) b leLo)) ∧
  (2 * n + 1 ≤ k → a.length < 8796093022208 → i < a.length → dredgeref06_sorted.l1 k out a b (i : Int) = some (out ++ List.merge (a.drop i) b leLo)) := by
 intro n
 induction n with
 | zero =>
  intro k i out a b hn hi ho
  have hb : b = [] := List.length_eq_zero_iff.1 (by omega)
  subst hb
  refine ⟨fun hk ha => ?_, fun hk ha hil => by omega⟩
  obtain ⟨k, rfl⟩ : ∃ m, k = m + 1 := ⟨k - 1, by omega⟩
  simp only [dredgeref06_sorted.l0]
  rw [if_neg (by omega), if_pos (by simp; omega), List.drop_of_length_le (by omega)]
  simp
 | succ n ih =>
  intro k i out a b hn hi ho
  have H1 : ∀ k, 2 * (n + 1) + 1 ≤ k → a.length < 8796093022208 → i < a.length → dredgeref06_sorted.l1 k out a b (i : Int) = some (out ++ List.merge (a.drop i) b leLo) := by
   intro k hk ha hil
   obtain ⟨k, rfl⟩ : ∃ m, k = m + 1 := ⟨k - 1, by omega⟩
   have hdrop : a.drop i = a[i] :: a.drop (i + 1) := List.drop_eq_getElem_cons hil
   have hw : wrap64 ((i : Int) + 1) = ((i + 1 : Nat) : Int) := by rw [w64_lit _ (by omega) (by omega)]; omega
   have hi1 : (0 : Int) ≤ (i : Int) := by omega
   have hi2 : (i : Int) < (a.length : Int) := by omega
   have eta : ∀ x : S64, (⟨x.f0, x.f1⟩ : S64) = x := fun _ => rfl
   cases b with
   | nil =>
    simp only [dredgeref06_sorted.l1]
    rw [if_neg (by simp), if_pos hi1, if_pos hi2, if_pos (by omega), rd_at a i hil, hw, eta, (ih k (i + 1) (out ++ [a[i]]) a [] (by simp at hn ⊢; omega) (by omega) (by simp; omega)).1 (by omega) ha, hdrop]
    simp
   | cons y b =>
    have hlen : ((y :: b).length : Int) > 0 := by simp
    have hlen1 : (1 : Int) ≤ ((y :: b).length : Int) := by simp; omega
    have hd1 : (y :: b).drop ((1 : Int)).toNat = b := rfl
    simp only [dredgeref06_sorted.l1]
    rw [if_pos hlen, if_pos hlen, if_pos hi1, if_pos hi2, if_pos (show out.length < 8796093022208 by omega), rd_at a i hil, hw, eta, rd_zero, eta, hd1]
    simp at hn
    by_cases h : y.f0 < a[i].f0
    ·rw [if_pos h, if_pos hlen1, (ih k i (out ++ [y]) a b (by omega) hi (by simp; omega)).2 (by omega) ha hil, hdrop, List.cons_merge_cons, if_neg (show ¬ leLo a[i] y = true by unfold leLo; simp; omega), List.append_assoc, List.singleton_append]
    ·rw [if_neg h, if_pos (show out.length < 8796093022208 by omega), (ih k (i + 1) (out ++ [a[i]]) a (y :: b) (by simp; omega) (by omega) (by simp; omega)).1 (by omega) ha, hdrop, List.cons_merge_cons, if_pos (show leLo a[i] y = true from decide_eq_true (Int.not_lt.1 h)), List.append_assoc, List.singleton_append]
  refine ⟨fun hk ha => ?_, H1 k⟩
  obtain ⟨k, rfl⟩ : ∃ m, k = m + 1 := ⟨k - 1, by omega⟩
  simp only [dredgeref06_sorted.l0]
  by_cases hil : i < a.length
  ·rw [if_pos (by omega), H1 k (by omega) ha hil]
  ·rw [if_neg (by omega), if_pos (by omega), List.drop_of_length_le (by omega)]
   simp
theorem sorted_ends : ∀ (n : Nat) (l : List S64), l.length = n → n < 8796093022208 → ∃ s, Ends (fun k => dredgeref06_sorted.f k l) s ∧ s.Perm (l.filter fun r => decide (r.f0 ≤ r.f1)) ∧ s.Pairwise (fun r s => r.f0 ≤ s.f0) := by
 intro n
 induction n using Nat.strongRecOn with
 | _ n ih =>
 intro l hl hn
 match l, hl with
 | [], hl =>
  refine ⟨[], Ends.succ (Ends.some_ []) fun k => ?_, List.Perm.refl _, List.Pairwise.nil⟩
  simp [dredgeref06_sorted.f]
 | [x], hl =>
  by_cases hx : x.f0 ≤ x.f1
  ·refine ⟨[x], Ends.succ (Ends.some_ [x]) fun k => ?_, by simp [hx], by simp⟩
   simp only [dredgeref06_sorted.f]
   rw [if_neg (by simp), if_pos (by simp), if_pos (by simp), rd_zero, if_pos hx, if_pos (by simp)]
   rfl
  ·refine ⟨[], Ends.succ (Ends.some_ []) fun k => ?_, by simp [hx], List.Pairwise.nil⟩
   simp only [dredgeref06_sorted.f]
   rw [if_neg (by simp), if_pos (by simp), if_pos (by simp), rd_zero, if_neg hx]
 | x :: y :: t, hl =>
  generalize hL : x :: y :: t = L at *
  have h2 : 2 ≤ L.length := by rw [← hL]; simp
  have hw : wrap64 ((L.length : Int) / 2) = ((L.length / 2 : Nat) : Int) := by rw [w64_lit _ (by omega) (by omega)]; omega
  obtain ⟨s1, e1, p1, o1⟩ := ih (L.length / 2) (by omega) (L.take (L.length / 2)) (by simp; omega) (by omega)
  obtain ⟨s2, e2, p2, o2⟩ := ih (L.length - L.length / 2) (by omega) (L.drop (L.length / 2)) (by simp) (by omega)
  have l1 : s1.length ≤ L.length / 2 := by rw [p1.length_eq]; exact Nat.le_trans (List.length_filter_le _ _) (by simp; omega)
  have l2 : s2.length ≤ L.length - L.length / 2 := by rw [p2.length_eq]; exact Nat.le_trans (List.length_filter_le _ _) (by simp)
  refine ⟨List.merge s1 s2 leLo, Ends.succ (g := fun k => (dredgeref06_sorted.f k (L.take (L.length / 2))).bind fun t189 => (dredgeref06_sorted.f k (L.drop (L.length / 2))).bind fun t196 => dredgeref06_sorted.l0 k [] t189 t196 0) (Ends.bind e1 (Ends.bind e2 ⟨2 * (s1.length + s2.length) + 2, fun k hk => ?_⟩)) fun k => ?_, ?_, ?_⟩
  ·have := (merge_loop (s1.length + s2.length) k 0 [] s1 s2 (by omega) (by omega) (by simp; omega)).1 hk (by omega)
   simpa using this
  ·simp only [dredgeref06_sorted.f]
   rw [if_neg (by omega), if_neg (by omega), hw, if_pos (by omega), if_pos (by omega), Int.toNat_natCast]
  ·refine (List.merge_perm_append leLo).trans ?_
   have := p1.append p2
   rw [← List.filter_append, List.take_append_drop] at this
   exact this
  ·have := List.pairwise_merge (le := leLo) (fun a b c => by simp [leLo]; omega) (fun a b => by simp [leLo]; omega) s1 s2 (o1.imp fun h => by simpa [leLo] using h) (o2.imp fun h => by simpa [leLo] using h)
   exact this.imp fun h => by simpa [leLo] using h
theorem refclass_loop (l : List S64) (hl : l.length < 8796093022208) (hin : inR l = true) (hn : ∀ r, r ∈ l → r.f0 ≤ r.f1) (hs : l.Pairwise (fun r s => r.f0 ≤ s.f0)) :
  ∀ (d k i : Nat) (out : List S64), i + d = l.length → d < k → out.length ≤ i → Cls.Can out → (∀ x, x ∈ out → -9223372036854775808 ≤ x.f1) → (∀ x, out.getLast? = some x → ∀ r, r ∈ l.drop i → x.f0 ≤ r.f0) →
   dredgeref06_Class.l0 k out l (i : Int) = some (Cls.mrg out (l.drop i)) := by
 intro d
 induction d with
 | zero =>
  intro k i out hd hk ho hc hoR hx
  obtain ⟨k, rfl⟩ : ∃ m, k = m + 1 := ⟨k - 1, by omega⟩
  simp only [dredgeref06_Class.l0]
  rw [if_neg (by omega), List.drop_of_length_le (by omega)]
  rfl
 | succ d ih =>
  intro k i out hd hk ho hc hoR hx
  obtain ⟨k, rfl⟩ : ∃ m, k = m + 1 := ⟨k - 1, by omega⟩
  have hil : i < l.length := by omega
  have hrm : l[i] ∈ l := List.getElem_mem hil
  have hr := hn _ hrm
  have hrR := (inR_iff l).1 hin _ hrm
  have hdrop : l.drop i = l[i] :: l.drop (i + 1) := List.drop_eq_getElem_cons hil
  have hmrg : Cls.mrg out (l.drop i) = Cls.mrg (Cls.put out l[i]) (l.drop (i + 1)) := by rw [hdrop]; rfl
  have hl1 : ∀ x, out.getLast? = some x → x.f0 ≤ l[i].f0 := fun x h => hx x h _ (by rw [hdrop]; exact List.mem_cons_self)
  have hnext : ∀ x, (Cls.put out l[i]).getLast? = some x → ∀ r, r ∈ l.drop (i + 1) → x.f0 ≤ r.f0 := fun x h r hr' => by
   have h1 := Cls.put_last out l[i] hl1 x h
   have hp : (l.drop i).Pairwise (fun r s => r.f0 ≤ s.f0) := hs.sublist (List.drop_sublist i l)
   rw [hdrop] at hp
   exact Int.le_trans h1 ((List.pairwise_cons.1 hp).1 r hr')
  have hcn := Cls.put_can out l[i] hc hr hl1
  have hw : wrap64 ((i : Int) + 1) = ((i + 1 : Nat) : Int) := by rw [w64_lit _ (by omega) (by omega)]; omega
  have hput : (Cls.put out l[i]).length ≤ i + 1 := by
   rcases List.eq_nil_or_concat out with rfl | ⟨a, x, rfl⟩
   ·simp [Cls.put]
   ·rw [List.concat_eq_append] at *
    rw [put_snoc]
    simp at ho
    split <;> simp <;> omega
  have hputR : ∀ x, x ∈ Cls.put out l[i] → -9223372036854775808 ≤ x.f1 := by
   intro y hy
   rcases List.eq_nil_or_concat out with rfl | ⟨a, x, rfl⟩
   ·simp [Cls.put] at hy
    subst hy
    omega
   ·rw [List.concat_eq_append] at *
    rw [put_snoc] at hy
    split at hy
    ·rcases List.mem_append.1 hy with hy | hy
     ·exact hoR y (by simp [hy])
     ·have := hoR x (by simp)
      simp at hy
      subst hy
      simp only
      omega
    ·rcases List.mem_append.1 hy with hy | hy
     ·exact hoR y hy
     ·simp at hy
      subst hy
      omega
  have eta : ∀ x : S64, (⟨x.f0, x.f1⟩ : S64) = x := fun _ => rfl
  have hih := ih k (i + 1) (Cls.put out l[i]) (by omega) (by omega) hput hcn hputR hnext
  rw [hmrg, ← hih]
  simp only [dredgeref06_Class.l0]
  rw [if_pos (by omega), rd_at l i hil, hw]
  rcases List.eq_nil_or_concat out with rfl | ⟨a, x, rfl⟩
  ·rw [if_neg (by simp [wrap64]), if_pos (by omega), if_pos (by simp)]
   simp [Cls.put]
  ·rw [List.concat_eq_append] at *
   have hxl := hl1 x (by simp)
   have hxc := ((Cls.can_append_iff a x).1 hc).2.1
   have hxR := hoR x (by simp)
   have hal : ((a ++ [x]).length : Int) = (a.length : Int) + 1 := by simp
   have ho' : a.length + 1 ≤ i := by simpa using ho
   rw [put_snoc, hal, w64_lit ((a.length : Int) + 1 - 1) (by omega) (by omega), show (a.length : Int) + 1 - 1 = (a.length : Int) by omega, if_pos (show (a.length : Int) ≥ 0 by omega), if_pos (show (0 : Int) ≤ (i : Int) by omega), if_pos (show (0 : Int) ≤ (a.length : Int) by omega), if_pos (show (a.length : Int) < (a.length : Int) + 1 by omega), rd_last]
   have hset : ∀ y, (a ++ [x]).set ((a.length : Int)).toNat y = a ++ [y] := fun y => by rw [Int.toNat_natCast]; simp
   have hmx : mx x.f1 l[i].f1 = max x.f1 l[i].f1 := by unfold mx; omega
   rw [hset, hmx, eta]
   by_cases h1 : l[i].f0 ≤ x.f1
   ·rw [if_pos h1, if_pos (show l[i].f0 ≤ x.f1 + 1 by omega)]
   ·rw [if_neg h1]
    have hwr : wrap64 (l[i].f0 - 1) = l[i].f0 - 1 := w64_lit _ (by omega) (by omega)
    rw [hwr]
    by_cases h2 : l[i].f0 - 1 = x.f1
    ·rw [if_pos h2, if_pos (show l[i].f0 ≤ x.f1 + 1 by omega)]
    ·rw [if_neg h2, if_pos (show (a ++ [x]).length < 8796093022208 by simp; omega), if_neg (show ¬ (l[i].f0 ≤ x.f1 + 1) by omega)]
theorem refclass_ends (l : List S64) (hl : l.length < 8796093022208) (hin : inR l = true) : Ends (fun k => dredgeref06_Class.f k l) (Cls.cls l) := by
 obtain ⟨s, es, hp, hs⟩ := sorted_ends l.length l rfl hl
 unfold dredgeref06_Class.f
 refine Ends.bind es ⟨s.length + 1, fun k hk => ?_⟩
 have hsl : s.length ≤ l.length := by rw [hp.length_eq]; exact List.length_filter_le _ _
 have hmem : ∀ r, r ∈ s → r ∈ l ∧ r.f0 ≤ r.f1 := fun r hr => by
  have := List.mem_filter.1 (hp.mem_iff.1 hr)
  exact ⟨this.1, by simpa using this.2⟩
 have hin' : inR s = true := (inR_iff s).2 fun r hr => (inR_iff l).1 hin r (hmem r hr).1
 have hloop := refclass_loop s (by omega) hin' (fun r hr => (hmem r hr).2) hs s.length k 0 [] (by omega) (by omega) (by simp) Cls.can_nil (fun x h => by simp at h) (fun x h => by simp at h)
 have hm := Cls.mrg_of_sorted l s hp hs
 have e := Cls.cls_unique hm.1 hm.2
 rw [← e]
 simpa using hloop
end Go.Proofs.YtamhkdlcoghdbaaGreatDoor.PCls
