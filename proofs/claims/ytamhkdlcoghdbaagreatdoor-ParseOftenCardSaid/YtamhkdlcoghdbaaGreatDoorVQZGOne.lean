/- Out of ZGOne (wip/tools/prune2.py): the declarations alone that the texts of the trees name. -/
import Derived.Test.YtamhkdlcoghdbaaGreatDoorVMQZPClsx0
import Derived.Lib.SliceRun
import Derived.Outline
import Derived.Test.YtamhkdlcoghdbaaGreatDoorRows
import Derived.SizedLaws
import Derived.ProofKit
import Derived.OpenShut
import Derived.ShutString
import Derived.ChangeOld
import Derived.Deep.SlicePairs
import Derived.Shelf.SlSortCmp.NoneTotal
import Derived.Shelf.SlicesE.DeleteFunc
namespace Go.Proofs.YtamhkdlcoghdbaaGreatDoor.PCls
open Go.RowKit Go.Proofs.YtamhkdlcoghdbaaGreatDoorW.PrintWords Go.Proofs.YtamhkdlcoghdbaaGreatDoorW.PrintLast Go.Proofs.YtamhkdlcoghdbaaGreatDoorW.PrintMore
set_option linter.unusedVariables false
set_option linter.unusedSimpArgs false
namespace Cls
/-- a number is in one of some ranges -/
def Mem (l : List S64) (c : Int) : Prop := ∃ r, r ∈ l ∧ r.f0 ≤ c ∧ c ≤ r.f1
/-- the list is a class: rising, apart, none empty -/
def Can (l : List S64) : Prop := l.Pairwise (fun r s => r.f1 + 1 < s.f0) ∧ ∀ r, r ∈ l → r.f0 ≤ r.f1
theorem mem_nil (c : Int) : ¬ Mem [] c := fun ⟨_, h, _⟩ => by cases h
theorem mem_cons (r : S64) (l : List S64) (c : Int) : Mem (r :: l) c ↔ (r.f0 ≤ c ∧ c ≤ r.f1) ∨ Mem l c := by
 constructor
 ·rintro ⟨x, hx, h⟩
  rcases List.mem_cons.1 hx with rfl | hx
  ·exact .inl h
  ·exact .inr ⟨x, hx, h⟩
 ·rintro (h | ⟨x, hx, h⟩)
  ·exact ⟨r, List.mem_cons_self, h⟩
  ·exact ⟨x, List.mem_cons_of_mem _ hx, h⟩
theorem mem_append (a b : List S64) (c : Int) : Mem (a ++ b) c ↔ Mem a c ∨ Mem b c := by
 constructor
 ·rintro ⟨x, hx, h⟩
  rcases List.mem_append.1 hx with hx | hx
  ·exact .inl ⟨x, hx, h⟩
  ·exact .inr ⟨x, hx, h⟩
 ·rintro (⟨x, hx, h⟩ | ⟨x, hx, h⟩)
  ·exact ⟨x, List.mem_append_left _ hx, h⟩
  ·exact ⟨x, List.mem_append_right _ hx, h⟩
theorem can_nil : Can [] := ⟨List.Pairwise.nil, fun _ h => by cases h⟩
theorem can_tail {r : S64} {l : List S64} (h : Can (r :: l)) : Can l := ⟨(List.pairwise_cons.1 h.1).2, fun x hx => h.2 x (List.mem_cons_of_mem _ hx)⟩
theorem can_head {r : S64} {l : List S64} (h : Can (r :: l)) : r.f0 ≤ r.f1 := h.2 r List.mem_cons_self
theorem can_gap {r : S64} {l : List S64} (h : Can (r :: l)) : ∀ x, x ∈ l → r.f1 + 1 < x.f0 := (List.pairwise_cons.1 h.1).1
theorem can_beyond {r : S64} {l : List S64} (h : Can (r :: l)) {c : Int} (hm : Mem l c) : r.f1 + 1 < c := by
 obtain ⟨x, hx, h0, _⟩ := hm
 have := can_gap h x hx
 omega
theorem can_unique : ∀ (a b : List S64), Can a → Can b → (∀ c, Mem a c ↔ Mem b c) → a = b
 | [], [], _, _, _ => rfl
 | [], s :: b, _, hb, h => absurd ((h s.f0).2 ⟨s, List.mem_cons_self, Int.le_refl _, can_head hb⟩) (mem_nil _)
 | r :: a, [], ha, _, h => absurd ((h r.f0).1 ⟨r, List.mem_cons_self, Int.le_refl _, can_head ha⟩) (mem_nil _)
 | r :: a, s :: b, ha, hb, h => by
  have hr := can_head ha
  have hs := can_head hb
  have e0 : r.f0 = s.f0 := by
   have h1 := (h r.f0).1 ((mem_cons ..).2 (.inl ⟨Int.le_refl _, hr⟩))
   have h2 := (h s.f0).2 ((mem_cons ..).2 (.inl ⟨Int.le_refl _, hs⟩))
   rcases (mem_cons ..).1 h1 with h1 | h1
   ·rcases (mem_cons ..).1 h2 with h2 | h2
    ·omega
    ·have := can_beyond ha h2; omega
   ·have g1 := can_beyond hb h1
    rcases (mem_cons ..).1 h2 with h2 | h2
    ·omega
    ·have := can_beyond ha h2; omega
  have e1 : r.f1 = s.f1 := by
   have h1 := h (r.f1 + 1)
   have h2 := h (s.f1 + 1)
   rcases Int.lt_trichotomy r.f1 s.f1 with hlt | he | hlt
   ·have := h1.2 ((mem_cons ..).2 (.inl (by omega)))
    rcases (mem_cons ..).1 this with g | g
    ·omega
    ·have := can_beyond ha g; omega
   ·exact he
   ·have := h2.1 ((mem_cons ..).2 (.inl (by omega)))
    rcases (mem_cons ..).1 this with g | g
    ·omega
    ·have := can_beyond hb g; omega
  have e : r = s := by cases r; cases s; simp_all
  subst e
  rw [can_unique a b (can_tail ha) (can_tail hb) fun c => ?_]
  constructor
  ·intro hm
   have := can_beyond ha hm
   rcases (mem_cons ..).1 ((h c).1 ((mem_cons ..).2 (.inr hm))) with g | g
   ·omega
   ·exact g
  ·intro hm
   have := can_beyond hb hm
   rcases (mem_cons ..).1 ((h c).2 ((mem_cons ..).2 (.inr hm))) with g | g
   ·omega
   ·exact g
/-- one more range on a class whose last one begins no later -/
def put (out : List S64) (r : S64) : List S64 :=
 match out.getLast? with
 | none => [r]
 | some x => if r.f0 ≤ x.f1 + 1 then out.dropLast ++ [⟨x.f0, max x.f1 r.f1⟩] else out ++ [r]
theorem can_append_iff (a : List S64) (x : S64) : Can (a ++ [x]) ↔ Can a ∧ x.f0 ≤ x.f1 ∧ ∀ y, y ∈ a → y.f1 + 1 < x.f0 := by
 unfold Can
 rw [List.pairwise_append]
 constructor
 ·rintro ⟨⟨h1, _, h2⟩, h3⟩
  exact ⟨⟨h1, fun r hr => h3 r (by simp [hr])⟩, h3 x (by simp), fun y hy => h2 y hy x (by simp)⟩
 ·rintro ⟨⟨h1, h3⟩, h4, h2⟩
  refine ⟨⟨h1, by simp, fun y hy z hz => ?_⟩, fun r hr => ?_⟩
  ·simp at hz; subst hz; exact h2 y hy
  ·simp at hr
   rcases hr with hr | rfl
   ·exact h3 r hr
   ·exact h4
theorem put_can (out : List S64) (r : S64) (ho : Can out) (hr : r.f0 ≤ r.f1) (hl : ∀ x, out.getLast? = some x → x.f0 ≤ r.f0) : Can (put out r) := by
 unfold put
 rcases List.eq_nil_or_concat out with rfl | ⟨a, x, rfl⟩
 ·simp [Can, hr]
 ·simp only [List.concat_eq_append] at *
  simp only [List.getLast?_append, List.getLast?_singleton, Option.some_or, List.dropLast_concat] at *
  have h := (can_append_iff a x).1 ho
  have hx := hl x rfl
  split
  ·refine (can_append_iff a _).2 ⟨h.1, ?_, h.2.2⟩
   simp only
   omega
  ·refine (can_append_iff _ r).2 ⟨ho, hr, fun y hy => ?_⟩
   simp at hy
   rcases hy with hy | rfl
   ·have := h.2.2 y hy; omega
   ·omega
theorem put_mem (out : List S64) (r : S64) (ho : Can out) (hr : r.f0 ≤ r.f1) (hl : ∀ x, out.getLast? = some x → x.f0 ≤ r.f0) (c : Int) : Mem (put out r) c ↔ Mem out c ∨ (r.f0 ≤ c ∧ c ≤ r.f1) := by
 unfold put
 rcases List.eq_nil_or_concat out with rfl | ⟨a, x, rfl⟩
 ·simp [Mem]
 ·simp only [List.concat_eq_append] at *
  simp only [List.getLast?_append, List.getLast?_singleton, Option.some_or, List.dropLast_concat] at *
  have hx := hl x rfl
  have h := ((can_append_iff a x).1 ho).2.1
  split
  ·simp only [mem_append, mem_cons, mem_nil, or_false]
   rw [or_assoc]
   apply or_congr_right
   omega
  ·simp only [mem_append, mem_cons, mem_nil, or_false]
theorem put_last (out : List S64) (r : S64) (hl : ∀ x, out.getLast? = some x → x.f0 ≤ r.f0) : ∀ x, (put out r).getLast? = some x → x.f0 ≤ r.f0 := by
 unfold put
 rcases List.eq_nil_or_concat out with rfl | ⟨a, x, rfl⟩
 ·simp
 ·simp only [List.concat_eq_append] at *
  simp only [List.getLast?_append, List.getLast?_singleton, Option.some_or, List.dropLast_concat] at *
  have hx := hl x rfl
  intro y
  split
  ·simp; rintro rfl; exact hx
  ·simp; rintro rfl; exact Int.le_refl _
/-- some ranges, by their first numbers, put together -/
def mrg (out : List S64) (l : List S64) : List S64 := l.foldl put out
theorem mrg_spec : ∀ (l out : List S64), Can out → (∀ r, r ∈ l → r.f0 ≤ r.f1) → l.Pairwise (fun r s => r.f0 ≤ s.f0) → (∀ x, out.getLast? = some x → ∀ r, r ∈ l → x.f0 ≤ r.f0) →
  Can (mrg out l) ∧ ∀ c, Mem (mrg out l) c ↔ Mem out c ∨ Mem l c
 | [], out, ho, _, _, _ => ⟨ho, fun c => by simp [mrg, mem_nil]⟩
 | r :: l, out, ho, hn, hs, hl => by
  have hl1 : ∀ x, out.getLast? = some x → x.f0 ≤ r.f0 := fun x hx => hl x hx r List.mem_cons_self
  have hr := hn r List.mem_cons_self
  have h := mrg_spec l (put out r) (put_can out r ho hr hl1) (fun x hx => hn x (List.mem_cons_of_mem _ hx)) (List.pairwise_cons.1 hs).2
   (fun x hx y hy => Int.le_trans (put_last out r hl1 x hx) ((List.pairwise_cons.1 hs).1 y hy))
  refine ⟨h.1, fun c => ?_⟩
  rw [show mrg out (r :: l) = mrg (put out r) l from rfl, h.2 c, put_mem out r ho hr hl1, mem_cons, or_assoc]
/-- the class of some ranges -/
def cls (l : List S64) : List S64 := mrg [] ((l.filter fun r => decide (r.f0 ≤ r.f1)).mergeSort fun a b => decide (a.f0 ≤ b.f0))
theorem mem_perm {a b : List S64} (h : a.Perm b) (c : Int) : Mem a c ↔ Mem b c :=
 ⟨fun ⟨r, hr, h1⟩ => ⟨r, h.mem_iff.1 hr, h1⟩, fun ⟨r, hr, h1⟩ => ⟨r, h.mem_iff.2 hr, h1⟩⟩
theorem mem_filter (l : List S64) (c : Int) : Mem (l.filter fun r => decide (r.f0 ≤ r.f1)) c ↔ Mem l c := by
 constructor
 ·rintro ⟨r, hr, h⟩
  exact ⟨r, (List.mem_filter.1 hr).1, h⟩
 ·rintro ⟨r, hr, h⟩
  exact ⟨r, List.mem_filter.2 ⟨hr, by simp; omega⟩, h⟩
/-- whatever order sorts them: the class is the same -/
theorem mrg_of_sorted (l s : List S64) (hp : s.Perm (l.filter fun r => decide (r.f0 ≤ r.f1))) (hs : s.Pairwise (fun r s => r.f0 ≤ s.f0)) : Can (mrg [] s) ∧ ∀ c, Mem (mrg [] s) c ↔ Mem l c := by
 have h := mrg_spec s [] can_nil (fun r hr => by simpa using (List.mem_filter.1 (hp.mem_iff.1 hr)).2) hs (fun x hx => by simp at hx)
 refine ⟨h.1, fun c => ?_⟩
 rw [h.2 c, mem_perm hp, mem_filter]
 simp [mem_nil]
theorem cls_spec (l : List S64) : Can (cls l) ∧ ∀ c, Mem (cls l) c ↔ Mem l c := by
 refine mrg_of_sorted l _ (List.mergeSort_perm _ _) ?_
 have := List.pairwise_mergeSort (le := fun (a b : S64) => decide (a.f0 ≤ b.f0)) (fun a b c => by simp; omega) (fun a b => by simp; omega) (l.filter fun r => decide (r.f0 ≤ r.f1))
 exact this.imp (fun h => by simpa using h)
theorem cls_can (l : List S64) : Can (cls l) := (cls_spec l).1
theorem cls_mem (l : List S64) (c : Int) : Mem (cls l) c ↔ Mem l c := (cls_spec l).2 c
theorem cls_unique {a l : List S64} (ha : Can a) (h : ∀ c, Mem a c ↔ Mem l c) : a = cls l := can_unique a _ ha (cls_can l) fun c => (h c).trans (cls_mem l c).symm
end Cls
namespace Cls
/-- what is in both of two classes -/
def inter : List S64 → List S64 → List S64
 | [], _ => []
 | _ :: _, [] => []
 | r :: a, s :: b => (if max r.f0 s.f0 ≤ min r.f1 s.f1 then [⟨max r.f0 s.f0, min r.f1 s.f1⟩] else []) ++ (if r.f1 < s.f1 then inter a (s :: b) else inter (r :: a) b)
 termination_by a b => a.length + b.length
theorem inter_from : ∀ (a b : List S64) (x : S64), x ∈ inter a b → ∃ r s, r ∈ a ∧ s ∈ b ∧ x = ⟨max r.f0 s.f0, min r.f1 s.f1⟩ ∧ x.f0 ≤ x.f1 := by
 intro a b
 fun_induction inter a b with
 | case1 => intro x h; simp at h
 | case2 => intro x h; simp at h
 | case3 r a s b ih1 ih2 =>
  intro x h
  rcases List.mem_append.1 h with h | h
  ·split at h
   ·rename_i hle
    simp at h
    subst h
    exact ⟨r, s, List.mem_cons_self, List.mem_cons_self, rfl, hle⟩
   ·simp at h
  ·split at h
   ·obtain ⟨r', s', hr, hs, e, hx⟩ := ih1 x h
    exact ⟨r', s', List.mem_cons_of_mem _ hr, hs, e, hx⟩
   ·obtain ⟨r', s', hr, hs, e, hx⟩ := ih2 x h
    exact ⟨r', s', hr, List.mem_cons_of_mem _ hs, e, hx⟩
theorem inter_can : ∀ (a b : List S64), Can a → Can b → Can (inter a b) := by
 intro a b
 fun_induction inter a b with
 | case1 => intro _ _; exact can_nil
 | case2 => intro _ _; exact can_nil
 | case3 r a s b ih1 ih2 =>
  intro ha hb
  have hgap : ∀ x, x ∈ (if r.f1 < s.f1 then inter a (s :: b) else inter (r :: a) b) → min r.f1 s.f1 + 1 < x.f0 := by
   intro x h
   split at h
   ·obtain ⟨r', s', hr, hs, e, hx⟩ := inter_from _ _ x h
    have := can_gap ha r' hr
    subst e
    simp only
    omega
   ·obtain ⟨r', s', hr, hs, e, hx⟩ := inter_from _ _ x h
    have := can_gap hb s' hs
    subst e
    simp only
    omega
  have hrest : Can (if r.f1 < s.f1 then inter a (s :: b) else inter (r :: a) b) := by
   split
   ·exact ih1 (can_tail ha) hb
   ·exact ih2 ha (can_tail hb)
  generalize (if r.f1 < s.f1 then inter a (s :: b) else inter (r :: a) b) = rest at *
  split
  ·rename_i hle
   refine ⟨List.pairwise_cons.2 ⟨fun x hx => hgap x hx, hrest.1⟩, fun x hx => ?_⟩
   rcases List.mem_cons.1 hx with rfl | hx
   ·exact hle
   ·exact hrest.2 x hx
  ·exact hrest
theorem inter_mem : ∀ (a b : List S64), Can a → Can b → ∀ c, Mem (inter a b) c ↔ Mem a c ∧ Mem b c := by
 intro a b
 fun_induction inter a b with
 | case1 => intro _ _ c; simp [mem_nil]
 | case2 => intro _ _ c; simp [mem_nil]
 | case3 r a s b ih1 ih2 =>
  intro ha hb c
  rw [mem_append]
  have h1 : Mem (if max r.f0 s.f0 ≤ min r.f1 s.f1 then [(⟨max r.f0 s.f0, min r.f1 s.f1⟩ : S64)] else []) c ↔ (r.f0 ≤ c ∧ c ≤ r.f1) ∧ (s.f0 ≤ c ∧ c ≤ s.f1) := by
   split
   ·simp only [mem_cons, mem_nil, or_false]
    omega
   ·simp only [mem_nil, false_iff]
    omega
  rw [h1]
  have g1 : Mem a c → r.f1 + 1 < c := can_beyond ha
  have g2 : Mem b c → s.f1 + 1 < c := can_beyond hb
  split
  ·rename_i hlt
   rw [ih1 (can_tail ha) hb c, mem_cons r a, mem_cons s b]
   generalize Mem a c = A at *
   generalize Mem b c = B at *
   constructor
   ·rintro (⟨h, k⟩ | ⟨h, k⟩)
    ·exact ⟨.inl h, .inl k⟩
    ·exact ⟨.inr h, k⟩
   ·rintro ⟨h | h, k | k⟩
    ·exact .inl ⟨h, k⟩
    ·have := g2 k; omega
    ·exact .inr ⟨h, .inl k⟩
    ·exact .inr ⟨h, .inr k⟩
  ·rename_i hlt
   rw [ih2 ha (can_tail hb) c, mem_cons r a, mem_cons s b]
   generalize Mem a c = A at *
   generalize Mem b c = B at *
   constructor
   ·rintro (⟨h, k⟩ | ⟨h, k⟩)
    ·exact ⟨.inl h, .inl k⟩
    ·exact ⟨h, .inr k⟩
   ·rintro ⟨h | h, k | k⟩
    ·exact .inl ⟨h, k⟩
    ·exact .inr ⟨.inl h, k⟩
    ·have := g1 h; omega
    ·exact .inr ⟨.inr h, k⟩
end Cls
instance : Inhabited S64 := ⟨z64⟩
/-- every number is one of Go's int -/
def inR (l : List S64) : Bool := l.all fun r => decide (-9223372036854775808 ≤ r.f0) && decide (r.f0 ≤ 9223372036854775807) && decide (-9223372036854775808 ≤ r.f1) && decide (r.f1 ≤ 9223372036854775807)
namespace Cls
def shift (l : List S64) (by_ : Int) : List S64 := l.map fun r => ⟨r.f0 + by_, r.f1 + by_⟩
def fold (l : List S64) : List S64 := cls (l ++ (shift (inter (cls l) [⟨65, 90⟩]) 32 ++ shift (inter (cls l) [⟨97, 122⟩]) (-32)))
end Cls
def api_Range_89.f (l : List S64) : Option (List S64) := if l.length < 8796093022208 then some l else none
/-- the sort's order: by the first number -/
def byLo (a b : S64) : Int := Lib.compareInt a.f0 b.f0
def api_Range_103.f (l : List S64) : Option (List S64) := some (l.filter fun r => decide (r.f0 ≤ r.f1))
def api_Range_105.f (l : List S64) : Option (List S64) := if l.length < 4611686018427387904 then some (Go.Sort.pdq (Go.Proofs.ltOf byLo) l.toArray 0 l.length (Lib.bitLen l.length) true true).toList else none
end Go.Proofs.YtamhkdlcoghdbaaGreatDoor.PCls
namespace Go.Proofs.YtamhkdlcoghdbaaGreatDoor.PCls
open Go.RowKit Go.Proofs.YtamhkdlcoghdbaaGreatDoorW.PrintWords Go.Proofs.YtamhkdlcoghdbaaGreatDoorW.PrintLast Go.Proofs.YtamhkdlcoghdbaaGreatDoorW.PrintMore
set_option linter.unusedVariables false
set_option linter.unusedSimpArgs false
/-- a range's two cells -/
def enc2 (r : S64) : List Value := [.int .i64 r.f0, .int .i64 r.f1]
def rowOf (l : List S64) : List Value := l.flatMap enc2
theorem rowOf_length (l : List S64) : (rowOf l).length = l.length * 2 := by
 induction l with
 | nil => rfl
 | cons r l ih => simp only [rowOf, List.flatMap_cons, List.length_append] at *; rw [ih]; simp [enc2]; omega
theorem rowOf_at (l : List S64) (j : Nat) (x : S64) (h : l[j]? = some x) : (rowOf l)[j * 2]? = some (.int .i64 x.f0) ∧ (rowOf l)[j * 2 + 1]? = some (.int .i64 x.f1) := by
 induction l generalizing j with
 | nil => simp at h
 | cons r l ih =>
  cases j with
  | zero =>
   simp at h
   subst h
   exact ⟨rfl, rfl⟩
  | succ j =>
   have := ih j (by simpa using h)
   have e : rowOf (r :: l) = .int .i64 r.f0 :: .int .i64 r.f1 :: rowOf l := rfl
   rw [e, show (j + 1) * 2 = j * 2 + 1 + 1 by omega, List.getElem?_cons_succ, List.getElem?_cons_succ]
   exact ⟨this.1, by rw [show j * 2 + 1 + 1 + 1 = (j * 2 + 1) + 1 + 1 by omega, List.getElem?_cons_succ, List.getElem?_cons_succ]; exact this.2⟩
theorem rowOf_reps (w : World) (l : List S64) : Reps (k64.K w) 2 l (rowOf l) := by
 refine ⟨rowOf_length l, fun j x hj => ?_⟩
 have h := rowOf_at l j x hj
 have e : ((rowOf l).drop (j * 2)).take 2 = [.int .i64 x.f0, .int .i64 x.f1] := by
  apply List.ext_getElem?
  intro i
  rw [List.getElem?_take]
  match i with
  | 0 => rw [if_pos (by omega), List.getElem?_drop]; exact h.1
  | 1 => rw [if_pos (by omega), List.getElem?_drop]; exact h.2
  | i + 2 => rw [if_neg (by omega)]; simp
 rw [e]
 exact k64_mk w x
theorem reps_at {w : World} {l : List S64} {inner : List Value} (hr : Reps (k64.K w) 2 l inner) (j : Nat) (x : S64) (h : l[j]? = some x) : inner[j * 2]? = some (.int .i64 x.f0) ∧ inner[j * 2 + 1]? = some (.int .i64 x.f1) := by
 have e := k64_open (hr.2 j x h)
 constructor
 ·have : ((inner.drop (j * 2)).take 2)[0]? = some (.int .i64 x.f0) := by rw [e]; rfl
  rwa [List.getElem?_take, if_pos (by omega), List.getElem?_drop] at this
 ·have : ((inner.drop (j * 2)).take 2)[1]? = some (.int .i64 x.f1) := by rw [e]; rfl
  rwa [List.getElem?_take, if_pos (by omega), List.getElem?_drop] at this
theorem reps_eq {w : World} {l : List S64} {inner : List Value} (hr : Reps (k64.K w) 2 l inner) : inner = rowOf l := by
 have hl := hr.1
 apply List.ext_getElem?
 intro i
 by_cases hi : i < l.length * 2
 ·have hj : i / 2 < l.length := by omega
  have a := reps_at hr (i / 2) _ (List.getElem?_eq_getElem hj)
  have b := rowOf_at l (i / 2) _ (List.getElem?_eq_getElem hj)
  rcases (show i = i / 2 * 2 ∨ i = i / 2 * 2 + 1 by omega) with e | e
  ·rw [e, a.1, b.1]
  ·rw [e, a.2, b.2]
 ·rw [List.getElem?_eq_none (by omega), List.getElem?_eq_none (by rw [rowOf_length]; omega)]
theorem M_of_K {w w1 : World} {base : Nat} {ok : Nat → Prop} {x : S64} {cs : List Value} (h : k64.K w x cs) : k64.M w1 base ok x cs := by
 obtain rfl := k64_open h
 exact k64_mkM _ _ _ _
/-- a row that is owned, told in the print's words -/
theorem R_of_own {w : World} {base : Nat} {v : Value} {l : List S64} {ok : Nat → Prop} (ho : w.ownsRow base 39 2 v l.length (rowOf l)) (hok : ∀ k, v.ownBlock = some k → ok k) : Kd.R k64 39 w base ok v l :=
 ⟨hok, _, ho, (rowOf_reps w l).imp_ fun _ _ h => M_of_K h⟩
/-- and back -/
theorem own_of_R {w : World} {base : Nat} {v : Value} {l : List S64} {ok : Nat → Prop} (h : Kd.R k64 39 w base ok v l) : w.ownsRow base 39 2 v l.length (rowOf l) := by
 obtain ⟨_, inner, ho, hr⟩ := h
 have e := reps_eq (w := w) (hr.imp_ fun _ _ h => k64.K_of_M h)
 subst e
 exact ho
theorem one_rowOf (l : List S64) : ∀ u ∈ rowOf l, u.oneCell' = true := by
 intro u hu
 simp only [rowOf, List.mem_flatMap] at hu
 obtain ⟨r, _, hu⟩ := hu
 simp [enc2] at hu
 rcases hu with rfl | rfl <;> rfl
theorem nil_of_C {w : World} {n : Nat} {l : List S64} (h : Kd.C k64 w none n l) : l = [] := by
 rcases Nat.eq_zero_or_pos n with h0 | h0
 ·exact List.length_eq_zero_iff.1 (h.1.trans h0)
 ·obtain ⟨ad, e, _⟩ := h.2.2 h0
  cases e
/-- the cells of a row that is read -/
theorem cells_of_C {w : World} {ad : Addr} {n : Nat} {l : List S64} (h : Kd.C k64 w (some ad) n l) : ∀ j u, (rowOf l)[j]? = some u → w.cell? (ad.add j) = some u := by
 obtain ⟨inner, hr, hc⟩ := ReadsRow.inner_ h
 obtain rfl := reps_eq hr
 exact hc
theorem info64' : ∃ i : TypeInfo, Tryz.prog.info? 39 = some i ∧ i.zero = some (.agg #[.int .i64 0, .int .i64 0]) ∧ i.size = 2 ∧ i.bytes = 16 := info_parts info64
end Go.Proofs.YtamhkdlcoghdbaaGreatDoor.PCls
namespace Go.Proofs.YtamhkdlcoghdbaaGreatDoor.PCls
open Go.RowKit Go.Proofs.YtamhkdlcoghdbaaGreatDoorW.PrintWords Go.Proofs.YtamhkdlcoghdbaaGreatDoorW.PrintLast Go.Proofs.YtamhkdlcoghdbaaGreatDoorW.PrintMore
open Go.ChangeShapes Go.WideShapes Go.ChangeAt
set_option linter.unusedVariables false
set_option linter.unusedSimpArgs false
end Go.Proofs.YtamhkdlcoghdbaaGreatDoor.PCls
namespace Go.Proofs.YtamhkdlcoghdbaaGreatDoor.PCls
open Go.RowKit Go.Proofs.YtamhkdlcoghdbaaGreatDoorW.PrintWords Go.Proofs.YtamhkdlcoghdbaaGreatDoorW.PrintLast Go.Proofs.YtamhkdlcoghdbaaGreatDoorW.PrintMore
set_option linter.unusedVariables false
set_option linter.unusedSimpArgs false
set_option maxHeartbeats 1000000 in
theorem api_Range_89.calls (A0 : Option Addr) (c0 : Nat) (l0 : List S64) (r : List S64) (w : World) (hr0 : Kd.C k64 w A0 l0.length l0) (hc0 : l0.length ≤ c0) (h : api_Range_89.f l0 = some r) :
  Calls Tryz.prog 114 #[.slice A0 l0.length c0] w fun e w' => ∃ v0_ : Value, e = .returned v0_ ∧ Kd.R k64 39 w' w.heap.size (fun _ => True) v0_ r ∧ Below w.heap.size w w' := by
 unfold api_Range_89.f at h
 split at h
 case isFalse => cases h
 rename_i hn
 obtain rfl := Option.some.inj h
 have q22 : ∀ (w : World) (a : Option Addr) (n c n' c' : Nat), (binOp .eql 35 (.slice a n c) (.slice none n' c')).run Tryz.prog w = .ok (.bool a.isNone) w := fun w a n c n' c' => Lib.run_eql_slice_nil w _ _ a n c n' c' Tryz.underlying35
 cases A0 with
 | none =>
  have hl := nil_of_C hr0
  clear h hr0
  go_enter Tryz.func114, Tryz.ntmps114
  go_wp2
  go_ret
  refine ⟨_, rfl, ?_, Below.refl _ _⟩
  rw [hl]
  exact Kd.R_nil _ _ _ _ _
 | some ad =>
  obtain ⟨i0, hi, hz0, hz1, hz2⟩ := info64'
  have hcell := cells_of_C hr0
  have h1 := one_rowOf l0
  have hlen := rowOf_length l0
  generalize hI : rowOf l0 = inner at hcell h1 hlen
  have hrep := hI
  clear hI
  have A := Lib.hid hcell
  have B := Lib.hid hlen
  have C := Lib.hid hrep
  clear h hr0 hcell hlen hrep
  go_enter Tryz.func114, Tryz.ntmps114
  go_wp2_with (at_builtin; refine wpList_append_own _ rfl _ _ 35 rfl w.heap.size 39 i0 _ 2 16 Tryz.underlying35 hi hz0 hz1 hz2 rfl (by decide) _ _ _ rfl (World.ownsRow_made w #[] 0 (Nat.le_refl _) (Nat.zero_le _) (by simp)) ad l0.length c0 inner rfl ?qc1 ?qc2 ?qc3 ?qc4 ?qc5 ?qc6 ?_)
  case qc1 => exact B.out
  case qc2 => exact fun j u hj => Lib.cell?_alloc_some _ (A.out j u hj)
  case qc3 => exact h1
  case qc4 => unfold maxLen; omega
  case qc5 => omega
  case qc6 => simp
  intro v' w1 hown hgrow hnil
  go_wp2
  go_ret
  refine ⟨v', rfl, R_of_own (by rw [C.out]; simpa using hown) (fun _ _ => trivial), ?_⟩
  exact ((Below.refl _ w).alloc (Nat.le_refl _) _).grown hgrow (by simp) (by intro k hk; simp [Value.ownBlock] at hk; omega)
end Go.Proofs.YtamhkdlcoghdbaaGreatDoor.PCls
namespace Go.Proofs.YtamhkdlcoghdbaaGreatDoor.PCls
open Go.RowKit Go.Proofs.YtamhkdlcoghdbaaGreatDoorW.PrintWords Go.Proofs.YtamhkdlcoghdbaaGreatDoorW.PrintLast Go.Proofs.YtamhkdlcoghdbaaGreatDoorW.PrintMore
open Go.Shelf Go.Lib
set_option linter.unusedVariables false
set_option linter.unusedSimpArgs false
theorem ltOf_byLo (x y : S64) : ltOf byLo x y = decide (x.f0 < y.f0) := by
 unfold ltOf byLo Lib.compareInt
 by_cases h1 : x.f0 < y.f0
 ·simp [h1]
 ·by_cases h2 : y.f0 < x.f0 <;> simp [h1, h2]
theorem swo_byLo : Go.Sort.SWO (ltOf byLo) where
 irrefl x := by rw [ltOf_byLo]; simp
 trans x y z h1 h2 := by rw [ltOf_byLo] at *; simp at *; omega
 ntrans x y z h1 h2 := by rw [ltOf_byLo] at *; simp at *; omega
set_option maxHeartbeats 1000000 in
/-- the closure that the sort is handed: two blocks are laid at each call -/
theorem closure106 (x y : S64) (W : World) : Calls Tryz.prog 158 #[.agg #[.int .i64 x.f0, .int .i64 x.f1], .agg #[.int .i64 y.f0, .int .i64 y.f1]] W fun e w' => e = .returned (.int .i64 (byLo x y)) ∧ ∃ q os', w' = Go.Sort.grow (W.drewN q) os' := by
 unfold byLo
 have hc := fun W' => AnyG.cmp_Compare_int Tryz.cmp159 x.f0 y.f0 W'
 change ∀ W', Calls Tryz.prog 159 _ _ _ at hc
 generalize Lib.compareInt x.f0 y.f0 = r at hc ⊢
 go_enter Tryz.func158, Tryz.ntmps158
 go_wp2_with (go_at_call 159; refine (hc _).mono ?_; rintro e w' ⟨rfl, rfl⟩)
 go_ret
 exact ⟨rfl, 0, _, by rw [Go.Sort.alloc_eq_grow, Go.Sort.alloc_eq_grow, Go.Sort.grow_grow]; rfl⟩
theorem get!_of (d : Array S64) (j : Nat) (h : j < d.size) : d.toList[j]? = some d[j]! := by
 rw [getElem!_pos d j h]; simp [h]
theorem flat_at (d : Array S64) (t : Nat) (h : t < d.size * 2) : (rowOf d.toList)[t]? = some (Go.Sort.flatK enc2 2 d)[t]! := by
 have hj : t / 2 < d.size := by omega
 have a := rowOf_at d.toList (t / 2) _ (get!_of d (t / 2) hj)
 rw [Go.Sort.get_flatK enc2 2 d t h]
 rcases (show t = t / 2 * 2 ∧ t % 2 = 0 ∨ t = t / 2 * 2 + 1 ∧ t % 2 = 1 by omega) with ⟨e, m⟩ | ⟨e, m⟩
 ·rw [m]
  conv => lhs; rw [e]
  rw [a.1]; rfl
 ·rw [m]
  conv => lhs; rw [e]
  rw [a.2]; rfl
/-- the row that the sort leaves -/
theorem put_row (cur : Array Value) (d : Array S64) (n : Nat) (hd : d.size = n) (hc : n * 2 ≤ cur.size) : (Go.Sort.putCells id 0 (Go.Sort.flatK enc2 2 d) cur).size = cur.size ∧ (Go.Sort.putCells id 0 (Go.Sort.flatK enc2 2 d) cur).toList.take (n * 2) = rowOf d.toList := by
 refine ⟨by simp [Go.Sort.putCells], ?_⟩
 apply List.ext_getElem?
 intro t
 rw [List.getElem?_take]
 by_cases ht : t < n * 2
 ·rw [if_pos ht, flat_at d t (by rw [hd]; exact ht)]
  have hs : t < cur.size := by omega
  simp [Go.Sort.putCells, hs, hd, ht]
 ·rw [if_neg ht, List.getElem?_eq_none (by rw [rowOf_length]; simp; omega)]
set_option maxHeartbeats 1000000 in
theorem api_Range_105.calls (P0_ : Nat → Prop) (u9000_ : Value) (l0 : List S64) (r : List S64) (w0 w : World) (hB : Below w0.heap.size w0 w) (ho0 : Kd.R k64 39 w w0.heap.size P0_ u9000_ l0) (h : api_Range_105.f l0 = some r) :
  Calls Tryz.prog 157 #[u9000_, .func (.func 158) #[] #[]] w fun e w' => e = .returned (.tuple #[]) ∧ Kd.R k64 39 w' w0.heap.size (fun k_ => (P0_ k_ ∨ w.heap.size ≤ k_)) u9000_ r ∧ Below w0.heap.size w0 w' ∧ Kept w w' (fun k_ => P0_ k_) := by
 unfold api_Range_105.f at h
 split at h
 case isFalse => cases h
 rename_i hn
 obtain rfl := Option.some.inj h
 have hown := own_of_R ho0
 have hok := ho0.1
 rcases hown.2 with ⟨rfl, h0⟩ | ⟨g, cap, cur, rfl, hg, hblk, hle, hcap, hsz, htake⟩
 ·obtain rfl : l0 = [] := List.length_eq_zero_iff.1 h0
  refine (AnyF.slices_SortFunc_none Tryz.sort157 none 0 (.func (.func 158) #[] #[]) w).mono ?_
  rintro e w' ⟨rfl, rfl⟩
  refine ⟨rfl, ?_, hB, Kept.refl _ _⟩
  have e : (Go.Sort.pdq (ltOf byLo) ([] : List S64).toArray 0 ([] : List S64).length (Lib.bitLen ([] : List S64).length) true true).toList = [] := by
   have := (Go.Sort.pdq_sorts (ltOf byLo) swo_byLo ([] : List S64).toArray 0 0 (Lib.bitLen 0) true true (Nat.zero_le _) (Nat.le_refl _) (Or.inl rfl)).1.1
   simpa using this
  rw [e]
  exact Kd.R_nil _ _ _ _ _
 ·have eg : ∀ args w, (callFunc 158 args).run Tryz.prog w = .ok (.enter 158 args) w := enters_of Tryz.func158 (by kernel_rfl) rfl
  have hcur : ∀ t, t < l0.length * 2 → cur[t]? = (rowOf l0)[t]? := fun t ht => by
   rw [← htake, List.getElem?_take, if_pos ht]; simp
  have hH : Go.Sort.HoldsK enc2 2 w g 0 l0.toArray := by
   intro j hj
   have hj' : j < l0.length * 2 := by simpa using hj
   have e := flat_at l0.toArray j (by simpa using hj')
   refine ⟨?_, ?_⟩
   ·rw [cell_of_row w g (0 + j) cur 39 (0, 0) hblk, Nat.zero_add, hcur j hj']
    exact e
   ·simp [World.frozen?, hblk]
  have hcon := AnyQ.slices_SortFunc_eq Tryz.sort157 2 Tryz.isAgg39 Tryz.sizeOf39 enc2 (fun _ => rfl) (fun x v hv => by simp [enc2] at hv; rcases hv with rfl | rfl <;> rfl) byLo swo_byLo 158 #[] g 0 cap l0.toArray w eg (fun m os dk _ x y => closure106 x y _) hH (Array.getElem?_eq_some_iff.1 hblk).1 (by simpa using hn)
  refine hcon.mono ?_
  rintro e w' ⟨rfl, n, os, rfl⟩
  obtain ⟨d, hd⟩ : ∃ d, d = Go.Sort.pdq (ltOf byLo) l0.toArray 0 l0.length (Lib.bitLen l0.length) true true := ⟨_, rfl⟩
  have hds : d.size = l0.length := by
   have := (Go.Sort.pdq_sorts (ltOf byLo) swo_byLo l0.toArray 0 l0.length (Lib.bitLen l0.length) true true (Nat.zero_le _) (by simp) (Or.inl rfl)).1.1
   rw [hd, this]; simp
  rw [show l0.toArray.size = l0.length from by simp, ← hd]
  have hp := put_row cur d l0.length hds (by omega)
  have hlt : g < w.heap.size := (Array.getElem?_eq_some_iff.1 hblk).1
  have hnew : (sortWorldK enc2 2 w g 0 n d os).heap[g]? = some (.cells (Go.Sort.putCells id 0 (Go.Sort.flatK enc2 2 d) cur) 39 (0, 0)) := by
   unfold sortWorldK Go.Sort.putRowK Go.Sort.putRow Go.Sort.mapBlock Go.Sort.grow Go.Sort.ahead
   simp only
   rw [Array.getElem?_append_left (by simpa using hlt), Array.getElem?_modify, if_pos rfl, hblk]
   rfl
  have hold : ∀ k, k < w.heap.size → k ≠ g → (sortWorldK enc2 2 w g 0 n d os).heap[k]? = w.heap[k]? := fun k hk hne => by
   unfold sortWorldK Go.Sort.putRowK Go.Sort.putRow Go.Sort.mapBlock Go.Sort.grow Go.Sort.ahead
   simp only
   rw [Array.getElem?_append_left (by simpa using hk), Array.getElem?_modify, if_neg (Ne.symm hne)]
  have hsize : w.heap.size ≤ (sortWorldK enc2 2 w g 0 n d os).heap.size := by
   unfold sortWorldK Go.Sort.putRowK Go.Sort.putRow Go.Sort.mapBlock Go.Sort.grow Go.Sort.ahead
   simp
  have hgP : P0_ g := hok g (by simp [Value.ownBlock])
  refine ⟨rfl, ?_, ?_, hsize, ?_⟩
  ·refine R_of_own ⟨by rw [rowOf_length], .inr ⟨g, cap, _, ?_, hg, hnew, ?_, hcap, ?_, ?_⟩⟩ (fun k hk => .inl (hok k hk))
   ·simp [hds]
   ·simpa [hds] using hle
   ·rw [hp.1]; exact hsz
   ·have := hp.2; simpa [hds] using this
  ·exact ⟨hB.os, hB.tape, hB.output, Nat.le_trans hB.size hsize, fun k hk => (hold k (Nat.lt_of_lt_of_le hk hB.size) (by omega)).trans (hB.block k hk)⟩
  ·intro i hi hni
   exact hold i hi (fun e => hni (by rw [e]; exact hgP))
end Go.Proofs.YtamhkdlcoghdbaaGreatDoor.PCls
namespace Go.Proofs.YtamhkdlcoghdbaaGreatDoor.PCls
open Go.RowKit Go.Proofs.YtamhkdlcoghdbaaGreatDoorW.PrintWords Go.Proofs.YtamhkdlcoghdbaaGreatDoorW.PrintLast Go.Proofs.YtamhkdlcoghdbaaGreatDoorW.PrintMore
open Go.Shelf Go.Lib
set_option linter.unusedVariables false
set_option linter.unusedSimpArgs false
set_option maxHeartbeats 1000000 in
theorem closure104 (x : S64) (W : World) : Calls Tryz.prog 156 #[.agg #[.int .i64 x.f0, .int .i64 x.f1]] W fun e w' => e = .returned (.bool (decide (x.f1 < x.f0))) ∧ w' = W.alloc (.cells #[.int .i64 x.f0, .int .i64 x.f1] 39) := by
 by_cases h : x.f1 < x.f0
 ·have hd : decide (x.f1 < x.f0) = true := decide_eq_true h
  go_enter Tryz.func156, Tryz.ntmps156
  go_wp2
  go_ret
  exact ⟨by rw [hd]; rfl, rfl⟩
 ·have hd : decide (x.f1 < x.f0) = false := decide_eq_false h
  go_enter Tryz.func156, Tryz.ntmps156
  go_wp2
  go_ret
  exact ⟨by simp only [h]; first | rfl | (simp; done) | (rw [hd]; rfl), rfl⟩
/-- what a row is, half way through the deletion -/
structure Half (l D : List S64) (i j : Nat) : Prop where
 len : D.length = l.length
 low : D.take i = (l.take j).filter fun r => decide (r.f0 ≤ r.f1)
 high : D.drop j = l.drop j
 lt : i < j
theorem Half.le {l D : List S64} {i j : Nat} (h : Half l D i j) (hj : j ≤ l.length) : i = ((l.take j).filter fun r => decide (r.f0 ≤ r.f1)).length := by
 rw [← h.low, List.length_take, h.len]
 have := h.lt
 omega
theorem Half.at_ {l D : List S64} {i j : Nat} (h : Half l D i j) (hj : j < l.length) : D[j]? = l[j]? := by
 have := congrArg (·[0]?) h.high
 simpa using this
theorem Half.skip {l D : List S64} {i j : Nat} (h : Half l D i j) (hj : j < l.length) (x : S64) (hx : l[j]? = some x) (hd : ¬ x.f0 ≤ x.f1) : Half l D i (j + 1) := by
 have hg : l[j] = x := by rw [List.getElem?_eq_getElem hj] at hx; exact Option.some.inj hx
 refine ⟨h.len, ?_, ?_, by have := h.lt; omega⟩
 ·rw [h.low, List.take_succ_eq_append_getElem hj, List.filter_append, hg]
  simp [hd]
 ·rw [← List.drop_drop, ← List.drop_drop, h.high]
theorem Half.keep {l D : List S64} {i j : Nat} (h : Half l D i j) (hj : j < l.length) (x : S64) (hx : l[j]? = some x) (hd : x.f0 ≤ x.f1) : Half l (D.set i x) (i + 1) (j + 1) := by
 have hg : l[j] = x := by rw [List.getElem?_eq_getElem hj] at hx; exact Option.some.inj hx
 have hlt := h.lt
 have hlen := h.len
 refine ⟨by simpa using h.len, ?_, ?_, by omega⟩
 ·rw [List.take_succ_eq_append_getElem (by simp; omega), List.take_set_of_le (Nat.le_refl _), h.low, List.take_succ_eq_append_getElem hj, List.filter_append, hg]
  simp [hd]
 ·rw [List.drop_set_of_lt (by omega), ← List.drop_drop, ← List.drop_drop, h.high]
theorem Half.start {l : List S64} {k : Nat} (hk : k < l.length) (x : S64) (hx : l[k]? = some x) (hd : ¬ x.f0 ≤ x.f1) (ha : ∀ j y, j < k → l[j]? = some y → y.f0 ≤ y.f1) : Half l l k (k + 1) := by
 have hg : l[k] = x := by rw [List.getElem?_eq_getElem hk] at hx; exact Option.some.inj hx
 refine ⟨rfl, ?_, rfl, by omega⟩
 rw [List.take_succ_eq_append_getElem hk, List.filter_append, hg]
 simp only [List.filter_cons, hd, decide_false, Bool.false_eq_true, if_false, List.filter_nil, List.append_nil]
 rw [List.filter_eq_self.2]
 intro y hy
 obtain ⟨j, hj, rfl⟩ := List.getElem_of_mem hy
 rw [List.length_take] at hj
 rw [List.getElem_take]
 exact decide_eq_true (ha j _ (by omega) (List.getElem?_eq_getElem (by omega)))
theorem enters104 : ∀ args w, (callFunc 156 args).run Tryz.prog w = .ok (.enter 156 args) w := enters_of Tryz.func156 (by kernel_rfl) rfl
set_option maxHeartbeats 1000000 in
theorem index_nil (w : World) : Calls Tryz.prog 194 #[.slice none 0 0, .func (.func 156) #[] #[]] w fun e w' => e = .returned (.int .i64 (-1)) ∧ w' = w := by
 go_enter Tryz.func194, Tryz.ntmps194
 go_wp2
 refine wp_loop_rounds 1 ?_
 rw [rounds_succ]
 go_wp2
 go_ret
 exact ⟨rfl, rfl⟩
theorem pred104 (w : World) : PredBelow Tryz.prog 156 #[] (fun x : S64 => .agg (enc2 x).toArray) (fun x => decide (x.f1 < x.f0)) w := fun W x hb =>
 (closure104 x W).mono fun _ _ ⟨he, hw⟩ => ⟨he, by rw [hw]; exact hb.alloc hb.size _⟩
theorem getD!_of (l : List S64) (j : Nat) (h : j < l.length) : l[j]? = some l[j]! := by
 rw [getElem!_pos l j h, List.getElem?_eq_getElem h]
theorem index101 (g cap : Nat) (l : List S64) (w : World) (hb : g < w.heap.size) (hn : l.length ≤ 9223372036854775807) (hc : ∀ k u, (rowOf l)[k]? = some u → w.cell? ⟨g, k, none⟩ = some u) :
  Calls Tryz.prog 194 #[.slice (some ⟨g, 0, none⟩) l.length cap, .func (.func 156) #[] #[]] w fun e w' => Below w.heap.size w w' ∧
   ((e = .returned (.int .i64 (-1)) ∧ ∀ r, r ∈ l → r.f0 ≤ r.f1) ∨ ∃ k x, k < l.length ∧ e = .returned (.int .i64 k) ∧ l[k]? = some x ∧ ¬ x.f0 ≤ x.f1 ∧ ∀ j y, j < k → l[j]? = some y → y.f0 ≤ y.f1) := by
 have hcon := AnyQ.slices_IndexFunc Tryz.index194 2 Tryz.isAgg39 Tryz.sizeOf39 enc2 (fun _ => rfl) (fun x => decide (x.f1 < x.f0)) 156 #[] enters104 g 0 l.length cap l w (pred104 w) (Nat.le_refl _) hn hb (fun j hj i v hi => by
  have h := rowOf_at l j _ (getD!_of l j hj)
  generalize l[j]! = y at h hi
  match i, hi with
  | 0, hi => simp [enc2] at hi; rw [← hi, Nat.zero_add, Nat.add_zero]; exact hc _ _ h.1
  | 1, hi => simp [enc2] at hi; rw [← hi, Nat.zero_add]; exact hc _ _ h.2
  | i + 2, hi => simp [enc2] at hi)
 rw [List.take_length] at hcon
 refine hcon.mono ?_
 rintro e w' ⟨rfl, hb'⟩
 refine ⟨hb', ?_⟩
 rcases idxByFrom_spec (fun _ y : S64 => decide (y.f1 < y.f0)) default l 0 with ⟨e1, ha⟩ | ⟨k, hk, e1, ht, ha⟩
 ·refine .inl ⟨by unfold Lib.idxBy; rw [e1], fun r hr => ?_⟩
  obtain ⟨j, hj, rfl⟩ := List.getElem_of_mem hr
  have := ha j hj
  rw [getElem!_pos l j hj] at this
  simpa using this
 ·refine .inr ⟨k, l[k]!, hk, by unfold Lib.idxBy; rw [e1, Nat.zero_add], getD!_of l k hk, by simpa using ht, fun j y hj hy => ?_⟩
  have := ha j hj
  rw [getD!_of l j (by omega)] at hy
  obtain rfl := Option.some.inj hy
  simpa using this
theorem rowOf_take (D : List S64) (i : Nat) (h : i ≤ D.length) : (rowOf D).take (i * 2) = rowOf (D.take i) := by
 have e : rowOf D = rowOf (D.take i) ++ rowOf (D.drop i) := by
  conv => lhs; rw [← List.take_append_drop i D]
  simp only [rowOf, List.flatMap_append]
 rw [e, List.take_left' (by rw [rowOf_length, List.length_take]; omega)]
theorem zs_spec (n : Nat) : (Builtin.zeroCells (Value.agg #[.int .i64 0, .int .i64 0]).cells n).toList.length = n * 2 ∧ ∀ u ∈ (Builtin.zeroCells (Value.agg #[.int .i64 0, .int .i64 0]).cells n).toList, u.oneCell' = true := by
 refine ⟨by simp [Builtin.zeroCells, Value.cells], fun u hu => ?_⟩
 simp only [Builtin.zeroCells, Array.toList_map, List.mem_map] at hu
 obtain ⟨k, _, rfl⟩ := hu
 rcases (show k % 2 = 0 ∨ k % 2 = 1 by omega) with e | e <;> simp [Value.cells, e] <;> rfl
theorem clear_run (w : World) (ty : TypeId) (g o n c : Nat) (hn : 0 < n) (hc : ∀ j, j < n * 2 → (w.cell? ⟨g, o + j, none⟩).isSome = true) (hf : ∀ j, j < n * 2 → w.frozen? ⟨g, o + j, none⟩ = false) :
  (Builtin.clear_ #[35] ty #[.slice (some ⟨g, o, none⟩) n c]).run Tryz.prog w = .ok (.tuple #[]) (w.setCells g o (Builtin.zeroCells (Value.agg #[.int .i64 0, .int .i64 0]).cells n).toList) := by
 have hz := zs_spec n
 have hv := Tryz.zeroValue39
 have hst := run_storeCells_cells (P := Tryz.prog) g o _ 0 w (by rw [hz.1]; simpa using hc) (by rw [hz.1]; simpa using hf) hz.2
 simp only [Nat.add_zero] at hst
 obtain ⟨m, rfl⟩ : ∃ m, n = m + 1 := ⟨n - 1, by omega⟩
 simp [Builtin.clear_, run_underlying Tryz.underlying35, hv, hst]
theorem setCells_row (g : Nat) (t : TypeId) (fr : Nat × Nat) : ∀ (vs : List Value) (o : Nat) (w : World) (cur : Array Value), w.heap[g]? = some (.cells cur t fr) →
  ∃ cur', (w.setCells g o vs).heap[g]? = some (.cells cur' t fr) ∧ cur'.size = cur.size ∧ ∀ k, k < o → cur'[k]? = cur[k]?
 | [], o, w, cur, h => ⟨cur, h, rfl, fun _ _ => rfl⟩
 | v :: vs, o, w, cur, h => by
  have h1 : (w.setCell ⟨g, o, none⟩ v).heap[g]? = some (.cells (cur.setIfInBounds o v) t fr) := by
   rw [Go.Sort.setCell_eq]
   simp [Go.Sort.mapBlock, Array.getElem?_modify, h, Go.Sort.onCells]
  obtain ⟨cur', h2, h3, h4⟩ := setCells_row g t fr vs (o + 1) _ _ h1
  refine ⟨cur', h2, by rw [h3]; simp, fun k hk => ?_⟩
  rw [h4 k (by omega), Array.getElem?_setIfInBounds, if_neg (by omega)]
theorem setCells_kept {w : World} {S : Nat → Prop} (g : Nat) (hg : S g) : ∀ (vs : List Value) (o : Nat) (W : World), Kept w W S → Kept w (W.setCells g o vs) S
 | [], _, _, h => h
 | v :: vs, o, W, h => setCells_kept g hg vs (o + 1) _ (h.setCell (.inl hg) v)
theorem setCells_below {w : World} {B : Nat} (g : Nat) (hg : B ≤ g) : ∀ (vs : List Value) (o : Nat) (W : World), Below B w W → Below B w (W.setCells g o vs)
 | [], _, _, h => h
 | v :: vs, o, W, h => setCells_below g hg vs (o + 1) _ (h.setCell hg v)
set_option maxHeartbeats 2000000 in
set_option maxRecDepth 100000 in
theorem api_Range_103.calls (P0_ : Nat → Prop) (u9000_ : Value) (l0 : List S64) (r : List S64) (w0 w : World) (hB : Below w0.heap.size w0 w) (ho0 : Kd.R k64 39 w w0.heap.size P0_ u9000_ l0) (h : api_Range_103.f l0 = some r) :
  Calls Tryz.prog 155 #[u9000_, .func (.func 156) #[] #[]] w fun e w' => ∃ v0_ : Value, e = .returned v0_ ∧ Kd.R k64 39 w' w0.heap.size (fun k_ => (P0_ k_ ∨ w.heap.size ≤ k_)) v0_ r ∧ Below w0.heap.size w0 w' ∧ Kept w w' (fun k_ => P0_ k_) := by
 obtain rfl := Option.some.inj h
 clear h
 have hown := own_of_R ho0
 have hok := ho0.1
 rcases hown.2 with ⟨rfl, h0⟩ | ⟨g, cap, cur, rfl, hg, hblk, hle, hcap, hsz, htake⟩
 ·obtain rfl : l0 = [] := List.length_eq_zero_iff.1 h0
  clear hown hok ho0 h0
  go_enter Tryz.func155, Tryz.ntmps155
  go_wp2_with (go_at_call 194; refine (index_nil _).mono ?_; rintro e w' ⟨rfl, rfl⟩)
  go_ret
  exact ⟨_, rfl, Kd.R_nil _ _ _ _ _, hB, Kept.refl _ _⟩
 ·have hlt : g < w.heap.size := (Array.getElem?_eq_some_iff.1 hblk).1
  have hcap' : cap ≤ 9223372036854775807 := by unfold maxLen at hcap; exact hcap
  have hcell : ∀ k u, (rowOf l0)[k]? = some u → w.cell? ⟨g, k, none⟩ = some u := fun k u hu => by
   have := hown.cells (g := g) rfl k u hu
   rwa [add_plain] at this
  have hIF := index101 g cap l0 w hlt (by omega) hcell
  have HW := Lib.hid hown
  have HB0 := Lib.hid hB
  have HO := Lib.hid hok
  have HT := Lib.hid htake
  have HS := Lib.hid hsz
  have HK := Lib.hid hblk
  have HP := Lib.hid ho0
  clear hown hB hok htake hsz hblk ho0 hcell
  go_enter Tryz.func155, Tryz.ntmps155
  go_wp2_with fail
  refine hIF.mono ?_
  rintro e w1 ⟨hb1, h⟩
  have HR1 : Kd.R k64 39 w1 w0.heap.size (fun k_ => (P0_ k_ ∨ w.heap.size ≤ k_)) (.slice (some ⟨g, 0, none⟩) l0.length cap) l0 := R_of_own (pw_own_below HW.out hb1) (fun k hk => .inl (HO.out k hk))
  have HB1 : Below w0.heap.size w0 w1 := below_then HB0.out HB0.out.size hb1
  have HK1 : Kept w w1 (fun k_ => P0_ k_) := Kept.of_below hb1 _
  have AR1 := Lib.hid HR1
  have AB1 := Lib.hid HB1
  have AK1 := Lib.hid HK1
  clear HR1 HB1 HK1 hb1 hIF
  rcases h with ⟨rfl, hall⟩ | ⟨k0, x0, hk0, rfl, hx0, hd0, ha0⟩
  ·clear HT HS HK HP
   go_wp2
   go_ret
   refine ⟨_, rfl, ?_, AB1.out, AK1.out⟩
   rw [List.filter_eq_self.2 (fun r hr => decide_eq_true (hall r hr))]
   exact AR1.out
  ·have AX := Lib.hid hx0
   have AD := Lib.hid hd0
   have AH := Lib.hid ha0
   have hne : ((k0 : Int) == -1) = false := beq_eq_false_iff_ne.2 (by omega)
   clear hx0 hd0 ha0
   go_wp2_with fail
   go_loopg [5, 6, 7] l0.length (fun gg s5 s6 _ wr => ∃ (i j : Nat) (D : List S64), s5 = .int .i64 i ∧ s6 = .int .i64 j ∧ j ≤ l0.length ∧ l0.length - j ≤ gg ∧ Aside0 (Half l0 D i j) ∧ Aside0 (Kd.R k64 39 wr w0.heap.size (fun k_ => (P0_ k_ ∨ w.heap.size ≤ k_)) (.slice (some ⟨g, 0, none⟩) l0.length cap) D) ∧ Aside0 (Kept w wr (fun k_ => P0_ k_)) ∧ Aside0 (Below w0.heap.size w0 wr))
   case atStart => exact ⟨k0, k0 + 1, l0, rfl, by go_num, by omega, by omega, ⟨Half.start hk0 x0 AX.out (by have := AD.out; omega) AH.out⟩, ⟨AR1.out⟩, ⟨AK1.out⟩, ⟨AB1.out⟩⟩
   case round =>
    obtain ⟨i, j, D, rfl, rfl, hj, hgg, HH, HR, HKP, HBL⟩ := hrel
    have hij := HH.out.lt
    clear AX AD AH hne hk0
    have hown2 := own_of_R HR.out
    have hlen := HH.out.len
    have hg2 : g < wr.heap.size := (hown2.lt g rfl).2
    have hcells : ∀ k x, D[k]? = some x → wr.cell? ⟨g, k * 2, none⟩ = some (.int .i64 x.f0) ∧ wr.cell? ⟨g, k * 2 + 1, none⟩ = some (.int .i64 x.f1) := fun k x hx => by
     have h := rowOf_at D k x hx
     have a := hown2.cells (g := g) rfl _ _ h.1
     have b := hown2.cells (g := g) rfl _ _ h.2
     rw [add_plain] at a b
     exact ⟨a, b⟩
    have hfr : ∀ k, wr.frozen? ⟨g, k, none⟩ = false := fun k => by
     rcases hown2.2 with ⟨e, _⟩ | ⟨g', cap', cur', e, _, hb', _⟩
     ·cases e
     ·simp at e
      obtain ⟨rfl, _⟩ := e
      simp [World.frozen?, hb']
    by_cases hlj : j < l0.length
    ·obtain ⟨x, hx⟩ : ∃ x, l0[j]? = some x := ⟨_, List.getElem?_eq_getElem hlj⟩
     obtain ⟨y, hy⟩ : ∃ y, D[i]? = some y := ⟨_, List.getElem?_eq_getElem (by omega)⟩
     obtain ⟨a1, a2⟩ := hcells j x ((HH.out.at_ hlj).trans hx)
     obtain ⟨b1, b2⟩ := hcells i y hy
     have f1 := hfr (i * 2)
     have f2 := hfr (i * 2 + 1)
     have hjz : (j : Int) < (l0.length : Int) := by omega
     have hiz : (i : Int) < (l0.length : Int) := by omega
     have AX := Lib.hid hx
     have AL := Lib.hid hlen
     have AO := Lib.hid hown2
     by_cases hd : x.f0 ≤ x.f1
     ·have hc : ∀ W, Calls Tryz.prog 156 #[.agg #[.int .i64 x.f0, .int .i64 x.f1]] W fun e w' => e = .returned (.bool false) ∧ w' = W.alloc (.cells #[.int .i64 x.f0, .int .i64 x.f1] 39) := fun W => by
       have := closure104 x W
       rwa [show decide (x.f1 < x.f0) = false from decide_eq_false (by omega)] at this
      have AD := Lib.hid hd
      clear hx hy hlen hown2 hcells hfr hd
      go_wp2_with (go_at_call 156; refine (hc _).mono ?_; rintro e w' ⟨rfl, rfl⟩)
      go_roundg (l0.length - (j + 1))
      case measure => omega
      case rel =>
       have hi : i < D.length := by have := AL.out; omega
       have HX := HR.out
       obtain ⟨ce, hcl, hM, hcc, hfr⟩ := Kd.R_elem HX z64 (i : Int) (by omega) (by omega)
       obtain ⟨ca, cb, rfl⟩ : ∃ ca cb, ce = [ca, cb] := by
        match ce, hcl with
        | [ca, cb], _ => exact ⟨ca, cb, rfl⟩
       have HP := Kd.R_seg HX (i : Int) (by omega) (by omega) (seg := [.int .i64 x.f0, .int .i64 x.f1]) (j := 0) hcl hcc (show 2 ≤ 2 from by decide) (x' := x) (k64_mkM _ _ _ x) (fun _ hk => hk)
       refine ⟨i + 1, j + 1, D.set i x, by go_num, by go_num, by omega, Nat.le_refl _, ⟨HH.out.keep hlj x AX.out AD.out⟩, ⟨?_⟩, ⟨?_⟩, ⟨?_⟩⟩
       ·have := HP.1
        rw [Int.toNat_natCast] at this
        exact rA (rA this _) _
       ·have hgP : P0_ g := HO.out g rfl
        exact (((HKP.out.setCell (p := ⟨g, _, none⟩) (.inl hgP) _).setCell (p := ⟨g, _, none⟩) (.inl hgP) _).alloc _).alloc _
       ·have h1 := (HBL.out.setCell (p := ⟨g, i * 2, none⟩) hg (.int .i64 x.f0)).setCell (p := ⟨g, i * 2 + 1, none⟩) hg (.int .i64 x.f1)
        exact (h1.alloc h1.size _).alloc (by have := h1.size; simp at this ⊢; omega) _
     ·have hc : ∀ W, Calls Tryz.prog 156 #[.agg #[.int .i64 x.f0, .int .i64 x.f1]] W fun e w' => e = .returned (.bool true) ∧ w' = W.alloc (.cells #[.int .i64 x.f0, .int .i64 x.f1] 39) := fun W => by
       have := closure104 x W
       rwa [show decide (x.f1 < x.f0) = true from decide_eq_true (by omega)] at this
      have AD := Lib.hid hd
      clear hx hy hlen hown2 hcells hfr hd
      go_wp2_with (go_at_call 156; refine (hc _).mono ?_; rintro e w' ⟨rfl, rfl⟩)
      go_roundg (l0.length - (j + 1))
      case measure => omega
      case rel =>
       refine ⟨i, j + 1, D, rfl, by go_num, by omega, Nat.le_refl _, ⟨HH.out.skip hlj x AX.out (by have := AD.out; omega)⟩, ⟨rA (rA HR.out _) _⟩, ⟨(HKP.out.alloc _).alloc _⟩, ⟨(HBL.out.alloc HBL.out.size _).alloc (by have := HBL.out.size; simp; omega) _⟩⟩
    ·obtain rfl : j = l0.length := by omega
     have hcl := fun ty => clear_run wr ty g (i * 2) (l0.length - i) (cap - i) (by omega) (fun k hk => by
      have hj2 : (i * 2 + k) / 2 < D.length := by omega
      obtain ⟨a, b⟩ := hcells ((i * 2 + k) / 2) _ (List.getElem?_eq_getElem hj2)
      rcases (show i * 2 + k = (i * 2 + k) / 2 * 2 ∨ i * 2 + k = (i * 2 + k) / 2 * 2 + 1 by omega) with e | e
      ·rw [e, a]; rfl
      ·rw [e, b]; rfl) (fun k _ => hfr _)
     have hjz : ¬ (l0.length : Int) < (l0.length : Int) := by omega
     have hiz : (i : Int) ≤ (l0.length : Int) := by omega
     have AO := Lib.hid hown2
     have AL := Lib.hid hlen
     clear hown2 hcells hfr hlen
     go_wp2
     go_ret
     have hgP : P0_ g := HO.out g rfl
     have hkept := HH.out.low
     rw [List.take_length] at hkept
     have hil : i = (l0.filter fun r => decide (r.f0 ≤ r.f1)).length := by rw [← hkept, List.length_take, AL.out]; omega
     refine ⟨_, rfl, ?_, setCells_below g hg _ _ _ HBL.out, setCells_kept g hgP _ _ _ HKP.out⟩
     rcases AO.out.2 with ⟨e, _⟩ | ⟨g', cap', cur', e, _, hb', _, hc', hs', ht'⟩
     ·cases e
     ·simp at e
      obtain ⟨rfl, _, rfl⟩ := e
      obtain ⟨cur2, h2, h3, h4⟩ := setCells_row g 39 (0, 0) (Builtin.zeroCells (Value.agg #[.int .i64 0, .int .i64 0]).cells (l0.length - i)).toList (i * 2) wr cur' hb'
      refine R_of_own ⟨by rw [rowOf_length], .inr ⟨g, cap, cur2, ?_, hg, h2, ?_, hc', by rw [h3]; exact hs', ?_⟩⟩ (fun k hk => .inl (HO.out k hk))
      ·rw [← hil]; simp
      ·omega
      ·rw [← hil]
       have e1 : cur2.toList.take (i * 2) = cur'.toList.take (i * 2) := by
        apply List.ext_getElem?
        intro k
        rw [List.getElem?_take, List.getElem?_take]
        split
        ·have := h4 k (by assumption)
         simpa using this
        ·rfl
       rw [e1, ← hkept, ← rowOf_take D i (by rw [AL.out]; omega), ← ht', List.take_take, Nat.min_eq_left (by omega)]
end Go.Proofs.YtamhkdlcoghdbaaGreatDoor.PCls
