/- Put together (wip/tools/pack.py): QZLOne, QLOne, QZGTwo, QZLRef, QZPClsx22, QZLSpoil, QZLawKit. -/
import Derived.Test.YtamhkdlcoghdbaaGreatDoorKMQZPClsx5
import Derived.Lib.AppendZerosOnto
import Derived.Lib.AppendZeros
import Derived.Laws.CopyRow
/- Out of ZLOne (wip/tools/prune2.py): the declarations alone that the texts of the trees name. -/
namespace Go.Proofs.YtamhkdlcoghdbaaGreatDoor.PCls
open Go.RowKit Go.Proofs.YtamhkdlcoghdbaaGreatDoorW.PrintWords Go.Proofs.YtamhkdlcoghdbaaGreatDoorW.PrintLast Go.Proofs.YtamhkdlcoghdbaaGreatDoorW.PrintMore
set_option linter.unusedVariables false
set_option linter.unusedSimpArgs false
theorem inR_iff (l : List S64) : inR l = true ↔ ∀ r, r ∈ l → -9223372036854775808 ≤ r.f0 ∧ r.f0 ≤ 9223372036854775807 ∧ -9223372036854775808 ≤ r.f1 ∧ r.f1 ≤ 9223372036854775807 := by
 unfold inR
 rw [List.all_eq_true]
 constructor
 ·intro h r hr
  have := h r hr
  simp at this
  omega
 ·intro h r hr
  have := h r hr
  simp
  omega
theorem rd_at (l : List S64) (i : Nat) (h : i < l.length) : rd_T64 l (i : Int) = l[i] := by
 unfold rd_T64
 rw [Int.toNat_natCast, List.getD_eq_getElem?_getD, List.getElem?_eq_getElem h]
 rfl
theorem rd_last (a : List S64) (x : S64) : rd_T64 (a ++ [x]) (a.length : Int) = x := by
 rw [rd_at _ _ (by simp)]
 simp
theorem w64_lit (n : Int) (h0 : -9223372036854775808 ≤ n) (h1 : n ≤ 9223372036854775807) : wrap64 n = n := by
 unfold wrap64
 omega
theorem put_snoc (a : List S64) (x r : S64) : Cls.put (a ++ [x]) r = if r.f0 ≤ x.f1 + 1 then a ++ [⟨x.f0, max x.f1 r.f1⟩] else a ++ [x] ++ [r] := by
 unfold Cls.put
 simp
theorem joined_loop (l : List S64) (hl : l.length < 8796093022208) (hin : inR l = true) (hn : ∀ r, r ∈ l → r.f0 ≤ r.f1) (hs : l.Pairwise (fun r s => r.f0 ≤ s.f0)) :
  ∀ (d k i : Nat) (out : List S64), i + d = l.length → d < k → out.length ≤ i → Cls.Can out → (∀ x, x ∈ out → -9223372036854775808 ≤ x.f1) → (∀ x, out.getLast? = some x → ∀ r, r ∈ l.drop i → x.f0 ≤ r.f0) →
   classes_joined.l0 k out l (l.length : Int) (i : Int) = some (Cls.mrg out (l.drop i)) := by
 intro d
 induction d with
 | zero =>
  intro k i out hd hk ho hc hoR hx
  obtain ⟨k, rfl⟩ : ∃ m, k = m + 1 := ⟨k - 1, by omega⟩
  simp only [classes_joined.l0]
  rw [if_neg (by omega), List.drop_of_length_le (by omega)]
  rfl
 | succ d ih =>
  intro k i out hd hk ho hc hoR hx
  obtain ⟨k, rfl⟩ : ∃ m, k = m + 1 := ⟨k - 1, by omega⟩
  have hil : i < l.length := by omega
  have hrm : l[i] ∈ l := List.getElem_mem hil
  have hr := hn _ hrm
  have hrR := (inR_iff l).1 hin _ hrm
  have hdrop : l.drop i = l[i] :: l.drop (i + 1) := List.drop_eq_getElem_cons hil
  have hmrg : Cls.mrg out (l.drop i) = Cls.mrg (Cls.put out l[i]) (l.drop (i + 1)) := by rw [hdrop]; rfl
  have hl1 : ∀ x, out.getLast? = some x → x.f0 ≤ l[i].f0 := fun x h => hx x h _ (by rw [hdrop]; exact List.mem_cons_self)
  have hnext : ∀ x, (Cls.put out l[i]).getLast? = some x → ∀ r, r ∈ l.drop (i + 1) → x.f0 ≤ r.f0 := fun x h r hr' => by
   have h1 := Cls.put_last out l[i] hl1 x h
   have hp : (l.drop i).Pairwise (fun r s => r.f0 ≤ s.f0) := hs.sublist (List.drop_sublist i l)
   rw [hdrop] at hp
   exact Int.le_trans h1 ((List.pairwise_cons.1 hp).1 r hr')
  have hcn := Cls.put_can out l[i] hc hr hl1
  have hw : wrap64 ((i : Int) + 1) = ((i + 1 : Nat) : Int) := by rw [w64_lit _ (by omega) (by omega)]; omega
  have hput : (Cls.put out l[i]).length ≤ i + 1 := by
   rcases List.eq_nil_or_concat out with rfl | ⟨a, x, rfl⟩
   ·simp [Cls.put]
   ·rw [List.concat_eq_append] at *
    rw [put_snoc]
    simp at ho
    split <;> simp <;> omega
  have hputR : ∀ x, x ∈ Cls.put out l[i] → -9223372036854775808 ≤ x.f1 := by
   intro y hy
   rcases List.eq_nil_or_concat out with rfl | ⟨a, x, rfl⟩
   ·simp [Cls.put] at hy
    subst hy
    omega
   ·rw [List.concat_eq_append] at *
    rw [put_snoc] at hy
    split at hy
    ·rcases List.mem_append.1 hy with hy | hy
     ·exact hoR y (by simp [hy])
     ·have := hoR x (by simp)
      simp at hy
      subst hy
      simp only
      omega
    ·rcases List.mem_append.1 hy with hy | hy
     ·exact hoR y hy
     ·simp at hy
      subst hy
      omega
  have hih := ih k (i + 1) (Cls.put out l[i]) (by omega) (by omega) hput hcn hputR hnext
  rw [hmrg, ← hih]
  simp only [classes_joined.l0]
  rw [if_pos (by omega), if_pos (by omega), if_pos (by omega), rd_at l i hil, hw]
  rcases List.eq_nil_or_concat out with rfl | ⟨a, x, rfl⟩
  ·rw [if_neg (by simp), if_pos (by simp)]
   simp [Cls.put]
  ·rw [List.concat_eq_append] at *
   have hxl := hl1 x (by simp)
   have hxc := ((Cls.can_append_iff a x).1 hc).2.1
   have hxR := hoR x (by simp)
   have hal : ((a ++ [x]).length : Int) = (a.length : Int) + 1 := by simp
   have ho' : a.length + 1 ≤ i := by simpa using ho
   rw [put_snoc, hal, if_pos (by omega), w64_lit _ (by omega) (by omega), show (a.length : Int) + 1 - 1 = (a.length : Int) by omega, if_pos (by omega), if_pos (by omega), rd_last]
   have hset : ∀ y, (a ++ [x]).set ((a.length : Int)).toNat y = a ++ [y] := fun y => by rw [Int.toNat_natCast]; simp
   have hmx : mx x.f1 l[i].f1 = max x.f1 l[i].f1 := by unfold mx; omega
   rw [hset, hmx]
   by_cases h1 : l[i].f0 ≤ x.f1
   ·rw [if_pos h1, if_pos (by omega)]
   ·rw [if_neg h1]
    have hwr : wrap64 (l[i].f0 - 1) = l[i].f0 - 1 := w64_lit _ (by omega) (by omega)
    rw [hwr]
    by_cases h2 : l[i].f0 - 1 = x.f1
    ·rw [if_pos h2, if_pos (by omega)]
    ·rw [if_neg h2, if_pos (show (a ++ [x]).length < 8796093022208 by simp; omega), if_neg (show ¬ (l[i].f0 ≤ x.f1 + 1) by omega)]
theorem joined_f (l : List S64) (hl : l.length < 8796093022208) (hin : inR l = true) : ∃ k, ∀ k', k ≤ k' → classes_joined.f k' l = some (Cls.cls l) := by
 refine ⟨l.length + 1, fun k' hk => ?_⟩
 obtain ⟨t, ht⟩ : ∃ t, t = l.filter fun r => decide (r.f0 ≤ r.f1) := ⟨_, rfl⟩
 have htl : t.length ≤ l.length := by rw [ht]; exact List.length_filter_le _ _
 obtain ⟨D, hD⟩ : ∃ D, D = Go.Sort.pdq (Go.Proofs.ltOf byLo) t.toArray 0 t.length (Lib.bitLen t.length) true true := ⟨_, rfl⟩
 have hp := Go.Sort.pdq_sorts (ltOf byLo) swo_byLo t.toArray 0 t.length (Lib.bitLen t.length) true true (Nat.zero_le _) (by simp) (Or.inl rfl)
 rw [← hD] at hp
 have hsz : D.size = t.length := by rw [hp.1.1]; simp
 obtain ⟨s, hs⟩ : ∃ s, s = D.toList := ⟨_, rfl⟩
 have hperm : s.Perm t := by
  have h3 := hp.1.2.2
  rw [hs]
  have e1 : D.extract 0 t.length = D := by rw [← hsz]; simp
  rw [e1] at h3
  simpa using h3
 have hsort : s.Pairwise (fun r s => r.f0 ≤ s.f0) := by
  rw [List.pairwise_iff_getElem]
  intro i j hi hj hij
  have h2 := hp.2 i j (Nat.zero_le _) hij (by rw [← hperm.length_eq]; exact hj)
  rw [ltOf_byLo] at h2
  subst hs
  rw [getElem!_pos D i (by simpa using hi), getElem!_pos D j (by simpa using hj)] at h2
  simpa using h2
 have hsl : s.length = t.length := hperm.length_eq
 have hmem : ∀ r, r ∈ s → r ∈ l ∧ r.f0 ≤ r.f1 := fun r hr => by
  have := hperm.mem_iff.1 hr
  rw [ht] at this
  have := List.mem_filter.1 this
  exact ⟨this.1, by simpa using this.2⟩
 have hin' : inR s = true := (inR_iff s).2 fun r hr => (inR_iff l).1 hin r (hmem r hr).1
 have hloop := joined_loop s (by omega) hin' (fun r hr => (hmem r hr).2) hsort s.length k' 0 [] (by omega) (by omega) (by simp) Cls.can_nil (fun x h => by simp at h) (fun x h => by simp at h)
 have hcls : Cls.mrg [] s = Cls.cls l := by
  have h := Cls.mrg_of_sorted l s (by rw [← ht]; exact hperm) hsort
  exact Cls.cls_unique h.1 h.2
 unfold classes_joined.f api_Range_103.f api_Range_105.f
 simp only [Option.bind_some]
 rw [← ht, if_pos (by omega)]
 simp only [Option.bind_some]
 rw [← hD, ← hs, ← hsl]
 simp only [List.drop_zero] at hloop
 rw [hcls] at hloop
 exact hloop
end Go.Proofs.YtamhkdlcoghdbaaGreatDoor.PCls
namespace Go.Proofs.YtamhkdlcoghdbaaGreatDoor.PCls
open Go.RowKit Go.Proofs.YtamhkdlcoghdbaaGreatDoorW.PrintWords Go.Proofs.YtamhkdlcoghdbaaGreatDoorW.PrintLast Go.Proofs.YtamhkdlcoghdbaaGreatDoorW.PrintMore
set_option linter.unusedVariables false
set_option linter.unusedSimpArgs false
/-- A function with rounds comes to an answer, with enough of them. -/
def Ends {α : Type} (f : Nat → Option α) (r : α) : Prop := ∃ k, ∀ k', k ≤ k' → f k' = some r
theorem Ends.of {α : Type} {f : Nat → Option α} {r : α} {x : Option α} (h : x = some r) (hf : ∀ k, f k = x) : Ends f r := ⟨0, fun k' _ => (hf k').trans h⟩
theorem Ends.some_ {α : Type} (r : α) : Ends (fun _ => some r) r := ⟨0, fun _ _ => rfl⟩
theorem Ends.bind {α β : Type} {f : Nat → Option α} {g : Nat → α → Option β} {a : α} {b : β} (hf : Ends f a) (hg : Ends (fun k => g k a) b) : Ends (fun k => (f k).bind (g k)) b := by
 obtain ⟨k1, h1⟩ := hf
 obtain ⟨k2, h2⟩ := hg
 exact ⟨max k1 k2, fun k' hk => by show (f k').bind (g k') = some b; rw [h1 k' (by omega), Option.bind_some]; exact h2 k' (by omega)⟩
theorem Ends.get {α : Type} {f : Nat → Option α} {r : α} (h : Ends f r) : ∃ k, f k = some r := by
 obtain ⟨k, hk⟩ := h
 exact ⟨k, hk k (Nat.le_refl _)⟩
theorem joined_ends (l : List S64) (hl : l.length < 8796093022208) (hin : inR l = true) : Ends (fun k => classes_joined.f k l) (Cls.cls l) := joined_f l hl hin
theorem class_ends (l : List S64) (hl : l.length < 8796093022208) (hin : inR l = true) : Ends (fun k => classes_class.f k l) (Cls.cls l) := by
 unfold classes_class.f api_Range_89.f
 rw [if_pos hl]
 simp only [Option.bind_some]
 exact Ends.bind (joined_ends l hl hin) (Ends.some_ _)
theorem mrg_length (l : List S64) : ∀ out : List S64, (Cls.mrg out l).length ≤ out.length + l.length := by
 induction l with
 | nil => intro out; simp [Cls.mrg]
 | cons r l ih =>
  intro out
  have h := ih (Cls.put out r)
  have hp : (Cls.put out r).length ≤ out.length + 1 := by
   rcases List.eq_nil_or_concat out with rfl | ⟨a, x, rfl⟩
   ·simp [Cls.put]
   ·rw [List.concat_eq_append, put_snoc]
    split <;> simp
  have e : Cls.mrg out (r :: l) = Cls.mrg (Cls.put out r) l := rfl
  rw [e, List.length_cons]
  omega
theorem cls_length (l : List S64) : (Cls.cls l).length ≤ l.length := by
 have h := mrg_length ((l.filter fun r => decide (r.f0 ≤ r.f1)).mergeSort fun a b => decide (a.f0 ≤ b.f0)) []
 have h2 := List.length_filter_le (fun r : S64 => decide (r.f0 ≤ r.f1)) l
 unfold Cls.cls
 simp at h
 omega
theorem inR_append (a b : List S64) : inR (a ++ b) = true ↔ inR a = true ∧ inR b = true := by
 unfold inR
 rw [List.all_append, Bool.and_eq_true]
theorem rd_zero (r : S64) (l : List S64) : rd_T64 (r :: l) 0 = r := rfl
theorem and_loop : ∀ (n k : Nat) (a b out : List S64), a.length + b.length = n → 2 * n + 2 < k → out.length + n < 8796093022208 →
  classes_And.l0 k a b out = some (out ++ Cls.inter a b) := by
 intro n
 induction n with
 | zero =>
  intro k a b out hn hk ho
  obtain ⟨k, rfl⟩ : ∃ m, k = m + 2 := ⟨k - 2, by omega⟩
  have ha : a = [] := List.length_eq_zero_iff.1 (by omega)
  subst ha
  simp only [classes_And.l0]
  rw [if_neg (by simp)]
  simp [classes_And.j1, Cls.inter]
 | succ n ih =>
  intro k a b out hn hk ho
  obtain ⟨k, rfl⟩ : ∃ m, k = m + 2 := ⟨k - 2, by omega⟩
  match a, b with
  | [], b =>
   simp only [classes_And.l0]
   rw [if_neg (by simp)]
   simp [classes_And.j1, Cls.inter]
  | r :: a, [] =>
   simp only [classes_And.l0]
   rw [if_pos (by simp)]
   simp [classes_And.j1, Cls.inter]
  | r :: a, s :: b =>
   have hd1 : ∀ (x : S64) (l : List S64), (x :: l).drop ((1 : Int)).toNat = l := fun _ _ => rfl
   simp only [classes_And.l0]
   rw [if_pos (by simp)]
   have e1 : decide (((s :: b).length : Int) > 0) = true := decide_eq_true (by simp)
   rw [e1]
   simp only [classes_And.j1]
   rw [if_pos True.intro, if_pos (by simp), if_pos (by simp), rd_zero, rd_zero]
   have hmx : mx r.f0 s.f0 = max r.f0 s.f0 := by unfold mx; omega
   have hmn : mn r.f1 s.f1 = min r.f1 s.f1 := by unfold mn; omega
   have hA : (1 : Int) ≤ ((r :: a).length : Int) := by simp; omega
   have hB : (1 : Int) ≤ ((s :: b).length : Int) := by simp; omega
   rw [hmx, hmn, hd1, hd1]
   simp at hn
   rw [Cls.inter]
   by_cases h1 : max r.f0 s.f0 ≤ min r.f1 s.f1
   ·rw [if_pos h1, if_pos h1, if_pos (by omega)]
    simp only [Option.bind_some]
    by_cases h2 : r.f1 < s.f1
    ·rw [if_pos h2, if_pos h2, if_pos hA, ih k a (s :: b) _ (by simp; omega) (by omega) (by simp; omega), List.append_assoc]
    ·rw [if_neg h2, if_neg h2, if_pos hB, ih k (r :: a) b _ (by simp; omega) (by omega) (by simp; omega), List.append_assoc]
   ·rw [if_neg h1, if_neg h1]
    by_cases h2 : r.f1 < s.f1
    ·rw [if_pos h2, if_pos h2, if_pos hA, ih k a (s :: b) _ (by simp; omega) (by omega) (by omega), List.nil_append]
    ·rw [if_neg h2, if_neg h2, if_pos hB, ih k (r :: a) b _ (by simp; omega) (by omega) (by omega), List.nil_append]
def Cls.and_ (a b : List S64) : List S64 := Cls.inter (Cls.cls a) (Cls.cls b)
theorem Cls.and_can (a b : List S64) : Cls.Can (Cls.and_ a b) := Cls.inter_can _ _ (Cls.cls_can a) (Cls.cls_can b)
theorem Cls.and_mem (a b : List S64) (c : Int) : Cls.Mem (Cls.and_ a b) c ↔ Cls.Mem a c ∧ Cls.Mem b c := by
 unfold Cls.and_
 rw [Cls.inter_mem _ _ (Cls.cls_can a) (Cls.cls_can b), Cls.cls_mem, Cls.cls_mem]
theorem and_ends (a b : List S64) (hl : a.length + b.length < 8796093022208) (ha : inR a = true) (hb : inR b = true) : Ends (fun k => classes_And.f k a b) (Cls.and_ a b) := by
 unfold classes_And.f
 refine Ends.bind (class_ends a (by omega) ha) (Ends.bind (class_ends b (by omega) hb) ?_)
 have h1 := cls_length a
 have h2 := cls_length b
 exact ⟨2 * ((Cls.cls a).length + (Cls.cls b).length) + 3, fun k' hk => by
  show classes_And.l0 k' (Cls.cls a) (Cls.cls b) [] = some (Cls.and_ a b)
  rw [and_loop _ k' _ _ [] rfl (by omega) (by simp; omega), List.nil_append]; rfl⟩
end Go.Proofs.YtamhkdlcoghdbaaGreatDoor.PCls
namespace Go.Proofs.YtamhkdlcoghdbaaGreatDoor.PCls
open Go.RowKit Go.Proofs.YtamhkdlcoghdbaaGreatDoorW.PrintWords Go.Proofs.YtamhkdlcoghdbaaGreatDoorW.PrintLast Go.Proofs.YtamhkdlcoghdbaaGreatDoorW.PrintMore
set_option linter.unusedVariables false
set_option linter.unusedSimpArgs false
theorem rd_mid (p : List S64) (x : S64) (s : List S64) : rd_T64 (p ++ x :: s) (p.length : Int) = x := by
 rw [rd_at _ _ (by simp)]
 simp
theorem set_mid (p : List S64) (x y : S64) (s : List S64) : (p ++ x :: s).set ((p.length : Int)).toNat y = p ++ y :: s := by
 rw [Int.toNat_natCast]
 simp
theorem moved_loop (d : Int) (hd : -32 ≤ d ∧ d ≤ 32) : ∀ (s p : List S64) (k n : Nat), s.length < k → n = p.length + s.length → n < 8796093022208 → (∀ x, x ∈ s → 0 ≤ x.f0 ∧ x.f0 ≤ 1000 ∧ 0 ≤ x.f1 ∧ x.f1 ≤ 1000) →
  classes_moved.l0 k d (p ++ s) (n : Int) (p.length : Int) = some (p ++ Cls.shift s d) := by
 intro s
 induction s with
 | nil =>
  intro p k n hk hn hl hx
  obtain ⟨k, rfl⟩ : ∃ m, k = m + 1 := ⟨k - 1, by simp at hk; omega⟩
  simp at hn
  subst hn
  simp only [classes_moved.l0]
  rw [if_neg (by omega)]
  rfl
 | cons x s ih =>
  intro p k n hk hn hl hx
  obtain ⟨k, rfl⟩ : ∃ m, k = m + 1 := ⟨k - 1, by simp at hk; omega⟩
  simp at hn hk
  have h0 := hx x List.mem_cons_self
  have hl2 : (p.length : Int) < ((p ++ x :: s).length : Int) := by simp; omega
  simp only [classes_moved.l0]
  rw [if_pos (show (p.length : Int) < (n : Int) by omega), if_pos (by omega), if_pos hl2, Option.bind_some, rd_mid, set_mid, rd_mid, set_mid, w64_lit (x.f0 + d) (by omega) (by omega), w64_lit (x.f1 + d) (by omega) (by omega), w64_lit ((p.length : Int) + 1) (by omega) (by omega)]
  have h := ih (p ++ [⟨x.f0 + d, x.f1 + d⟩]) k n (by omega) (by simp; omega) hl (fun y hy => hx y (List.mem_cons_of_mem _ hy))
  simp only [List.append_assoc, List.singleton_append, List.length_append, List.length_cons, List.length_nil] at h
  rw [show ((p.length + (0 + 1) : Nat) : Int) = (p.length : Int) + 1 by omega] at h
  rw [h]
  simp [Cls.shift]
theorem can_count (hi : Int) : ∀ (l : List S64) (lo : Int), Cls.Can l → (∀ c, Cls.Mem l c → lo ≤ c ∧ c ≤ hi) → l.length ≤ (hi - lo + 1).toNat
 | [], _, _, _ => by simp
 | r :: l, lo, hc, h => by
  have hr := Cls.can_head hc
  have h0 := h r.f0 ((Cls.mem_cons ..).2 (.inl ⟨Int.le_refl _, hr⟩))
  have h1 := h r.f1 ((Cls.mem_cons ..).2 (.inl ⟨hr, Int.le_refl _⟩))
  have := can_count hi l (r.f1 + 1) (Cls.can_tail hc) fun c hm => ⟨by have := Cls.can_beyond hc hm; omega, (h c ((Cls.mem_cons ..).2 (.inr hm))).2⟩
  rw [List.length_cons]
  omega
theorem can_one (lo hi : Int) (h : lo ≤ hi) : Cls.Can [⟨lo, hi⟩] := by simp [Cls.Can, h]
theorem cls_of_can {l : List S64} (h : Cls.Can l) : Cls.cls l = l := (Cls.cls_unique h fun _ => Iff.rfl).symm
theorem mem_one (lo hi c : Int) : Cls.Mem [⟨lo, hi⟩] c ↔ lo ≤ c ∧ c ≤ hi := by
 rw [Cls.mem_cons]
 simp [Cls.mem_nil]
theorem moved_ends (l : List S64) (lo hi d : Int) (hl : l.length + 1 < 8796093022208) (hin : inR l = true) (hd : -32 ≤ d ∧ d ≤ 32) (h0 : 0 ≤ lo) (h1 : lo ≤ hi) (h2 : hi ≤ 1000) : Ends (fun k => classes_moved.f k l lo hi d) (Cls.shift (Cls.inter (Cls.cls l) [⟨lo, hi⟩]) d) := by
 unfold classes_moved.f
 have hb : inR [⟨lo, hi⟩] = true := (inR_iff _).2 fun r hr => by simp at hr; subst hr; simp only; omega
 have ha := and_ends l [⟨lo, hi⟩] hl hin hb
 have e : Cls.and_ l [⟨lo, hi⟩] = Cls.inter (Cls.cls l) [⟨lo, hi⟩] := by unfold Cls.and_; rw [cls_of_can (can_one lo hi h1)]
 rw [e] at ha
 refine Ends.bind ha ?_
 have hc : Cls.Can (Cls.inter (Cls.cls l) [⟨lo, hi⟩]) := by rw [← e]; exact Cls.and_can _ _
 have hm : ∀ c, Cls.Mem (Cls.inter (Cls.cls l) [⟨lo, hi⟩]) c → lo ≤ c ∧ c ≤ hi := fun c h => by rw [← e, Cls.and_mem, mem_one] at h; exact h.2
 have hcount := can_count hi _ lo hc hm
 refine ⟨(Cls.inter (Cls.cls l) [⟨lo, hi⟩]).length + 1, fun k' hk => ?_⟩
 have := moved_loop d hd (Cls.inter (Cls.cls l) [⟨lo, hi⟩]) [] k' (Cls.inter (Cls.cls l) [⟨lo, hi⟩]).length (by omega) (by simp) (by omega) (fun x hx => by
  have hle := hc.2 x hx
  have h3 := hm x.f0 ⟨x, hx, Int.le_refl _, hle⟩
  have h4 := hm x.f1 ⟨x, hx, hle, Int.le_refl _⟩
  omega)
 simpa using this
theorem shift_length (l : List S64) (d : Int) : (Cls.shift l d).length = l.length := by simp [Cls.shift]
theorem between_length (l : List S64) (lo hi : Int) (h1 : lo ≤ hi) : (Cls.inter (Cls.cls l) [⟨lo, hi⟩]).length ≤ (hi - lo + 1).toNat := by
 have e : Cls.and_ l [⟨lo, hi⟩] = Cls.inter (Cls.cls l) [⟨lo, hi⟩] := by unfold Cls.and_; rw [cls_of_can (can_one lo hi h1)]
 rw [← e]
 exact can_count hi _ lo (Cls.and_can _ _) fun c h => by rw [Cls.and_mem, mem_one] at h; exact h.2
theorem between_inR (l : List S64) (lo hi d : Int) (hd : -32 ≤ d ∧ d ≤ 32) (h0 : 0 ≤ lo) (h1 : lo ≤ hi) (h2 : hi ≤ 1000) : inR (Cls.shift (Cls.inter (Cls.cls l) [⟨lo, hi⟩]) d) = true := by
 have e : Cls.and_ l [⟨lo, hi⟩] = Cls.inter (Cls.cls l) [⟨lo, hi⟩] := by unfold Cls.and_; rw [cls_of_can (can_one lo hi h1)]
 rw [← e]
 refine (inR_iff _).2 fun r hr => ?_
 simp only [Cls.shift, List.mem_map] at hr
 obtain ⟨x, hx, rfl⟩ := hr
 have hle := (Cls.and_can l [⟨lo, hi⟩]).2 x hx
 have h3 := (Cls.and_mem l [⟨lo, hi⟩] x.f0).1 ⟨x, hx, Int.le_refl _, hle⟩
 have h4 := (Cls.and_mem l [⟨lo, hi⟩] x.f1).1 ⟨x, hx, hle, Int.le_refl _⟩
 rw [mem_one] at h3 h4
 simp only
 omega
/-- what Fold joins -/
def Cls.toFold (l : List S64) : List S64 := l ++ (Cls.shift (Cls.inter (Cls.cls l) [⟨65, 90⟩]) 32 ++ Cls.shift (Cls.inter (Cls.cls l) [⟨97, 122⟩]) (-32))
theorem toFold_inR (l : List S64) (h : inR l = true) : inR (Cls.toFold l) = true := by
 unfold Cls.toFold
 rw [inR_append, inR_append]
 exact ⟨h, between_inR _ _ _ _ (by omega) (by omega) (by omega) (by omega), between_inR _ _ _ _ (by omega) (by omega) (by omega) (by omega)⟩
theorem toFold_length (l : List S64) : (Cls.toFold l).length ≤ l.length + 52 := by
 unfold Cls.toFold
 rw [List.length_append, List.length_append, shift_length, shift_length]
 have h1 := between_length l 65 90 (by omega)
 have h2 := between_length l 97 122 (by omega)
 omega
theorem joined_fold (l : List S64) (hl : l.length + 64 < 8796093022208) (h : inR l = true) : Ends (fun k => classes_joined.f k (Cls.toFold l)) (Cls.fold l) :=
 joined_ends _ (by have := toFold_length l; omega) (toFold_inR l h)
theorem shift_mem (l : List S64) (d c : Int) : Cls.Mem (Cls.shift l d) c ↔ Cls.Mem l (c - d) := by
 constructor
 ·rintro ⟨r, hr, h0, h1⟩
  simp only [Cls.shift, List.mem_map] at hr
  obtain ⟨x, hx, rfl⟩ := hr
  simp only at h0 h1
  exact ⟨x, hx, by omega, by omega⟩
 ·rintro ⟨r, hr, h0, h1⟩
  exact ⟨⟨r.f0 + d, r.f1 + d⟩, by simp only [Cls.shift, List.mem_map]; exact ⟨r, hr, rfl⟩, by simp only; omega, by simp only; omega⟩
theorem Cls.fold_can (l : List S64) : Cls.Can (Cls.fold l) := Cls.cls_can _
theorem Cls.fold_mem (l : List S64) (c : Int) : Cls.Mem (Cls.fold l) c ↔ Cls.Mem l c ∨ (Cls.Mem l (c - 32) ∧ 65 ≤ c - 32 ∧ c - 32 ≤ 90) ∨ (Cls.Mem l (c + 32) ∧ 97 ≤ c + 32 ∧ c + 32 ≤ 122) := by
 unfold Cls.fold
 rw [Cls.cls_mem, Cls.mem_append, Cls.mem_append, shift_mem, shift_mem, Cls.inter_mem _ _ (Cls.cls_can l) (can_one _ _ (by omega)), Cls.inter_mem _ _ (Cls.cls_can l) (can_one _ _ (by omega)), Cls.cls_mem, Cls.cls_mem, mem_one, mem_one, show c - -32 = c + 32 by omega]
end Go.Proofs.YtamhkdlcoghdbaaGreatDoor.PCls
namespace Go.Proofs.YtamhkdlcoghdbaaGreatDoor.PCls
open Go.RowKit Go.Proofs.YtamhkdlcoghdbaaGreatDoorW.PrintWords Go.Proofs.YtamhkdlcoghdbaaGreatDoorW.PrintLast Go.Proofs.YtamhkdlcoghdbaaGreatDoorW.PrintMore
set_option linter.unusedVariables false
set_option linter.unusedSimpArgs false
end Go.Proofs.YtamhkdlcoghdbaaGreatDoor.PCls
namespace Go.Proofs.YtamhkdlcoghdbaaGreatDoor.PCls
open Go.RowKit Go.Proofs.YtamhkdlcoghdbaaGreatDoorW.PrintWords Go.Proofs.YtamhkdlcoghdbaaGreatDoorW.PrintLast Go.Proofs.YtamhkdlcoghdbaaGreatDoorW.PrintMore
set_option linter.unusedVariables false
set_option linter.unusedSimpArgs false
instance decS64 : DecidableEq S64 := fun a b => decidable_of_iff (a.f0 = b.f0 ∧ a.f1 = b.f1) (by cases a; cases b; simp)
def Cls.all (m : Bool) : List S64 := if m = true then [⟨0, 55295⟩, ⟨57344, 1114111⟩] else [⟨0, 255⟩]
theorem all_f (m : Bool) : classes_all.f m = some (Cls.all m) := by cases m <;> rfl
theorem all_inR (m : Bool) : inR (Cls.all m) = true := by cases m <;> decide
theorem all_length (m : Bool) : (Cls.all m).length ≤ 2 := by cases m <;> decide
def Cls.norm (l : List S64) (m : Bool) : List S64 := Cls.and_ l (Cls.all m)
theorem norm_ends (l : List S64) (m : Bool) (hl : l.length + 2 < 8796093022208) (h : inR l = true) : Ends (fun k => classes_Norm.f k l m) (Cls.norm l m) := by
 unfold classes_Norm.f
 rw [all_f]
 simp only [Option.bind_some]
 exact Ends.bind (and_ends l (Cls.all m) (by have := all_length m; omega) h (all_inR m)) (Ends.some_ _)
end Go.Proofs.YtamhkdlcoghdbaaGreatDoor.PCls
/- Out of LOne (wip/tools/prune2.py): the declarations alone that the texts of the trees name. -/
namespace Go.Proofs.YtamhkdlcoghdbaaGreatDoor.PCls
open Go.RowKit Go.Proofs.YtamhkdlcoghdbaaGreatDoorW.PrintWords Go.Proofs.YtamhkdlcoghdbaaGreatDoorW.PrintLast Go.Proofs.YtamhkdlcoghdbaaGreatDoorW.PrintMore
set_option linter.unusedVariables false
set_option linter.unusedSimpArgs false
end Go.Proofs.YtamhkdlcoghdbaaGreatDoor.PCls
namespace Go.Proofs.YtamhkdlcoghdbaaGreatDoor.PCls
open Go.RowKit Go.Proofs.YtamhkdlcoghdbaaGreatDoorW.PrintWords Go.Proofs.YtamhkdlcoghdbaaGreatDoorW.PrintLast Go.Proofs.YtamhkdlcoghdbaaGreatDoorW.PrintMore
set_option linter.unusedVariables false
set_option linter.unusedSimpArgs false
/-- every number lies between -/
theorem linR_of_mem (l : List S64) (hc : Cls.Can l) (h : ∀ c, Cls.Mem l c → -9223372036854775808 ≤ c ∧ c ≤ 9223372036854775807) : inR l = true := by
 refine (inR_iff l).2 fun r hr => ?_
 have hle := hc.2 r hr
 have a := h r.f0 ⟨r, hr, Int.le_refl _, hle⟩
 have b := h r.f1 ⟨r, hr, hle, Int.le_refl _⟩
 omega
theorem lmem_inR (l : List S64) (h : inR l = true) (c : Int) (hm : Cls.Mem l c) : -9223372036854775808 ≤ c ∧ c ≤ 9223372036854775807 := by
 obtain ⟨r, hr, h0, h1⟩ := hm
 have := (inR_iff l).1 h r hr
 omega
theorem linR_cls (l : List S64) (h : inR l = true) : inR (Cls.cls l) = true := linR_of_mem _ (Cls.cls_can l) fun c hc => lmem_inR l h c ((Cls.cls_mem l c).1 hc)
end Go.Proofs.YtamhkdlcoghdbaaGreatDoor.PCls
namespace Go.Proofs.YtamhkdlcoghdbaaGreatDoor.PCls
open Go.RowKit Go.Proofs.YtamhkdlcoghdbaaGreatDoorW.PrintWords Go.Proofs.YtamhkdlcoghdbaaGreatDoorW.PrintLast Go.Proofs.YtamhkdlcoghdbaaGreatDoorW.PrintMore
set_option linter.unusedVariables false
set_option linter.unusedSimpArgs false
end Go.Proofs.YtamhkdlcoghdbaaGreatDoor.PCls
namespace Go.Proofs.YtamhkdlcoghdbaaGreatDoor.PCls
open Go.RowKit Go.Proofs.YtamhkdlcoghdbaaGreatDoorW.PrintWords Go.Proofs.YtamhkdlcoghdbaaGreatDoorW.PrintLast Go.Proofs.YtamhkdlcoghdbaaGreatDoorW.PrintMore
set_option linter.unusedVariables false
set_option linter.unusedSimpArgs false
end Go.Proofs.YtamhkdlcoghdbaaGreatDoor.PCls
namespace Go.Proofs.YtamhkdlcoghdbaaGreatDoor.PCls
open Go.RowKit Go.Proofs.YtamhkdlcoghdbaaGreatDoorW.PrintWords Go.Proofs.YtamhkdlcoghdbaaGreatDoorW.PrintLast Go.Proofs.YtamhkdlcoghdbaaGreatDoorW.PrintMore
set_option linter.unusedVariables false
set_option linter.unusedSimpArgs false
theorem Cls.norm_can (l : List S64) (m : Bool) : Cls.Can (Cls.norm l m) := Cls.and_can _ _
theorem Cls.norm_mem (l : List S64) (m : Bool) (c : Int) : Cls.Mem (Cls.norm l m) c ↔ Cls.Mem l c ∧ Cls.Mem (Cls.all m) c := Cls.and_mem _ _ _
end Go.Proofs.YtamhkdlcoghdbaaGreatDoor.PCls
/- Out of ZGTwo (wip/tools/prune2.py): the declarations alone that the texts of the trees name. -/
namespace Go.Proofs.YtamhkdlcoghdbaaGreatDoor.PCls
open Go.RowKit Go.Proofs.YtamhkdlcoghdbaaGreatDoorW.PrintWords Go.Proofs.YtamhkdlcoghdbaaGreatDoorW.PrintLast Go.Proofs.YtamhkdlcoghdbaaGreatDoorW.PrintMore
set_option linter.unusedVariables false
set_option linter.unusedSimpArgs false
theorem run_append_nil2 (w : World) (ty : TypeId) (base : Option Addr) (n cap c : Nat) (h : n ≤ cap) : (Builtin.append_ #[35, 35] ty #[.slice base n cap, .slice none 0 c]).run Tryz.prog w = .ok (.slice base n cap) w := by
 obtain ⟨i, hi, hz0, hz1, hz2⟩ := info64'
 cases base with
 | none => simp [Builtin.append_, run_underlying Tryz.underlying35, run_underlying Tryz.underlying39, Builtin.lenOf, Builtin.firstCells, sizeOf, typeInfo, hi, hz1, h, storeCells]
 | some a => simp [Builtin.append_, run_underlying Tryz.underlying35, run_underlying Tryz.underlying39, Builtin.lenOf, Builtin.firstCells, sizeOf, typeInfo, hi, hz1, h, storeCells]
set_option maxHeartbeats 1000000 in
theorem grow_nil (n : Nat) (w : World) (hn : n * 16 ≤ 140737488355328) :
  Calls Tryz.prog 160 #[.slice none 0 0, .int .i64 n] w fun e w' => ∃ v : Value, e = .returned v ∧ w'.ownsRow w.heap.size 39 2 v 0 [] ∧ Below w.heap.size w w' := by
 obtain ⟨i0, hi, hz0, hz1, hz2⟩ := info64'
 by_cases h0 : n = 0
 ·subst h0
  go_enter Tryz.func160, Tryz.ntmps160
  go_wp2
  go_ret
  exact ⟨_, rfl, World.ownsRow_nil _ _ _ _, Below.refl _ _⟩
 ·have hold : (Builtin.firstCells i0.size 0 (.slice none 0 0)).run Tryz.prog w.drew = .ok ([] : List Value).toArray w.drew := by rw [hz1]; exact run_firstCells_none w.drew 2 0 0 0
  have hrz : ∀ ty, (Builtin.append_ #[35, 3] ty #[.slice none 0 0, .int .i64 (n : Int)]).run Tryz.prog w = _ := fun ty => Lib.run_append_grow_zeros (P := Tryz.prog) w 35 3 ty 39 i0 _ .i64 .i64 Tryz.underlying35 Tryz.underlying3 hi hz0 none 0 0 [] hold n (by omega) (by rw [hz1]; decide) (by omega) (by omega) (by rw [hz2]; omega) (by rw [hz2]; simp [Builtin.nextslicecap]; split <;> omega)
  obtain ⟨G, hG⟩ : ∃ G, G = grownCap w (0 + n) 0 39 := ⟨_, rfl⟩
  have hG1 : 0 + n ≤ G := by rw [hG]; exact grownCap_ge w _ _ _
  have hG2 : G ≤ maxLen := by rw [hG]; exact grownCap_le_maxLen w (0 + n) 0 39 (by unfold maxLen; omega)
  obtain ⟨C, hC⟩ : ∃ C, C = (([] : List Value).toArray ++ Builtin.zeroCells (Value.agg #[.int .i64 0, .int .i64 0]).cells n ++ Builtin.zeroCells (Value.agg #[.int .i64 0, .int .i64 0]).cells (G - (0 + n))) := ⟨_, rfl⟩
  rw [← hG] at hrz
  rw [← hC] at hrz
  have hCs : C.size = G * 2 := by rw [hC]; simp [Builtin.zeroCells, Value.cells]; omega
  simp only [Nat.zero_add] at hrz
  have hG3 : G ≤ 9223372036854775807 := by unfold maxLen at hG2; exact hG2
  have hnz : (n : Int) > 0 := by omega
  have A := Lib.hid hCs
  have B := Lib.hid hG2
  clear hC hG hold hi hz0 hz1 hz2 h0 hCs hG2
  go_enter Tryz.func160, Tryz.ntmps160
  go_wp2_with (at_builtin; refine Lib.wpList_append_run _ rfl _ _ _ _ rfl _ _ rfl rfl _ _ (hrz _) ?_)
  go_ret
  exact ⟨_, rfl, World.ownsRow_made w.drew C G (Nat.le_refl _) B.out A.out, ((Below.refl _ w).drew).alloc (Nat.le_refl _) _⟩
/-- rows of ranges, as values: address, capacity, what is read -/
abbrev Rws := List (Option Addr × Nat × List S64)
def tot (R : Rws) (i : Nat) : Nat := ((R.take i).map fun x => x.2.2.length).sum
def cat (R : Rws) (i : Nat) : List S64 := (R.take i).flatMap fun x => x.2.2
theorem cat_length (R : Rws) (i : Nat) : (cat R i).length = tot R i := by
 unfold cat tot
 rw [List.length_flatMap]
theorem tot_succ (R : Rws) (i : Nat) (x) (h : R[i]? = some x) : tot R (i + 1) = tot R i + x.2.2.length := by
 obtain ⟨hi, rfl⟩ := List.getElem?_eq_some_iff.1 h
 unfold tot
 rw [List.take_succ_eq_append_getElem hi]
 simp only [List.map_append, List.sum_append, List.map_cons, List.map_nil, List.sum_cons, List.sum_nil, Nat.add_zero]
theorem cat_succ (R : Rws) (i : Nat) (x) (h : R[i]? = some x) : cat R (i + 1) = cat R i ++ x.2.2 := by
 obtain ⟨hi, rfl⟩ := List.getElem?_eq_some_iff.1 h
 unfold cat
 rw [List.take_succ_eq_append_getElem hi]
 simp only [List.flatMap_append, List.flatMap_cons, List.flatMap_nil, List.append_nil]
theorem tot_le (R : Rws) (i : Nat) : tot R i ≤ tot R R.length := by
 unfold tot
 rw [List.take_length]
 conv => rhs; rw [← List.take_append_drop i R]
 simp only [List.map_append, List.sum_append]
 omega
theorem rowOf_append (a b : List S64) : rowOf (a ++ b) = rowOf a ++ rowOf b := by simp only [rowOf, List.flatMap_append]
set_option maxHeartbeats 2000000 in
set_option maxRecDepth 100000 in
theorem concat_calls (R : Rws) (B c : Nat) (w : World) (hB : B < w.heap.size) (hm : R.length ≤ 100) (ht : tot R R.length * 16 ≤ 140737488355328)
  (hc : ∀ i x, R[i]? = some x → w.cell? ⟨B, i, none⟩ = some (.slice x.1 x.2.2.length x.2.1) ∧ Kd.C k64 w x.1 x.2.2.length x.2.2) :
  Calls Tryz.prog 119 #[.slice (some ⟨B, 0, none⟩) R.length c] w fun e w' => ∃ v : Value, e = .returned v ∧ Kd.R k64 39 w' w.heap.size (fun _ => True) v (cat R R.length) ∧ Below w.heap.size w w' := by
 obtain ⟨i0, hi, hz0, hz1, hz2⟩ := info64'
 have AC := Lib.hid hc
 have AT := Lib.hid ht
 clear hc
 go_enter Tryz.func119, Tryz.ntmps119
 go_wp2_with fail
 go_loop [3, 5, 11] (fun s3 _ s11 => ∃ i : Nat, i ≤ R.length ∧ s11 = .int .i64 i ∧ s3 = .int .i64 (tot R i : Nat)) (fun _ _ s11 => R.length - (intOf s11).toNat)
 case atStart => exact ⟨0, Nat.zero_le _, rfl, by simp [tot]⟩
 case round =>
  obtain ⟨i, hil, rfl, rfl⟩ := hrel
  by_cases hlt : i < R.length
  ·obtain ⟨x, hx⟩ : ∃ x, R[i]? = some x := ⟨_, List.getElem?_eq_getElem hlt⟩
   have hcell := (AC.out i x hx).1
   have hts := tot_succ R i x hx
   have htl := tot_le R (i + 1)
   have hltz : (i : Int) < (R.length : Int) := by omega
   have hb : tot R i + x.2.2.length ≤ 8796093022208 := by have := AT.out; omega
   have hs : ((tot R i : Nat) : Int) + ((x.2.2.length : Nat) : Int) = ((tot R (i + 1) : Nat) : Int) := by omega
   have AS := Lib.hid hs
   clear hts htl hs hx
   obtain ⟨xa, xc, xl⟩ := x
   simp only at *
   generalize xl.length = n at *
   generalize tot R i = t at *
   go_wp2_with fail
   all_goals (try go_round)
   case rel => exact ⟨i + 1, by omega, by go_num, by rw [← AS.out]⟩
   case measure => simp [intOf]; omega
  ·obtain rfl : i = R.length := by omega
   clear hil
   have hltz : ¬ (R.length : Int) < (R.length : Int) := by omega
   go_wp2_with (go_at_call 160; refine (grow_nil _ _ (by exact AT.out)).mono ?_; rintro e w1 ⟨v1, rfl, hown1, hb1⟩)
   have A1 := Lib.hid hown1
   have A2 := Lib.hid hb1
   clear hown1 hb1 hltz
   go_loopg [6, 8, 27] R.length (fun gg s6 _ s27 wr => ∃ i : Nat, i ≤ R.length ∧ R.length - i ≤ gg ∧ s27 = .int .i64 i ∧ Aside0 (wr.ownsRow w.heap.size 39 2 s6 (cat R i).length (rowOf (cat R i))) ∧ Aside0 (Below w.heap.size w wr))
   case atStart => exact ⟨0, Nat.zero_le _, by omega, rfl, ⟨A1.out⟩, ⟨A2.out⟩⟩
   case round =>
    rename_i s6
    obtain ⟨i, hil, hgg, rfl, HO, HBL⟩ := hrel
    clear A1 A2
    by_cases hlt : i < R.length
    ·obtain ⟨x, hx⟩ : ∃ x, R[i]? = some x := ⟨_, List.getElem?_eq_getElem hlt⟩
     have hcell0 := (AC.out i x hx).1
     have hcell := (HBL.out.cell (p := ⟨B, i, none⟩) hB).trans hcell0
     have hrd := Kd.C_below (AC.out i x hx).2 HBL.out
     have hcs := cat_succ R i x hx
     have hts := tot_succ R i x hx
     have htl := tot_le R (i + 1)
     have hcl := cat_length R i
     have hltz : (i : Int) < (R.length : Int) := by omega
     have hb : (cat R i).length + x.2.2.length ≤ 8796093022208 := by have := AT.out; omega
     have HR := Lib.hid hrd
     have HS := Lib.hid hcs
     clear hcell0 hrd hcs hts htl hcl hx
     obtain ⟨xa, xc, xl⟩ := x
     simp only at *
     obtain ⟨A, c6, rfl⟩ := own_slice HO.out
     have hle := own_le HO.out
     cases xa with
     | none =>
      have hxl := nil_of_C HR.out
      subst hxl
      have happ := fun ty => run_append_nil2 wr ty A (cat R i).length c6 xc hle
      go_wp2_with (at_builtin; refine Lib.wpList_append_run _ rfl _ _ _ _ rfl _ _ rfl rfl _ _ (happ _) ?_)
      go_roundg (R.length - (i + 1))
      case measure => omega
      case rel => exact ⟨i + 1, by omega, Nat.le_refl _, by go_num, ⟨by rw [HS.out, List.append_nil]; exact HO.out⟩, ⟨HBL.out⟩⟩
     | some ad =>
      have hnews := cells_of_C HR.out
      have hl2 := rowOf_length xl
      have h1 := one_rowOf xl
      generalize hI : rowOf xl = news at hnews hl2 h1
      have G1 := Lib.hid hnews
      have G2 := Lib.hid hl2
      have G3 := Lib.hid hI
      clear hnews hl2 hI
      go_wp2_with (at_builtin; refine wpList_append_own _ rfl _ _ 35 rfl w.heap.size 39 i0 _ 2 16 Tryz.underlying35 hi hz0 hz1 hz2 rfl (by decide) _ _ _ rfl HO.out ad xl.length xc news rfl ?qc1 ?qc2 ?qc3 ?qc4 ?qc5 ?qc6 ?_)
      case qc1 => exact G2.out
      case qc2 => exact G1.out
      case qc3 => exact h1
      case qc4 => unfold maxLen; omega
      case qc5 => omega
      case qc6 => exact HBL.out.size
      intro v' w1 hown hgrow hnil
      have K1 := Lib.hid hown
      have K2 := Lib.hid hgrow
      clear hown hgrow hnil h1
      go_wp2
      go_roundg (R.length - (i + 1))
      case measure => omega
      case rel =>
       refine ⟨i + 1, by omega, Nat.le_refl _, by go_num, ⟨?_⟩, ⟨HBL.out.grown K2.out HBL.out.size (fun k hk => (HO.out.lt k hk).1)⟩⟩
       rw [HS.out, rowOf_append, List.length_append, G3.out]
       exact K1.out
    ·obtain rfl : i = R.length := by omega
     have hltz : ¬ (R.length : Int) < (R.length : Int) := by omega
     clear hil
     go_wp2_with fail
     go_ret
     exact ⟨_, rfl, R_of_own HO.out (fun _ _ => trivial), HBL.out⟩
end Go.Proofs.YtamhkdlcoghdbaaGreatDoor.PCls
namespace Go.Proofs.YtamhkdlcoghdbaaGreatDoor.PCls
open Go.RowKit Go.Proofs.YtamhkdlcoghdbaaGreatDoorW.PrintWords Go.Proofs.YtamhkdlcoghdbaaGreatDoorW.PrintLast Go.Proofs.YtamhkdlcoghdbaaGreatDoorW.PrintMore
set_option linter.unusedVariables false
set_option linter.unusedSimpArgs false
end Go.Proofs.YtamhkdlcoghdbaaGreatDoor.PCls
namespace Go.Proofs.YtamhkdlcoghdbaaGreatDoor.PCls
open Go.RowKit Go.Proofs.YtamhkdlcoghdbaaGreatDoorW.PrintWords Go.Proofs.YtamhkdlcoghdbaaGreatDoorW.PrintLast Go.Proofs.YtamhkdlcoghdbaaGreatDoorW.PrintMore
set_option linter.unusedVariables false
set_option linter.unusedSimpArgs false
set_option maxHeartbeats 2000000 in
set_option maxRecDepth 100000 in
theorem classes_Fold.calls (A0 : Option Addr) (c0 : Nat) (l0 : List S64) (r : List S64) (w : World) (hr0 : Kd.C k64 w A0 l0.length l0) (hc0 : l0.length ≤ c0) (h : classes_Fold.f l0 = some r) :
  Calls Tryz.prog 63 #[.slice A0 l0.length c0] w fun e w' => ∃ v0_ : Value, e = .returned v0_ ∧ Kd.R k64 39 w' w.heap.size (fun _ => True) v0_ r ∧ Below w.heap.size w w' := by
 unfold classes_Fold.f at h
 split at h
 case isFalse => cases h
 rename_i hn
 split at h
 case isFalse => cases h
 rename_i hin
 obtain rfl := Option.some.inj h
 obtain ⟨k1, hk1⟩ := (moved_ends l0 65 90 32 (by omega) hin (by omega) (by omega) (by omega) (by omega)).get
 obtain ⟨k2, hk2⟩ := (moved_ends l0 97 122 (-32) (by omega) hin (by omega) (by omega) (by omega) (by omega)).get
 obtain ⟨k3, hk3⟩ := (joined_fold l0 hn hin).get
 have hlen := toFold_length l0
 unfold Cls.toFold at hk3 hlen
 generalize Cls.shift (Cls.inter (Cls.cls l0) [⟨65, 90⟩]) 32 = l1 at *
 generalize Cls.shift (Cls.inter (Cls.cls l0) [⟨97, 122⟩]) (-32) = l2 at *
 have K1 := Lib.hid hk1
 have K2 := Lib.hid hk2
 have K3 := Lib.hid hk3
 have HR0 := Lib.hid hr0
 have HC0 := Lib.hid hc0
 have HL := Lib.hid hlen
 have HN := Lib.hid hn
 clear h hk1 hk2 hk3 hr0 hc0 hlen hn hin
 go_enter Tryz.func63, Tryz.ntmps63
 go_wp2_with fail
 refine (classes_moved.calls k1 _ _ l0 65 90 32 l1 w HR0.out HC0.out K1.out).mono ?_
 rintro e w1 ⟨v1, rfl, hR1, hB1⟩
 obtain ⟨A1, c1, rfl⟩ := Kd.R_slice hR1
 have hle1 := (rR hR1).2.1
 have G1 := Lib.hid (rR hR1).2.2
 have B1 := Lib.hid hB1
 have HRb := Lib.hid (Kd.C_below HR0.out hB1)
 clear hR1 hB1
 go_wp2_with fail
 refine (classes_moved.calls k2 _ _ l0 97 122 (-32) l2 w1 HRb.out HC0.out K2.out).mono ?_
 rintro e w2 ⟨v2, rfl, hR2, hB2⟩
 obtain ⟨A2, c2, rfl⟩ := Kd.R_slice hR2
 have hle2 := (rR hR2).2.1
 have G2 := Lib.hid (rR hR2).2.2
 have G1b := Lib.hid (Kd.C_below G1.out hB2)
 have G0b := Lib.hid (Kd.C_below HRb.out hB2)
 have B2 := Lib.hid (B1.out.trans (hB2.mono B1.out.size))
 clear hR2 hB2
 have hb3 : Below w.heap.size w (w2.alloc (.cells #[.slice A0 l0.length c0, .slice A1 l1.length c1, .slice A2 l2.length c2] 35)) := B2.out.alloc B2.out.size _
 have hcon := concat_calls [(A0, c0, l0), (A1, c1, l1), (A2, c2, l2)] w2.heap.size 3 (w2.alloc (.cells #[.slice A0 l0.length c0, .slice A1 l1.length c1, .slice A2 l2.length c2] 35)) (by simp) (by simp) (by have h1 := HL.out; have h2 := HN.out; simp [tot] at h1 ⊢; omega) (fun i x hx => by
  match i, hx with
  | 0, hx => simp at hx; subst hx; exact ⟨by simp, Kd.C_alloc G0b.out _⟩
  | 1, hx => simp at hx; subst hx; exact ⟨by simp, Kd.C_alloc G1b.out _⟩
  | 2, hx => simp at hx; subst hx; exact ⟨by simp, Kd.C_alloc G2.out _⟩
  | i + 3, hx => simp at hx)
 have hcat : cat [(A0, c0, l0), (A1, c1, l1), (A2, c2, l2)] 3 = l0 ++ (l1 ++ l2) := by simp [cat]
 simp only [List.length_cons, List.length_nil, Nat.zero_add, Nat.reduceAdd] at hcon
 rw [hcat] at hcon
 have HB3 := Lib.hid hb3
 clear hb3 hcat
 go_wp2_with fail
 refine hcon.mono ?_
 rintro e w3 ⟨v3, rfl, hR, hb⟩
 have hb2 : Below w.heap.size w w3 := HB3.out.trans (hb.mono HB3.out.size)
 have hR2 : Kd.R k64 39 w3 w.heap.size (fun _ => True) v3 (l0 ++ (l1 ++ l2)) := Kd.R_lower hR HB3.out.size
 have hj := classes_joined.calls k3 (fun _ => True) v3 (l0 ++ (l1 ++ l2)) _ w w3 hb2 hR2 K3.out
 clear hb hR hb2 hR2 hcon
 go_wp2_with fail
 refine hj.mono ?_
 rintro e w4 ⟨v4, rfl, hR, hb, _⟩
 go_wp2
 go_ret
 exact ⟨_, rfl, Kd.R_mono hR (fun _ _ => trivial), hb⟩
end Go.Proofs.YtamhkdlcoghdbaaGreatDoor.PCls
namespace Go.Proofs.YtamhkdlcoghdbaaGreatDoor.PCls
open Go.RowKit Go.Proofs.YtamhkdlcoghdbaaGreatDoorW.PrintWords Go.Proofs.YtamhkdlcoghdbaaGreatDoorW.PrintLast Go.Proofs.YtamhkdlcoghdbaaGreatDoorW.PrintMore
open Go.Shelf Go.Lib
set_option linter.unusedVariables false
set_option linter.unusedSimpArgs false
end Go.Proofs.YtamhkdlcoghdbaaGreatDoor.PCls
namespace Go.Proofs.YtamhkdlcoghdbaaGreatDoor.PCls
open Go.RowKit Go.Proofs.YtamhkdlcoghdbaaGreatDoorW.PrintWords Go.Proofs.YtamhkdlcoghdbaaGreatDoorW.PrintLast Go.Proofs.YtamhkdlcoghdbaaGreatDoorW.PrintMore
set_option linter.unusedVariables false
set_option linter.unusedSimpArgs false
end Go.Proofs.YtamhkdlcoghdbaaGreatDoor.PCls
/- Out of ZLRef (wip/tools/prune2.py): the declarations alone that the texts of the trees name. -/
namespace Go.Proofs.YtamhkdlcoghdbaaGreatDoor.PCls
open Go.RowKit Go.Proofs.YtamhkdlcoghdbaaGreatDoorW.PrintWords Go.Proofs.YtamhkdlcoghdbaaGreatDoorW.PrintLast Go.Proofs.YtamhkdlcoghdbaaGreatDoorW.PrintMore
set_option linter.unusedVariables false
set_option linter.unusedSimpArgs false
theorem Ends.succ {α : Type} {f g : Nat → Option α} {r : α} (h : Ends g r) (hf : ∀ k, f (k + 1) = g k) : Ends f r := by
 obtain ⟨k, hk⟩ := h
 refine ⟨k + 1, fun k' h' => ?_⟩
 obtain ⟨m, rfl⟩ : ∃ m, k' = m + 1 := ⟨k' - 1, by omega⟩
 rw [hf]
 exact hk m (by omega)
end Go.Proofs.YtamhkdlcoghdbaaGreatDoor.PCls
/- Out of ZPClsx22 (wip/tools/prune2.py): the declarations alone that the texts of the trees name. -/
namespace Go.Proofs.YtamhkdlcoghdbaaGreatDoor.PCls
open Go.RowKit Go.Proofs.YtamhkdlcoghdbaaGreatDoorW.PrintWords Go.Proofs.YtamhkdlcoghdbaaGreatDoorW.PrintLast Go.Proofs.YtamhkdlcoghdbaaGreatDoorW.PrintMore
attribute [local go_sem] max2_int min2_int max_two min_two max_three min_three max_four min_four   -- for this text's walks alone
set_option linter.unusedVariables false
set_option linter.unusedSimpArgs false
def dredgeref06_And.B10 : List Nat := [0, 0, 0, 6, 14, 30, 0, 0, 192, 448, 960, 2046, 0, 0, 12288, 28672, 61440, 0, 0, 393216, 917504, 1966080, 4190208, 8388606, 16777214, 33554431, 67108863]
end Go.Proofs.YtamhkdlcoghdbaaGreatDoor.PCls
/- Out of ZLSpoil (wip/tools/prune2.py): the declarations alone that the texts of the trees name. -/
namespace Go.Proofs.YtamhkdlcoghdbaaGreatDoor.PCls
open Go.RowKit Go.Proofs.YtamhkdlcoghdbaaGreatDoorW.PrintWords Go.Proofs.YtamhkdlcoghdbaaGreatDoorW.PrintLast Go.Proofs.YtamhkdlcoghdbaaGreatDoorW.PrintMore
set_option linter.unusedVariables false
set_option linter.unusedSimpArgs false
theorem Ends.next {α : Type} {f g : Nat → Option α} {r : α} (h : Ends g r) (hf : ∀ k, f (k + 1) = g k) : Ends f r := by
 obtain ⟨k, hk⟩ := h
 refine ⟨k + 1, fun k' h' => ?_⟩
 obtain ⟨m, rfl⟩ : ∃ m, k' = m + 1 := ⟨k' - 1, by omega⟩
 rw [hf]
 exact hk m (by omega)
end Go.Proofs.YtamhkdlcoghdbaaGreatDoor.PCls
/- Out of ZLawKit (wip/tools/prune2.py): the declarations alone that the texts of the trees name. -/
namespace Go.Proofs.YtamhkdlcoghdbaaGreatDoor.PCls
open Go.RowKit Go.Proofs.YtamhkdlcoghdbaaGreatDoorW.PrintWords Go.Proofs.YtamhkdlcoghdbaaGreatDoorW.PrintLast Go.Proofs.YtamhkdlcoghdbaaGreatDoorW.PrintMore
set_option linter.unusedVariables false
set_option linter.unusedSimpArgs false
theorem own_same {w w' : World} {base : Nat} {v : Value} {n : Nat} {xs : List Value} (h : w.ownsRow base 39 2 v n xs) (hs : ∀ k, v.ownBlock = some k → w'.heap[k]? = w.heap[k]?) : w'.ownsRow base 39 2 v n xs := by
 refine ⟨h.1, ?_⟩
 rcases h.2 with hn | ⟨g, cap, cur, rfl, hb, hgg, rest⟩
 ·exact .inl hn
 ·exact .inr ⟨g, cap, cur, rfl, hb, by rw [hs g rfl]; exact hgg, rest⟩
theorem R_same {w w' : World} {base : Nat} {ok : Nat → Prop} {v : Value} {l : List S64} (h : Kd.R k64 39 w base ok v l) (hs : ∀ k, v.ownBlock = some k → w'.heap[k]? = w.heap[k]?) : Kd.R k64 39 w' base ok v l :=
 R_of_own (own_same (own_of_R h) hs) h.1
theorem R_lt {w : World} {base : Nat} {ok : Nat → Prop} {v : Value} {l : List S64} (h : Kd.R k64 39 w base ok v l) : ∀ k, v.ownBlock = some k → base ≤ k ∧ k < w.heap.size := (own_of_R h).lt
/-- a row stays where nothing below the world's size is written -/
theorem R_below {w w' : World} {base : Nat} {ok : Nat → Prop} {v : Value} {l : List S64} (h : Kd.R k64 39 w base ok v l) (hb : Below w.heap.size w w') : Kd.R k64 39 w' base ok v l :=
 R_same h fun k hk => hb.block k (R_lt h k hk).2
theorem fold_length (l : List S64) : (Cls.fold l).length ≤ l.length + 52 := by
 have h := cls_length (Cls.toFold l)
 have h2 := toFold_length l
 unfold Cls.toFold at h h2
 unfold Cls.fold
 omega
end Go.Proofs.YtamhkdlcoghdbaaGreatDoor.PCls
