/- Put together (wip/tools/pack.py): YLTwo, YLThree, Nl, Nm, TCopied. -/
import Derived.Test.YtamhkdlcoghdbaaDoorKYLRef
import Derived.Test.YtamhkdlcoghdbaaDoorKYPClsx26
import Derived.Test.YtamhkdlcoghdbaaDoorKNu
/- Out of YLTwo (wip/tools/prune2.py): the declarations alone that the texts of the trees name. -/
namespace Go.Proofs.YtamhkdlcoghdbaaDoor.PCls
open Go.RowKit Go.Proofs.YtamhkdlcoghdbaaDoorW.PrintWords Go.Proofs.YtamhkdlcoghdbaaDoorW.PrintLast Go.Proofs.YtamhkdlcoghdbaaDoorW.PrintMore
set_option linter.unusedVariables false
set_option linter.unusedSimpArgs false
theorem wrap_succ (i : Nat) (h : i < 8796093022208) : wrap64 ((i : Int) + 1) = ((i + 1 : Nat) : Int) := by rw [w64_lit _ (by omega) (by omega)]; omega
theorem mx_max (a b : Int) : mx a b = max a b := by unfold mx; omega
theorem mn_min (a b : Int) : mn a b = min a b := by unfold mn; omega
def pairs (r : S64) (b : List S64) : List S64 := b.map fun s => ⟨max r.f0 s.f0, min r.f1 s.f1⟩
def allPairs (a b : List S64) : List S64 := a.flatMap fun r => pairs r b
theorem pairs_length (r : S64) (b : List S64) : (pairs r b).length = b.length := by simp [pairs]
theorem refand_inner (a b : List S64) (i : Nat) (hi : i < a.length) (ha : a.length < 8796093022208) (hb : b.length < 8796093022208) (R : List S64) : ∀ (d j : Nat) (out : List S64), j + d = b.length → out.length + d < 8796093022208 →
  Ends (fun k => dredgeref06_And.l0 k a b (out ++ pairs a[i] (b.drop j)) ((i + 1 : Nat) : Int)) R → Ends (fun k => dredgeref06_And.l1 k a b out (i : Int) (j : Int)) R := by
 intro d
 induction d with
 | zero =>
  intro j out hd ho h
  rw [List.drop_of_length_le (by omega), show pairs a[i] [] = [] from rfl, List.append_nil] at h
  refine Ends.succ h fun k => ?_
  simp only [dredgeref06_And.l1]
  rw [if_neg (by omega), wrap_succ i (by omega)]
 | succ d ih =>
  intro j out hd ho h
  have hj : j < b.length := by omega
  have hdrop : b.drop j = b[j] :: b.drop (j + 1) := List.drop_eq_getElem_cons hj
  refine Ends.succ (ih (j + 1) (out ++ [⟨max a[i].f0 b[j].f0, min a[i].f1 b[j].f1⟩]) (by omega) (by simp; omega) ?_) fun k => ?_
  ·rw [List.append_assoc]
   rw [hdrop] at h
   exact h
  ·simp only [dredgeref06_And.l1]
   rw [if_pos (by omega), if_pos (by omega), if_pos (by omega), if_pos (by omega), if_pos (by omega), rd_at a i hi, rd_at b j hj, wrap_succ j (by omega), mx_max, mn_min]
theorem refand_outer (a b : List S64) (ha : a.length < 8796093022208) (hb : b.length < 8796093022208) : ∀ (d i : Nat) (out : List S64), i + d = a.length → out.length + d * b.length < 8796093022208 → inR (out ++ allPairs (a.drop i) b) = true →
  Ends (fun k => dredgeref06_And.l0 k a b out (i : Int)) (Cls.cls (out ++ allPairs (a.drop i) b)) := by
 intro d
 induction d with
 | zero =>
  intro i out hd ho hin
  rw [List.drop_of_length_le (by omega), show allPairs [] b = [] from rfl, List.append_nil] at hin ⊢
  refine Ends.succ (g := fun k => (dredgeref06_Class.f k out).bind fun t => some t) (Ends.bind (refclass_ends out (by omega) hin) (Ends.some_ _)) fun k => ?_
  simp only [dredgeref06_And.l0]
  rw [if_neg (by omega)]
 | succ d ih =>
  intro i out hd ho hin
  have hi : i < a.length := by omega
  have hdrop : a.drop i = a[i] :: a.drop (i + 1) := List.drop_eq_getElem_cons hi
  have hp : allPairs (a.drop i) b = pairs a[i] b ++ allPairs (a.drop (i + 1)) b := by rw [hdrop]; rfl
  rw [Nat.succ_mul] at ho
  rw [hp, ← List.append_assoc] at hin ⊢
  refine Ends.succ (refand_inner a b i hi ha hb _ b.length 0 out (by omega) (by omega) ?_) fun k => ?_
  ·rw [List.drop_zero]
   exact ih (i + 1) (out ++ pairs a[i] b) (by omega) (by rw [List.length_append, pairs_length]; omega) hin
  ·simp only [dredgeref06_And.l0]
   rw [if_pos (by omega)]
   rfl
theorem mem_pairs (r : S64) (b : List S64) (c : Int) : Cls.Mem (pairs r b) c ↔ (r.f0 ≤ c ∧ c ≤ r.f1) ∧ Cls.Mem b c := by
 constructor
 ·rintro ⟨x, hx, h0, h1⟩
  obtain ⟨s, hs, rfl⟩ := List.mem_map.1 hx
  simp only at h0 h1
  exact ⟨by omega, s, hs, by omega, by omega⟩
 ·rintro ⟨h, s, hs, h0, h1⟩
  exact ⟨_, List.mem_map.2 ⟨s, hs, rfl⟩, by simp only; omega, by simp only; omega⟩
theorem mem_allPairs (a b : List S64) (c : Int) : Cls.Mem (allPairs a b) c ↔ Cls.Mem a c ∧ Cls.Mem b c := by
 induction a with
 | nil => simp [allPairs, Cls.mem_nil]
 | cons r a ih =>
  rw [show allPairs (r :: a) b = pairs r b ++ allPairs a b from rfl, Cls.mem_append, ih, mem_pairs, Cls.mem_cons]
  constructor
  ·rintro (⟨h, g⟩ | ⟨h, g⟩)
   ·exact ⟨.inl h, g⟩
   ·exact ⟨.inr h, g⟩
  ·rintro ⟨h | h, g⟩
   ·exact .inl ⟨h, g⟩
   ·exact .inr ⟨h, g⟩
theorem allPairs_inR (a b : List S64) (ha : inR a = true) (hb : inR b = true) : inR (allPairs a b) = true := by
 refine (inR_iff _).2 fun x hx => ?_
 obtain ⟨r, hr, hx⟩ := List.mem_flatMap.1 hx
 obtain ⟨s, hs, rfl⟩ := List.mem_map.1 hx
 have h1 := (inR_iff a).1 ha r hr
 have h2 := (inR_iff b).1 hb s hs
 simp only
 omega
theorem refand_ends (a b : List S64) (h1 : a.length < 2097152) (h2 : b.length < 2097152) (ha : inR a = true) (hb : inR b = true) : Ends (fun k => dredgeref06_And.f k a b) (Cls.and_ a b) := by
 unfold dredgeref06_And.f
 refine Ends.bind (refclass_ends a (by omega) ha) (Ends.bind (refclass_ends b (by omega) hb) ?_)
 have l1 := cls_length a
 have l2 := cls_length b
 have hm : (Cls.cls a).length * (Cls.cls b).length ≤ 2097152 * 2097152 := Nat.mul_le_mul (by omega) (by omega)
 have h := refand_outer (Cls.cls a) (Cls.cls b) (by omega) (by omega) (Cls.cls a).length 0 [] (by omega) (by simp; omega) (by simpa using allPairs_inR _ _ (inR_cls a ha) (inR_cls b hb))
 have e : Cls.cls (allPairs (Cls.cls a) (Cls.cls b)) = Cls.and_ a b := (Cls.cls_unique (Cls.and_can a b) fun c => by rw [mem_allPairs, Cls.cls_mem, Cls.cls_mem, Cls.and_mem]).symm
 simp only [List.drop_zero, List.nil_append] at h
 rw [e] at h
 exact h
end Go.Proofs.YtamhkdlcoghdbaaDoor.PCls
/- Out of YLThree (wip/tools/prune2.py): the declarations alone that the texts of the trees name. -/
namespace Go.Proofs.YtamhkdlcoghdbaaDoor.PCls
open Go.RowKit Go.Proofs.YtamhkdlcoghdbaaDoorW.PrintWords Go.Proofs.YtamhkdlcoghdbaaDoorW.PrintLast Go.Proofs.YtamhkdlcoghdbaaDoorW.PrintMore
set_option linter.unusedVariables false
set_option linter.unusedSimpArgs false
theorem reffold_low (R : List S64) : ∀ (s p out : List S64), (p ++ s).length < 8796093022208 → out.length + s.length < 8796093022208 → (∀ x, x ∈ s → 0 ≤ x.f0 ∧ x.f0 ≤ 1000 ∧ 0 ≤ x.f1 ∧ x.f1 ≤ 1000) →
  Ends (fun k => (dredgeref06_Class.f k (out ++ Cls.shift s (-32))).bind fun t => some t) R → Ends (fun k => dredgeref06_Fold.l1 k out (p ++ s) (p.length : Int)) R := by
 intro s
 induction s with
 | nil =>
  intro p out hl ho hx h
  rw [show Cls.shift [] (-32) = [] from rfl, List.append_nil] at h
  refine Ends.succ h fun k => ?_
  simp only [dredgeref06_Fold.l1]
  rw [if_neg (by simp)]
 | cons x s ih =>
  intro p out hl ho hx h
  have h0 := hx x List.mem_cons_self
  have hl2 : (p.length : Int) < ((p ++ x :: s).length : Int) := by simp; omega
  simp at hl ho
  have hnext := ih (p ++ [x]) (out ++ [⟨x.f0 - 32, x.f1 - 32⟩]) (by simp; omega) (by simp; omega) (fun y hy => hx y (List.mem_cons_of_mem _ hy)) (by rw [List.append_assoc]; exact h)
  simp only [List.append_assoc, List.singleton_append, List.length_append, List.length_singleton] at hnext
  rw [show ((p.length + 1 : Nat) : Int) = (p.length : Int) + 1 by omega] at hnext
  refine Ends.succ hnext fun k => ?_
  simp only [dredgeref06_Fold.l1]
  rw [if_pos hl2, if_pos (by omega), if_pos (by omega), rd_mid, w64_lit (x.f0 - 32) (by omega) (by omega), w64_lit (x.f1 - 32) (by omega) (by omega), w64_lit ((p.length : Int) + 1) (by omega) (by omega)]
theorem reffold_up (R t : List S64) (ht : t.length < 4398046511104) (hxt : ∀ x, x ∈ t → 0 ≤ x.f0 ∧ x.f0 ≤ 1000 ∧ 0 ≤ x.f1 ∧ x.f1 ≤ 1000) : ∀ (s p out : List S64), (p ++ s).length < 4398046511104 → out.length + s.length < 4398046511104 → (∀ x, x ∈ s → 0 ≤ x.f0 ∧ x.f0 ≤ 1000 ∧ 0 ≤ x.f1 ∧ x.f1 ≤ 1000) →
  Ends (fun k => (dredgeref06_Class.f k (out ++ Cls.shift s 32 ++ Cls.shift t (-32))).bind fun t => some t) R → Ends (fun k => dredgeref06_Fold.l0 k out (p ++ s) t (p.length : Int)) R := by
 intro s
 induction s with
 | nil =>
  intro p out hl ho hx h
  rw [show Cls.shift [] 32 = [] from rfl, List.append_nil] at h
  have h2 := reffold_low R t [] out (by simp; omega) (by simp at ho; omega) hxt h
  refine Ends.succ h2 fun k => ?_
  simp only [dredgeref06_Fold.l0]
  rw [if_neg (by simp)]
  rfl
 | cons x s ih =>
  intro p out hl ho hx h
  have h0 := hx x List.mem_cons_self
  have hl2 : (p.length : Int) < ((p ++ x :: s).length : Int) := by simp; omega
  simp at hl ho
  have hnext := ih (p ++ [x]) (out ++ [⟨x.f0 + 32, x.f1 + 32⟩]) (by simp; omega) (by simp; omega) (fun y hy => hx y (List.mem_cons_of_mem _ hy)) (by rw [show out ++ [(⟨x.f0 + 32, x.f1 + 32⟩ : S64)] ++ Cls.shift s 32 = out ++ Cls.shift (x :: s) 32 by simp [Cls.shift]]; exact h)
  simp only [List.append_assoc, List.singleton_append, List.length_append, List.length_singleton] at hnext
  rw [show ((p.length + 1 : Nat) : Int) = (p.length : Int) + 1 by omega] at hnext
  refine Ends.succ hnext fun k => ?_
  simp only [dredgeref06_Fold.l0]
  rw [if_pos hl2, if_pos (by omega), if_pos (by omega), rd_mid, w64_lit (x.f0 + 32) (by omega) (by omega), w64_lit (x.f1 + 32) (by omega) (by omega), w64_lit ((p.length : Int) + 1) (by omega) (by omega)]
theorem between_small (l : List S64) (lo hi : Int) (h0 : 0 ≤ lo) (h1 : lo ≤ hi) (h2 : hi ≤ 1000) : ∀ x, x ∈ Cls.and_ l [⟨lo, hi⟩] → 0 ≤ x.f0 ∧ x.f0 ≤ 1000 ∧ 0 ≤ x.f1 ∧ x.f1 ≤ 1000 := by
 intro x hx
 have hle := (Cls.and_can l [⟨lo, hi⟩]).2 x hx
 have h3 := (Cls.and_mem l [⟨lo, hi⟩] x.f0).1 ⟨x, hx, Int.le_refl _, hle⟩
 have h4 := (Cls.and_mem l [⟨lo, hi⟩] x.f1).1 ⟨x, hx, hle, Int.le_refl _⟩
 rw [mem_one] at h3 h4
 omega
theorem reffold_ends (l : List S64) (h1 : l.length < 2097152) (h : inR l = true) : Ends (fun k => dredgeref06_Fold.f k l) (Cls.fold l) := by
 unfold dredgeref06_Fold.f
 have hA : inR [⟨65, 90⟩] = true := by decide
 have hB : inR [⟨97, 122⟩] = true := by decide
 refine Ends.bind (refclass_ends l (by omega) h) (Ends.bind (refand_ends l [⟨65, 90⟩] h1 (by simp) h hA) (Ends.bind (refand_ends l [⟨97, 122⟩] h1 (by simp) h hB) ?_))
 have eA : Cls.and_ l [⟨65, 90⟩] = Cls.inter (Cls.cls l) [⟨65, 90⟩] := by unfold Cls.and_; rw [cls_of_can (can_one 65 90 (by omega))]
 have eB : Cls.and_ l [⟨97, 122⟩] = Cls.inter (Cls.cls l) [⟨97, 122⟩] := by unfold Cls.and_; rw [cls_of_can (can_one 97 122 (by omega))]
 have lA := between_length l 65 90 (by omega)
 have lB := between_length l 97 122 (by omega)
 rw [← eA] at lA
 rw [← eB] at lB
 have lC := cls_length l
 have iA := between_inR l 65 90 32 (by omega) (by omega) (by omega) (by omega)
 have iB := between_inR l 97 122 (-32) (by omega) (by omega) (by omega) (by omega)
 rw [← eA] at iA
 rw [← eB] at iB
 have hin : inR (Cls.cls l ++ Cls.shift (Cls.and_ l [⟨65, 90⟩]) 32 ++ Cls.shift (Cls.and_ l [⟨97, 122⟩]) (-32)) = true := by
  rw [inR_append, inR_append]
  exact ⟨⟨inR_cls l h, iA⟩, iB⟩
 have hlen : (Cls.cls l ++ Cls.shift (Cls.and_ l [⟨65, 90⟩]) 32 ++ Cls.shift (Cls.and_ l [⟨97, 122⟩]) (-32)).length < 8796093022208 := by
  rw [List.length_append, List.length_append, shift_length, shift_length]
  omega
 have e : Cls.cls (Cls.cls l ++ Cls.shift (Cls.and_ l [⟨65, 90⟩]) 32 ++ Cls.shift (Cls.and_ l [⟨97, 122⟩]) (-32)) = Cls.fold l := (Cls.cls_unique (Cls.fold_can l) fun c => by
  rw [Cls.fold_mem, Cls.mem_append, Cls.mem_append, Cls.cls_mem, shift_mem, shift_mem, Cls.and_mem, Cls.and_mem, mem_one, mem_one, or_assoc, show c - -32 = c + 32 by omega]).symm
 have hcl := Ends.bind (refclass_ends _ hlen hin) (Ends.some_ (Cls.cls (Cls.cls l ++ Cls.shift (Cls.and_ l [⟨65, 90⟩]) 32 ++ Cls.shift (Cls.and_ l [⟨97, 122⟩]) (-32))))
 rw [e] at hcl
 have := reffold_up (Cls.fold l) (Cls.and_ l [⟨97, 122⟩]) (by omega) (between_small l 97 122 (by omega) (by omega) (by omega)) (Cls.and_ l [⟨65, 90⟩]) [] (Cls.cls l) (by simp; omega) (by omega) (between_small l 65 90 (by omega) (by omega) (by omega)) hcl
 simpa using this
end Go.Proofs.YtamhkdlcoghdbaaDoor.PCls
/- The reference's Literal, walked. -/
namespace Go.Proofs.YtamhkdlcoghdbaaDoor.PCls
open Go.RowKit Go.Shelf Go.Proofs.YtamhkdlcoghdbaaDoorW.PrintWords Go.Proofs.YtamhkdlcoghdbaaDoorW.PrintLast Go.Proofs.YtamhkdlcoghdbaaDoorW.PrintMore
set_option linter.unusedVariables false
set_option linter.unusedSimpArgs false

/-- ranges in memory -/
def RowZ (W : World) (base : Nat) (v : Value) (r : List S64) : Prop := W.ownsRow base 50 2 v r.length (rowOf r) ∧ inR r = true ∧ r.length < 2000000
theorem RowZ.R {W : World} {base : Nat} {v : Value} {r : List S64} (h : RowZ W base v r) : Kd.R k64 50 W base (fun _ => True) v r := R_of_own h.1 (fun _ _ => trivial)
theorem RowZ.form {W : World} {base : Nat} {v : Value} {r : List S64} (h : RowZ W base v r) : ∃ A c, v = .slice A r.length c := Kd.R_slice h.R
theorem RowZ.one (W : World) (c : Int) (h : -9223372036854775808 ≤ c ∧ c ≤ 9223372036854775807) : RowZ (W.alloc (.cells #[.int .i64 c, .int .i64 c] 50)) W.heap.size (.slice (some ⟨W.heap.size, 0, none⟩) 1 1) [⟨c, c⟩] :=
 ⟨⟨rfl, .inr ⟨W.heap.size, 1, _, rfl, Nat.le_refl _, World.alloc_heap_new W _, Nat.le_refl _, by decide, rfl, rfl⟩⟩, by simp [inR, h], by simp⟩
theorem reffold_row (w : World) (base : Nat) (v : Value) (l : List S64) (h : RowZ w base v l) (hl : l.length ≤ 1900000) : Calls Tryd.prog 42 #[v] w fun e w' => ∃ v', e = .returned v' ∧ RowZ w' w.heap.size v' (Cls.fold l) ∧ Below w.heap.size w w' := by
 obtain ⟨A, c, rfl, hc, hC⟩ := Kd.R_reads h.R
 obtain ⟨k, hk⟩ := (reffold_ends l (by omega) h.2.1).get
 refine (dredgeref06_Fold.calls k A c l (Cls.fold l) w hC hc hk).mono ?_
 rintro e w' ⟨v', rfl, hR, hb⟩
 exact ⟨v', rfl, ⟨own_of_R hR, inR_cls _ (toFold_inR _ h.2.1), by have := fold_length l; omega⟩, hb⟩
/-- a set's node -/
theorem RowZ.node {w : World} {base : Nat} {A : Option Addr} {c : Nat} {r : List S64} (h : RowZ w base (.slice A r.length c) r) (hl : r.length < 2097152) (k m lo hi : Int) : NIn w (fun b => base ≤ b ∧ b < w.heap.size) (.mk k m lo hi r []) [.int .i64 k, .int .i64 m, .int .i64 lo, .int .i64 hi, .slice A r.length c, .slice none 0 0] := by
 obtain ⟨A', c', e, hc, hC⟩ := Kd.R_reads h.R
 cases e
 refine NIn.mk k m lo hi r [] A none c 0 (fun _ => []) hC (fun ad e hr => ?_) hc hl h.2.1 (by simp) (by simp) (fun j t h => by simp at h) (fun j h => by simp at h)
 subst e
 rcases h.1.2 with ⟨e, h0⟩ | ⟨g, cap, cur, e, hb, hh, _⟩
 ·cases e
 ·cases e; exact ⟨hb, (Array.getElem?_eq_some_iff.1 hh).1⟩
/-- the sets of a text's units; nothing where a unit is none -/
def refU (s : ByteArray) (chars fold : Bool) : Nat → Nat → Option (List NT)
 | 0, _ => some []
 | k + 1, p => if p < s.size then (if (Lx.unit s chars p).1 < 0 then none else (refU s chars fold k (p + (Lx.unit s chars p).2)).map (litNT fold (Lx.unit s chars p).1 :: ·)) else some []
theorem refU_step {s : ByteArray} {chars fold : Bool} {k p : Nat} (h : p < s.size) : refU s chars fold (k + 1) p = if (Lx.unit s chars p).1 < 0 then none else (refU s chars fold k (p + (Lx.unit s chars p).2)).map (litNT fold (Lx.unit s chars p).1 :: ·) := by
 conv => lhs; unfold refU
 rw [if_pos h]
theorem refU_stop {s : ByteArray} {chars fold : Bool} {k p : Nat} (h : ¬ p < s.size) : refU s chars fold k p = some [] := by
 cases k with
 | zero => rfl
 | succ k => unfold refU; rw [if_neg h]
theorem refU_bytes (s : ByteArray) (fold : Bool) : ∀ (k p : Nat), s.size < p + k → refU s false fold k p = some ((s.data.toList.drop p).map fun c => litNT fold (c.toNat : Int))
 | 0, p, h => by rw [refU_stop (by omega), List.drop_eq_nil_of_le (by rw [len_size]; omega)]; rfl
 | k + 1, p, h => by
  by_cases hp : p < s.size
  ·have hu : Lx.unit s false p = ((Lx.byt s p : Int), 1) := by simp [Lx.unit, hp]
   rw [refU_step hp, hu, if_neg (by simp only; omega), refU_bytes s fold k (p + 1) (by omega)]
   have hp' : p < s.data.toList.length := by rw [len_size]; exact hp
   rw [List.drop_eq_getElem_cons hp', List.map_cons]
   have hb : Lx.byt s p = (s.data.toList[p]'hp').toNat := by unfold Lx.byt; rw [List.getD_eq_getElem?_getD, List.getElem?_eq_getElem hp']; rfl
   rw [hb]
   rfl
  ·rw [refU_stop hp, List.drop_eq_nil_of_le (by rw [len_size]; omega)]; rfl
theorem refU_chars (s : ByteArray) (fold : Bool) : ∀ (k p : Nat), s.size < p + k → p ≤ s.size → refU s true fold k p = if badFrom s k p < s.size then none else some ((runesFrom s k p).map fun c : Nat => litNT fold (c : Int))
 | 0, p, h, hp => by omega
 | k + 1, p, h, hp => by
  by_cases hlt : p < s.size
  ·rw [refU_step hlt]
   have hl := unit_lim s true p hlt
   unfold badFrom runesFrom
   rw [if_pos hlt, if_pos hlt]
   cases ho : okAt s p with
   | false =>
    have hu : Lx.unit s true p = (-1, 1) := by simp [Lx.unit, hlt, ho]
    rw [hu, if_pos (by decide)]
    rw [if_neg (show ¬ (false = true) by decide), if_pos hlt]
   | true =>
    have hu : Lx.unit s true p = ((((Utf8.decode s p).1 : Nat) : Int), (Utf8.decode s p).2) := by simp [Lx.unit, hlt, ho]
    rw [hu] at hl ⊢
    rw [if_neg (by simp only; omega), if_pos rfl]
    simp only at hl ⊢
    rw [refU_chars s fold k _ (by omega) (by omega)]
    by_cases hb : badFrom s k (p + (Utf8.decode s p).2) < s.size
    ·rw [if_pos hb, if_pos hb]; rfl
    ·rw [if_neg hb, if_neg hb]; rfl
  ·rw [refU_stop hlt]
   unfold badFrom runesFrom
   rw [if_neg hlt, if_neg hlt, if_neg (by omega)]
   rfl
theorem refU_all (s : ByteArray) (chars fold : Bool) : refU s chars fold (s.size + 1) 0 = if okB chars s = true then some (unitsT chars fold s) else none := by
 cases chars with
 | false =>
  rw [refU_bytes s fold _ 0 (by omega), List.drop_zero]
  rw [if_pos (by rfl)]
  unfold unitsT
  rw [if_neg (by decide)]
 | true =>
  rw [refU_chars s fold _ 0 (by omega) (Nat.zero_le _)]
  by_cases hb : badFrom s (s.size + 1) 0 < s.size
  ·rw [if_pos hb, if_neg (by simp [okB, hb])]
  ·rw [if_neg hb, if_pos (by simp [okB, hb])]
   unfold unitsT
   rw [if_pos rfl]
/-- between two rounds -/
structure RlSt (W wr : World) (chars fold : Bool) (v : Value) (out : List NT) : Prop where
 bel : Below W.heap.size W wr
 mode : wr.heap[W.heap.size]? = some (.cells #[.bool chars, .bool fold] 23 (0, 0))
 res : wr.heap[W.heap.size + 1]? = some (.cells #[.int .i64 0, .int .i64 0, .int .i64 0, .int .i64 0, .slice none 0 0, .slice none 0 0] 28 (0, 0))
 sz : W.heap.size + 2 ≤ wr.heap.size
 trees : TreesP wr (W.heap.size + 2) (W.heap.size + 2 ≤ ·) v out
theorem RlSt.below {W A B : World} {chars fold : Bool} {v : Value} {out : List NT} (h : RlSt W A chars fold v out) (hb : Below A.heap.size A B) : RlSt W B chars fold v out :=
 ⟨h.bel.trans (hb.mono h.bel.size), (hb.block _ (Array.getElem?_eq_some_iff.1 h.mode).1).trans h.mode, (hb.block _ (Array.getElem?_eq_some_iff.1 h.res).1).trans h.res, Nat.le_trans h.sz hb.size, h.trees.below hb⟩
theorem RlSt.step {W X W4 : World} {chars fold : Bool} {v v' : Value} {out out' : List NT} (h : RlSt W X chars fold v out) (ht : TreesP W4 (W.heap.size + 2) (W.heap.size + 2 ≤ ·) v' out') (hg : X.grownBy W4 v.ownBlock) : RlSt W W4 chars fold v' out' := by
 have hs := h.sz
 have hgs := hg.size
 have hown : ∀ k, v.ownBlock = some k → W.heap.size + 2 ≤ k := fun k hk => (h.trees.own k hk).1
 have hb : ∀ k, k < W.heap.size + 2 → W4.heap[k]? = X.heap[k]? := fun k hk => hg.block k (by omega) (fun e => by have := hown k e.symm; omega)
 exact ⟨⟨hg.os.trans h.bel.os, hg.tape.trans h.bel.tape, hg.output.trans h.bel.output, by omega, fun k hk => (hb k (by omega)).trans (h.bel.block k hk)⟩, (hb _ (by omega)).trans h.mode, (hb _ (by omega)).trans h.res, by omega, ht⟩
/-- a set more -/
theorem RlSt.put {W w7 : World} {chars fold : Bool} {V : Value} {out : List NT} {b : Nat} {A : Option Addr} {c : Nat} {R : List S64} (h : RlSt W w7 chars fold V out) (hr : RowZ w7 b (.slice A R.length c) R) (hb : W.heap.size + 2 ≤ b) (hV : ∀ k, V.ownBlock = some k → k < b) (hl : R.length < 2097152) (ho : out.length < 1000000) :
  ∃ A' c' W4, (Builtin.append_ #[26, 26] 26 #[V, .slice (some ⟨w7.heap.size, 0, none⟩) 1 1]).run Tryd.prog (w7.alloc (.cells #[.int .i64 2, .int .i64 0, .int .i64 0, .int .i64 0, .slice A R.length c, .slice none 0 0] 28)) = .ok (.slice A' (out.length + 1) c') W4 ∧ RlSt W W4 chars fold (.slice A' (out.length + 1) c') (out ++ [.mk 2 0 0 0 R []]) := by
 have hn := hr.node hl 2 0 0 0
 have hsz := h.sz
 obtain ⟨v', W4, hrun, htr, hgr, hat⟩ := h.trees.snoc (X := w7.alloc (.cells #[.int .i64 2, .int .i64 0, .int .i64 0, .int .i64 0, .slice A R.length c, .slice none 0 0] 28)) ((Below.refl _ w7).alloc (Nat.le_refl _) _) hsz (by omega) ⟨w7.heap.size, 0, none⟩ (.mk 2 0 0 0 R []) _ (fun j u hj => by
  rw [show (⟨w7.heap.size, 0, none⟩ : Addr).add j = ⟨w7.heap.size, j, none⟩ by unfold Addr.add; split <;> simp_all]
  exact cell_heap (World.alloc_heap_new w7 _) (by simpa using hj)) ((hn.move (fun k hk => Below.heap_alloc w7 _ k (by omega))).mono (fun k hk => ⟨by omega, by simp; omega, fun e => by have := hV k e.symm; omega⟩))
 obtain ⟨A', c', rfl⟩ := htr.form
 have hl2 : (out ++ [NT.mk 2 0 0 0 R []]).length = out.length + 1 := by rw [List.length_append, List.length_singleton]
 rw [hl2] at hrun htr
 exact ⟨A', c', W4, hrun, (h.below ((Below.refl _ w7).alloc (Nat.le_refl _) _)).step htr hgr⟩
def zeroV : Value := .agg #[.int .i64 0, .int .i64 0, .int .i64 0, .int .i64 0, .slice none 0 0, .slice none 0 0]
/-- what Literal tells -/
def RlPost (W : World) (s : ByteArray) (chars fold : Bool) (e : Ending) (w' : World) : Prop := Below W.heap.size W w' ∧ if okB chars s = true then ∃ v0 v1 v2 v3 v4 v5 : Value, e = .returned (.tuple #[.agg #[v0, v1, v2, v3, v4, v5], .int .i64 0]) ∧ NIn w' (· < w'.heap.size) (catT (unitsT chars fold s)) [v0, v1, v2, v3, v4, v5] else e = .returned (.tuple #[zeroV, .int .i64 20])
/-- what is in the result's block and in a slot, out of them -/
theorem ret6i {fn : Func} {tmps : Array Value} {w : World} {g : Nat} {v0 v1 v2 v3 v4 v5 x : Value} {i j : Nat} (hr : fn.results = #[.cell i 28, .tmp j]) (hi : tmps.getD i undef = .pointer (some ⟨g, 0, none⟩)) (hj : tmps.getD j undef = x) (h : w.heap[g]? = some (.cells #[v0, v1, v2, v3, v4, v5] 28 (0, 0))) :
  (results fn tmps).run Tryd.prog w = .ok (.tuple #[.agg #[v0, v1, v2, v3, v4, v5], x]) w := by
 have r0 := cell_heap (i := 0) h rfl
 have r1 := cell_heap (i := 1) h rfl
 have r2 := cell_heap (i := 2) h rfl
 have r3 := cell_heap (i := 3) h rfl
 have r4 := cell_heap (i := 4) h rfl
 have r5 := cell_heap (i := 5) h rfl
 have hi' : tmps[i]?.getD undef = .pointer (some ⟨g, 0, none⟩) := by simpa using hi
 have hj' : tmps[j]?.getD undef = x := by simpa using hj
 simp only [results, hr]
 simp [Sem.run_bind, Result.andThen, hi', hj', go_sem, r0, r1, r2, r3, r4, r5]
end Go.Proofs.YtamhkdlcoghdbaaDoor.PCls
/- The reference's Literal, walked: the loop. -/
namespace Go.Proofs.YtamhkdlcoghdbaaDoor.PCls
open Go.RowKit Go.Shelf Go.Proofs.YtamhkdlcoghdbaaDoorW.PrintWords Go.Proofs.YtamhkdlcoghdbaaDoorW.PrintLast Go.Proofs.YtamhkdlcoghdbaaDoorW.PrintMore
set_option linter.unusedVariables false
set_option linter.unusedSimpArgs false

set_option maxHeartbeats 4000000 in
set_option maxRecDepth 100000 in
theorem reflit_calls (s : ByteArray) (chars fold : Bool) (W : World) (hs : s.size ≤ 1900) : Calls Tryd.prog 14 #[.string s, .agg #[.bool chars, .bool fold]] W (RlPost W s chars fold) := by
 have HST := Lib.hid (show RlSt W ((W.alloc (.cells #[.bool chars, .bool fold] 23)).alloc (.cells #[.int .i64 0, .int .i64 0, .int .i64 0, .int .i64 0, .slice none 0 0, .slice none 0 0] 28)) chars fold (.slice none 0 0) [] from
  ⟨((Below.refl W.heap.size W).alloc (Nat.le_refl _) _).alloc (by simp) _, (Below.heap_alloc _ _ _ (by simp)).trans (World.alloc_heap_new W _), World.alloc_heap_new (W.alloc _) _ |> (fun h => by simpa using h), by simp, TreesP.nil _ _ _⟩)
 have HR := Lib.hid (refU_all s chars fold)
 have hs1 : (s.size : Int) ≤ 1900 := by omega
 go_enter Tryd.func14, Tryd.ntmps14
 go_wp2_with fail
 go_loopg [6, 7] (s.size + 1) (fun gg a6 a7 wr => ∃ (p k : Nat) (out : List NT), p ≤ s.size ∧ a7 = .int .i64 p ∧ Aside0 (RlSt W wr chars fold a6 out) ∧ Hid (s.size < p + k) ∧ s.size - p ≤ gg ∧ out.length ≤ p ∧ Hid (refU s chars fold (s.size + 1) 0 = (refU s chars fold k p).map (out ++ ·)) ∧ Hid (∀ t, t ∈ out → t.k ≠ 1 ∧ t.k ≠ 5))
 case atStart => exact ⟨0, s.size + 1, [], Nat.zero_le _, rfl, ⟨HST.out⟩, Lib.hid (by omega), by omega, by simp, Lib.hid (by cases refU s chars fold (s.size + 1) 0 <;> rfl), Lib.hid (fun t h => by cases h)⟩
 case round =>
  obtain ⟨p, k, out, hp, rfl, HS, HK, hgg, hol, HU, HP⟩ := hrel
  obtain ⟨VA, Vc, eV⟩ := HS.out.trees.form
  subst eV
  have k0 := lk_cell (i := 0) HS.out.mode rfl
  by_cases hlt : p < s.size
  ·obtain ⟨k, rfl⟩ : ∃ j, k = j + 1 := ⟨k - 1, by have := HK.out; omega⟩
   have HC := Lib.hid (refunit_calls s chars p wr (by omega) (by omega))
   have hul := unit_lim s chars p hlt
   have HV := Lib.hid (HU.out.trans (by rw [refU_step hlt]))
   obtain ⟨u, hu⟩ : ∃ u, u = Lx.unit s chars p := ⟨_, rfl⟩
   rw [← hu] at HC hul HV
   obtain ⟨c, n⟩ := u
   simp only at hul
   obtain ⟨hu1, hu2, hu3, hu4⟩ := hul
   have h1 : (p : Int) < (s.size : Int) := by omega
   clear hu HU
   go_wp2_with fail
   refine HC.out.mono ?_
   rintro e w5 ⟨rfl, hb5⟩
   have HS5 := Lib.hid (HS.out.below hb5)
   clear HC hb5 k0 HS
   by_cases hc : c < 0
   ·have hres := HS5.out.res
    have d0 := cell_heap (i := 0) hres rfl
    have d1 := cell_heap (i := 1) hres rfl
    have d2 := cell_heap (i := 2) hres rfl
    have d3 := cell_heap (i := 3) hres rfl
    have d4 := cell_heap (i := 4) hres rfl
    have d5 := cell_heap (i := 5) hres rfl
    have q0 : ∀ o, w5.frozen? ⟨W.heap.size + 1, o, none⟩ = false := fun o => by simp [World.frozen?, hres]
    have HZ := Lib.hid hres
    clear hres
    have HX := Lib.hid (HV.out.trans (by rw [if_pos hc]))
    have hcn : c < 0 := hc
    clear HV hu1 hu2 HP
    go_wp2
    refine bodyPost_ret (v := .tuple #[.agg #[.int .i64 0, .int .i64 0, .int .i64 0, .int .i64 0, .slice none 0 0, .slice none 0 0], .int .i64 20]) (ret6i rfl rfl rfl (put6_res HZ.out (.int .i64 0) (.int .i64 0) (.int .i64 0) (.int .i64 0) (.slice none 0 0) (.slice none 0 0))) rfl ?_
    refine ⟨put6_below HS5.out.bel (by omega) _ _ _ _ _ _ _, ?_⟩
    have hr := HR.out.symm.trans HX.out
    by_cases ho : okB chars s = true
    ·rw [if_pos ho] at hr; cases hr
    ·rw [if_neg ho]; rfl
   ·have hcn : ¬ c < 0 := hc
    have HX := Lib.hid (HV.out.trans (by rw [if_neg hc]))
    have m1 := lk_cell (i := 1) HS5.out.mode rfl
    have hlm := (Array.getElem?_eq_some_iff.1 HS5.out.mode).1
    have HR1 := Lib.hid (RowZ.one w5 c (by omega))
    have HS6 := Lib.hid (HS5.out.below ((Below.refl w5.heap.size w5).alloc (Nat.le_refl _) (.cells #[.int .i64 c, .int .i64 c] 50)))
    have HO5 := Lib.hid (fun k hk => (HS5.out.trees.own k hk).2)
    have HSZ := Lib.hid HS5.out.sz
    have HP2 := Lib.hid (show ∀ t, t ∈ out ++ [litNT fold c] → t.k ≠ 1 ∧ t.k ≠ 5 from fun t ht => by
     rcases List.mem_append.1 ht with h | h
     ·exact HP.out t h
     ·rw [List.mem_singleton.1 h]; simp [litNT, NT.k])
    have HU2 := Lib.hid (show refU s chars fold (s.size + 1) 0 = (refU s chars fold k (p + n)).map ((out ++ [litNT fold c]) ++ ·) by
     rw [HX.out]
     cases refU s chars fold k (p + n) with
     | none => rfl
     | some l => simp)
    have hq1 : (p : Int) + (n : Int) ≤ 1900 := by omega
    cases fold with
    | false =>
     obtain ⟨A', c', W4, hrun, hst⟩ := HS6.out.put (R := [⟨c, c⟩]) (A := some ⟨w5.heap.size, 0, none⟩) (c := 1) HR1.out (by have := HSZ.out; omega) HO5.out (by simp) (by omega)
     simp only [World.size_alloc, List.length_cons, List.length_nil, Nat.zero_add] at hrun
     have HRUN := Lib.hid hrun
     have HST4 := Lib.hid hst
     clear hrun hst hc HV HX HP HR1 HS6 hu1 hu2
     go_wp2_with (at_builtin; refine Lib.wpList_append_run _ rfl _ _ _ _ rfl _ _ rfl rfl _ _ HRUN.out ?_)
     go_roundg (s.size - (p + n))
     case measure => omega
     case rel => exact ⟨p + n, k, out ++ [litNT false c], by omega, by go_num, ⟨HST4.out⟩, Lib.hid (by have := HK.out; omega), by omega, by rw [List.length_append, List.length_singleton]; omega, HU2, HP2⟩
    | true =>
     have HF := Lib.hid (reffold_row _ _ _ _ HR1.out (by simp))
     obtain ⟨R, hR⟩ : ∃ R, R = Cls.fold [⟨c, c⟩] := ⟨_, rfl⟩
     have hRl : R.length ≤ 53 := by rw [hR]; have := fold_length [⟨c, c⟩]; simp at this; omega
     rw [← hR] at HF
     have HLT := Lib.hid (show litNT true c = .mk 2 0 0 0 R [] by rw [hR]; rfl)
     clear hR hc HV HX HP HR1 hu1 hu2
     go_wp2_with fail
     refine HF.out.mono ?_
     rintro e w7 ⟨v7, rfl, hr7, hb7⟩
     have hs7 := HS6.out.below hb7
     obtain ⟨A7, c7, rfl⟩ := hr7.form
     have hsz6 : (w5.alloc (.cells #[.int .i64 c, .int .i64 c] 50)).heap.size = w5.heap.size + 1 := by simp
     obtain ⟨A', c', W4, hrun, hst⟩ := hs7.put hr7 (by have := HSZ.out; omega) (fun k hk => by have := HO5.out k hk; omega) (by omega) (by omega)
     have HRUN := Lib.hid hrun
     have HST4 := Lib.hid (show RlSt W W4 chars true (.slice A' (out.length + 1) c') (out ++ [litNT true c]) by rw [HLT.out]; exact hst)
     clear hrun hst hs7 hr7 hb7 HS6 hsz6 HF hRl
     go_wp2_with (at_builtin; refine Lib.wpList_append_run _ rfl _ _ _ _ rfl _ _ rfl rfl _ _ HRUN.out ?_)
     go_roundg (s.size - (p + n))
     case measure => omega
     case rel => exact ⟨p + n, k, out ++ [litNT true c], by omega, by go_num, ⟨HST4.out⟩, Lib.hid (by have := HK.out; omega), by omega, by rw [List.length_append, List.length_singleton]; omega, HU2, HP2⟩
  ·have HX := Lib.hid (HU.out.trans (by rw [refU_stop hlt]))
   have h1 : ¬ (p : Int) < (s.size : Int) := by omega
   have HC := Lib.hid (refcat_calls out (W.heap.size + 2) VA Vc wr HS.out.trees HS.out.sz HP.out (by omega))
   have HS' := Lib.hid HS.out
   clear HS HU HP k0 hgg hol
   go_wp2_with fail
   refine HC.out.mono ?_
   rintro e w5 ⟨v0, v1, v2, v3, v4, v5, rfl, hN, hb5⟩
   obtain ⟨kk, mm, lo, hi, ar, ak, lr, cr, lk, ck, e6⟩ := six hN
   simp only [List.cons.injEq, and_true] at e6
   obtain ⟨rfl, rfl, rfl, rfl, rfl, rfl⟩ := e6
   have hs5 := HS'.out.below hb5
   have hres := hs5.res
   have d0 := cell_heap (i := 0) hres rfl
   have d1 := cell_heap (i := 1) hres rfl
   have d2 := cell_heap (i := 2) hres rfl
   have d3 := cell_heap (i := 3) hres rfl
   have d4 := cell_heap (i := 4) hres rfl
   have d5 := cell_heap (i := 5) hres rfl
   have q0 : ∀ o, w5.frozen? ⟨W.heap.size + 1, o, none⟩ = false := fun o => by simp [World.frozen?, hres]
   have HZ := Lib.hid (And.intro hres (And.intro hs5.bel hN))
   clear hres hs5 hN hb5 HC
   go_wp2
   refine bodyPost_ret (v := .tuple #[.agg #[.int .i64 kk, .int .i64 mm, .int .i64 lo, .int .i64 hi, .slice ar lr cr, .slice ak lk ck], .int .i64 0]) (ret6i rfl rfl rfl (put6_res HZ.out.1 _ _ _ _ _ _)) rfl ?_
   refine ⟨put6_below HZ.out.2.1 (by omega) _ _ _ _ _ _ _, ?_⟩
   have hr := HR.out.symm.trans HX.out
   by_cases ho : okB chars s = true
   ·rw [if_pos ho] at hr ⊢
    have hu : unitsT chars fold s = out := by simpa using Option.some.inj hr
    rw [hu]
    exact ⟨_, _, _, _, _, _, rfl, (HZ.out.2.2.move (fun b hb => put6_other _ _ _ _ _ _ _ _ _ b (by omega))).mono (fun b hb => Nat.lt_of_lt_of_eq hb.2 (put6_size _ _ _ _ _ _ _ _ _).symm)⟩
   ·rw [if_neg ho] at hr; cases hr
end Go.Proofs.YtamhkdlcoghdbaaDoor.PCls
/- Out of TCopied (wip/tools/prune2.py): the declarations alone that the texts of the trees name. -/
namespace Go.Proofs.YtamhkdlcoghdbaaDoor.PCls
open Go.RowKit Go.Proofs.YtamhkdlcoghdbaaDoorW.PrintWords Go.Proofs.YtamhkdlcoghdbaaDoorW.PrintLast Go.Proofs.YtamhkdlcoghdbaaDoorW.PrintMore
set_option linter.unusedVariables false
set_option linter.unusedSimpArgs false
/-- a copy in memory: behind its ranges one more lies, behind its kids, too -/
inductive CIn (w : World) (P : Nat → Prop) : NT → List Value → Prop
 | mk (k m lo hi : Int) (r : List S64) (kids : List NT) (R K : Nat) (cs : Nat → List Value)
  (hr : Kd.C k64 w (some ⟨R, 0, none⟩) r.length r) (hrp : P R) (hrl : r.length < 2097152) (hin : inR r = true) (hr0 : w.cell? ⟨R, r.length * 2, none⟩ = some (.int .i64 (-7))) (hr1 : w.cell? ⟨R, r.length * 2 + 1, none⟩ = some (.int .i64 7))
  (hkp : P K) (hkl : kids.length < 1099511627776) (hk : ∀ j t, kids[j]? = some t → CIn w P t (cs j))
  (ha : ∀ j, j < kids.length → ∀ i u, (cs j)[i]? = some u → w.cell? ⟨K, j * 6 + i, none⟩ = some u) (hx : w.cell? ⟨K, kids.length * 6, none⟩ = some (.int .i64 (-7))) :
  CIn w P (.mk k m lo hi r kids) [.int .i64 k, .int .i64 m, .int .i64 lo, .int .i64 hi, .slice (some ⟨R, 0, none⟩) r.length (r.length + 1), .slice (some ⟨K, 0, none⟩) kids.length (kids.length + 1)]
theorem CIn.nin {w : World} {P : Nat → Prop} {t : NT} {cs : List Value} (h : CIn w P t cs) : NIn w P t cs := by
 induction h with
 | mk k m lo hi r kids R K cs hr hrp hrl hin hr0 hr1 hkp hkl hk ha hx ih =>
  exact .mk k m lo hi r kids _ _ _ _ cs hr (fun ad e _ => by cases e; exact hrp) (by omega) hrl hin (by omega) hkl ih (fun j hj => ⟨⟨K, 0, none⟩, rfl, hkp, fun i u hu => by rw [add_plain]; exact ha j hj i u hu⟩)
theorem CIn.move {w w' : World} {P : Nat → Prop} {t : NT} {cs : List Value} (h : CIn w P t cs) (hm : ∀ b, P b → w'.heap[b]? = w.heap[b]?) : CIn w' P t cs := by
 induction h with
 | mk k m lo hi r kids R K cs hr hrp hrl hin hr0 hr1 hkp hkl hk ha hx ih =>
  have hc : ∀ b o u, P b → w.cell? ⟨b, o, none⟩ = some u → w'.cell? ⟨b, o, none⟩ = some u := fun b o u hb hu => by rw [World.cell?_of_block (w := w) (a := ⟨b, o, none⟩) (hm b hb)]; exact hu
  exact .mk k m lo hi r kids R K cs (C_move hr (fun ad e _ => by cases e; exact hrp) hm) hrp hrl hin (hc _ _ _ hrp hr0) (hc _ _ _ hrp hr1) hkp hkl ih (fun j hj i u hu => hc _ _ _ hkp (ha j hj i u hu)) (hc _ _ _ hkp hx)
theorem CIn.mono {w : World} {P P' : Nat → Prop} {t : NT} {cs : List Value} (h : CIn w P t cs) (hp : ∀ b, P b → P' b) : CIn w P' t cs := by
 induction h with
 | mk k m lo hi r kids R K cs hr hrp hrl hin hr0 hr1 hkp hkl hk ha hx ih =>
  exact .mk k m lo hi r kids R K cs hr (hp _ hrp) hrl hin hr0 hr1 (hp _ hkp) hkl ih ha hx
/-- between two rounds of copied's loop -/
structure CopSt (w wr : World) (box : Array Value) (r : List S64) (kids : List NT) (K j : Nat) (cj : Nat → List Value) : Prop where
 bel : Below w.heap.size w wr
 box : wr.heap[w.heap.size]? = some (.cells box 28 (0, 0))
 res : wr.heap[w.heap.size + 1]? = some (.cells #[.int .i64 0, .int .i64 0, .int .i64 0, .int .i64 0, .slice none 0 0, .slice none 0 0] 28 (0, 0))
 rng : Kd.C k64 wr (some ⟨w.heap.size + 2, 0, none⟩) r.length r
 r0 : wr.cell? ⟨w.heap.size + 2, r.length * 2, none⟩ = some (.int .i64 (-7))
 r1 : wr.cell? ⟨w.heap.size + 2, r.length * 2 + 1, none⟩ = some (.int .i64 7)
 kl : w.heap.size + 2 < K ∧ K < wr.heap.size
 row : RowAt wr K (kids.length + 1) cj
 len : ∀ i, i < kids.length + 1 → (cj i).length = 6
 done : ∀ i, i < j → ∀ t, kids[i]? = some t → CIn wr (fun b => K < b ∧ b < wr.heap.size) t (cj i)
theorem CopSt.next {w wr w8 : World} {box : Array Value} {r : List S64} {kids : List NT} {K j : Nat} {cj : Nat → List Value} (h : CopSt w wr box r kids K j cj)
  (hj : j < kids.length) {t : NT} (ht : kids[j]? = some t) (hb : Below wr.heap.size wr w8) {v0 v1 v2 v3 v4 v5 : Value} (hN : CIn w8 (fun b => wr.heap.size ≤ b ∧ b < w8.heap.size) t [v0, v1, v2, v3, v4, v5]) :
  CopSt w (put6 w8 K (j * 6) v0 v1 v2 v3 v4 v5) box r kids K (j + 1) (fun i => if i = j then [v0, v1, v2, v3, v4, v5] else cj i) := by
 have hg := h.kl
 have hsz := hb.size
 have hmv : ∀ b, b ≠ K → b < wr.heap.size → (put6 w8 K (j * 6) v0 v1 v2 v3 v4 v5).heap[b]? = wr.heap[b]? := fun b h1 h2 => (put6_other _ _ _ _ _ _ _ _ _ b h1).trans (hb.block b h2)
 have hc : ∀ b o u, b ≠ K → b < wr.heap.size → wr.cell? ⟨b, o, none⟩ = some u → (put6 w8 K (j * 6) v0 v1 v2 v3 v4 v5).cell? ⟨b, o, none⟩ = some u := fun b o u h1 h2 hu => by rw [World.cell?_of_block (w := wr) (a := ⟨b, o, none⟩) (hmv b h1 h2)]; exact hu
 refine ⟨put6_below (h.bel.trans (hb.mono h.bel.size)) (by omega) _ _ _ _ _ _ _, (hmv _ (by omega) (by omega)).trans h.box, (hmv _ (by omega) (by omega)).trans h.res, ?_, hc _ _ _ (by omega) (by omega) h.r0, hc _ _ _ (by omega) (by omega) h.r1, ⟨hg.1, by rw [put6_size]; omega⟩, ?_, ?_, ?_⟩
 ·exact C_move (P := fun b => b = w.heap.size + 2) h.rng (fun ad e _ => by cases e; rfl) (fun b hb' => hmv b (by omega) (by omega))
 ·exact put6_row (h.row.keep (hb.block K hg.2)) (by omega) _ _ _ _ _ _ h.len
 ·intro i hi
  by_cases hij : i = j
  ·rw [if_pos hij]; rfl
  ·rw [if_neg hij]; exact h.len i hi
 ·intro i hi t' ht'
  by_cases hij : i = j
  ·rw [if_pos hij]
   subst hij
   rw [ht] at ht'
   cases ht'
   exact (hN.move (fun b hb' => put6_other _ _ _ _ _ _ _ _ _ b (by omega))).mono (fun b hb' => by rw [put6_size]; omega)
  ·rw [if_neg hij]
   exact ((h.done i (by omega) t' ht').move (fun b hb' => hmv b (by omega) hb'.2)).mono (fun b hb' => by rw [put6_size]; omega)
end Go.Proofs.YtamhkdlcoghdbaaDoor.PCls
