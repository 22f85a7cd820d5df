/- Put together (wip/tools/pack.py): KYPClsx27, KYLTwo, KYLThree. -/
import Derived.Test.YtamhkdlcoghdbaaKYPClsx23
import Derived.Test.YtamhkdlcoghdbaaKYLRef
import Derived.Test.YtamhkdlcoghdbaaKYPClsx26
/- Out of YPClsx27 (wip/tools/prune2.py): the declarations alone that the texts of the trees name. -/
namespace Go.Proofs.Ytamhkdlcoghdbaa.PCls
open Go.RowKit Go.Proofs.YtamhkdlcoghdbaaW.PrintWords Go.Proofs.YtamhkdlcoghdbaaW.PrintLast Go.Proofs.YtamhkdlcoghdbaaW.PrintMore
attribute [local go_sem] max2_int min2_int max_two min_two max_three min_three max_four min_four   -- for this text's walks alone
set_option linter.unusedVariables false
set_option linter.unusedSimpArgs false
def dredgeref06_Right.f (k : Nat) (l0 : List (S64)) (a1 : Bool) : Option (Bool) := (dredgeref06_Norm.f k l0 a1).bind fun t485 => ((dredgeref06_Alike.f k l0 t485).bind fun t488 => (some t488))
set_option maxHeartbeats 8000000 in
set_option maxRecDepth 100000 in
theorem dredgeref06_Right.calls (k : Nat) (A0 : Option Addr) (c0 : Nat) (l0 : List (S64)) (a1 : Bool) (r : Bool) (w : World) (hr0 : Kd.C k64 w A0 l0.length l0) (hc0 : l0.length ≤ c0) (h : dredgeref06_Right.f k l0 a1 = some r) :
  Calls Try.prog 41 #[.slice A0 l0.length c0, .bool a1] w fun e w' => e = .returned (.bool r) ∧ Below w.heap.size w w' := by
 have HR0 := Aside0.mk hr0
 have HC0 := Aside0.mk hc0
 clear hr0 hc0
 have HB := Aside0.mk (Below.refl w.heap.size w)
 have H : ((dredgeref06_Norm.f k l0 a1).bind fun t485 => ((dredgeref06_Alike.f k l0 t485).bind fun t488 => (some t488))) = some r := h
 clear h
 replace H := Option.bind_eq_some_iff.mp H
 obtain ⟨t485, A30, H⟩ := H
 replace H : ((dredgeref06_Alike.f k l0 t485).bind fun t488 => (some t488)) = some r := H
 have A3 := Aside0.mk A30
 clear A30
 replace H := Option.bind_eq_some_iff.mp H
 obtain ⟨t488, A40, H⟩ := H
 replace H : (some t488) = some r := H
 have A4 := Aside0.mk A40
 clear A40
 obtain rfl := Option.some.inj H
 go_enter Try.func41, Try.ntmps41
 go_wp2_with (first | ((with_reducible refine gate_callee (f := 37) rfl ?_); refine goesL_ (some 8) rfl rfl Try.func37 (by kernel_rfl) rfl #[.slice A0 l0.length c0, .bool a1] rfl (by (try simp only [List.map_toArray, List.map_cons, List.map_nil]); first | done | rfl | (simp only [List.length_drop, List.length_take]; rfl)) ?_; (with_reducible refine (dredgeref06_Norm.calls k _ _ l0 a1 t485 _ ?side1 ?side2 A3.out).mono ?_); (case side1 => repeat (first | exact HR0.out | (with_reducible refine cA ?_ _) | (with_reducible refine cN ?_ _) | (with_reducible refine cD ?_))); (case side2 => exact HC0.out); rintro e w5 ⟨v486, rfl, ho0, hb⟩; refine ⟨_, rfl, ?_⟩; have n0_ := Aside0.mk (Kd.R_lower ho0 (below_size (by repeat (first | (with_reducible first | exact HB.out | apply wA | apply wN | apply wD) | exact HB.out)))); have n1_ := Aside0.mk (below_step (by repeat (first | (with_reducible first | exact HB.out | apply wA | apply wN | apply wD) | exact HB.out)) hb); clear HB; have HO487 := n0_; have HB := n1_; clear n0_ n1_; (try clear hb); (try clear hb2); (try clear hk); (try clear hi); (try clear ho0); obtain ⟨Ao6, co6, eo6⟩ := Kd.R_slice HO487.out; subst eo6) | ((with_reducible refine gate_callee (f := 29) rfl ?_); refine goesL_ (some 9) rfl rfl Try.func29 (by kernel_rfl) rfl #[.slice A0 l0.length c0, .slice Ao6 t485.length co6] rfl (by (try simp only [List.map_toArray, List.map_cons, List.map_nil]); first | done | rfl | (simp only [List.length_drop, List.length_take]; rfl)) ?_; (with_reducible refine (dredgeref06_Alike.calls k _ _ l0 _ _ t485 t488 _ ?side1 ?side2 ?side3 ?side4 A4.out).mono ?_); (case side1 => repeat (first | exact (Kd.C_below HR0.out HB.out) | (with_reducible refine cA ?_ _) | (with_reducible refine cN ?_ _) | (with_reducible refine cD ?_))); (case side2 => exact HC0.out); (case side3 => repeat (first | exact (rR HO487.out).2.2 | (with_reducible refine cA ?_ _) | (with_reducible refine cN ?_ _) | (with_reducible refine cD ?_))); (case side4 => exact (rR HO487.out).2.1); rintro e w' ⟨rfl, ⟨nd, rfl⟩⟩; refine ⟨_, rfl, ?_⟩))
 go_ret
 exact ⟨by first | rfl | (simp [errW_none, errW_some] <;> rfl) | (simp [*, errW_none, errW_some] <;> rfl), by repeat (first | (with_reducible first | exact HB.out | apply wA | apply wN | apply wD) | exact HB.out)⟩
end Go.Proofs.Ytamhkdlcoghdbaa.PCls
/- Out of YLTwo (wip/tools/prune2.py): the declarations alone that the texts of the trees name. -/
namespace Go.Proofs.Ytamhkdlcoghdbaa.PCls
open Go.RowKit Go.Proofs.YtamhkdlcoghdbaaW.PrintWords Go.Proofs.YtamhkdlcoghdbaaW.PrintLast Go.Proofs.YtamhkdlcoghdbaaW.PrintMore
set_option linter.unusedVariables false
set_option linter.unusedSimpArgs false
theorem wrap_succ (i : Nat) (h : i < 8796093022208) : wrap64 ((i : Int) + 1) = ((i + 1 : Nat) : Int) := by rw [w64_lit _ (by omega) (by omega)]; omega
theorem mx_max (a b : Int) : mx a b = max a b := by unfold mx; omega
theorem mn_min (a b : Int) : mn a b = min a b := by unfold mn; omega
def pairs (r : S64) (b : List S64) : List S64 := b.map fun s => ⟨max r.f0 s.f0, min r.f1 s.f1⟩
def allPairs (a b : List S64) : List S64 := a.flatMap fun r => pairs r b
theorem pairs_length (r : S64) (b : List S64) : (pairs r b).length = b.length := by simp [pairs]
theorem refand_inner (a b : List S64) (i : Nat) (hi : i < a.length) (ha : a.length < 8796093022208) (hb : b.length < 8796093022208) (R : List S64) : ∀ (d j : Nat) (out : List S64), j + d = b.length → out.length + d < 8796093022208 →
  Ends (fun k => dredgeref06_And.l0 k a b (out ++ pairs a[i] (b.drop j)) ((i + 1 : Nat) : Int)) R → Ends (fun k => dredgeref06_And.l1 k a b out (i : Int) (j : Int)) R := by
 intro d
 induction d with
 | zero =>
  intro j out hd ho h
  rw [List.drop_of_length_le (by omega), show pairs a[i] [] = [] from rfl, List.append_nil] at h
  refine Ends.succ h fun k => ?_
  simp only [dredgeref06_And.l1]
  rw [if_neg (by omega), wrap_succ i (by omega)]
 | succ d ih =>
  intro j out hd ho h
  have hj : j < b.length := by omega
  have hdrop : b.drop j = b[j] :: b.drop (j + 1) := List.drop_eq_getElem_cons hj
  refine Ends.succ (ih (j + 1) (out ++ [⟨max a[i].f0 b[j].f0, min a[i].f1 b[j].f1⟩]) (by omega) (by simp; omega) ?_) fun k => ?_
  ·rw [List.append_assoc]
   rw [hdrop] at h
   exact h
  ·simp only [dredgeref06_And.l1]
   rw [if_pos (by omega), if_pos (by omega), if_pos (by omega), if_pos (by omega), if_pos (by omega), rd_at a i hi, rd_at b j hj, wrap_succ j (by omega), mx_max, mn_min]
theorem refand_outer (a b : List S64) (ha : a.length < 8796093022208) (hb : b.length < 8796093022208) : ∀ (d i : Nat) (out : List S64), i + d = a.length → out.length + d * b.length < 8796093022208 → inR (out ++ allPairs (a.drop i) b) = true →
  Ends (fun k => dredgeref06_And.l0 k a b out (i : Int)) (Cls.cls (out ++ allPairs (a.drop i) b)) := by
 intro d
 induction d with
 | zero =>
  intro i out hd ho hin
  rw [List.drop_of_length_le (by omega), show allPairs [] b = [] from rfl, List.append_nil] at hin ⊢
  refine Ends.succ (g := fun k => (dredgeref06_Class.f k out).bind fun t => some t) (Ends.bind (refclass_ends out (by omega) hin) (Ends.some_ _)) fun k => ?_
  simp only [dredgeref06_And.l0]
  rw [if_neg (by omega)]
 | succ d ih =>
  intro i out hd ho hin
  have hi : i < a.length := by omega
  have hdrop : a.drop i = a[i] :: a.drop (i + 1) := List.drop_eq_getElem_cons hi
  have hp : allPairs (a.drop i) b = pairs a[i] b ++ allPairs (a.drop (i + 1)) b := by rw [hdrop]; rfl
  rw [Nat.succ_mul] at ho
  rw [hp, ← List.append_assoc] at hin ⊢
  refine Ends.succ (refand_inner a b i hi ha hb _ b.length 0 out (by omega) (by omega) ?_) fun k => ?_
  ·rw [List.drop_zero]
   exact ih (i + 1) (out ++ pairs a[i] b) (by omega) (by rw [List.length_append, pairs_length]; omega) hin
  ·simp only [dredgeref06_And.l0]
   rw [if_pos (by omega)]
   rfl
theorem mem_pairs (r : S64) (b : List S64) (c : Int) : Cls.Mem (pairs r b) c ↔ (r.f0 ≤ c ∧ c ≤ r.f1) ∧ Cls.Mem b c := by
 constructor
 ·rintro ⟨x, hx, h0, h1⟩
  obtain ⟨s, hs, rfl⟩ := List.mem_map.1 hx
  simp only at h0 h1
  exact ⟨by omega, s, hs, by omega, by omega⟩
 ·rintro ⟨h, s, hs, h0, h1⟩
  exact ⟨_, List.mem_map.2 ⟨s, hs, rfl⟩, by simp only; omega, by simp only; omega⟩
theorem mem_allPairs (a b : List S64) (c : Int) : Cls.Mem (allPairs a b) c ↔ Cls.Mem a c ∧ Cls.Mem b c := by
 induction a with
 | nil => simp [allPairs, Cls.mem_nil]
 | cons r a ih =>
  rw [show allPairs (r :: a) b = pairs r b ++ allPairs a b from rfl, Cls.mem_append, ih, mem_pairs, Cls.mem_cons]
  constructor
  ·rintro (⟨h, g⟩ | ⟨h, g⟩)
   ·exact ⟨.inl h, g⟩
   ·exact ⟨.inr h, g⟩
  ·rintro ⟨h | h, g⟩
   ·exact .inl ⟨h, g⟩
   ·exact .inr ⟨h, g⟩
theorem allPairs_inR (a b : List S64) (ha : inR a = true) (hb : inR b = true) : inR (allPairs a b) = true := by
 refine (inR_iff _).2 fun x hx => ?_
 obtain ⟨r, hr, hx⟩ := List.mem_flatMap.1 hx
 obtain ⟨s, hs, rfl⟩ := List.mem_map.1 hx
 have h1 := (inR_iff a).1 ha r hr
 have h2 := (inR_iff b).1 hb s hs
 simp only
 omega
theorem refand_ends (a b : List S64) (h1 : a.length < 2097152) (h2 : b.length < 2097152) (ha : inR a = true) (hb : inR b = true) : Ends (fun k => dredgeref06_And.f k a b) (Cls.and_ a b) := by
 unfold dredgeref06_And.f
 refine Ends.bind (refclass_ends a (by omega) ha) (Ends.bind (refclass_ends b (by omega) hb) ?_)
 have l1 := cls_length a
 have l2 := cls_length b
 have hm : (Cls.cls a).length * (Cls.cls b).length ≤ 2097152 * 2097152 := Nat.mul_le_mul (by omega) (by omega)
 have h := refand_outer (Cls.cls a) (Cls.cls b) (by omega) (by omega) (Cls.cls a).length 0 [] (by omega) (by simp; omega) (by simpa using allPairs_inR _ _ (inR_cls a ha) (inR_cls b hb))
 have e : Cls.cls (allPairs (Cls.cls a) (Cls.cls b)) = Cls.and_ a b := (Cls.cls_unique (Cls.and_can a b) fun c => by rw [mem_allPairs, Cls.cls_mem, Cls.cls_mem, Cls.and_mem]).symm
 simp only [List.drop_zero, List.nil_append] at h
 rw [e] at h
 exact h
theorem refnorm_ends (l : List S64) (m : Bool) (h1 : l.length < 2097152) (h : inR l = true) : Ends (fun k => dredgeref06_Norm.f k l m) (Cls.norm l m) := by
 unfold dredgeref06_Norm.f
 rw [show dredgeref06_All.f m = some (Cls.all m) by cases m <;> rfl]
 simp only [Option.bind_some]
 exact Ends.bind (refand_ends l (Cls.all m) h1 (by have := all_length m; omega) h (all_inR m)) (Ends.some_ _)
end Go.Proofs.Ytamhkdlcoghdbaa.PCls
/- Out of YLThree (wip/tools/prune2.py): the declarations alone that the texts of the trees name. -/
namespace Go.Proofs.Ytamhkdlcoghdbaa.PCls
open Go.RowKit Go.Proofs.YtamhkdlcoghdbaaW.PrintWords Go.Proofs.YtamhkdlcoghdbaaW.PrintLast Go.Proofs.YtamhkdlcoghdbaaW.PrintMore
set_option linter.unusedVariables false
set_option linter.unusedSimpArgs false
theorem reffold_low (R : List S64) : ∀ (s p out : List S64), (p ++ s).length < 8796093022208 → out.length + s.length < 8796093022208 → (∀ x, x ∈ s → 0 ≤ x.f0 ∧ x.f0 ≤ 1000 ∧ 0 ≤ x.f1 ∧ x.f1 ≤ 1000) →
  Ends (fun k => (dredgeref06_Class.f k (out ++ Cls.shift s (-32))).bind fun t => some t) R → Ends (fun k => dredgeref06_Fold.l1 k out (p ++ s) (p.length : Int)) R := by
 intro s
 induction s with
 | nil =>
  intro p out hl ho hx h
  rw [show Cls.shift [] (-32) = [] from rfl, List.append_nil] at h
  refine Ends.succ h fun k => ?_
  simp only [dredgeref06_Fold.l1]
  rw [if_neg (by simp)]
 | cons x s ih =>
  intro p out hl ho hx h
  have h0 := hx x List.mem_cons_self
  have hl2 : (p.length : Int) < ((p ++ x :: s).length : Int) := by simp; omega
  simp at hl ho
  have hnext := ih (p ++ [x]) (out ++ [⟨x.f0 - 32, x.f1 - 32⟩]) (by simp; omega) (by simp; omega) (fun y hy => hx y (List.mem_cons_of_mem _ hy)) (by rw [List.append_assoc]; exact h)
  simp only [List.append_assoc, List.singleton_append, List.length_append, List.length_singleton] at hnext
  rw [show ((p.length + 1 : Nat) : Int) = (p.length : Int) + 1 by omega] at hnext
  refine Ends.succ hnext fun k => ?_
  simp only [dredgeref06_Fold.l1]
  rw [if_pos hl2, if_pos (by omega), if_pos (by omega), rd_mid, w64_lit (x.f0 - 32) (by omega) (by omega), w64_lit (x.f1 - 32) (by omega) (by omega), w64_lit ((p.length : Int) + 1) (by omega) (by omega)]
theorem reffold_up (R t : List S64) (ht : t.length < 4398046511104) (hxt : ∀ x, x ∈ t → 0 ≤ x.f0 ∧ x.f0 ≤ 1000 ∧ 0 ≤ x.f1 ∧ x.f1 ≤ 1000) : ∀ (s p out : List S64), (p ++ s).length < 4398046511104 → out.length + s.length < 4398046511104 → (∀ x, x ∈ s → 0 ≤ x.f0 ∧ x.f0 ≤ 1000 ∧ 0 ≤ x.f1 ∧ x.f1 ≤ 1000) →
  Ends (fun k => (dredgeref06_Class.f k (out ++ Cls.shift s 32 ++ Cls.shift t (-32))).bind fun t => some t) R → Ends (fun k => dredgeref06_Fold.l0 k out (p ++ s) t (p.length : Int)) R := by
 intro s
 induction s with
 | nil =>
  intro p out hl ho hx h
  rw [show Cls.shift [] 32 = [] from rfl, List.append_nil] at h
  have h2 := reffold_low R t [] out (by simp; omega) (by simp at ho; omega) hxt h
  refine Ends.succ h2 fun k => ?_
  simp only [dredgeref06_Fold.l0]
  rw [if_neg (by simp)]
  rfl
 | cons x s ih =>
  intro p out hl ho hx h
  have h0 := hx x List.mem_cons_self
  have hl2 : (p.length : Int) < ((p ++ x :: s).length : Int) := by simp; omega
  simp at hl ho
  have hnext := ih (p ++ [x]) (out ++ [⟨x.f0 + 32, x.f1 + 32⟩]) (by simp; omega) (by simp; omega) (fun y hy => hx y (List.mem_cons_of_mem _ hy)) (by rw [show out ++ [(⟨x.f0 + 32, x.f1 + 32⟩ : S64)] ++ Cls.shift s 32 = out ++ Cls.shift (x :: s) 32 by simp [Cls.shift]]; exact h)
  simp only [List.append_assoc, List.singleton_append, List.length_append, List.length_singleton] at hnext
  rw [show ((p.length + 1 : Nat) : Int) = (p.length : Int) + 1 by omega] at hnext
  refine Ends.succ hnext fun k => ?_
  simp only [dredgeref06_Fold.l0]
  rw [if_pos hl2, if_pos (by omega), if_pos (by omega), rd_mid, w64_lit (x.f0 + 32) (by omega) (by omega), w64_lit (x.f1 + 32) (by omega) (by omega), w64_lit ((p.length : Int) + 1) (by omega) (by omega)]
theorem between_small (l : List S64) (lo hi : Int) (h0 : 0 ≤ lo) (h1 : lo ≤ hi) (h2 : hi ≤ 1000) : ∀ x, x ∈ Cls.and_ l [⟨lo, hi⟩] → 0 ≤ x.f0 ∧ x.f0 ≤ 1000 ∧ 0 ≤ x.f1 ∧ x.f1 ≤ 1000 := by
 intro x hx
 have hle := (Cls.and_can l [⟨lo, hi⟩]).2 x hx
 have h3 := (Cls.and_mem l [⟨lo, hi⟩] x.f0).1 ⟨x, hx, Int.le_refl _, hle⟩
 have h4 := (Cls.and_mem l [⟨lo, hi⟩] x.f1).1 ⟨x, hx, hle, Int.le_refl _⟩
 rw [mem_one] at h3 h4
 omega
theorem reffold_ends (l : List S64) (h1 : l.length < 2097152) (h : inR l = true) : Ends (fun k => dredgeref06_Fold.f k l) (Cls.fold l) := by
 unfold dredgeref06_Fold.f
 have hA : inR [⟨65, 90⟩] = true := by decide
 have hB : inR [⟨97, 122⟩] = true := by decide
 refine Ends.bind (refclass_ends l (by omega) h) (Ends.bind (refand_ends l [⟨65, 90⟩] h1 (by simp) h hA) (Ends.bind (refand_ends l [⟨97, 122⟩] h1 (by simp) h hB) ?_))
 have eA : Cls.and_ l [⟨65, 90⟩] = Cls.inter (Cls.cls l) [⟨65, 90⟩] := by unfold Cls.and_; rw [cls_of_can (can_one 65 90 (by omega))]
 have eB : Cls.and_ l [⟨97, 122⟩] = Cls.inter (Cls.cls l) [⟨97, 122⟩] := by unfold Cls.and_; rw [cls_of_can (can_one 97 122 (by omega))]
 have lA := between_length l 65 90 (by omega)
 have lB := between_length l 97 122 (by omega)
 rw [← eA] at lA
 rw [← eB] at lB
 have lC := cls_length l
 have iA := between_inR l 65 90 32 (by omega) (by omega) (by omega) (by omega)
 have iB := between_inR l 97 122 (-32) (by omega) (by omega) (by omega) (by omega)
 rw [← eA] at iA
 rw [← eB] at iB
 have hin : inR (Cls.cls l ++ Cls.shift (Cls.and_ l [⟨65, 90⟩]) 32 ++ Cls.shift (Cls.and_ l [⟨97, 122⟩]) (-32)) = true := by
  rw [inR_append, inR_append]
  exact ⟨⟨inR_cls l h, iA⟩, iB⟩
 have hlen : (Cls.cls l ++ Cls.shift (Cls.and_ l [⟨65, 90⟩]) 32 ++ Cls.shift (Cls.and_ l [⟨97, 122⟩]) (-32)).length < 8796093022208 := by
  rw [List.length_append, List.length_append, shift_length, shift_length]
  omega
 have e : Cls.cls (Cls.cls l ++ Cls.shift (Cls.and_ l [⟨65, 90⟩]) 32 ++ Cls.shift (Cls.and_ l [⟨97, 122⟩]) (-32)) = Cls.fold l := (Cls.cls_unique (Cls.fold_can l) fun c => by
  rw [Cls.fold_mem, Cls.mem_append, Cls.mem_append, Cls.cls_mem, shift_mem, shift_mem, Cls.and_mem, Cls.and_mem, mem_one, mem_one, or_assoc, show c - -32 = c + 32 by omega]).symm
 have hcl := Ends.bind (refclass_ends _ hlen hin) (Ends.some_ (Cls.cls (Cls.cls l ++ Cls.shift (Cls.and_ l [⟨65, 90⟩]) 32 ++ Cls.shift (Cls.and_ l [⟨97, 122⟩]) (-32))))
 rw [e] at hcl
 have := reffold_up (Cls.fold l) (Cls.and_ l [⟨97, 122⟩]) (by omega) (between_small l 97 122 (by omega) (by omega) (by omega)) (Cls.and_ l [⟨65, 90⟩]) [] (Cls.cls l) (by simp; omega) (by omega) (between_small l 65 90 (by omega) (by omega) (by omega)) hcl
 simpa using this
theorem refright_ends (l : List S64) (m : Bool) (h1 : l.length < 2097152) (h : inR l = true) : Ends (fun k => dredgeref06_Right.f k l m) (decide (l = Cls.norm l m)) := by
 unfold dredgeref06_Right.f
 exact Ends.bind (refnorm_ends l m h1 h) (Ends.bind (alike_ends _ _ (by omega)) (Ends.some_ _))
end Go.Proofs.Ytamhkdlcoghdbaa.PCls
