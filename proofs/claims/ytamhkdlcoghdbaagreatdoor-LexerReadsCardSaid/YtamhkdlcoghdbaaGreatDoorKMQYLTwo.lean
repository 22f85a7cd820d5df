/- Put together (wip/tools/pack.py): QYLTwo, QYLThree, QRb, QRc. -/
import Derived.Test.YtamhkdlcoghdbaaGreatDoorKQYLRef
import Derived.Test.YtamhkdlcoghdbaaGreatDoorKQYPClsx26
import Derived.Test.YtamhkdlcoghdbaaGreatDoorKMQNu
/- Out of YLTwo (wip/tools/prune2.py): the declarations alone that the texts of the trees name. -/
namespace Go.Proofs.YtamhkdlcoghdbaaGreatDoor.PCls
open Go.RowKit Go.Proofs.YtamhkdlcoghdbaaGreatDoorW.PrintWords Go.Proofs.YtamhkdlcoghdbaaGreatDoorW.PrintLast Go.Proofs.YtamhkdlcoghdbaaGreatDoorW.PrintMore
set_option linter.unusedVariables false
set_option linter.unusedSimpArgs false
theorem wrap_succ (i : Nat) (h : i < 8796093022208) : wrap64 ((i : Int) + 1) = ((i + 1 : Nat) : Int) := by rw [w64_lit _ (by omega) (by omega)]; omega
theorem mx_max (a b : Int) : mx a b = max a b := by unfold mx; omega
theorem mn_min (a b : Int) : mn a b = min a b := by unfold mn; omega
def pairs (r : S64) (b : List S64) : List S64 := b.map fun s => ⟨max r.f0 s.f0, min r.f1 s.f1⟩
def allPairs (a b : List S64) : List S64 := a.flatMap fun r => pairs r b
theorem pairs_length (r : S64) (b : List S64) : (pairs r b).length = b.length := by simp [pairs]
theorem refand_inner (a b : List S64) (i : Nat) (hi : i < a.length) (ha : a.length < 8796093022208) (hb : b.length < 8796093022208) (R : List S64) : ∀ (d j : Nat) (out : List S64), j + d = b.length → out.length + d < 8796093022208 →
  Ends (fun k => dredgeref06_And.l0 k a b (out ++ pairs a[i] (b.drop j)) ((i + 1 : Nat) : Int)) R → Ends (fun k => dredgeref06_And.l1 k a b out (i : Int) (j : Int)) R := by
 intro d
 induction d with
 | zero =>
  intro j out hd ho h
  rw [List.drop_of_length_le (by omega), show pairs a[i] [] = [] from rfl, List.append_nil] at h
  refine Ends.succ h fun k => ?_
  simp only [dredgeref06_And.l1]
  rw [if_neg (by omega), wrap_succ i (by omega)]
 | succ d ih =>
  intro j out hd ho h
  have hj : j < b.length := by omega
  have hdrop : b.drop j = b[j] :: b.drop (j + 1) := List.drop_eq_getElem_cons hj
  refine Ends.succ (ih (j + 1) (out ++ [⟨max a[i].f0 b[j].f0, min a[i].f1 b[j].f1⟩]) (by omega) (by simp; omega) ?_) fun k => ?_
  ·rw [List.append_assoc]
   rw [hdrop] at h
   exact h
  ·simp only [dredgeref06_And.l1]
   rw [if_pos (by omega), if_pos (by omega), if_pos (by omega), if_pos (by omega), if_pos (by omega), rd_at a i hi, rd_at b j hj, wrap_succ j (by omega), mx_max, mn_min]
theorem refand_outer (a b : List S64) (ha : a.length < 8796093022208) (hb : b.length < 8796093022208) : ∀ (d i : Nat) (out : List S64), i + d = a.length → out.length + d * b.length < 8796093022208 → inR (out ++ allPairs (a.drop i) b) = true →
  Ends (fun k => dredgeref06_And.l0 k a b out (i : Int)) (Cls.cls (out ++ allPairs (a.drop i) b)) := by
 intro d
 induction d with
 | zero =>
  intro i out hd ho hin
  rw [List.drop_of_length_le (by omega), show allPairs [] b = [] from rfl, List.append_nil] at hin ⊢
  refine Ends.succ (g := fun k => (dredgeref06_Class.f k out).bind fun t => some t) (Ends.bind (refclass_ends out (by omega) hin) (Ends.some_ _)) fun k => ?_
  simp only [dredgeref06_And.l0]
  rw [if_neg (by omega)]
 | succ d ih =>
  intro i out hd ho hin
  have hi : i < a.length := by omega
  have hdrop : a.drop i = a[i] :: a.drop (i + 1) := List.drop_eq_getElem_cons hi
  have hp : allPairs (a.drop i) b = pairs a[i] b ++ allPairs (a.drop (i + 1)) b := by rw [hdrop]; rfl
  rw [Nat.succ_mul] at ho
  rw [hp, ← List.append_assoc] at hin ⊢
  refine Ends.succ (refand_inner a b i hi ha hb _ b.length 0 out (by omega) (by omega) ?_) fun k => ?_
  ·rw [List.drop_zero]
   exact ih (i + 1) (out ++ pairs a[i] b) (by omega) (by rw [List.length_append, pairs_length]; omega) hin
  ·simp only [dredgeref06_And.l0]
   rw [if_pos (by omega)]
   rfl
theorem mem_pairs (r : S64) (b : List S64) (c : Int) : Cls.Mem (pairs r b) c ↔ (r.f0 ≤ c ∧ c ≤ r.f1) ∧ Cls.Mem b c := by
 constructor
 ·rintro ⟨x, hx, h0, h1⟩
  obtain ⟨s, hs, rfl⟩ := List.mem_map.1 hx
  simp only at h0 h1
  exact ⟨by omega, s, hs, by omega, by omega⟩
 ·rintro ⟨h, s, hs, h0, h1⟩
  exact ⟨_, List.mem_map.2 ⟨s, hs, rfl⟩, by simp only; omega, by simp only; omega⟩
theorem mem_allPairs (a b : List S64) (c : Int) : Cls.Mem (allPairs a b) c ↔ Cls.Mem a c ∧ Cls.Mem b c := by
 induction a with
 | nil => simp [allPairs, Cls.mem_nil]
 | cons r a ih =>
  rw [show allPairs (r :: a) b = pairs r b ++ allPairs a b from rfl, Cls.mem_append, ih, mem_pairs, Cls.mem_cons]
  constructor
  ·rintro (⟨h, g⟩ | ⟨h, g⟩)
   ·exact ⟨.inl h, g⟩
   ·exact ⟨.inr h, g⟩
  ·rintro ⟨h | h, g⟩
   ·exact .inl ⟨h, g⟩
   ·exact .inr ⟨h, g⟩
theorem allPairs_inR (a b : List S64) (ha : inR a = true) (hb : inR b = true) : inR (allPairs a b) = true := by
 refine (inR_iff _).2 fun x hx => ?_
 obtain ⟨r, hr, hx⟩ := List.mem_flatMap.1 hx
 obtain ⟨s, hs, rfl⟩ := List.mem_map.1 hx
 have h1 := (inR_iff a).1 ha r hr
 have h2 := (inR_iff b).1 hb s hs
 simp only
 omega
theorem refand_ends (a b : List S64) (h1 : a.length < 2097152) (h2 : b.length < 2097152) (ha : inR a = true) (hb : inR b = true) : Ends (fun k => dredgeref06_And.f k a b) (Cls.and_ a b) := by
 unfold dredgeref06_And.f
 refine Ends.bind (refclass_ends a (by omega) ha) (Ends.bind (refclass_ends b (by omega) hb) ?_)
 have l1 := cls_length a
 have l2 := cls_length b
 have hm : (Cls.cls a).length * (Cls.cls b).length ≤ 2097152 * 2097152 := Nat.mul_le_mul (by omega) (by omega)
 have h := refand_outer (Cls.cls a) (Cls.cls b) (by omega) (by omega) (Cls.cls a).length 0 [] (by omega) (by simp; omega) (by simpa using allPairs_inR _ _ (inR_cls a ha) (inR_cls b hb))
 have e : Cls.cls (allPairs (Cls.cls a) (Cls.cls b)) = Cls.and_ a b := (Cls.cls_unique (Cls.and_can a b) fun c => by rw [mem_allPairs, Cls.cls_mem, Cls.cls_mem, Cls.and_mem]).symm
 simp only [List.drop_zero, List.nil_append] at h
 rw [e] at h
 exact h
end Go.Proofs.YtamhkdlcoghdbaaGreatDoor.PCls
/- Out of YLThree (wip/tools/prune2.py): the declarations alone that the texts of the trees name. -/
namespace Go.Proofs.YtamhkdlcoghdbaaGreatDoor.PCls
open Go.RowKit Go.Proofs.YtamhkdlcoghdbaaGreatDoorW.PrintWords Go.Proofs.YtamhkdlcoghdbaaGreatDoorW.PrintLast Go.Proofs.YtamhkdlcoghdbaaGreatDoorW.PrintMore
set_option linter.unusedVariables false
set_option linter.unusedSimpArgs false
theorem reffold_low (R : List S64) : ∀ (s p out : List S64), (p ++ s).length < 8796093022208 → out.length + s.length < 8796093022208 → (∀ x, x ∈ s → 0 ≤ x.f0 ∧ x.f0 ≤ 1000 ∧ 0 ≤ x.f1 ∧ x.f1 ≤ 1000) →
  Ends (fun k => (dredgeref06_Class.f k (out ++ Cls.shift s (-32))).bind fun t => some t) R → Ends (fun k => dredgeref06_Fold.l1 k out (p ++ s) (p.length : Int)) R := by
 intro s
 induction s with
 | nil =>
  intro p out hl ho hx h
  rw [show Cls.shift [] (-32) = [] from rfl, List.append_nil] at h
  refine Ends.succ h fun k => ?_
  simp only [dredgeref06_Fold.l1]
  rw [if_neg (by simp)]
 | cons x s ih =>
  intro p out hl ho hx h
  have h0 := hx x List.mem_cons_self
  have hl2 : (p.length : Int) < ((p ++ x :: s).length : Int) := by simp; omega
  simp at hl ho
  have hnext := ih (p ++ [x]) (out ++ [⟨x.f0 - 32, x.f1 - 32⟩]) (by simp; omega) (by simp; omega) (fun y hy => hx y (List.mem_cons_of_mem _ hy)) (by rw [List.append_assoc]; exact h)
  simp only [List.append_assoc, List.singleton_append, List.length_append, List.length_singleton] at hnext
  rw [show ((p.length + 1 : Nat) : Int) = (p.length : Int) + 1 by omega] at hnext
  refine Ends.succ hnext fun k => ?_
  simp only [dredgeref06_Fold.l1]
  rw [if_pos hl2, if_pos (by omega), if_pos (by omega), rd_mid, w64_lit (x.f0 - 32) (by omega) (by omega), w64_lit (x.f1 - 32) (by omega) (by omega), w64_lit ((p.length : Int) + 1) (by omega) (by omega)]
theorem reffold_up (R t : List S64) (ht : t.length < 4398046511104) (hxt : ∀ x, x ∈ t → 0 ≤ x.f0 ∧ x.f0 ≤ 1000 ∧ 0 ≤ x.f1 ∧ x.f1 ≤ 1000) : ∀ (s p out : List S64), (p ++ s).length < 4398046511104 → out.length + s.length < 4398046511104 → (∀ x, x ∈ s → 0 ≤ x.f0 ∧ x.f0 ≤ 1000 ∧ 0 ≤ x.f1 ∧ x.f1 ≤ 1000) →
  Ends (fun k => (dredgeref06_Class.f k (out ++ Cls.shift s 32 ++ Cls.shift t (-32))).bind fun t => some t) R → Ends (fun k => dredgeref06_Fold.l0 k out (p ++ s) t (p.length : Int)) R := by
 intro s
 induction s with
 | nil =>
  intro p out hl ho hx h
  rw [show Cls.shift [] 32 = [] from rfl, List.append_nil] at h
  have h2 := reffold_low R t [] out (by simp; omega) (by simp at ho; omega) hxt h
  refine Ends.succ h2 fun k => ?_
  simp only [dredgeref06_Fold.l0]
  rw [if_neg (by simp)]
  rfl
 | cons x s ih =>
  intro p out hl ho hx h
  have h0 := hx x List.mem_cons_self
  have hl2 : (p.length : Int) < ((p ++ x :: s).length : Int) := by simp; omega
  simp at hl ho
  have hnext := ih (p ++ [x]) (out ++ [⟨x.f0 + 32, x.f1 + 32⟩]) (by simp; omega) (by simp; omega) (fun y hy => hx y (List.mem_cons_of_mem _ hy)) (by rw [show out ++ [(⟨x.f0 + 32, x.f1 + 32⟩ : S64)] ++ Cls.shift s 32 = out ++ Cls.shift (x :: s) 32 by simp [Cls.shift]]; exact h)
  simp only [List.append_assoc, List.singleton_append, List.length_append, List.length_singleton] at hnext
  rw [show ((p.length + 1 : Nat) : Int) = (p.length : Int) + 1 by omega] at hnext
  refine Ends.succ hnext fun k => ?_
  simp only [dredgeref06_Fold.l0]
  rw [if_pos hl2, if_pos (by omega), if_pos (by omega), rd_mid, w64_lit (x.f0 + 32) (by omega) (by omega), w64_lit (x.f1 + 32) (by omega) (by omega), w64_lit ((p.length : Int) + 1) (by omega) (by omega)]
theorem between_small (l : List S64) (lo hi : Int) (h0 : 0 ≤ lo) (h1 : lo ≤ hi) (h2 : hi ≤ 1000) : ∀ x, x ∈ Cls.and_ l [⟨lo, hi⟩] → 0 ≤ x.f0 ∧ x.f0 ≤ 1000 ∧ 0 ≤ x.f1 ∧ x.f1 ≤ 1000 := by
 intro x hx
 have hle := (Cls.and_can l [⟨lo, hi⟩]).2 x hx
 have h3 := (Cls.and_mem l [⟨lo, hi⟩] x.f0).1 ⟨x, hx, Int.le_refl _, hle⟩
 have h4 := (Cls.and_mem l [⟨lo, hi⟩] x.f1).1 ⟨x, hx, hle, Int.le_refl _⟩
 rw [mem_one] at h3 h4
 omega
theorem reffold_ends (l : List S64) (h1 : l.length < 2097152) (h : inR l = true) : Ends (fun k => dredgeref06_Fold.f k l) (Cls.fold l) := by
 unfold dredgeref06_Fold.f
 have hA : inR [⟨65, 90⟩] = true := by decide
 have hB : inR [⟨97, 122⟩] = true := by decide
 refine Ends.bind (refclass_ends l (by omega) h) (Ends.bind (refand_ends l [⟨65, 90⟩] h1 (by simp) h hA) (Ends.bind (refand_ends l [⟨97, 122⟩] h1 (by simp) h hB) ?_))
 have eA : Cls.and_ l [⟨65, 90⟩] = Cls.inter (Cls.cls l) [⟨65, 90⟩] := by unfold Cls.and_; rw [cls_of_can (can_one 65 90 (by omega))]
 have eB : Cls.and_ l [⟨97, 122⟩] = Cls.inter (Cls.cls l) [⟨97, 122⟩] := by unfold Cls.and_; rw [cls_of_can (can_one 97 122 (by omega))]
 have lA := between_length l 65 90 (by omega)
 have lB := between_length l 97 122 (by omega)
 rw [← eA] at lA
 rw [← eB] at lB
 have lC := cls_length l
 have iA := between_inR l 65 90 32 (by omega) (by omega) (by omega) (by omega)
 have iB := between_inR l 97 122 (-32) (by omega) (by omega) (by omega) (by omega)
 rw [← eA] at iA
 rw [← eB] at iB
 have hin : inR (Cls.cls l ++ Cls.shift (Cls.and_ l [⟨65, 90⟩]) 32 ++ Cls.shift (Cls.and_ l [⟨97, 122⟩]) (-32)) = true := by
  rw [inR_append, inR_append]
  exact ⟨⟨inR_cls l h, iA⟩, iB⟩
 have hlen : (Cls.cls l ++ Cls.shift (Cls.and_ l [⟨65, 90⟩]) 32 ++ Cls.shift (Cls.and_ l [⟨97, 122⟩]) (-32)).length < 8796093022208 := by
  rw [List.length_append, List.length_append, shift_length, shift_length]
  omega
 have e : Cls.cls (Cls.cls l ++ Cls.shift (Cls.and_ l [⟨65, 90⟩]) 32 ++ Cls.shift (Cls.and_ l [⟨97, 122⟩]) (-32)) = Cls.fold l := (Cls.cls_unique (Cls.fold_can l) fun c => by
  rw [Cls.fold_mem, Cls.mem_append, Cls.mem_append, Cls.cls_mem, shift_mem, shift_mem, Cls.and_mem, Cls.and_mem, mem_one, mem_one, or_assoc, show c - -32 = c + 32 by omega]).symm
 have hcl := Ends.bind (refclass_ends _ hlen hin) (Ends.some_ (Cls.cls (Cls.cls l ++ Cls.shift (Cls.and_ l [⟨65, 90⟩]) 32 ++ Cls.shift (Cls.and_ l [⟨97, 122⟩]) (-32))))
 rw [e] at hcl
 have := reffold_up (Cls.fold l) (Cls.and_ l [⟨97, 122⟩]) (by omega) (between_small l 97 122 (by omega) (by omega) (by omega)) (Cls.and_ l [⟨65, 90⟩]) [] (Cls.cls l) (by simp; omega) (by omega) (between_small l 65 90 (by omega) (by omega) (by omega)) hcl
 simpa using this
end Go.Proofs.YtamhkdlcoghdbaaGreatDoor.PCls
/- Out of Rb (wip/tools/prune2.py): the declarations alone that the texts of the trees name. -/
namespace Go.Proofs.YtamhkdlcoghdbaaGreatDoor.PCls
open Go.RowKit Go.Shelf Go.Proofs.YtamhkdlcoghdbaaGreatDoorW.PrintWords Go.Proofs.YtamhkdlcoghdbaaGreatDoorW.PrintLast Go.Proofs.YtamhkdlcoghdbaaGreatDoorW.PrintMore
set_option linter.unusedVariables false
set_option linter.unusedSimpArgs false
set_option maxHeartbeats 4000000 in
set_option maxRecDepth 100000 in
theorem ropens_calls (W : World) (B base : Nat) (s : ByteArray) (chars fold : Bool) (x : Lx.St) (V : Value) (h : RSt W B base s chars fold x V) (hk : ∀ t, t ∈ x.out → 1 ≤ t.kind) :
  Calls Tryz.prog 85 #[.pointer (some ⟨B, 0, none⟩)] W fun e w' => e = .returned (.bool (Lx.opens x)) ∧ w' = W := by
 obtain ⟨A, c, rfl, hc, hA⟩ := h.toks.form
 have c4 := h.sc.c4
 have hlen := h.len
 have hsz := h.sz
 have hss := h.ss
 by_cases h0 : x.out.length = 0
 ·have HX := Lib.hid (show Lx.opens x = true by have e := List.length_eq_zero_iff.1 h0; simp [Lx.begins, Lx.opens, Lx.last, e])
  rw [h0] at c4
  clear h hA hlen hsz hss h0 hc hk
  go_enter Tryz.func85, Tryz.ntmps85
  go_wp2_with fail
  go_ret
  exact ⟨by rw [HX.out]; rfl, rfl⟩
 ·obtain ⟨t, ht⟩ : ∃ t, x.out[x.out.length - 1]? = some t := ⟨_, List.getElem?_eq_getElem (by omega)⟩
  have hl : Lx.last x = t.kind := by unfold Lx.last; rw [List.getLast?_eq_getElem?, ht]
  have hk1 := hk t (List.mem_of_getElem? ht)
  obtain ⟨g, rfl, rv, hcell⟩ := hA _ t ht
  have ck := hcell 0 _ rfl
  have e1 : IntKind.i64.wrap ((x.out.length : Int) - 1) = (x.out.length : Int) - 1 := IntWalk.i64_in _ (by omega)
  have e2 : (0 : Int) ≤ (x.out.length : Int) - 1 := by omega
  have e2a : (1 : Int) ≤ (x.out.length : Int) := by omega
  have e2b : 1 ≤ x.out.length := by omega
  have e2c : 0 < x.out.length := by omega
  have e3 : (x.out.length : Int) - 1 < (x.out.length : Int) := by omega
  have e4 : ((x.out.length : Int) - 1).toNat = x.out.length - 1 := by omega
  have e6 : ¬ x.out = [] := fun h => by rw [h] at h0; exact h0 rfl
  obtain ⟨N, hN⟩ : ∃ N, N = x.out.length - 1 := ⟨_, rfl⟩
  rw [← hN] at ck e4
  rw [Nat.add_zero] at ck
  have n0 : ¬ t.kind = 0 := by omega
  have HV := Lib.hid (show Lx.opens x = (decide (t.kind = 3) || decide (t.kind = 5)) by simp [Lx.begins, Lx.opens, hl, n0])
  generalize t.kind = kd at *
  clear h hA hlen hsz hss ht hcell h0 hN hl hk hk1 hc n0
  by_cases k3 : kd = 3
  ·subst k3
   go_enter Tryz.func85, Tryz.ntmps85
   go_wp2_with fail
   go_ret
   exact ⟨by rw [HV.out]; rfl, rfl⟩
  by_cases k5 : kd = 5
  ·subst k5
   go_enter Tryz.func85, Tryz.ntmps85
   go_wp2_with fail
   go_ret
   exact ⟨by rw [HV.out]; rfl, rfl⟩
  ·go_enter Tryz.func85, Tryz.ntmps85
   go_wp2_with fail
   go_ret
   exact ⟨by rw [HV.out]; simp [k3, k5]; first | done | omega, rfl⟩
set_option maxHeartbeats 4000000 in
set_option maxRecDepth 100000 in
theorem rbegins_calls (W : World) (B base : Nat) (s : ByteArray) (chars fold : Bool) (x : Lx.St) (V : Value) (h : RSt W B base s chars fold x V) (hk : ∀ t, t ∈ x.out → 1 ≤ t.kind) :
  Calls Tryz.prog 84 #[.pointer (some ⟨B, 0, none⟩)] W fun e w' => e = .returned (.bool (Lx.begins x)) ∧ w' = W := by
 obtain ⟨A, c, rfl, hc, hA⟩ := h.toks.form
 have c4 := h.sc.c4
 have hlen := h.len
 have hsz := h.sz
 have hss := h.ss
 by_cases h0 : x.out.length = 0
 ·have HX := Lib.hid (show Lx.begins x = true by have e := List.length_eq_zero_iff.1 h0; simp [Lx.begins, Lx.opens, Lx.last, e])
  rw [h0] at c4
  clear h hA hlen hsz hss h0 hc hk
  go_enter Tryz.func84, Tryz.ntmps84
  go_wp2_with fail
  go_ret
  exact ⟨by rw [HX.out]; rfl, rfl⟩
 ·obtain ⟨t, ht⟩ : ∃ t, x.out[x.out.length - 1]? = some t := ⟨_, List.getElem?_eq_getElem (by omega)⟩
  have hl : Lx.last x = t.kind := by unfold Lx.last; rw [List.getLast?_eq_getElem?, ht]
  have hk1 := hk t (List.mem_of_getElem? ht)
  obtain ⟨g, rfl, rv, hcell⟩ := hA _ t ht
  have ck := hcell 0 _ rfl
  have e1 : IntKind.i64.wrap ((x.out.length : Int) - 1) = (x.out.length : Int) - 1 := IntWalk.i64_in _ (by omega)
  have e2 : (0 : Int) ≤ (x.out.length : Int) - 1 := by omega
  have e2a : (1 : Int) ≤ (x.out.length : Int) := by omega
  have e2b : 1 ≤ x.out.length := by omega
  have e2c : 0 < x.out.length := by omega
  have e3 : (x.out.length : Int) - 1 < (x.out.length : Int) := by omega
  have e4 : ((x.out.length : Int) - 1).toNat = x.out.length - 1 := by omega
  have e6 : ¬ x.out = [] := fun h => by rw [h] at h0; exact h0 rfl
  obtain ⟨N, hN⟩ : ∃ N, N = x.out.length - 1 := ⟨_, rfl⟩
  rw [← hN] at ck e4
  rw [Nat.add_zero] at ck
  have n0 : ¬ t.kind = 0 := by omega
  have HV := Lib.hid (show Lx.begins x = (decide (t.kind = 3) || decide (t.kind = 5) || decide (t.kind = 7)) by simp [Lx.begins, Lx.opens, hl, n0])
  generalize t.kind = kd at *
  clear h hA hlen hsz hss ht hcell h0 hN hl hk hk1 hc n0
  by_cases k3 : kd = 3
  ·subst k3
   go_enter Tryz.func84, Tryz.ntmps84
   go_wp2_with fail
   go_ret
   exact ⟨by rw [HV.out]; rfl, rfl⟩
  by_cases k5 : kd = 5
  ·subst k5
   go_enter Tryz.func84, Tryz.ntmps84
   go_wp2_with fail
   go_ret
   exact ⟨by rw [HV.out]; rfl, rfl⟩
  by_cases k7 : kd = 7
  ·subst k7
   go_enter Tryz.func84, Tryz.ntmps84
   go_wp2_with fail
   go_ret
   exact ⟨by rw [HV.out]; rfl, rfl⟩
  ·go_enter Tryz.func84, Tryz.ntmps84
   go_wp2_with fail
   go_ret
   exact ⟨by rw [HV.out]; simp [k3, k5, k7]; first | done | omega, rfl⟩
theorem rput_end {W0 w3 W4 : World} {B base : Nat} {s : ByteArray} {chars fold : Bool} {x : Lx.St} {V v' : Value} {t : Tok} {e : Nat} (hst : RSt W0 B base s chars fold x V) (hb : Below W0.heap.size W0 w3)
  (hsc : W4.heap[B]? = some (.cells #[.string s, .bool chars, .bool fold, .int .i64 x.sat, V, .int .i64 0, .int .i64 0] 70 (0, 0))) (ht : ToksAt W4 base v' (x.out ++ [t])) (hg : w3.grownBy W4 V.ownBlock) (h1 : x.sat < e) (h2 : e ≤ s.size) :
  RSt ((W4.setCell ⟨B, 4, none⟩ v').setCell ⟨B, 3, none⟩ (.int .i64 e)) B base s chars fold ⟨e, x.out ++ [t]⟩ v' ∧ Stp W0 ((W4.setCell ⟨B, 4, none⟩ v').setCell ⟨B, 3, none⟩ (.int .i64 e)) B base := by
 have ho : ∀ k, k ≠ B → ((W4.setCell ⟨B, 4, none⟩ v').setCell ⟨B, 3, none⟩ (.int .i64 e)).heap[k]? = W4.heap[k]? := fun k hk => (Below.heap_setCell _ ⟨B, 3, none⟩ _ k hk).trans (Below.heap_setCell _ ⟨B, 4, none⟩ _ k hk)
 have hz : ((W4.setCell ⟨B, 4, none⟩ v').setCell ⟨B, 3, none⟩ (.int .i64 e)).heap.size = W4.heap.size := by simp [World.setCell]
 have hs := hg.size
 have hs0 := hb.size
 have hl := hst.len
 have hlt := hst.lt
 have hbb := hst.hb
 have hss := hst.sz
 refine ⟨⟨set_blk (set_blk hsc _ _) _ _, ht.move (fun k hk _ => ho k (by omega)), hlt, by omega, by simp; omega, h2, hst.ss⟩, ⟨hg.os.trans hb.os, hg.tape.trans hb.tape, hg.output.trans hb.output, by omega, fun k hk hkB => ?_⟩⟩
 have hVk : some k ≠ V.ownBlock := fun hV => by
  obtain ⟨cs, rv', g1, g2, g3⟩ := hst.toks
  have := (ownLt g2 k hV.symm).1
  omega
 exact (ho k hkB).trans ((hg.block k (by omega) hVk).trans (hb.block k (by omega)))
set_option maxHeartbeats 4000000 in
set_option maxRecDepth 100000 in
theorem rput_calls (W0 W : World) (B base : Nat) (s : ByteArray) (chars fold : Bool) (x : Lx.St) (V : Value) (hst : RSt W0 B base s chars fold x V) (hb : Below W0.heap.size W0 W) (kind n lo hi : Int) (r : List S64) (rv : Value)
  (hr : W.ownsRow W0.heap.size 39 2 rv r.length (rowOf r)) (hin : inR r = true) (hrl : r.length < 8796093022208) (e d : Nat) (hed : e = x.sat + d) (he1 : x.sat < e) (he2 : e ≤ s.size) :
  Calls Tryz.prog 90 #[.pointer (some ⟨B, 0, none⟩), .agg #[.int .i64 kind, .int .i64 0, .int .i64 0, .int .i64 n, .int .i64 lo, .int .i64 hi, rv], .int .i64 d] W fun e' w' => e' = .returned (.tuple #[]) ∧ ∃ V', RSt w' B base s chars fold (Lx.put x ⟨kind, 0, 0, n, lo, hi, r⟩ e) V' ∧ Stp W0 w' B base := by
 have hsc := hst.sc.below hb
 have c3 := hsc.c3
 have c4 := hsc.c4
 have hBs : B < W.heap.size := (Array.getElem?_eq_some_iff.1 hsc).1
 have hf : ∀ o, W.frozen? ⟨B, o, none⟩ = false := fun o => by simp [World.frozen?, show W.heap[B]? = _ from hsc]
 have hee : (x.sat : Int) + (d : Int) = (e : Int) := by omega
 have hss := hst.ss
 have he9 : (x.sat : Int) + (d : Int) ≤ 2000 := by omega
 have HST := Lib.hid hst
 have HB := Lib.hid hb
 have HR := Lib.hid (And.intro hr (And.intro hin hrl))
 have HE := Lib.hid (And.intro he1 he2)
 have HEE := Lib.hid hee
 clear hst hb hr hin hrl he1 he2 hsc hed hee hss
 go_enter Tryz.func90, Tryz.ntmps90
 go_wp2_with fail
 rw [HEE.out]
 obtain ⟨W1, hW1⟩ : ∃ X, X = W.alloc (.cells #[.int .i64 kind, .int .i64 x.sat, .int .i64 e, .int .i64 n, .int .i64 lo, .int .i64 hi, rv] 37) := ⟨_, rfl⟩
 obtain ⟨G, hG⟩ : ∃ G, G = W.heap.size := ⟨_, rfl⟩
 have hs1 : W1.heap.size = G + 1 := by rw [hW1, hG]; simp
 have hb1 : Below G W W1 := by rw [hW1, hG]; exact (Below.refl _ W).alloc (Nat.le_refl _) _
 have hk : W1.heap[G]? = some (.cells #[.int .i64 kind, .int .i64 x.sat, .int .i64 e, .int .i64 n, .int .i64 lo, .int .i64 hi, rv] 37 (0, 0)) := by rw [hW1, hG]; exact heap_alloc_new W _
 rw [← hW1, ← hG]
 have HB1 := Lib.hid (HB.out.trans (hb1.mono (by rw [hG]; exact HB.out.size)))
 have hbG : Below W.heap.size W W1 := by rw [← hG]; exact hb1
 have c4' := hbG.cell (p := ⟨B, 4, none⟩) hBs
 rw [c4] at c4'
 have hB1 : B < W1.heap.size := by omega
 have hG1 : G < W1.heap.size := by omega
 have HK := Lib.hid hk
 have HS := Lib.hid (And.intro hs1 (And.intro hG hbG))
 have g0 := lk_cell (i := 0) hk rfl
 have g1 := lk_cell (i := 1) hk rfl
 have g2 := lk_cell (i := 2) hk rfl
 have g3 := lk_cell (i := 3) hk rfl
 have g4 := lk_cell (i := 4) hk rfl
 have g5 := lk_cell (i := 5) hk rfl
 have g6 := lk_cell (i := 6) hk rfl
 clear hW1 hs1 hb1 hk hG hbG c3 c4 hf hBs
 refine go_start (fun w' => Below W1.heap.size W1 w') [7, 10] [.p 0, .p 1, .p 2, .p 3, .t 4, .t 5, .o 6, .z 7, .p 8, .p 9, .z 10] (by kernel_rfl) (by kernel_rfl) (fun c d v a w h => by cases d <;> exact h) ((Below.refl _ W1).drew) (fun w2 hS2 => ?_)
 repeat
  refine go_p (v := ?_) (b := ?_) rfl (.inl ⟨by rfl, ?_⟩) ?_ ?_
  rotate_left 2
  ·intro w'; go_simp; with_reducible rfl
  ·simp only [Act.put, pu_, pz_, ps_, i64_w, i32_w]; rfl
 repeat
  refine go_t (v := ?_) (b := ?_) rfl (.inl ⟨by rfl, ?_⟩) ?_ ?_
  rotate_left 2
  ·intro w' hS; have hc := Below.cells hS; go_simp; with_reducible rfl
  ·simp only [Act.put, pu_, pz_, ps_, i64_w, i32_w]; rfl
 refine go_val (v := .slice (some ⟨w2.heap.size, 0, none⟩) 1 1) (w1 := w2.alloc (.cells #[.int .i64 kind, .int .i64 x.sat, .int .i64 e, .int .i64 n, .int .i64 lo, .int .i64 hi, rv] 37)) rfl (by rfl) (by go_simp; first | done | rfl) (by simp only [Act.put, List.setIfInBounds_toArray, List.set_cons_zero, List.set_cons_succ]; rfl) (hS2.alloc hS2.size _) ?_
 obtain ⟨w3, hw3⟩ : ∃ X, X = w2.alloc (.cells #[.int .i64 kind, .int .i64 x.sat, .int .i64 e, .int .i64 n, .int .i64 lo, .int .i64 hi, rv] 37) := ⟨_, rfl⟩
 have hb3 : Below W1.heap.size W1 w3 := by rw [hw3]; exact hS2.alloc hS2.size _
 have hk3 : w3.heap[w2.heap.size]? = some (.cells #[.int .i64 kind, .int .i64 x.sat, .int .i64 e, .int .i64 n, .int .i64 lo, .int .i64 hi, rv] 37 (0, 0)) := by rw [hw3]; exact heap_alloc_new w2 _
 rw [← hw3]
 have hB3 : Below W0.heap.size W0 w3 := HB1.out.trans (hb3.mono HB1.out.size)
 have hr3 : w3.ownsRow W0.heap.size 39 2 rv r.length (rowOf r) := ownMove HR.out.1 (fun k hk => by
  have h1 := (ownLt HR.out.1 k hk).2
  have h2 := HS.out
  exact (hb3.block k (by omega)).trans (h2.2.2.block k h1))
 obtain ⟨v', W4, hrun, htoks, hgrow, hat⟩ := HST.out.toks.append hB3 HST.out.hb (by have h1 := HST.out.len; have h2 := HST.out.sz; have h3 := HST.out.ss; omega) ⟨w2.heap.size, 0, none⟩ ⟨kind, x.sat, e, n, lo, hi, r⟩ rv
  (fun j u hj => by
   rw [show (⟨w2.heap.size, 0, none⟩ : Addr).add j = ⟨w2.heap.size, j, none⟩ by unfold Addr.add; split <;> simp_all]
   exact lk_cell hk3 (by simpa [tokV] using hj)) hr3 HR.out.2.1 HR.out.2.2
 obtain ⟨A', c', hv', hc', _⟩ := htoks.form
 rw [List.length_append, List.length_singleton] at hv'
 subst hv'
 refine go_valz (w1 := W4) rfl (by rfl) (append_run rfl rfl hrun) (by simp only [Act.put, List.setIfInBounds_toArray, List.set_cons_zero, List.set_cons_succ]; rfl) ?_
 repeat
  refine go_p (v := ?_) (b := ?_) rfl (.inl ⟨by rfl, ?_⟩) ?_ ?_
  rotate_left 2
  ·intro w'; go_simp; with_reducible rfl
  ·simp only [Act.put, pu_, pz_, ps_, i64_w, i32_w]; rfl
 have hVB : some B ≠ V.ownBlock := fun hV => by
  obtain ⟨cs, rv', h1, h2, h3⟩ := HST.out.toks
  have := (ownLt h2 B hV.symm).1
  have := HST.out.lt
  omega
 have hBw : B < W0.heap.size := by have h1 := HST.out.lt; have h2 := HST.out.hb; omega
 have hsc4 : W4.heap[B]? = some (.cells #[.string s, .bool chars, .bool fold, .int .i64 x.sat, V, .int .i64 0, .int .i64 0] 70 (0, 0)) := (hgrow.block B (Nat.lt_of_lt_of_le hBw hB3.size) hVB).trans ((hB3.block B hBw).trans HST.out.sc)
 have hGV : some G ≠ V.ownBlock := fun hV => by
  obtain ⟨cs, rv', h1, h2, h3⟩ := HST.out.toks
  have := (ownLt h2 G hV.symm).2
  have h4 := HS.out
  have := HB.out.size
  omega
 have hg2' := lk_cell (i := 2) ((hgrow.block G (by have := hb3.size; omega) hGV).trans ((hb3.block G hG1).trans HK.out)) rfl
 have HF := Lib.hid (And.intro hsc4 (And.intro htoks (And.intro hgrow (And.intro hat hB3))))
 have c4 := lk_cell (i := 4) hsc4 rfl
 have c3 := lk_cell (i := 3) hsc4 rfl
 have hf : ∀ o, W4.frozen? ⟨B, o, none⟩ = false := fun o => by simp [World.frozen?, hsc4]
 have hGB : ¬ G = B := by have h4 := HS.out; have := HB.out.size; omega
 clear hrun htoks hgrow hat hsc4 hr3 hk3 hb3 hw3 c4' hc' g0 g1 g2 g3 g4 g5 g6 hB3
 refine go_skipz (w1 := W4.setCell ⟨B, 4, none⟩ _) rfl (by rfl) (by go_simp; first | done | rfl) ?_
 refine go_done ?_
 go_wp2_with fail
 have hend := rput_end HST.out HF.out.2.2.2.2 HF.out.1 HF.out.2.1 HF.out.2.2.1 HE.out.1 HE.out.2
 go_end0
 exact ⟨rfl, _, hend⟩
end Go.Proofs.YtamhkdlcoghdbaaGreatDoor.PCls
/- Out of Rc (wip/tools/prune2.py): the declarations alone that the texts of the trees name. -/
namespace Go.Proofs.YtamhkdlcoghdbaaGreatDoor.PCls
open Go.RowKit Go.Shelf Go.Proofs.YtamhkdlcoghdbaaGreatDoorW.PrintWords Go.Proofs.YtamhkdlcoghdbaaGreatDoorW.PrintLast Go.Proofs.YtamhkdlcoghdbaaGreatDoorW.PrintMore
set_option linter.unusedVariables false
set_option linter.unusedSimpArgs false
theorem rnum_end {r : Int × Nat} {n m : Int} {i p : Nat} (hr : r = (n, i)) (hm : m = max n 0) (hp : 0 ≤ n ↔ p < i) : Ending.returned (.tuple #[.int .i64 m, .int .i64 (i : Int), .bool (decide (p < i))]) = .returned (.tuple #[.int .i64 (max r.1 0), .int .i64 r.2, .bool (decide (0 ≤ r.1))]) := by
 subst hr hm
 simp [hp]
/-- the first place from one on at which a text of two bytes stands, or -1 -/
def findP (s : ByteArray) (sg : UInt8) (p : Nat) : Int := if Lib.index (s.data.toList.drop p) [sg, 93] < 0 then -1 else p + Lib.index (s.data.toList.drop p) [sg, 93]
theorem find_step (s : ByteArray) (sg : UInt8) (i : Nat) : (i < s.size → findP s sg i = if Lx.here s i [sg, 93] = true then (i : Int) else findP s sg (i + 1)) ∧ (¬ i < s.size → findP s sg i = -1) := by
 constructor
 ·intro h
  have h' : i < s.data.toList.length := by rw [len_size]; exact h
  have hh : Lx.here s i [sg, 93] = [sg, 93].isPrefixOf (s.data.toList.drop i) := by
   unfold Lx.here Lib.hasPrefix
   rw [decide_eq_true (show i ≤ s.size by omega), Bool.true_and]
  have hg := Lib.index_ge (s.data.toList.drop (i + 1)) [sg, 93]
  unfold findP
  rw [hh, List.drop_eq_getElem_cons h']
  generalize hL : s.data.toList.drop (i + 1) = L at *
  conv => lhs; unfold Lib.index
  cases hp : [sg, 93].isPrefixOf (s.data.toList[i] :: L) with
  | true => simp
  | false =>
   simp only [Bool.false_eq_true, if_false]
   by_cases hm : Lib.index L [sg, 93] = -1
   ·rw [hm]; simp
   ·rw [show (if (Lib.index L [sg, 93] == -1) = true then (-1 : Int) else Lib.index L [sg, 93] + 1) = Lib.index L [sg, 93] + 1 from if_neg (by simpa using hm)]
    rw [if_neg (by omega), if_neg (by omega)]
    omega
 ·intro h
  unfold findP
  rw [List.drop_eq_nil_of_le (by rw [len_size]; omega)]
  simp [Lib.index]
set_option maxHeartbeats 4000000 in
set_option maxRecDepth 100000 in
theorem rnumber_calls (W : World) (B p : Nat) (s : ByteArray) (c0 : W.cell? ⟨B, 0, none⟩ = some (.string s)) (hs : s.size ≤ 2000) (hp : p ≤ 5000) :
  Calls Tryz.prog 186 #[.pointer (some ⟨B, 0, none⟩), .int .i64 p] W fun e w' => e = .returned (.tuple #[.int .i64 (max (Lx.number s (s.size + 1) p (-1)).1 0), .int .i64 (Lx.number s (s.size + 1) p (-1)).2, .bool (decide (0 ≤ (Lx.number s (s.size + 1) p (-1)).1))]) ∧ w' = W := by
 have HL := Lib.hid (number_le s (s.size + 1) p (-1) (by omega) (by omega))
 go_enter Tryz.func186, Tryz.ntmps186
 go_wp2_with fail
 go_loop [1, 7] (fun a1 a7 => ∃ (i k : Nat) (n : Int), p ≤ i ∧ (i ≤ p ∨ i ≤ s.size) ∧ -1 ≤ n ∧ n ≤ 256 ∧ a1 = .int .i64 i ∧ a7 = .int .i64 (max n 0) ∧ Hid (s.size < i + k) ∧ Hid (Lx.number s (s.size + 1) p (-1) = Lx.number s k i n) ∧ Hid (0 ≤ n ↔ p < i)) (fun a1 _ => s.size - (intOf a1).toNat)
 case atStart => exact ⟨p, s.size + 1, -1, Nat.le_refl _, .inl (Nat.le_refl _), by omega, by omega, rfl, rfl, Lib.hid (by omega), Lib.hid rfl, Lib.hid (by omega)⟩
 case round =>
  obtain ⟨i, k, n, hpi, hi, hn0, hn1, rfl, rfl, HK, HN, HP⟩ := hrel
  have hm0 : 0 ≤ max n 0 := by omega
  have hm1 : max n 0 ≤ 256 := by omega
  by_cases hlt : i < s.size
  ·have hb := (byt_at s i hlt).symm
   have h1 : (i : Int) < (s.size : Int) := by omega
   have hlb := byt_lt s i
   have HST := Lib.hid (fun (h : ¬ (48 ≤ Lx.byt s i ∧ Lx.byt s i ≤ 57)) => HN.out.trans (number_stop s k i n (fun e => h e.2)))
   have HGO := Lib.hid (fun (j : Nat) (hj : k = j + 1) (h : 48 ≤ Lx.byt s i ∧ Lx.byt s i ≤ 57) => HN.out.trans (show Lx.number s k i n = Lx.number s j (i + 1) (min (max n 0 * 10 + ((Lx.byt s i : Int) - 48)) 256) by
    subst hj
    conv => lhs; unfold Lx.number
    rw [if_pos ⟨hlt, h⟩]))
   obtain ⟨d, hd⟩ : ∃ d, d = Lx.byt s i := ⟨_, rfl⟩
   rw [← hd] at hb hlb HST HGO
   obtain ⟨m, hm⟩ : ∃ m, m = max n 0 := ⟨_, rfl⟩
   rw [← hm] at hm0 hm1 HGO ⊢
   have HM := Lib.hid hm
   clear hd HN hm
   by_cases c1 : 48 ≤ d
   ·have r1 : (48 : Int) ≤ (d : Int) := by omega
    by_cases c2 : d ≤ 57
    ·have r2 : (d : Int) ≤ 57 := by omega
     have HX := Lib.hid (HGO.out (k - 1) (by have := HK.out; omega) ⟨c1, c2⟩)
     clear HST HGO c1 c2
     go_wp2_with fail
     go_round
     case rel => exact ⟨i + 1, k - 1, min (m * 10 + ((d : Int) - 48)) 256, by omega, .inr (by omega), by omega, by omega, by go_num, by first | rfl | exact congrArg (Value.int .i64) (by omega) | (split <;> exact congrArg (Value.int .i64) (by omega)), Lib.hid (by have := HK.out; omega), HX, Lib.hid (by have := HM.out; omega)⟩
     case measure => simp [intOf]; omega
    ·have r2 : ¬ (d : Int) ≤ 57 := by omega
     have HX := Lib.hid (HST.out (by omega))
     clear HST HGO c1 c2
     go_wp2_with fail
     go_ret3
     exact ⟨rnum_end HX.out HM.out HP.out, rfl⟩
   ·have r1 : ¬ (48 : Int) ≤ (d : Int) := by omega
    have HX := Lib.hid (HST.out (by omega))
    clear HST HGO c1
    go_wp2_with fail
    go_ret3
    exact ⟨rnum_end HX.out HM.out HP.out, rfl⟩
  ·have h1 : ¬ (i : Int) < (s.size : Int) := by omega
   have HX := Lib.hid (HN.out.trans (number_stop s k i n (fun e => hlt e.1)))
   obtain ⟨m, hm⟩ : ∃ m, m = max n 0 := ⟨_, rfl⟩
   rw [← hm] at hm0 hm1 ⊢
   have HM := Lib.hid hm
   clear hm HN
   go_wp2_with fail
   go_ret3
   exact ⟨rnum_end HX.out HM.out HP.out, rfl⟩
set_option maxHeartbeats 4000000 in
set_option maxRecDepth 100000 in
theorem rfind_calls (W : World) (B p : Nat) (s : ByteArray) (sg : UInt8) (c0 : W.cell? ⟨B, 0, none⟩ = some (.string s)) (hs : s.size ≤ 2000) (hp : p ≤ 4000) :
  Calls Tryz.prog 207 #[.pointer (some ⟨B, 0, none⟩), .int .i64 p, .string ⟨#[sg, 93]⟩] W fun e w' => e = .returned (.int .i64 (findP s sg p)) ∧ w' = W := by
 have HI := Lib.hid (fun (i : Nat) (hi : i ≤ 5000) => is_calls' W B i s ⟨#[sg, 93]⟩ c0 hs hi (by show 2 ≤ 10; omega))
 have HF := Lib.hid (find_step s sg)
 go_enter Tryz.func207, Tryz.ntmps207
 go_wp2_with fail
 go_loop [7] (fun a7 => ∃ i : Nat, a7 = .int .i64 i ∧ p ≤ i ∧ (i ≤ p ∨ i ≤ s.size) ∧ Hid (findP s sg p = findP s sg i)) (fun a7 => s.size - (intOf a7).toNat)
 case atStart => exact ⟨p, rfl, Nat.le_refl _, .inl (Nat.le_refl _), Lib.hid rfl⟩
 case round =>
  obtain ⟨i, rfl, hpi, hi, HN⟩ := hrel
  by_cases hlt : i < s.size
  ·have h1 : (i : Int) < (s.size : Int) := by omega
   have HX := Lib.hid (HN.out.trans ((HF.out i).1 hlt))
   clear HN
   go_wp2_with fail
   refine (HI.out i (by omega)).mono ?_
   cases hh : Lx.here s i [sg, 93] with
   | true =>
    rintro e w' ⟨rfl, hw⟩
    subst hw
    have HY := Lib.hid (HX.out.trans (if_pos hh))
    clear hh HX
    go_wp2_with fail
    go_ret
    exact ⟨by rw [HY.out]; rfl, rfl⟩
   | false =>
    rintro e w' ⟨rfl, hw⟩
    subst hw
    have HY := Lib.hid (HX.out.trans (if_neg (by rw [hh]; decide)))
    clear hh HX
    go_wp2_with fail
    go_round
    case rel => exact ⟨i + 1, by go_num, by omega, .inr (by omega), HY⟩
    case measure => simp [intOf]; omega
  ·have h1 : ¬ (i : Int) < (s.size : Int) := by omega
   have HX := Lib.hid (HN.out.trans ((HF.out i).2 hlt))
   clear HN
   go_wp2_with fail
   go_ret
   exact ⟨by rw [HX.out]; rfl, rfl⟩
end Go.Proofs.YtamhkdlcoghdbaaGreatDoor.PCls
