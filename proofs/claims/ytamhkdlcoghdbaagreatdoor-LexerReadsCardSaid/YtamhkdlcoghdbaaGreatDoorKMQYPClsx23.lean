/- Put together (wip/tools/pack.py): QYPClsx23, QYLFour, QHd, QRr. -/
import Derived.Test.YtamhkdlcoghdbaaGreatDoorKMQYLTwo
/- Out of YPClsx23 (wip/tools/prune2.py): the declarations alone that the texts of the trees name. -/
namespace Go.Proofs.YtamhkdlcoghdbaaGreatDoor.PCls
open Go.RowKit Go.Proofs.YtamhkdlcoghdbaaGreatDoorW.PrintWords Go.Proofs.YtamhkdlcoghdbaaGreatDoorW.PrintLast Go.Proofs.YtamhkdlcoghdbaaGreatDoorW.PrintMore
attribute [local go_sem] max2_int min2_int max_two min_two max_three min_three max_four min_four   -- for this text's walks alone
set_option linter.unusedVariables false
set_option linter.unusedSimpArgs false
def dredgeref06_All.f (a0 : Bool) : Option ((List (S64))) := if a0 = true then (some (([(⟨0, 55295⟩ : S64), (⟨57344, 1114111⟩ : S64)] : List (S64)))) else (some (([(⟨0, 255⟩ : S64)] : List (S64))))
set_option maxHeartbeats 8000000 in
set_option maxRecDepth 100000 in
theorem dredgeref06_All.calls (a0 : Bool) (r : List (S64)) (w : World) (h : dredgeref06_All.f a0 = some r) :
  Calls Tryz.prog 91 #[.bool a0] w fun e w' => ∃ v0_ : Value, e = .returned (v0_) ∧ Kd.R k64 39 w' w.heap.size (fun _ => True) v0_ r ∧ Below w.heap.size w w' := by
 have hu64 := Tryz.underlying39
 have HB := Aside0.mk (Below.refl w.heap.size w)
 have H : (if a0 = true then (some (([(⟨0, 55295⟩ : S64), (⟨57344, 1114111⟩ : S64)] : List (S64)))) else (some (([(⟨0, 255⟩ : S64)] : List (S64))))) = some r := h
 clear h
 by_cases c2 : a0 = true
 ·subst c2
  have H1 : (some (([(⟨0, 55295⟩ : S64), (⟨57344, 1114111⟩ : S64)] : List (S64)))) = some r := by rw [if_pos rfl] at H; exact H
  clear H
  have H := H1
  clear H1
  obtain ⟨y414, hy414⟩ : ∃ y_ : List (S64), y_ = (([(⟨0, 55295⟩ : S64), (⟨57344, 1114111⟩ : S64)] : List (S64))) := ⟨_, rfl⟩
  replace H : (some y414) = some r := by first | (rw [hy414]; with_reducible exact H) | (have H2_ := (Option.bind_some _ _).symm.trans H; rw [hy414]; with_reducible exact H2_) | (have H2_ := (Option.bind_some _ _).symm.trans H; with_reducible exact H2_) | with_reducible exact H | (rw [hy414]; exact H) | exact H
  have Ny414 := Aside0.mk hy414
  clear hy414
  obtain rfl := Option.some.inj H
  go_enter Tryz.func91, Tryz.ntmps91
  go_wp2_with (first | ((with_reducible refine gate_dst (N := 6) rfl ?_); refine Kd.R_lit k64 _ 39 ?hg (N := 6) ?hd (xs := ([(⟨0, 55295⟩ : S64), (⟨57344, 1114111⟩ : S64)] : List (S64))) (inner := [.int .i64 0, .int .i64 55295, .int .i64 57344, .int .i64 1114111]) (ok := fun _ => True) (okp := fun _ => True) ?hr ?hp (fun _ hk => hk) trivial (Below.refl _ _) (Nat.le_refl _) (by simp) ?_; (case hd => rfl); (case hg => rfl); (case hr => first | (go_simp; done) | (go_simp; rfl)); (case hp => exact (Reps.c2 (show Kd.M k64 _ _ _ (⟨0, 55295⟩ : S64) [.int .i64 0, .int .i64 55295] from (k64_mkM _ _ _ (⟨0, 55295⟩ : S64) )) (Reps.c2 (show Kd.M k64 _ _ _ (⟨57344, 1114111⟩ : S64) [.int .i64 57344, .int .i64 1114111] from (k64_mkM _ _ _ (⟨57344, 1114111⟩ : S64) )) (Reps.none _ _)))); intro v415 w3 ho4 hb hg_ hnew_; clear hg_ hnew_; (first | rw [← Ny414.out] at ho4 | (simp only [Int.reduceToNat] at ho4; rw [← Ny414.out] at ho4)); have n0_ := Aside0.mk (Kd.R_lower ho4 (below_size (by repeat (first | (with_reducible first | exact HB.out | apply wA | apply wN | apply wD) | exact HB.out)))); have n1_ := Aside0.mk (below_step (by repeat (first | (with_reducible first | exact HB.out | apply wA | apply wN | apply wD) | exact HB.out)) hb); clear HB; have HO416 := n0_; have HB := n1_; clear n0_ n1_; clear hb ho4))
  go_ret
  exact ⟨_, by first | rfl | (simp [errW_none, errW_some] <;> rfl) | (simp [*, errW_none, errW_some] <;> rfl), by (with_reducible repeat (first | apply rA | apply rN | apply rD)); exact HO416.out, by repeat (first | (with_reducible first | exact HB.out | apply wA | apply wN | apply wD) | exact HB.out)⟩
 ·replace c2 := Bool.eq_false_iff.mpr c2
  subst c2
  have H1 : (some (([(⟨0, 255⟩ : S64)] : List (S64)))) = some r := by rw [if_neg (show ¬ (false = true) by decide)] at H; exact H
  clear H
  have H := H1
  clear H1
  obtain ⟨y417, hy417⟩ : ∃ y_ : List (S64), y_ = (([(⟨0, 255⟩ : S64)] : List (S64))) := ⟨_, rfl⟩
  replace H : (some y417) = some r := by first | (rw [hy417]; with_reducible exact H) | (have H2_ := (Option.bind_some _ _).symm.trans H; rw [hy417]; with_reducible exact H2_) | (have H2_ := (Option.bind_some _ _).symm.trans H; with_reducible exact H2_) | with_reducible exact H | (rw [hy417]; exact H) | exact H
  have Ny417 := Aside0.mk hy417
  clear hy417
  obtain rfl := Option.some.inj H
  go_enter Tryz.func91, Tryz.ntmps91
  go_wp2_with (first | ((with_reducible refine gate_dst (N := 8) rfl ?_); refine Kd.R_lit k64 _ 39 ?hg (N := 8) ?hd (xs := ([(⟨0, 255⟩ : S64)] : List (S64))) (inner := [.int .i64 0, .int .i64 255]) (ok := fun _ => True) (okp := fun _ => True) ?hr ?hp (fun _ hk => hk) trivial (Below.refl _ _) (Nat.le_refl _) (by simp) ?_; (case hd => rfl); (case hg => rfl); (case hr => first | (go_simp; done) | (go_simp; rfl)); (case hp => exact (Reps.c2 (show Kd.M k64 _ _ _ (⟨0, 255⟩ : S64) [.int .i64 0, .int .i64 255] from (k64_mkM _ _ _ (⟨0, 255⟩ : S64) )) (Reps.none _ _))); intro v418 w5 ho6 hb hg_ hnew_; clear hg_ hnew_; (first | rw [← Ny417.out] at ho6 | (simp only [Int.reduceToNat] at ho6; rw [← Ny417.out] at ho6)); have n0_ := Aside0.mk (Kd.R_lower ho6 (below_size (by repeat (first | (with_reducible first | exact HB.out | apply wA | apply wN | apply wD) | exact HB.out)))); have n1_ := Aside0.mk (below_step (by repeat (first | (with_reducible first | exact HB.out | apply wA | apply wN | apply wD) | exact HB.out)) hb); clear HB; have HO419 := n0_; have HB := n1_; clear n0_ n1_; clear hb ho6))
  go_ret
  exact ⟨_, by first | rfl | (simp [errW_none, errW_some] <;> rfl) | (simp [*, errW_none, errW_some] <;> rfl), by (with_reducible repeat (first | apply rA | apply rN | apply rD)); exact HO419.out, by repeat (first | (with_reducible first | exact HB.out | apply wA | apply wN | apply wD) | exact HB.out)⟩
def dredgeref06_Norm.f (k : Nat) (l0 : List (S64)) (a1 : Bool) : Option ((List (S64))) := (dredgeref06_All.f a1).bind fun t420 => ((dredgeref06_And.f k l0 t420).bind fun t423 => (some t423))
set_option maxHeartbeats 8000000 in
set_option maxRecDepth 100000 in
theorem dredgeref06_Norm.calls (k : Nat) (A0 : Option Addr) (c0 : Nat) (l0 : List (S64)) (a1 : Bool) (r : List (S64)) (w : World) (hr0 : Kd.C k64 w A0 l0.length l0) (hc0 : l0.length ≤ c0) (h : dredgeref06_Norm.f k l0 a1 = some r) :
  Calls Tryz.prog 142 #[.slice A0 l0.length c0, .bool a1] w fun e w' => ∃ v0_ : Value, e = .returned (v0_) ∧ Kd.R k64 39 w' w.heap.size (fun _ => True) v0_ r ∧ Below w.heap.size w w' := by
 have HR0 := Aside0.mk hr0
 have HC0 := Aside0.mk hc0
 clear hr0 hc0
 have HB := Aside0.mk (Below.refl w.heap.size w)
 have H : ((dredgeref06_All.f a1).bind fun t420 => ((dredgeref06_And.f k l0 t420).bind fun t423 => (some t423))) = some r := h
 clear h
 replace H := Option.bind_eq_some_iff.mp H
 obtain ⟨t420, A30, H⟩ := H
 replace H : ((dredgeref06_And.f k l0 t420).bind fun t423 => (some t423)) = some r := H
 have A3 := Aside0.mk A30
 clear A30
 replace H := Option.bind_eq_some_iff.mp H
 obtain ⟨t423, A40, H⟩ := H
 replace H : (some t423) = some r := H
 have A4 := Aside0.mk A40
 clear A40
 obtain rfl := Option.some.inj H
 go_enter Tryz.func142, Tryz.ntmps142
 go_wp2_with (first | ((with_reducible refine gate_callee (f := 91) rfl ?_); refine goesL_ (some 7) rfl rfl Tryz.func91 (by kernel_rfl) rfl #[.bool a1] rfl (by (try simp only [List.map_toArray, List.map_cons, List.map_nil]); first | done | rfl | (simp only [List.length_drop, List.length_take]; rfl)) ?_; (with_reducible refine (dredgeref06_All.calls a1 t420 _ A3.out).mono ?_); rintro e w5 ⟨v421, rfl, ho0, hb⟩; refine ⟨_, rfl, ?_⟩; have n0_ := Aside0.mk (Kd.R_lower ho0 (below_size (by repeat (first | (with_reducible first | exact HB.out | apply wA | apply wN | apply wD) | exact HB.out)))); have n1_ := Aside0.mk (below_step (by repeat (first | (with_reducible first | exact HB.out | apply wA | apply wN | apply wD) | exact HB.out)) hb); clear HB; have HO422 := n0_; have HB := n1_; clear n0_ n1_; (try clear hb); (try clear hb2); (try clear hk); (try clear hi); (try clear ho0); obtain ⟨Ao6, co6, eo6⟩ := Kd.R_slice HO422.out; subst eo6) | ((with_reducible refine gate_callee (f := 188) rfl ?_); refine goesL_ (some 8) rfl rfl Tryz.func188 (by kernel_rfl) rfl #[.slice A0 l0.length c0, .slice Ao6 t420.length co6] rfl (by (try simp only [List.map_toArray, List.map_cons, List.map_nil]); first | done | rfl | (simp only [List.length_drop, List.length_take]; rfl)) ?_; (with_reducible refine (dredgeref06_And.calls k _ _ l0 _ _ t420 t423 _ ?side1 ?side2 ?side3 ?side4 A4.out).mono ?_); (case side1 => repeat (first | exact (Kd.C_below HR0.out HB.out) | (with_reducible refine cA ?_ _) | (with_reducible refine cN ?_ _) | (with_reducible refine cD ?_))); (case side2 => exact HC0.out); (case side3 => repeat (first | exact (rR HO422.out).2.2 | (with_reducible refine cA ?_ _) | (with_reducible refine cN ?_ _) | (with_reducible refine cD ?_))); (case side4 => exact (rR HO422.out).2.1); rintro e w7 ⟨v424, rfl, ho0, hb⟩; refine ⟨_, rfl, ?_⟩; have n0_ := Aside0.mk (rE (by (with_reducible repeat (first | apply rA | apply rN | apply rD)); exact HO422.out) (rB ho0) hb); have n1_ := Aside0.mk (Kd.R_lower (rW ho0 (rL (by (with_reducible repeat (first | apply rA | apply rN | apply rD)); exact HO422.out))) (below_size (by repeat (first | (with_reducible first | exact HB.out | apply wA | apply wN | apply wD) | exact HB.out)))); have n2_ := Aside0.mk (below_step (by repeat (first | (with_reducible first | exact HB.out | apply wA | apply wN | apply wD) | exact HB.out)) hb); clear HO422; clear HB; have HO422 := n0_; have HO425 := n1_; have HB := n2_; clear n0_ n1_ n2_; (try clear hb); (try clear hb2); (try clear hk); (try clear hi); (try clear ho0)))
 go_ret
 exact ⟨_, by first | rfl | (simp [errW_none, errW_some] <;> rfl) | (simp [*, errW_none, errW_some] <;> rfl), by (with_reducible repeat (first | apply rA | apply rN | apply rD)); exact Kd.R_mono HO425.out (fun _ hk => trivial), by repeat (first | (with_reducible first | exact HB.out | apply wA | apply wN | apply wD) | exact HB.out)⟩
end Go.Proofs.YtamhkdlcoghdbaaGreatDoor.PCls
/- Out of YLFour (wip/tools/prune2.py): the declarations alone that the texts of the trees name. -/
namespace Go.Proofs.YtamhkdlcoghdbaaGreatDoor.PCls
open Go.RowKit Go.Proofs.YtamhkdlcoghdbaaGreatDoorW.PrintWords Go.Proofs.YtamhkdlcoghdbaaGreatDoorW.PrintLast Go.Proofs.YtamhkdlcoghdbaaGreatDoorW.PrintMore
set_option linter.unusedVariables false
set_option linter.unusedSimpArgs false
theorem refnorm_ends (l : List S64) (m : Bool) (h1 : l.length < 2097152) (h : inR l = true) : Ends (fun k => dredgeref06_Norm.f k l m) (Cls.norm l m) := by
 unfold dredgeref06_Norm.f
 rw [show dredgeref06_All.f m = some (Cls.all m) by cases m <;> rfl]
 simp only [Option.bind_some]
 exact Ends.bind (refand_ends l (Cls.all m) h1 (by have := all_length m; omega) h (all_inR m)) (Ends.some_ _)
theorem Cls.less_mem (a b : List S64) (c : Int) : Cls.Mem (Cls.less_ a b) c ↔ Cls.Mem a c ∧ ¬ Cls.Mem b c := by
 unfold Cls.less_
 rw [(Cls.less_spec _ _ (Cls.cls_can a) (Cls.cls_can b)).2 c, Cls.cls_mem, Cls.cls_mem]
def rcut (hi : Int) : Int → List S64 → List S64
 | lo, [] => [⟨lo, hi⟩]
 | lo, x :: b => if x.f1 < lo ∨ x.f0 > hi then rcut hi lo b else (if lo < x.f0 then [⟨lo, x.f0 - 1⟩] else []) ++ (if x.f1 < hi then rcut hi (x.f1 + 1) b else [])
theorem rcut_beyond (hi lo : Int) : ∀ (b : List S64), (∀ y, y ∈ b → y.f0 > hi) → rcut hi lo b = [⟨lo, hi⟩]
 | [], _ => rfl
 | x :: b, h => by
  rw [rcut, if_pos (.inr (h x List.mem_cons_self))]
  exact rcut_beyond hi lo b fun y hy => h y (List.mem_cons_of_mem _ hy)
theorem drop_none (lo : Int) (b : List S64) (h : ∀ y, y ∈ b → lo ≤ y.f1) : (b.dropWhile fun x => decide (x.f1 < lo)) = b := by
 cases b with
 | nil => rfl
 | cons x b => rw [List.dropWhile_cons_of_neg (by have := h x List.mem_cons_self; simp; omega)]
theorem rcut_eq (hi : Int) : ∀ (b : List S64) (lo : Int), Cls.Can b → rcut hi lo b = Cls.cut hi lo (b.dropWhile fun x => decide (x.f1 < lo))
 | [], _, _ => rfl
 | x :: b, lo, hc => by
  have hg := Cls.can_gap hc
  have hx := Cls.can_head hc
  have ht := Cls.can_tail hc
  rw [rcut]
  by_cases h1 : x.f1 < lo
  ·rw [if_pos (.inl h1), List.dropWhile_cons_of_pos (by simpa using h1)]
   exact rcut_eq hi b lo ht
  ·rw [List.dropWhile_cons_of_neg (by simpa using h1), Cls.cut]
   by_cases h2 : x.f0 > hi
   ·rw [if_pos (.inr h2), if_pos h2, rcut_beyond hi lo b fun y hy => by have := hg y hy; omega]
   ·rw [if_neg (by omega), if_neg h2, rcut_eq hi b (x.f1 + 1) ht, drop_none (x.f1 + 1) b fun y hy => by have := hg y hy; have := hc.2 y (List.mem_cons_of_mem _ hy); omega]
theorem rcut_length (hi : Int) : ∀ (b : List S64) (lo : Int), (rcut hi lo b).length ≤ b.length + 1
 | [], _ => by simp [rcut]
 | x :: b, lo => by
  have h1 := rcut_length hi b (x.f1 + 1)
  have h2 := rcut_length hi b lo
  rw [rcut]
  split
  ·simp; omega
  ·rw [List.length_append, List.length_cons]
   split <;> split <;> simp <;> omega
def refLess (a b : List S64) : List S64 := a.flatMap fun r => rcut r.f1 r.f0 b
theorem rcut_mem (hi lo : Int) (b : List S64) (h : lo ≤ hi) (hc : Cls.Can b) (c : Int) : Cls.Mem (rcut hi lo b) c ↔ (lo ≤ c ∧ c ≤ hi) ∧ ¬ Cls.Mem b c := by
 rw [rcut_eq hi b lo hc, Cls.cut_mem hi lo _ h (Cls.drop_can lo hc) (Cls.drop_from lo hc)]
 constructor
 ·rintro ⟨h1, h2⟩
  exact ⟨h1, fun hm => h2 ((Cls.drop_mem lo hc c h1.1).2 hm)⟩
 ·rintro ⟨h1, h2⟩
  exact ⟨h1, fun hm => h2 ((Cls.drop_mem lo hc c h1.1).1 hm)⟩
theorem refless_mem (a b : List S64) (ha : Cls.Can a) (hb : Cls.Can b) (c : Int) : Cls.Mem (refLess a b) c ↔ Cls.Mem a c ∧ ¬ Cls.Mem b c := by
 induction a with
 | nil => simp [refLess, Cls.mem_nil]
 | cons r a ih =>
  rw [show refLess (r :: a) b = rcut r.f1 r.f0 b ++ refLess a b from rfl, Cls.mem_append, ih (Cls.can_tail ha), rcut_mem _ _ _ (Cls.can_head ha) hb, Cls.mem_cons]
  constructor
  ·rintro (⟨h, g⟩ | ⟨h, g⟩)
   ·exact ⟨.inl h, g⟩
   ·exact ⟨.inr h, g⟩
  ·rintro ⟨h | h, g⟩
   ·exact .inl ⟨h, g⟩
   ·exact .inr ⟨h, g⟩
theorem refless_inR (a b : List S64) (ha : Cls.Can a) (hb : Cls.Can b) (hin : inR a = true) : inR (refLess a b) = true := by
 refine (inR_iff _).2 fun x hx => ?_
 obtain ⟨r, hr, hx⟩ := List.mem_flatMap.1 hx
 have h1 := (inR_iff a).1 hin r hr
 have h2 := ha.2 r hr
 rw [rcut_eq _ _ _ hb] at hx
 have h3 := Cls.cut_in r.f1 r.f0 _ h2 (Cls.drop_can _ hb) (Cls.drop_from _ hb) x hx
 omega
end Go.Proofs.YtamhkdlcoghdbaaGreatDoor.PCls
/- Out of Hd (wip/tools/prune2.py): the declarations alone that the texts of the trees name. -/
namespace Go.Proofs.YtamhkdlcoghdbaaGreatDoor.PCls
open Go.RowKit Go.Shelf Go.Proofs.YtamhkdlcoghdbaaGreatDoorW.PrintWords Go.Proofs.YtamhkdlcoghdbaaGreatDoorW.PrintLast Go.Proofs.YtamhkdlcoghdbaaGreatDoorW.PrintMore
set_option linter.unusedVariables false
set_option linter.unusedSimpArgs false
theorem rclass_row (w : World) (base : Nat) (v : Value) (l : List S64) (ho : w.ownsRow base 39 2 v l.length (rowOf l)) (hin : inR l = true) (hl : l.length < 8000000) (h2 : (Cls.cls l).length < 2000000) : Calls Tryz.prog 189 #[v] w fun e w' => ∃ v', e = .returned v' ∧ Row w' w.heap.size v' (Cls.cls l) ∧ Below w.heap.size w w' := by
  obtain ⟨A, c, rfl, hc, hC⟩ := Kd.R_reads (R_of_own (ok := fun _ => True) ho (fun _ _ => trivial))
  obtain ⟨k, hk⟩ := (refclass_ends l (by omega) hin).get
  refine (dredgeref06_Class.calls k A c l _ w hC hc hk).mono ?_
  rintro e w' ⟨v', rfl, hR, hb⟩
  exact ⟨v', rfl, ⟨own_of_R hR, inR_cls l hin, h2⟩, hb⟩
def RlHd (w2 wr : World) (x y R : List S64) (i : Nat) (v7 : Value) : Prop := ∃ out : List S64, wr.ownsRow w2.heap.size 39 2 v7 out.length (rowOf out) ∧ Below w2.heap.size w2 wr ∧ out ++ refLess (x.drop i) y = R
/-- between two rounds of the cutting -/
def RlCt (w2 wq : World) (q : Nat) (rhi : Int) (y rest R : List S64) (k : Nat) (left : Bool) (v7 : Value) : Prop := ∃ (lo : Int) (out : List S64), wq.heap[q]? = some (.cells #[.int .i64 lo, .int .i64 rhi] 39 (0, 0)) ∧ wq.ownsRow w2.heap.size 39 2 v7 out.length (rowOf out) ∧ v7.ownBlock ≠ some q ∧ Below w2.heap.size w2 wq ∧ (-9223372036854775808 ≤ lo ∧ lo ≤ 9223372036854775807) ∧ out ++ ((if left = true then rcut rhi lo (y.drop k) else []) ++ refLess rest y) = R
theorem rcut_cons (hi lo : Int) (x : S64) (b : List S64) : rcut hi lo (x :: b) = if x.f1 < lo ∨ x.f0 > hi then rcut hi lo b else (if lo < x.f0 then [⟨lo, x.f0 - 1⟩] else []) ++ (if x.f1 < hi then rcut hi (x.f1 + 1) b else []) := rfl
set_option maxHeartbeats 8000000 in
set_option maxRecDepth 100000 in
theorem refless_row (W : World) (b1 b2 : Nat) (v1 v2 : Value) (l1 l2 : List S64) (h1 : Row W b1 v1 l1) (h2 : Row W b2 v2 l2) (hlen : (refLess (Cls.cls l1) (Cls.cls l2)).length < 8000000) (hlen2 : (Cls.less_ l1 l2).length < 2000000) :
    Calls Tryz.prog 190 #[v1, v2] W fun e w' => ∃ v', e = .returned v' ∧ Row w' W.heap.size v' (Cls.less_ l1 l2) ∧ Below W.heap.size W w' := by
  have HC1 := Lib.hid (rclass_row W b1 v1 l1 h1.1 h1.2.1 (by have := h1.2.2; omega) (by have := h1.2.2; have := cls_length l1; omega))
  have HC2 := Lib.hid (fun (w : World) (hb : Below W.heap.size W w) => rclass_row w b2 v2 l2 (h2.below hb).1 h2.2.1 (by have := h2.2.2; omega) (by have := h2.2.2; have := cls_length l2; omega))
  obtain ⟨R, hR⟩ : ∃ R, R = refLess (Cls.cls l1) (Cls.cls l2) := ⟨_, rfl⟩
  have hin : inR R = true := by rw [hR]; exact refless_inR _ _ (Cls.cls_can _) (Cls.cls_can _) (inR_cls _ h1.2.1)
  have hRe : Cls.cls R = Cls.less_ l1 l2 := by rw [hR]; exact (Cls.cls_unique (Cls.less_can _ _) fun c => by rw [refless_mem _ _ (Cls.cls_can _) (Cls.cls_can _), Cls.cls_mem, Cls.cls_mem, Cls.less_mem]).symm
  rw [← hR] at hlen
  rw [← hRe] at hlen2 ⊢
  have HR := Lib.hid (And.intro hR (And.intro hin (And.intro hlen hlen2)))
  obtain ⟨A1, cp1, rfl⟩ := h1.form
  obtain ⟨A2, cp2, rfl⟩ := h2.form
  clear h1 h2 hR hin hlen hlen2 hRe
  go_enter Tryz.func190, Tryz.ntmps190
  go_wp2_with fail
  refine HC1.out.mono ?_
  rintro e w1 ⟨u1, rfl, hr1, hb1⟩
  have HX := Lib.hid (And.intro hr1 hb1)
  clear hr1 hb1 HC1
  go_wp2_with fail
  refine (HC2.out w1 HX.out.2).mono ?_
  rintro e w2 ⟨u2, rfl, hr2, hb2⟩
  have hx2 := HX.out.1.below hb2
  have HB2 := Lib.hid (HX.out.2.trans (hb2.mono HX.out.2.size))
  obtain ⟨x, hxe⟩ : ∃ x, x = Cls.cls l1 := ⟨_, rfl⟩
  obtain ⟨y, hye⟩ : ∃ y, y = Cls.cls l2 := ⟨_, rfl⟩
  rw [← hxe] at hx2
  rw [← hye] at hr2
  have hst : RlHd w2 w2 x y R 0 (.slice none 0 0) := ⟨[], ⟨rfl, .inl ⟨rfl, rfl⟩⟩, Below.refl _ _, by rw [hxe, hye]; exact HR.out.1.symm⟩
  have hxin := hx2.2.1
  have hxl := hx2.2.2
  have hyin := hr2.2.1
  have hyl := hr2.2.2
  obtain ⟨Ax, cx, rfl, hcx, hxc⟩ := hx2.sl
  obtain ⟨Ay, cy, rfl, hcy, hyc⟩ := hr2.sl
  have HXC := Lib.hid (And.intro hxc hxin)
  have HYC := Lib.hid (And.intro hyc hyin)
  have HST := Lib.hid hst
  clear hr2 hb2 hx2 hst HC2 HX hxc hxin hxe hye hyc hyin
  go_wp2_with fail
  go_loopg [7, 8] x.length (fun gg s7 s8 wr => ∃ (i : Nat), i ≤ x.length ∧ s8 = .int .i64 i ∧ Aside0 (RlHd w2 wr x y R i s7) ∧ x.length - i ≤ gg)
  case atStart => exact ⟨0, Nat.zero_le _, rfl, ⟨HST.out⟩, by omega⟩
  case round =>
    obtain ⟨i, hi, rfl, HS, hgg⟩ := hrel
    by_cases hlt : i < x.length
    · obtain ⟨r, hr⟩ : ∃ r, x[i]? = some r := ⟨_, List.getElem?_eq_getElem hlt⟩
      obtain ⟨out, hout, hbw, heq⟩ := HS.out
      obtain ⟨gx, ox, rfl, hgx, hc0, hc1⟩ := HXC.out.1 i r hr
      have hrin := inR_at HXC.out.2 hr
      have k0 := (hbw.cell (p := ⟨gx, _, none⟩) hgx).trans hc0
      have k1 := (hbw.cell (p := ⟨gx, _, none⟩) hgx).trans hc1
      have hdr : x.drop i = r :: x.drop (i + 1) := by
        obtain ⟨hi', e⟩ := List.getElem?_eq_some_iff.1 hr
        rw [List.drop_eq_getElem_cons hi', e]
      rw [hdr, show refLess (r :: x.drop (i + 1)) y = rcut r.f1 r.f0 y ++ refLess (x.drop (i + 1)) y from rfl] at heq
      have hlz : (i : Int) < (x.length : Int) := by omega
      have hi9 : i + 1 < 900000000000000 := by omega
      have hgx2 := Nat.lt_of_lt_of_le hgx hbw.size
      obtain ⟨rest, hrest⟩ : ∃ l, l = x.drop (i + 1) := ⟨_, rfl⟩
      rw [← hrest] at heq
      have HRE := Lib.hid hrest
      obtain ⟨rlo, rhi⟩ := r
      simp only [S64.f0, S64.f1] at k0 k1 hrin heq
      have HI := Lib.hid (And.intro hout (And.intro hbw heq))
      clear hout hbw heq hdr HST HS hc0 hc1 hr hrest
      go_upto_block 2 with fail
      obtain ⟨q, hq⟩ : ∃ q, q = wr.heap.size := ⟨_, rfl⟩
      obtain ⟨W3, hW3⟩ : ∃ X, X = wr.alloc (Obj.cells #[Value.int IntKind.i64 rlo, Value.int IntKind.i64 rhi] 39) := ⟨_, rfl⟩
      rw [← hW3, ← hq]
      have hq2 : w2.heap.size ≤ q := by rw [hq]; exact HI.out.2.1.size
      have hst : RlCt w2 W3 q rhi y rest R 0 true u7 := by
        refine ⟨rlo, out, by rw [hW3, hq]; exact heap_alloc_new _ _, by rw [hW3]; exact HI.out.1.alloc _, fun e => by have := (ownLt HI.out.1 q e).2; omega, by rw [hW3]; exact HI.out.2.1.alloc HI.out.2.1.size _, ⟨hrin.1, hrin.2.1⟩, HI.out.2.2⟩
      have HST := Lib.hid hst
      have hrh := hrin.2.2
      clear hW3 hq k0 k1 hst hrin HI
      go_cut [7, 10] (fun s7 s10 wx => ∃ left, s10 = .bool left ∧ Aside0 (RlCt w2 wx q rhi y rest R y.length left s7))
      case first =>
        go_wp2_with fail
        go_loopg [7, 10, 11] y.length (fun gg s7 s10 s11 wx => ∃ (k : Nat) (left : Bool), k ≤ y.length ∧ s11 = .int .i64 k ∧ s10 = .bool left ∧ Aside0 (RlCt w2 wx q rhi y rest R k left s7) ∧ y.length - k ≤ gg)
        case atStart => exact ⟨0, true, Nat.zero_le _, rfl, rfl, ⟨HST.out⟩, by omega⟩
        case round =>
          obtain ⟨k, left, hk, rfl, rfl, HS, hkg⟩ := hrel
          by_cases hkl : k < y.length
          · cases left with
            | false =>
              obtain ⟨lo, out2, e0, e1, e2, e3, e4, e5⟩ := HS.out
              go_wp2
              repeat (go_quiet (fail); try go_wp2)
              go_meet
              exact ⟨false, rfl, ⟨lo, out2, e0, e1, e2, e3, e4, e5⟩⟩
            | true =>
              obtain ⟨lo, out2, e0, e1, e2, e3, e4, e5⟩ := HS.out
              obtain ⟨z, hz⟩ : ∃ z, y[k]? = some z := ⟨_, List.getElem?_eq_getElem hkl⟩
              obtain ⟨gd, od, rfl, hgd, hd0, hd1⟩ := HYC.out.1 k z hz
              have hyr := inR_at HYC.out.2 hz
              have m0 := (e3.cell (p := ⟨gd, _, none⟩) hgd).trans hd0
              have m1 := (e3.cell (p := ⟨gd, _, none⟩) hgd).trans hd1
              have hgd2 := Nat.lt_of_lt_of_le hgd e3.size
              have hdr : y.drop k = z :: y.drop (k + 1) := by
                obtain ⟨hi', e⟩ := List.getElem?_eq_some_iff.1 hz
                rw [List.drop_eq_getElem_cons hi', e]
              rw [hdr, rcut_cons] at e5
              simp only [reduceIte] at e5
              obtain ⟨ylo, yhi⟩ := z
              simp only [S64.f0, S64.f1] at m0 m1 hyr e5
              have HE := Lib.hid (And.intro e0 (And.intro e1 (And.intro e2 (And.intro e3 e5))))
              have hk9 : k + 1 < 900000000000000 := by omega
              have hkz : (k : Int) < (y.length : Int) := by omega
              have c0 := lk_cell (i := 0) e0 rfl
              have c1 := lk_cell (i := 1) e0 rfl
              have fz0 := blk_frozen e0 0
              clear e0 e1 e2 e3 e5 HS hdr hz
              have HDD := Lib.hid (And.intro hd0 hd1)
              clear hd0 hd1
              by_cases hfar : yhi < lo
              · go_wp2
                repeat (go_quiet (fail); try go_wp2)
                go_roundg (y.length - (k + 1))
                case measure => omega
                case rel => exact ⟨k + 1, true, by omega, by go_num, rfl, ⟨lo, out2, HE.out.1, ownMove HE.out.2.1 (fun _ _ => rfl), HE.out.2.2.1, pw_below_drewN HE.out.2.2.2.1 _, e4, by have h := HE.out.2.2.2.2; rw [if_pos (.inl (by omega))] at h; simpa using h⟩, by omega⟩
              · by_cases hfar2 : rhi < ylo
                · go_wp2
                  repeat (go_quiet (fail); try go_wp2)
                  go_roundg (y.length - (k + 1))
                  case measure => omega
                  case rel => exact ⟨k + 1, true, by omega, by go_num, rfl, ⟨lo, out2, HE.out.1, ownMove HE.out.2.1 (fun _ _ => rfl), HE.out.2.2.1, pw_below_drewN HE.out.2.2.2.1 _, e4, by have h := HE.out.2.2.2.2; rw [if_pos (.inr (by omega))] at h; simpa using h⟩, by omega⟩
                · have hE5 : out2 ++ ((if lo < ylo then [(⟨lo, ylo - 1⟩ : S64)] else []) ++ ((if yhi < rhi then rcut rhi (yhi + 1) (y.drop (k + 1)) else []) ++ refLess rest y)) = R := by
                    have h := HE.out.2.2.2.2
                    rw [if_neg (by omega)] at h
                    simpa [List.append_assoc] using h
                  have HE5 := Lib.hid hE5
                  have hol : out2.length < 8000000 := by
                    have h := congrArg List.length hE5
                    have h2 := HR.out.2.2.1
                    rw [List.length_append] at h
                    omega
                  clear hE5
                  have hfit1 : yhi < rhi → -9223372036854775808 ≤ yhi + 1 ∧ yhi + 1 ≤ 9223372036854775807 := by omega
                  by_cases hly : lo < ylo
                  · have hfit0 : -9223372036854775808 ≤ ylo - 1 ∧ ylo - 1 ≤ 9223372036854775807 := by omega
                    go_wp2
                    repeat (go_quiet (fail); try go_wp2)
                    have hqs : q < wr.heap.size := (Array.getElem?_eq_some_iff.1 HE.out.1).1
                    refine go_start (fun w' => Below wr.heap.size wr w') [11] [.p 0, .p 1, .t 2, .p 3, .p 4, .p 5, .p 6, .t 7, .p 8, .p 9, .o 10, .z 11, .p 12] (by kernel_rfl) (by kernel_rfl) (fun c d v a w h => by cases d <;> exact h) (pw_below_drewN (pw_below_drewN (pw_below_drewN (Below.refl _ _) _) _) 1) (fun w4 hS4 => ?_)
                    repeat
                      first
                        | refine go_p (v := ?_) (b := ?_) rfl (.inl ⟨by rfl, ?_⟩) ?_ ?_
                          rotate_left 2
                          · intro w'; go_simp; with_reducible rfl
                          · simp only [Act.put, pu_, pz_, ps_, i64_w, i32_w]; rfl
                        | refine go_t (v := ?_) (b := ?_) rfl (.inl ⟨by rfl, ?_⟩) ?_ ?_
                          rotate_left 2
                          · intro w' hS; have hc := Below.cells hS; go_simp; with_reducible rfl
                          · simp only [Act.put, pu_, pz_, ps_, i64_w, i32_w]; rfl
                    refine go_val (v := .slice (some ⟨w4.heap.size, 0, none⟩) 1 1) (w1 := w4.alloc (.cells #[.int .i64 lo, .int .i64 (ylo - 1)] 39)) rfl (by rfl) (by go_simp; rw [w64_lit (ylo - 1) (by omega) (by omega)]) (by simp only [Act.put, List.setIfInBounds_toArray, List.set_cons_zero, List.set_cons_succ]; rfl) (hS4.alloc hS4.size _) ?_
                    have ho4 : w4.ownsRow w2.heap.size 39 2 u7 out2.length (rowOf out2) := ownMove HE.out.2.1 (fun k hk => hS4.block k (ownLt HE.out.2.1 k hk).2)
                    have hB4 : Below w2.heap.size w2 w4 := HE.out.2.2.2.1.trans (hS4.mono HE.out.2.2.2.1.size)
                    have hq4 : w4.heap[q]? = some (.cells #[.int .i64 lo, .int .i64 rhi] 39 (0, 0)) := (hS4.block q hqs).trans HE.out.1
                    obtain ⟨v', W5, hrun, hown, hg, hat⟩ := own_range (X := w4.alloc (.cells #[.int .i64 lo, .int .i64 (ylo - 1)] 39)) (ho4.alloc _) ⟨w4.heap.size, 0, none⟩ lo (ylo - 1) (by have := hB4.size; simp; omega) hol (lk_cell (i := 0) (heap_alloc_new _ _) rfl) (lk_cell (i := 1) (heap_alloc_new _ _) rfl)
                    refine go_valz (w1 := W5) rfl (by rfl) (append_run rfl rfl hrun) (by simp only [Act.put, List.setIfInBounds_toArray, List.set_cons_zero, List.set_cons_succ]; rfl) ?_
                    refine go_p (v := ?_) (b := ?_) rfl (.inl ⟨by rfl, ?_⟩) ?_ ?_
                    rotate_left 2
                    · intro w'; go_simp; with_reducible rfl
                    · simp only [Act.put, pu_, pz_, ps_, i64_w, i32_w]; rfl
                    refine go_done ?_
                    have hx0 : W5.heap[q]? = some (.cells #[.int .i64 lo, .int .i64 rhi] 39 (0, 0)) := (hg.block q (by have := (Array.getElem?_eq_some_iff.1 hq4).1; simp; omega) (fun e => HE.out.2.2.1 e.symm)).trans ((heap_alloc_old _ _ (Array.getElem?_eq_some_iff.1 hq4).1).trans hq4)
                    have hne : v'.ownBlock ≠ some q := by
                      rcases hat with e | e
                      · rw [e]; exact HE.out.2.2.1
                      · rw [e]; intro e'; have e2 := Option.some.inj e'; have e3 := hS4.size; simp at e2; omega
                    have hB5 : Below w2.heap.size w2 W5 := (hB4.alloc hB4.size _).grown hg (by have := hB4.size; simp; omega) (fun k hk => (ownLt ho4 k hk).1)
                    have HF := Lib.hid (And.intro hx0 (And.intro hown (And.intro hne hB5)))
                    have c0 := lk_cell (i := 0) hx0 rfl
                    have c1 := lk_cell (i := 1) hx0 rfl
                    have fz0 := blk_frozen hx0 0
                    have m0 := (hB5.cell (p := ⟨gd, _, none⟩) hgd).trans HDD.out.1
                    have m1 := (hB5.cell (p := ⟨gd, _, none⟩) hgd).trans HDD.out.2
                    have hgd3 := Nat.lt_of_lt_of_le hgd hB5.size
                    clear hx0 hown hne hB5 hg hat hrun ho4 hB4 hq4 hS4
                    by_cases hyr2 : yhi < rhi
                    · have hfit := hfit1 hyr2
                      go_wp2
                      repeat (go_quiet (fail); try go_wp2)
                      go_roundg (y.length - (k + 1))
                      case measure => omega
                      case rel => exact ⟨k + 1, true, by omega, by go_num, congrArg Value.bool (by simp), ⟨yhi + 1, out2 ++ [⟨lo, ylo - 1⟩], ls_blk (W := W5.drewN _) HF.out.1 0 _, ownMove HF.out.2.1 (fun j hj => (Below.heap_setCell _ _ _ j (fun e => HF.out.2.2.1 (by rw [hj]; exact congrArg some e)))), HF.out.2.2.1, (pw_below_drewN HF.out.2.2.2 _).setCell hq2 _, hfit, by have h := HE5.out; rw [if_pos (by omega), if_pos (by omega)] at h; simpa using h⟩, by omega⟩
                    · go_wp2
                      repeat (go_quiet (fail); try go_wp2)
                      go_roundg (y.length - (k + 1))
                      case measure => omega
                      case rel => exact ⟨k + 1, false, by omega, by go_num, congrArg Value.bool (decide_eq_false (by omega)), ⟨lo, out2 ++ [⟨lo, ylo - 1⟩], HF.out.1, ownMove HF.out.2.1 (fun _ _ => rfl), HF.out.2.2.1, pw_below_drewN HF.out.2.2.2 _, e4, by have h := HE5.out; rw [if_pos (by omega), if_neg (by omega)] at h; simpa using h⟩, by omega⟩
                  · by_cases hyr2 : yhi < rhi
                    · have hfit := hfit1 hyr2
                      go_wp2
                      repeat (go_quiet (fail); try go_wp2)
                      go_roundg (y.length - (k + 1))
                      case measure => omega
                      case rel => exact ⟨k + 1, true, by omega, by go_num, congrArg Value.bool (by simp), ⟨yhi + 1, out2, ls_blk (W := wr.drewN _) HE.out.1 0 _, ownMove HE.out.2.1 (fun j hj => (Below.heap_setCell _ _ _ j (fun e => HE.out.2.2.1 (by rw [hj]; exact congrArg some e)))), HE.out.2.2.1, (pw_below_drewN HE.out.2.2.2.1 _).setCell hq2 _, hfit, by have h := HE5.out; rw [if_neg (by omega), if_pos (by omega)] at h; simpa using h⟩, by omega⟩
                    · go_wp2
                      repeat (go_quiet (fail); try go_wp2)
                      go_roundg (y.length - (k + 1))
                      case measure => omega
                      case rel => exact ⟨k + 1, false, by omega, by go_num, congrArg Value.bool (decide_eq_false (by omega)), ⟨lo, out2, HE.out.1, ownMove HE.out.2.1 (fun _ _ => rfl), HE.out.2.2.1, pw_below_drewN HE.out.2.2.2.1 _, e4, by have h := HE5.out; rw [if_neg (by omega), if_neg (by omega)] at h; simpa using h⟩, by omega⟩
          · have hkk : k = y.length := by omega
            subst hkk
            go_wp2
            repeat (go_quiet (fail); try go_wp2)
            go_meet
            exact ⟨left, rfl, ⟨HS.out⟩⟩
      case rest =>
        obtain ⟨left, rfl, HN⟩ := hcut
        obtain ⟨lo, out2, e0, e1, e2, e3, e4, e5⟩ := HN.out
        rw [List.drop_length] at e5
        cases left with
        | true =>
          simp only [reduceIte] at e5
          have e6 : (out2 ++ [(⟨lo, rhi⟩ : S64)]) ++ refLess rest y = R := by rw [List.append_assoc]; exact e5
          have hol : out2.length < 8000000 := by
            have h := congrArg List.length e6
            have h2 := HR.out.2.2.1
            simp only [List.length_append] at h
            omega
          obtain ⟨v', W6, hrun, hown, hg, hat⟩ := own_range (X := wc.alloc (.cells #[.int .i64 lo, .int .i64 rhi] 39)) (e1.alloc _) ⟨wc.heap.size, 0, none⟩ lo rhi (by have := e3.size; simp; omega) hol (lk_cell (i := 0) (heap_alloc_new _ _) rfl) (lk_cell (i := 1) (heap_alloc_new _ _) rfl)
          have HRUN := Lib.hid hrun
          have HO := Lib.hid (And.intro hown (show Below w2.heap.size w2 W6 from (e3.alloc e3.size _).grown hg (by have := e3.size; simp; omega) (fun k hk => (ownLt e1 k hk).1)))
          have H5 := Lib.hid e6
          have c0 := lk_cell (i := 0) e0 rfl
          have c1 := lk_cell (i := 1) e0 rfl
          clear hrun hown hg hat e0 e1 e2 e3 e5 e6 HN HST
          go_wp2_with (at_builtin; refine Lib.wpList_append_run _ rfl _ _ _ _ rfl _ _ rfl rfl _ _ HRUN.out ?_)
          go_roundg (x.length - (i + 1))
          case measure => omega
          case rel => exact ⟨i + 1, by omega, by go_num, ⟨out2 ++ [⟨lo, rhi⟩], HO.out.1, HO.out.2, by have h := H5.out; rw [HRE.out] at h; exact h⟩, Nat.le_refl _⟩
        | false =>
          clear HST
          go_wp2_with fail
          go_roundg (x.length - (i + 1))
          case measure => omega
          case rel => exact ⟨i + 1, by omega, by go_num, ⟨out2, e1, e3, by have h := e5; simp only [Bool.false_eq_true, reduceIte, List.nil_append] at h; rw [HRE.out] at h; exact h⟩, Nat.le_refl _⟩
    · obtain ⟨out, hout, hbw, heq⟩ := HS.out
      have hx0 : x.drop i = [] := List.drop_eq_nil_of_le (by omega)
      have hoR : out = R := by rw [hx0] at heq; simpa [refLess] using heq
      subst hoR
      have HC := Lib.hid (rclass_row wr _ u7 out hout HR.out.2.1 HR.out.2.2.1 HR.out.2.2.2)
      have HF := Lib.hid (HB2.out.trans (hbw.mono HB2.out.size))
      clear hout hbw heq HS hx0
      go_wp2_with fail
      refine HC.out.mono ?_
      rintro e w6 ⟨u6, rfl, hr6, hb6⟩
      have HG := Lib.hid (And.intro (hr6.lower HF.out.size) (HF.out.trans (hb6.mono HF.out.size)))
      clear hr6 hb6 HC
      go_wp2_with fail
      go_ret
      exact ⟨_, rfl, HG.out⟩
end Go.Proofs.YtamhkdlcoghdbaaGreatDoor.PCls
/- Out of Rr (wip/tools/prune2.py): the declarations alone that the texts of the trees name. -/
namespace Go.Proofs.YtamhkdlcoghdbaaGreatDoor.PCls
open Go.RowKit Go.Shelf Go.Proofs.YtamhkdlcoghdbaaGreatDoorW.PrintWords Go.Proofs.YtamhkdlcoghdbaaGreatDoorW.PrintLast Go.Proofs.YtamhkdlcoghdbaaGreatDoorW.PrintMore
set_option linter.unusedVariables false
set_option linter.unusedSimpArgs false
theorem rfold_row (w : World) (base : Nat) (v : Value) (l : List S64) (h : Row w base v l) (hl : l.length ≤ 1900000) : Calls Tryz.prog 143 #[v] w fun e w' => ∃ v', e = .returned v' ∧ Row w' w.heap.size v' (Cls.fold l) ∧ Below w.heap.size w w' := by
 obtain ⟨A, c, rfl, hc, hC⟩ := Kd.R_reads h.R
 obtain ⟨k, hk⟩ := (reffold_ends l (by omega) h.2.1).get
 refine (dredgeref06_Fold.calls k A c l (Cls.fold l) w hC hc hk).mono ?_
 rintro e w' ⟨v', rfl, hR, hb⟩
 exact ⟨v', rfl, ⟨own_of_R hR, fold_inR l h.2.1, by have := fold_length l; omega⟩, hb⟩
theorem rnorm_row (w : World) (base : Nat) (v : Value) (l : List S64) (m : Bool) (h : Row w base v l) : Calls Tryz.prog 142 #[v, .bool m] w fun e w' => ∃ v', e = .returned v' ∧ Row w' w.heap.size v' (Cls.norm l m) ∧ Below w.heap.size w w' := by
 obtain ⟨A, c, rfl, hc, hC⟩ := Kd.R_reads h.R
 obtain ⟨k, hk⟩ := (refnorm_ends l m (by have := h.2.2; omega) h.2.1).get
 refine (dredgeref06_Norm.calls k A c l m _ w hC hc hk).mono ?_
 rintro e w' ⟨v', rfl, hR, hb⟩
 exact ⟨v', rfl, ⟨own_of_R hR, norm_inR l m, by have := norm_length l m; omega⟩, hb⟩
theorem refless_length (b : List S64) : ∀ a : List S64, (refLess a b).length ≤ a.length * (b.length + 1)
 | [] => by simp [refLess]
 | r :: a => by
  have h1 := refless_length b a
  have h2 := rcut_length r.f1 b r.f0
  rw [show refLess (r :: a) b = rcut r.f1 r.f0 b ++ refLess a b from rfl, List.length_append, List.length_cons, Nat.add_mul]
  omega
theorem rall0_row (w : World) (m : Bool) : Calls Tryz.prog 91 #[.bool m] w fun e w' => ∃ v', e = .returned v' ∧ Row w' w.heap.size v' (Cls.all m) ∧ Below w.heap.size w w' := by
 refine (dredgeref06_All.calls m (Cls.all m) w (by cases m <;> rfl)).mono ?_
 rintro e w' ⟨v', rfl, hR, hb⟩
 exact ⟨v', rfl, ⟨own_of_R hR, all_inR m, by have := all_length m; omega⟩, hb⟩
set_option maxHeartbeats 4000000 in
set_option maxRecDepth 100000 in
theorem rnot_row (w : World) (base : Nat) (v : Value) (l : List S64) (m : Bool) (h : Row w base v l) : Calls Tryz.prog 144 #[v, .bool m] w fun e w' => ∃ v', e = .returned v' ∧ Row w' w.heap.size v' (Cls.less_ (Cls.all m) l) ∧ Below w.heap.size w w' := by
 have HA := Lib.hid (rall0_row w m)
 have HL := Lib.hid (fun (w1 : World) (u : Value) (hb : Below w.heap.size w w1) (hu : Row w1 w.heap.size u (Cls.all m)) => refless_row w1 _ _ u v _ l hu (h.below hb) (by
  have h1 := refless_length (Cls.cls l) (Cls.cls (Cls.all m))
  have h2 := cls_length l
  have h3 := cls_length (Cls.all m)
  have h4 := all_length m
  have h5 := h.2.2
  have h6 : (Cls.cls (Cls.all m)).length * ((Cls.cls l).length + 1) ≤ 2 * 2000001 := Nat.mul_le_mul (by omega) (by omega)
  omega) (by have := not_length l m; omega))
 obtain ⟨A, c, rfl⟩ := h.form
 clear h
 go_enter Tryz.func144, Tryz.ntmps144
 go_wp2_with fail
 refine HA.out.mono ?_
 rintro e w1 ⟨u1, rfl, hr1, hb1⟩
 obtain ⟨A1, c1, rfl⟩ := hr1.form
 have HX := Lib.hid (And.intro hb1 hr1)
 clear hr1 hb1 HA
 go_wp2_with fail
 refine (HL.out w1 _ HX.out.1 HX.out.2).mono ?_
 rintro e w2 ⟨u2, rfl, hr2, hb2⟩
 have HF := Lib.hid (And.intro (hr2.lower HX.out.1.size) (HX.out.1.trans (hb2.mono HX.out.1.size)))
 clear hr2 hb2 HL
 go_wp2_with fail
 go_ret
 exact ⟨_, rfl, HF.out⟩
theorem not_none (m : Bool) : Cls.less_ (Cls.all m) [] = Cls.all m :=
 Cls.can_unique _ _ (Cls.less_can _ _) (by cases m <;> simp [Cls.all, Cls.Can]) fun c => by
  rw [Cls.less_mem]
  simp [Cls.Mem]
theorem rall_row (m : Bool) (w : World) : Calls Tryz.prog 91 #[.bool m] w fun e w' => ∃ v', e = .returned v' ∧ Row w' w.heap.size v' (clC.not_ [] m) ∧ Below w.heap.size w w' := by
 refine (dredgeref06_All.calls m (Cls.all m) w (by cases m <;> rfl)).mono ?_
 rintro e w' ⟨v', rfl, hR, hb⟩
 have hx : clC.not_ [] m = Cls.all m := not_none m
 refine ⟨v', rfl, ?_, hb⟩
 rw [hx]
 exact ⟨own_of_R hR, by cases m <;> decide, by cases m <;> decide⟩
end Go.Proofs.YtamhkdlcoghdbaaGreatDoor.PCls
