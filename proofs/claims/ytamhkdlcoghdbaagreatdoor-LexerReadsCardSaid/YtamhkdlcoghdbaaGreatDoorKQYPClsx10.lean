/- Out of YPClsx10 (wip/tools/prune2.py): the declarations alone that the texts of the trees name. -/
import Derived.Test.YtamhkdlcoghdbaaGreatDoorKMQZPClsx0
import Derived.Test.YtamhkdlcoghdbaaGreatDoorKQYWp
namespace Go.Proofs.YtamhkdlcoghdbaaGreatDoor.PCls
open Go.RowKit Go.Proofs.YtamhkdlcoghdbaaGreatDoorW.PrintWords Go.Proofs.YtamhkdlcoghdbaaGreatDoorW.PrintLast Go.Proofs.YtamhkdlcoghdbaaGreatDoorW.PrintMore
attribute [local go_sem] max2_int min2_int max_two min_two max_three min_three max_four min_four   -- for this text's walks alone
set_option linter.unusedVariables false
set_option linter.unusedSimpArgs false
mutual
def dredgeref06_sorted.l0 : Nat → List (S64) → List (S64) → List (S64) → Int → Option ((List (S64)))
 | 0, _, _, _, _ => none
 | k + 1, x3, x4, x5, x6 => if x6 < (x4.length : Int) then (dredgeref06_sorted.l1 k x3 x4 x5 x6) else (if x3.length + x5.length < 8796093022208 then (some (x3 ++ x5)) else (none))
def dredgeref06_sorted.l1 : Nat → List (S64) → List (S64) → List (S64) → Int → Option ((List (S64)))
 | 0, _, _, _, _ => none
 | k + 1, x3, x4, x5, x6 => if (x5.length : Int) > 0 then (if 0 < (x5.length : Int) then (if 0 ≤ x6 then (if x6 < (x4.length : Int) then (if ((rd_T64 x5 0).f0) < ((rd_T64 x4 x6).f0) then (if x3.length < 8796093022208 then (if 1 ≤ (x5.length : Int) then (dredgeref06_sorted.l1 k (x3 ++ [(⟨(rd_T64 x5 0).f0, (rd_T64 x5 0).f1⟩ : S64)]) x4 (x5.drop (1 : Int).toNat) x6) else (none)) else (none)) else (if x3.length < 8796093022208 then (dredgeref06_sorted.l0 k (x3 ++ [(⟨(rd_T64 x4 x6).f0, (rd_T64 x4 x6).f1⟩ : S64)]) x4 x5 (wrap64 (x6 + 1))) else (none))) else (none)) else (none)) else (none)) else (if 0 ≤ x6 then (if x6 < (x4.length : Int) then (if x3.length < 8796093022208 then (dredgeref06_sorted.l0 k (x3 ++ [(⟨(rd_T64 x4 x6).f0, (rd_T64 x4 x6).f1⟩ : S64)]) x4 x5 (wrap64 (x6 + 1))) else (none)) else (none)) else (none))
def dredgeref06_sorted.f : Nat → List (S64) → Option ((List (S64)))
 | 0, _ => none
 | k + 1, l0 => if (l0.length : Int) = 0 then (some ([] : List (S64))) else (if (l0.length : Int) = 1 then (if 0 < (l0.length : Int) then (if ((rd_T64 l0 0).f0) ≤ ((rd_T64 l0 0).f1) then (if ([] : List (S64)).length < 8796093022208 then (some (([] : List (S64)) ++ [(⟨(rd_T64 l0 0).f0, (rd_T64 l0 0).f1⟩ : S64)])) else (none)) else (some ([] : List (S64)))) else (none)) else (if 0 ≤ (wrap64 ((l0.length : Int) / 2)) then (if (wrap64 ((l0.length : Int) / 2)) ≤ (l0.length : Int) then ((dredgeref06_sorted.f k (l0.take ((wrap64 ((l0.length : Int) / 2)) : Int).toNat)).bind fun t189 => ((dredgeref06_sorted.f k (l0.drop ((wrap64 ((l0.length : Int) / 2)) : Int).toNat)).bind fun t196 => (dredgeref06_sorted.l0 k ([] : List (S64)) t189 t196 0))) else (none)) else (none)))
end
set_option maxHeartbeats 8000000 in
set_option maxRecDepth 100000 in
theorem dredgeref06_sorted.calls (k : Nat) : ∀ (A0 : Option Addr) (c0 : Nat) (l0 : List (S64)) (r : List (S64)) (w : World) (hr0 : Kd.C k64 w A0 l0.length l0) (hc0 : l0.length ≤ c0) (h : dredgeref06_sorted.f k l0 = some r),
  Calls Tryz.prog 209 #[.slice A0 l0.length c0] w fun e w' => ∃ v0_ : Value, e = .returned (v0_) ∧ Kd.R k64 39 w' w.heap.size (fun _ => True) v0_ r ∧ Below w.heap.size w w' := by
 induction k using Nat.strongRecOn with
 | _ k ih =>
 intro A0 c0 l0 r w hr0 hc0 h
 cases k with
 | zero => exact absurd h (by simp [dredgeref06_sorted.f])
 | succ k =>
 simp only [dredgeref06_sorted.f] at h
 have hu64 := Tryz.underlying39
 have HR0 := Aside0.mk hr0
 have HC0 := Aside0.mk hc0
 clear hr0 hc0
 have HB := Aside0.mk (Below.refl w.heap.size w)
 have H : (if (l0.length : Int) = 0 then (some ([] : List (S64))) else (if (l0.length : Int) = 1 then (if 0 < (l0.length : Int) then (if ((rd_T64 l0 0).f0) ≤ ((rd_T64 l0 0).f1) then (if ([] : List (S64)).length < 8796093022208 then (some (([] : List (S64)) ++ [(⟨(rd_T64 l0 0).f0, (rd_T64 l0 0).f1⟩ : S64)])) else (none)) else (some ([] : List (S64)))) else (none)) else (if 0 ≤ (wrap64 ((l0.length : Int) / 2)) then (if (wrap64 ((l0.length : Int) / 2)) ≤ (l0.length : Int) then ((dredgeref06_sorted.f k (l0.take ((wrap64 ((l0.length : Int) / 2)) : Int).toNat)).bind fun t189 => ((dredgeref06_sorted.f k (l0.drop ((wrap64 ((l0.length : Int) / 2)) : Int).toNat)).bind fun t196 => (dredgeref06_sorted.l0 k ([] : List (S64)) t189 t196 0))) else (none)) else (none)))) = some r := h
 clear h
 by_cases c2 : (l0.length : Int) = 0
 ·rw [if_pos c2] at H
  have c2b0 : ((l0.length : Int) == 0) = true := beq_iff_eq.mpr c2
  have c2b1 : ((l0.length : Int) != 0) = false := bne_eq_false_iff_eq.mpr c2
  clear c2
  obtain rfl := Option.some.inj H
  go_enter Tryz.func209, Tryz.ntmps209
  go_wp2
  repeat (go_quiet (fail); try go_wp2)
  go_ret
  exact ⟨_, by first | rfl | (simp [errW_none, errW_some] <;> rfl) | (simp [*, errW_none, errW_some] <;> rfl), by first | exact Kd.R_nil _ _ _ _ _ | exact Kd.N_nil _ _ _ _ _ | exact Kd.V_nil _ _ _ _ _ | exact Kd.Q_nil _ _ _ _ _ | exact Kd.S_nil _ _ _ _ _, by repeat (first | (with_reducible first | exact HB.out | apply wA | apply wN | apply wD) | exact HB.out)⟩
 ·rw [if_neg c2] at H
  have c2b0 : ((l0.length : Int) == 0) = false := beq_eq_false_iff_ne.mpr c2
  have c2b1 : ((l0.length : Int) != 0) = true := bne_iff_ne.mpr c2
  have c2b2 : ¬ (l0 = []) := fun h_ => c2 (by rw [h_]; rfl)
  by_cases c3 : (l0.length : Int) = 1
  ·rw [if_pos c3] at H
   have c3b0 : ((l0.length : Int) == 1) = true := beq_iff_eq.mpr c3
   have c3b1 : ((l0.length : Int) != 1) = false := bne_eq_false_iff_eq.mpr c3
   clear c3
   by_cases c4 : 0 < (l0.length : Int)
   ·rw [if_pos c4] at H
    have c4b0 : decide (0 < (l0.length : Int)) = true := decide_eq_true c4
    have c4b1 : decide (0 < l0.length) = true := decide_eq_true (by omega)
    clear c4
    by_cases c5 : ((rd_T64 l0 0).f0) ≤ ((rd_T64 l0 0).f1)
    ·rw [if_pos c5] at H
     have c5b0 : decide (((rd_T64 l0 0).f0) ≤ ((rd_T64 l0 0).f1)) = true := decide_eq_true c5
     clear c5
     by_cases c6 : ([] : List (S64)).length < 8796093022208
     ·rw [if_pos c6] at H
      have LMc6 := Aside0.mk c6
      clear c6
      obtain ⟨y182, hy182⟩ : ∃ y_ : List (S64), y_ = (([] : List (S64)) ++ [(⟨(rd_T64 l0 0).f0, (rd_T64 l0 0).f1⟩ : S64)]) := ⟨_, rfl⟩
      replace H : (some y182) = some r := by first | (rw [hy182]; with_reducible exact H) | (have H2_ := (Option.bind_some _ _).symm.trans H; rw [hy182]; with_reducible exact H2_) | (have H2_ := (Option.bind_some _ _).symm.trans H; with_reducible exact H2_) | with_reducible exact H | (rw [hy182]; exact H) | exact H
      have Ny182 := Aside0.mk hy182
      clear hy182
      obtain rfl := Option.some.inj H
      have p179 : 0 ≤ (0 : Int) := (by omega)
      have q179 : 0 < (l0.length : Int) := of_decide_eq_true (by first | (with_reducible assumption) | assumption)
      obtain ⟨ad179, e179, hx179_0, hx179_1⟩ := at_T64 HR0.out 0 p179 q179
      cases e179
      have qi179 : (0 < l0.length) = True := eq_true (by omega)
      (try rw [show ((0 : Int)).toNat = 0 from rfl] at hx179_0)
      (try rw [show 0 * 2 = 0 from rfl] at hx179_0)
      (try rw [Addr.add_zero'] at hx179_0)
      (try rw [show ((0 : Int)).toNat = 0 from rfl] at hx179_1)
      (try rw [show 0 * 2 = 0 from rfl] at hx179_1)
      (try rw [Addr.add_zero'] at hx179_1)
      replace p179 := eq_true p179
      replace q179 := eq_true q179
      have p180 : 0 ≤ (0 : Int) := (by omega)
      have q180 : 0 < (l0.length : Int) := of_decide_eq_true (by first | (with_reducible assumption) | assumption)
      obtain ⟨ad180, e180, hx180_0, hx180_1⟩ := at_T64 HR0.out 0 p180 q180
      obtain rfl : ad179 = ad180 := (by injection e180)
      have qi180 : (0 < l0.length) = True := eq_true (by omega)
      (try rw [show ((0 : Int)).toNat = 0 from rfl] at hx180_0)
      (try rw [show 0 * 2 = 0 from rfl] at hx180_0)
      (try rw [Addr.add_zero'] at hx180_0)
      (try rw [show ((0 : Int)).toNat = 0 from rfl] at hx180_1)
      (try rw [show 0 * 2 = 0 from rfl] at hx180_1)
      (try rw [Addr.add_zero'] at hx180_1)
      replace p180 := eq_true p180
      replace q180 := eq_true q180
      have p181 : 0 ≤ (0 : Int) := (by omega)
      have q181 : 0 < (l0.length : Int) := of_decide_eq_true (by first | (with_reducible assumption) | assumption)
      obtain ⟨ad181, e181, hx181_0, hx181_1⟩ := at_T64 HR0.out 0 p181 q181
      obtain rfl : ad179 = ad181 := (by injection e181)
      have qi181 : (0 < l0.length) = True := eq_true (by omega)
      (try rw [show ((0 : Int)).toNat = 0 from rfl] at hx181_0)
      (try rw [show 0 * 2 = 0 from rfl] at hx181_0)
      (try rw [Addr.add_zero'] at hx181_0)
      (try rw [show ((0 : Int)).toNat = 0 from rfl] at hx181_1)
      (try rw [show 0 * 2 = 0 from rfl] at hx181_1)
      (try rw [Addr.add_zero'] at hx181_1)
      replace p181 := eq_true p181
      replace q181 := eq_true q181
      go_enter Tryz.func209, Tryz.ntmps209
      go_wp2_with (first | ((with_reducible refine gate_builtin (b := .append) (xs := #[.tmp 23, .tmp 27]) rfl ?_); at_builtin; refine Kd.R_append k64 (w0 := w) w.heap.size rfl (.tmp 23) (.tmp 27) 35 39 (.agg #[(.int .i64 0), (.int .i64 0)]) 16 rfl Tryz.underlying35 info64 rfl (by decide) (by omega) (.slice none 0 0) ([] : List (S64)) (⟨(rd_T64 l0 0).f0, (rd_T64 l0 0).f1⟩ : S64) [.int .i64 ((rd_T64 l0 0).f0), .int .i64 ((rd_T64 l0 0).f1)] (fun _ => True) (fun _ => False) rfl rfl ?aP (fun _ hk => hk.elim) ?aF ?aO ?aB ?aS ?aL ?_; (case aP => exact k64_mkM _ _ _ (⟨(rd_T64 l0 0).f0, (rd_T64 l0 0).f1⟩ : S64)); (case aB => exact (by repeat (first | (with_reducible first | exact HB.out | apply wA | apply wN | apply wD) | exact HB.out))); (case aF => exact (fun _ _ => trivial)); (case aO => exact ((Kd.R_nil _ _ _ _ (fun _ => True)))); (case aS => exact (below_size (by repeat (first | (with_reducible first | exact HB.out | apply wA | apply wN | apply wD) | exact HB.out)))); (case aL => have := LMc6.out; omega); intro v183 w7 ho hb hg hat; rw [← Ny182.out] at ho; have n0_ := Aside0.mk (hb); have n1_ := Aside0.mk (ho); clear HB; have HB := n0_; have HO184 := n1_; clear n0_ n1_; clear ho hb hg hat))
      repeat (go_quiet (first | ((with_reducible refine gate_builtin (b := .append) (xs := #[.tmp 23, .tmp 27]) rfl ?_); at_builtin; refine Kd.R_append k64 (w0 := w) w.heap.size rfl (.tmp 23) (.tmp 27) 35 39 (.agg #[(.int .i64 0), (.int .i64 0)]) 16 rfl Tryz.underlying35 info64 rfl (by decide) (by omega) (.slice none 0 0) ([] : List (S64)) (⟨(rd_T64 l0 0).f0, (rd_T64 l0 0).f1⟩ : S64) [.int .i64 ((rd_T64 l0 0).f0), .int .i64 ((rd_T64 l0 0).f1)] (fun _ => True) (fun _ => False) rfl rfl ?aP (fun _ hk => hk.elim) ?aF ?aO ?aB ?aS ?aL ?_; (case aP => exact k64_mkM _ _ _ (⟨(rd_T64 l0 0).f0, (rd_T64 l0 0).f1⟩ : S64)); (case aB => exact (by repeat (first | (with_reducible first | exact HB.out | apply wA | apply wN | apply wD) | exact HB.out))); (case aF => exact (fun _ _ => trivial)); (case aO => exact ((Kd.R_nil _ _ _ _ (fun _ => True)))); (case aS => exact (below_size (by repeat (first | (with_reducible first | exact HB.out | apply wA | apply wN | apply wD) | exact HB.out)))); (case aL => have := LMc6.out; omega); intro v183 w7 ho hb hg hat; rw [← Ny182.out] at ho; have n0_ := Aside0.mk (hb); have n1_ := Aside0.mk (ho); clear HB; have HB := n0_; have HO184 := n1_; clear n0_ n1_; clear ho hb hg hat)); try go_wp2_with (first | ((with_reducible refine gate_builtin (b := .append) (xs := #[.tmp 23, .tmp 27]) rfl ?_); at_builtin; refine Kd.R_append k64 (w0 := w) w.heap.size rfl (.tmp 23) (.tmp 27) 35 39 (.agg #[(.int .i64 0), (.int .i64 0)]) 16 rfl Tryz.underlying35 info64 rfl (by decide) (by omega) (.slice none 0 0) ([] : List (S64)) (⟨(rd_T64 l0 0).f0, (rd_T64 l0 0).f1⟩ : S64) [.int .i64 ((rd_T64 l0 0).f0), .int .i64 ((rd_T64 l0 0).f1)] (fun _ => True) (fun _ => False) rfl rfl ?aP (fun _ hk => hk.elim) ?aF ?aO ?aB ?aS ?aL ?_; (case aP => exact k64_mkM _ _ _ (⟨(rd_T64 l0 0).f0, (rd_T64 l0 0).f1⟩ : S64)); (case aB => exact (by repeat (first | (with_reducible first | exact HB.out | apply wA | apply wN | apply wD) | exact HB.out))); (case aF => exact (fun _ _ => trivial)); (case aO => exact ((Kd.R_nil _ _ _ _ (fun _ => True)))); (case aS => exact (below_size (by repeat (first | (with_reducible first | exact HB.out | apply wA | apply wN | apply wD) | exact HB.out)))); (case aL => have := LMc6.out; omega); intro v183 w7 ho hb hg hat; rw [← Ny182.out] at ho; have n0_ := Aside0.mk (hb); have n1_ := Aside0.mk (ho); clear HB; have HB := n0_; have HO184 := n1_; clear n0_ n1_; clear ho hb hg hat)))
      go_ret
      exact ⟨_, by first | rfl | (simp [errW_none, errW_some] <;> rfl) | (simp [*, errW_none, errW_some] <;> rfl), by (with_reducible repeat (first | apply rA | apply rN | apply rD)); exact HO184.out, by repeat (first | (with_reducible first | exact HB.out | apply wA | apply wN | apply wD) | exact HB.out)⟩
     ·rw [if_neg c6] at H
      exact absurd H (by simp)
    ·rw [if_neg c5] at H
     have c5b0 : decide (((rd_T64 l0 0).f0) ≤ ((rd_T64 l0 0).f1)) = false := decide_eq_false c5
     clear c5
     obtain rfl := Option.some.inj H
     have p179 : 0 ≤ (0 : Int) := (by omega)
     have q179 : 0 < (l0.length : Int) := of_decide_eq_true (by first | (with_reducible assumption) | assumption)
     obtain ⟨ad179, e179, hx179_0, hx179_1⟩ := at_T64 HR0.out 0 p179 q179
     cases e179
     have qi179 : (0 < l0.length) = True := eq_true (by omega)
     (try rw [show ((0 : Int)).toNat = 0 from rfl] at hx179_0)
     (try rw [show 0 * 2 = 0 from rfl] at hx179_0)
     (try rw [Addr.add_zero'] at hx179_0)
     (try rw [show ((0 : Int)).toNat = 0 from rfl] at hx179_1)
     (try rw [show 0 * 2 = 0 from rfl] at hx179_1)
     (try rw [Addr.add_zero'] at hx179_1)
     replace p179 := eq_true p179
     replace q179 := eq_true q179
     have p180 : 0 ≤ (0 : Int) := (by omega)
     have q180 : 0 < (l0.length : Int) := of_decide_eq_true (by first | (with_reducible assumption) | assumption)
     obtain ⟨ad180, e180, hx180_0, hx180_1⟩ := at_T64 HR0.out 0 p180 q180
     obtain rfl : ad179 = ad180 := (by injection e180)
     have qi180 : (0 < l0.length) = True := eq_true (by omega)
     (try rw [show ((0 : Int)).toNat = 0 from rfl] at hx180_0)
     (try rw [show 0 * 2 = 0 from rfl] at hx180_0)
     (try rw [Addr.add_zero'] at hx180_0)
     (try rw [show ((0 : Int)).toNat = 0 from rfl] at hx180_1)
     (try rw [show 0 * 2 = 0 from rfl] at hx180_1)
     (try rw [Addr.add_zero'] at hx180_1)
     replace p180 := eq_true p180
     replace q180 := eq_true q180
     go_enter Tryz.func209, Tryz.ntmps209
     go_wp2
     repeat (go_quiet (fail); try go_wp2)
     go_ret
     exact ⟨_, by first | rfl | (simp [errW_none, errW_some] <;> rfl) | (simp [*, errW_none, errW_some] <;> rfl), by first | exact Kd.R_nil _ _ _ _ _ | exact Kd.N_nil _ _ _ _ _ | exact Kd.V_nil _ _ _ _ _ | exact Kd.Q_nil _ _ _ _ _ | exact Kd.S_nil _ _ _ _ _, by repeat (first | (with_reducible first | exact HB.out | apply wA | apply wN | apply wD) | exact HB.out)⟩
   ·rw [if_neg c4] at H
    exact absurd H (by simp)
  ·rw [if_neg c3] at H
   have c3b0 : ((l0.length : Int) == 1) = false := beq_eq_false_iff_ne.mpr c3
   have c3b1 : ((l0.length : Int) != 1) = true := bne_iff_ne.mpr c3
   obtain ⟨ji8, hji8⟩ : ∃ j_ : Int, (wrap64 ((l0.length : Int) / 2)) = j_ := ⟨_, rfl⟩
   replace H : (if 0 ≤ (ji8) then (if (ji8) ≤ (l0.length : Int) then ((dredgeref06_sorted.f k (l0.take ((ji8) : Int).toNat)).bind fun t189 => ((dredgeref06_sorted.f k (l0.drop ((ji8) : Int).toNat)).bind fun t196 => (dredgeref06_sorted.l0 k ([] : List (S64)) t189 t196 0))) else (none)) else (none)) = some r := by first | (rw [hji8] at H; exact H) | (simp only [hji8] at H ⊢; exact H)
   have hji8w : (IntKind.i64.wrap ((l0.length : Int) / 2)) = ji8 := (i64_w _).trans hji8
   by_cases c9 : 0 ≤ (ji8)
   ·rw [if_pos c9] at H
    have c9b0 := eq_true c9
    have c9b1 : decide (0 ≤ (ji8)) = true := decide_eq_true c9
    clear c9
    by_cases c10 : (ji8) ≤ (l0.length : Int)
    ·rw [if_pos c10] at H
     have c10b0 := eq_true c10
     have c10b1 : decide ((ji8) ≤ (l0.length : Int)) = true := decide_eq_true c10
     clear c10
     obtain ⟨y185, hy185⟩ : ∃ y_ : List (S64), y_ = (l0.take ((ji8) : Int).toNat) := ⟨_, rfl⟩
     replace H : ((dredgeref06_sorted.f k y185).bind fun t189 => ((dredgeref06_sorted.f k (l0.drop ((ji8) : Int).toNat)).bind fun t196 => (dredgeref06_sorted.l0 k ([] : List (S64)) t189 t196 0))) = some r := by first | (rw [hy185]; with_reducible exact H) | (have H2_ := (Option.bind_some _ _).symm.trans H; rw [hy185]; with_reducible exact H2_) | (have H2_ := (Option.bind_some _ _).symm.trans H; with_reducible exact H2_) | with_reducible exact H | (rw [hy185]; exact H) | exact H
     have Ny185 := Aside0.mk hy185
     clear hy185
     replace H := Option.bind_eq_some_iff.mp H
     obtain ⟨t189, A110, H⟩ := H
     replace H : ((dredgeref06_sorted.f k (l0.drop ((ji8) : Int).toNat)).bind fun t196 => (dredgeref06_sorted.l0 k ([] : List (S64)) t189 t196 0)) = some r := H
     have A11 := Aside0.mk A110
     clear A110
     have c12b0 := eq_true (of_decide_eq_true (by first | (with_reducible assumption) | assumption) : 0 ≤ (ji8))
     have c13b0 := eq_true (of_decide_eq_true (by first | (with_reducible assumption) | assumption) : (ji8) ≤ (l0.length : Int))
     obtain ⟨y192, hy192⟩ : ∃ y_ : List (S64), y_ = (l0.drop ((ji8) : Int).toNat) := ⟨_, rfl⟩
     replace H : ((dredgeref06_sorted.f k y192).bind fun t196 => (dredgeref06_sorted.l0 k ([] : List (S64)) t189 t196 0)) = some r := by first | (rw [hy192]; with_reducible exact H) | (have H2_ := (Option.bind_some _ _).symm.trans H; rw [hy192]; with_reducible exact H2_) | (have H2_ := (Option.bind_some _ _).symm.trans H; with_reducible exact H2_) | with_reducible exact H | (rw [hy192]; exact H) | exact H
     have Ny192 := Aside0.mk hy192
     clear hy192
     replace H := Option.bind_eq_some_iff.mp H
     obtain ⟨t196, A140, H⟩ := H
     replace H : (dredgeref06_sorted.l0 k ([] : List (S64)) t189 t196 0) = some r := H
     have A14 := Aside0.mk A140
     clear A140
     have H' := Aside0.mk H
     clear H
     have q15 : ((ji8) : Int) ≤ ((l0.length : Int) : Int) := of_decide_eq_true (by first | (with_reducible assumption) | assumption)
     obtain ⟨i015, hi015, _, hsz15, _⟩ := info_parts info64
     have hroom15 : l0.length ≤ c0 := HC0.out
     have hC15 : Kd.C k64 _ A0 l0.length l0 := HR0.out
     have hcut15 := cut_to (P := Tryz.prog) 35 39 .i64 Tryz.underlying35 hi015 A0 l0.length c0 (ji8) (of_decide_eq_true (by first | (with_reducible assumption) | assumption)) q15 hroom15
     have hr15 := Kd.C_take (m := ((ji8) : Int).toNat) hC15 (by omega)
     have hy15 : y185.length = ((ji8) : Int).toNat := (by rw [Ny185.out, List.length_take]; omega)
     rw [← Ny185.out] at hr15
     rw [← hy15] at hcut15
     have HR188 := Aside0.mk hr15
     have HC188 := Aside0.mk (show y185.length ≤ c0 from by omega)
     clear hr15 hC15 hroom15 hi015 hsz15
     have KY15 := Aside0.mk hy15
     clear hy15
     replace q15 := eq_true q15
     go_enter Tryz.func209, Tryz.ntmps209
     go_wp2_with (first | (go_at_call 209; (with_reducible refine (ih k (by omega) _ _ y185 t189 _ ?side1 ?side2 A11.out).mono ?_); (case side1 => repeat (first | exact HR188.out | (with_reducible refine cA ?_ _) | (with_reducible refine cN ?_ _) | (with_reducible refine cD ?_))); (case side2 => exact HC188.out); rintro e w16 ⟨v190, rfl, ho0, hb⟩; have n0_ := Aside0.mk (Kd.R_lower ho0 (below_size (by repeat (first | (with_reducible first | exact HB.out | apply wA | apply wN | apply wD) | exact HB.out)))); have n1_ := Aside0.mk (below_step (by repeat (first | (with_reducible first | exact HB.out | apply wA | apply wN | apply wD) | exact HB.out)) hb); clear HB; have HO191 := n0_; have HB := n1_; clear n0_ n1_; (try clear hb); (try clear hb2); (try clear hk); (try clear hi); (try clear ho0); have q17 : ((ji8) : Int) ≤ ((l0.length : Int) : Int) := of_decide_eq_true (by first | (with_reducible assumption) | assumption); obtain ⟨i017, hi017, _, hsz17, _⟩ := info_parts info64; have hroom17 : l0.length ≤ c0 := HC0.out; have hC17 : Kd.C k64 _ A0 l0.length l0 := HR0.out; have q017 : (0 : Int) ≤ ((ji8) : Int) := of_decide_eq_true (by first | (with_reducible assumption) | assumption); have hcut17 := cut_from (P := Tryz.prog) 35 39 .i64 Tryz.underlying35 hi017 2 hsz17 A0 l0.length c0 (ji8) q017 q17; have hr17 := Kd.C_drop (m := ((ji8) : Int).toNat) (c := c0) hC17 (by omega) hroom17; obtain ⟨A17, hA17⟩ : ∃ A1, A1 = (if c0 = ((ji8) : Int).toNat then A0 else (A0 : Option Addr).map (·.add (((ji8) : Int).toNat * 2))) := ⟨_, rfl⟩; obtain ⟨c17, hc17⟩ : ∃ c1, c1 = c0 - ((ji8) : Int).toNat := ⟨_, rfl⟩; have hy17 : y192.length = l0.length - ((ji8) : Int).toNat := (by rw [Ny192.out, List.length_drop] <;> omega); rw [show (l0).drop ((ji8) : Int).toNat = y192 from Ny192.out.symm] at hr17; replace hr17 : Kd.C k64 _ A17 y192.length y192 := (by rw [hA17]; exact hr17); rw [← hy17, ← hA17, ← hc17] at hcut17; have HR195 := Aside0.mk hr17; have HC195 := Aside0.mk (show y192.length ≤ c17 from by rw [hy17, hc17]; exact Nat.sub_le_sub_right hroom17 _); clear hr17 hC17 hroom17 hi017 hsz17 hc17; have KY17 := Aside0.mk hy17; have KA17 := Aside0.mk hA17; clear hy17 hA17; replace q17 := eq_true q17) | (go_at_call 209; (with_reducible refine (ih k (by omega) _ _ y192 t196 _ ?side1 ?side2 A14.out).mono ?_); (case side1 => repeat (first | exact (Kd.C_below HR195.out HB.out) | (with_reducible refine cA ?_ _) | (with_reducible refine cN ?_ _) | (with_reducible refine cD ?_))); (case side2 => exact HC195.out); rintro e w18 ⟨v197, rfl, ho0, hb⟩; have n0_ := Aside0.mk (rE (by (with_reducible repeat (first | apply rA | apply rN | apply rD)); exact HO191.out) (rB ho0) hb); have n1_ := Aside0.mk (Kd.R_lower (rW ho0 (rL (by (with_reducible repeat (first | apply rA | apply rN | apply rD)); exact HO191.out))) (below_size (by repeat (first | (with_reducible first | exact HB.out | apply wA | apply wN | apply wD) | exact HB.out)))); have n2_ := Aside0.mk (below_step (by repeat (first | (with_reducible first | exact HB.out | apply wA | apply wN | apply wD) | exact HB.out)) hb); clear HO191; clear HB; have HO191 := n0_; have HO198 := n1_; have HB := n2_; clear n0_ n1_ n2_; (try clear hb); (try clear hb2); (try clear hk); (try clear hi); (try clear ho0)))
     go_loopg [3, 5, 6] k (fun kq v3 v5 v6 w' => ∃ (x3_1 : List (S64)) (x5_1 : List (S64)) (x6_1 : Int), v6 = .int .i64 x6_1 ∧ Aside0 (dredgeref06_sorted.l0 kq x3_1 t189 x5_1 x6_1 = some r) ∧ Aside0 (kq ≤ k) ∧ Aside0 (Kd.R k64 39 w' w.heap.size (fun k_ => some k_ ≠ (v190 : Value).ownBlock ∧ some k_ ≠ (v5 : Value).ownBlock) v3 x3_1) ∧ Aside0 (Kd.R k64 39 w' w.heap.size (fun k_ => some k_ ≠ (v3 : Value).ownBlock ∧ some k_ ≠ (v5 : Value).ownBlock) v190 t189) ∧ Aside0 (Kd.Q k64 39 w' w.heap.size (fun k_ => some k_ ≠ (v3 : Value).ownBlock ∧ some k_ ≠ (v190 : Value).ownBlock) v5 x5_1) ∧ Aside0 (Below w.heap.size w w'))
     case atStart => exact ⟨(([] : List (S64))), (t196), (0), (by first | rfl | (simp; done) | (simp [*]; done)), H', ⟨Nat.le_refl _⟩, ⟨by first | exact Kd.R_nil _ _ _ _ _ | exact Kd.N_nil _ _ _ _ _ | exact Kd.V_nil _ _ _ _ _ | exact Kd.Q_nil _ _ _ _ _ | exact Kd.S_nil _ _ _ _ _⟩, ⟨by (with_reducible repeat (first | apply rA | apply rN | apply rD)); exact Kd.R_mono HO191.out (fun _ hk => ⟨(by simp [Value.ownBlock]), hk.2⟩)⟩, ⟨Kd.Q_of_R (by (with_reducible repeat (first | apply rA | apply rN | apply rD)); exact Kd.R_mono HO198.out (fun _ hk => ⟨(by simp [Value.ownBlock]), hk.2⟩))⟩, ⟨by repeat (first | (with_reducible first | exact HB.out | apply wA | apply wN | apply wD) | exact HB.out)⟩⟩
     case round =>
      clear H'
      try clear c1
      try clear p1
      try clear q1
      try clear hx1
      try clear qi1
      try clear c2
      try clear c2b0
      try clear c2b1
      try clear c2b2
      try clear p2
      try clear c3
      try clear c3b0
      try clear c3b1
      try clear c4
      try clear c4b0
      try clear c4b1
      try clear c5
      try clear c5b0
      try clear c6
      try clear p6
      try clear c9
      try clear c9b0
      try clear c9b1
      try clear c10
      try clear c10b0
      try clear c10b1
      try clear c12
      try clear c12b0
      try clear c13
      try clear c13b0
      try clear q15
      try clear c17
      try clear p17
      try clear q17
      try clear hx17
      try clear qi17
      try clear p18
      try clear q18
      try clear hx18
      try clear qi18
      try clear hx179_0
      try clear hx179_1
      try clear hx180_0
      try clear hx180_1
      try clear hx181_0
      try clear hx181_1
      try clear p179
      try clear p180
      try clear p181
      try clear q017
      try clear q15
      try clear q17
      try clear q179
      try clear q180
      try clear q181
      obtain ⟨x3_1, x5_1, x6_1, rfl, HA, HK1, HO_3, HO_4, HO_5, HB⟩ := hrel
      cases gk with
      | zero => exact absurd HA.out (by simp [dredgeref06_sorted.l0])
      | succ k1 =>
       have H := HA.out
       clear HA
       simp only [dredgeref06_sorted.l0] at H
       by_cases c19 : x6_1 < (t189.length : Int)
       ·rw [if_pos c19] at H
        have c19b0 : decide (x6_1 < (t189.length : Int)) = true := decide_eq_true c19
        clear c19
        have H' := Aside0.mk H
        clear H
        obtain ⟨Ao20, co20, eo20⟩ := Kd.R_slice HO_4.out
        subst eo20
        go_wp2
        repeat (go_quiet (fail); try go_wp2)
        go_loopg [3, 5] k1 (fun kq v3 v5 w' => ∃ (x3_2 : List (S64)) (x5_2 : List (S64)), Aside0 (dredgeref06_sorted.l1 kq x3_2 t189 x5_2 x6_1 = some r) ∧ Aside0 (kq ≤ k1) ∧ Aside0 (Kd.R k64 39 w' w.heap.size (fun k_ => some k_ ≠ ((.slice Ao20 t189.length co20) : Value).ownBlock ∧ some k_ ≠ (v5 : Value).ownBlock) v3 x3_2) ∧ Aside0 (Kd.R k64 39 w' w.heap.size (fun k_ => some k_ ≠ (v3 : Value).ownBlock ∧ some k_ ≠ (v5 : Value).ownBlock) (.slice Ao20 t189.length co20) t189) ∧ Aside0 (Kd.Q k64 39 w' w.heap.size (fun k_ => some k_ ≠ (v3 : Value).ownBlock ∧ some k_ ≠ ((.slice Ao20 t189.length co20) : Value).ownBlock) v5 x5_2) ∧ Aside0 (Below w.heap.size w w'))
        case atStart => exact ⟨(x3_1), (x5_1), H', ⟨Nat.le_refl _⟩, ⟨by (with_reducible repeat (first | apply rA | apply rN | apply rD)); exact HO_3.out⟩, ⟨by (with_reducible repeat (first | apply rA | apply rN | apply rD)); exact HO_4.out⟩, ⟨by (with_reducible repeat (first | apply qA | apply qN | apply qD)); exact HO_5.out⟩, ⟨by repeat (first | (with_reducible first | exact HB.out | apply wA | apply wN | apply wD) | exact HB.out)⟩⟩
        case round =>
         clear H'
         try clear c1
         try clear p1
         try clear q1
         try clear hx1
         try clear qi1
         try clear c2
         try clear c2b0
         try clear c2b1
         try clear c2b2
         try clear p2
         try clear c3
         try clear c3b0
         try clear c3b1
         try clear c4
         try clear c4b0
         try clear c4b1
         try clear c5
         try clear c5b0
         try clear c6
         try clear p6
         try clear c9
         try clear c9b0
         try clear c9b1
         try clear c10
         try clear c10b0
         try clear c10b1
         try clear c12
         try clear c12b0
         try clear c13
         try clear c13b0
         try clear q15
         try clear c17
         try clear p17
         try clear q17
         try clear hx17
         try clear qi17
         try clear p18
         try clear q18
         try clear hx18
         try clear qi18
         try clear c19
         try clear c19b0
         try clear hx179_0
         try clear hx179_1
         try clear hx180_0
         try clear hx180_1
         try clear hx181_0
         try clear hx181_1
         try clear p1
         try clear p17
         try clear p179
         try clear p18
         try clear p180
         try clear p181
         try clear p2
         try clear p6
         try clear q017
         try clear q1
         try clear q15
         try clear q17
         try clear q179
         try clear q18
         try clear q180
         try clear q181
         obtain ⟨x3_2, x5_2, HA, HK2, HO_3, HO_4, HO_5, HB⟩ := hrel
         cases gk with
         | zero => exact absurd HA.out (by simp [dredgeref06_sorted.l1])
         | succ k2 =>
          have H := HA.out
          clear HA
          simp only [dredgeref06_sorted.l1] at H
          by_cases c21 : (x5_2.length : Int) > 0
          ·rw [if_pos c21] at H
           have c21b0 : decide (0 < (x5_2.length : Int)) = true := decide_eq_true c21
           have c21b1 : decide (0 < x5_2.length) = true := decide_eq_true (by omega)
           clear c21
           by_cases c22 : 0 < (x5_2.length : Int)
           ·rw [if_pos c22] at H
            have c22b0 : decide (0 < (x5_2.length : Int)) = true := decide_eq_true c22
            have c22b1 : decide (0 < x5_2.length) = true := decide_eq_true (by omega)
            clear c22
            by_cases c23 : 0 ≤ x6_1
            ·rw [if_pos c23] at H
             have c23b0 : decide (0 ≤ x6_1) = true := decide_eq_true c23
             clear c23
             by_cases c24 : x6_1 < (t189.length : Int)
             ·rw [if_pos c24] at H
              have c24b0 : decide (x6_1 < (t189.length : Int)) = true := decide_eq_true c24
              clear c24
              by_cases c25 : ((rd_T64 x5_2 0).f0) < ((rd_T64 t189 x6_1).f0)
              ·rw [if_pos c25] at H
               have c25b0 : decide (((rd_T64 x5_2 0).f0) < ((rd_T64 t189 x6_1).f0)) = true := decide_eq_true c25
               clear c25
               by_cases c26 : x3_2.length < 8796093022208
               ·rw [if_pos c26] at H
                have LMc26 := Aside0.mk c26
                clear c26
                obtain ⟨y205, hy205⟩ : ∃ y_ : List (S64), y_ = (x3_2 ++ [(⟨(rd_T64 x5_2 0).f0, (rd_T64 x5_2 0).f1⟩ : S64)]) := ⟨_, rfl⟩
                replace H : (if 1 ≤ (x5_2.length : Int) then (dredgeref06_sorted.l1 k2 y205 t189 (x5_2.drop (1 : Int).toNat) x6_1) else (none)) = some r := by first | (rw [hy205]; with_reducible exact H) | (have H2_ := (Option.bind_some _ _).symm.trans H; rw [hy205]; with_reducible exact H2_) | (have H2_ := (Option.bind_some _ _).symm.trans H; with_reducible exact H2_) | with_reducible exact H | (rw [hy205]; exact H) | exact H
                have Ny205 := Aside0.mk hy205
                clear hy205
                by_cases c27 : 1 ≤ (x5_2.length : Int)
                ·rw [if_pos c27] at H
                 have c27b0 := eq_true c27
                 have c27b1 : decide (1 ≤ (x5_2.length : Int)) = true := decide_eq_true c27
                 clear c27
                 obtain ⟨y208, hy208⟩ : ∃ y_ : List (S64), y_ = (x5_2.drop (1 : Int).toNat) := ⟨_, rfl⟩
                 replace H : (dredgeref06_sorted.l1 k2 y205 t189 y208 x6_1) = some r := by first | (rw [hy208]; with_reducible exact H) | (have H2_ := (Option.bind_some _ _).symm.trans H; rw [hy208]; with_reducible exact H2_) | (have H2_ := (Option.bind_some _ _).symm.trans H; with_reducible exact H2_) | with_reducible exact H | (rw [hy208]; exact H) | exact H
                 have Ny208 := Aside0.mk hy208
                 clear hy208
                 have H' := Aside0.mk H
                 clear H
                 obtain ⟨Ao28, co28, eo28, _⟩ := Kd.Q_slice HO_5.out
                 subst eo28
                 have p202 : 0 ≤ (0 : Int) := (by omega)
                 have q202 : 0 < (x5_2.length : Int) := of_decide_eq_true (by first | (with_reducible assumption) | assumption)
                 obtain ⟨ad202, e202, hx202_0, hx202_1⟩ := at_T64 (Kd.Q_reads' HO_5.out).2.2 0 p202 q202
                 cases e202
                 have qi202 : (0 < x5_2.length) = True := eq_true (by omega)
                 (try rw [show ((0 : Int)).toNat = 0 from rfl] at hx202_0)
                 (try rw [show 0 * 2 = 0 from rfl] at hx202_0)
                 (try rw [Addr.add_zero'] at hx202_0)
                 (try rw [show ((0 : Int)).toNat = 0 from rfl] at hx202_1)
                 (try rw [show 0 * 2 = 0 from rfl] at hx202_1)
                 (try rw [Addr.add_zero'] at hx202_1)
                 replace p202 := eq_true p202
                 replace q202 := eq_true q202
                 have p203 : 0 ≤ (x6_1 : Int) := of_decide_eq_true (by first | (with_reducible assumption) | assumption)
                 have q203 : x6_1 < (t189.length : Int) := of_decide_eq_true (by first | (with_reducible assumption) | assumption)
                 obtain ⟨ad203, e203, hx203_0, hx203_1⟩ := at_T64 (rR HO_4.out).2.2 x6_1 p203 q203
                 cases e203
                 replace p203 := eq_true p203
                 replace q203 := eq_true q203
                 have p204 : 0 ≤ (0 : Int) := (by omega)
                 have q204 : 0 < (x5_2.length : Int) := of_decide_eq_true (by first | (with_reducible assumption) | assumption)
                 obtain ⟨ad204, e204, hx204_0, hx204_1⟩ := at_T64 (Kd.Q_reads' HO_5.out).2.2 0 p204 q204
                 obtain rfl : ad202 = ad204 := (by injection e204)
                 have qi204 : (0 < x5_2.length) = True := eq_true (by omega)
                 (try rw [show ((0 : Int)).toNat = 0 from rfl] at hx204_0)
                 (try rw [show 0 * 2 = 0 from rfl] at hx204_0)
                 (try rw [Addr.add_zero'] at hx204_0)
                 (try rw [show ((0 : Int)).toNat = 0 from rfl] at hx204_1)
                 (try rw [show 0 * 2 = 0 from rfl] at hx204_1)
                 (try rw [Addr.add_zero'] at hx204_1)
                 replace p204 := eq_true p204
                 replace q204 := eq_true q204
                 go_wp2_with (first | ((with_reducible refine gate_builtin (b := .append) (xs := #[.tmp 63, .tmp 67]) rfl ?_); at_builtin; refine Kd.R_append k64 (w0 := w) w.heap.size rfl (.tmp 63) (.tmp 67) 35 39 (.agg #[(.int .i64 0), (.int .i64 0)]) 16 rfl Tryz.underlying35 info64 rfl (by decide) (by omega) u3 x3_2 (⟨(rd_T64 x5_2 0).f0, (rd_T64 x5_2 0).f1⟩ : S64) [.int .i64 ((rd_T64 x5_2 0).f0), .int .i64 ((rd_T64 x5_2 0).f1)] (fun k_ => some k_ ≠ (.slice (some ad203) t189.length co20 : Value).ownBlock ∧ some k_ ≠ (.slice (some ad202) x5_2.length co28 : Value).ownBlock) (fun _ => False) rfl rfl ?aP (fun _ hk => hk.elim) ?aF ?aO ?aB ?aS ?aL ?_; (case aP => exact k64_mkM _ _ _ (⟨(rd_T64 x5_2 0).f0, (rd_T64 x5_2 0).f1⟩ : S64)); (case aB => exact (by repeat (first | (with_reducible first | exact HB.out | apply wA | apply wN | apply wD) | exact HB.out))); (case aF => exact (fun k_ hk => ⟨Kd.fresh' (rL (by (with_reducible repeat (first | apply rA | apply rN | apply rD)); exact HO_4.out)) k_ hk, Kd.fresh' (Kd.Q_lt (by (with_reducible repeat (first | apply qA | apply qN | apply qD)); exact HO_5.out)) k_ hk⟩)); (case aO => exact (by (with_reducible repeat (first | apply rA | apply rN | apply rD)); exact HO_3.out)); (case aS => exact (below_size (by repeat (first | (with_reducible first | exact HB.out | apply wA | apply wN | apply wD) | exact HB.out)))); (case aL => have := LMc26.out; omega); intro v206 w29 ho hb hg hat; rw [← Ny205.out] at ho; have n0_ := Aside0.mk (Kd.R_after (ok := (fun k_ => some k_ ≠ (.slice (some ad202) x5_2.length co28 : Value).ownBlock)) (by (with_reducible repeat (first | apply rA | apply rN | apply rD)); exact Kd.R_mono HO_4.out (fun _ hk => ⟨hk.2, hk.1⟩)) hg hat); have n1_ := Aside0.mk (Kd.Q_after (ok := (fun k_ => some k_ ≠ (.slice (some ad203) t189.length co20 : Value).ownBlock)) (by (with_reducible repeat (first | apply qA | apply qN | apply qD)); exact Kd.Q_mono HO_5.out (fun _ hk => ⟨hk.2, hk.1⟩)) hg hat); have n2_ := Aside0.mk (hb); have n3_ := Aside0.mk (ho); clear HO_4; clear HO_5; clear HB; clear HO_3; have HO_4 := n0_; have HO_5 := n1_; have HB := n2_; have HO207 := n3_; clear n0_ n1_ n2_ n3_; clear ho hb hg hat; have q30 : (1 : Int) ≤ ((x5_2.length : Int) : Int) := of_decide_eq_true (by first | (with_reducible assumption) | assumption); obtain ⟨i030, hi030, _, hsz30, _⟩ := info_parts info64; have hcut30 := cut_from (P := Tryz.prog) 35 39 .i64 Tryz.underlying35 hi030 2 hsz30 (some ad202) x5_2.length co28 1 (by omega) q30; have hr30 := Kd.Q_drop (k := (1 : Int).toNat) HO_5.out (by omega); obtain ⟨A30, hA30⟩ : ∃ A1, A1 = (if co28 = (1 : Int).toNat then (some ad202) else ((some ad202) : Option Addr).map (·.add ((1 : Int).toNat * 2))) := ⟨_, rfl⟩; obtain ⟨c30, hc30⟩ : ∃ c1, c1 = co28 - (1 : Int).toNat := ⟨_, rfl⟩; have hy30 : y208.length = x5_2.length - (1 : Int).toNat := (by rw [Ny208.out, List.length_drop]); rw [← Ny208.out] at hr30; rw [← hy30, ← hA30, ← hc30] at hcut30; replace hr30 : Kd.Q k64 39 w29 w.heap.size (fun k_ => some k_ ≠ (.slice (some ad203) t189.length co20 : Value).ownBlock ∧ some k_ ≠ (v206 : Value).ownBlock) (.slice A30 y208.length c30) y208 := (by rw [hA30, hc30, hy30]; exact hr30); have HE30 : Aside0 ((Value.slice A30 y208.length c30).ownBlock = (.slice (some ad202) x5_2.length co28 : Value).ownBlock) := ⟨by rw [hA30]; split <;> (cases ((some ad202) : Option Addr) <;> rfl)⟩; clear hy30 hi030 hsz30 HO_5 hA30 hc30; have HO210 := Aside0.mk hr30; clear hr30; replace q30 := eq_true q30; have n_ := Aside0.mk (Kd.R_mono (ok' := fun k_ => (some k_ ≠ (.slice A30 y208.length c30 : Value).ownBlock ∧ some k_ ≠ (v206 : Value).ownBlock)) HO_4.out (fun k_ hk => ⟨(by rw [HE30.out]; exact hk.1), hk.2⟩)); clear HO_4; have HO_4 := n_; clear n_; have n_ := Aside0.mk (Kd.R_mono (ok' := fun k_ => (some k_ ≠ (.slice (some ad203) t189.length co20 : Value).ownBlock ∧ some k_ ≠ (.slice A30 y208.length c30 : Value).ownBlock)) HO207.out (fun k_ hk => ⟨hk.1, (by rw [HE30.out]; exact hk.2)⟩)); clear HO207; have HO207 := n_; clear n_))
                 repeat (go_quiet (first | ((with_reducible refine gate_builtin (b := .append) (xs := #[.tmp 63, .tmp 67]) rfl ?_); at_builtin; refine Kd.R_append k64 (w0 := w) w.heap.size rfl (.tmp 63) (.tmp 67) 35 39 (.agg #[(.int .i64 0), (.int .i64 0)]) 16 rfl Tryz.underlying35 info64 rfl (by decide) (by omega) u3 x3_2 (⟨(rd_T64 x5_2 0).f0, (rd_T64 x5_2 0).f1⟩ : S64) [.int .i64 ((rd_T64 x5_2 0).f0), .int .i64 ((rd_T64 x5_2 0).f1)] (fun k_ => some k_ ≠ (.slice (some ad203) t189.length co20 : Value).ownBlock ∧ some k_ ≠ (.slice (some ad202) x5_2.length co28 : Value).ownBlock) (fun _ => False) rfl rfl ?aP (fun _ hk => hk.elim) ?aF ?aO ?aB ?aS ?aL ?_; (case aP => exact k64_mkM _ _ _ (⟨(rd_T64 x5_2 0).f0, (rd_T64 x5_2 0).f1⟩ : S64)); (case aB => exact (by repeat (first | (with_reducible first | exact HB.out | apply wA | apply wN | apply wD) | exact HB.out))); (case aF => exact (fun k_ hk => ⟨Kd.fresh' (rL (by (with_reducible repeat (first | apply rA | apply rN | apply rD)); exact HO_4.out)) k_ hk, Kd.fresh' (Kd.Q_lt (by (with_reducible repeat (first | apply qA | apply qN | apply qD)); exact HO_5.out)) k_ hk⟩)); (case aO => exact (by (with_reducible repeat (first | apply rA | apply rN | apply rD)); exact HO_3.out)); (case aS => exact (below_size (by repeat (first | (with_reducible first | exact HB.out | apply wA | apply wN | apply wD) | exact HB.out)))); (case aL => have := LMc26.out; omega); intro v206 w29 ho hb hg hat; rw [← Ny205.out] at ho; have n0_ := Aside0.mk (Kd.R_after (ok := (fun k_ => some k_ ≠ (.slice (some ad202) x5_2.length co28 : Value).ownBlock)) (by (with_reducible repeat (first | apply rA | apply rN | apply rD)); exact Kd.R_mono HO_4.out (fun _ hk => ⟨hk.2, hk.1⟩)) hg hat); have n1_ := Aside0.mk (Kd.Q_after (ok := (fun k_ => some k_ ≠ (.slice (some ad203) t189.length co20 : Value).ownBlock)) (by (with_reducible repeat (first | apply qA | apply qN | apply qD)); exact Kd.Q_mono HO_5.out (fun _ hk => ⟨hk.2, hk.1⟩)) hg hat); have n2_ := Aside0.mk (hb); have n3_ := Aside0.mk (ho); clear HO_4; clear HO_5; clear HB; clear HO_3; have HO_4 := n0_; have HO_5 := n1_; have HB := n2_; have HO207 := n3_; clear n0_ n1_ n2_ n3_; clear ho hb hg hat; have q30 : (1 : Int) ≤ ((x5_2.length : Int) : Int) := of_decide_eq_true (by first | (with_reducible assumption) | assumption); obtain ⟨i030, hi030, _, hsz30, _⟩ := info_parts info64; have hcut30 := cut_from (P := Tryz.prog) 35 39 .i64 Tryz.underlying35 hi030 2 hsz30 (some ad202) x5_2.length co28 1 (by omega) q30; have hr30 := Kd.Q_drop (k := (1 : Int).toNat) HO_5.out (by omega); obtain ⟨A30, hA30⟩ : ∃ A1, A1 = (if co28 = (1 : Int).toNat then (some ad202) else ((some ad202) : Option Addr).map (·.add ((1 : Int).toNat * 2))) := ⟨_, rfl⟩; obtain ⟨c30, hc30⟩ : ∃ c1, c1 = co28 - (1 : Int).toNat := ⟨_, rfl⟩; have hy30 : y208.length = x5_2.length - (1 : Int).toNat := (by rw [Ny208.out, List.length_drop]); rw [← Ny208.out] at hr30; rw [← hy30, ← hA30, ← hc30] at hcut30; replace hr30 : Kd.Q k64 39 w29 w.heap.size (fun k_ => some k_ ≠ (.slice (some ad203) t189.length co20 : Value).ownBlock ∧ some k_ ≠ (v206 : Value).ownBlock) (.slice A30 y208.length c30) y208 := (by rw [hA30, hc30, hy30]; exact hr30); have HE30 : Aside0 ((Value.slice A30 y208.length c30).ownBlock = (.slice (some ad202) x5_2.length co28 : Value).ownBlock) := ⟨by rw [hA30]; split <;> (cases ((some ad202) : Option Addr) <;> rfl)⟩; clear hy30 hi030 hsz30 HO_5 hA30 hc30; have HO210 := Aside0.mk hr30; clear hr30; replace q30 := eq_true q30; have n_ := Aside0.mk (Kd.R_mono (ok' := fun k_ => (some k_ ≠ (.slice A30 y208.length c30 : Value).ownBlock ∧ some k_ ≠ (v206 : Value).ownBlock)) HO_4.out (fun k_ hk => ⟨(by rw [HE30.out]; exact hk.1), hk.2⟩)); clear HO_4; have HO_4 := n_; clear n_; have n_ := Aside0.mk (Kd.R_mono (ok' := fun k_ => (some k_ ≠ (.slice (some ad203) t189.length co20 : Value).ownBlock ∧ some k_ ≠ (.slice A30 y208.length c30 : Value).ownBlock)) HO207.out (fun k_ hk => ⟨hk.1, (by rw [HE30.out]; exact hk.2)⟩)); clear HO207; have HO207 := n_; clear n_)); try go_wp2_with (first | ((with_reducible refine gate_builtin (b := .append) (xs := #[.tmp 63, .tmp 67]) rfl ?_); at_builtin; refine Kd.R_append k64 (w0 := w) w.heap.size rfl (.tmp 63) (.tmp 67) 35 39 (.agg #[(.int .i64 0), (.int .i64 0)]) 16 rfl Tryz.underlying35 info64 rfl (by decide) (by omega) u3 x3_2 (⟨(rd_T64 x5_2 0).f0, (rd_T64 x5_2 0).f1⟩ : S64) [.int .i64 ((rd_T64 x5_2 0).f0), .int .i64 ((rd_T64 x5_2 0).f1)] (fun k_ => some k_ ≠ (.slice (some ad203) t189.length co20 : Value).ownBlock ∧ some k_ ≠ (.slice (some ad202) x5_2.length co28 : Value).ownBlock) (fun _ => False) rfl rfl ?aP (fun _ hk => hk.elim) ?aF ?aO ?aB ?aS ?aL ?_; (case aP => exact k64_mkM _ _ _ (⟨(rd_T64 x5_2 0).f0, (rd_T64 x5_2 0).f1⟩ : S64)); (case aB => exact (by repeat (first | (with_reducible first | exact HB.out | apply wA | apply wN | apply wD) | exact HB.out))); (case aF => exact (fun k_ hk => ⟨Kd.fresh' (rL (by (with_reducible repeat (first | apply rA | apply rN | apply rD)); exact HO_4.out)) k_ hk, Kd.fresh' (Kd.Q_lt (by (with_reducible repeat (first | apply qA | apply qN | apply qD)); exact HO_5.out)) k_ hk⟩)); (case aO => exact (by (with_reducible repeat (first | apply rA | apply rN | apply rD)); exact HO_3.out)); (case aS => exact (below_size (by repeat (first | (with_reducible first | exact HB.out | apply wA | apply wN | apply wD) | exact HB.out)))); (case aL => have := LMc26.out; omega); intro v206 w29 ho hb hg hat; rw [← Ny205.out] at ho; have n0_ := Aside0.mk (Kd.R_after (ok := (fun k_ => some k_ ≠ (.slice (some ad202) x5_2.length co28 : Value).ownBlock)) (by (with_reducible repeat (first | apply rA | apply rN | apply rD)); exact Kd.R_mono HO_4.out (fun _ hk => ⟨hk.2, hk.1⟩)) hg hat); have n1_ := Aside0.mk (Kd.Q_after (ok := (fun k_ => some k_ ≠ (.slice (some ad203) t189.length co20 : Value).ownBlock)) (by (with_reducible repeat (first | apply qA | apply qN | apply qD)); exact Kd.Q_mono HO_5.out (fun _ hk => ⟨hk.2, hk.1⟩)) hg hat); have n2_ := Aside0.mk (hb); have n3_ := Aside0.mk (ho); clear HO_4; clear HO_5; clear HB; clear HO_3; have HO_4 := n0_; have HO_5 := n1_; have HB := n2_; have HO207 := n3_; clear n0_ n1_ n2_ n3_; clear ho hb hg hat; have q30 : (1 : Int) ≤ ((x5_2.length : Int) : Int) := of_decide_eq_true (by first | (with_reducible assumption) | assumption); obtain ⟨i030, hi030, _, hsz30, _⟩ := info_parts info64; have hcut30 := cut_from (P := Tryz.prog) 35 39 .i64 Tryz.underlying35 hi030 2 hsz30 (some ad202) x5_2.length co28 1 (by omega) q30; have hr30 := Kd.Q_drop (k := (1 : Int).toNat) HO_5.out (by omega); obtain ⟨A30, hA30⟩ : ∃ A1, A1 = (if co28 = (1 : Int).toNat then (some ad202) else ((some ad202) : Option Addr).map (·.add ((1 : Int).toNat * 2))) := ⟨_, rfl⟩; obtain ⟨c30, hc30⟩ : ∃ c1, c1 = co28 - (1 : Int).toNat := ⟨_, rfl⟩; have hy30 : y208.length = x5_2.length - (1 : Int).toNat := (by rw [Ny208.out, List.length_drop]); rw [← Ny208.out] at hr30; rw [← hy30, ← hA30, ← hc30] at hcut30; replace hr30 : Kd.Q k64 39 w29 w.heap.size (fun k_ => some k_ ≠ (.slice (some ad203) t189.length co20 : Value).ownBlock ∧ some k_ ≠ (v206 : Value).ownBlock) (.slice A30 y208.length c30) y208 := (by rw [hA30, hc30, hy30]; exact hr30); have HE30 : Aside0 ((Value.slice A30 y208.length c30).ownBlock = (.slice (some ad202) x5_2.length co28 : Value).ownBlock) := ⟨by rw [hA30]; split <;> (cases ((some ad202) : Option Addr) <;> rfl)⟩; clear hy30 hi030 hsz30 HO_5 hA30 hc30; have HO210 := Aside0.mk hr30; clear hr30; replace q30 := eq_true q30; have n_ := Aside0.mk (Kd.R_mono (ok' := fun k_ => (some k_ ≠ (.slice A30 y208.length c30 : Value).ownBlock ∧ some k_ ≠ (v206 : Value).ownBlock)) HO_4.out (fun k_ hk => ⟨(by rw [HE30.out]; exact hk.1), hk.2⟩)); clear HO_4; have HO_4 := n_; clear n_; have n_ := Aside0.mk (Kd.R_mono (ok' := fun k_ => (some k_ ≠ (.slice (some ad203) t189.length co20 : Value).ownBlock ∧ some k_ ≠ (.slice A30 y208.length c30 : Value).ownBlock)) HO207.out (fun k_ hk => ⟨hk.1, (by rw [HE30.out]; exact hk.2)⟩)); clear HO207; have HO207 := n_; clear n_)))
                 go_roundg k2
                 case measure => have := HK1.out; have := HK2.out; omega
                 case rel => exact ⟨(y205), (y208), H', ⟨by have := HK1.out; have := HK2.out; omega⟩, ⟨by (with_reducible repeat (first | apply rA | apply rN | apply rD)); exact HO207.out⟩, ⟨by (with_reducible repeat (first | apply rA | apply rN | apply rD)); exact Kd.R_mono HO_4.out (fun _ hk => ⟨hk.2, hk.1⟩)⟩, ⟨by (with_reducible repeat (first | apply qA | apply qN | apply qD)); exact Kd.Q_mono HO210.out (fun _ hk => ⟨hk.2, hk.1⟩)⟩, ⟨by repeat (first | (with_reducible first | exact HB.out | apply wA | apply wN | apply wD) | exact HB.out)⟩⟩
                ·rw [if_neg c27] at H
                 exact absurd H (by simp)
               ·rw [if_neg c26] at H
                exact absurd H (by simp)
              ·rw [if_neg c25] at H
               have c25b0 : decide (((rd_T64 x5_2 0).f0) < ((rd_T64 t189 x6_1).f0)) = false := decide_eq_false c25
               clear c25
               by_cases c31 : x3_2.length < 8796093022208
               ·rw [if_pos c31] at H
                have LMc31 := Aside0.mk c31
                clear c31
                obtain ⟨y212, hy212⟩ : ∃ y_ : List (S64), y_ = (x3_2 ++ [(⟨(rd_T64 t189 x6_1).f0, (rd_T64 t189 x6_1).f1⟩ : S64)]) := ⟨_, rfl⟩
                replace H : (dredgeref06_sorted.l0 k2 y212 t189 x5_2 (wrap64 (x6_1 + 1))) = some r := by first | (rw [hy212]; with_reducible exact H) | (have H2_ := (Option.bind_some _ _).symm.trans H; rw [hy212]; with_reducible exact H2_) | (have H2_ := (Option.bind_some _ _).symm.trans H; with_reducible exact H2_) | with_reducible exact H | (rw [hy212]; exact H) | exact H
                have Ny212 := Aside0.mk hy212
                clear hy212
                have H' := Aside0.mk H
                clear H
                obtain ⟨Ao32, co32, eo32, _⟩ := Kd.Q_slice HO_5.out
                subst eo32
                have p202 : 0 ≤ (0 : Int) := (by omega)
                have q202 : 0 < (x5_2.length : Int) := of_decide_eq_true (by first | (with_reducible assumption) | assumption)
                obtain ⟨ad202, e202, hx202_0, hx202_1⟩ := at_T64 (Kd.Q_reads' HO_5.out).2.2 0 p202 q202
                cases e202
                have qi202 : (0 < x5_2.length) = True := eq_true (by omega)
                (try rw [show ((0 : Int)).toNat = 0 from rfl] at hx202_0)
                (try rw [show 0 * 2 = 0 from rfl] at hx202_0)
                (try rw [Addr.add_zero'] at hx202_0)
                (try rw [show ((0 : Int)).toNat = 0 from rfl] at hx202_1)
                (try rw [show 0 * 2 = 0 from rfl] at hx202_1)
                (try rw [Addr.add_zero'] at hx202_1)
                replace p202 := eq_true p202
                replace q202 := eq_true q202
                have p203 : 0 ≤ (x6_1 : Int) := of_decide_eq_true (by first | (with_reducible assumption) | assumption)
                have q203 : x6_1 < (t189.length : Int) := of_decide_eq_true (by first | (with_reducible assumption) | assumption)
                obtain ⟨ad203, e203, hx203_0, hx203_1⟩ := at_T64 (rR HO_4.out).2.2 x6_1 p203 q203
                cases e203
                replace p203 := eq_true p203
                replace q203 := eq_true q203
                have p211 : 0 ≤ (x6_1 : Int) := of_decide_eq_true (by first | (with_reducible assumption) | assumption)
                have q211 : x6_1 < (t189.length : Int) := of_decide_eq_true (by first | (with_reducible assumption) | assumption)
                obtain ⟨ad211, e211, hx211_0, hx211_1⟩ := at_T64 (rR HO_4.out).2.2 x6_1 p211 q211
                obtain rfl : ad203 = ad211 := (by injection e211)
                replace p211 := eq_true p211
                replace q211 := eq_true q211
                go_wp2_with (first | ((with_reducible refine gate_builtin (b := .append) (xs := #[.tmp 71, .tmp 76]) rfl ?_); at_builtin; refine Kd.R_append k64 (w0 := w) w.heap.size rfl (.tmp 71) (.tmp 76) 35 39 (.agg #[(.int .i64 0), (.int .i64 0)]) 16 rfl Tryz.underlying35 info64 rfl (by decide) (by omega) u3 x3_2 (⟨(rd_T64 t189 x6_1).f0, (rd_T64 t189 x6_1).f1⟩ : S64) [.int .i64 ((rd_T64 t189 x6_1).f0), .int .i64 ((rd_T64 t189 x6_1).f1)] (fun k_ => some k_ ≠ (.slice (some ad203) t189.length co20 : Value).ownBlock ∧ some k_ ≠ (.slice (some ad202) x5_2.length co32 : Value).ownBlock) (fun _ => False) rfl rfl ?aP (fun _ hk => hk.elim) ?aF ?aO ?aB ?aS ?aL ?_; (case aP => exact k64_mkM _ _ _ (⟨(rd_T64 t189 x6_1).f0, (rd_T64 t189 x6_1).f1⟩ : S64)); (case aB => exact (by repeat (first | (with_reducible first | exact HB.out | apply wA | apply wN | apply wD) | exact HB.out))); (case aF => exact (fun k_ hk => ⟨Kd.fresh' (rL (by (with_reducible repeat (first | apply rA | apply rN | apply rD)); exact HO_4.out)) k_ hk, Kd.fresh' (Kd.Q_lt (by (with_reducible repeat (first | apply qA | apply qN | apply qD)); exact HO_5.out)) k_ hk⟩)); (case aO => exact (by (with_reducible repeat (first | apply rA | apply rN | apply rD)); exact HO_3.out)); (case aS => exact (below_size (by repeat (first | (with_reducible first | exact HB.out | apply wA | apply wN | apply wD) | exact HB.out)))); (case aL => have := LMc31.out; omega); intro v213 w33 ho hb hg hat; rw [← Ny212.out] at ho; have n0_ := Aside0.mk (Kd.R_after (ok := (fun k_ => some k_ ≠ (.slice (some ad202) x5_2.length co32 : Value).ownBlock)) (by (with_reducible repeat (first | apply rA | apply rN | apply rD)); exact Kd.R_mono HO_4.out (fun _ hk => ⟨hk.2, hk.1⟩)) hg hat); have n1_ := Aside0.mk (Kd.Q_after (ok := (fun k_ => some k_ ≠ (.slice (some ad203) t189.length co20 : Value).ownBlock)) (by (with_reducible repeat (first | apply qA | apply qN | apply qD)); exact Kd.Q_mono HO_5.out (fun _ hk => ⟨hk.2, hk.1⟩)) hg hat); have n2_ := Aside0.mk (hb); have n3_ := Aside0.mk (ho); clear HO_4; clear HO_5; clear HB; clear HO_3; have HO_4 := n0_; have HO_5 := n1_; have HB := n2_; have HO214 := n3_; clear n0_ n1_ n2_ n3_; clear ho hb hg hat))
                repeat (go_quiet (first | ((with_reducible refine gate_builtin (b := .append) (xs := #[.tmp 71, .tmp 76]) rfl ?_); at_builtin; refine Kd.R_append k64 (w0 := w) w.heap.size rfl (.tmp 71) (.tmp 76) 35 39 (.agg #[(.int .i64 0), (.int .i64 0)]) 16 rfl Tryz.underlying35 info64 rfl (by decide) (by omega) u3 x3_2 (⟨(rd_T64 t189 x6_1).f0, (rd_T64 t189 x6_1).f1⟩ : S64) [.int .i64 ((rd_T64 t189 x6_1).f0), .int .i64 ((rd_T64 t189 x6_1).f1)] (fun k_ => some k_ ≠ (.slice (some ad203) t189.length co20 : Value).ownBlock ∧ some k_ ≠ (.slice (some ad202) x5_2.length co32 : Value).ownBlock) (fun _ => False) rfl rfl ?aP (fun _ hk => hk.elim) ?aF ?aO ?aB ?aS ?aL ?_; (case aP => exact k64_mkM _ _ _ (⟨(rd_T64 t189 x6_1).f0, (rd_T64 t189 x6_1).f1⟩ : S64)); (case aB => exact (by repeat (first | (with_reducible first | exact HB.out | apply wA | apply wN | apply wD) | exact HB.out))); (case aF => exact (fun k_ hk => ⟨Kd.fresh' (rL (by (with_reducible repeat (first | apply rA | apply rN | apply rD)); exact HO_4.out)) k_ hk, Kd.fresh' (Kd.Q_lt (by (with_reducible repeat (first | apply qA | apply qN | apply qD)); exact HO_5.out)) k_ hk⟩)); (case aO => exact (by (with_reducible repeat (first | apply rA | apply rN | apply rD)); exact HO_3.out)); (case aS => exact (below_size (by repeat (first | (with_reducible first | exact HB.out | apply wA | apply wN | apply wD) | exact HB.out)))); (case aL => have := LMc31.out; omega); intro v213 w33 ho hb hg hat; rw [← Ny212.out] at ho; have n0_ := Aside0.mk (Kd.R_after (ok := (fun k_ => some k_ ≠ (.slice (some ad202) x5_2.length co32 : Value).ownBlock)) (by (with_reducible repeat (first | apply rA | apply rN | apply rD)); exact Kd.R_mono HO_4.out (fun _ hk => ⟨hk.2, hk.1⟩)) hg hat); have n1_ := Aside0.mk (Kd.Q_after (ok := (fun k_ => some k_ ≠ (.slice (some ad203) t189.length co20 : Value).ownBlock)) (by (with_reducible repeat (first | apply qA | apply qN | apply qD)); exact Kd.Q_mono HO_5.out (fun _ hk => ⟨hk.2, hk.1⟩)) hg hat); have n2_ := Aside0.mk (hb); have n3_ := Aside0.mk (ho); clear HO_4; clear HO_5; clear HB; clear HO_3; have HO_4 := n0_; have HO_5 := n1_; have HB := n2_; have HO214 := n3_; clear n0_ n1_ n2_ n3_; clear ho hb hg hat)); try go_wp2_with (first | ((with_reducible refine gate_builtin (b := .append) (xs := #[.tmp 71, .tmp 76]) rfl ?_); at_builtin; refine Kd.R_append k64 (w0 := w) w.heap.size rfl (.tmp 71) (.tmp 76) 35 39 (.agg #[(.int .i64 0), (.int .i64 0)]) 16 rfl Tryz.underlying35 info64 rfl (by decide) (by omega) u3 x3_2 (⟨(rd_T64 t189 x6_1).f0, (rd_T64 t189 x6_1).f1⟩ : S64) [.int .i64 ((rd_T64 t189 x6_1).f0), .int .i64 ((rd_T64 t189 x6_1).f1)] (fun k_ => some k_ ≠ (.slice (some ad203) t189.length co20 : Value).ownBlock ∧ some k_ ≠ (.slice (some ad202) x5_2.length co32 : Value).ownBlock) (fun _ => False) rfl rfl ?aP (fun _ hk => hk.elim) ?aF ?aO ?aB ?aS ?aL ?_; (case aP => exact k64_mkM _ _ _ (⟨(rd_T64 t189 x6_1).f0, (rd_T64 t189 x6_1).f1⟩ : S64)); (case aB => exact (by repeat (first | (with_reducible first | exact HB.out | apply wA | apply wN | apply wD) | exact HB.out))); (case aF => exact (fun k_ hk => ⟨Kd.fresh' (rL (by (with_reducible repeat (first | apply rA | apply rN | apply rD)); exact HO_4.out)) k_ hk, Kd.fresh' (Kd.Q_lt (by (with_reducible repeat (first | apply qA | apply qN | apply qD)); exact HO_5.out)) k_ hk⟩)); (case aO => exact (by (with_reducible repeat (first | apply rA | apply rN | apply rD)); exact HO_3.out)); (case aS => exact (below_size (by repeat (first | (with_reducible first | exact HB.out | apply wA | apply wN | apply wD) | exact HB.out)))); (case aL => have := LMc31.out; omega); intro v213 w33 ho hb hg hat; rw [← Ny212.out] at ho; have n0_ := Aside0.mk (Kd.R_after (ok := (fun k_ => some k_ ≠ (.slice (some ad202) x5_2.length co32 : Value).ownBlock)) (by (with_reducible repeat (first | apply rA | apply rN | apply rD)); exact Kd.R_mono HO_4.out (fun _ hk => ⟨hk.2, hk.1⟩)) hg hat); have n1_ := Aside0.mk (Kd.Q_after (ok := (fun k_ => some k_ ≠ (.slice (some ad203) t189.length co20 : Value).ownBlock)) (by (with_reducible repeat (first | apply qA | apply qN | apply qD)); exact Kd.Q_mono HO_5.out (fun _ hk => ⟨hk.2, hk.1⟩)) hg hat); have n2_ := Aside0.mk (hb); have n3_ := Aside0.mk (ho); clear HO_4; clear HO_5; clear HB; clear HO_3; have HO_4 := n0_; have HO_5 := n1_; have HB := n2_; have HO214 := n3_; clear n0_ n1_ n2_ n3_; clear ho hb hg hat)))
                go_roundg k2
                case measure => have := HK1.out; have := HK2.out; omega
                case rel => exact ⟨(y212), (x5_2), (wrap64 (x6_1 + 1)), (by first | rfl | (simp; done) | (simp [*]; done)), H', ⟨by have := HK1.out; have := HK2.out; omega⟩, ⟨by (with_reducible repeat (first | apply rA | apply rN | apply rD)); exact HO214.out⟩, ⟨by (with_reducible repeat (first | apply rA | apply rN | apply rD)); exact Kd.R_mono HO_4.out (fun _ hk => ⟨hk.2, hk.1⟩)⟩, ⟨by (with_reducible repeat (first | apply qA | apply qN | apply qD)); exact Kd.Q_mono HO_5.out (fun _ hk => ⟨hk.2, hk.1⟩)⟩, ⟨by repeat (first | (with_reducible first | exact HB.out | apply wA | apply wN | apply wD) | exact HB.out)⟩⟩
               ·rw [if_neg c31] at H
                exact absurd H (by simp)
             ·rw [if_neg c24] at H
              exact absurd H (by simp)
            ·rw [if_neg c23] at H
             exact absurd H (by simp)
           ·exact absurd (of_decide_eq_true c21b0) c22
          ·rw [if_neg c21] at H
           have c21b0 : decide (0 < (x5_2.length : Int)) = false := decide_eq_false c21
           have c21b1 : decide (0 < x5_2.length) = false := decide_eq_false (by omega)
           clear c21
           by_cases c34 : 0 ≤ x6_1
           ·rw [if_pos c34] at H
            have c34b0 : decide (0 ≤ x6_1) = true := decide_eq_true c34
            clear c34
            by_cases c35 : x6_1 < (t189.length : Int)
            ·rw [if_pos c35] at H
             have c35b0 : decide (x6_1 < (t189.length : Int)) = true := decide_eq_true c35
             clear c35
             by_cases c36 : x3_2.length < 8796093022208
             ·rw [if_pos c36] at H
              have LMc36 := Aside0.mk c36
              clear c36
              obtain ⟨y216, hy216⟩ : ∃ y_ : List (S64), y_ = (x3_2 ++ [(⟨(rd_T64 t189 x6_1).f0, (rd_T64 t189 x6_1).f1⟩ : S64)]) := ⟨_, rfl⟩
              replace H : (dredgeref06_sorted.l0 k2 y216 t189 x5_2 (wrap64 (x6_1 + 1))) = some r := by first | (rw [hy216]; with_reducible exact H) | (have H2_ := (Option.bind_some _ _).symm.trans H; rw [hy216]; with_reducible exact H2_) | (have H2_ := (Option.bind_some _ _).symm.trans H; with_reducible exact H2_) | with_reducible exact H | (rw [hy216]; exact H) | exact H
              have Ny216 := Aside0.mk hy216
              clear hy216
              have H' := Aside0.mk H
              clear H
              obtain ⟨Ao37, co37, eo37, _⟩ := Kd.Q_slice HO_5.out
              subst eo37
              have p215 : 0 ≤ (x6_1 : Int) := of_decide_eq_true (by first | (with_reducible assumption) | assumption)
              have q215 : x6_1 < (t189.length : Int) := of_decide_eq_true (by first | (with_reducible assumption) | assumption)
              obtain ⟨ad215, e215, hx215_0, hx215_1⟩ := at_T64 (rR HO_4.out).2.2 x6_1 p215 q215
              cases e215
              replace p215 := eq_true p215
              replace q215 := eq_true q215
              go_wp2_with (first | ((with_reducible refine gate_builtin (b := .append) (xs := #[.tmp 71, .tmp 76]) rfl ?_); at_builtin; refine Kd.R_append k64 (w0 := w) w.heap.size rfl (.tmp 71) (.tmp 76) 35 39 (.agg #[(.int .i64 0), (.int .i64 0)]) 16 rfl Tryz.underlying35 info64 rfl (by decide) (by omega) u3 x3_2 (⟨(rd_T64 t189 x6_1).f0, (rd_T64 t189 x6_1).f1⟩ : S64) [.int .i64 ((rd_T64 t189 x6_1).f0), .int .i64 ((rd_T64 t189 x6_1).f1)] (fun k_ => some k_ ≠ (.slice (some ad215) t189.length co20 : Value).ownBlock ∧ some k_ ≠ (.slice Ao37 x5_2.length co37 : Value).ownBlock) (fun _ => False) rfl rfl ?aP (fun _ hk => hk.elim) ?aF ?aO ?aB ?aS ?aL ?_; (case aP => exact k64_mkM _ _ _ (⟨(rd_T64 t189 x6_1).f0, (rd_T64 t189 x6_1).f1⟩ : S64)); (case aB => exact (by repeat (first | (with_reducible first | exact HB.out | apply wA | apply wN | apply wD) | exact HB.out))); (case aF => exact (fun k_ hk => ⟨Kd.fresh' (rL (by (with_reducible repeat (first | apply rA | apply rN | apply rD)); exact HO_4.out)) k_ hk, Kd.fresh' (Kd.Q_lt (by (with_reducible repeat (first | apply qA | apply qN | apply qD)); exact HO_5.out)) k_ hk⟩)); (case aO => exact (by (with_reducible repeat (first | apply rA | apply rN | apply rD)); exact HO_3.out)); (case aS => exact (below_size (by repeat (first | (with_reducible first | exact HB.out | apply wA | apply wN | apply wD) | exact HB.out)))); (case aL => have := LMc36.out; omega); intro v217 w38 ho hb hg hat; rw [← Ny216.out] at ho; have n0_ := Aside0.mk (Kd.R_after (ok := (fun k_ => some k_ ≠ (.slice Ao37 x5_2.length co37 : Value).ownBlock)) (by (with_reducible repeat (first | apply rA | apply rN | apply rD)); exact Kd.R_mono HO_4.out (fun _ hk => ⟨hk.2, hk.1⟩)) hg hat); have n1_ := Aside0.mk (Kd.Q_after (ok := (fun k_ => some k_ ≠ (.slice (some ad215) t189.length co20 : Value).ownBlock)) (by (with_reducible repeat (first | apply qA | apply qN | apply qD)); exact Kd.Q_mono HO_5.out (fun _ hk => ⟨hk.2, hk.1⟩)) hg hat); have n2_ := Aside0.mk (hb); have n3_ := Aside0.mk (ho); clear HO_4; clear HO_5; clear HB; clear HO_3; have HO_4 := n0_; have HO_5 := n1_; have HB := n2_; have HO218 := n3_; clear n0_ n1_ n2_ n3_; clear ho hb hg hat))
              repeat (go_quiet (first | ((with_reducible refine gate_builtin (b := .append) (xs := #[.tmp 71, .tmp 76]) rfl ?_); at_builtin; refine Kd.R_append k64 (w0 := w) w.heap.size rfl (.tmp 71) (.tmp 76) 35 39 (.agg #[(.int .i64 0), (.int .i64 0)]) 16 rfl Tryz.underlying35 info64 rfl (by decide) (by omega) u3 x3_2 (⟨(rd_T64 t189 x6_1).f0, (rd_T64 t189 x6_1).f1⟩ : S64) [.int .i64 ((rd_T64 t189 x6_1).f0), .int .i64 ((rd_T64 t189 x6_1).f1)] (fun k_ => some k_ ≠ (.slice (some ad215) t189.length co20 : Value).ownBlock ∧ some k_ ≠ (.slice Ao37 x5_2.length co37 : Value).ownBlock) (fun _ => False) rfl rfl ?aP (fun _ hk => hk.elim) ?aF ?aO ?aB ?aS ?aL ?_; (case aP => exact k64_mkM _ _ _ (⟨(rd_T64 t189 x6_1).f0, (rd_T64 t189 x6_1).f1⟩ : S64)); (case aB => exact (by repeat (first | (with_reducible first | exact HB.out | apply wA | apply wN | apply wD) | exact HB.out))); (case aF => exact (fun k_ hk => ⟨Kd.fresh' (rL (by (with_reducible repeat (first | apply rA | apply rN | apply rD)); exact HO_4.out)) k_ hk, Kd.fresh' (Kd.Q_lt (by (with_reducible repeat (first | apply qA | apply qN | apply qD)); exact HO_5.out)) k_ hk⟩)); (case aO => exact (by (with_reducible repeat (first | apply rA | apply rN | apply rD)); exact HO_3.out)); (case aS => exact (below_size (by repeat (first | (with_reducible first | exact HB.out | apply wA | apply wN | apply wD) | exact HB.out)))); (case aL => have := LMc36.out; omega); intro v217 w38 ho hb hg hat; rw [← Ny216.out] at ho; have n0_ := Aside0.mk (Kd.R_after (ok := (fun k_ => some k_ ≠ (.slice Ao37 x5_2.length co37 : Value).ownBlock)) (by (with_reducible repeat (first | apply rA | apply rN | apply rD)); exact Kd.R_mono HO_4.out (fun _ hk => ⟨hk.2, hk.1⟩)) hg hat); have n1_ := Aside0.mk (Kd.Q_after (ok := (fun k_ => some k_ ≠ (.slice (some ad215) t189.length co20 : Value).ownBlock)) (by (with_reducible repeat (first | apply qA | apply qN | apply qD)); exact Kd.Q_mono HO_5.out (fun _ hk => ⟨hk.2, hk.1⟩)) hg hat); have n2_ := Aside0.mk (hb); have n3_ := Aside0.mk (ho); clear HO_4; clear HO_5; clear HB; clear HO_3; have HO_4 := n0_; have HO_5 := n1_; have HB := n2_; have HO218 := n3_; clear n0_ n1_ n2_ n3_; clear ho hb hg hat)); try go_wp2_with (first | ((with_reducible refine gate_builtin (b := .append) (xs := #[.tmp 71, .tmp 76]) rfl ?_); at_builtin; refine Kd.R_append k64 (w0 := w) w.heap.size rfl (.tmp 71) (.tmp 76) 35 39 (.agg #[(.int .i64 0), (.int .i64 0)]) 16 rfl Tryz.underlying35 info64 rfl (by decide) (by omega) u3 x3_2 (⟨(rd_T64 t189 x6_1).f0, (rd_T64 t189 x6_1).f1⟩ : S64) [.int .i64 ((rd_T64 t189 x6_1).f0), .int .i64 ((rd_T64 t189 x6_1).f1)] (fun k_ => some k_ ≠ (.slice (some ad215) t189.length co20 : Value).ownBlock ∧ some k_ ≠ (.slice Ao37 x5_2.length co37 : Value).ownBlock) (fun _ => False) rfl rfl ?aP (fun _ hk => hk.elim) ?aF ?aO ?aB ?aS ?aL ?_; (case aP => exact k64_mkM _ _ _ (⟨(rd_T64 t189 x6_1).f0, (rd_T64 t189 x6_1).f1⟩ : S64)); (case aB => exact (by repeat (first | (with_reducible first | exact HB.out | apply wA | apply wN | apply wD) | exact HB.out))); (case aF => exact (fun k_ hk => ⟨Kd.fresh' (rL (by (with_reducible repeat (first | apply rA | apply rN | apply rD)); exact HO_4.out)) k_ hk, Kd.fresh' (Kd.Q_lt (by (with_reducible repeat (first | apply qA | apply qN | apply qD)); exact HO_5.out)) k_ hk⟩)); (case aO => exact (by (with_reducible repeat (first | apply rA | apply rN | apply rD)); exact HO_3.out)); (case aS => exact (below_size (by repeat (first | (with_reducible first | exact HB.out | apply wA | apply wN | apply wD) | exact HB.out)))); (case aL => have := LMc36.out; omega); intro v217 w38 ho hb hg hat; rw [← Ny216.out] at ho; have n0_ := Aside0.mk (Kd.R_after (ok := (fun k_ => some k_ ≠ (.slice Ao37 x5_2.length co37 : Value).ownBlock)) (by (with_reducible repeat (first | apply rA | apply rN | apply rD)); exact Kd.R_mono HO_4.out (fun _ hk => ⟨hk.2, hk.1⟩)) hg hat); have n1_ := Aside0.mk (Kd.Q_after (ok := (fun k_ => some k_ ≠ (.slice (some ad215) t189.length co20 : Value).ownBlock)) (by (with_reducible repeat (first | apply qA | apply qN | apply qD)); exact Kd.Q_mono HO_5.out (fun _ hk => ⟨hk.2, hk.1⟩)) hg hat); have n2_ := Aside0.mk (hb); have n3_ := Aside0.mk (ho); clear HO_4; clear HO_5; clear HB; clear HO_3; have HO_4 := n0_; have HO_5 := n1_; have HB := n2_; have HO218 := n3_; clear n0_ n1_ n2_ n3_; clear ho hb hg hat)))
              go_roundg k2
              case measure => have := HK1.out; have := HK2.out; omega
              case rel => exact ⟨(y216), (x5_2), (wrap64 (x6_1 + 1)), (by first | rfl | (simp; done) | (simp [*]; done)), H', ⟨by have := HK1.out; have := HK2.out; omega⟩, ⟨by (with_reducible repeat (first | apply rA | apply rN | apply rD)); exact HO218.out⟩, ⟨by (with_reducible repeat (first | apply rA | apply rN | apply rD)); exact Kd.R_mono HO_4.out (fun _ hk => ⟨hk.2, hk.1⟩)⟩, ⟨by (with_reducible repeat (first | apply qA | apply qN | apply qD)); exact Kd.Q_mono HO_5.out (fun _ hk => ⟨hk.2, hk.1⟩)⟩, ⟨by repeat (first | (with_reducible first | exact HB.out | apply wA | apply wN | apply wD) | exact HB.out)⟩⟩
             ·rw [if_neg c36] at H
              exact absurd H (by simp)
            ·rw [if_neg c35] at H
             exact absurd H (by simp)
           ·rw [if_neg c34] at H
            exact absurd H (by simp)
       ·rw [if_neg c19] at H
        have c19b0 : decide (x6_1 < (t189.length : Int)) = false := decide_eq_false c19
        clear c19
        by_cases c39 : x3_1.length + x5_1.length < 8796093022208
        ·rw [if_pos c39] at H
         have LMc39 := Aside0.mk c39
         clear c39
         obtain ⟨y199, hy199⟩ : ∃ y_ : List (S64), y_ = (x3_1 ++ x5_1) := ⟨_, rfl⟩
         replace H : (some y199) = some r := by first | (rw [hy199]; with_reducible exact H) | (have H2_ := (Option.bind_some _ _).symm.trans H; rw [hy199]; with_reducible exact H2_) | (have H2_ := (Option.bind_some _ _).symm.trans H; with_reducible exact H2_) | with_reducible exact H | (rw [hy199]; exact H) | exact H
         have Ny199 := Aside0.mk hy199
         clear hy199
         obtain rfl := Option.some.inj H
         obtain ⟨Ao40, co40, eo40⟩ := Kd.R_slice HO_4.out
         subst eo40
         obtain ⟨Ao42, co42, eo42, _⟩ := Kd.Q_slice HO_5.out
         subst eo42
         go_wp2_with (first | ((with_reducible refine gate_builtin (b := .append) (xs := #[.tmp 78, .tmp 79]) rfl ?_); at_builtin; refine Kd.R_append_rows k64 (w0 := w) w.heap.size rfl (.tmp 78) (.tmp 79) 35 39 (.agg #[(.int .i64 0), (.int .i64 0)]) 16 rfl Tryz.underlying35 info64 rfl (by decide) (by omega) u3 x3_1 x5_1 _ _ _ (fun k_ => some k_ ≠ (.slice Ao40 t189.length co40 : Value).ownBlock ∧ some k_ ≠ (.slice Ao42 x5_1.length co42 : Value).ownBlock) (fun _ => False) rfl rfl ?aO ?aR (fun _ _ h => h) (fun _ h => h.elim) ?aF ?aB ?aS ?aL ?_; (case aR => repeat (first | exact (Kd.Q_reads' HO_5.out).2.2 | (with_reducible refine cA ?_ _) | (with_reducible refine cN ?_ _) | (with_reducible refine cD ?_))); (case aB => exact (by repeat (first | (with_reducible first | exact HB.out | apply wA | apply wN | apply wD) | exact HB.out))); (case aF => exact (fun k_ hk => ⟨Kd.fresh' (rL (by (with_reducible repeat (first | apply rA | apply rN | apply rD)); exact HO_4.out)) k_ hk, Kd.fresh' (Kd.Q_lt (by (with_reducible repeat (first | apply qA | apply qN | apply qD)); exact HO_5.out)) k_ hk⟩)); (case aO => exact (by (with_reducible repeat (first | apply rA | apply rN | apply rD)); exact HO_3.out)); (case aS => exact (below_size (by repeat (first | (with_reducible first | exact HB.out | apply wA | apply wN | apply wD) | exact HB.out)))); (case aL => have := LMc39.out; omega); intro v200 w41 ho hb hg hat; rw [← Ny199.out] at ho; have n0_ := Aside0.mk (Kd.R_after (ok := (fun k_ => some k_ ≠ (.slice Ao42 x5_1.length co42 : Value).ownBlock)) (by (with_reducible repeat (first | apply rA | apply rN | apply rD)); exact Kd.R_mono HO_4.out (fun _ hk => ⟨hk.2, hk.1⟩)) hg hat); have n1_ := Aside0.mk (Kd.Q_after (ok := (fun k_ => some k_ ≠ (.slice Ao40 t189.length co40 : Value).ownBlock)) (by (with_reducible repeat (first | apply qA | apply qN | apply qD)); exact Kd.Q_mono HO_5.out (fun _ hk => ⟨hk.2, hk.1⟩)) hg hat); have n2_ := Aside0.mk (hb); have n3_ := Aside0.mk (ho); clear HO_4; clear HO_5; clear HB; clear HO_3; have HO_4 := n0_; have HO_5 := n1_; have HB := n2_; have HO201 := n3_; clear n0_ n1_ n2_ n3_; clear ho hb hg hat))
         go_ret
         exact ⟨_, by first | rfl | (simp [errW_none, errW_some] <;> rfl) | (simp only [← hji8]; first | rfl | (simp [errW_none, errW_some] <;> rfl)) | (simp [*, errW_none, errW_some] <;> rfl), by (with_reducible repeat (first | apply rA | apply rN | apply rD)); exact Kd.R_mono HO201.out (fun _ hk => trivial), by repeat (first | (with_reducible first | exact HB.out | apply wA | apply wN | apply wD) | exact HB.out)⟩
        ·rw [if_neg c39] at H
         exact absurd H (by simp)
    ·rw [if_neg c10] at H
     exact absurd H (by simp)
   ·rw [if_neg c9] at H
    exact absurd H (by simp)
end Go.Proofs.YtamhkdlcoghdbaaGreatDoor.PCls
