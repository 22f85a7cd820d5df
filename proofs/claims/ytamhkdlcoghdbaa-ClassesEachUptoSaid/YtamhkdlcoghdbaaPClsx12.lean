-- Written by wip/tools/pp.py (this session's driver of the kit's print): functions of the program as plain Lean functions, each with its contract.
import Derived.Test.YtamhkdlcoghdbaaPClsx0
import Derived.Test.YtamhkdlcoghdbaaPClsx11
namespace Go.Proofs.Ytamhkdlcoghdbaa.PCls
open Go.RowKit Go.Proofs.YtamhkdlcoghdbaaW.PrintWords Go.Proofs.YtamhkdlcoghdbaaW.PrintLast Go.Proofs.YtamhkdlcoghdbaaW.PrintMore
attribute [local go_sem] max2_int min2_int max_two min_two max_three min_three max_four min_four   -- for this text's walks alone
set_option linter.unusedVariables false
set_option linter.unusedSimpArgs false

/-! ### dredgeref06_Count: function 22 -/
def dredgeref06_Count.l0 : Nat → List (S64) → Int → Int → Option (Int)
 | 0, _, _, _ => none
 | k + 1, x3, x4, x5 => if x5 < (x3.length : Int) then (if 0 ≤ x5 then (if (IntKind.u64.wrap ((IntKind.u64.wrap ((rd_T64 x3 x5).f1)) - (IntKind.u64.wrap ((rd_T64 x3 x5).f0)))) ≥ 4611686018427387903 then (some 4611686018427387903) else (if x4 > (wrap64 ((wrap64 (4611686018427387903 - (wrap64 (IntKind.u64.wrap ((IntKind.u64.wrap ((rd_T64 x3 x5).f1)) - (IntKind.u64.wrap ((rd_T64 x3 x5).f0))))))) - 1)) then (some 4611686018427387903) else (dredgeref06_Count.l0 k x3 (wrap64 ((wrap64 (x4 + (wrap64 (IntKind.u64.wrap ((IntKind.u64.wrap ((rd_T64 x3 x5).f1)) - (IntKind.u64.wrap ((rd_T64 x3 x5).f0))))))) + 1)) (wrap64 (x5 + 1))))) else (none)) else (some x4)
def dredgeref06_Count.f (k : Nat) (l0 : List (S64)) : Option (Int) := (dredgeref06_Class.f k l0).bind fun t240 => (dredgeref06_Count.l0 k t240 0 0)
theorem dredgeref06_Count.mono_l : ∀ k, (∀ y0 y1 y2, LeO (dredgeref06_Count.l0 k y0 y1 y2) (dredgeref06_Count.l0 (k + 1) y0 y1 y2))
 | 0 => fun _ _ _ r h => by simp [dredgeref06_Count.l0] at h
 | k + 1 => by
  have ih0 := dredgeref06_Count.mono_l k
  ·intro y0 y1 y2
   unfold dredgeref06_Count.l0
   repeat' first
   | (with_reducible exact ih0 _ _ _)
   | (with_reducible exact dredgeref06_Class.mono _ _)
   | (with_reducible exact LeO.refl _)
   | (with_reducible exact LeO.none _)
   | (with_reducible refine LeO.ite ?_ ?_)
   | (with_reducible refine LeO.bind ?_ (fun _ => ?_))
   | exact ih0 _ _ _
   | exact dredgeref06_Class.mono _ _
   | exact LeO.none _
   | refine LeO.ite ?_ ?_
   | refine LeO.bind ?_ (fun _ => ?_)
theorem dredgeref06_Count.mono : ∀ a0 k, LeO (dredgeref06_Count.f k a0) (dredgeref06_Count.f (k + 1) a0) := by
 intro a0 k
 have ih0 := dredgeref06_Count.mono_l k
 unfold dredgeref06_Count.f
 repeat' first
   | (with_reducible exact ih0 _ _ _)
   | (with_reducible exact dredgeref06_Class.mono _ _)
   | (with_reducible exact LeO.refl _)
   | (with_reducible exact LeO.none _)
   | (with_reducible refine LeO.ite ?_ ?_)
   | (with_reducible refine LeO.bind ?_ (fun _ => ?_))
   | exact ih0 _ _ _
   | exact dredgeref06_Class.mono _ _
   | exact LeO.none _
   | refine LeO.ite ?_ ?_
   | refine LeO.bind ?_ (fun _ => ?_)
set_option maxHeartbeats 8000000 in
set_option maxRecDepth 100000 in
theorem dredgeref06_Count.calls (k : Nat) (A0 : Option Addr) (c0 : Nat) (l0 : List (S64)) (r : Int) (w : World) (hr0 : Kd.C k64 w A0 l0.length l0) (hc0 : l0.length ≤ c0) (h : dredgeref06_Count.f k l0 = some r) :
  Calls Try.prog 22 #[.slice A0 l0.length c0] w fun e w' => e = .returned (.int .i64 r) ∧ Below w.heap.size w w' := by
 have HR0 := Aside0.mk hr0
 have HC0 := Aside0.mk hc0
 clear hr0 hc0
 have HB := Aside0.mk (Below.refl w.heap.size w)
 have H : ((dredgeref06_Class.f k l0).bind fun t240 => (dredgeref06_Count.l0 k t240 0 0)) = some r := h
 clear h
 replace H := Option.bind_eq_some_iff.mp H
 obtain ⟨t240, A20, H⟩ := H
 replace H : (dredgeref06_Count.l0 k t240 0 0) = some r := H
 have A2 := Aside0.mk A20
 clear A20
 have H' := Aside0.mk H
 clear H
 go_enter Try.func22, Try.ntmps22
 go_wp2_with (first | (go_at_call 70; (with_reducible refine (dredgeref06_Class.calls k _ _ l0 t240 _ ?side1 ?side2 A2.out).mono ?_); (case side1 => repeat (first | exact HR0.out | (with_reducible refine cA ?_ _) | (with_reducible refine cN ?_ _) | (with_reducible refine cD ?_))); (case side2 => exact HC0.out); rintro e w3 ⟨v241, rfl, ho0, hb⟩; have n0_ := Aside0.mk (Kd.R_lower ho0 (below_size (by repeat (first | (with_reducible first | exact HB.out | apply wA | apply wN | apply wD) | exact HB.out)))); have n1_ := Aside0.mk (below_step (by repeat (first | (with_reducible first | exact HB.out | apply wA | apply wN | apply wD) | exact HB.out)) hb); clear HB; have HO242 := n0_; have HB := n1_; clear n0_ n1_; (try clear hb); (try clear hb2); (try clear hk); (try clear hi); (try clear ho0)))
 go_loopg [4, 5] k (fun kq v4 v5 w' => ∃ (x4_1 : Int) (x5_1 : Int), v4 = .int .i64 x4_1 ∧ v5 = .int .i64 x5_1 ∧ Aside0 (dredgeref06_Count.l0 kq t240 x4_1 x5_1 = some r) ∧ Aside0 (kq ≤ k) ∧ Aside0 (Kd.R k64 64 w' w.heap.size (fun _ => True) v241 t240) ∧ Aside0 (Below w.heap.size w w'))
 case atStart => exact ⟨(0), (0), (by first | rfl | (simp; done) | (simp [*]; done)), (by first | rfl | (simp; done) | (simp [*]; done)), H', ⟨Nat.le_refl _⟩, ⟨by (with_reducible repeat (first | apply rA | apply rN | apply rD)); exact HO242.out⟩, ⟨by repeat (first | (with_reducible first | exact HB.out | apply wA | apply wN | apply wD) | exact HB.out)⟩⟩
 case round =>
  clear H'
  try clear c2
  try clear p2
  obtain ⟨x4_1, x5_1, rfl, rfl, HA, HK1, HO_3, HB⟩ := hrel
  cases gk with
  | zero => exact absurd HA.out (by simp [dredgeref06_Count.l0])
  | succ k1 =>
   have H := HA.out
   clear HA
   simp only [dredgeref06_Count.l0] at H
   by_cases c4 : x5_1 < (t240.length : Int)
   ·rw [if_pos c4] at H
    have c4b0 : decide (x5_1 < (t240.length : Int)) = true := decide_eq_true c4
    clear c4
    by_cases c5 : 0 ≤ x5_1
    ·rw [if_pos c5] at H
     have c5b0 : decide (0 ≤ x5_1) = true := decide_eq_true c5
     clear c5
     by_cases c6 : (IntKind.u64.wrap ((IntKind.u64.wrap ((rd_T64 t240 x5_1).f1)) - (IntKind.u64.wrap ((rd_T64 t240 x5_1).f0)))) ≥ 4611686018427387903
     ·rw [if_pos c6] at H
      have c6b0 : decide (4611686018427387903 ≤ (IntKind.u64.wrap ((IntKind.u64.wrap ((rd_T64 t240 x5_1).f1)) - (IntKind.u64.wrap ((rd_T64 t240 x5_1).f0))))) = true := decide_eq_true c6
      clear c6
      obtain rfl := Option.some.inj H
      obtain ⟨Ao7, co7, eo7⟩ := Kd.R_slice HO_3.out
      subst eo7
      have p243 : 0 ≤ (x5_1 : Int) := of_decide_eq_true (by first | (with_reducible assumption) | assumption)
      have q243 : x5_1 < (t240.length : Int) := of_decide_eq_true (by first | (with_reducible assumption) | assumption)
      obtain ⟨ad243, e243, hx243_0, hx243_1⟩ := at_T64 (rR HO_3.out).2.2 x5_1 p243 q243
      cases e243
      replace p243 := eq_true p243
      replace q243 := eq_true q243
      have p244 : 0 ≤ (x5_1 : Int) := of_decide_eq_true (by first | (with_reducible assumption) | assumption)
      have q244 : x5_1 < (t240.length : Int) := of_decide_eq_true (by first | (with_reducible assumption) | assumption)
      obtain ⟨ad244, e244, hx244_0, hx244_1⟩ := at_T64 (rR HO_3.out).2.2 x5_1 p244 q244
      obtain rfl : ad243 = ad244 := (by injection e244)
      replace p244 := eq_true p244
      replace q244 := eq_true q244
      go_wp2
      repeat (go_quiet (fail); try go_wp2)
      go_ret
      exact ⟨by first | rfl | (simp [errW_none, errW_some] <;> rfl) | (simp [*, errW_none, errW_some] <;> rfl), by repeat (first | (with_reducible first | exact HB.out | apply wA | apply wN | apply wD) | exact HB.out)⟩
     ·rw [if_neg c6] at H
      have c6b0 : decide (4611686018427387903 ≤ (IntKind.u64.wrap ((IntKind.u64.wrap ((rd_T64 t240 x5_1).f1)) - (IntKind.u64.wrap ((rd_T64 t240 x5_1).f0))))) = false := decide_eq_false c6
      clear c6
      by_cases c8 : x4_1 > (wrap64 ((wrap64 (4611686018427387903 - (wrap64 (IntKind.u64.wrap ((IntKind.u64.wrap ((rd_T64 t240 x5_1).f1)) - (IntKind.u64.wrap ((rd_T64 t240 x5_1).f0))))))) - 1))
      ·rw [if_pos c8] at H
       have c8b0 : decide ((wrap64 ((wrap64 (4611686018427387903 - (wrap64 (IntKind.u64.wrap ((IntKind.u64.wrap ((rd_T64 t240 x5_1).f1)) - (IntKind.u64.wrap ((rd_T64 t240 x5_1).f0))))))) - 1)) < x4_1) = true := decide_eq_true c8
       clear c8
       obtain rfl := Option.some.inj H
       obtain ⟨Ao9, co9, eo9⟩ := Kd.R_slice HO_3.out
       subst eo9
       have p243 : 0 ≤ (x5_1 : Int) := of_decide_eq_true (by first | (with_reducible assumption) | assumption)
       have q243 : x5_1 < (t240.length : Int) := of_decide_eq_true (by first | (with_reducible assumption) | assumption)
       obtain ⟨ad243, e243, hx243_0, hx243_1⟩ := at_T64 (rR HO_3.out).2.2 x5_1 p243 q243
       cases e243
       replace p243 := eq_true p243
       replace q243 := eq_true q243
       have p244 : 0 ≤ (x5_1 : Int) := of_decide_eq_true (by first | (with_reducible assumption) | assumption)
       have q244 : x5_1 < (t240.length : Int) := of_decide_eq_true (by first | (with_reducible assumption) | assumption)
       obtain ⟨ad244, e244, hx244_0, hx244_1⟩ := at_T64 (rR HO_3.out).2.2 x5_1 p244 q244
       obtain rfl : ad243 = ad244 := (by injection e244)
       replace p244 := eq_true p244
       replace q244 := eq_true q244
       go_wp2
       repeat (go_quiet (fail); try go_wp2)
       go_ret
       exact ⟨by first | rfl | (simp [errW_none, errW_some] <;> rfl) | (simp [*, errW_none, errW_some] <;> rfl), by repeat (first | (with_reducible first | exact HB.out | apply wA | apply wN | apply wD) | exact HB.out)⟩
      ·rw [if_neg c8] at H
       have c8b0 : decide ((wrap64 ((wrap64 (4611686018427387903 - (wrap64 (IntKind.u64.wrap ((IntKind.u64.wrap ((rd_T64 t240 x5_1).f1)) - (IntKind.u64.wrap ((rd_T64 t240 x5_1).f0))))))) - 1)) < x4_1) = false := decide_eq_false c8
       clear c8
       have H' := Aside0.mk H
       clear H
       obtain ⟨Ao10, co10, eo10⟩ := Kd.R_slice HO_3.out
       subst eo10
       have p243 : 0 ≤ (x5_1 : Int) := of_decide_eq_true (by first | (with_reducible assumption) | assumption)
       have q243 : x5_1 < (t240.length : Int) := of_decide_eq_true (by first | (with_reducible assumption) | assumption)
       obtain ⟨ad243, e243, hx243_0, hx243_1⟩ := at_T64 (rR HO_3.out).2.2 x5_1 p243 q243
       cases e243
       replace p243 := eq_true p243
       replace q243 := eq_true q243
       have p244 : 0 ≤ (x5_1 : Int) := of_decide_eq_true (by first | (with_reducible assumption) | assumption)
       have q244 : x5_1 < (t240.length : Int) := of_decide_eq_true (by first | (with_reducible assumption) | assumption)
       obtain ⟨ad244, e244, hx244_0, hx244_1⟩ := at_T64 (rR HO_3.out).2.2 x5_1 p244 q244
       obtain rfl : ad243 = ad244 := (by injection e244)
       replace p244 := eq_true p244
       replace q244 := eq_true q244
       go_wp2
       repeat (go_quiet (fail); try go_wp2)
       go_roundg k1
       case measure => have := HK1.out; omega
       case rel => exact ⟨(wrap64 ((wrap64 (x4_1 + (wrap64 (IntKind.u64.wrap ((IntKind.u64.wrap ((rd_T64 t240 x5_1).f1)) - (IntKind.u64.wrap ((rd_T64 t240 x5_1).f0))))))) + 1)), (wrap64 (x5_1 + 1)), (by first | rfl | (simp; done) | (simp [*]; done)), (by first | rfl | (simp; done) | (simp [*]; done)), H', ⟨by have := HK1.out; omega⟩, ⟨by (with_reducible repeat (first | apply rA | apply rN | apply rD)); exact HO_3.out⟩, ⟨by repeat (first | (with_reducible first | exact HB.out | apply wA | apply wN | apply wD) | exact HB.out)⟩⟩
    ·rw [if_neg c5] at H
     exact absurd H (by simp)
   ·rw [if_neg c4] at H
    have c4b0 : decide (x5_1 < (t240.length : Int)) = false := decide_eq_false c4
    clear c4
    obtain rfl := Option.some.inj H
    obtain ⟨Ao11, co11, eo11⟩ := Kd.R_slice HO_3.out
    subst eo11
    go_wp2
    repeat (go_quiet (fail); try go_wp2)
    go_ret
    exact ⟨by first | rfl | (simp [errW_none, errW_some] <;> rfl) | (simp [*, errW_none, errW_some] <;> rfl), by repeat (first | (with_reducible first | exact HB.out | apply wA | apply wN | apply wD) | exact HB.out)⟩

/-! ### dredgeref06_Top: function 24 -/
def dredgeref06_Top.f (a0 : Bool) : Option (Int) := if a0 = true then (some 1114111) else (some 255)
set_option maxHeartbeats 8000000 in
set_option maxRecDepth 100000 in
theorem dredgeref06_Top.calls (a0 : Bool) (r : Int) (w : World) (h : dredgeref06_Top.f a0 = some r) :
  Calls Try.prog 24 #[.bool a0] w fun e w' => e = .returned (.int .i64 r) ∧ Drawn0 w w' := by
 have H : (if a0 = true then (some 1114111) else (some 255)) = some r := h
 clear h
 by_cases c2 : a0 = true
 ·subst c2
  have H1 : (some 1114111) = some r := by rw [if_pos rfl] at H; exact H
  clear H
  have H := H1
  clear H1
  obtain rfl := Option.some.inj H
  go_enter Try.func24, Try.ntmps24
  go_wp2
  go_ret
  exact ⟨by first | rfl | (simp; done) | (simp [*]; done), by repeat (first | exact Drawn0.refl _ | apply Drawn0.step)⟩
 ·replace c2 := Bool.eq_false_iff.mpr c2
  subst c2
  have H1 : (some 255) = some r := by rw [if_neg (show ¬ (false = true) by decide)] at H; exact H
  clear H
  have H := H1
  clear H1
  obtain rfl := Option.some.inj H
  go_enter Try.func24, Try.ntmps24
  go_wp2
  go_ret
  exact ⟨by first | rfl | (simp; done) | (simp [*]; done), by repeat (first | exact Drawn0.refl _ | apply Drawn0.step)⟩

end Go.Proofs.Ytamhkdlcoghdbaa.PCls
