-- Written by wip/tools/pp.py (this session's driver of the kit's print): functions of the program as plain Lean functions, each with its contract.
import Derived.Test.YtamhkdlcoghdbaaPClsx0
import Derived.Test.YtamhkdlcoghdbaaPClsx1
import Derived.Test.YtamhkdlcoghdbaaPClsx7
namespace Go.Proofs.Ytamhkdlcoghdbaa.PCls
open Go.RowKit Go.Proofs.YtamhkdlcoghdbaaW.PrintWords Go.Proofs.YtamhkdlcoghdbaaW.PrintLast Go.Proofs.YtamhkdlcoghdbaaW.PrintMore
attribute [local go_sem] max2_int min2_int max_two min_two max_three min_three max_four min_four   -- for this text's walks alone
set_option linter.unusedVariables false
set_option linter.unusedSimpArgs false

attribute [local go_sem high] eqA64
/-! ### dredgelaw06_still: function 20 -/
def dredgelaw06_still.f (k : Nat) (l0 : List (S64)) (l1 : List (S64)) : Option (Bool) := if 0 ≤ (l1.length : Int) then (if (l1.length : Int) ≤ (l0.length : Int) then ((dredgeref06_Alike.f k (l0.take ((l1.length : Int) : Int).toNat) l1).bind fun t175 => (if t175 = true then (if (l1.length : Int) < (l0.length : Int) then (some (((rd_T64 l0 (l1.length : Int)).f0) == (-7) && (((rd_T64 l0 (l1.length : Int)).f1) == 7))) else (none)) else (some false))) else (none)) else (none)
theorem dredgelaw06_still.mono : ∀ a0 a1 k, LeO (dredgelaw06_still.f k a0 a1) (dredgelaw06_still.f (k + 1) a0 a1) := by
 intro a0 a1 k
 unfold dredgelaw06_still.f
 repeat' first
   | (with_reducible exact dredgeref06_Alike.mono _ _ _)
   | (with_reducible exact LeO.refl _)
   | (with_reducible exact LeO.none _)
   | (with_reducible refine LeO.ite ?_ ?_)
   | (with_reducible refine LeO.bind ?_ (fun _ => ?_))
   | exact dredgeref06_Alike.mono _ _ _
   | exact LeO.none _
   | refine LeO.ite ?_ ?_
   | refine LeO.bind ?_ (fun _ => ?_)
set_option maxHeartbeats 8000000 in
set_option maxRecDepth 100000 in
theorem dredgelaw06_still.calls (k : Nat) (A0 : Option Addr) (c0 : Nat) (l0 : List (S64)) (A1 : Option Addr) (c1 : Nat) (l1 : List (S64)) (r : Bool) (w : World) (hr0 : Kd.C k64 w A0 l0.length l0) (hc0 : l0.length ≤ c0) (hr1 : Kd.C k64 w A1 l1.length l1) (hc1 : l1.length ≤ c1) (h : dredgelaw06_still.f k l0 l1 = some r) :
  Calls Try.prog 20 #[.slice A0 l0.length c0, .slice A1 l1.length c1] w fun e w' => e = .returned (.bool r) ∧ Drawn0 w w' := by
 have hu64 := Try.underlying64
 have HR0 := Aside0.mk hr0
 have HC0 := Aside0.mk hc0
 clear hr0 hc0
 have HR1 := Aside0.mk hr1
 have HC1 := Aside0.mk hc1
 clear hr1 hc1
 have H : (if 0 ≤ (l1.length : Int) then (if (l1.length : Int) ≤ (l0.length : Int) then ((dredgeref06_Alike.f k (l0.take ((l1.length : Int) : Int).toNat) l1).bind fun t175 => (if t175 = true then (if (l1.length : Int) < (l0.length : Int) then (some (((rd_T64 l0 (l1.length : Int)).f0) == (-7) && (((rd_T64 l0 (l1.length : Int)).f1) == 7))) else (none)) else (some false))) else (none)) else (none)) = some r := h
 clear h
 by_cases c3 : 0 ≤ (l1.length : Int)
 ·rw [if_pos c3] at H
  have c3b0 := eq_true c3
  have c3b1 : decide (0 ≤ (l1.length : Int)) = true := decide_eq_true c3
  clear c3
  by_cases c4 : (l1.length : Int) ≤ (l0.length : Int)
  ·rw [if_pos c4] at H
   have c4b0 := eq_true c4
   have c4b1 : decide ((l1.length : Int) ≤ (l0.length : Int)) = true := decide_eq_true c4
   clear c4
   obtain ⟨y171, hy171⟩ : ∃ y_ : List (S64), y_ = (l0.take ((l1.length : Int) : Int).toNat) := ⟨_, rfl⟩
   replace H : ((dredgeref06_Alike.f k y171 l1).bind fun t175 => (if t175 = true then (if (l1.length : Int) < (l0.length : Int) then (some (((rd_T64 l0 (l1.length : Int)).f0) == (-7) && (((rd_T64 l0 (l1.length : Int)).f1) == 7))) else (none)) else (some false))) = some r := by first | (rw [hy171]; with_reducible exact H) | (have H2_ := (Option.bind_some _ _).symm.trans H; rw [hy171]; with_reducible exact H2_) | (have H2_ := (Option.bind_some _ _).symm.trans H; with_reducible exact H2_) | with_reducible exact H | (rw [hy171]; exact H) | exact H
   have Ny171 := Aside0.mk hy171
   clear hy171
   replace H := Option.bind_eq_some_iff.mp H
   obtain ⟨t175, A50, H⟩ := H
   replace H : (if t175 = true then (if (l1.length : Int) < (l0.length : Int) then (some (((rd_T64 l0 (l1.length : Int)).f0) == (-7) && (((rd_T64 l0 (l1.length : Int)).f1) == 7))) else (none)) else (some false)) = some r := H
   have A5 := Aside0.mk A50
   clear A50
   by_cases c6 : t175 = true
   ·subst c6
    have H1 : (if (l1.length : Int) < (l0.length : Int) then (some (((rd_T64 l0 (l1.length : Int)).f0) == (-7) && (((rd_T64 l0 (l1.length : Int)).f1) == 7))) else (none)) = some r := by rw [if_pos rfl] at H; exact H
    clear H
    have H := H1
    clear H1
    by_cases c7 : (l1.length : Int) < (l0.length : Int)
    ·rw [if_pos c7] at H
     have c7b0 : decide ((l1.length : Int) < (l0.length : Int)) = true := decide_eq_true c7
     have c7b1 : decide (l1.length < l0.length) = true := decide_eq_true (Int.ofNat_lt.mp c7)
     clear c7
     obtain rfl := Option.some.inj H
     have q8 : ((l1.length : Int) : Int) ≤ ((l0.length : Int) : Int) := of_decide_eq_true (by first | (with_reducible assumption) | assumption)
     obtain ⟨i08, hi08, _, hsz8, _⟩ := info_parts info64
     have hroom8 : l0.length ≤ c0 := HC0.out
     have hC8 : Kd.C k64 _ A0 l0.length l0 := HR0.out
     have hcut8 := cut_to (P := Try.prog) 22 64 .i64 Try.underlying22 hi08 A0 l0.length c0 (l1.length : Int) (of_decide_eq_true (by first | (with_reducible assumption) | assumption)) q8 hroom8
     have hr8 := Kd.C_take (m := ((l1.length : Int) : Int).toNat) hC8 (by omega)
     have hy8 : y171.length = ((l1.length : Int) : Int).toNat := (by rw [Ny171.out, List.length_take]; omega)
     rw [← Ny171.out] at hr8
     rw [← hy8] at hcut8
     have HR174 := Aside0.mk hr8
     have HC174 := Aside0.mk (show y171.length ≤ c0 from by omega)
     clear hr8 hC8 hroom8 hi08 hsz8
     have KY8 := Aside0.mk hy8
     clear hy8
     replace q8 := eq_true q8
     go_enter Try.func20, Try.ntmps20
     go_wp2_with (first | ((with_reducible refine gate_callee (f := 29) rfl ?_); refine goesL_ (some 10) rfl rfl Try.func29 (by kernel_rfl) rfl #[.slice A0 y171.length c0, .slice A1 l1.length c1] rfl (by (try simp only [List.map_toArray, List.map_cons, List.map_nil]); first | done | rfl | (simp only [List.length_drop, List.length_take]; rfl)) ?_; (with_reducible refine (dredgeref06_Alike.calls k _ _ y171 _ _ l1 true _ ?side1 ?side2 ?side3 ?side4 A5.out).mono ?_); (case side1 => repeat (first | exact HR174.out | (with_reducible refine cA ?_ _) | (with_reducible refine cN ?_ _) | (with_reducible refine cD ?_))); (case side2 => exact HC174.out); (case side3 => repeat (first | exact HR1.out | (with_reducible refine cA ?_ _) | (with_reducible refine cN ?_ _) | (with_reducible refine cD ?_))); (case side4 => exact HC1.out); rintro e w' ⟨rfl, ⟨nd, rfl⟩⟩; refine ⟨_, rfl, ?_⟩; have p176 : 0 ≤ ((l1.length : Int) : Int) := of_decide_eq_true (by first | (with_reducible assumption) | assumption); have q176 : (l1.length : Int) < (l0.length : Int) := of_decide_eq_true (by first | (with_reducible assumption) | assumption); obtain ⟨ad176, e176, hx176_0, hx176_1⟩ := at_T64 HR0.out (l1.length : Int) p176 q176; cases e176; (try simp only [Go.IntWalk.toNatUp] at hx176_0); (try simp only [Go.IntWalk.toNatUp] at hx176_1); replace p176 := eq_true p176; replace q176 := eq_true q176))
     go_ret
     exact ⟨by first | rfl | (simp; done) | (simp [*]; done), by repeat (first | exact Drawn0.refl _ | apply Drawn0.step)⟩
    ·rw [if_neg c7] at H
     exact absurd H (by simp)
   ·replace c6 := Bool.eq_false_iff.mpr c6
    subst c6
    have H1 : (some false) = some r := by rw [if_neg (show ¬ (false = true) by decide)] at H; exact H
    clear H
    have H := H1
    clear H1
    obtain rfl := Option.some.inj H
    have q9 : ((l1.length : Int) : Int) ≤ ((l0.length : Int) : Int) := of_decide_eq_true (by first | (with_reducible assumption) | assumption)
    obtain ⟨i09, hi09, _, hsz9, _⟩ := info_parts info64
    have hroom9 : l0.length ≤ c0 := HC0.out
    have hC9 : Kd.C k64 _ A0 l0.length l0 := HR0.out
    have hcut9 := cut_to (P := Try.prog) 22 64 .i64 Try.underlying22 hi09 A0 l0.length c0 (l1.length : Int) (of_decide_eq_true (by first | (with_reducible assumption) | assumption)) q9 hroom9
    have hr9 := Kd.C_take (m := ((l1.length : Int) : Int).toNat) hC9 (by omega)
    have hy9 : y171.length = ((l1.length : Int) : Int).toNat := (by rw [Ny171.out, List.length_take]; omega)
    rw [← Ny171.out] at hr9
    rw [← hy9] at hcut9
    have HR174 := Aside0.mk hr9
    have HC174 := Aside0.mk (show y171.length ≤ c0 from by omega)
    clear hr9 hC9 hroom9 hi09 hsz9
    have KY9 := Aside0.mk hy9
    clear hy9
    replace q9 := eq_true q9
    go_enter Try.func20, Try.ntmps20
    go_wp2_with (first | ((with_reducible refine gate_callee (f := 29) rfl ?_); refine goesL_ (some 10) rfl rfl Try.func29 (by kernel_rfl) rfl #[.slice A0 y171.length c0, .slice A1 l1.length c1] rfl (by (try simp only [List.map_toArray, List.map_cons, List.map_nil]); first | done | rfl | (simp only [List.length_drop, List.length_take]; rfl)) ?_; (with_reducible refine (dredgeref06_Alike.calls k _ _ y171 _ _ l1 false _ ?side1 ?side2 ?side3 ?side4 A5.out).mono ?_); (case side1 => repeat (first | exact HR174.out | (with_reducible refine cA ?_ _) | (with_reducible refine cN ?_ _) | (with_reducible refine cD ?_))); (case side2 => exact HC174.out); (case side3 => repeat (first | exact HR1.out | (with_reducible refine cA ?_ _) | (with_reducible refine cN ?_ _) | (with_reducible refine cD ?_))); (case side4 => exact HC1.out); rintro e w' ⟨rfl, ⟨nd, rfl⟩⟩; refine ⟨_, rfl, ?_⟩))
    go_ret
    exact ⟨by first | rfl | (simp; done) | (simp [*]; done), by repeat (first | exact Drawn0.refl _ | apply Drawn0.step)⟩
  ·rw [if_neg c4] at H
   exact absurd H (by simp)
 ·rw [if_neg c3] at H
  exact absurd H (by simp)

end Go.Proofs.Ytamhkdlcoghdbaa.PCls
