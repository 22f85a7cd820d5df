/- Out of ZPClsx4 (wip/tools/prune2.py): the declarations alone that the texts of the trees name. -/
import Derived.Test.YtamhkdlcoghdbaaGreatDoorKQZPClsx3
namespace Go.Proofs.YtamhkdlcoghdbaaGreatDoor.PCls
open Go.RowKit Go.Proofs.YtamhkdlcoghdbaaGreatDoorW.PrintWords Go.Proofs.YtamhkdlcoghdbaaGreatDoorW.PrintLast Go.Proofs.YtamhkdlcoghdbaaGreatDoorW.PrintMore
attribute [local go_sem] max2_int min2_int max_two min_two max_three min_three max_four min_four   -- for this text's walks alone
set_option linter.unusedVariables false
set_option linter.unusedSimpArgs false
mutual
def classes_And.l0 : Nat → List (S64) → List (S64) → List (S64) → Option ((List (S64)))
 | 0, _, _, _ => none
 | k + 1, x0, x1, x5 => if (x0.length : Int) > 0 then (classes_And.j1 k x0 x1 x5 (decide ((x1.length : Int) > 0))) else (classes_And.j1 k x0 x1 x5 false)
def classes_And.j1 : Nat → List (S64) → List (S64) → List (S64) → Bool → Option ((List (S64)))
 | 0, _, _, _, _ => none
 | k + 1, x0, x1, x5, x19 => if x19 = true then (if 0 < (x0.length : Int) then (if 0 < (x1.length : Int) then (if (mx ((rd_T64 x0 0).f0) ((rd_T64 x1 0).f0)) ≤ (mn ((rd_T64 x0 0).f1) ((rd_T64 x1 0).f1)) then (if x5.length < 8796093022208 then ((some (x5 ++ [(⟨mx ((rd_T64 x0 0).f0) ((rd_T64 x1 0).f0), mn ((rd_T64 x0 0).f1) ((rd_T64 x1 0).f1)⟩ : S64)] : List (S64))).bind fun y135 => (if ((rd_T64 x0 0).f1) < ((rd_T64 x1 0).f1) then (if 1 ≤ (x0.length : Int) then (classes_And.l0 k (x0.drop (1 : Int).toNat) x1 y135) else (none)) else (if 1 ≤ (x1.length : Int) then (classes_And.l0 k x0 (x1.drop (1 : Int).toNat) y135) else (none)))) else (none)) else (if ((rd_T64 x0 0).f1) < ((rd_T64 x1 0).f1) then (if 1 ≤ (x0.length : Int) then (classes_And.l0 k (x0.drop (1 : Int).toNat) x1 x5) else (none)) else (if 1 ≤ (x1.length : Int) then (classes_And.l0 k x0 (x1.drop (1 : Int).toNat) x5) else (none)))) else (none)) else (none)) else (some x5)
end
def classes_And.f (k : Nat) (l0 : List (S64)) (l1 : List (S64)) : Option ((List (S64))) := (classes_class.f k l0).bind fun t125 => ((classes_class.f k l1).bind fun t128 => (classes_And.l0 k t125 t128 ([] : List (S64))))
set_option maxHeartbeats 8000000 in
set_option maxRecDepth 100000 in
theorem classes_And.calls (k : Nat) (A0 : Option Addr) (c0 : Nat) (l0 : List (S64)) (A1 : Option Addr) (c1 : Nat) (l1 : List (S64)) (r : List (S64)) (w : World) (hr0 : Kd.C k64 w A0 l0.length l0) (hc0 : l0.length ≤ c0) (hr1 : Kd.C k64 w A1 l1.length l1) (hc1 : l1.length ≤ c1) (h : classes_And.f k l0 l1 = some r) :
  Calls Tryz.prog 161 #[.slice A0 l0.length c0, .slice A1 l1.length c1] w fun e w' => ∃ v0_ : Value, e = .returned (v0_) ∧ Kd.R k64 39 w' w.heap.size (fun _ => True) v0_ r ∧ Below w.heap.size w w' := by
 have hu64 := Tryz.underlying39
 have HR0 := Aside0.mk hr0
 have HC0 := Aside0.mk hc0
 clear hr0 hc0
 have HR1 := Aside0.mk hr1
 have HC1 := Aside0.mk hc1
 clear hr1 hc1
 have HB := Aside0.mk (Below.refl w.heap.size w)
 have H : ((classes_class.f k l0).bind fun t125 => ((classes_class.f k l1).bind fun t128 => (classes_And.l0 k t125 t128 ([] : List (S64))))) = some r := h
 clear h
 replace H := Option.bind_eq_some_iff.mp H
 obtain ⟨t125, A30, H⟩ := H
 replace H : ((classes_class.f k l1).bind fun t128 => (classes_And.l0 k t125 t128 ([] : List (S64)))) = some r := H
 have A3 := Aside0.mk A30
 clear A30
 replace H := Option.bind_eq_some_iff.mp H
 obtain ⟨t128, A40, H⟩ := H
 replace H : (classes_And.l0 k t125 t128 ([] : List (S64))) = some r := H
 have A4 := Aside0.mk A40
 clear A40
 have H' := Aside0.mk H
 clear H
 go_enter Tryz.func161, Tryz.ntmps161
 go_wp2_with (first | (go_at_call 193; (with_reducible refine (classes_class.calls k _ _ l0 t125 _ ?side1 ?side2 A3.out).mono ?_); (case side1 => repeat (first | exact HR0.out | (with_reducible refine cA ?_ _) | (with_reducible refine cN ?_ _) | (with_reducible refine cD ?_))); (case side2 => exact HC0.out); rintro e w5 ⟨v126, rfl, ho0, hb⟩; have n0_ := Aside0.mk (Kd.R_lower ho0 (below_size (by repeat (first | (with_reducible first | exact HB.out | apply wA | apply wN | apply wD) | exact HB.out)))); have n1_ := Aside0.mk (below_step (by repeat (first | (with_reducible first | exact HB.out | apply wA | apply wN | apply wD) | exact HB.out)) hb); clear HB; have HO127 := n0_; have HB := n1_; clear n0_ n1_; (try clear hb); (try clear hb2); (try clear hk); (try clear hi); (try clear ho0)) | (go_at_call 193; (with_reducible refine (classes_class.calls k _ _ l1 t128 _ ?side1 ?side2 A4.out).mono ?_); (case side1 => repeat (first | exact (Kd.C_below HR1.out HB.out) | (with_reducible refine cA ?_ _) | (with_reducible refine cN ?_ _) | (with_reducible refine cD ?_))); (case side2 => exact HC1.out); rintro e w6 ⟨v129, rfl, ho0, hb⟩; have n0_ := Aside0.mk (rE (by (with_reducible repeat (first | apply rA | apply rN | apply rD)); exact HO127.out) (rB ho0) hb); have n1_ := Aside0.mk (Kd.R_lower (rW ho0 (rL (by (with_reducible repeat (first | apply rA | apply rN | apply rD)); exact HO127.out))) (below_size (by repeat (first | (with_reducible first | exact HB.out | apply wA | apply wN | apply wD) | exact HB.out)))); have n2_ := Aside0.mk (below_step (by repeat (first | (with_reducible first | exact HB.out | apply wA | apply wN | apply wD) | exact HB.out)) hb); clear HO127; clear HB; have HO127 := n0_; have HO130 := n1_; have HB := n2_; clear n0_ n1_ n2_; (try clear hb); (try clear hb2); (try clear hk); (try clear hi); (try clear ho0)))
 go_loopg [0, 1, 5] k (fun kq v0 v1 v5 w' => ∃ (x0_1 : List (S64)) (x1_1 : List (S64)) (x5_1 : List (S64)), Aside0 (classes_And.l0 kq x0_1 x1_1 x5_1 = some r) ∧ Aside0 (kq ≤ k) ∧ Aside0 (Kd.Q k64 39 w' w.heap.size (fun k_ => some k_ ≠ (v1 : Value).ownBlock ∧ some k_ ≠ (v5 : Value).ownBlock) v0 x0_1) ∧ Aside0 (Kd.Q k64 39 w' w.heap.size (fun k_ => some k_ ≠ (v0 : Value).ownBlock ∧ some k_ ≠ (v5 : Value).ownBlock) v1 x1_1) ∧ Aside0 (Kd.R k64 39 w' w.heap.size (fun k_ => some k_ ≠ (v0 : Value).ownBlock ∧ some k_ ≠ (v1 : Value).ownBlock) v5 x5_1) ∧ Aside0 (Below w.heap.size w w'))
 case atStart => exact ⟨(t125), (t128), (([] : List (S64))), H', ⟨Nat.le_refl _⟩, ⟨Kd.Q_of_R (by (with_reducible repeat (first | apply rA | apply rN | apply rD)); exact Kd.R_mono HO127.out (fun _ hk => ⟨hk.2, (by simp [Value.ownBlock])⟩))⟩, ⟨Kd.Q_of_R (by (with_reducible repeat (first | apply rA | apply rN | apply rD)); exact Kd.R_mono HO130.out (fun _ hk => ⟨hk.2, (by simp [Value.ownBlock])⟩))⟩, ⟨by first | exact Kd.R_nil _ _ _ _ _ | exact Kd.N_nil _ _ _ _ _ | exact Kd.V_nil _ _ _ _ _ | exact Kd.Q_nil _ _ _ _ _ | exact Kd.S_nil _ _ _ _ _⟩, ⟨by repeat (first | (with_reducible first | exact HB.out | apply wA | apply wN | apply wD) | exact HB.out)⟩⟩
 case round =>
  clear H'
  try clear c1
  try clear p2
  try clear c3
  obtain ⟨x0_1, x1_1, x5_1, HA, HK1, HO_0, HO_1, HO_5, HB⟩ := hrel
  cases gk with
  | zero => exact absurd HA.out (by simp [classes_And.l0])
  | succ k1 =>
   have H := HA.out
   clear HA
   simp only [classes_And.l0] at H
   have HC7 := Aside0.mk H
   clear H
   go_upto_region 3 with (fail)
   repeat (go_quiet (fail); go_upto_region 3 with (fail))
   go_cut [19] (fun v19 wc => ∃ (kq : Nat) (x19_6 : Bool), v19 = .bool x19_6 ∧ Aside0 (classes_And.j1 kq x0_1 x1_1 x5_1 x19_6 = some r) ∧ Aside0 (kq ≤ k1) ∧ Aside0 (Kd.Q k64 39 wc w.heap.size (fun k_ => some k_ ≠ (u1 : Value).ownBlock ∧ some k_ ≠ (u5 : Value).ownBlock) u0 x0_1) ∧ Aside0 (Kd.Q k64 39 wc w.heap.size (fun k_ => some k_ ≠ (u0 : Value).ownBlock ∧ some k_ ≠ (u5 : Value).ownBlock) u1 x1_1) ∧ Aside0 (Kd.R k64 39 wc w.heap.size (fun k_ => some k_ ≠ (u0 : Value).ownBlock ∧ some k_ ≠ (u1 : Value).ownBlock) u5 x5_1) ∧ Aside0 (Below w.heap.size w wc))
   case first =>
    have H := HC7.out
    clear HC7
    by_cases c8 : (x0_1.length : Int) > 0
    ·rw [if_pos c8] at H
     have c8b0 : decide (0 < (x0_1.length : Int)) = true := decide_eq_true c8
     have c8b1 : decide (0 < x0_1.length) = true := decide_eq_true (by omega)
     clear c8
     (first | rw [c8b0] | (simp only [i64_w, i32_w]; rw [c8b0]) | skip)
     have H' := Aside0.mk H
     clear H
     obtain ⟨Ao9, co9, eo9, _⟩ := Kd.Q_slice HO_0.out
     subst eo9
     obtain ⟨Ao10, co10, eo10, _⟩ := Kd.Q_slice HO_1.out
     subst eo10
     go_wp2
     repeat (go_quiet (fail); try go_wp2)
     go_meet
     case rel => exact ⟨_, (decide ((x1_1.length : Int) > 0)), (by first | rfl | (simp; done) | (simp [*]; done)), H', ⟨by have := HK1.out; first | omega | exact Nat.le_refl _⟩, ⟨by (with_reducible repeat (first | apply qA | apply qN | apply qD)); exact HO_0.out⟩, ⟨by (with_reducible repeat (first | apply qA | apply qN | apply qD)); exact HO_1.out⟩, ⟨by (with_reducible repeat (first | apply rA | apply rN | apply rD)); exact HO_5.out⟩, ⟨by repeat (first | (with_reducible first | exact HB.out | apply wA | apply wN | apply wD) | exact HB.out)⟩⟩
    ·rw [if_neg c8] at H
     have c8b0 : decide (0 < (x0_1.length : Int)) = false := decide_eq_false c8
     have c8b1 : decide (0 < x0_1.length) = false := decide_eq_false (by omega)
     clear c8
     (first | rw [c8b0] | (simp only [i64_w, i32_w]; rw [c8b0]) | skip)
     have H' := Aside0.mk H
     clear H
     obtain ⟨Ao11, co11, eo11, _⟩ := Kd.Q_slice HO_0.out
     subst eo11
     go_wp2
     repeat (go_quiet (fail); try go_wp2)
     go_meet
     case rel => exact ⟨_, (false), (by first | rfl | (simp; done) | (simp [*]; done)), H', ⟨by have := HK1.out; first | omega | exact Nat.le_refl _⟩, ⟨by (with_reducible repeat (first | apply qA | apply qN | apply qD)); exact HO_0.out⟩, ⟨by (with_reducible repeat (first | apply qA | apply qN | apply qD)); exact HO_1.out⟩, ⟨by (with_reducible repeat (first | apply rA | apply rN | apply rD)); exact HO_5.out⟩, ⟨by repeat (first | (with_reducible first | exact HB.out | apply wA | apply wN | apply wD) | exact HB.out)⟩⟩
   case rest =>
    clear HC7
    try clear c1
    try clear p2
    try clear c3
    try clear c8
    try clear c8b0
    try clear c8b1
    try clear p2
    obtain ⟨kq, x19_6, rfl, HA, HJ6, HO_0, HO_1, HO_5, HB⟩ := hcut
    cases kq with
    | zero => exact absurd HA.out (by simp [classes_And.j1])
    | succ kj6 =>
     have H := HA.out
     clear HA
     simp only [classes_And.j1] at H
     by_cases c12 : x19_6 = true
     ·subst c12
      have H1 : (if 0 < (x0_1.length : Int) then (if 0 < (x1_1.length : Int) then (if (mx ((rd_T64 x0_1 0).f0) ((rd_T64 x1_1 0).f0)) ≤ (mn ((rd_T64 x0_1 0).f1) ((rd_T64 x1_1 0).f1)) then (if x5_1.length < 8796093022208 then ((some (x5_1 ++ [(⟨mx ((rd_T64 x0_1 0).f0) ((rd_T64 x1_1 0).f0), mn ((rd_T64 x0_1 0).f1) ((rd_T64 x1_1 0).f1)⟩ : S64)] : List (S64))).bind fun y135 => (if ((rd_T64 x0_1 0).f1) < ((rd_T64 x1_1 0).f1) then (if 1 ≤ (x0_1.length : Int) then (classes_And.l0 kj6 (x0_1.drop (1 : Int).toNat) x1_1 y135) else (none)) else (if 1 ≤ (x1_1.length : Int) then (classes_And.l0 kj6 x0_1 (x1_1.drop (1 : Int).toNat) y135) else (none)))) else (none)) else (if ((rd_T64 x0_1 0).f1) < ((rd_T64 x1_1 0).f1) then (if 1 ≤ (x0_1.length : Int) then (classes_And.l0 kj6 (x0_1.drop (1 : Int).toNat) x1_1 x5_1) else (none)) else (if 1 ≤ (x1_1.length : Int) then (classes_And.l0 kj6 x0_1 (x1_1.drop (1 : Int).toNat) x5_1) else (none)))) else (none)) else (none)) = some r := by rw [if_pos rfl] at H; exact H
      clear H
      have H := H1
      clear H1
      by_cases c13 : 0 < (x0_1.length : Int)
      ·rw [if_pos c13] at H
       have c13b0 : decide (0 < (x0_1.length : Int)) = true := decide_eq_true c13
       have c13b1 : decide (0 < x0_1.length) = true := decide_eq_true (by omega)
       clear c13
       by_cases c14 : 0 < (x1_1.length : Int)
       ·rw [if_pos c14] at H
        have c14b0 : decide (0 < (x1_1.length : Int)) = true := decide_eq_true c14
        have c14b1 : decide (0 < x1_1.length) = true := decide_eq_true (by omega)
        clear c14
        obtain ⟨ji15, hji15⟩ : ∃ j_ : Int, (mx ((rd_T64 x0_1 0).f0) ((rd_T64 x1_1 0).f0)) = j_ := ⟨_, rfl⟩
        replace H : (if (ji15) ≤ (mn ((rd_T64 x0_1 0).f1) ((rd_T64 x1_1 0).f1)) then (if x5_1.length < 8796093022208 then ((some (x5_1 ++ [(⟨ji15, mn ((rd_T64 x0_1 0).f1) ((rd_T64 x1_1 0).f1)⟩ : S64)] : List (S64))).bind fun y135 => (if ((rd_T64 x0_1 0).f1) < ((rd_T64 x1_1 0).f1) then (if 1 ≤ (x0_1.length : Int) then (classes_And.l0 kj6 (x0_1.drop (1 : Int).toNat) x1_1 y135) else (none)) else (if 1 ≤ (x1_1.length : Int) then (classes_And.l0 kj6 x0_1 (x1_1.drop (1 : Int).toNat) y135) else (none)))) else (none)) else (if ((rd_T64 x0_1 0).f1) < ((rd_T64 x1_1 0).f1) then (if 1 ≤ (x0_1.length : Int) then (classes_And.l0 kj6 (x0_1.drop (1 : Int).toNat) x1_1 x5_1) else (none)) else (if 1 ≤ (x1_1.length : Int) then (classes_And.l0 kj6 x0_1 (x1_1.drop (1 : Int).toNat) x5_1) else (none)))) = some r := by first | (rw [hji15] at H; exact H) | (simp only [hji15] at H ⊢; exact H)
        have hji15_ : (if ((rd_T64 x0_1 0).f0) < ((rd_T64 x1_1 0).f0) then ((rd_T64 x1_1 0).f0) else ((rd_T64 x0_1 0).f0)) = ji15 := hji15
        obtain ⟨ji16, hji16⟩ : ∃ j_ : Int, (mn ((rd_T64 x0_1 0).f1) ((rd_T64 x1_1 0).f1)) = j_ := ⟨_, rfl⟩
        replace H : (if (ji15) ≤ (ji16) then (if x5_1.length < 8796093022208 then ((some (x5_1 ++ [(⟨ji15, ji16⟩ : S64)] : List (S64))).bind fun y135 => (if ((rd_T64 x0_1 0).f1) < ((rd_T64 x1_1 0).f1) then (if 1 ≤ (x0_1.length : Int) then (classes_And.l0 kj6 (x0_1.drop (1 : Int).toNat) x1_1 y135) else (none)) else (if 1 ≤ (x1_1.length : Int) then (classes_And.l0 kj6 x0_1 (x1_1.drop (1 : Int).toNat) y135) else (none)))) else (none)) else (if ((rd_T64 x0_1 0).f1) < ((rd_T64 x1_1 0).f1) then (if 1 ≤ (x0_1.length : Int) then (classes_And.l0 kj6 (x0_1.drop (1 : Int).toNat) x1_1 x5_1) else (none)) else (if 1 ≤ (x1_1.length : Int) then (classes_And.l0 kj6 x0_1 (x1_1.drop (1 : Int).toNat) x5_1) else (none)))) = some r := by first | (rw [hji16] at H; exact H) | (simp only [hji16] at H ⊢; exact H)
        have hji16_ : (if ((rd_T64 x1_1 0).f1) < ((rd_T64 x0_1 0).f1) then ((rd_T64 x1_1 0).f1) else ((rd_T64 x0_1 0).f1)) = ji16 := hji16
        by_cases c17 : (ji15) ≤ (ji16)
        ·rw [if_pos c17] at H
         have c17b0 : decide ((ji15) ≤ (ji16)) = true := decide_eq_true c17
         clear c17
         by_cases c18 : x5_1.length < 8796093022208
         ·rw [if_pos c18] at H
          have LMc18 := Aside0.mk c18
          clear c18
          obtain ⟨y135, hy135⟩ : ∃ y_ : List (S64), y_ = (x5_1 ++ [(⟨ji15, ji16⟩ : S64)]) := ⟨_, rfl⟩
          replace H : (if ((rd_T64 x0_1 0).f1) < ((rd_T64 x1_1 0).f1) then (if 1 ≤ (x0_1.length : Int) then (classes_And.l0 kj6 (x0_1.drop (1 : Int).toNat) x1_1 y135) else (none)) else (if 1 ≤ (x1_1.length : Int) then (classes_And.l0 kj6 x0_1 (x1_1.drop (1 : Int).toNat) y135) else (none))) = some r := by first | (rw [hy135]; with_reducible exact H) | (have H2_ := (Option.bind_some _ _).symm.trans H; rw [hy135]; with_reducible exact H2_) | (have H2_ := (Option.bind_some _ _).symm.trans H; with_reducible exact H2_) | with_reducible exact H | (rw [hy135]; exact H) | exact H
          have Ny135 := Aside0.mk hy135
          clear hy135
          by_cases c19 : ((rd_T64 x0_1 0).f1) < ((rd_T64 x1_1 0).f1)
          ·rw [if_pos c19] at H
           have c19b0 : decide (((rd_T64 x0_1 0).f1) < ((rd_T64 x1_1 0).f1)) = true := decide_eq_true c19
           clear c19
           by_cases c20 : 1 ≤ (x0_1.length : Int)
           ·rw [if_pos c20] at H
            have c20b0 := eq_true c20
            have c20b1 : decide (1 ≤ (x0_1.length : Int)) = true := decide_eq_true c20
            clear c20
            obtain ⟨y140, hy140⟩ : ∃ y_ : List (S64), y_ = (x0_1.drop (1 : Int).toNat) := ⟨_, rfl⟩
            replace H : (classes_And.l0 kj6 y140 x1_1 y135) = some r := by first | (rw [hy140]; with_reducible exact H) | (have H2_ := (Option.bind_some _ _).symm.trans H; rw [hy140]; with_reducible exact H2_) | (have H2_ := (Option.bind_some _ _).symm.trans H; with_reducible exact H2_) | with_reducible exact H | (rw [hy140]; exact H) | exact H
            have Ny140 := Aside0.mk hy140
            clear hy140
            have H' := Aside0.mk H
            clear H
            obtain ⟨Ao21, co21, eo21, _⟩ := Kd.Q_slice HO_0.out
            subst eo21
            have p131 : 0 ≤ (0 : Int) := (by omega)
            have q131 : 0 < (x0_1.length : Int) := of_decide_eq_true (by first | (with_reducible assumption) | assumption)
            obtain ⟨ad131, e131, hx131_0, hx131_1⟩ := at_T64 (Kd.Q_reads' HO_0.out).2.2 0 p131 q131
            cases e131
            have qi131 : (0 < x0_1.length) = True := eq_true (by omega)
            (try rw [show ((0 : Int)).toNat = 0 from rfl] at hx131_0)
            (try rw [show 0 * 2 = 0 from rfl] at hx131_0)
            (try rw [Addr.add_zero'] at hx131_0)
            (try rw [show ((0 : Int)).toNat = 0 from rfl] at hx131_1)
            (try rw [show 0 * 2 = 0 from rfl] at hx131_1)
            (try rw [Addr.add_zero'] at hx131_1)
            replace p131 := eq_true p131
            replace q131 := eq_true q131
            obtain ⟨Ao22, co22, eo22, _⟩ := Kd.Q_slice HO_1.out
            subst eo22
            have p132 : 0 ≤ (0 : Int) := (by omega)
            have q132 : 0 < (x1_1.length : Int) := of_decide_eq_true (by first | (with_reducible assumption) | assumption)
            obtain ⟨ad132, e132, hx132_0, hx132_1⟩ := at_T64 (Kd.Q_reads' HO_1.out).2.2 0 p132 q132
            cases e132
            have qi132 : (0 < x1_1.length) = True := eq_true (by omega)
            (try rw [show ((0 : Int)).toNat = 0 from rfl] at hx132_0)
            (try rw [show 0 * 2 = 0 from rfl] at hx132_0)
            (try rw [Addr.add_zero'] at hx132_0)
            (try rw [show ((0 : Int)).toNat = 0 from rfl] at hx132_1)
            (try rw [show 0 * 2 = 0 from rfl] at hx132_1)
            (try rw [Addr.add_zero'] at hx132_1)
            replace p132 := eq_true p132
            replace q132 := eq_true q132
            have p133 : 0 ≤ (0 : Int) := (by omega)
            have q133 : 0 < (x0_1.length : Int) := of_decide_eq_true (by first | (with_reducible assumption) | assumption)
            obtain ⟨ad133, e133, hx133_0, hx133_1⟩ := at_T64 (Kd.Q_reads' HO_0.out).2.2 0 p133 q133
            obtain rfl : ad131 = ad133 := (by injection e133)
            have qi133 : (0 < x0_1.length) = True := eq_true (by omega)
            (try rw [show ((0 : Int)).toNat = 0 from rfl] at hx133_0)
            (try rw [show 0 * 2 = 0 from rfl] at hx133_0)
            (try rw [Addr.add_zero'] at hx133_0)
            (try rw [show ((0 : Int)).toNat = 0 from rfl] at hx133_1)
            (try rw [show 0 * 2 = 0 from rfl] at hx133_1)
            (try rw [Addr.add_zero'] at hx133_1)
            replace p133 := eq_true p133
            replace q133 := eq_true q133
            have p134 : 0 ≤ (0 : Int) := (by omega)
            have q134 : 0 < (x1_1.length : Int) := of_decide_eq_true (by first | (with_reducible assumption) | assumption)
            obtain ⟨ad134, e134, hx134_0, hx134_1⟩ := at_T64 (Kd.Q_reads' HO_1.out).2.2 0 p134 q134
            obtain rfl : ad132 = ad134 := (by injection e134)
            have qi134 : (0 < x1_1.length) = True := eq_true (by omega)
            (try rw [show ((0 : Int)).toNat = 0 from rfl] at hx134_0)
            (try rw [show 0 * 2 = 0 from rfl] at hx134_0)
            (try rw [Addr.add_zero'] at hx134_0)
            (try rw [show ((0 : Int)).toNat = 0 from rfl] at hx134_1)
            (try rw [show 0 * 2 = 0 from rfl] at hx134_1)
            (try rw [Addr.add_zero'] at hx134_1)
            replace p134 := eq_true p134
            replace q134 := eq_true q134
            go_wp2_with (first | ((with_reducible refine gate_builtin (b := .append) (xs := #[.tmp 41, .tmp 45]) rfl ?_); (try (refine gate_guard (by rfl) ?_; dsimp only)); at_builtin; refine Kd.R_append k64 (w0 := w) w.heap.size rfl (.tmp 41) (.tmp 45) 35 39 (.agg #[(.int .i64 0), (.int .i64 0)]) 16 rfl Tryz.underlying35 info64 rfl (by decide) (by omega) u5 x5_1 (⟨ji15, ji16⟩ : S64) [.int .i64 ji15, .int .i64 ji16] (fun k_ => some k_ ≠ (.slice (some ad131) x0_1.length co21 : Value).ownBlock ∧ some k_ ≠ (.slice (some ad132) x1_1.length co22 : Value).ownBlock) (fun _ => False) rfl rfl ?aP (fun _ hk => hk.elim) ?aF ?aO ?aB ?aS ?aL ?_; (case aP => exact k64_mkM _ _ _ (⟨ji15, ji16⟩ : S64)); (case aB => exact (by repeat (first | (with_reducible first | exact HB.out | apply wA | apply wN | apply wD) | exact HB.out))); (case aF => exact (fun k_ hk => ⟨Kd.fresh' (Kd.Q_lt (by (with_reducible repeat (first | apply qA | apply qN | apply qD)); exact HO_0.out)) k_ hk, Kd.fresh' (Kd.Q_lt (by (with_reducible repeat (first | apply qA | apply qN | apply qD)); exact HO_1.out)) k_ hk⟩)); (case aO => exact (by (with_reducible repeat (first | apply rA | apply rN | apply rD)); exact HO_5.out)); (case aS => exact (below_size (by repeat (first | (with_reducible first | exact HB.out | apply wA | apply wN | apply wD) | exact HB.out)))); (case aL => have := LMc18.out; omega); intro v136 w23 ho hb hg hat; rw [← Ny135.out] at ho; have n0_ := Aside0.mk (Kd.Q_after (ok := (fun k_ => some k_ ≠ (.slice (some ad132) x1_1.length co22 : Value).ownBlock)) (by (with_reducible repeat (first | apply qA | apply qN | apply qD)); exact HO_0.out) hg hat); have n1_ := Aside0.mk (Kd.Q_after (ok := (fun k_ => some k_ ≠ (.slice (some ad131) x0_1.length co21 : Value).ownBlock)) (by (with_reducible repeat (first | apply qA | apply qN | apply qD)); exact HO_1.out) hg hat); have n2_ := Aside0.mk (hb); have n3_ := Aside0.mk (ho); clear HO_0; clear HO_1; clear HB; clear HO_5; have HO_0 := n0_; have HO_1 := n1_; have HB := n2_; have HO137 := n3_; clear n0_ n1_ n2_ n3_; clear ho hb hg hat; have p138 : 0 ≤ (0 : Int) := (by omega); have q138 : 0 < (x0_1.length : Int) := of_decide_eq_true (by first | (with_reducible assumption) | assumption); obtain ⟨ad138, e138, hx138_0, hx138_1⟩ := at_T64 (Kd.Q_reads' HO_0.out).2.2 0 p138 q138; obtain rfl : ad131 = ad138 := (by injection e138); have qi138 : (0 < x0_1.length) = True := eq_true (by omega); (try rw [show ((0 : Int)).toNat = 0 from rfl] at hx138_0); (try rw [show 0 * 2 = 0 from rfl] at hx138_0); (try rw [Addr.add_zero'] at hx138_0); (try rw [show ((0 : Int)).toNat = 0 from rfl] at hx138_1); (try rw [show 0 * 2 = 0 from rfl] at hx138_1); (try rw [Addr.add_zero'] at hx138_1); replace p138 := eq_true p138; replace q138 := eq_true q138; have p139 : 0 ≤ (0 : Int) := (by omega); have q139 : 0 < (x1_1.length : Int) := of_decide_eq_true (by first | (with_reducible assumption) | assumption); obtain ⟨ad139, e139, hx139_0, hx139_1⟩ := at_T64 (Kd.Q_reads' HO_1.out).2.2 0 p139 q139; obtain rfl : ad132 = ad139 := (by injection e139); have qi139 : (0 < x1_1.length) = True := eq_true (by omega); (try rw [show ((0 : Int)).toNat = 0 from rfl] at hx139_0); (try rw [show 0 * 2 = 0 from rfl] at hx139_0); (try rw [Addr.add_zero'] at hx139_0); (try rw [show ((0 : Int)).toNat = 0 from rfl] at hx139_1); (try rw [show 0 * 2 = 0 from rfl] at hx139_1); (try rw [Addr.add_zero'] at hx139_1); replace p139 := eq_true p139; replace q139 := eq_true q139; have q24 : (1 : Int) ≤ ((x0_1.length : Int) : Int) := of_decide_eq_true (by first | (with_reducible assumption) | assumption); obtain ⟨i024, hi024, _, hsz24, _⟩ := info_parts info64; have hcut24 := cut_from (P := Tryz.prog) 35 39 .i64 Tryz.underlying35 hi024 2 hsz24 (some ad131) x0_1.length co21 1 (by omega) q24; have hr24 := Kd.Q_drop (k := (1 : Int).toNat) HO_0.out (by omega); obtain ⟨A24, hA24⟩ : ∃ A1, A1 = (if co21 = (1 : Int).toNat then (some ad131) else ((some ad131) : Option Addr).map (·.add ((1 : Int).toNat * 2))) := ⟨_, rfl⟩; obtain ⟨c24, hc24⟩ : ∃ c1, c1 = co21 - (1 : Int).toNat := ⟨_, rfl⟩; have hy24 : y140.length = x0_1.length - (1 : Int).toNat := (by rw [Ny140.out, List.length_drop]); rw [← Ny140.out] at hr24; rw [← hy24, ← hA24, ← hc24] at hcut24; replace hr24 : Kd.Q k64 39 w23 w.heap.size (fun k_ => some k_ ≠ (.slice (some ad132) x1_1.length co22 : Value).ownBlock ∧ some k_ ≠ (v136 : Value).ownBlock) (.slice A24 y140.length c24) y140 := (by rw [hA24, hc24, hy24]; exact hr24); have HE24 : Aside0 ((Value.slice A24 y140.length c24).ownBlock = (.slice (some ad131) x0_1.length co21 : Value).ownBlock) := ⟨by rw [hA24]; split <;> (cases ((some ad131) : Option Addr) <;> rfl)⟩; clear hy24 hi024 hsz24 HO_0 hA24 hc24; have HO142 := Aside0.mk hr24; clear hr24; replace q24 := eq_true q24; have n_ := Aside0.mk (Kd.Q_mono (ok' := fun k_ => (some k_ ≠ (.slice A24 y140.length c24 : Value).ownBlock ∧ some k_ ≠ (v136 : Value).ownBlock)) HO_1.out (fun k_ hk => ⟨(by rw [HE24.out]; exact hk.1), hk.2⟩)); clear HO_1; have HO_1 := n_; clear n_; have n_ := Aside0.mk (Kd.R_mono (ok' := fun k_ => (some k_ ≠ (.slice A24 y140.length c24 : Value).ownBlock ∧ some k_ ≠ (.slice (some ad132) x1_1.length co22 : Value).ownBlock)) HO137.out (fun k_ hk => ⟨(by rw [HE24.out]; exact hk.1), hk.2⟩)); clear HO137; have HO137 := n_; clear n_))
            repeat (go_quiet (first | ((with_reducible refine gate_builtin (b := .append) (xs := #[.tmp 41, .tmp 45]) rfl ?_); (try (refine gate_guard (by rfl) ?_; dsimp only)); at_builtin; refine Kd.R_append k64 (w0 := w) w.heap.size rfl (.tmp 41) (.tmp 45) 35 39 (.agg #[(.int .i64 0), (.int .i64 0)]) 16 rfl Tryz.underlying35 info64 rfl (by decide) (by omega) u5 x5_1 (⟨ji15, ji16⟩ : S64) [.int .i64 ji15, .int .i64 ji16] (fun k_ => some k_ ≠ (.slice (some ad131) x0_1.length co21 : Value).ownBlock ∧ some k_ ≠ (.slice (some ad132) x1_1.length co22 : Value).ownBlock) (fun _ => False) rfl rfl ?aP (fun _ hk => hk.elim) ?aF ?aO ?aB ?aS ?aL ?_; (case aP => exact k64_mkM _ _ _ (⟨ji15, ji16⟩ : S64)); (case aB => exact (by repeat (first | (with_reducible first | exact HB.out | apply wA | apply wN | apply wD) | exact HB.out))); (case aF => exact (fun k_ hk => ⟨Kd.fresh' (Kd.Q_lt (by (with_reducible repeat (first | apply qA | apply qN | apply qD)); exact HO_0.out)) k_ hk, Kd.fresh' (Kd.Q_lt (by (with_reducible repeat (first | apply qA | apply qN | apply qD)); exact HO_1.out)) k_ hk⟩)); (case aO => exact (by (with_reducible repeat (first | apply rA | apply rN | apply rD)); exact HO_5.out)); (case aS => exact (below_size (by repeat (first | (with_reducible first | exact HB.out | apply wA | apply wN | apply wD) | exact HB.out)))); (case aL => have := LMc18.out; omega); intro v136 w23 ho hb hg hat; rw [← Ny135.out] at ho; have n0_ := Aside0.mk (Kd.Q_after (ok := (fun k_ => some k_ ≠ (.slice (some ad132) x1_1.length co22 : Value).ownBlock)) (by (with_reducible repeat (first | apply qA | apply qN | apply qD)); exact HO_0.out) hg hat); have n1_ := Aside0.mk (Kd.Q_after (ok := (fun k_ => some k_ ≠ (.slice (some ad131) x0_1.length co21 : Value).ownBlock)) (by (with_reducible repeat (first | apply qA | apply qN | apply qD)); exact HO_1.out) hg hat); have n2_ := Aside0.mk (hb); have n3_ := Aside0.mk (ho); clear HO_0; clear HO_1; clear HB; clear HO_5; have HO_0 := n0_; have HO_1 := n1_; have HB := n2_; have HO137 := n3_; clear n0_ n1_ n2_ n3_; clear ho hb hg hat; have p138 : 0 ≤ (0 : Int) := (by omega); have q138 : 0 < (x0_1.length : Int) := of_decide_eq_true (by first | (with_reducible assumption) | assumption); obtain ⟨ad138, e138, hx138_0, hx138_1⟩ := at_T64 (Kd.Q_reads' HO_0.out).2.2 0 p138 q138; obtain rfl : ad131 = ad138 := (by injection e138); have qi138 : (0 < x0_1.length) = True := eq_true (by omega); (try rw [show ((0 : Int)).toNat = 0 from rfl] at hx138_0); (try rw [show 0 * 2 = 0 from rfl] at hx138_0); (try rw [Addr.add_zero'] at hx138_0); (try rw [show ((0 : Int)).toNat = 0 from rfl] at hx138_1); (try rw [show 0 * 2 = 0 from rfl] at hx138_1); (try rw [Addr.add_zero'] at hx138_1); replace p138 := eq_true p138; replace q138 := eq_true q138; have p139 : 0 ≤ (0 : Int) := (by omega); have q139 : 0 < (x1_1.length : Int) := of_decide_eq_true (by first | (with_reducible assumption) | assumption); obtain ⟨ad139, e139, hx139_0, hx139_1⟩ := at_T64 (Kd.Q_reads' HO_1.out).2.2 0 p139 q139; obtain rfl : ad132 = ad139 := (by injection e139); have qi139 : (0 < x1_1.length) = True := eq_true (by omega); (try rw [show ((0 : Int)).toNat = 0 from rfl] at hx139_0); (try rw [show 0 * 2 = 0 from rfl] at hx139_0); (try rw [Addr.add_zero'] at hx139_0); (try rw [show ((0 : Int)).toNat = 0 from rfl] at hx139_1); (try rw [show 0 * 2 = 0 from rfl] at hx139_1); (try rw [Addr.add_zero'] at hx139_1); replace p139 := eq_true p139; replace q139 := eq_true q139; have q24 : (1 : Int) ≤ ((x0_1.length : Int) : Int) := of_decide_eq_true (by first | (with_reducible assumption) | assumption); obtain ⟨i024, hi024, _, hsz24, _⟩ := info_parts info64; have hcut24 := cut_from (P := Tryz.prog) 35 39 .i64 Tryz.underlying35 hi024 2 hsz24 (some ad131) x0_1.length co21 1 (by omega) q24; have hr24 := Kd.Q_drop (k := (1 : Int).toNat) HO_0.out (by omega); obtain ⟨A24, hA24⟩ : ∃ A1, A1 = (if co21 = (1 : Int).toNat then (some ad131) else ((some ad131) : Option Addr).map (·.add ((1 : Int).toNat * 2))) := ⟨_, rfl⟩; obtain ⟨c24, hc24⟩ : ∃ c1, c1 = co21 - (1 : Int).toNat := ⟨_, rfl⟩; have hy24 : y140.length = x0_1.length - (1 : Int).toNat := (by rw [Ny140.out, List.length_drop]); rw [← Ny140.out] at hr24; rw [← hy24, ← hA24, ← hc24] at hcut24; replace hr24 : Kd.Q k64 39 w23 w.heap.size (fun k_ => some k_ ≠ (.slice (some ad132) x1_1.length co22 : Value).ownBlock ∧ some k_ ≠ (v136 : Value).ownBlock) (.slice A24 y140.length c24) y140 := (by rw [hA24, hc24, hy24]; exact hr24); have HE24 : Aside0 ((Value.slice A24 y140.length c24).ownBlock = (.slice (some ad131) x0_1.length co21 : Value).ownBlock) := ⟨by rw [hA24]; split <;> (cases ((some ad131) : Option Addr) <;> rfl)⟩; clear hy24 hi024 hsz24 HO_0 hA24 hc24; have HO142 := Aside0.mk hr24; clear hr24; replace q24 := eq_true q24; have n_ := Aside0.mk (Kd.Q_mono (ok' := fun k_ => (some k_ ≠ (.slice A24 y140.length c24 : Value).ownBlock ∧ some k_ ≠ (v136 : Value).ownBlock)) HO_1.out (fun k_ hk => ⟨(by rw [HE24.out]; exact hk.1), hk.2⟩)); clear HO_1; have HO_1 := n_; clear n_; have n_ := Aside0.mk (Kd.R_mono (ok' := fun k_ => (some k_ ≠ (.slice A24 y140.length c24 : Value).ownBlock ∧ some k_ ≠ (.slice (some ad132) x1_1.length co22 : Value).ownBlock)) HO137.out (fun k_ hk => ⟨(by rw [HE24.out]; exact hk.1), hk.2⟩)); clear HO137; have HO137 := n_; clear n_)); try go_wp2_with (first | ((with_reducible refine gate_builtin (b := .append) (xs := #[.tmp 41, .tmp 45]) rfl ?_); (try (refine gate_guard (by rfl) ?_; dsimp only)); at_builtin; refine Kd.R_append k64 (w0 := w) w.heap.size rfl (.tmp 41) (.tmp 45) 35 39 (.agg #[(.int .i64 0), (.int .i64 0)]) 16 rfl Tryz.underlying35 info64 rfl (by decide) (by omega) u5 x5_1 (⟨ji15, ji16⟩ : S64) [.int .i64 ji15, .int .i64 ji16] (fun k_ => some k_ ≠ (.slice (some ad131) x0_1.length co21 : Value).ownBlock ∧ some k_ ≠ (.slice (some ad132) x1_1.length co22 : Value).ownBlock) (fun _ => False) rfl rfl ?aP (fun _ hk => hk.elim) ?aF ?aO ?aB ?aS ?aL ?_; (case aP => exact k64_mkM _ _ _ (⟨ji15, ji16⟩ : S64)); (case aB => exact (by repeat (first | (with_reducible first | exact HB.out | apply wA | apply wN | apply wD) | exact HB.out))); (case aF => exact (fun k_ hk => ⟨Kd.fresh' (Kd.Q_lt (by (with_reducible repeat (first | apply qA | apply qN | apply qD)); exact HO_0.out)) k_ hk, Kd.fresh' (Kd.Q_lt (by (with_reducible repeat (first | apply qA | apply qN | apply qD)); exact HO_1.out)) k_ hk⟩)); (case aO => exact (by (with_reducible repeat (first | apply rA | apply rN | apply rD)); exact HO_5.out)); (case aS => exact (below_size (by repeat (first | (with_reducible first | exact HB.out | apply wA | apply wN | apply wD) | exact HB.out)))); (case aL => have := LMc18.out; omega); intro v136 w23 ho hb hg hat; rw [← Ny135.out] at ho; have n0_ := Aside0.mk (Kd.Q_after (ok := (fun k_ => some k_ ≠ (.slice (some ad132) x1_1.length co22 : Value).ownBlock)) (by (with_reducible repeat (first | apply qA | apply qN | apply qD)); exact HO_0.out) hg hat); have n1_ := Aside0.mk (Kd.Q_after (ok := (fun k_ => some k_ ≠ (.slice (some ad131) x0_1.length co21 : Value).ownBlock)) (by (with_reducible repeat (first | apply qA | apply qN | apply qD)); exact HO_1.out) hg hat); have n2_ := Aside0.mk (hb); have n3_ := Aside0.mk (ho); clear HO_0; clear HO_1; clear HB; clear HO_5; have HO_0 := n0_; have HO_1 := n1_; have HB := n2_; have HO137 := n3_; clear n0_ n1_ n2_ n3_; clear ho hb hg hat; have p138 : 0 ≤ (0 : Int) := (by omega); have q138 : 0 < (x0_1.length : Int) := of_decide_eq_true (by first | (with_reducible assumption) | assumption); obtain ⟨ad138, e138, hx138_0, hx138_1⟩ := at_T64 (Kd.Q_reads' HO_0.out).2.2 0 p138 q138; obtain rfl : ad131 = ad138 := (by injection e138); have qi138 : (0 < x0_1.length) = True := eq_true (by omega); (try rw [show ((0 : Int)).toNat = 0 from rfl] at hx138_0); (try rw [show 0 * 2 = 0 from rfl] at hx138_0); (try rw [Addr.add_zero'] at hx138_0); (try rw [show ((0 : Int)).toNat = 0 from rfl] at hx138_1); (try rw [show 0 * 2 = 0 from rfl] at hx138_1); (try rw [Addr.add_zero'] at hx138_1); replace p138 := eq_true p138; replace q138 := eq_true q138; have p139 : 0 ≤ (0 : Int) := (by omega); have q139 : 0 < (x1_1.length : Int) := of_decide_eq_true (by first | (with_reducible assumption) | assumption); obtain ⟨ad139, e139, hx139_0, hx139_1⟩ := at_T64 (Kd.Q_reads' HO_1.out).2.2 0 p139 q139; obtain rfl : ad132 = ad139 := (by injection e139); have qi139 : (0 < x1_1.length) = True := eq_true (by omega); (try rw [show ((0 : Int)).toNat = 0 from rfl] at hx139_0); (try rw [show 0 * 2 = 0 from rfl] at hx139_0); (try rw [Addr.add_zero'] at hx139_0); (try rw [show ((0 : Int)).toNat = 0 from rfl] at hx139_1); (try rw [show 0 * 2 = 0 from rfl] at hx139_1); (try rw [Addr.add_zero'] at hx139_1); replace p139 := eq_true p139; replace q139 := eq_true q139; have q24 : (1 : Int) ≤ ((x0_1.length : Int) : Int) := of_decide_eq_true (by first | (with_reducible assumption) | assumption); obtain ⟨i024, hi024, _, hsz24, _⟩ := info_parts info64; have hcut24 := cut_from (P := Tryz.prog) 35 39 .i64 Tryz.underlying35 hi024 2 hsz24 (some ad131) x0_1.length co21 1 (by omega) q24; have hr24 := Kd.Q_drop (k := (1 : Int).toNat) HO_0.out (by omega); obtain ⟨A24, hA24⟩ : ∃ A1, A1 = (if co21 = (1 : Int).toNat then (some ad131) else ((some ad131) : Option Addr).map (·.add ((1 : Int).toNat * 2))) := ⟨_, rfl⟩; obtain ⟨c24, hc24⟩ : ∃ c1, c1 = co21 - (1 : Int).toNat := ⟨_, rfl⟩; have hy24 : y140.length = x0_1.length - (1 : Int).toNat := (by rw [Ny140.out, List.length_drop]); rw [← Ny140.out] at hr24; rw [← hy24, ← hA24, ← hc24] at hcut24; replace hr24 : Kd.Q k64 39 w23 w.heap.size (fun k_ => some k_ ≠ (.slice (some ad132) x1_1.length co22 : Value).ownBlock ∧ some k_ ≠ (v136 : Value).ownBlock) (.slice A24 y140.length c24) y140 := (by rw [hA24, hc24, hy24]; exact hr24); have HE24 : Aside0 ((Value.slice A24 y140.length c24).ownBlock = (.slice (some ad131) x0_1.length co21 : Value).ownBlock) := ⟨by rw [hA24]; split <;> (cases ((some ad131) : Option Addr) <;> rfl)⟩; clear hy24 hi024 hsz24 HO_0 hA24 hc24; have HO142 := Aside0.mk hr24; clear hr24; replace q24 := eq_true q24; have n_ := Aside0.mk (Kd.Q_mono (ok' := fun k_ => (some k_ ≠ (.slice A24 y140.length c24 : Value).ownBlock ∧ some k_ ≠ (v136 : Value).ownBlock)) HO_1.out (fun k_ hk => ⟨(by rw [HE24.out]; exact hk.1), hk.2⟩)); clear HO_1; have HO_1 := n_; clear n_; have n_ := Aside0.mk (Kd.R_mono (ok' := fun k_ => (some k_ ≠ (.slice A24 y140.length c24 : Value).ownBlock ∧ some k_ ≠ (.slice (some ad132) x1_1.length co22 : Value).ownBlock)) HO137.out (fun k_ hk => ⟨(by rw [HE24.out]; exact hk.1), hk.2⟩)); clear HO137; have HO137 := n_; clear n_)))
            go_roundg kj6
            case measure => have := HK1.out; have := HJ6.out; omega
            case rel => exact ⟨(y140), (x1_1), (y135), H', ⟨by have := HK1.out; have := HJ6.out; omega⟩, ⟨by (with_reducible repeat (first | apply qA | apply qN | apply qD)); exact HO142.out⟩, ⟨by (with_reducible repeat (first | apply qA | apply qN | apply qD)); exact HO_1.out⟩, ⟨by (with_reducible repeat (first | apply rA | apply rN | apply rD)); exact HO137.out⟩, ⟨by repeat (first | (with_reducible first | exact HB.out | apply wA | apply wN | apply wD) | exact HB.out)⟩⟩
           ·rw [if_neg c20] at H
            exact absurd H (by simp)
          ·rw [if_neg c19] at H
           have c19b0 : decide (((rd_T64 x0_1 0).f1) < ((rd_T64 x1_1 0).f1)) = false := decide_eq_false c19
           clear c19
           by_cases c25 : 1 ≤ (x1_1.length : Int)
           ·rw [if_pos c25] at H
            have c25b0 := eq_true c25
            have c25b1 : decide (1 ≤ (x1_1.length : Int)) = true := decide_eq_true c25
            clear c25
            obtain ⟨y143, hy143⟩ : ∃ y_ : List (S64), y_ = (x1_1.drop (1 : Int).toNat) := ⟨_, rfl⟩
            replace H : (classes_And.l0 kj6 x0_1 y143 y135) = some r := by first | (rw [hy143]; with_reducible exact H) | (have H2_ := (Option.bind_some _ _).symm.trans H; rw [hy143]; with_reducible exact H2_) | (have H2_ := (Option.bind_some _ _).symm.trans H; with_reducible exact H2_) | with_reducible exact H | (rw [hy143]; exact H) | exact H
            have Ny143 := Aside0.mk hy143
            clear hy143
            have H' := Aside0.mk H
            clear H
            obtain ⟨Ao26, co26, eo26, _⟩ := Kd.Q_slice HO_0.out
            subst eo26
            have p131 : 0 ≤ (0 : Int) := (by omega)
            have q131 : 0 < (x0_1.length : Int) := of_decide_eq_true (by first | (with_reducible assumption) | assumption)
            obtain ⟨ad131, e131, hx131_0, hx131_1⟩ := at_T64 (Kd.Q_reads' HO_0.out).2.2 0 p131 q131
            cases e131
            have qi131 : (0 < x0_1.length) = True := eq_true (by omega)
            (try rw [show ((0 : Int)).toNat = 0 from rfl] at hx131_0)
            (try rw [show 0 * 2 = 0 from rfl] at hx131_0)
            (try rw [Addr.add_zero'] at hx131_0)
            (try rw [show ((0 : Int)).toNat = 0 from rfl] at hx131_1)
            (try rw [show 0 * 2 = 0 from rfl] at hx131_1)
            (try rw [Addr.add_zero'] at hx131_1)
            replace p131 := eq_true p131
            replace q131 := eq_true q131
            obtain ⟨Ao27, co27, eo27, _⟩ := Kd.Q_slice HO_1.out
            subst eo27
            have p132 : 0 ≤ (0 : Int) := (by omega)
            have q132 : 0 < (x1_1.length : Int) := of_decide_eq_true (by first | (with_reducible assumption) | assumption)
            obtain ⟨ad132, e132, hx132_0, hx132_1⟩ := at_T64 (Kd.Q_reads' HO_1.out).2.2 0 p132 q132
            cases e132
            have qi132 : (0 < x1_1.length) = True := eq_true (by omega)
            (try rw [show ((0 : Int)).toNat = 0 from rfl] at hx132_0)
            (try rw [show 0 * 2 = 0 from rfl] at hx132_0)
            (try rw [Addr.add_zero'] at hx132_0)
            (try rw [show ((0 : Int)).toNat = 0 from rfl] at hx132_1)
            (try rw [show 0 * 2 = 0 from rfl] at hx132_1)
            (try rw [Addr.add_zero'] at hx132_1)
            replace p132 := eq_true p132
            replace q132 := eq_true q132
            have p133 : 0 ≤ (0 : Int) := (by omega)
            have q133 : 0 < (x0_1.length : Int) := of_decide_eq_true (by first | (with_reducible assumption) | assumption)
            obtain ⟨ad133, e133, hx133_0, hx133_1⟩ := at_T64 (Kd.Q_reads' HO_0.out).2.2 0 p133 q133
            obtain rfl : ad131 = ad133 := (by injection e133)
            have qi133 : (0 < x0_1.length) = True := eq_true (by omega)
            (try rw [show ((0 : Int)).toNat = 0 from rfl] at hx133_0)
            (try rw [show 0 * 2 = 0 from rfl] at hx133_0)
            (try rw [Addr.add_zero'] at hx133_0)
            (try rw [show ((0 : Int)).toNat = 0 from rfl] at hx133_1)
            (try rw [show 0 * 2 = 0 from rfl] at hx133_1)
            (try rw [Addr.add_zero'] at hx133_1)
            replace p133 := eq_true p133
            replace q133 := eq_true q133
            have p134 : 0 ≤ (0 : Int) := (by omega)
            have q134 : 0 < (x1_1.length : Int) := of_decide_eq_true (by first | (with_reducible assumption) | assumption)
            obtain ⟨ad134, e134, hx134_0, hx134_1⟩ := at_T64 (Kd.Q_reads' HO_1.out).2.2 0 p134 q134
            obtain rfl : ad132 = ad134 := (by injection e134)
            have qi134 : (0 < x1_1.length) = True := eq_true (by omega)
            (try rw [show ((0 : Int)).toNat = 0 from rfl] at hx134_0)
            (try rw [show 0 * 2 = 0 from rfl] at hx134_0)
            (try rw [Addr.add_zero'] at hx134_0)
            (try rw [show ((0 : Int)).toNat = 0 from rfl] at hx134_1)
            (try rw [show 0 * 2 = 0 from rfl] at hx134_1)
            (try rw [Addr.add_zero'] at hx134_1)
            replace p134 := eq_true p134
            replace q134 := eq_true q134
            go_wp2_with (first | ((with_reducible refine gate_builtin (b := .append) (xs := #[.tmp 41, .tmp 45]) rfl ?_); (try (refine gate_guard (by rfl) ?_; dsimp only)); at_builtin; refine Kd.R_append k64 (w0 := w) w.heap.size rfl (.tmp 41) (.tmp 45) 35 39 (.agg #[(.int .i64 0), (.int .i64 0)]) 16 rfl Tryz.underlying35 info64 rfl (by decide) (by omega) u5 x5_1 (⟨ji15, ji16⟩ : S64) [.int .i64 ji15, .int .i64 ji16] (fun k_ => some k_ ≠ (.slice (some ad131) x0_1.length co26 : Value).ownBlock ∧ some k_ ≠ (.slice (some ad132) x1_1.length co27 : Value).ownBlock) (fun _ => False) rfl rfl ?aP (fun _ hk => hk.elim) ?aF ?aO ?aB ?aS ?aL ?_; (case aP => exact k64_mkM _ _ _ (⟨ji15, ji16⟩ : S64)); (case aB => exact (by repeat (first | (with_reducible first | exact HB.out | apply wA | apply wN | apply wD) | exact HB.out))); (case aF => exact (fun k_ hk => ⟨Kd.fresh' (Kd.Q_lt (by (with_reducible repeat (first | apply qA | apply qN | apply qD)); exact HO_0.out)) k_ hk, Kd.fresh' (Kd.Q_lt (by (with_reducible repeat (first | apply qA | apply qN | apply qD)); exact HO_1.out)) k_ hk⟩)); (case aO => exact (by (with_reducible repeat (first | apply rA | apply rN | apply rD)); exact HO_5.out)); (case aS => exact (below_size (by repeat (first | (with_reducible first | exact HB.out | apply wA | apply wN | apply wD) | exact HB.out)))); (case aL => have := LMc18.out; omega); intro v136 w28 ho hb hg hat; rw [← Ny135.out] at ho; have n0_ := Aside0.mk (Kd.Q_after (ok := (fun k_ => some k_ ≠ (.slice (some ad132) x1_1.length co27 : Value).ownBlock)) (by (with_reducible repeat (first | apply qA | apply qN | apply qD)); exact HO_0.out) hg hat); have n1_ := Aside0.mk (Kd.Q_after (ok := (fun k_ => some k_ ≠ (.slice (some ad131) x0_1.length co26 : Value).ownBlock)) (by (with_reducible repeat (first | apply qA | apply qN | apply qD)); exact HO_1.out) hg hat); have n2_ := Aside0.mk (hb); have n3_ := Aside0.mk (ho); clear HO_0; clear HO_1; clear HB; clear HO_5; have HO_0 := n0_; have HO_1 := n1_; have HB := n2_; have HO137 := n3_; clear n0_ n1_ n2_ n3_; clear ho hb hg hat; have p138 : 0 ≤ (0 : Int) := (by omega); have q138 : 0 < (x0_1.length : Int) := of_decide_eq_true (by first | (with_reducible assumption) | assumption); obtain ⟨ad138, e138, hx138_0, hx138_1⟩ := at_T64 (Kd.Q_reads' HO_0.out).2.2 0 p138 q138; obtain rfl : ad131 = ad138 := (by injection e138); have qi138 : (0 < x0_1.length) = True := eq_true (by omega); (try rw [show ((0 : Int)).toNat = 0 from rfl] at hx138_0); (try rw [show 0 * 2 = 0 from rfl] at hx138_0); (try rw [Addr.add_zero'] at hx138_0); (try rw [show ((0 : Int)).toNat = 0 from rfl] at hx138_1); (try rw [show 0 * 2 = 0 from rfl] at hx138_1); (try rw [Addr.add_zero'] at hx138_1); replace p138 := eq_true p138; replace q138 := eq_true q138; have p139 : 0 ≤ (0 : Int) := (by omega); have q139 : 0 < (x1_1.length : Int) := of_decide_eq_true (by first | (with_reducible assumption) | assumption); obtain ⟨ad139, e139, hx139_0, hx139_1⟩ := at_T64 (Kd.Q_reads' HO_1.out).2.2 0 p139 q139; obtain rfl : ad132 = ad139 := (by injection e139); have qi139 : (0 < x1_1.length) = True := eq_true (by omega); (try rw [show ((0 : Int)).toNat = 0 from rfl] at hx139_0); (try rw [show 0 * 2 = 0 from rfl] at hx139_0); (try rw [Addr.add_zero'] at hx139_0); (try rw [show ((0 : Int)).toNat = 0 from rfl] at hx139_1); (try rw [show 0 * 2 = 0 from rfl] at hx139_1); (try rw [Addr.add_zero'] at hx139_1); replace p139 := eq_true p139; replace q139 := eq_true q139; have q29 : (1 : Int) ≤ ((x1_1.length : Int) : Int) := of_decide_eq_true (by first | (with_reducible assumption) | assumption); obtain ⟨i029, hi029, _, hsz29, _⟩ := info_parts info64; have hcut29 := cut_from (P := Tryz.prog) 35 39 .i64 Tryz.underlying35 hi029 2 hsz29 (some ad132) x1_1.length co27 1 (by omega) q29; have hr29 := Kd.Q_drop (k := (1 : Int).toNat) HO_1.out (by omega); obtain ⟨A29, hA29⟩ : ∃ A1, A1 = (if co27 = (1 : Int).toNat then (some ad132) else ((some ad132) : Option Addr).map (·.add ((1 : Int).toNat * 2))) := ⟨_, rfl⟩; obtain ⟨c29, hc29⟩ : ∃ c1, c1 = co27 - (1 : Int).toNat := ⟨_, rfl⟩; have hy29 : y143.length = x1_1.length - (1 : Int).toNat := (by rw [Ny143.out, List.length_drop]); rw [← Ny143.out] at hr29; rw [← hy29, ← hA29, ← hc29] at hcut29; replace hr29 : Kd.Q k64 39 w28 w.heap.size (fun k_ => some k_ ≠ (.slice (some ad131) x0_1.length co26 : Value).ownBlock ∧ some k_ ≠ (v136 : Value).ownBlock) (.slice A29 y143.length c29) y143 := (by rw [hA29, hc29, hy29]; exact hr29); have HE29 : Aside0 ((Value.slice A29 y143.length c29).ownBlock = (.slice (some ad132) x1_1.length co27 : Value).ownBlock) := ⟨by rw [hA29]; split <;> (cases ((some ad132) : Option Addr) <;> rfl)⟩; clear hy29 hi029 hsz29 HO_1 hA29 hc29; have HO145 := Aside0.mk hr29; clear hr29; replace q29 := eq_true q29; have n_ := Aside0.mk (Kd.Q_mono (ok' := fun k_ => (some k_ ≠ (.slice A29 y143.length c29 : Value).ownBlock ∧ some k_ ≠ (v136 : Value).ownBlock)) HO_0.out (fun k_ hk => ⟨(by rw [HE29.out]; exact hk.1), hk.2⟩)); clear HO_0; have HO_0 := n_; clear n_; have n_ := Aside0.mk (Kd.R_mono (ok' := fun k_ => (some k_ ≠ (.slice (some ad131) x0_1.length co26 : Value).ownBlock ∧ some k_ ≠ (.slice A29 y143.length c29 : Value).ownBlock)) HO137.out (fun k_ hk => ⟨hk.1, (by rw [HE29.out]; exact hk.2)⟩)); clear HO137; have HO137 := n_; clear n_))
            repeat (go_quiet (first | ((with_reducible refine gate_builtin (b := .append) (xs := #[.tmp 41, .tmp 45]) rfl ?_); (try (refine gate_guard (by rfl) ?_; dsimp only)); at_builtin; refine Kd.R_append k64 (w0 := w) w.heap.size rfl (.tmp 41) (.tmp 45) 35 39 (.agg #[(.int .i64 0), (.int .i64 0)]) 16 rfl Tryz.underlying35 info64 rfl (by decide) (by omega) u5 x5_1 (⟨ji15, ji16⟩ : S64) [.int .i64 ji15, .int .i64 ji16] (fun k_ => some k_ ≠ (.slice (some ad131) x0_1.length co26 : Value).ownBlock ∧ some k_ ≠ (.slice (some ad132) x1_1.length co27 : Value).ownBlock) (fun _ => False) rfl rfl ?aP (fun _ hk => hk.elim) ?aF ?aO ?aB ?aS ?aL ?_; (case aP => exact k64_mkM _ _ _ (⟨ji15, ji16⟩ : S64)); (case aB => exact (by repeat (first | (with_reducible first | exact HB.out | apply wA | apply wN | apply wD) | exact HB.out))); (case aF => exact (fun k_ hk => ⟨Kd.fresh' (Kd.Q_lt (by (with_reducible repeat (first | apply qA | apply qN | apply qD)); exact HO_0.out)) k_ hk, Kd.fresh' (Kd.Q_lt (by (with_reducible repeat (first | apply qA | apply qN | apply qD)); exact HO_1.out)) k_ hk⟩)); (case aO => exact (by (with_reducible repeat (first | apply rA | apply rN | apply rD)); exact HO_5.out)); (case aS => exact (below_size (by repeat (first | (with_reducible first | exact HB.out | apply wA | apply wN | apply wD) | exact HB.out)))); (case aL => have := LMc18.out; omega); intro v136 w28 ho hb hg hat; rw [← Ny135.out] at ho; have n0_ := Aside0.mk (Kd.Q_after (ok := (fun k_ => some k_ ≠ (.slice (some ad132) x1_1.length co27 : Value).ownBlock)) (by (with_reducible repeat (first | apply qA | apply qN | apply qD)); exact HO_0.out) hg hat); have n1_ := Aside0.mk (Kd.Q_after (ok := (fun k_ => some k_ ≠ (.slice (some ad131) x0_1.length co26 : Value).ownBlock)) (by (with_reducible repeat (first | apply qA | apply qN | apply qD)); exact HO_1.out) hg hat); have n2_ := Aside0.mk (hb); have n3_ := Aside0.mk (ho); clear HO_0; clear HO_1; clear HB; clear HO_5; have HO_0 := n0_; have HO_1 := n1_; have HB := n2_; have HO137 := n3_; clear n0_ n1_ n2_ n3_; clear ho hb hg hat; have p138 : 0 ≤ (0 : Int) := (by omega); have q138 : 0 < (x0_1.length : Int) := of_decide_eq_true (by first | (with_reducible assumption) | assumption); obtain ⟨ad138, e138, hx138_0, hx138_1⟩ := at_T64 (Kd.Q_reads' HO_0.out).2.2 0 p138 q138; obtain rfl : ad131 = ad138 := (by injection e138); have qi138 : (0 < x0_1.length) = True := eq_true (by omega); (try rw [show ((0 : Int)).toNat = 0 from rfl] at hx138_0); (try rw [show 0 * 2 = 0 from rfl] at hx138_0); (try rw [Addr.add_zero'] at hx138_0); (try rw [show ((0 : Int)).toNat = 0 from rfl] at hx138_1); (try rw [show 0 * 2 = 0 from rfl] at hx138_1); (try rw [Addr.add_zero'] at hx138_1); replace p138 := eq_true p138; replace q138 := eq_true q138; have p139 : 0 ≤ (0 : Int) := (by omega); have q139 : 0 < (x1_1.length : Int) := of_decide_eq_true (by first | (with_reducible assumption) | assumption); obtain ⟨ad139, e139, hx139_0, hx139_1⟩ := at_T64 (Kd.Q_reads' HO_1.out).2.2 0 p139 q139; obtain rfl : ad132 = ad139 := (by injection e139); have qi139 : (0 < x1_1.length) = True := eq_true (by omega); (try rw [show ((0 : Int)).toNat = 0 from rfl] at hx139_0); (try rw [show 0 * 2 = 0 from rfl] at hx139_0); (try rw [Addr.add_zero'] at hx139_0); (try rw [show ((0 : Int)).toNat = 0 from rfl] at hx139_1); (try rw [show 0 * 2 = 0 from rfl] at hx139_1); (try rw [Addr.add_zero'] at hx139_1); replace p139 := eq_true p139; replace q139 := eq_true q139; have q29 : (1 : Int) ≤ ((x1_1.length : Int) : Int) := of_decide_eq_true (by first | (with_reducible assumption) | assumption); obtain ⟨i029, hi029, _, hsz29, _⟩ := info_parts info64; have hcut29 := cut_from (P := Tryz.prog) 35 39 .i64 Tryz.underlying35 hi029 2 hsz29 (some ad132) x1_1.length co27 1 (by omega) q29; have hr29 := Kd.Q_drop (k := (1 : Int).toNat) HO_1.out (by omega); obtain ⟨A29, hA29⟩ : ∃ A1, A1 = (if co27 = (1 : Int).toNat then (some ad132) else ((some ad132) : Option Addr).map (·.add ((1 : Int).toNat * 2))) := ⟨_, rfl⟩; obtain ⟨c29, hc29⟩ : ∃ c1, c1 = co27 - (1 : Int).toNat := ⟨_, rfl⟩; have hy29 : y143.length = x1_1.length - (1 : Int).toNat := (by rw [Ny143.out, List.length_drop]); rw [← Ny143.out] at hr29; rw [← hy29, ← hA29, ← hc29] at hcut29; replace hr29 : Kd.Q k64 39 w28 w.heap.size (fun k_ => some k_ ≠ (.slice (some ad131) x0_1.length co26 : Value).ownBlock ∧ some k_ ≠ (v136 : Value).ownBlock) (.slice A29 y143.length c29) y143 := (by rw [hA29, hc29, hy29]; exact hr29); have HE29 : Aside0 ((Value.slice A29 y143.length c29).ownBlock = (.slice (some ad132) x1_1.length co27 : Value).ownBlock) := ⟨by rw [hA29]; split <;> (cases ((some ad132) : Option Addr) <;> rfl)⟩; clear hy29 hi029 hsz29 HO_1 hA29 hc29; have HO145 := Aside0.mk hr29; clear hr29; replace q29 := eq_true q29; have n_ := Aside0.mk (Kd.Q_mono (ok' := fun k_ => (some k_ ≠ (.slice A29 y143.length c29 : Value).ownBlock ∧ some k_ ≠ (v136 : Value).ownBlock)) HO_0.out (fun k_ hk => ⟨(by rw [HE29.out]; exact hk.1), hk.2⟩)); clear HO_0; have HO_0 := n_; clear n_; have n_ := Aside0.mk (Kd.R_mono (ok' := fun k_ => (some k_ ≠ (.slice (some ad131) x0_1.length co26 : Value).ownBlock ∧ some k_ ≠ (.slice A29 y143.length c29 : Value).ownBlock)) HO137.out (fun k_ hk => ⟨hk.1, (by rw [HE29.out]; exact hk.2)⟩)); clear HO137; have HO137 := n_; clear n_)); try go_wp2_with (first | ((with_reducible refine gate_builtin (b := .append) (xs := #[.tmp 41, .tmp 45]) rfl ?_); (try (refine gate_guard (by rfl) ?_; dsimp only)); at_builtin; refine Kd.R_append k64 (w0 := w) w.heap.size rfl (.tmp 41) (.tmp 45) 35 39 (.agg #[(.int .i64 0), (.int .i64 0)]) 16 rfl Tryz.underlying35 info64 rfl (by decide) (by omega) u5 x5_1 (⟨ji15, ji16⟩ : S64) [.int .i64 ji15, .int .i64 ji16] (fun k_ => some k_ ≠ (.slice (some ad131) x0_1.length co26 : Value).ownBlock ∧ some k_ ≠ (.slice (some ad132) x1_1.length co27 : Value).ownBlock) (fun _ => False) rfl rfl ?aP (fun _ hk => hk.elim) ?aF ?aO ?aB ?aS ?aL ?_; (case aP => exact k64_mkM _ _ _ (⟨ji15, ji16⟩ : S64)); (case aB => exact (by repeat (first | (with_reducible first | exact HB.out | apply wA | apply wN | apply wD) | exact HB.out))); (case aF => exact (fun k_ hk => ⟨Kd.fresh' (Kd.Q_lt (by (with_reducible repeat (first | apply qA | apply qN | apply qD)); exact HO_0.out)) k_ hk, Kd.fresh' (Kd.Q_lt (by (with_reducible repeat (first | apply qA | apply qN | apply qD)); exact HO_1.out)) k_ hk⟩)); (case aO => exact (by (with_reducible repeat (first | apply rA | apply rN | apply rD)); exact HO_5.out)); (case aS => exact (below_size (by repeat (first | (with_reducible first | exact HB.out | apply wA | apply wN | apply wD) | exact HB.out)))); (case aL => have := LMc18.out; omega); intro v136 w28 ho hb hg hat; rw [← Ny135.out] at ho; have n0_ := Aside0.mk (Kd.Q_after (ok := (fun k_ => some k_ ≠ (.slice (some ad132) x1_1.length co27 : Value).ownBlock)) (by (with_reducible repeat (first | apply qA | apply qN | apply qD)); exact HO_0.out) hg hat); have n1_ := Aside0.mk (Kd.Q_after (ok := (fun k_ => some k_ ≠ (.slice (some ad131) x0_1.length co26 : Value).ownBlock)) (by (with_reducible repeat (first | apply qA | apply qN | apply qD)); exact HO_1.out) hg hat); have n2_ := Aside0.mk (hb); have n3_ := Aside0.mk (ho); clear HO_0; clear HO_1; clear HB; clear HO_5; have HO_0 := n0_; have HO_1 := n1_; have HB := n2_; have HO137 := n3_; clear n0_ n1_ n2_ n3_; clear ho hb hg hat; have p138 : 0 ≤ (0 : Int) := (by omega); have q138 : 0 < (x0_1.length : Int) := of_decide_eq_true (by first | (with_reducible assumption) | assumption); obtain ⟨ad138, e138, hx138_0, hx138_1⟩ := at_T64 (Kd.Q_reads' HO_0.out).2.2 0 p138 q138; obtain rfl : ad131 = ad138 := (by injection e138); have qi138 : (0 < x0_1.length) = True := eq_true (by omega); (try rw [show ((0 : Int)).toNat = 0 from rfl] at hx138_0); (try rw [show 0 * 2 = 0 from rfl] at hx138_0); (try rw [Addr.add_zero'] at hx138_0); (try rw [show ((0 : Int)).toNat = 0 from rfl] at hx138_1); (try rw [show 0 * 2 = 0 from rfl] at hx138_1); (try rw [Addr.add_zero'] at hx138_1); replace p138 := eq_true p138; replace q138 := eq_true q138; have p139 : 0 ≤ (0 : Int) := (by omega); have q139 : 0 < (x1_1.length : Int) := of_decide_eq_true (by first | (with_reducible assumption) | assumption); obtain ⟨ad139, e139, hx139_0, hx139_1⟩ := at_T64 (Kd.Q_reads' HO_1.out).2.2 0 p139 q139; obtain rfl : ad132 = ad139 := (by injection e139); have qi139 : (0 < x1_1.length) = True := eq_true (by omega); (try rw [show ((0 : Int)).toNat = 0 from rfl] at hx139_0); (try rw [show 0 * 2 = 0 from rfl] at hx139_0); (try rw [Addr.add_zero'] at hx139_0); (try rw [show ((0 : Int)).toNat = 0 from rfl] at hx139_1); (try rw [show 0 * 2 = 0 from rfl] at hx139_1); (try rw [Addr.add_zero'] at hx139_1); replace p139 := eq_true p139; replace q139 := eq_true q139; have q29 : (1 : Int) ≤ ((x1_1.length : Int) : Int) := of_decide_eq_true (by first | (with_reducible assumption) | assumption); obtain ⟨i029, hi029, _, hsz29, _⟩ := info_parts info64; have hcut29 := cut_from (P := Tryz.prog) 35 39 .i64 Tryz.underlying35 hi029 2 hsz29 (some ad132) x1_1.length co27 1 (by omega) q29; have hr29 := Kd.Q_drop (k := (1 : Int).toNat) HO_1.out (by omega); obtain ⟨A29, hA29⟩ : ∃ A1, A1 = (if co27 = (1 : Int).toNat then (some ad132) else ((some ad132) : Option Addr).map (·.add ((1 : Int).toNat * 2))) := ⟨_, rfl⟩; obtain ⟨c29, hc29⟩ : ∃ c1, c1 = co27 - (1 : Int).toNat := ⟨_, rfl⟩; have hy29 : y143.length = x1_1.length - (1 : Int).toNat := (by rw [Ny143.out, List.length_drop]); rw [← Ny143.out] at hr29; rw [← hy29, ← hA29, ← hc29] at hcut29; replace hr29 : Kd.Q k64 39 w28 w.heap.size (fun k_ => some k_ ≠ (.slice (some ad131) x0_1.length co26 : Value).ownBlock ∧ some k_ ≠ (v136 : Value).ownBlock) (.slice A29 y143.length c29) y143 := (by rw [hA29, hc29, hy29]; exact hr29); have HE29 : Aside0 ((Value.slice A29 y143.length c29).ownBlock = (.slice (some ad132) x1_1.length co27 : Value).ownBlock) := ⟨by rw [hA29]; split <;> (cases ((some ad132) : Option Addr) <;> rfl)⟩; clear hy29 hi029 hsz29 HO_1 hA29 hc29; have HO145 := Aside0.mk hr29; clear hr29; replace q29 := eq_true q29; have n_ := Aside0.mk (Kd.Q_mono (ok' := fun k_ => (some k_ ≠ (.slice A29 y143.length c29 : Value).ownBlock ∧ some k_ ≠ (v136 : Value).ownBlock)) HO_0.out (fun k_ hk => ⟨(by rw [HE29.out]; exact hk.1), hk.2⟩)); clear HO_0; have HO_0 := n_; clear n_; have n_ := Aside0.mk (Kd.R_mono (ok' := fun k_ => (some k_ ≠ (.slice (some ad131) x0_1.length co26 : Value).ownBlock ∧ some k_ ≠ (.slice A29 y143.length c29 : Value).ownBlock)) HO137.out (fun k_ hk => ⟨hk.1, (by rw [HE29.out]; exact hk.2)⟩)); clear HO137; have HO137 := n_; clear n_)))
            go_roundg kj6
            case measure => have := HK1.out; have := HJ6.out; omega
            case rel => exact ⟨(x0_1), (y143), (y135), H', ⟨by have := HK1.out; have := HJ6.out; omega⟩, ⟨by (with_reducible repeat (first | apply qA | apply qN | apply qD)); exact HO_0.out⟩, ⟨by (with_reducible repeat (first | apply qA | apply qN | apply qD)); exact HO145.out⟩, ⟨by (with_reducible repeat (first | apply rA | apply rN | apply rD)); exact HO137.out⟩, ⟨by repeat (first | (with_reducible first | exact HB.out | apply wA | apply wN | apply wD) | exact HB.out)⟩⟩
           ·rw [if_neg c25] at H
            exact absurd H (by simp)
         ·rw [if_neg c18] at H
          exact absurd H (by simp)
        ·rw [if_neg c17] at H
         have c17b0 : decide ((ji15) ≤ (ji16)) = false := decide_eq_false c17
         clear c17
         by_cases c30 : ((rd_T64 x0_1 0).f1) < ((rd_T64 x1_1 0).f1)
         ·rw [if_pos c30] at H
          have c30b0 : decide (((rd_T64 x0_1 0).f1) < ((rd_T64 x1_1 0).f1)) = true := decide_eq_true c30
          clear c30
          by_cases c31 : 1 ≤ (x0_1.length : Int)
          ·rw [if_pos c31] at H
           have c31b0 := eq_true c31
           have c31b1 : decide (1 ≤ (x0_1.length : Int)) = true := decide_eq_true c31
           clear c31
           obtain ⟨y148, hy148⟩ : ∃ y_ : List (S64), y_ = (x0_1.drop (1 : Int).toNat) := ⟨_, rfl⟩
           replace H : (classes_And.l0 kj6 y148 x1_1 x5_1) = some r := by first | (rw [hy148]; with_reducible exact H) | (have H2_ := (Option.bind_some _ _).symm.trans H; rw [hy148]; with_reducible exact H2_) | (have H2_ := (Option.bind_some _ _).symm.trans H; with_reducible exact H2_) | with_reducible exact H | (rw [hy148]; exact H) | exact H
           have Ny148 := Aside0.mk hy148
           clear hy148
           have H' := Aside0.mk H
           clear H
           obtain ⟨Ao32, co32, eo32, _⟩ := Kd.Q_slice HO_0.out
           subst eo32
           have p131 : 0 ≤ (0 : Int) := (by omega)
           have q131 : 0 < (x0_1.length : Int) := of_decide_eq_true (by first | (with_reducible assumption) | assumption)
           obtain ⟨ad131, e131, hx131_0, hx131_1⟩ := at_T64 (Kd.Q_reads' HO_0.out).2.2 0 p131 q131
           cases e131
           have qi131 : (0 < x0_1.length) = True := eq_true (by omega)
           (try rw [show ((0 : Int)).toNat = 0 from rfl] at hx131_0)
           (try rw [show 0 * 2 = 0 from rfl] at hx131_0)
           (try rw [Addr.add_zero'] at hx131_0)
           (try rw [show ((0 : Int)).toNat = 0 from rfl] at hx131_1)
           (try rw [show 0 * 2 = 0 from rfl] at hx131_1)
           (try rw [Addr.add_zero'] at hx131_1)
           replace p131 := eq_true p131
           replace q131 := eq_true q131
           obtain ⟨Ao33, co33, eo33, _⟩ := Kd.Q_slice HO_1.out
           subst eo33
           have p132 : 0 ≤ (0 : Int) := (by omega)
           have q132 : 0 < (x1_1.length : Int) := of_decide_eq_true (by first | (with_reducible assumption) | assumption)
           obtain ⟨ad132, e132, hx132_0, hx132_1⟩ := at_T64 (Kd.Q_reads' HO_1.out).2.2 0 p132 q132
           cases e132
           have qi132 : (0 < x1_1.length) = True := eq_true (by omega)
           (try rw [show ((0 : Int)).toNat = 0 from rfl] at hx132_0)
           (try rw [show 0 * 2 = 0 from rfl] at hx132_0)
           (try rw [Addr.add_zero'] at hx132_0)
           (try rw [show ((0 : Int)).toNat = 0 from rfl] at hx132_1)
           (try rw [show 0 * 2 = 0 from rfl] at hx132_1)
           (try rw [Addr.add_zero'] at hx132_1)
           replace p132 := eq_true p132
           replace q132 := eq_true q132
           have p133 : 0 ≤ (0 : Int) := (by omega)
           have q133 : 0 < (x0_1.length : Int) := of_decide_eq_true (by first | (with_reducible assumption) | assumption)
           obtain ⟨ad133, e133, hx133_0, hx133_1⟩ := at_T64 (Kd.Q_reads' HO_0.out).2.2 0 p133 q133
           obtain rfl : ad131 = ad133 := (by injection e133)
           have qi133 : (0 < x0_1.length) = True := eq_true (by omega)
           (try rw [show ((0 : Int)).toNat = 0 from rfl] at hx133_0)
           (try rw [show 0 * 2 = 0 from rfl] at hx133_0)
           (try rw [Addr.add_zero'] at hx133_0)
           (try rw [show ((0 : Int)).toNat = 0 from rfl] at hx133_1)
           (try rw [show 0 * 2 = 0 from rfl] at hx133_1)
           (try rw [Addr.add_zero'] at hx133_1)
           replace p133 := eq_true p133
           replace q133 := eq_true q133
           have p134 : 0 ≤ (0 : Int) := (by omega)
           have q134 : 0 < (x1_1.length : Int) := of_decide_eq_true (by first | (with_reducible assumption) | assumption)
           obtain ⟨ad134, e134, hx134_0, hx134_1⟩ := at_T64 (Kd.Q_reads' HO_1.out).2.2 0 p134 q134
           obtain rfl : ad132 = ad134 := (by injection e134)
           have qi134 : (0 < x1_1.length) = True := eq_true (by omega)
           (try rw [show ((0 : Int)).toNat = 0 from rfl] at hx134_0)
           (try rw [show 0 * 2 = 0 from rfl] at hx134_0)
           (try rw [Addr.add_zero'] at hx134_0)
           (try rw [show ((0 : Int)).toNat = 0 from rfl] at hx134_1)
           (try rw [show 0 * 2 = 0 from rfl] at hx134_1)
           (try rw [Addr.add_zero'] at hx134_1)
           replace p134 := eq_true p134
           replace q134 := eq_true q134
           have p146 : 0 ≤ (0 : Int) := (by omega)
           have q146 : 0 < (x0_1.length : Int) := of_decide_eq_true (by first | (with_reducible assumption) | assumption)
           obtain ⟨ad146, e146, hx146_0, hx146_1⟩ := at_T64 (Kd.Q_reads' HO_0.out).2.2 0 p146 q146
           obtain rfl : ad131 = ad146 := (by injection e146)
           have qi146 : (0 < x0_1.length) = True := eq_true (by omega)
           (try rw [show ((0 : Int)).toNat = 0 from rfl] at hx146_0)
           (try rw [show 0 * 2 = 0 from rfl] at hx146_0)
           (try rw [Addr.add_zero'] at hx146_0)
           (try rw [show ((0 : Int)).toNat = 0 from rfl] at hx146_1)
           (try rw [show 0 * 2 = 0 from rfl] at hx146_1)
           (try rw [Addr.add_zero'] at hx146_1)
           replace p146 := eq_true p146
           replace q146 := eq_true q146
           have p147 : 0 ≤ (0 : Int) := (by omega)
           have q147 : 0 < (x1_1.length : Int) := of_decide_eq_true (by first | (with_reducible assumption) | assumption)
           obtain ⟨ad147, e147, hx147_0, hx147_1⟩ := at_T64 (Kd.Q_reads' HO_1.out).2.2 0 p147 q147
           obtain rfl : ad132 = ad147 := (by injection e147)
           have qi147 : (0 < x1_1.length) = True := eq_true (by omega)
           (try rw [show ((0 : Int)).toNat = 0 from rfl] at hx147_0)
           (try rw [show 0 * 2 = 0 from rfl] at hx147_0)
           (try rw [Addr.add_zero'] at hx147_0)
           (try rw [show ((0 : Int)).toNat = 0 from rfl] at hx147_1)
           (try rw [show 0 * 2 = 0 from rfl] at hx147_1)
           (try rw [Addr.add_zero'] at hx147_1)
           replace p147 := eq_true p147
           replace q147 := eq_true q147
           have q34 : (1 : Int) ≤ ((x0_1.length : Int) : Int) := of_decide_eq_true (by first | (with_reducible assumption) | assumption)
           obtain ⟨i034, hi034, _, hsz34, _⟩ := info_parts info64
           have hcut34 := cut_from (P := Tryz.prog) 35 39 .i64 Tryz.underlying35 hi034 2 hsz34 (some ad131) x0_1.length co32 1 (by omega) q34
           have hr34 := Kd.Q_drop (k := (1 : Int).toNat) HO_0.out (by omega)
           obtain ⟨A34, hA34⟩ : ∃ A1, A1 = (if co32 = (1 : Int).toNat then (some ad131) else ((some ad131) : Option Addr).map (·.add ((1 : Int).toNat * 2))) := ⟨_, rfl⟩
           obtain ⟨c34, hc34⟩ : ∃ c1, c1 = co32 - (1 : Int).toNat := ⟨_, rfl⟩
           have hy34 : y148.length = x0_1.length - (1 : Int).toNat := (by rw [Ny148.out, List.length_drop])
           rw [← Ny148.out] at hr34
           rw [← hy34, ← hA34, ← hc34] at hcut34
           replace hr34 : Kd.Q k64 39 wc w.heap.size (fun k_ => some k_ ≠ (.slice (some ad132) x1_1.length co33 : Value).ownBlock ∧ some k_ ≠ (u5 : Value).ownBlock) (.slice A34 y148.length c34) y148 := (by rw [hA34, hc34, hy34]; exact hr34)
           have HE34 : Aside0 ((Value.slice A34 y148.length c34).ownBlock = (.slice (some ad131) x0_1.length co32 : Value).ownBlock) := ⟨by rw [hA34]; split <;> (cases ((some ad131) : Option Addr) <;> rfl)⟩
           clear hy34 hi034 hsz34 HO_0 hA34 hc34
           have HO150 := Aside0.mk hr34
           clear hr34
           replace q34 := eq_true q34
           have n_ := Aside0.mk (Kd.Q_mono (ok' := fun k_ => (some k_ ≠ (.slice A34 y148.length c34 : Value).ownBlock ∧ some k_ ≠ (u5 : Value).ownBlock)) HO_1.out (fun k_ hk => ⟨(by rw [HE34.out]; exact hk.1), hk.2⟩))
           clear HO_1
           have HO_1 := n_
           clear n_
           have n_ := Aside0.mk (Kd.R_mono (ok' := fun k_ => (some k_ ≠ (.slice A34 y148.length c34 : Value).ownBlock ∧ some k_ ≠ (.slice (some ad132) x1_1.length co33 : Value).ownBlock)) HO_5.out (fun k_ hk => ⟨(by rw [HE34.out]; exact hk.1), hk.2⟩))
           clear HO_5
           have HO_5 := n_
           clear n_
           go_wp2
           repeat (go_quiet (fail); try go_wp2)
           go_roundg kj6
           case measure => have := HK1.out; have := HJ6.out; omega
           case rel => exact ⟨(y148), (x1_1), (x5_1), H', ⟨by have := HK1.out; have := HJ6.out; omega⟩, ⟨by (with_reducible repeat (first | apply qA | apply qN | apply qD)); exact HO150.out⟩, ⟨by (with_reducible repeat (first | apply qA | apply qN | apply qD)); exact HO_1.out⟩, ⟨by (with_reducible repeat (first | apply rA | apply rN | apply rD)); exact HO_5.out⟩, ⟨by repeat (first | (with_reducible first | exact HB.out | apply wA | apply wN | apply wD) | exact HB.out)⟩⟩
          ·rw [if_neg c31] at H
           exact absurd H (by simp)
         ·rw [if_neg c30] at H
          have c30b0 : decide (((rd_T64 x0_1 0).f1) < ((rd_T64 x1_1 0).f1)) = false := decide_eq_false c30
          clear c30
          by_cases c35 : 1 ≤ (x1_1.length : Int)
          ·rw [if_pos c35] at H
           have c35b0 := eq_true c35
           have c35b1 : decide (1 ≤ (x1_1.length : Int)) = true := decide_eq_true c35
           clear c35
           obtain ⟨y151, hy151⟩ : ∃ y_ : List (S64), y_ = (x1_1.drop (1 : Int).toNat) := ⟨_, rfl⟩
           replace H : (classes_And.l0 kj6 x0_1 y151 x5_1) = some r := by first | (rw [hy151]; with_reducible exact H) | (have H2_ := (Option.bind_some _ _).symm.trans H; rw [hy151]; with_reducible exact H2_) | (have H2_ := (Option.bind_some _ _).symm.trans H; with_reducible exact H2_) | with_reducible exact H | (rw [hy151]; exact H) | exact H
           have Ny151 := Aside0.mk hy151
           clear hy151
           have H' := Aside0.mk H
           clear H
           obtain ⟨Ao36, co36, eo36, _⟩ := Kd.Q_slice HO_0.out
           subst eo36
           have p131 : 0 ≤ (0 : Int) := (by omega)
           have q131 : 0 < (x0_1.length : Int) := of_decide_eq_true (by first | (with_reducible assumption) | assumption)
           obtain ⟨ad131, e131, hx131_0, hx131_1⟩ := at_T64 (Kd.Q_reads' HO_0.out).2.2 0 p131 q131
           cases e131
           have qi131 : (0 < x0_1.length) = True := eq_true (by omega)
           (try rw [show ((0 : Int)).toNat = 0 from rfl] at hx131_0)
           (try rw [show 0 * 2 = 0 from rfl] at hx131_0)
           (try rw [Addr.add_zero'] at hx131_0)
           (try rw [show ((0 : Int)).toNat = 0 from rfl] at hx131_1)
           (try rw [show 0 * 2 = 0 from rfl] at hx131_1)
           (try rw [Addr.add_zero'] at hx131_1)
           replace p131 := eq_true p131
           replace q131 := eq_true q131
           obtain ⟨Ao37, co37, eo37, _⟩ := Kd.Q_slice HO_1.out
           subst eo37
           have p132 : 0 ≤ (0 : Int) := (by omega)
           have q132 : 0 < (x1_1.length : Int) := of_decide_eq_true (by first | (with_reducible assumption) | assumption)
           obtain ⟨ad132, e132, hx132_0, hx132_1⟩ := at_T64 (Kd.Q_reads' HO_1.out).2.2 0 p132 q132
           cases e132
           have qi132 : (0 < x1_1.length) = True := eq_true (by omega)
           (try rw [show ((0 : Int)).toNat = 0 from rfl] at hx132_0)
           (try rw [show 0 * 2 = 0 from rfl] at hx132_0)
           (try rw [Addr.add_zero'] at hx132_0)
           (try rw [show ((0 : Int)).toNat = 0 from rfl] at hx132_1)
           (try rw [show 0 * 2 = 0 from rfl] at hx132_1)
           (try rw [Addr.add_zero'] at hx132_1)
           replace p132 := eq_true p132
           replace q132 := eq_true q132
           have p133 : 0 ≤ (0 : Int) := (by omega)
           have q133 : 0 < (x0_1.length : Int) := of_decide_eq_true (by first | (with_reducible assumption) | assumption)
           obtain ⟨ad133, e133, hx133_0, hx133_1⟩ := at_T64 (Kd.Q_reads' HO_0.out).2.2 0 p133 q133
           obtain rfl : ad131 = ad133 := (by injection e133)
           have qi133 : (0 < x0_1.length) = True := eq_true (by omega)
           (try rw [show ((0 : Int)).toNat = 0 from rfl] at hx133_0)
           (try rw [show 0 * 2 = 0 from rfl] at hx133_0)
           (try rw [Addr.add_zero'] at hx133_0)
           (try rw [show ((0 : Int)).toNat = 0 from rfl] at hx133_1)
           (try rw [show 0 * 2 = 0 from rfl] at hx133_1)
           (try rw [Addr.add_zero'] at hx133_1)
           replace p133 := eq_true p133
           replace q133 := eq_true q133
           have p134 : 0 ≤ (0 : Int) := (by omega)
           have q134 : 0 < (x1_1.length : Int) := of_decide_eq_true (by first | (with_reducible assumption) | assumption)
           obtain ⟨ad134, e134, hx134_0, hx134_1⟩ := at_T64 (Kd.Q_reads' HO_1.out).2.2 0 p134 q134
           obtain rfl : ad132 = ad134 := (by injection e134)
           have qi134 : (0 < x1_1.length) = True := eq_true (by omega)
           (try rw [show ((0 : Int)).toNat = 0 from rfl] at hx134_0)
           (try rw [show 0 * 2 = 0 from rfl] at hx134_0)
           (try rw [Addr.add_zero'] at hx134_0)
           (try rw [show ((0 : Int)).toNat = 0 from rfl] at hx134_1)
           (try rw [show 0 * 2 = 0 from rfl] at hx134_1)
           (try rw [Addr.add_zero'] at hx134_1)
           replace p134 := eq_true p134
           replace q134 := eq_true q134
           have p146 : 0 ≤ (0 : Int) := (by omega)
           have q146 : 0 < (x0_1.length : Int) := of_decide_eq_true (by first | (with_reducible assumption) | assumption)
           obtain ⟨ad146, e146, hx146_0, hx146_1⟩ := at_T64 (Kd.Q_reads' HO_0.out).2.2 0 p146 q146
           obtain rfl : ad131 = ad146 := (by injection e146)
           have qi146 : (0 < x0_1.length) = True := eq_true (by omega)
           (try rw [show ((0 : Int)).toNat = 0 from rfl] at hx146_0)
           (try rw [show 0 * 2 = 0 from rfl] at hx146_0)
           (try rw [Addr.add_zero'] at hx146_0)
           (try rw [show ((0 : Int)).toNat = 0 from rfl] at hx146_1)
           (try rw [show 0 * 2 = 0 from rfl] at hx146_1)
           (try rw [Addr.add_zero'] at hx146_1)
           replace p146 := eq_true p146
           replace q146 := eq_true q146
           have p147 : 0 ≤ (0 : Int) := (by omega)
           have q147 : 0 < (x1_1.length : Int) := of_decide_eq_true (by first | (with_reducible assumption) | assumption)
           obtain ⟨ad147, e147, hx147_0, hx147_1⟩ := at_T64 (Kd.Q_reads' HO_1.out).2.2 0 p147 q147
           obtain rfl : ad132 = ad147 := (by injection e147)
           have qi147 : (0 < x1_1.length) = True := eq_true (by omega)
           (try rw [show ((0 : Int)).toNat = 0 from rfl] at hx147_0)
           (try rw [show 0 * 2 = 0 from rfl] at hx147_0)
           (try rw [Addr.add_zero'] at hx147_0)
           (try rw [show ((0 : Int)).toNat = 0 from rfl] at hx147_1)
           (try rw [show 0 * 2 = 0 from rfl] at hx147_1)
           (try rw [Addr.add_zero'] at hx147_1)
           replace p147 := eq_true p147
           replace q147 := eq_true q147
           have q38 : (1 : Int) ≤ ((x1_1.length : Int) : Int) := of_decide_eq_true (by first | (with_reducible assumption) | assumption)
           obtain ⟨i038, hi038, _, hsz38, _⟩ := info_parts info64
           have hcut38 := cut_from (P := Tryz.prog) 35 39 .i64 Tryz.underlying35 hi038 2 hsz38 (some ad132) x1_1.length co37 1 (by omega) q38
           have hr38 := Kd.Q_drop (k := (1 : Int).toNat) HO_1.out (by omega)
           obtain ⟨A38, hA38⟩ : ∃ A1, A1 = (if co37 = (1 : Int).toNat then (some ad132) else ((some ad132) : Option Addr).map (·.add ((1 : Int).toNat * 2))) := ⟨_, rfl⟩
           obtain ⟨c38, hc38⟩ : ∃ c1, c1 = co37 - (1 : Int).toNat := ⟨_, rfl⟩
           have hy38 : y151.length = x1_1.length - (1 : Int).toNat := (by rw [Ny151.out, List.length_drop])
           rw [← Ny151.out] at hr38
           rw [← hy38, ← hA38, ← hc38] at hcut38
           replace hr38 : Kd.Q k64 39 wc w.heap.size (fun k_ => some k_ ≠ (.slice (some ad131) x0_1.length co36 : Value).ownBlock ∧ some k_ ≠ (u5 : Value).ownBlock) (.slice A38 y151.length c38) y151 := (by rw [hA38, hc38, hy38]; exact hr38)
           have HE38 : Aside0 ((Value.slice A38 y151.length c38).ownBlock = (.slice (some ad132) x1_1.length co37 : Value).ownBlock) := ⟨by rw [hA38]; split <;> (cases ((some ad132) : Option Addr) <;> rfl)⟩
           clear hy38 hi038 hsz38 HO_1 hA38 hc38
           have HO153 := Aside0.mk hr38
           clear hr38
           replace q38 := eq_true q38
           have n_ := Aside0.mk (Kd.Q_mono (ok' := fun k_ => (some k_ ≠ (.slice A38 y151.length c38 : Value).ownBlock ∧ some k_ ≠ (u5 : Value).ownBlock)) HO_0.out (fun k_ hk => ⟨(by rw [HE38.out]; exact hk.1), hk.2⟩))
           clear HO_0
           have HO_0 := n_
           clear n_
           have n_ := Aside0.mk (Kd.R_mono (ok' := fun k_ => (some k_ ≠ (.slice (some ad131) x0_1.length co36 : Value).ownBlock ∧ some k_ ≠ (.slice A38 y151.length c38 : Value).ownBlock)) HO_5.out (fun k_ hk => ⟨hk.1, (by rw [HE38.out]; exact hk.2)⟩))
           clear HO_5
           have HO_5 := n_
           clear n_
           go_wp2
           repeat (go_quiet (fail); try go_wp2)
           go_roundg kj6
           case measure => have := HK1.out; have := HJ6.out; omega
           case rel => exact ⟨(x0_1), (y151), (x5_1), H', ⟨by have := HK1.out; have := HJ6.out; omega⟩, ⟨by (with_reducible repeat (first | apply qA | apply qN | apply qD)); exact HO_0.out⟩, ⟨by (with_reducible repeat (first | apply qA | apply qN | apply qD)); exact HO153.out⟩, ⟨by (with_reducible repeat (first | apply rA | apply rN | apply rD)); exact HO_5.out⟩, ⟨by repeat (first | (with_reducible first | exact HB.out | apply wA | apply wN | apply wD) | exact HB.out)⟩⟩
          ·rw [if_neg c35] at H
           exact absurd H (by simp)
       ·rw [if_neg c14] at H
        exact absurd H (by simp)
      ·rw [if_neg c13] at H
       exact absurd H (by simp)
     ·replace c12 := Bool.eq_false_iff.mpr c12
      subst c12
      have H1 : (some x5_1) = some r := by rw [if_neg (show ¬ (false = true) by decide)] at H; exact H
      clear H
      have H := H1
      clear H1
      obtain rfl := Option.some.inj H
      go_wp2
      repeat (go_quiet (fail); try go_wp2)
      go_ret
      exact ⟨_, by first | rfl | (simp [errW_none, errW_some] <;> rfl) | (simp [*, errW_none, errW_some] <;> rfl), by (with_reducible repeat (first | apply rA | apply rN | apply rD)); exact Kd.R_mono HO_5.out (fun _ hk => trivial), by repeat (first | (with_reducible first | exact HB.out | apply wA | apply wN | apply wD) | exact HB.out)⟩
end Go.Proofs.YtamhkdlcoghdbaaGreatDoor.PCls
