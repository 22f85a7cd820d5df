/- Out of YPClsx22 (wip/tools/prune2.py): the declarations alone that the texts of the trees name. -/
import Derived.Test.YtamhkdlcoghdbaaGreatDoorKMQZLOne
import Derived.Test.YtamhkdlcoghdbaaGreatDoorKQYPClsx11
namespace Go.Proofs.YtamhkdlcoghdbaaGreatDoor.PCls
open Go.RowKit Go.Proofs.YtamhkdlcoghdbaaGreatDoorW.PrintWords Go.Proofs.YtamhkdlcoghdbaaGreatDoorW.PrintLast Go.Proofs.YtamhkdlcoghdbaaGreatDoorW.PrintMore
attribute [local go_sem] max2_int min2_int max_two min_two max_three min_three max_four min_four   -- for this text's walks alone
set_option linter.unusedVariables false
set_option linter.unusedSimpArgs false
mutual
def dredgeref06_And.l0 : Nat → List (S64) → List (S64) → List (S64) → Int → Option ((List (S64)))
 | 0, _, _, _, _ => none
 | k + 1, x5, x6, x7, x8 => if x8 < (x5.length : Int) then (dredgeref06_And.l1 k x5 x6 x7 x8 0) else ((dredgeref06_Class.f k x7).bind fun t404 => (some t404))
def dredgeref06_And.l1 : Nat → List (S64) → List (S64) → List (S64) → Int → Int → Option ((List (S64)))
 | 0, _, _, _, _, _ => none
 | k + 1, x5, x6, x7, x8, x9 => if x9 < (x6.length : Int) then (if 0 ≤ x8 then (if x8 < (x5.length : Int) then (if 0 ≤ x9 then (if x7.length < 8796093022208 then (dredgeref06_And.l1 k x5 x6 (x7 ++ [(⟨mx ((rd_T64 x5 x8).f0) ((rd_T64 x6 x9).f0), mn ((rd_T64 x5 x8).f1) ((rd_T64 x6 x9).f1)⟩ : S64)]) x8 (wrap64 (x9 + 1))) else (none)) else (none)) else (none)) else (none)) else (dredgeref06_And.l0 k x5 x6 x7 (wrap64 (x8 + 1)))
end
def dredgeref06_And.f (k : Nat) (l0 : List (S64)) (l1 : List (S64)) : Option ((List (S64))) := (dredgeref06_Class.f k l0).bind fun t398 => ((dredgeref06_Class.f k l1).bind fun t401 => (dredgeref06_And.l0 k t398 t401 ([] : List (S64)) 0))
def dredgeref06_And.T10 : Bool × List (List Nat × List Nat) := (true, [([], []), ([], []), ([], []), ([1, 2], [1, 2]), ([3], [3]), ([4], [4]), ([], []), ([], []), ([6, 7], [6, 7]), ([8], [8]), ([9], [9]), ([5, 10], [5, 10]), ([], []), ([], []), ([12, 13], [12, 13]), ([14], [14]), ([15], [15]), ([], []), ([], []), ([17, 18], [17, 18]), ([19], [19]), ([20], [20]), ([16, 21], [16, 21]), ([11, 22], [11, 22]), ([23], [23]), ([0, 24], [0, 24]), ([25, 25, 0, 1, 2, 3, 4, 5, 6, 7, 8, 9, 10, 11, 12, 13, 14, 15, 16, 17, 18, 19, 20, 21, 22, 23, 24, 25], [0, 25])])
theorem dredgeref06_And.tab10 : rtab .any (opsOf Tryz.f188 10) = dredgeref06_And.T10 := by kernel_rfl
theorem dredgeref06_And.bits10 : waitsOk dredgeref06_And.T10.2 dredgeref06_And.B10 = true := by kernel_rfl
set_option maxHeartbeats 8000000 in
set_option maxRecDepth 100000 in
theorem dredgeref06_And.calls (k : Nat) (A0 : Option Addr) (c0 : Nat) (l0 : List (S64)) (A1 : Option Addr) (c1 : Nat) (l1 : List (S64)) (r : List (S64)) (w : World) (hr0 : Kd.C k64 w A0 l0.length l0) (hc0 : l0.length ≤ c0) (hr1 : Kd.C k64 w A1 l1.length l1) (hc1 : l1.length ≤ c1) (h : dredgeref06_And.f k l0 l1 = some r) :
  Calls Tryz.prog 188 #[.slice A0 l0.length c0, .slice A1 l1.length c1] w fun e w' => ∃ v0_ : Value, e = .returned (v0_) ∧ Kd.R k64 39 w' w.heap.size (fun _ => True) v0_ r ∧ Below w.heap.size w w' := by
 have hu64 := Tryz.underlying39
 have HR0 := Aside0.mk hr0
 have HC0 := Aside0.mk hc0
 clear hr0 hc0
 have HR1 := Aside0.mk hr1
 have HC1 := Aside0.mk hc1
 clear hr1 hc1
 have HB := Aside0.mk (Below.refl w.heap.size w)
 have H : ((dredgeref06_Class.f k l0).bind fun t398 => ((dredgeref06_Class.f k l1).bind fun t401 => (dredgeref06_And.l0 k t398 t401 ([] : List (S64)) 0))) = some r := h
 clear h
 replace H := Option.bind_eq_some_iff.mp H
 obtain ⟨t398, A30, H⟩ := H
 replace H : ((dredgeref06_Class.f k l1).bind fun t401 => (dredgeref06_And.l0 k t398 t401 ([] : List (S64)) 0)) = some r := H
 have A3 := Aside0.mk A30
 clear A30
 replace H := Option.bind_eq_some_iff.mp H
 obtain ⟨t401, A40, H⟩ := H
 replace H : (dredgeref06_And.l0 k t398 t401 ([] : List (S64)) 0) = some r := H
 have A4 := Aside0.mk A40
 clear A40
 have H' := Aside0.mk H
 clear H
 go_enter Tryz.func188, Tryz.ntmps188
 go_wp2_with (first | ((with_reducible refine gate_callee (f := 189) rfl ?_); refine goesL_ (some 11) rfl rfl Tryz.func189 (by kernel_rfl) rfl #[.slice A0 l0.length c0] rfl (by (try simp only [List.map_toArray, List.map_cons, List.map_nil]); first | done | rfl | (simp only [List.length_drop, List.length_take]; rfl)) ?_; (with_reducible refine (dredgeref06_Class.calls k _ _ l0 t398 _ ?side1 ?side2 A3.out).mono ?_); (case side1 => repeat (first | exact HR0.out | (with_reducible refine cA ?_ _) | (with_reducible refine cN ?_ _) | (with_reducible refine cD ?_))); (case side2 => exact HC0.out); rintro e w5 ⟨v399, rfl, ho0, hb⟩; refine ⟨_, rfl, ?_⟩; have n0_ := Aside0.mk (Kd.R_lower ho0 (below_size (by repeat (first | (with_reducible first | exact HB.out | apply wA | apply wN | apply wD) | exact HB.out)))); have n1_ := Aside0.mk (below_step (by repeat (first | (with_reducible first | exact HB.out | apply wA | apply wN | apply wD) | exact HB.out)) hb); clear HB; have HO400 := n0_; have HB := n1_; clear n0_ n1_; (try clear hb); (try clear hb2); (try clear hk); (try clear hi); (try clear ho0)) | ((with_reducible refine gate_callee (f := 189) rfl ?_); refine goesL_ (some 13) rfl rfl Tryz.func189 (by kernel_rfl) rfl #[.slice A1 l1.length c1] rfl (by (try simp only [List.map_toArray, List.map_cons, List.map_nil]); first | done | rfl | (simp only [List.length_drop, List.length_take]; rfl)) ?_; (with_reducible refine (dredgeref06_Class.calls k _ _ l1 t401 _ ?side1 ?side2 A4.out).mono ?_); (case side1 => repeat (first | exact (Kd.C_below HR1.out HB.out) | (with_reducible refine cA ?_ _) | (with_reducible refine cN ?_ _) | (with_reducible refine cD ?_))); (case side2 => exact HC1.out); rintro e w6 ⟨v402, rfl, ho0, hb⟩; refine ⟨_, rfl, ?_⟩; have n0_ := Aside0.mk (rE (by (with_reducible repeat (first | apply rA | apply rN | apply rD)); exact HO400.out) (rB ho0) hb); have n1_ := Aside0.mk (Kd.R_lower (rW ho0 (rL (by (with_reducible repeat (first | apply rA | apply rN | apply rD)); exact HO400.out))) (below_size (by repeat (first | (with_reducible first | exact HB.out | apply wA | apply wN | apply wD) | exact HB.out)))); have n2_ := Aside0.mk (below_step (by repeat (first | (with_reducible first | exact HB.out | apply wA | apply wN | apply wD) | exact HB.out)) hb); clear HO400; clear HB; have HO400 := n0_; have HO403 := n1_; have HB := n2_; clear n0_ n1_ n2_; (try clear hb); (try clear hb2); (try clear hk); (try clear hi); (try clear ho0)))
 go_loopg [7, 8] k (fun kq v7 v8 w' => ∃ (x7_1 : List (S64)) (x8_1 : Int), v8 = .int .i64 x8_1 ∧ Aside0 (dredgeref06_And.l0 kq t398 t401 x7_1 x8_1 = some r) ∧ Aside0 (kq ≤ k) ∧ Aside0 (Kd.R k64 39 w' w.heap.size (fun k_ => some k_ ≠ (v402 : Value).ownBlock ∧ some k_ ≠ (v7 : Value).ownBlock) v399 t398) ∧ Aside0 (Kd.R k64 39 w' w.heap.size (fun k_ => some k_ ≠ (v399 : Value).ownBlock ∧ some k_ ≠ (v7 : Value).ownBlock) v402 t401) ∧ Aside0 (Kd.R k64 39 w' w.heap.size (fun k_ => some k_ ≠ (v399 : Value).ownBlock ∧ some k_ ≠ (v402 : Value).ownBlock) v7 x7_1) ∧ Aside0 (Below w.heap.size w w'))
 case atStart => exact ⟨(([] : List (S64))), (0), (by first | rfl | (simp; done) | (simp [*]; done)), H', ⟨Nat.le_refl _⟩, ⟨by (with_reducible repeat (first | apply rA | apply rN | apply rD)); exact Kd.R_mono HO400.out (fun _ hk => ⟨hk.2, (by simp [Value.ownBlock])⟩)⟩, ⟨by (with_reducible repeat (first | apply rA | apply rN | apply rD)); exact Kd.R_mono HO403.out (fun _ hk => ⟨hk.2, (by simp [Value.ownBlock])⟩)⟩, ⟨by first | exact Kd.R_nil _ _ _ _ _ | exact Kd.N_nil _ _ _ _ _ | exact Kd.V_nil _ _ _ _ _ | exact Kd.Q_nil _ _ _ _ _ | exact Kd.S_nil _ _ _ _ _⟩, ⟨by repeat (first | (with_reducible first | exact HB.out | apply wA | apply wN | apply wD) | exact HB.out)⟩⟩
 case round =>
  clear H'
  try clear c1
  try clear p2
  try clear c4
  obtain ⟨x7_1, x8_1, rfl, HA, HK1, HO_5, HO_6, HO_7, HB⟩ := hrel
  cases gk with
  | zero => exact absurd HA.out (by simp [dredgeref06_And.l0])
  | succ k1 =>
   have H := HA.out
   clear HA
   simp only [dredgeref06_And.l0] at H
   by_cases c7 : x8_1 < (t398.length : Int)
   ·rw [if_pos c7] at H
    have c7b0 : decide (x8_1 < (t398.length : Int)) = true := decide_eq_true c7
    clear c7
    have H' := Aside0.mk H
    clear H
    obtain ⟨Ao8, co8, eo8⟩ := Kd.R_slice HO_5.out
    subst eo8
    go_wp2
    go_loopg [7, 9] k1 (fun kq v7 v9 w' => ∃ (x7_2 : List (S64)) (x9_2 : Int), v9 = .int .i64 x9_2 ∧ Aside0 (dredgeref06_And.l1 kq t398 t401 x7_2 x8_1 x9_2 = some r) ∧ Aside0 (kq ≤ k1) ∧ Aside0 (Kd.R k64 39 w' w.heap.size (fun k_ => some k_ ≠ (v402 : Value).ownBlock ∧ some k_ ≠ (v7 : Value).ownBlock) (.slice Ao8 t398.length co8) t398) ∧ Aside0 (Kd.R k64 39 w' w.heap.size (fun k_ => some k_ ≠ ((.slice Ao8 t398.length co8) : Value).ownBlock ∧ some k_ ≠ (v7 : Value).ownBlock) v402 t401) ∧ Aside0 (Kd.R k64 39 w' w.heap.size (fun k_ => some k_ ≠ ((.slice Ao8 t398.length co8) : Value).ownBlock ∧ some k_ ≠ (v402 : Value).ownBlock) v7 x7_2) ∧ Aside0 (Below w.heap.size w w'))
    case atStart => exact ⟨(x7_1), (0), (by first | rfl | (simp; done) | (simp [*]; done)), H', ⟨Nat.le_refl _⟩, ⟨by (with_reducible repeat (first | apply rA | apply rN | apply rD)); exact HO_5.out⟩, ⟨by (with_reducible repeat (first | apply rA | apply rN | apply rD)); exact HO_6.out⟩, ⟨by (with_reducible repeat (first | apply rA | apply rN | apply rD)); exact HO_7.out⟩, ⟨by repeat (first | (with_reducible first | exact HB.out | apply wA | apply wN | apply wD) | exact HB.out)⟩⟩
    case round =>
     clear H'
     try clear c1
     try clear p2
     try clear c4
     try clear c7
     try clear c7b0
     try clear p2
     obtain ⟨x7_2, x9_2, rfl, HA, HK2, HO_5, HO_6, HO_7, HB⟩ := hrel
     cases gk with
     | zero => exact absurd HA.out (by simp [dredgeref06_And.l1])
     | succ k2 =>
      have H := HA.out
      clear HA
      simp only [dredgeref06_And.l1] at H
      by_cases c9 : x9_2 < (t401.length : Int)
      ·rw [if_pos c9] at H
       have c9b0 : decide (x9_2 < (t401.length : Int)) = true := decide_eq_true c9
       clear c9
       by_cases c10 : 0 ≤ x8_1
       ·rw [if_pos c10] at H
        have c10b0 : decide (0 ≤ x8_1) = true := decide_eq_true c10
        clear c10
        by_cases c11 : x8_1 < (t398.length : Int)
        ·rw [if_pos c11] at H
         have c11b0 : decide (x8_1 < (t398.length : Int)) = true := decide_eq_true c11
         clear c11
         by_cases c12 : 0 ≤ x9_2
         ·rw [if_pos c12] at H
          have c12b0 : decide (0 ≤ x9_2) = true := decide_eq_true c12
          clear c12
          obtain ⟨ji13, hji13⟩ : ∃ j_ : Int, (mx ((rd_T64 t398 x8_1).f0) ((rd_T64 t401 x9_2).f0)) = j_ := ⟨_, rfl⟩
          replace H : (if x7_2.length < 8796093022208 then (dredgeref06_And.l1 k2 t398 t401 (x7_2 ++ [(⟨ji13, mn ((rd_T64 t398 x8_1).f1) ((rd_T64 t401 x9_2).f1)⟩ : S64)]) x8_1 (wrap64 (x9_2 + 1))) else (none)) = some r := by first | (rw [hji13] at H; exact H) | (simp only [hji13] at H ⊢; exact H)
          have hji13_ : (if ((rd_T64 t398 x8_1).f0) < ((rd_T64 t401 x9_2).f0) then ((rd_T64 t401 x9_2).f0) else ((rd_T64 t398 x8_1).f0)) = ji13 := hji13
          obtain ⟨ji14, hji14⟩ : ∃ j_ : Int, (mn ((rd_T64 t398 x8_1).f1) ((rd_T64 t401 x9_2).f1)) = j_ := ⟨_, rfl⟩
          replace H : (if x7_2.length < 8796093022208 then (dredgeref06_And.l1 k2 t398 t401 (x7_2 ++ [(⟨ji13, ji14⟩ : S64)]) x8_1 (wrap64 (x9_2 + 1))) else (none)) = some r := by first | (rw [hji14] at H; exact H) | (simp only [hji14] at H ⊢; exact H)
          have hji14_ : (if ((rd_T64 t401 x9_2).f1) < ((rd_T64 t398 x8_1).f1) then ((rd_T64 t401 x9_2).f1) else ((rd_T64 t398 x8_1).f1)) = ji14 := hji14
          by_cases c15 : x7_2.length < 8796093022208
          ·rw [if_pos c15] at H
           have LMc15 := Aside0.mk c15
           clear c15
           obtain ⟨y411, hy411⟩ : ∃ y_ : List (S64), y_ = (x7_2 ++ [(⟨ji13, ji14⟩ : S64)]) := ⟨_, rfl⟩
           replace H : (dredgeref06_And.l1 k2 t398 t401 y411 x8_1 (wrap64 (x9_2 + 1))) = some r := by first | (rw [hy411]; with_reducible exact H) | (have H2_ := (Option.bind_some _ _).symm.trans H; rw [hy411]; with_reducible exact H2_) | (have H2_ := (Option.bind_some _ _).symm.trans H; with_reducible exact H2_) | with_reducible exact H | (rw [hy411]; exact H) | exact H
           have Ny411 := Aside0.mk hy411
           clear hy411
           have H' := Aside0.mk H
           clear H
           obtain ⟨Ao16, co16, eo16⟩ := Kd.R_slice HO_6.out
           subst eo16
           try go_wp2
           have n0_ := Aside0.mk (rD HO_5.out)
           have n1_ := Aside0.mk (rD HO_6.out)
           have n2_ := Aside0.mk (rD HO_7.out)
           have n3_ := Aside0.mk (wD HB.out)
           clear HO_5
           clear HO_6
           clear HO_7
           clear HB
           have HO_5 := n0_
           have HO_6 := n1_
           have HO_7 := n2_
           have HB := n3_
           clear n0_ n1_ n2_ n3_
           have p407 : 0 ≤ (x8_1 : Int) := of_decide_eq_true (by first | (with_reducible assumption) | assumption)
           have q407 : x8_1 < (t398.length : Int) := of_decide_eq_true (by first | (with_reducible assumption) | assumption)
           obtain ⟨ad407, e407, hx407_0, hx407_1⟩ := at_T64 (rR HO_5.out).2.2 x8_1 p407 q407
           cases e407
           replace p407 := eq_true p407
           replace q407 := eq_true q407
           have p408 : 0 ≤ (x9_2 : Int) := of_decide_eq_true (by first | (with_reducible assumption) | assumption)
           have q408 : x9_2 < (t401.length : Int) := of_decide_eq_true (by first | (with_reducible assumption) | assumption)
           obtain ⟨ad408, e408, hx408_0, hx408_1⟩ := at_T64 (rR HO_6.out).2.2 x9_2 p408 q408
           cases e408
           replace p408 := eq_true p408
           replace q408 := eq_true q408
           have p409 : 0 ≤ (x8_1 : Int) := of_decide_eq_true (by first | (with_reducible assumption) | assumption)
           have q409 : x8_1 < (t398.length : Int) := of_decide_eq_true (by first | (with_reducible assumption) | assumption)
           obtain ⟨ad409, e409, hx409_0, hx409_1⟩ := at_T64 (rR HO_5.out).2.2 x8_1 p409 q409
           obtain rfl : ad407 = ad409 := (by injection e409)
           replace p409 := eq_true p409
           replace q409 := eq_true q409
           have p410 : 0 ≤ (x9_2 : Int) := of_decide_eq_true (by first | (with_reducible assumption) | assumption)
           have q410 : x9_2 < (t401.length : Int) := of_decide_eq_true (by first | (with_reducible assumption) | assumption)
           obtain ⟨ad410, e410, hx410_0, hx410_1⟩ := at_T64 (rR HO_6.out).2.2 x9_2 p410 q410
           obtain rfl : ad408 = ad410 := (by injection e410)
           replace p410 := eq_true p410
           replace q410 := eq_true q410
           refine start_ (n := 27) (S := fun w' => w'.cell? (ad407.add ((x8_1).toNat * 2)) = some (.int .i64 ((rd_T64 t398 x8_1).f0)) ∧ w'.cell? ⟨(ad407.add ((x8_1).toNat * 2)).block, (ad407.add ((x8_1).toNat * 2)).off + 1, none⟩ = some (.int .i64 ((rd_T64 t398 x8_1).f1)) ∧ w'.cell? (ad408.add ((x9_2).toNat * 2)) = some (.int .i64 ((rd_T64 t401 x9_2).f0)) ∧ w'.cell? ⟨(ad408.add ((x9_2).toNat * 2)).block, (ad408.add ((x9_2).toNat * 2)).off + 1, none⟩ = some (.int .i64 ((rd_T64 t401 x9_2).f1)) ∧ w'.cell? (ad407.add ((x8_1).toNat * 2)) = some (.int .i64 ((rd_T64 t398 x8_1).f0)) ∧ w'.cell? ⟨(ad407.add ((x8_1).toNat * 2)).block, (ad407.add ((x8_1).toNat * 2)).off + 1, none⟩ = some (.int .i64 ((rd_T64 t398 x8_1).f1)) ∧ w'.cell? (ad408.add ((x9_2).toNat * 2)) = some (.int .i64 ((rd_T64 t401 x9_2).f0)) ∧ w'.cell? ⟨(ad408.add ((x9_2).toNat * 2)).block, (ad408.add ((x9_2).toNat * 2)).off + 1, none⟩ = some (.int .i64 ((rd_T64 t401 x9_2).f1))) (ds := [24, 25]) #[Z,Z,Z,Z,Z,Z,Z,Z,Z,Z,Z,Z,Z,Z,Z,Z,Z,Z,Z,Z,Z,Z,Z,Z,Z,Z,Z] (by kernel_rfl) rfl rfl ⟨hx407_0, hx407_1, hx408_0, hx408_1, hx409_0, hx409_1, hx410_0, hx410_1⟩ (fun hHeld => ?_); refine with_tabW dredgeref06_And.tab10 dredgeref06_And.bits10 (fun HT_ HW_ => ?_)
           generalize wr.drew = w17 at HO_5 HO_6 HO_7 HB hx407_0 hx407_1 hx408_0 hx408_1 hx409_0 hx409_1 hx410_0 hx410_1 hHeld ⊢
           refine run_ [.p 0, .p 1, .p 2, .p 3, .p 4, .p 6, .p 7, .p 8, .p 9, .p 12, .p 13, .p 14, .p 15, .p 17, .p 18, .p 19, .p 20, .t 5, .t 10, .p 11, .t 16, .t 21, .p 22, .p 23] 3 #[I,I,I,I,I,I,I,I,I,I,I,I,I,I,I,I,I,I,I,I,I,I,I,I,Z,Z,Z] HT_.out (fun c d v a w h => by cases d <;> exact h) hHeld rfl (by kernel_rfl) ?_
           repeat first
           | (refine kp_ (v := ?_) (b := ?_) rfl (.inl ⟨by rfl, ?_⟩) ?_ ?_; rotate_left 2; (intro w'; go_simp; with_reducible rfl); (simp only [Act.put, pu_, pz_, ps_, i64_w, i32_w]; rfl))
           | (refine kt_ (v := ?_) (b := ?_) rfl (.inl ⟨by rfl, ?_⟩) ?_ ?_; rotate_left 2; (rintro w' ⟨s0, s1, s2, s3, s4, s5, s6, s7⟩; go_simp; with_reducible rfl); (simp only [Act.put, pu_, pz_, ps_, i64_w, i32_w]; rfl))
           refine kd_ ?_
           refine last_ (i := 24) (N := some 50) #[I,I,I,I,I,I,I,I,I,I,I,I,I,I,I,I,I,I,I,I,I,I,I,I,I,Z,Z] rfl rfl (one_of HT_.out (by kernel_rfl)) (by decide) (fun K hK => ?_)
           refine value_ (w1 := ?_) (v := ?_) (by rfl) rfl ?_ ?_
           rotate_left 2
           ·go_simp
            constructor
            ·rfl
            ·rfl
           refine hK.out _ _ ?_
           clear hK K
           refine norm_ (a' := ?_) ?_ ?_
           rotate_left
           ·show Act.put _ (some 50) _ = _
            simp only [Act.put, pu_, pz_, ps_, i64_w, i32_w]
            rfl
           refine last_ (i := 25) (N := some 51) #[I,I,I,I,I,I,I,I,I,I,I,I,I,I,I,I,I,I,I,I,I,I,I,I,I,I,Z] rfl rfl (one_of HT_.out (by kernel_rfl)) (by decide) (fun K hK => ?_)
           refine Kd.R_append_step k64 (w0 := w) w.heap.size (by rfl) (.tmp 26) (.tmp 50) 35 39 (.agg #[(.int .i64 0), (.int .i64 0)]) 16 rfl Tryz.underlying35 info64 rfl (by decide) (by omega) u7 x7_2 (⟨ji13, ji14⟩ : S64) [.int .i64 ji13, .int .i64 ji14] (fun k_ => some k_ ≠ (.slice (some ad407) t398.length co8 : Value).ownBlock ∧ some k_ ≠ (.slice (some ad408) t401.length co16 : Value).ownBlock) (fun _ => False) rfl rfl ?aP (fun _ hk => hk.elim) ?aF ?aO ?aB ?aS ?aL ?_
           (case aP => exact k64_mkM _ _ _ (⟨ji13, ji14⟩ : S64))
           (case aB => exact (by repeat (first | (with_reducible first | exact HB.out | apply wA | apply wN | apply wD) | exact HB.out)))
           (case aF => exact (fun k_ hk => ⟨Kd.fresh' (rL (by (with_reducible repeat (first | apply rA | apply rN | apply rD)); exact HO_5.out)) k_ hk, Kd.fresh' (rL (by (with_reducible repeat (first | apply rA | apply rN | apply rD)); exact HO_6.out)) k_ hk⟩))
           (case aO => exact (by (with_reducible repeat (first | apply rA | apply rN | apply rD)); exact HO_7.out))
           (case aS => exact (below_size (by repeat (first | (with_reducible first | exact HB.out | apply wA | apply wN | apply wD) | exact HB.out))))
           (case aL => have := LMc15.out; omega)
           intro v412 w18 ho hb hg hat
           rw [← Ny411.out] at ho
           have n0_ := Aside0.mk (Kd.R_after (ok := (fun k_ => some k_ ≠ (.slice (some ad408) t401.length co16 : Value).ownBlock)) (by (with_reducible repeat (first | apply rA | apply rN | apply rD)); exact HO_5.out) hg hat)
           have n1_ := Aside0.mk (Kd.R_after (ok := (fun k_ => some k_ ≠ (.slice (some ad407) t398.length co8 : Value).ownBlock)) (by (with_reducible repeat (first | apply rA | apply rN | apply rD)); exact HO_6.out) hg hat)
           have n2_ := Aside0.mk (hb)
           have n3_ := Aside0.mk (ho)
           clear HO_5
           clear HO_6
           clear HB
           clear HO_7
           have HO_5 := n0_
           have HO_6 := n1_
           have HB := n2_
           have HO413 := n3_
           clear n0_ n1_ n2_ n3_
           clear ho hb hg hat
           refine hK.out _ _ ?_
           clear hK K
           refine norm_ (a' := ?_) ?_ ?_
           rotate_left
           ·show Act.put _ (some 51) _ = _
            simp only [Act.put, pu_, pz_, ps_, i64_w, i32_w]
            rfl
           refine pure_ (i := 26) (N := some 7) (v := ?_) (a' := ?_) #[I,I,I,I,I,I,I,I,I,I,I,I,I,I,I,I,I,I,I,I,I,I,I,I,I,I,I] rfl rfl (any_of HT_.out (by kernel_rfl)) (fun _ _ _ h => h) (Or.inl ⟨by rfl, ?_⟩) ?_ ?_
           rotate_left
           ·intro w'
            go_simp
            with_reducible rfl
           rotate_left
           ·simp only [Act.put, pu_, pz_, ps_, i64_w, i32_w]
            rfl
           refine done_ (done_of HT_.out (by kernel_rfl)) ?_
           try go_wp2
           go_roundg k2
           case measure => have := HK1.out; have := HK2.out; omega
           case rel => exact ⟨(y411), (wrap64 (x9_2 + 1)), (by first | rfl | (simp; done) | (simp [*]; done)), H', ⟨by have := HK1.out; have := HK2.out; omega⟩, ⟨by (with_reducible repeat (first | apply rA | apply rN | apply rD)); exact HO_5.out⟩, ⟨by (with_reducible repeat (first | apply rA | apply rN | apply rD)); exact HO_6.out⟩, ⟨by (with_reducible repeat (first | apply rA | apply rN | apply rD)); exact HO413.out⟩, ⟨by repeat (first | (with_reducible first | exact HB.out | apply wA | apply wN | apply wD) | exact HB.out)⟩⟩
          ·rw [if_neg c15] at H
           exact absurd H (by simp)
         ·rw [if_neg c12] at H
          exact absurd H (by simp)
        ·rw [if_neg c11] at H
         exact absurd H (by simp)
       ·rw [if_neg c10] at H
        exact absurd H (by simp)
      ·rw [if_neg c9] at H
       have c9b0 : decide (x9_2 < (t401.length : Int)) = false := decide_eq_false c9
       clear c9
       have H' := Aside0.mk H
       clear H
       obtain ⟨Ao19, co19, eo19⟩ := Kd.R_slice HO_6.out
       subst eo19
       go_wp2
       go_roundg k2
       case measure => have := HK1.out; have := HK2.out; omega
       case rel => exact ⟨(x7_2), (wrap64 (x8_1 + 1)), (by first | rfl | (simp; done) | (simp [*]; done)), H', ⟨by have := HK1.out; have := HK2.out; omega⟩, ⟨by (with_reducible repeat (first | apply rA | apply rN | apply rD)); exact HO_5.out⟩, ⟨by (with_reducible repeat (first | apply rA | apply rN | apply rD)); exact HO_6.out⟩, ⟨by (with_reducible repeat (first | apply rA | apply rN | apply rD)); exact HO_7.out⟩, ⟨by repeat (first | (with_reducible first | exact HB.out | apply wA | apply wN | apply wD) | exact HB.out)⟩⟩
   ·rw [if_neg c7] at H
    have c7b0 : decide (x8_1 < (t398.length : Int)) = false := decide_eq_false c7
    clear c7
    replace H := Option.bind_eq_some_iff.mp H
    obtain ⟨t404, A200, H⟩ := H
    replace H : (some t404) = some r := H
    have A20 := Aside0.mk A200
    clear A200
    obtain rfl := Option.some.inj H
    obtain ⟨Ao21, co21, eo21⟩ := Kd.R_slice HO_5.out
    subst eo21
    obtain ⟨Ao22, co22, eo22⟩ := Kd.R_slice HO_7.out
    subst eo22
    go_wp2_with (first | ((with_reducible refine gate_callee (f := 189) rfl ?_); refine goesL_ (some 53) rfl rfl Tryz.func189 (by kernel_rfl) rfl #[.slice Ao22 x7_1.length co22] rfl (by (try simp only [List.map_toArray, List.map_cons, List.map_nil]); first | done | rfl | (simp only [List.length_drop, List.length_take]; rfl)) ?_; (with_reducible refine (dredgeref06_Class.calls k1 _ _ x7_1 t404 _ ?side1 ?side2 A20.out).mono ?_); (case side1 => repeat (first | exact (rR HO_7.out).2.2 | (with_reducible refine cA ?_ _) | (with_reducible refine cN ?_ _) | (with_reducible refine cD ?_))); (case side2 => exact (rR HO_7.out).2.1); rintro e w23 ⟨v405, rfl, ho0, hb⟩; refine ⟨_, rfl, ?_⟩; have n0_ := Aside0.mk (rE (by (with_reducible repeat (first | apply rA | apply rN | apply rD)); exact HO_5.out) (rB ho0) hb); have n1_ := Aside0.mk (rE (by (with_reducible repeat (first | apply rA | apply rN | apply rD)); exact HO_6.out) (rB ho0) hb); have n2_ := Aside0.mk (rE (by (with_reducible repeat (first | apply rA | apply rN | apply rD)); exact HO_7.out) (rB ho0) hb); have n3_ := Aside0.mk (Kd.R_lower (rW (rW (rW ho0 (rL (by (with_reducible repeat (first | apply rA | apply rN | apply rD)); exact HO_5.out))) (rL (by (with_reducible repeat (first | apply rA | apply rN | apply rD)); exact HO_6.out))) (rL (by (with_reducible repeat (first | apply rA | apply rN | apply rD)); exact HO_7.out))) (below_size (by repeat (first | (with_reducible first | exact HB.out | apply wA | apply wN | apply wD) | exact HB.out)))); have n4_ := Aside0.mk (below_step (by repeat (first | (with_reducible first | exact HB.out | apply wA | apply wN | apply wD) | exact HB.out)) hb); clear HO_5; clear HO_6; clear HO_7; clear HB; have HO_5 := n0_; have HO_6 := n1_; have HO_7 := n2_; have HO406 := n3_; have HB := n4_; clear n0_ n1_ n2_ n3_ n4_; (try clear hb); (try clear hb2); (try clear hk); (try clear hi); (try clear ho0)))
    go_ret
    exact ⟨_, by first | rfl | (simp [errW_none, errW_some] <;> rfl) | (simp [*, errW_none, errW_some] <;> rfl), by (with_reducible repeat (first | apply rA | apply rN | apply rD)); exact Kd.R_mono HO406.out (fun _ hk => trivial), by repeat (first | (with_reducible first | exact HB.out | apply wA | apply wN | apply wD) | exact HB.out)⟩
end Go.Proofs.YtamhkdlcoghdbaaGreatDoor.PCls
