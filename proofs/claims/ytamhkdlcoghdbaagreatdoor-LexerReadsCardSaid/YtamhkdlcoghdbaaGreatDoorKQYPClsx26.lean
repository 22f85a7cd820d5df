/- Out of YPClsx26 (wip/tools/prune2.py): the declarations alone that the texts of the trees name. -/
import Derived.Test.YtamhkdlcoghdbaaGreatDoorKQYPClsx22
namespace Go.Proofs.YtamhkdlcoghdbaaGreatDoor.PCls
open Go.RowKit Go.Proofs.YtamhkdlcoghdbaaGreatDoorW.PrintWords Go.Proofs.YtamhkdlcoghdbaaGreatDoorW.PrintLast Go.Proofs.YtamhkdlcoghdbaaGreatDoorW.PrintMore
attribute [local go_sem] max2_int min2_int max_two min_two max_three min_three max_four min_four   -- for this text's walks alone
set_option linter.unusedVariables false
set_option linter.unusedSimpArgs false
mutual
def dredgeref06_Fold.l0 : Nat → List (S64) → List (S64) → List (S64) → Int → Option ((List (S64)))
 | 0, _, _, _, _ => none
 | k + 1, x3, x4, x5, x6 => if x6 < (x4.length : Int) then (if 0 ≤ x6 then (if x3.length < 8796093022208 then (dredgeref06_Fold.l0 k (x3 ++ [(⟨wrap64 (((rd_T64 x4 x6).f0) + 32), wrap64 (((rd_T64 x4 x6).f1) + 32)⟩ : S64)]) x4 x5 (wrap64 (x6 + 1))) else (none)) else (none)) else (dredgeref06_Fold.l1 k x3 x5 0)
def dredgeref06_Fold.l1 : Nat → List (S64) → List (S64) → Int → Option ((List (S64)))
 | 0, _, _, _ => none
 | k + 1, x3, x5, x7 => if x7 < (x5.length : Int) then (if 0 ≤ x7 then (if x3.length < 8796093022208 then (dredgeref06_Fold.l1 k (x3 ++ [(⟨wrap64 (((rd_T64 x5 x7).f0) - 32), wrap64 (((rd_T64 x5 x7).f1) - 32)⟩ : S64)]) x5 (wrap64 (x7 + 1))) else (none)) else (none)) else ((dredgeref06_Class.f k x3).bind fun t482 => (some t482))
end
def dredgeref06_Fold.f (k : Nat) (l0 : List (S64)) : Option ((List (S64))) := (dredgeref06_Class.f k l0).bind fun t457 => ((dredgeref06_And.f k l0 (([(⟨65, 90⟩ : S64)] : List (S64)))).bind fun t463 => ((dredgeref06_And.f k l0 (([(⟨97, 122⟩ : S64)] : List (S64)))).bind fun t469 => (dredgeref06_Fold.l0 k t457 t463 t469 0)))
def dredgeref06_Fold.T7 : Bool × List (List Nat × List Nat) := (true, [([], []), ([], []), ([], []), ([1, 2], [1, 2]), ([3], [3]), ([4], [4]), ([5], [5]), ([], []), ([], []), ([7, 8], [7, 8]), ([9], [9]), ([10], [10]), ([11], [11]), ([6, 12], [6, 12]), ([13], [13]), ([0, 14], [0, 14]), ([15, 15, 0, 1, 2, 3, 4, 5, 6, 7, 8, 9, 10, 11, 12, 13, 14, 15], [0, 15])])
def dredgeref06_Fold.B7 : List Nat := [0, 0, 0, 6, 14, 30, 62, 0, 0, 384, 896, 1920, 3968, 8190, 16382, 32767, 65535]
theorem dredgeref06_Fold.tab7 : rtab .any (opsOf Tryz.f143 7) = dredgeref06_Fold.T7 := by kernel_rfl
theorem dredgeref06_Fold.bits7 : waitsOk dredgeref06_Fold.T7.2 dredgeref06_Fold.B7 = true := by kernel_rfl
def dredgeref06_Fold.T11 : Bool × List (List Nat × List Nat) := (true, [([], []), ([], []), ([], []), ([1, 2], [1, 2]), ([3], [3]), ([4], [4]), ([5], [5]), ([], []), ([], []), ([7, 8], [7, 8]), ([9], [9]), ([10], [10]), ([11], [11]), ([6, 12], [6, 12]), ([13], [13]), ([0, 14], [0, 14]), ([15, 15, 0, 1, 2, 3, 4, 5, 6, 7, 8, 9, 10, 11, 12, 13, 14, 15], [0, 15])])
def dredgeref06_Fold.B11 : List Nat := [0, 0, 0, 6, 14, 30, 62, 0, 0, 384, 896, 1920, 3968, 8190, 16382, 32767, 65535]
theorem dredgeref06_Fold.tab11 : rtab .any (opsOf Tryz.f143 11) = dredgeref06_Fold.T11 := by kernel_rfl
theorem dredgeref06_Fold.bits11 : waitsOk dredgeref06_Fold.T11.2 dredgeref06_Fold.B11 = true := by kernel_rfl
set_option maxHeartbeats 8000000 in
set_option maxRecDepth 100000 in
theorem dredgeref06_Fold.calls (k : Nat) (A0 : Option Addr) (c0 : Nat) (l0 : List (S64)) (r : List (S64)) (w : World) (hr0 : Kd.C k64 w A0 l0.length l0) (hc0 : l0.length ≤ c0) (h : dredgeref06_Fold.f k l0 = some r) :
  Calls Tryz.prog 143 #[.slice A0 l0.length c0] w fun e w' => ∃ v0_ : Value, e = .returned (v0_) ∧ Kd.R k64 39 w' w.heap.size (fun _ => True) v0_ r ∧ Below w.heap.size w w' := by
 have hu64 := Tryz.underlying39
 have HR0 := Aside0.mk hr0
 have HC0 := Aside0.mk hc0
 clear hr0 hc0
 have HB := Aside0.mk (Below.refl w.heap.size w)
 have H : ((dredgeref06_Class.f k l0).bind fun t457 => ((dredgeref06_And.f k l0 (([(⟨65, 90⟩ : S64)] : List (S64)))).bind fun t463 => ((dredgeref06_And.f k l0 (([(⟨97, 122⟩ : S64)] : List (S64)))).bind fun t469 => (dredgeref06_Fold.l0 k t457 t463 t469 0)))) = some r := h
 clear h
 replace H := Option.bind_eq_some_iff.mp H
 obtain ⟨t457, A20, H⟩ := H
 replace H : ((dredgeref06_And.f k l0 (([(⟨65, 90⟩ : S64)] : List (S64)))).bind fun t463 => ((dredgeref06_And.f k l0 (([(⟨97, 122⟩ : S64)] : List (S64)))).bind fun t469 => (dredgeref06_Fold.l0 k t457 t463 t469 0))) = some r := H
 have A2 := Aside0.mk A20
 clear A20
 obtain ⟨y460, hy460⟩ : ∃ y_ : List (S64), y_ = (([(⟨65, 90⟩ : S64)] : List (S64))) := ⟨_, rfl⟩
 replace H : ((dredgeref06_And.f k l0 y460).bind fun t463 => ((dredgeref06_And.f k l0 (([(⟨97, 122⟩ : S64)] : List (S64)))).bind fun t469 => (dredgeref06_Fold.l0 k t457 t463 t469 0))) = some r := by first | (rw [hy460]; with_reducible exact H) | (have H2_ := (Option.bind_some _ _).symm.trans H; rw [hy460]; with_reducible exact H2_) | (have H2_ := (Option.bind_some _ _).symm.trans H; with_reducible exact H2_) | with_reducible exact H | (rw [hy460]; exact H) | exact H
 have Ny460 := Aside0.mk hy460
 clear hy460
 replace H := Option.bind_eq_some_iff.mp H
 obtain ⟨t463, A30, H⟩ := H
 replace H : ((dredgeref06_And.f k l0 (([(⟨97, 122⟩ : S64)] : List (S64)))).bind fun t469 => (dredgeref06_Fold.l0 k t457 t463 t469 0)) = some r := H
 have A3 := Aside0.mk A30
 clear A30
 obtain ⟨y466, hy466⟩ : ∃ y_ : List (S64), y_ = (([(⟨97, 122⟩ : S64)] : List (S64))) := ⟨_, rfl⟩
 replace H : ((dredgeref06_And.f k l0 y466).bind fun t469 => (dredgeref06_Fold.l0 k t457 t463 t469 0)) = some r := by first | (rw [hy466]; with_reducible exact H) | (have H2_ := (Option.bind_some _ _).symm.trans H; rw [hy466]; with_reducible exact H2_) | (have H2_ := (Option.bind_some _ _).symm.trans H; with_reducible exact H2_) | with_reducible exact H | (rw [hy466]; exact H) | exact H
 have Ny466 := Aside0.mk hy466
 clear hy466
 replace H := Option.bind_eq_some_iff.mp H
 obtain ⟨t469, A40, H⟩ := H
 replace H : (dredgeref06_Fold.l0 k t457 t463 t469 0) = some r := H
 have A4 := Aside0.mk A40
 clear A40
 have H' := Aside0.mk H
 clear H
 go_enter Tryz.func143, Tryz.ntmps143
 go_wp2_with (first | ((with_reducible refine gate_callee (f := 189) rfl ?_); refine goesL_ (some 9) rfl rfl Tryz.func189 (by kernel_rfl) rfl #[.slice A0 l0.length c0] rfl (by (try simp only [List.map_toArray, List.map_cons, List.map_nil]); first | done | rfl | (simp only [List.length_drop, List.length_take]; rfl)) ?_; (with_reducible refine (dredgeref06_Class.calls k _ _ l0 t457 _ ?side1 ?side2 A2.out).mono ?_); (case side1 => repeat (first | exact HR0.out | (with_reducible refine cA ?_ _) | (with_reducible refine cN ?_ _) | (with_reducible refine cD ?_))); (case side2 => exact HC0.out); rintro e w5 ⟨v458, rfl, ho0, hb⟩; refine ⟨_, rfl, ?_⟩; have n0_ := Aside0.mk (Kd.R_lower ho0 (below_size (by repeat (first | (with_reducible first | exact HB.out | apply wA | apply wN | apply wD) | exact HB.out)))); have n1_ := Aside0.mk (below_step (by repeat (first | (with_reducible first | exact HB.out | apply wA | apply wN | apply wD) | exact HB.out)) hb); clear HB; have HO459 := n0_; have HB := n1_; clear n0_ n1_; (try clear hb); (try clear hb2); (try clear hk); (try clear hi); (try clear ho0)) | ((with_reducible refine gate_dst (N := 12) rfl ?_); refine Kd.R_lit k64 _ 39 ?hg (N := 12) ?hd (xs := ([(⟨65, 90⟩ : S64)] : List (S64))) (inner := [.int .i64 65, .int .i64 90]) (ok := fun _ => True) (okp := fun _ => True) ?hr ?hp (fun _ hk => hk) trivial (Below.refl _ _) (Nat.le_refl _) (by simp) ?_; (case hd => rfl); (case hg => rfl); (case hr => first | (go_simp; done) | (go_simp; rfl)); (case hp => exact (Reps.c2 (show Kd.M k64 _ _ _ (⟨65, 90⟩ : S64) [.int .i64 65, .int .i64 90] from (k64_mkM _ _ _ (⟨65, 90⟩ : S64) )) (Reps.none _ _))); intro v461 w6 ho7 hb hg_ hnew_; clear hg_ hnew_; (first | rw [← Ny460.out] at ho7 | (simp only [Int.reduceToNat] at ho7; rw [← Ny460.out] at ho7)); have n0_ := Aside0.mk (rE (by (with_reducible repeat (first | apply rA | apply rN | apply rD)); exact HO459.out) (rB ho7) hb); have n1_ := Aside0.mk (Kd.R_lower (rW ho7 (rL (by (with_reducible repeat (first | apply rA | apply rN | apply rD)); exact HO459.out))) (below_size (by repeat (first | (with_reducible first | exact HB.out | apply wA | apply wN | apply wD) | exact HB.out)))); have n2_ := Aside0.mk (below_step (by repeat (first | (with_reducible first | exact HB.out | apply wA | apply wN | apply wD) | exact HB.out)) hb); clear HO459; clear HB; have HO459 := n0_; have HO462 := n1_; have HB := n2_; clear n0_ n1_ n2_; clear hb ho7; obtain ⟨Ao8, co8, eo8⟩ := Kd.R_slice HO462.out; subst eo8) | ((with_reducible refine gate_callee (f := 188) rfl ?_); refine goesL_ (some 13) rfl rfl Tryz.func188 (by kernel_rfl) rfl #[.slice A0 l0.length c0, .slice Ao8 y460.length co8] rfl (by (try simp only [List.map_toArray, List.map_cons, List.map_nil]); first | done | rfl | (simp only [List.length_drop, List.length_take]; rfl)) ?_; (with_reducible refine (dredgeref06_And.calls k _ _ l0 _ _ y460 t463 _ ?side1 ?side2 ?side3 ?side4 A3.out).mono ?_); (case side1 => repeat (first | exact (Kd.C_below HR0.out HB.out) | (with_reducible refine cA ?_ _) | (with_reducible refine cN ?_ _) | (with_reducible refine cD ?_))); (case side2 => exact HC0.out); (case side3 => repeat (first | exact (rR HO462.out).2.2 | (with_reducible refine cA ?_ _) | (with_reducible refine cN ?_ _) | (with_reducible refine cD ?_))); (case side4 => exact (rR HO462.out).2.1); rintro e w9 ⟨v464, rfl, ho0, hb⟩; refine ⟨_, rfl, ?_⟩; have n0_ := Aside0.mk (rE (by (with_reducible repeat (first | apply rA | apply rN | apply rD)); exact HO459.out) (rB ho0) hb); have n1_ := Aside0.mk (rE (by (with_reducible repeat (first | apply rA | apply rN | apply rD)); exact HO462.out) (rB ho0) hb); have n2_ := Aside0.mk (Kd.R_lower (rW (rW ho0 (rL (by (with_reducible repeat (first | apply rA | apply rN | apply rD)); exact HO459.out))) (rL (by (with_reducible repeat (first | apply rA | apply rN | apply rD)); exact HO462.out))) (below_size (by repeat (first | (with_reducible first | exact HB.out | apply wA | apply wN | apply wD) | exact HB.out)))); have n3_ := Aside0.mk (below_step (by repeat (first | (with_reducible first | exact HB.out | apply wA | apply wN | apply wD) | exact HB.out)) hb); clear HO459; clear HO462; clear HB; have HO459 := n0_; have HO462 := n1_; have HO465 := n2_; have HB := n3_; clear n0_ n1_ n2_ n3_; (try clear hb); (try clear hb2); (try clear hk); (try clear hi); (try clear ho0)) | ((with_reducible refine gate_dst (N := 16) rfl ?_); refine Kd.R_lit k64 _ 39 ?hg (N := 16) ?hd (xs := ([(⟨97, 122⟩ : S64)] : List (S64))) (inner := [.int .i64 97, .int .i64 122]) (ok := fun _ => True) (okp := fun _ => True) ?hr ?hp (fun _ hk => hk) trivial (Below.refl _ _) (Nat.le_refl _) (by simp) ?_; (case hd => rfl); (case hg => rfl); (case hr => first | (go_simp; done) | (go_simp; rfl)); (case hp => exact (Reps.c2 (show Kd.M k64 _ _ _ (⟨97, 122⟩ : S64) [.int .i64 97, .int .i64 122] from (k64_mkM _ _ _ (⟨97, 122⟩ : S64) )) (Reps.none _ _))); intro v467 w10 ho11 hb hg_ hnew_; clear hg_ hnew_; (first | rw [← Ny466.out] at ho11 | (simp only [Int.reduceToNat] at ho11; rw [← Ny466.out] at ho11)); have n0_ := Aside0.mk (rE (by (with_reducible repeat (first | apply rA | apply rN | apply rD)); exact HO459.out) (rB ho11) hb); have n1_ := Aside0.mk (rE (by (with_reducible repeat (first | apply rA | apply rN | apply rD)); exact HO462.out) (rB ho11) hb); have n2_ := Aside0.mk (rE (by (with_reducible repeat (first | apply rA | apply rN | apply rD)); exact HO465.out) (rB ho11) hb); have n3_ := Aside0.mk (Kd.R_lower (rW (rW (rW ho11 (rL (by (with_reducible repeat (first | apply rA | apply rN | apply rD)); exact HO459.out))) (rL (by (with_reducible repeat (first | apply rA | apply rN | apply rD)); exact HO462.out))) (rL (by (with_reducible repeat (first | apply rA | apply rN | apply rD)); exact HO465.out))) (below_size (by repeat (first | (with_reducible first | exact HB.out | apply wA | apply wN | apply wD) | exact HB.out)))); have n4_ := Aside0.mk (below_step (by repeat (first | (with_reducible first | exact HB.out | apply wA | apply wN | apply wD) | exact HB.out)) hb); clear HO459; clear HO462; clear HO465; clear HB; have HO459 := n0_; have HO462 := n1_; have HO465 := n2_; have HO468 := n3_; have HB := n4_; clear n0_ n1_ n2_ n3_ n4_; clear hb ho11; obtain ⟨Ao12, co12, eo12⟩ := Kd.R_slice HO468.out; subst eo12) | ((with_reducible refine gate_callee (f := 188) rfl ?_); refine goesL_ (some 17) rfl rfl Tryz.func188 (by kernel_rfl) rfl #[.slice A0 l0.length c0, .slice Ao12 y466.length co12] rfl (by (try simp only [List.map_toArray, List.map_cons, List.map_nil]); first | done | rfl | (simp only [List.length_drop, List.length_take]; rfl)) ?_; (with_reducible refine (dredgeref06_And.calls k _ _ l0 _ _ y466 t469 _ ?side1 ?side2 ?side3 ?side4 A4.out).mono ?_); (case side1 => repeat (first | exact (Kd.C_below HR0.out HB.out) | (with_reducible refine cA ?_ _) | (with_reducible refine cN ?_ _) | (with_reducible refine cD ?_))); (case side2 => exact HC0.out); (case side3 => repeat (first | exact (rR HO468.out).2.2 | (with_reducible refine cA ?_ _) | (with_reducible refine cN ?_ _) | (with_reducible refine cD ?_))); (case side4 => exact (rR HO468.out).2.1); rintro e w13 ⟨v470, rfl, ho0, hb⟩; refine ⟨_, rfl, ?_⟩; have n0_ := Aside0.mk (rE (by (with_reducible repeat (first | apply rA | apply rN | apply rD)); exact HO459.out) (rB ho0) hb); have n1_ := Aside0.mk (rE (by (with_reducible repeat (first | apply rA | apply rN | apply rD)); exact HO462.out) (rB ho0) hb); have n2_ := Aside0.mk (rE (by (with_reducible repeat (first | apply rA | apply rN | apply rD)); exact HO465.out) (rB ho0) hb); have n3_ := Aside0.mk (rE (by (with_reducible repeat (first | apply rA | apply rN | apply rD)); exact HO468.out) (rB ho0) hb); have n4_ := Aside0.mk (Kd.R_lower (rW (rW (rW (rW ho0 (rL (by (with_reducible repeat (first | apply rA | apply rN | apply rD)); exact HO459.out))) (rL (by (with_reducible repeat (first | apply rA | apply rN | apply rD)); exact HO462.out))) (rL (by (with_reducible repeat (first | apply rA | apply rN | apply rD)); exact HO465.out))) (rL (by (with_reducible repeat (first | apply rA | apply rN | apply rD)); exact HO468.out))) (below_size (by repeat (first | (with_reducible first | exact HB.out | apply wA | apply wN | apply wD) | exact HB.out)))); have n5_ := Aside0.mk (below_step (by repeat (first | (with_reducible first | exact HB.out | apply wA | apply wN | apply wD) | exact HB.out)) hb); clear HO459; clear HO462; clear HO465; clear HO468; clear HB; have HO459 := n0_; have HO462 := n1_; have HO465 := n2_; have HO468 := n3_; have HO471 := n4_; have HB := n5_; clear n0_ n1_ n2_ n3_ n4_ n5_; (try clear hb); (try clear hb2); (try clear hk); (try clear hi); (try clear ho0)))
 go_loopg [3, 6] k (fun kq v3 v6 w' => ∃ (x3_1 : List (S64)) (x6_1 : Int), v6 = .int .i64 x6_1 ∧ Aside0 (dredgeref06_Fold.l0 kq x3_1 t463 t469 x6_1 = some r) ∧ Aside0 (kq ≤ k) ∧ Aside0 (Kd.R k64 39 w' w.heap.size (fun k_ => some k_ ≠ (v464 : Value).ownBlock ∧ some k_ ≠ (v470 : Value).ownBlock) v3 x3_1) ∧ Aside0 (Kd.R k64 39 w' w.heap.size (fun k_ => some k_ ≠ (v3 : Value).ownBlock ∧ some k_ ≠ (v470 : Value).ownBlock) v464 t463) ∧ Aside0 (Kd.R k64 39 w' w.heap.size (fun k_ => some k_ ≠ (v3 : Value).ownBlock ∧ some k_ ≠ (v464 : Value).ownBlock) v470 t469) ∧ Aside0 (Below w.heap.size w w'))
 case atStart => exact ⟨(t457), (0), (by first | rfl | (simp; done) | (simp [*]; done)), H', ⟨Nat.le_refl _⟩, ⟨by (with_reducible repeat (first | apply rA | apply rN | apply rD)); exact Kd.R_mono HO459.out (fun _ hk => ⟨hk.1.1.2, hk.2⟩)⟩, ⟨by (with_reducible repeat (first | apply rA | apply rN | apply rD)); exact Kd.R_mono HO465.out (fun _ hk => ⟨hk.1.1.1.2, hk.2⟩)⟩, ⟨by (with_reducible repeat (first | apply rA | apply rN | apply rD)); exact Kd.R_mono HO471.out (fun _ hk => ⟨hk.1.1.1.2, hk.1.2⟩)⟩, ⟨by repeat (first | (with_reducible first | exact HB.out | apply wA | apply wN | apply wD) | exact HB.out)⟩⟩
 case round =>
  clear H'
  try clear c2
  try clear p2
  try clear c3
  try clear c4
  try clear c7
  obtain ⟨x3_1, x6_1, rfl, HA, HK1, HO_3, HO_4, HO_5, HB⟩ := hrel
  cases gk with
  | zero => exact absurd HA.out (by simp [dredgeref06_Fold.l0])
  | succ k1 =>
   have H := HA.out
   clear HA
   simp only [dredgeref06_Fold.l0] at H
   by_cases c14 : x6_1 < (t463.length : Int)
   ·rw [if_pos c14] at H
    have c14b0 : decide (x6_1 < (t463.length : Int)) = true := decide_eq_true c14
    clear c14
    by_cases c15 : 0 ≤ x6_1
    ·rw [if_pos c15] at H
     have c15b0 : decide (0 ≤ x6_1) = true := decide_eq_true c15
     clear c15
     by_cases c16 : x3_1.length < 8796093022208
     ·rw [if_pos c16] at H
      have LMc16 := Aside0.mk c16
      clear c16
      obtain ⟨y474, hy474⟩ : ∃ y_ : List (S64), y_ = (x3_1 ++ [(⟨wrap64 (((rd_T64 t463 x6_1).f0) + 32), wrap64 (((rd_T64 t463 x6_1).f1) + 32)⟩ : S64)]) := ⟨_, rfl⟩
      replace H : (dredgeref06_Fold.l0 k1 y474 t463 t469 (wrap64 (x6_1 + 1))) = some r := by first | (rw [hy474]; with_reducible exact H) | (have H2_ := (Option.bind_some _ _).symm.trans H; rw [hy474]; with_reducible exact H2_) | (have H2_ := (Option.bind_some _ _).symm.trans H; with_reducible exact H2_) | with_reducible exact H | (rw [hy474]; exact H) | exact H
      have Ny474 := Aside0.mk hy474
      clear hy474
      have H' := Aside0.mk H
      clear H
      obtain ⟨Ao17, co17, eo17⟩ := Kd.R_slice HO_4.out
      subst eo17
      try go_wp2
      have n0_ := Aside0.mk (rD HO_3.out)
      have n1_ := Aside0.mk (rD HO_4.out)
      have n2_ := Aside0.mk (rD HO_5.out)
      have n3_ := Aside0.mk (wD HB.out)
      clear HO_3
      clear HO_4
      clear HO_5
      clear HB
      have HO_3 := n0_
      have HO_4 := n1_
      have HO_5 := n2_
      have HB := n3_
      clear n0_ n1_ n2_ n3_
      have p472 : 0 ≤ (x6_1 : Int) := of_decide_eq_true (by first | (with_reducible assumption) | assumption)
      have q472 : x6_1 < (t463.length : Int) := of_decide_eq_true (by first | (with_reducible assumption) | assumption)
      obtain ⟨ad472, e472, hx472_0, hx472_1⟩ := at_T64 (rR HO_4.out).2.2 x6_1 p472 q472
      cases e472
      replace p472 := eq_true p472
      replace q472 := eq_true q472
      have p473 : 0 ≤ (x6_1 : Int) := of_decide_eq_true (by first | (with_reducible assumption) | assumption)
      have q473 : x6_1 < (t463.length : Int) := of_decide_eq_true (by first | (with_reducible assumption) | assumption)
      obtain ⟨ad473, e473, hx473_0, hx473_1⟩ := at_T64 (rR HO_4.out).2.2 x6_1 p473 q473
      obtain rfl : ad472 = ad473 := (by injection e473)
      replace p473 := eq_true p473
      replace q473 := eq_true q473
      refine start_ (n := 17) (S := fun w' => w'.cell? (ad472.add ((x6_1).toNat * 2)) = some (.int .i64 ((rd_T64 t463 x6_1).f0)) ∧ w'.cell? ⟨(ad472.add ((x6_1).toNat * 2)).block, (ad472.add ((x6_1).toNat * 2)).off + 1, none⟩ = some (.int .i64 ((rd_T64 t463 x6_1).f1)) ∧ w'.cell? (ad472.add ((x6_1).toNat * 2)) = some (.int .i64 ((rd_T64 t463 x6_1).f0)) ∧ w'.cell? ⟨(ad472.add ((x6_1).toNat * 2)).block, (ad472.add ((x6_1).toNat * 2)).off + 1, none⟩ = some (.int .i64 ((rd_T64 t463 x6_1).f1))) (ds := [14, 15]) #[Z,Z,Z,Z,Z,Z,Z,Z,Z,Z,Z,Z,Z,Z,Z,Z,Z] (by kernel_rfl) rfl rfl ⟨hx472_0, hx472_1, hx473_0, hx473_1⟩ (fun hHeld => ?_); refine with_tabW dredgeref06_Fold.tab7 dredgeref06_Fold.bits7 (fun HT_ HW_ => ?_)
      generalize wr.drew = w18 at HO_3 HO_4 HO_5 HB hx472_0 hx472_1 hx473_0 hx473_1 hHeld ⊢
      refine run_ [.p 0, .p 1, .p 2, .p 3, .p 4, .p 7, .p 8, .p 9, .p 10, .t 5, .p 6, .t 11, .p 12, .p 13] 3 #[I,I,I,I,I,I,I,I,I,I,I,I,I,I,Z,Z,Z] HT_.out (fun c d v a w h => by cases d <;> exact h) hHeld rfl (by kernel_rfl) ?_
      repeat first
      | (refine kp_ (v := ?_) (b := ?_) rfl (.inl ⟨by rfl, ?_⟩) ?_ ?_; rotate_left 2; (intro w'; go_simp; with_reducible rfl); (simp only [Act.put, pu_, pz_, ps_, i64_w, i32_w]; rfl))
      | (refine kt_ (v := ?_) (b := ?_) rfl (.inl ⟨by rfl, ?_⟩) ?_ ?_; rotate_left 2; (rintro w' ⟨s0, s1, s2, s3⟩; go_simp; with_reducible rfl); (simp only [Act.put, pu_, pz_, ps_, i64_w, i32_w]; rfl))
      refine kd_ ?_
      refine last_ (i := 14) (N := some 38) #[I,I,I,I,I,I,I,I,I,I,I,I,I,I,I,Z,Z] rfl rfl (one_of HT_.out (by kernel_rfl)) (by decide) (fun K hK => ?_)
      refine value_ (w1 := ?_) (v := ?_) (by rfl) rfl ?_ ?_
      rotate_left 2
      ·go_simp
       constructor
       ·rfl
       ·rfl
      refine hK.out _ _ ?_
      clear hK K
      refine norm_ (a' := ?_) ?_ ?_
      rotate_left
      ·show Act.put _ (some 38) _ = _
       simp only [Act.put, pu_, pz_, ps_, i64_w, i32_w]
       rfl
      refine last_ (i := 15) (N := some 39) #[I,I,I,I,I,I,I,I,I,I,I,I,I,I,I,I,Z] rfl rfl (one_of HT_.out (by kernel_rfl)) (by decide) (fun K hK => ?_)
      refine Kd.R_append_step k64 (w0 := w) w.heap.size (by rfl) (.tmp 24) (.tmp 38) 35 39 (.agg #[(.int .i64 0), (.int .i64 0)]) 16 rfl Tryz.underlying35 info64 rfl (by decide) (by omega) u3 x3_1 (⟨wrap64 (((rd_T64 t463 x6_1).f0) + 32), wrap64 (((rd_T64 t463 x6_1).f1) + 32)⟩ : S64) [.int .i64 (wrap64 (((rd_T64 t463 x6_1).f0) + 32)), .int .i64 (wrap64 (((rd_T64 t463 x6_1).f1) + 32))] (fun k_ => some k_ ≠ (.slice (some ad472) t463.length co17 : Value).ownBlock ∧ some k_ ≠ (v470 : Value).ownBlock) (fun _ => False) rfl rfl ?aP (fun _ hk => hk.elim) ?aF ?aO ?aB ?aS ?aL ?_
      (case aP => exact k64_mkM _ _ _ (⟨wrap64 (((rd_T64 t463 x6_1).f0) + 32), wrap64 (((rd_T64 t463 x6_1).f1) + 32)⟩ : S64))
      (case aB => exact (by repeat (first | (with_reducible first | exact HB.out | apply wA | apply wN | apply wD) | exact HB.out)))
      (case aF => exact (fun k_ hk => ⟨Kd.fresh' (rL (by (with_reducible repeat (first | apply rA | apply rN | apply rD)); exact HO_4.out)) k_ hk, Kd.fresh' (rL (by (with_reducible repeat (first | apply rA | apply rN | apply rD)); exact HO_5.out)) k_ hk⟩))
      (case aO => exact (by (with_reducible repeat (first | apply rA | apply rN | apply rD)); exact HO_3.out))
      (case aS => exact (below_size (by repeat (first | (with_reducible first | exact HB.out | apply wA | apply wN | apply wD) | exact HB.out))))
      (case aL => have := LMc16.out; omega)
      intro v475 w19 ho hb hg hat
      rw [← Ny474.out] at ho
      have n0_ := Aside0.mk (Kd.R_after (ok := (fun k_ => some k_ ≠ (v470 : Value).ownBlock)) (by (with_reducible repeat (first | apply rA | apply rN | apply rD)); exact Kd.R_mono HO_4.out (fun _ hk => ⟨hk.2, hk.1⟩)) hg hat)
      have n1_ := Aside0.mk (Kd.R_after (ok := (fun k_ => some k_ ≠ (.slice (some ad472) t463.length co17 : Value).ownBlock)) (by (with_reducible repeat (first | apply rA | apply rN | apply rD)); exact Kd.R_mono HO_5.out (fun _ hk => ⟨hk.2, hk.1⟩)) hg hat)
      have n2_ := Aside0.mk (hb)
      have n3_ := Aside0.mk (ho)
      clear HO_4
      clear HO_5
      clear HB
      clear HO_3
      have HO_4 := n0_
      have HO_5 := n1_
      have HB := n2_
      have HO476 := n3_
      clear n0_ n1_ n2_ n3_
      clear ho hb hg hat
      refine hK.out _ _ ?_
      clear hK K
      refine norm_ (a' := ?_) ?_ ?_
      rotate_left
      ·show Act.put _ (some 39) _ = _
       simp only [Act.put, pu_, pz_, ps_, i64_w, i32_w]
       rfl
      refine pure_ (i := 16) (N := some 3) (v := ?_) (a' := ?_) #[I,I,I,I,I,I,I,I,I,I,I,I,I,I,I,I,I] rfl rfl (any_of HT_.out (by kernel_rfl)) (fun _ _ _ h => h) (Or.inl ⟨by rfl, ?_⟩) ?_ ?_
      rotate_left
      ·intro w'
       go_simp
       with_reducible rfl
      rotate_left
      ·simp only [Act.put, pu_, pz_, ps_, i64_w, i32_w]
       rfl
      refine done_ (done_of HT_.out (by kernel_rfl)) ?_
      try go_wp2
      go_roundg k1
      case measure => have := HK1.out; omega
      case rel => exact ⟨(y474), (wrap64 (x6_1 + 1)), (by first | rfl | (simp; done) | (simp [*]; done)), H', ⟨by have := HK1.out; omega⟩, ⟨by (with_reducible repeat (first | apply rA | apply rN | apply rD)); exact HO476.out⟩, ⟨by (with_reducible repeat (first | apply rA | apply rN | apply rD)); exact Kd.R_mono HO_4.out (fun _ hk => ⟨hk.2, hk.1⟩)⟩, ⟨by (with_reducible repeat (first | apply rA | apply rN | apply rD)); exact Kd.R_mono HO_5.out (fun _ hk => ⟨hk.2, hk.1⟩)⟩, ⟨by repeat (first | (with_reducible first | exact HB.out | apply wA | apply wN | apply wD) | exact HB.out)⟩⟩
     ·rw [if_neg c16] at H
      exact absurd H (by simp)
    ·rw [if_neg c15] at H
     exact absurd H (by simp)
   ·rw [if_neg c14] at H
    have c14b0 : decide (x6_1 < (t463.length : Int)) = false := decide_eq_false c14
    clear c14
    have H' := Aside0.mk H
    clear H
    obtain ⟨Ao20, co20, eo20⟩ := Kd.R_slice HO_4.out
    subst eo20
    go_wp2
    go_loopg [3, 7] k1 (fun kq v3 v7 w' => ∃ (x3_2 : List (S64)) (x7_2 : Int), v7 = .int .i64 x7_2 ∧ Aside0 (dredgeref06_Fold.l1 kq x3_2 t469 x7_2 = some r) ∧ Aside0 (kq ≤ k1) ∧ Aside0 (Kd.R k64 39 w' w.heap.size (fun k_ => some k_ ≠ (v470 : Value).ownBlock) v3 x3_2) ∧ Aside0 (Kd.R k64 39 w' w.heap.size (fun k_ => some k_ ≠ (v3 : Value).ownBlock) v470 t469) ∧ Aside0 (Below w.heap.size w w'))
    case atStart => exact ⟨(x3_1), (0), (by first | rfl | (simp; done) | (simp [*]; done)), H', ⟨Nat.le_refl _⟩, ⟨by (with_reducible repeat (first | apply rA | apply rN | apply rD)); exact Kd.R_mono HO_3.out (fun _ hk => hk.2)⟩, ⟨by (with_reducible repeat (first | apply rA | apply rN | apply rD)); exact Kd.R_mono HO_5.out (fun _ hk => hk.1)⟩, ⟨by repeat (first | (with_reducible first | exact HB.out | apply wA | apply wN | apply wD) | exact HB.out)⟩⟩
    case round =>
     clear H'
     try clear c1
     try clear c2
     try clear p2
     try clear c3
     try clear c4
     try clear p4
     try clear q4
     try clear hx4
     try clear p6
     try clear c7
     try clear c14
     try clear c14b0
     try clear c15
     try clear c15b0
     try clear c16
     try clear hx472_0
     try clear hx472_1
     try clear hx473_0
     try clear hx473_1
     try clear p2
     try clear p472
     try clear p473
     try clear q472
     try clear q473
     obtain ⟨x3_2, x7_2, rfl, HA, HK2, HO_3, HO_5, HB⟩ := hrel
     cases gk with
     | zero => exact absurd HA.out (by simp [dredgeref06_Fold.l1])
     | succ k2 =>
      have H := HA.out
      clear HA
      simp only [dredgeref06_Fold.l1] at H
      by_cases c21 : x7_2 < (t469.length : Int)
      ·rw [if_pos c21] at H
       have c21b0 : decide (x7_2 < (t469.length : Int)) = true := decide_eq_true c21
       clear c21
       by_cases c22 : 0 ≤ x7_2
       ·rw [if_pos c22] at H
        have c22b0 : decide (0 ≤ x7_2) = true := decide_eq_true c22
        clear c22
        by_cases c23 : x3_2.length < 8796093022208
        ·rw [if_pos c23] at H
         have LMc23 := Aside0.mk c23
         clear c23
         obtain ⟨y479, hy479⟩ : ∃ y_ : List (S64), y_ = (x3_2 ++ [(⟨wrap64 (((rd_T64 t469 x7_2).f0) - 32), wrap64 (((rd_T64 t469 x7_2).f1) - 32)⟩ : S64)]) := ⟨_, rfl⟩
         replace H : (dredgeref06_Fold.l1 k2 y479 t469 (wrap64 (x7_2 + 1))) = some r := by first | (rw [hy479]; with_reducible exact H) | (have H2_ := (Option.bind_some _ _).symm.trans H; rw [hy479]; with_reducible exact H2_) | (have H2_ := (Option.bind_some _ _).symm.trans H; with_reducible exact H2_) | with_reducible exact H | (rw [hy479]; exact H) | exact H
         have Ny479 := Aside0.mk hy479
         clear hy479
         have H' := Aside0.mk H
         clear H
         obtain ⟨Ao24, co24, eo24⟩ := Kd.R_slice HO_5.out
         subst eo24
         try go_wp2
         have n0_ := Aside0.mk (rD HO_3.out)
         have n1_ := Aside0.mk (rD HO_5.out)
         have n2_ := Aside0.mk (wD HB.out)
         clear HO_3
         clear HO_5
         clear HB
         have HO_3 := n0_
         have HO_5 := n1_
         have HB := n2_
         clear n0_ n1_ n2_
         have p477 : 0 ≤ (x7_2 : Int) := of_decide_eq_true (by first | (with_reducible assumption) | assumption)
         have q477 : x7_2 < (t469.length : Int) := of_decide_eq_true (by first | (with_reducible assumption) | assumption)
         obtain ⟨ad477, e477, hx477_0, hx477_1⟩ := at_T64 (rR HO_5.out).2.2 x7_2 p477 q477
         cases e477
         replace p477 := eq_true p477
         replace q477 := eq_true q477
         have p478 : 0 ≤ (x7_2 : Int) := of_decide_eq_true (by first | (with_reducible assumption) | assumption)
         have q478 : x7_2 < (t469.length : Int) := of_decide_eq_true (by first | (with_reducible assumption) | assumption)
         obtain ⟨ad478, e478, hx478_0, hx478_1⟩ := at_T64 (rR HO_5.out).2.2 x7_2 p478 q478
         obtain rfl : ad477 = ad478 := (by injection e478)
         replace p478 := eq_true p478
         replace q478 := eq_true q478
         refine start_ (n := 17) (S := fun w' => w'.cell? (ad477.add ((x7_2).toNat * 2)) = some (.int .i64 ((rd_T64 t469 x7_2).f0)) ∧ w'.cell? ⟨(ad477.add ((x7_2).toNat * 2)).block, (ad477.add ((x7_2).toNat * 2)).off + 1, none⟩ = some (.int .i64 ((rd_T64 t469 x7_2).f1)) ∧ w'.cell? (ad477.add ((x7_2).toNat * 2)) = some (.int .i64 ((rd_T64 t469 x7_2).f0)) ∧ w'.cell? ⟨(ad477.add ((x7_2).toNat * 2)).block, (ad477.add ((x7_2).toNat * 2)).off + 1, none⟩ = some (.int .i64 ((rd_T64 t469 x7_2).f1))) (ds := [14, 15]) #[Z,Z,Z,Z,Z,Z,Z,Z,Z,Z,Z,Z,Z,Z,Z,Z,Z] (by kernel_rfl) rfl rfl ⟨hx477_0, hx477_1, hx478_0, hx478_1⟩ (fun hHeld => ?_); refine with_tabW dredgeref06_Fold.tab11 dredgeref06_Fold.bits11 (fun HT_ HW_ => ?_)
         generalize wr.drew = w25 at HO_3 HO_5 HB hx477_0 hx477_1 hx478_0 hx478_1 hHeld ⊢
         refine run_ [.p 0, .p 1, .p 2, .p 3, .p 4, .p 7, .p 8, .p 9, .p 10, .t 5, .p 6, .t 11, .p 12, .p 13] 3 #[I,I,I,I,I,I,I,I,I,I,I,I,I,I,Z,Z,Z] HT_.out (fun c d v a w h => by cases d <;> exact h) hHeld rfl (by kernel_rfl) ?_
         repeat first
         | (refine kp_ (v := ?_) (b := ?_) rfl (.inl ⟨by rfl, ?_⟩) ?_ ?_; rotate_left 2; (intro w'; go_simp; with_reducible rfl); (simp only [Act.put, pu_, pz_, ps_, i64_w, i32_w]; rfl))
         | (refine kt_ (v := ?_) (b := ?_) rfl (.inl ⟨by rfl, ?_⟩) ?_ ?_; rotate_left 2; (rintro w' ⟨s0, s1, s2, s3⟩; go_simp; with_reducible rfl); (simp only [Act.put, pu_, pz_, ps_, i64_w, i32_w]; rfl))
         refine kd_ ?_
         refine last_ (i := 14) (N := some 60) #[I,I,I,I,I,I,I,I,I,I,I,I,I,I,I,Z,Z] rfl rfl (one_of HT_.out (by kernel_rfl)) (by decide) (fun K hK => ?_)
         refine value_ (w1 := ?_) (v := ?_) (by rfl) rfl ?_ ?_
         rotate_left 2
         ·go_simp
          constructor
          ·rfl
          ·rfl
         refine hK.out _ _ ?_
         clear hK K
         refine norm_ (a' := ?_) ?_ ?_
         rotate_left
         ·show Act.put _ (some 60) _ = _
          simp only [Act.put, pu_, pz_, ps_, i64_w, i32_w]
          rfl
         refine last_ (i := 15) (N := some 61) #[I,I,I,I,I,I,I,I,I,I,I,I,I,I,I,I,Z] rfl rfl (one_of HT_.out (by kernel_rfl)) (by decide) (fun K hK => ?_)
         refine Kd.R_append_step k64 (w0 := w) w.heap.size (by rfl) (.tmp 46) (.tmp 60) 35 39 (.agg #[(.int .i64 0), (.int .i64 0)]) 16 rfl Tryz.underlying35 info64 rfl (by decide) (by omega) u3 x3_2 (⟨wrap64 (((rd_T64 t469 x7_2).f0) - 32), wrap64 (((rd_T64 t469 x7_2).f1) - 32)⟩ : S64) [.int .i64 (wrap64 (((rd_T64 t469 x7_2).f0) - 32)), .int .i64 (wrap64 (((rd_T64 t469 x7_2).f1) - 32))] (fun k_ => some k_ ≠ (.slice (some ad477) t469.length co24 : Value).ownBlock) (fun _ => False) rfl rfl ?aP (fun _ hk => hk.elim) ?aF ?aO ?aB ?aS ?aL ?_
         (case aP => exact k64_mkM _ _ _ (⟨wrap64 (((rd_T64 t469 x7_2).f0) - 32), wrap64 (((rd_T64 t469 x7_2).f1) - 32)⟩ : S64))
         (case aB => exact (by repeat (first | (with_reducible first | exact HB.out | apply wA | apply wN | apply wD) | exact HB.out)))
         (case aF => exact (fun k_ hk => Kd.fresh' (rL (by (with_reducible repeat (first | apply rA | apply rN | apply rD)); exact HO_5.out)) k_ hk))
         (case aO => exact (by (with_reducible repeat (first | apply rA | apply rN | apply rD)); exact HO_3.out))
         (case aS => exact (below_size (by repeat (first | (with_reducible first | exact HB.out | apply wA | apply wN | apply wD) | exact HB.out))))
         (case aL => have := LMc23.out; omega)
         intro v480 w26 ho hb hg hat
         rw [← Ny479.out] at ho
         have n0_ := Aside0.mk (Kd.R_after (ok := (fun _ => True)) (by (with_reducible repeat (first | apply rA | apply rN | apply rD)); exact Kd.R_mono HO_5.out (fun _ hk => ⟨trivial, hk⟩)) hg hat)
         have n1_ := Aside0.mk (hb)
         have n2_ := Aside0.mk (ho)
         clear HO_5
         clear HB
         clear HO_3
         have HO_5 := n0_
         have HB := n1_
         have HO481 := n2_
         clear n0_ n1_ n2_
         clear ho hb hg hat
         refine hK.out _ _ ?_
         clear hK K
         refine norm_ (a' := ?_) ?_ ?_
         rotate_left
         ·show Act.put _ (some 61) _ = _
          simp only [Act.put, pu_, pz_, ps_, i64_w, i32_w]
          rfl
         refine pure_ (i := 16) (N := some 3) (v := ?_) (a' := ?_) #[I,I,I,I,I,I,I,I,I,I,I,I,I,I,I,I,I] rfl rfl (any_of HT_.out (by kernel_rfl)) (fun _ _ _ h => h) (Or.inl ⟨by rfl, ?_⟩) ?_ ?_
         rotate_left
         ·intro w'
          go_simp
          with_reducible rfl
         rotate_left
         ·simp only [Act.put, pu_, pz_, ps_, i64_w, i32_w]
          rfl
         refine done_ (done_of HT_.out (by kernel_rfl)) ?_
         try go_wp2
         go_roundg k2
         case measure => have := HK1.out; have := HK2.out; omega
         case rel => exact ⟨(y479), (wrap64 (x7_2 + 1)), (by first | rfl | (simp; done) | (simp [*]; done)), H', ⟨by have := HK1.out; have := HK2.out; omega⟩, ⟨by (with_reducible repeat (first | apply rA | apply rN | apply rD)); exact HO481.out⟩, ⟨by (with_reducible repeat (first | apply rA | apply rN | apply rD)); exact Kd.R_mono HO_5.out (fun _ hk => hk.2)⟩, ⟨by repeat (first | (with_reducible first | exact HB.out | apply wA | apply wN | apply wD) | exact HB.out)⟩⟩
        ·rw [if_neg c23] at H
         exact absurd H (by simp)
       ·rw [if_neg c22] at H
        exact absurd H (by simp)
      ·rw [if_neg c21] at H
       have c21b0 : decide (x7_2 < (t469.length : Int)) = false := decide_eq_false c21
       clear c21
       replace H := Option.bind_eq_some_iff.mp H
       obtain ⟨t482, A270, H⟩ := H
       replace H : (some t482) = some r := H
       have A27 := Aside0.mk A270
       clear A270
       obtain rfl := Option.some.inj H
       obtain ⟨Ao28, co28, eo28⟩ := Kd.R_slice HO_5.out
       subst eo28
       obtain ⟨Ao29, co29, eo29⟩ := Kd.R_slice HO_3.out
       subst eo29
       go_wp2_with (first | ((with_reducible refine gate_callee (f := 189) rfl ?_); refine goesL_ (some 63) rfl rfl Tryz.func189 (by kernel_rfl) rfl #[.slice Ao29 x3_2.length co29] rfl (by (try simp only [List.map_toArray, List.map_cons, List.map_nil]); first | done | rfl | (simp only [List.length_drop, List.length_take]; rfl)) ?_; (with_reducible refine (dredgeref06_Class.calls k2 _ _ x3_2 t482 _ ?side1 ?side2 A27.out).mono ?_); (case side1 => repeat (first | exact (rR HO_3.out).2.2 | (with_reducible refine cA ?_ _) | (with_reducible refine cN ?_ _) | (with_reducible refine cD ?_))); (case side2 => exact (rR HO_3.out).2.1); rintro e w30 ⟨v483, rfl, ho0, hb⟩; refine ⟨_, rfl, ?_⟩; have n0_ := Aside0.mk (rE (by (with_reducible repeat (first | apply rA | apply rN | apply rD)); exact HO_3.out) (rB ho0) hb); have n1_ := Aside0.mk (rE (by (with_reducible repeat (first | apply rA | apply rN | apply rD)); exact HO_5.out) (rB ho0) hb); have n2_ := Aside0.mk (Kd.R_lower (rW (rW ho0 (rL (by (with_reducible repeat (first | apply rA | apply rN | apply rD)); exact HO_3.out))) (rL (by (with_reducible repeat (first | apply rA | apply rN | apply rD)); exact HO_5.out))) (below_size (by repeat (first | (with_reducible first | exact HB.out | apply wA | apply wN | apply wD) | exact HB.out)))); have n3_ := Aside0.mk (below_step (by repeat (first | (with_reducible first | exact HB.out | apply wA | apply wN | apply wD) | exact HB.out)) hb); clear HO_3; clear HO_5; clear HB; have HO_3 := n0_; have HO_5 := n1_; have HO484 := n2_; have HB := n3_; clear n0_ n1_ n2_ n3_; (try clear hb); (try clear hb2); (try clear hk); (try clear hi); (try clear ho0)))
       go_ret
       exact ⟨_, by first | rfl | (simp [errW_none, errW_some] <;> rfl) | (simp [*, errW_none, errW_some] <;> rfl), by (with_reducible repeat (first | apply rA | apply rN | apply rD)); exact Kd.R_mono HO484.out (fun _ hk => trivial), by repeat (first | (with_reducible first | exact HB.out | apply wA | apply wN | apply wD) | exact HB.out)⟩
end Go.Proofs.YtamhkdlcoghdbaaGreatDoor.PCls
