/- Out of YPClsx11 (wip/tools/prune2.py): the declarations alone that the texts of the trees name. -/
import Derived.Test.YtamhkdlcoghdbaaGreatDoorKMQWp
import Derived.Test.YtamhkdlcoghdbaaGreatDoorKQYPClsx10
namespace Go.Proofs.YtamhkdlcoghdbaaGreatDoor.PCls
open Go.RowKit Go.Proofs.YtamhkdlcoghdbaaGreatDoorW.PrintWords Go.Proofs.YtamhkdlcoghdbaaGreatDoorW.PrintLast Go.Proofs.YtamhkdlcoghdbaaGreatDoorW.PrintMore
attribute [local go_sem] max2_int min2_int max_two min_two max_three min_three max_four min_four   -- for this text's walks alone
set_option linter.unusedVariables false
set_option linter.unusedSimpArgs false
def dredgeref06_Class.l0 : Nat → List (S64) → List (S64) → Int → Option ((List (S64)))
 | 0, _, _, _ => none
 | k + 1, x3, x4, x5 => if x5 < (x4.length : Int) then (if (wrap64 ((x3.length : Int) - 1)) ≥ 0 then (if 0 ≤ x5 then (if 0 ≤ (wrap64 ((x3.length : Int) - 1)) then (if (wrap64 ((x3.length : Int) - 1)) < (x3.length : Int) then (if ((rd_T64 x4 x5).f0) ≤ ((rd_T64 x3 (wrap64 ((x3.length : Int) - 1))).f1) then (dredgeref06_Class.l0 k (x3.set ((wrap64 ((x3.length : Int) - 1)) : Int).toNat (⟨(rd_T64 x3 (wrap64 ((x3.length : Int) - 1))).f0, mx ((rd_T64 x3 (wrap64 ((x3.length : Int) - 1))).f1) ((rd_T64 x4 x5).f1)⟩ : S64)) x4 (wrap64 (x5 + 1))) else (if (wrap64 (((rd_T64 x4 x5).f0) - 1)) = ((rd_T64 x3 (wrap64 ((x3.length : Int) - 1))).f1) then (dredgeref06_Class.l0 k (x3.set ((wrap64 ((x3.length : Int) - 1)) : Int).toNat (⟨(rd_T64 x3 (wrap64 ((x3.length : Int) - 1))).f0, mx ((rd_T64 x3 (wrap64 ((x3.length : Int) - 1))).f1) ((rd_T64 x4 x5).f1)⟩ : S64)) x4 (wrap64 (x5 + 1))) else (if x3.length < 8796093022208 then (dredgeref06_Class.l0 k (x3 ++ [(⟨(rd_T64 x4 x5).f0, (rd_T64 x4 x5).f1⟩ : S64)]) x4 (wrap64 (x5 + 1))) else (none)))) else (none)) else (none)) else (none)) else (if 0 ≤ x5 then (if x3.length < 8796093022208 then (dredgeref06_Class.l0 k (x3 ++ [(⟨(rd_T64 x4 x5).f0, (rd_T64 x4 x5).f1⟩ : S64)]) x4 (wrap64 (x5 + 1))) else (none)) else (none))) else (some x3)
def dredgeref06_Class.f (k : Nat) (l0 : List (S64)) : Option ((List (S64))) := (dredgeref06_sorted.f k l0).bind fun t219 => (dredgeref06_Class.l0 k ([] : List (S64)) t219 0)
def dredgeref06_Class.T7 : Bool × List (List Nat × List Nat) := (true, [([], []), ([0], [0]), ([1], [1]), ([2], [2]), ([2], [2]), ([3, 4, 2], [2, 3, 4]), ([5, 2], [2, 5]), ([6, 2], [2, 6]), ([2], [2]), ([2], [2]), ([8, 9, 2], [2, 8, 9]), ([10, 2], [2, 10]), ([11, 2], [2, 11]), ([7, 12, 2], [2, 7, 12]), ([13, 2, 2], [2, 13]), ([14], [14]), ([14], [14]), ([15, 16, 14], [14, 15, 16]), ([17, 14], [14, 17]), ([18, 14], [14, 18]), ([19, 14], [14, 19]), ([14], [14]), ([14], [14]), ([21, 22, 14], [14, 21, 22]), ([23, 14], [14, 23]), ([24, 14], [14, 24]), ([20, 25, 14], [14, 20, 25]), ([14, 26, 2], [2, 14, 26]), ([2, 27], [2, 27])])
def dredgeref06_Class.B7 : List Nat := [0, 1, 3, 7, 7, 31, 63, 127, 7, 7, 775, 1799, 3847, 8191, 16383, 32767, 32767, 131071, 262143, 524287, 1048575, 32767, 32767, 6324223, 14712831, 31490047, 67108863, 134217727, 268435455]
theorem dredgeref06_Class.tab7 : rtab .any (opsOf Tryz.f189 7) = dredgeref06_Class.T7 := by kernel_rfl
theorem dredgeref06_Class.bits7 : waitsOk dredgeref06_Class.T7.2 dredgeref06_Class.B7 = true := by kernel_rfl
def dredgeref06_Class.T8 : Bool × List (List Nat × List Nat) := (true, [([], []), ([], []), ([], []), ([], []), ([2, 3], [2, 3]), ([4], [4]), ([5], [5]), ([], []), ([], []), ([7, 8], [7, 8]), ([9], [9]), ([10], [10]), ([6, 11], [6, 11]), ([0, 1, 0, 1, 2, 3, 4, 5, 6, 7, 8, 9, 10, 11, 12], [0, 1]), ([13, 0, 1, 2, 3, 4, 5, 6, 7, 8, 9, 10, 11, 12], [13]), ([14, 12, 0, 1, 2, 3, 4, 5, 6, 7, 8, 9, 10, 11, 12], [12, 14])])
def dredgeref06_Class.B8 : List Nat := [0, 0, 0, 0, 12, 28, 60, 0, 0, 384, 896, 1920, 4092, 8191, 16383, 32767]
theorem dredgeref06_Class.tab8 : rtab .any (opsOf Tryz.f189 8) = dredgeref06_Class.T8 := by kernel_rfl
theorem dredgeref06_Class.bits8 : waitsOk dredgeref06_Class.T8.2 dredgeref06_Class.B8 = true := by kernel_rfl
set_option maxHeartbeats 8000000 in
set_option maxRecDepth 100000 in
theorem dredgeref06_Class.calls (k : Nat) (A0 : Option Addr) (c0 : Nat) (l0 : List (S64)) (r : List (S64)) (w : World) (hr0 : Kd.C k64 w A0 l0.length l0) (hc0 : l0.length ≤ c0) (h : dredgeref06_Class.f k l0 = some r) :
  Calls Tryz.prog 189 #[.slice A0 l0.length c0] w fun e w' => ∃ v0_ : Value, e = .returned (v0_) ∧ Kd.R k64 39 w' w.heap.size (fun _ => True) v0_ r ∧ Below w.heap.size w w' := by
 have hu64 := Tryz.underlying39
 have HR0 := Aside0.mk hr0
 have HC0 := Aside0.mk hc0
 clear hr0 hc0
 have HB := Aside0.mk (Below.refl w.heap.size w)
 have H : ((dredgeref06_sorted.f k l0).bind fun t219 => (dredgeref06_Class.l0 k ([] : List (S64)) t219 0)) = some r := h
 clear h
 replace H := Option.bind_eq_some_iff.mp H
 obtain ⟨t219, A20, H⟩ := H
 replace H : (dredgeref06_Class.l0 k ([] : List (S64)) t219 0) = some r := H
 have A2 := Aside0.mk A20
 clear A20
 have H' := Aside0.mk H
 clear H
 go_enter Tryz.func189, Tryz.ntmps189
 go_wp2_with (first | ((with_reducible refine gate_callee (f := 209) rfl ?_); refine goesL_ (some 8) rfl rfl Tryz.func209 (by kernel_rfl) rfl #[.slice A0 l0.length c0] rfl (by (try simp only [List.map_toArray, List.map_cons, List.map_nil]); first | done | rfl | (simp only [List.length_drop, List.length_take]; rfl)) ?_; (with_reducible refine (dredgeref06_sorted.calls k _ _ l0 t219 _ ?side1 ?side2 A2.out).mono ?_); (case side1 => repeat (first | exact HR0.out | (with_reducible refine cA ?_ _) | (with_reducible refine cN ?_ _) | (with_reducible refine cD ?_))); (case side2 => exact HC0.out); rintro e w3 ⟨v220, rfl, ho0, hb⟩; refine ⟨_, rfl, ?_⟩; have n0_ := Aside0.mk (Kd.R_lower ho0 (below_size (by repeat (first | (with_reducible first | exact HB.out | apply wA | apply wN | apply wD) | exact HB.out)))); have n1_ := Aside0.mk (below_step (by repeat (first | (with_reducible first | exact HB.out | apply wA | apply wN | apply wD) | exact HB.out)) hb); clear HB; have HO221 := n0_; have HB := n1_; clear n0_ n1_; (try clear hb); (try clear hb2); (try clear hk); (try clear hi); (try clear ho0)))
 go_loopg [3, 5] k (fun kq v3 v5 w' => ∃ (x3_1 : List (S64)) (x4_1 : List (S64)) (x5_1 : Int), v5 = .int .i64 x5_1 ∧ Aside0 (dredgeref06_Class.l0 kq x3_1 x4_1 x5_1 = some r) ∧ Aside0 (kq ≤ k) ∧ Aside0 (Kd.R k64 39 w' w.heap.size (fun k_ => some k_ ≠ (v220 : Value).ownBlock) v3 x3_1) ∧ Aside0 (Kd.R k64 39 w' w.heap.size (fun k_ => some k_ ≠ (v3 : Value).ownBlock) v220 x4_1) ∧ Aside0 (Below w.heap.size w w'))
 case atStart => exact ⟨(([] : List (S64))), (t219), (0), (by first | rfl | (simp; done) | (simp [*]; done)), H', ⟨Nat.le_refl _⟩, ⟨by first | exact Kd.R_nil _ _ _ _ _ | exact Kd.N_nil _ _ _ _ _ | exact Kd.V_nil _ _ _ _ _ | exact Kd.Q_nil _ _ _ _ _ | exact Kd.S_nil _ _ _ _ _⟩, ⟨by (with_reducible repeat (first | apply rA | apply rN | apply rD)); exact Kd.R_mono HO221.out (fun _ hk => (by simp [Value.ownBlock]))⟩, ⟨by repeat (first | (with_reducible first | exact HB.out | apply wA | apply wN | apply wD) | exact HB.out)⟩⟩
 case round =>
  clear H'
  try clear c1
  try clear p2
  obtain ⟨x3_1, x4_1, x5_1, rfl, HA, HK1, HO_3, HO_4, HB⟩ := hrel
  cases gk with
  | zero => exact absurd HA.out (by simp [dredgeref06_Class.l0])
  | succ k1 =>
   have H := HA.out
   clear HA
   simp only [dredgeref06_Class.l0] at H
   by_cases c4 : x5_1 < (x4_1.length : Int)
   ·rw [if_pos c4] at H
    have c4b0 : decide (x5_1 < (x4_1.length : Int)) = true := decide_eq_true c4
    clear c4
    by_cases c5 : (wrap64 ((x3_1.length : Int) - 1)) ≥ 0
    ·rw [if_pos c5] at H
     have c5b0 : decide (0 ≤ (wrap64 ((x3_1.length : Int) - 1))) = true := decide_eq_true c5
     clear c5
     by_cases c6 : 0 ≤ x5_1
     ·rw [if_pos c6] at H
      have c6b0 : decide (0 ≤ x5_1) = true := decide_eq_true c6
      clear c6
      obtain ⟨ji7, hji7⟩ : ∃ j_ : Int, (wrap64 ((x3_1.length : Int) - 1)) = j_ := ⟨_, rfl⟩
      replace H : (if 0 ≤ (ji7) then (if (ji7) < (x3_1.length : Int) then (if ((rd_T64 x4_1 x5_1).f0) ≤ ((rd_T64 x3_1 (ji7)).f1) then (dredgeref06_Class.l0 k1 (x3_1.set ((ji7) : Int).toNat (⟨(rd_T64 x3_1 (ji7)).f0, mx ((rd_T64 x3_1 (ji7)).f1) ((rd_T64 x4_1 x5_1).f1)⟩ : S64)) x4_1 (wrap64 (x5_1 + 1))) else (if (wrap64 (((rd_T64 x4_1 x5_1).f0) - 1)) = ((rd_T64 x3_1 (ji7)).f1) then (dredgeref06_Class.l0 k1 (x3_1.set ((ji7) : Int).toNat (⟨(rd_T64 x3_1 (ji7)).f0, mx ((rd_T64 x3_1 (ji7)).f1) ((rd_T64 x4_1 x5_1).f1)⟩ : S64)) x4_1 (wrap64 (x5_1 + 1))) else (if x3_1.length < 8796093022208 then (dredgeref06_Class.l0 k1 (x3_1 ++ [(⟨(rd_T64 x4_1 x5_1).f0, (rd_T64 x4_1 x5_1).f1⟩ : S64)]) x4_1 (wrap64 (x5_1 + 1))) else (none)))) else (none)) else (none)) = some r := by first | (rw [hji7] at H; exact H) | (simp only [hji7] at H ⊢; exact H)
      (try rw [hji7] at c5b0)
      have hji7w : (IntKind.i64.wrap ((x3_1.length : Int) - 1)) = ji7 := (i64_w _).trans hji7
      by_cases c8 : 0 ≤ (ji7)
      ·rw [if_pos c8] at H
       have c8b0 : decide (0 ≤ (ji7)) = true := decide_eq_true c8
       clear c8
       by_cases c9 : (ji7) < (x3_1.length : Int)
       ·rw [if_pos c9] at H
        have c9b0 : decide ((ji7) < (x3_1.length : Int)) = true := decide_eq_true c9
        clear c9
        by_cases c10 : ((rd_T64 x4_1 x5_1).f0) ≤ ((rd_T64 x3_1 (ji7)).f1)
        ·rw [if_pos c10] at H
         have c10b0 : decide (((rd_T64 x4_1 x5_1).f0) ≤ ((rd_T64 x3_1 (ji7)).f1)) = true := decide_eq_true c10
         clear c10
         obtain ⟨ji11, hji11⟩ : ∃ j_ : Int, (mx ((rd_T64 x3_1 (ji7)).f1) ((rd_T64 x4_1 x5_1).f1)) = j_ := ⟨_, rfl⟩
         replace H : (dredgeref06_Class.l0 k1 (x3_1.set ((ji7) : Int).toNat (⟨(rd_T64 x3_1 (ji7)).f0, ji11⟩ : S64)) x4_1 (wrap64 (x5_1 + 1))) = some r := by first | (rw [hji11] at H; exact H) | (simp only [hji11] at H ⊢; exact H)
         have hji11_ : (if ((rd_T64 x3_1 (ji7)).f1) < ((rd_T64 x4_1 x5_1).f1) then ((rd_T64 x4_1 x5_1).f1) else ((rd_T64 x3_1 (ji7)).f1)) = ji11 := hji11
         obtain ⟨y226, hy226⟩ : ∃ y_ : List (S64), y_ = (x3_1.set ((ji7) : Int).toNat (⟨(rd_T64 x3_1 (ji7)).f0, ji11⟩ : S64)) := ⟨_, rfl⟩
         replace H : (dredgeref06_Class.l0 k1 y226 x4_1 (wrap64 (x5_1 + 1))) = some r := by first | (rw [hy226]; with_reducible exact H) | (have H2_ := (Option.bind_some _ _).symm.trans H; rw [hy226]; with_reducible exact H2_) | (have H2_ := (Option.bind_some _ _).symm.trans H; with_reducible exact H2_) | with_reducible exact H | (rw [hy226]; exact H) | exact H
         have Ny226 := Aside0.mk hy226
         clear hy226
         have H' := Aside0.mk H
         clear H
         obtain ⟨Ao13, co13, eo13⟩ := Kd.R_slice HO_4.out
         subst eo13
         obtain ⟨Ao14, co14, eo14⟩ := Kd.R_slice HO_3.out
         subst eo14
         try go_wp2
         have n0_ := Aside0.mk (rD HO_3.out)
         have n1_ := Aside0.mk (rD HO_4.out)
         have n2_ := Aside0.mk (wD HB.out)
         clear HO_3
         clear HO_4
         clear HB
         have HO_3 := n0_
         have HO_4 := n1_
         have HB := n2_
         clear n0_ n1_ n2_
         have p222 : 0 ≤ (x5_1 : Int) := of_decide_eq_true (by first | (with_reducible assumption) | assumption)
         have q222 : x5_1 < (x4_1.length : Int) := of_decide_eq_true (by first | (with_reducible assumption) | assumption)
         obtain ⟨ad222, e222, hx222_0, hx222_1⟩ := at_T64 (rR HO_4.out).2.2 x5_1 p222 q222
         cases e222
         replace p222 := eq_true p222
         replace q222 := eq_true q222
         have p223 : 0 ≤ ((ji7) : Int) := of_decide_eq_true (by first | (with_reducible assumption) | assumption)
         have q223 : (ji7) < (x3_1.length : Int) := of_decide_eq_true (by first | (with_reducible assumption) | assumption)
         obtain ⟨ad223, e223, hx223_0, hx223_1⟩ := at_T64 (rR HO_3.out).2.2 (ji7) p223 q223
         cases e223
         replace p223 := eq_true p223
         replace q223 := eq_true q223
         refine start_ (n := 29) (S := fun w' => w'.cell? (ad222.add ((x5_1).toNat * 2)) = some (.int .i64 ((rd_T64 x4_1 x5_1).f0)) ∧ w'.cell? ⟨(ad222.add ((x5_1).toNat * 2)).block, (ad222.add ((x5_1).toNat * 2)).off + 1, none⟩ = some (.int .i64 ((rd_T64 x4_1 x5_1).f1)) ∧ w'.cell? (ad223.add (((ji7)).toNat * 2)) = some (.int .i64 ((rd_T64 x3_1 (ji7)).f0)) ∧ w'.cell? ⟨(ad223.add (((ji7)).toNat * 2)).block, (ad223.add (((ji7)).toNat * 2)).off + 1, none⟩ = some (.int .i64 ((rd_T64 x3_1 (ji7)).f1))) (ds := []) #[Z,Z,Z,Z,Z,Z,Z,Z,Z,Z,Z,Z,Z,Z,Z,Z,Z,Z,Z,Z,Z,Z,Z,Z,Z,Z,Z,Z,Z] (by kernel_rfl) rfl rfl ⟨hx222_0, hx222_1, hx223_0, hx223_1⟩ (fun hHeld => ?_); refine with_tabW dredgeref06_Class.tab7 dredgeref06_Class.bits7 (fun HT_ HW_ => ?_)
         generalize wr.drew = w15 at HO_3 HO_4 HB hx222_0 hx222_1 hx223_0 hx223_1 hHeld ⊢
         refine run_ [.p 0, .p 1, .p 2, .p 3, .p 4, .p 5, .p 6, .p 8, .p 9, .p 10, .p 11, .t 7, .t 12, .p 13, .p 14, .p 15, .p 16, .p 17, .p 18, .p 19, .p 20, .p 21, .p 22, .p 23, .p 24, .p 25, .p 26, .p 27, .p 28] 0 #[I,I,I,I,I,I,I,I,I,I,I,I,I,I,I,I,I,I,I,I,I,I,I,I,I,I,I,I,I] HT_.out (fun c d v a w h => by cases d <;> exact h) hHeld rfl (by kernel_rfl) ?_
         repeat first
         | (refine kp_ (v := ?_) (b := ?_) rfl (.inl ⟨by rfl, ?_⟩) ?_ ?_; rotate_left 2; (intro w'; go_simp; with_reducible rfl); (simp only [Act.put, pu_, pz_, ps_, i64_w, i32_w]; rfl))
         | (refine kp_ (v := undef) (b := ?_) rfl (.inr ⟨by rfl, rfl⟩) ?_ ?_; rotate_left; (simp only [Act.put, pu_, pz_, ps_, i64_w, i32_w]; rfl))
         | (refine kt_ (v := ?_) (b := ?_) rfl (.inl ⟨by rfl, ?_⟩) ?_ ?_; rotate_left 2; (rintro w' ⟨s0, s1, s2, s3⟩; go_simp; with_reducible rfl); (simp only [Act.put, pu_, pz_, ps_, i64_w, i32_w]; rfl))
         refine kd_ ?_
         refine done_ (done_of HT_.out (by kernel_rfl)) ?_
         try go_wp2
         have n0_ := Aside0.mk (rD HO_3.out)
         have n1_ := Aside0.mk (rD HO_4.out)
         have n2_ := Aside0.mk (wD HB.out)
         clear HO_3
         clear HO_4
         clear HB
         have HO_3 := n0_
         have HO_4 := n1_
         have HB := n2_
         clear n0_ n1_ n2_
         have p224 : 0 ≤ ((ji7) : Int) := of_decide_eq_true (by first | (with_reducible assumption) | assumption)
         have q224 : (ji7) < (x3_1.length : Int) := of_decide_eq_true (by first | (with_reducible assumption) | assumption)
         obtain ⟨ad224, e224, hx224_0, hx224_1⟩ := at_T64 (rR HO_3.out).2.2 (ji7) p224 q224
         obtain rfl : ad223 = ad224 := (by injection e224)
         replace p224 := eq_true p224
         replace q224 := eq_true q224
         have p225 : 0 ≤ (x5_1 : Int) := of_decide_eq_true (by first | (with_reducible assumption) | assumption)
         have q225 : x5_1 < (x4_1.length : Int) := of_decide_eq_true (by first | (with_reducible assumption) | assumption)
         obtain ⟨ad225, e225, hx225_0, hx225_1⟩ := at_T64 (rR HO_4.out).2.2 x5_1 p225 q225
         obtain rfl : ad222 = ad225 := (by injection e225)
         replace p225 := eq_true p225
         replace q225 := eq_true q225
         have p12 : 0 ≤ ((ji7) : Int) := of_decide_eq_true (by first | (with_reducible assumption) | assumption)
         have q12 : ((ji7) : Int) < ((x3_1.length : Int) : Int) := of_decide_eq_true (by first | (with_reducible assumption) | assumption)
         obtain ⟨go12, co12, eo12, gb12, gl12, cl12, HG12⟩ := Kd.R_form HO_3.out (by omega)
         (first | cases eo12 | (injection eo12 with ea_ en_ ec_; (first | subst ea_ | (injection ea_ with ea_; subst ea_)); subst ec_; clear en_))
         have GB12 := Aside0.mk gb12
         have GG12 := Aside0.mk HG12
         clear gb12 gl12 HG12
         (first | simp only [add_plain] at hx223_0 | skip)
         (first | simp only [add_plain] at hx223_1 | skip)
         (first | simp only [add_plain] at hx224_0 | skip)
         (first | simp only [add_plain] at hx224_1 | skip)
         obtain ⟨ce12, hcl12, hM12, hcc12, hfr12⟩ := Kd.R_elem HO_3.out z64 ((ji7) : Int) p12 q12
         obtain rfl := k64_openM hM12
         have hx12_0 : World.cell? _ ⟨go12, ((ji7) : Int).toNat * 2, none⟩ = some (.int .i64 ((rd_T64 x3_1 (ji7)).f0)) := hcc12 0 _ rfl
         have hx12_1 : World.cell? _ ⟨go12, ((ji7) : Int).toNat * 2 + 1, none⟩ = some (.int .i64 ((rd_T64 x3_1 (ji7)).f1)) := hcc12 1 _ rfl
         have hf12_0 : World.frozen? _ ⟨go12, ((ji7) : Int).toNat * 2, none⟩ = false := hfr12 0
         have hf12_1 : World.frozen? _ ⟨go12, ((ji7) : Int).toNat * 2 + 1, none⟩ = false := hfr12 1
         clear hcl12 hcc12 hfr12 hM12
         replace p12 := eq_true p12
         replace q12 := eq_true q12
         obtain ⟨ce17, hcl17, hM17, hcc17, hfr17⟩ := Kd.R_elem HO_3.out z64 ((ji7) : Int) (of_decide_eq_true (by first | (with_reducible assumption) | assumption)) (by have h_ : ((ji7) : Int) < ((x3_1.length : Int) : Int) := of_decide_eq_true (by first | (with_reducible assumption) | assumption); first | exact h_ | (have e_ := (rR HO_3.out).1; omega) | simpa using h_)
         obtain rfl := k64_openM hM17
         have HP17 := (Kd.R_seg HO_3.out ((ji7) : Int) (of_decide_eq_true (by first | (with_reducible assumption) | assumption)) (by have h_ : ((ji7) : Int) < ((x3_1.length : Int) : Int) := of_decide_eq_true (by first | (with_reducible assumption) | assumption); first | exact h_ | (have e_ := (rR HO_3.out).1; omega) | simpa using h_) (seg := [.int .i64 ji11]) (j := 1) hcl17 hcc17 (show 2 ≤ 2 from by decide) (x' := (⟨(rd_T64 x3_1 (ji7)).f0, ji11⟩ : S64)) (k64_mkM _ _ _ (⟨(rd_T64 x3_1 (ji7)).f0, ji11⟩ : S64) ) (fun _ hk => hk)).1
         rw [← Ny226.out] at HP17
         have HQ17 := Aside0.mk HP17
         clear hcl17 hcc17 hfr17 hM17 HP17
         refine start_ (n := 16) (S := fun w' => w'.cell? ⟨go12, ((ji7)).toNat * 2, none⟩ = some (.int .i64 ((rd_T64 x3_1 (ji7)).f0)) ∧ w'.cell? ⟨go12, ((ji7)).toNat * 2 + 1, none⟩ = some (.int .i64 ((rd_T64 x3_1 (ji7)).f1)) ∧ w'.cell? (ad222.add ((x5_1).toNat * 2)) = some (.int .i64 ((rd_T64 x4_1 x5_1).f0)) ∧ w'.cell? ⟨(ad222.add ((x5_1).toNat * 2)).block, (ad222.add ((x5_1).toNat * 2)).off + 1, none⟩ = some (.int .i64 ((rd_T64 x4_1 x5_1).f1))) (ds := [15]) #[Z,Z,Z,Z,Z,Z,Z,Z,Z,Z,Z,Z,Z,Z,Z,Z] (by kernel_rfl) rfl rfl ⟨hx224_0, hx224_1, hx225_0, hx225_1⟩ (fun hHeld => ?_); refine with_tabW dredgeref06_Class.tab8 dredgeref06_Class.bits8 (fun HT_ HW_ => ?_)
         generalize w15.drew = w16 at HO_3 HO_4 HB GG12 HQ17 hf12_0 hf12_1 hx12_0 hx12_1 hx223_0 hx223_1 hx224_0 hx224_1 hx225_0 hx225_1 hHeld ⊢
         refine run_ [.p 0, .p 1, .p 2, .p 3, .p 4, .p 5, .p 7, .p 8, .p 9, .p 10, .t 6, .t 11, .p 12, .p 13, .p 14] 1 #[I,I,I,I,I,I,I,I,I,I,I,I,I,I,I,Z] HT_.out (fun c d v a w h => by cases d <;> exact h) hHeld rfl (by kernel_rfl) ?_
         repeat first
         | (refine kp_ (v := ?_) (b := ?_) rfl (.inl ⟨by rfl, ?_⟩) ?_ ?_; rotate_left 2; (intro w'; go_simp; with_reducible rfl); (simp only [Act.put, pu_, pz_, ps_, i64_w, i32_w]; rfl))
         | (refine kt_ (v := ?_) (b := ?_) rfl (.inl ⟨by rfl, ?_⟩) ?_ ?_; rotate_left 2; (rintro w' ⟨s0, s1, s2, s3⟩; go_simp; with_reducible rfl); (simp only [Act.put, pu_, pz_, ps_, i64_w, i32_w]; rfl))
         refine kd_ ?_
         refine last_ (i := 15) (N := none) #[I,I,I,I,I,I,I,I,I,I,I,I,I,I,I,I] rfl rfl (one_of HT_.out (by kernel_rfl)) (by decide) (fun K hK => ?_)
         refine skip_ (w1 := ?_) (by rfl) rfl ?_ ?_
         rotate_left
         ·go_simp
          rfl
         refine hK.out _ _ ?_
         clear hK K
         refine done_ (done_of HT_.out (by kernel_rfl)) ?_
         try go_wp2
         go_roundg k1
         case measure => have := HK1.out; omega
         case rel => exact ⟨(y226), (x4_1), (wrap64 (x5_1 + 1)), (by first | rfl | (simp; done) | (simp [*]; done)), H', ⟨by have := HK1.out; omega⟩, ⟨by (with_reducible repeat (first | apply rA | apply rN | apply rD)); exact HQ17.out⟩, ⟨by (with_reducible repeat (first | apply rA | apply rN | apply rD)); exact Kd.R_mono (Kd.R_far (p := ⟨go12, ((ji7) : Int).toNat * 2 + 1, none⟩) (Kd.R_mono HO_4.out (fun k_ hk => (⟨hk, fun e_ => hk (by rw [e_]; rfl)⟩ : _ ∧ k_ ≠ go12))) (fun _ hk => hk.2) (.int .i64 ji11)) (fun _ hk => hk.1)⟩, ⟨by repeat (first | (with_reducible first | exact HB.out | apply wA | apply wN | apply wD | refine wS ?_ GB12.out) | exact HB.out)⟩⟩
        ·rw [if_neg c10] at H
         have c10b0 : decide (((rd_T64 x4_1 x5_1).f0) ≤ ((rd_T64 x3_1 (ji7)).f1)) = false := decide_eq_false c10
         clear c10
         by_cases c18 : (wrap64 (((rd_T64 x4_1 x5_1).f0) - 1)) = ((rd_T64 x3_1 (ji7)).f1)
         ·rw [if_pos c18] at H
          have c18b0 : ((wrap64 (((rd_T64 x4_1 x5_1).f0) - 1)) == ((rd_T64 x3_1 (ji7)).f1)) = true := beq_iff_eq.mpr c18
          have c18b1 : ((wrap64 (((rd_T64 x4_1 x5_1).f0) - 1)) != ((rd_T64 x3_1 (ji7)).f1)) = false := bne_eq_false_iff_eq.mpr c18
          clear c18
          obtain ⟨ji19, hji19⟩ : ∃ j_ : Int, (mx ((rd_T64 x3_1 (ji7)).f1) ((rd_T64 x4_1 x5_1).f1)) = j_ := ⟨_, rfl⟩
          replace H : (dredgeref06_Class.l0 k1 (x3_1.set ((ji7) : Int).toNat (⟨(rd_T64 x3_1 (ji7)).f0, ji19⟩ : S64)) x4_1 (wrap64 (x5_1 + 1))) = some r := by first | (rw [hji19] at H; exact H) | (simp only [hji19] at H ⊢; exact H)
          have hji19_ : (if ((rd_T64 x3_1 (ji7)).f1) < ((rd_T64 x4_1 x5_1).f1) then ((rd_T64 x4_1 x5_1).f1) else ((rd_T64 x3_1 (ji7)).f1)) = ji19 := hji19
          obtain ⟨y231, hy231⟩ : ∃ y_ : List (S64), y_ = (x3_1.set ((ji7) : Int).toNat (⟨(rd_T64 x3_1 (ji7)).f0, ji19⟩ : S64)) := ⟨_, rfl⟩
          replace H : (dredgeref06_Class.l0 k1 y231 x4_1 (wrap64 (x5_1 + 1))) = some r := by first | (rw [hy231]; with_reducible exact H) | (have H2_ := (Option.bind_some _ _).symm.trans H; rw [hy231]; with_reducible exact H2_) | (have H2_ := (Option.bind_some _ _).symm.trans H; with_reducible exact H2_) | with_reducible exact H | (rw [hy231]; exact H) | exact H
          have Ny231 := Aside0.mk hy231
          clear hy231
          have H' := Aside0.mk H
          clear H
          obtain ⟨Ao21, co21, eo21⟩ := Kd.R_slice HO_4.out
          subst eo21
          obtain ⟨Ao22, co22, eo22⟩ := Kd.R_slice HO_3.out
          subst eo22
          try go_wp2
          have n0_ := Aside0.mk (rD HO_3.out)
          have n1_ := Aside0.mk (rD HO_4.out)
          have n2_ := Aside0.mk (wD HB.out)
          clear HO_3
          clear HO_4
          clear HB
          have HO_3 := n0_
          have HO_4 := n1_
          have HB := n2_
          clear n0_ n1_ n2_
          have p222 : 0 ≤ (x5_1 : Int) := of_decide_eq_true (by first | (with_reducible assumption) | assumption)
          have q222 : x5_1 < (x4_1.length : Int) := of_decide_eq_true (by first | (with_reducible assumption) | assumption)
          obtain ⟨ad222, e222, hx222_0, hx222_1⟩ := at_T64 (rR HO_4.out).2.2 x5_1 p222 q222
          cases e222
          replace p222 := eq_true p222
          replace q222 := eq_true q222
          have p223 : 0 ≤ ((ji7) : Int) := of_decide_eq_true (by first | (with_reducible assumption) | assumption)
          have q223 : (ji7) < (x3_1.length : Int) := of_decide_eq_true (by first | (with_reducible assumption) | assumption)
          obtain ⟨ad223, e223, hx223_0, hx223_1⟩ := at_T64 (rR HO_3.out).2.2 (ji7) p223 q223
          cases e223
          replace p223 := eq_true p223
          replace q223 := eq_true q223
          have p227 : 0 ≤ (x5_1 : Int) := of_decide_eq_true (by first | (with_reducible assumption) | assumption)
          have q227 : x5_1 < (x4_1.length : Int) := of_decide_eq_true (by first | (with_reducible assumption) | assumption)
          obtain ⟨ad227, e227, hx227_0, hx227_1⟩ := at_T64 (rR HO_4.out).2.2 x5_1 p227 q227
          obtain rfl : ad222 = ad227 := (by injection e227)
          replace p227 := eq_true p227
          replace q227 := eq_true q227
          have p228 : 0 ≤ ((ji7) : Int) := of_decide_eq_true (by first | (with_reducible assumption) | assumption)
          have q228 : (ji7) < (x3_1.length : Int) := of_decide_eq_true (by first | (with_reducible assumption) | assumption)
          obtain ⟨ad228, e228, hx228_0, hx228_1⟩ := at_T64 (rR HO_3.out).2.2 (ji7) p228 q228
          obtain rfl : ad223 = ad228 := (by injection e228)
          replace p228 := eq_true p228
          replace q228 := eq_true q228
          refine start_ (n := 29) (S := fun w' => w'.cell? (ad222.add ((x5_1).toNat * 2)) = some (.int .i64 ((rd_T64 x4_1 x5_1).f0)) ∧ w'.cell? ⟨(ad222.add ((x5_1).toNat * 2)).block, (ad222.add ((x5_1).toNat * 2)).off + 1, none⟩ = some (.int .i64 ((rd_T64 x4_1 x5_1).f1)) ∧ w'.cell? (ad223.add (((ji7)).toNat * 2)) = some (.int .i64 ((rd_T64 x3_1 (ji7)).f0)) ∧ w'.cell? ⟨(ad223.add (((ji7)).toNat * 2)).block, (ad223.add (((ji7)).toNat * 2)).off + 1, none⟩ = some (.int .i64 ((rd_T64 x3_1 (ji7)).f1)) ∧ w'.cell? (ad222.add ((x5_1).toNat * 2)) = some (.int .i64 ((rd_T64 x4_1 x5_1).f0)) ∧ w'.cell? ⟨(ad222.add ((x5_1).toNat * 2)).block, (ad222.add ((x5_1).toNat * 2)).off + 1, none⟩ = some (.int .i64 ((rd_T64 x4_1 x5_1).f1)) ∧ w'.cell? (ad223.add (((ji7)).toNat * 2)) = some (.int .i64 ((rd_T64 x3_1 (ji7)).f0)) ∧ w'.cell? ⟨(ad223.add (((ji7)).toNat * 2)).block, (ad223.add (((ji7)).toNat * 2)).off + 1, none⟩ = some (.int .i64 ((rd_T64 x3_1 (ji7)).f1))) (ds := []) #[Z,Z,Z,Z,Z,Z,Z,Z,Z,Z,Z,Z,Z,Z,Z,Z,Z,Z,Z,Z,Z,Z,Z,Z,Z,Z,Z,Z,Z] (by kernel_rfl) rfl rfl ⟨hx222_0, hx222_1, hx223_0, hx223_1, hx227_0, hx227_1, hx228_0, hx228_1⟩ (fun hHeld => ?_); refine with_tabW dredgeref06_Class.tab7 dredgeref06_Class.bits7 (fun HT_ HW_ => ?_)
          generalize wr.drew = w23 at HO_3 HO_4 HB hx222_0 hx222_1 hx223_0 hx223_1 hx227_0 hx227_1 hx228_0 hx228_1 hHeld ⊢
          refine run_ [.p 0, .p 1, .p 2, .p 3, .p 4, .p 5, .p 6, .p 8, .p 9, .p 10, .p 11, .t 7, .t 12, .p 13, .p 14, .p 15, .p 16, .p 17, .p 18, .p 21, .p 22, .p 23, .p 24, .t 19, .p 20, .t 25, .p 26, .p 27, .p 28] 0 #[I,I,I,I,I,I,I,I,I,I,I,I,I,I,I,I,I,I,I,I,I,I,I,I,I,I,I,I,I] HT_.out (fun c d v a w h => by cases d <;> exact h) hHeld rfl (by kernel_rfl) ?_
          repeat first
          | (refine kp_ (v := ?_) (b := ?_) rfl (.inl ⟨by rfl, ?_⟩) ?_ ?_; rotate_left 2; (intro w'; go_simp; with_reducible rfl); (simp only [Act.put, pu_, pz_, ps_, i64_w, i32_w]; rfl))
          | (refine kt_ (v := ?_) (b := ?_) rfl (.inl ⟨by rfl, ?_⟩) ?_ ?_; rotate_left 2; (rintro w' ⟨s0, s1, s2, s3, s4, s5, s6, s7⟩; go_simp; with_reducible rfl); (simp only [Act.put, pu_, pz_, ps_, i64_w, i32_w]; rfl))
          refine kd_ ?_
          refine done_ (done_of HT_.out (by kernel_rfl)) ?_
          try go_wp2
          have n0_ := Aside0.mk (rD HO_3.out)
          have n1_ := Aside0.mk (rD HO_4.out)
          have n2_ := Aside0.mk (wD HB.out)
          clear HO_3
          clear HO_4
          clear HB
          have HO_3 := n0_
          have HO_4 := n1_
          have HB := n2_
          clear n0_ n1_ n2_
          have p229 : 0 ≤ ((ji7) : Int) := of_decide_eq_true (by first | (with_reducible assumption) | assumption)
          have q229 : (ji7) < (x3_1.length : Int) := of_decide_eq_true (by first | (with_reducible assumption) | assumption)
          obtain ⟨ad229, e229, hx229_0, hx229_1⟩ := at_T64 (rR HO_3.out).2.2 (ji7) p229 q229
          obtain rfl : ad223 = ad229 := (by injection e229)
          replace p229 := eq_true p229
          replace q229 := eq_true q229
          have p230 : 0 ≤ (x5_1 : Int) := of_decide_eq_true (by first | (with_reducible assumption) | assumption)
          have q230 : x5_1 < (x4_1.length : Int) := of_decide_eq_true (by first | (with_reducible assumption) | assumption)
          obtain ⟨ad230, e230, hx230_0, hx230_1⟩ := at_T64 (rR HO_4.out).2.2 x5_1 p230 q230
          obtain rfl : ad222 = ad230 := (by injection e230)
          replace p230 := eq_true p230
          replace q230 := eq_true q230
          have p20 : 0 ≤ ((ji7) : Int) := of_decide_eq_true (by first | (with_reducible assumption) | assumption)
          have q20 : ((ji7) : Int) < ((x3_1.length : Int) : Int) := of_decide_eq_true (by first | (with_reducible assumption) | assumption)
          obtain ⟨go20, co20, eo20, gb20, gl20, cl20, HG20⟩ := Kd.R_form HO_3.out (by omega)
          (first | cases eo20 | (injection eo20 with ea_ en_ ec_; (first | subst ea_ | (injection ea_ with ea_; subst ea_)); subst ec_; clear en_))
          have GB20 := Aside0.mk gb20
          have GG20 := Aside0.mk HG20
          clear gb20 gl20 HG20
          (first | simp only [add_plain] at hx223_0 | skip)
          (first | simp only [add_plain] at hx223_1 | skip)
          (first | simp only [add_plain] at hx228_0 | skip)
          (first | simp only [add_plain] at hx228_1 | skip)
          (first | simp only [add_plain] at hx229_0 | skip)
          (first | simp only [add_plain] at hx229_1 | skip)
          obtain ⟨ce20, hcl20, hM20, hcc20, hfr20⟩ := Kd.R_elem HO_3.out z64 ((ji7) : Int) p20 q20
          obtain rfl := k64_openM hM20
          have hx20_0 : World.cell? _ ⟨go20, ((ji7) : Int).toNat * 2, none⟩ = some (.int .i64 ((rd_T64 x3_1 (ji7)).f0)) := hcc20 0 _ rfl
          have hx20_1 : World.cell? _ ⟨go20, ((ji7) : Int).toNat * 2 + 1, none⟩ = some (.int .i64 ((rd_T64 x3_1 (ji7)).f1)) := hcc20 1 _ rfl
          have hf20_0 : World.frozen? _ ⟨go20, ((ji7) : Int).toNat * 2, none⟩ = false := hfr20 0
          have hf20_1 : World.frozen? _ ⟨go20, ((ji7) : Int).toNat * 2 + 1, none⟩ = false := hfr20 1
          clear hcl20 hcc20 hfr20 hM20
          replace p20 := eq_true p20
          replace q20 := eq_true q20
          obtain ⟨ce25, hcl25, hM25, hcc25, hfr25⟩ := Kd.R_elem HO_3.out z64 ((ji7) : Int) (of_decide_eq_true (by first | (with_reducible assumption) | assumption)) (by have h_ : ((ji7) : Int) < ((x3_1.length : Int) : Int) := of_decide_eq_true (by first | (with_reducible assumption) | assumption); first | exact h_ | (have e_ := (rR HO_3.out).1; omega) | simpa using h_)
          obtain rfl := k64_openM hM25
          have HP25 := (Kd.R_seg HO_3.out ((ji7) : Int) (of_decide_eq_true (by first | (with_reducible assumption) | assumption)) (by have h_ : ((ji7) : Int) < ((x3_1.length : Int) : Int) := of_decide_eq_true (by first | (with_reducible assumption) | assumption); first | exact h_ | (have e_ := (rR HO_3.out).1; omega) | simpa using h_) (seg := [.int .i64 ji19]) (j := 1) hcl25 hcc25 (show 2 ≤ 2 from by decide) (x' := (⟨(rd_T64 x3_1 (ji7)).f0, ji19⟩ : S64)) (k64_mkM _ _ _ (⟨(rd_T64 x3_1 (ji7)).f0, ji19⟩ : S64) ) (fun _ hk => hk)).1
          rw [← Ny231.out] at HP25
          have HQ25 := Aside0.mk HP25
          clear hcl25 hcc25 hfr25 hM25 HP25
          refine start_ (n := 16) (S := fun w' => w'.cell? ⟨go20, ((ji7)).toNat * 2, none⟩ = some (.int .i64 ((rd_T64 x3_1 (ji7)).f0)) ∧ w'.cell? ⟨go20, ((ji7)).toNat * 2 + 1, none⟩ = some (.int .i64 ((rd_T64 x3_1 (ji7)).f1)) ∧ w'.cell? (ad222.add ((x5_1).toNat * 2)) = some (.int .i64 ((rd_T64 x4_1 x5_1).f0)) ∧ w'.cell? ⟨(ad222.add ((x5_1).toNat * 2)).block, (ad222.add ((x5_1).toNat * 2)).off + 1, none⟩ = some (.int .i64 ((rd_T64 x4_1 x5_1).f1))) (ds := [15]) #[Z,Z,Z,Z,Z,Z,Z,Z,Z,Z,Z,Z,Z,Z,Z,Z] (by kernel_rfl) rfl rfl ⟨hx229_0, hx229_1, hx230_0, hx230_1⟩ (fun hHeld => ?_); refine with_tabW dredgeref06_Class.tab8 dredgeref06_Class.bits8 (fun HT_ HW_ => ?_)
          generalize w23.drew = w24 at HO_3 HO_4 HB GG20 HQ25 hf20_0 hf20_1 hx20_0 hx20_1 hx223_0 hx223_1 hx228_0 hx228_1 hx229_0 hx229_1 hx230_0 hx230_1 hHeld ⊢
          refine run_ [.p 0, .p 1, .p 2, .p 3, .p 4, .p 5, .p 7, .p 8, .p 9, .p 10, .t 6, .t 11, .p 12, .p 13, .p 14] 1 #[I,I,I,I,I,I,I,I,I,I,I,I,I,I,I,Z] HT_.out (fun c d v a w h => by cases d <;> exact h) hHeld rfl (by kernel_rfl) ?_
          repeat first
          | (refine kp_ (v := ?_) (b := ?_) rfl (.inl ⟨by rfl, ?_⟩) ?_ ?_; rotate_left 2; (intro w'; go_simp; with_reducible rfl); (simp only [Act.put, pu_, pz_, ps_, i64_w, i32_w]; rfl))
          | (refine kt_ (v := ?_) (b := ?_) rfl (.inl ⟨by rfl, ?_⟩) ?_ ?_; rotate_left 2; (rintro w' ⟨s0, s1, s2, s3⟩; go_simp; with_reducible rfl); (simp only [Act.put, pu_, pz_, ps_, i64_w, i32_w]; rfl))
          refine kd_ ?_
          refine last_ (i := 15) (N := none) #[I,I,I,I,I,I,I,I,I,I,I,I,I,I,I,I] rfl rfl (one_of HT_.out (by kernel_rfl)) (by decide) (fun K hK => ?_)
          refine skip_ (w1 := ?_) (by rfl) rfl ?_ ?_
          rotate_left
          ·go_simp
           rfl
          refine hK.out _ _ ?_
          clear hK K
          refine done_ (done_of HT_.out (by kernel_rfl)) ?_
          try go_wp2
          go_roundg k1
          case measure => have := HK1.out; omega
          case rel => exact ⟨(y231), (x4_1), (wrap64 (x5_1 + 1)), (by first | rfl | (simp; done) | (simp [*]; done)), H', ⟨by have := HK1.out; omega⟩, ⟨by (with_reducible repeat (first | apply rA | apply rN | apply rD)); exact HQ25.out⟩, ⟨by (with_reducible repeat (first | apply rA | apply rN | apply rD)); exact Kd.R_mono (Kd.R_far (p := ⟨go20, ((ji7) : Int).toNat * 2 + 1, none⟩) (Kd.R_mono HO_4.out (fun k_ hk => (⟨hk, fun e_ => hk (by rw [e_]; rfl)⟩ : _ ∧ k_ ≠ go20))) (fun _ hk => hk.2) (.int .i64 ji19)) (fun _ hk => hk.1)⟩, ⟨by repeat (first | (with_reducible first | exact HB.out | apply wA | apply wN | apply wD | refine wS ?_ GB20.out) | exact HB.out)⟩⟩
         ·rw [if_neg c18] at H
          have c18b0 : ((wrap64 (((rd_T64 x4_1 x5_1).f0) - 1)) == ((rd_T64 x3_1 (ji7)).f1)) = false := beq_eq_false_iff_ne.mpr c18
          have c18b1 : ((wrap64 (((rd_T64 x4_1 x5_1).f0) - 1)) != ((rd_T64 x3_1 (ji7)).f1)) = true := bne_iff_ne.mpr c18
          by_cases c26 : x3_1.length < 8796093022208
          ·rw [if_pos c26] at H
           have LMc26 := Aside0.mk c26
           clear c26
           obtain ⟨y233, hy233⟩ : ∃ y_ : List (S64), y_ = (x3_1 ++ [(⟨(rd_T64 x4_1 x5_1).f0, (rd_T64 x4_1 x5_1).f1⟩ : S64)]) := ⟨_, rfl⟩
           replace H : (dredgeref06_Class.l0 k1 y233 x4_1 (wrap64 (x5_1 + 1))) = some r := by first | (rw [hy233]; with_reducible exact H) | (have H2_ := (Option.bind_some _ _).symm.trans H; rw [hy233]; with_reducible exact H2_) | (have H2_ := (Option.bind_some _ _).symm.trans H; with_reducible exact H2_) | with_reducible exact H | (rw [hy233]; exact H) | exact H
           have Ny233 := Aside0.mk hy233
           clear hy233
           have H' := Aside0.mk H
           clear H
           obtain ⟨Ao27, co27, eo27⟩ := Kd.R_slice HO_4.out
           subst eo27
           obtain ⟨Ao28, co28, eo28⟩ := Kd.R_slice HO_3.out
           subst eo28
           try go_wp2
           have n0_ := Aside0.mk (rD HO_3.out)
           have n1_ := Aside0.mk (rD HO_4.out)
           have n2_ := Aside0.mk (wD HB.out)
           clear HO_3
           clear HO_4
           clear HB
           have HO_3 := n0_
           have HO_4 := n1_
           have HB := n2_
           clear n0_ n1_ n2_
           have p222 : 0 ≤ (x5_1 : Int) := of_decide_eq_true (by first | (with_reducible assumption) | assumption)
           have q222 : x5_1 < (x4_1.length : Int) := of_decide_eq_true (by first | (with_reducible assumption) | assumption)
           obtain ⟨ad222, e222, hx222_0, hx222_1⟩ := at_T64 (rR HO_4.out).2.2 x5_1 p222 q222
           cases e222
           replace p222 := eq_true p222
           replace q222 := eq_true q222
           have p223 : 0 ≤ ((ji7) : Int) := of_decide_eq_true (by first | (with_reducible assumption) | assumption)
           have q223 : (ji7) < (x3_1.length : Int) := of_decide_eq_true (by first | (with_reducible assumption) | assumption)
           obtain ⟨ad223, e223, hx223_0, hx223_1⟩ := at_T64 (rR HO_3.out).2.2 (ji7) p223 q223
           cases e223
           replace p223 := eq_true p223
           replace q223 := eq_true q223
           have p227 : 0 ≤ (x5_1 : Int) := of_decide_eq_true (by first | (with_reducible assumption) | assumption)
           have q227 : x5_1 < (x4_1.length : Int) := of_decide_eq_true (by first | (with_reducible assumption) | assumption)
           obtain ⟨ad227, e227, hx227_0, hx227_1⟩ := at_T64 (rR HO_4.out).2.2 x5_1 p227 q227
           obtain rfl : ad222 = ad227 := (by injection e227)
           replace p227 := eq_true p227
           replace q227 := eq_true q227
           have p228 : 0 ≤ ((ji7) : Int) := of_decide_eq_true (by first | (with_reducible assumption) | assumption)
           have q228 : (ji7) < (x3_1.length : Int) := of_decide_eq_true (by first | (with_reducible assumption) | assumption)
           obtain ⟨ad228, e228, hx228_0, hx228_1⟩ := at_T64 (rR HO_3.out).2.2 (ji7) p228 q228
           obtain rfl : ad223 = ad228 := (by injection e228)
           replace p228 := eq_true p228
           replace q228 := eq_true q228
           refine start_ (n := 29) (S := fun w' => w'.cell? (ad222.add ((x5_1).toNat * 2)) = some (.int .i64 ((rd_T64 x4_1 x5_1).f0)) ∧ w'.cell? ⟨(ad222.add ((x5_1).toNat * 2)).block, (ad222.add ((x5_1).toNat * 2)).off + 1, none⟩ = some (.int .i64 ((rd_T64 x4_1 x5_1).f1)) ∧ w'.cell? (ad223.add (((ji7)).toNat * 2)) = some (.int .i64 ((rd_T64 x3_1 (ji7)).f0)) ∧ w'.cell? ⟨(ad223.add (((ji7)).toNat * 2)).block, (ad223.add (((ji7)).toNat * 2)).off + 1, none⟩ = some (.int .i64 ((rd_T64 x3_1 (ji7)).f1)) ∧ w'.cell? (ad222.add ((x5_1).toNat * 2)) = some (.int .i64 ((rd_T64 x4_1 x5_1).f0)) ∧ w'.cell? ⟨(ad222.add ((x5_1).toNat * 2)).block, (ad222.add ((x5_1).toNat * 2)).off + 1, none⟩ = some (.int .i64 ((rd_T64 x4_1 x5_1).f1)) ∧ w'.cell? (ad223.add (((ji7)).toNat * 2)) = some (.int .i64 ((rd_T64 x3_1 (ji7)).f0)) ∧ w'.cell? ⟨(ad223.add (((ji7)).toNat * 2)).block, (ad223.add (((ji7)).toNat * 2)).off + 1, none⟩ = some (.int .i64 ((rd_T64 x3_1 (ji7)).f1))) (ds := []) #[Z,Z,Z,Z,Z,Z,Z,Z,Z,Z,Z,Z,Z,Z,Z,Z,Z,Z,Z,Z,Z,Z,Z,Z,Z,Z,Z,Z,Z] (by kernel_rfl) rfl rfl ⟨hx222_0, hx222_1, hx223_0, hx223_1, hx227_0, hx227_1, hx228_0, hx228_1⟩ (fun hHeld => ?_); refine with_tabW dredgeref06_Class.tab7 dredgeref06_Class.bits7 (fun HT_ HW_ => ?_)
           generalize wr.drew = w29 at HO_3 HO_4 HB hx222_0 hx222_1 hx223_0 hx223_1 hx227_0 hx227_1 hx228_0 hx228_1 hHeld ⊢
           refine run_ [.p 0, .p 1, .p 2, .p 3, .p 4, .p 5, .p 6, .p 8, .p 9, .p 10, .p 11, .t 7, .t 12, .p 13, .p 14, .p 15, .p 16, .p 17, .p 18, .p 21, .p 22, .p 23, .p 24, .t 19, .p 20, .t 25, .p 26, .p 27, .p 28] 0 #[I,I,I,I,I,I,I,I,I,I,I,I,I,I,I,I,I,I,I,I,I,I,I,I,I,I,I,I,I] HT_.out (fun c d v a w h => by cases d <;> exact h) hHeld rfl (by kernel_rfl) ?_
           repeat first
           | (refine kp_ (v := ?_) (b := ?_) rfl (.inl ⟨by rfl, ?_⟩) ?_ ?_; rotate_left 2; (intro w'; go_simp; with_reducible rfl); (simp only [Act.put, pu_, pz_, ps_, i64_w, i32_w]; rfl))
           | (refine kt_ (v := ?_) (b := ?_) rfl (.inl ⟨by rfl, ?_⟩) ?_ ?_; rotate_left 2; (rintro w' ⟨s0, s1, s2, s3, s4, s5, s6, s7⟩; go_simp; with_reducible rfl); (simp only [Act.put, pu_, pz_, ps_, i64_w, i32_w]; rfl))
           refine kd_ ?_
           refine done_ (done_of HT_.out (by kernel_rfl)) ?_
           have p232 : 0 ≤ (x5_1 : Int) := of_decide_eq_true (by first | (with_reducible assumption) | assumption)
           have q232 : x5_1 < (x4_1.length : Int) := of_decide_eq_true (by first | (with_reducible assumption) | assumption)
           obtain ⟨ad232, e232, hx232_0, hx232_1⟩ := at_T64 (rR HO_4.out).2.2 x5_1 p232 q232
           obtain rfl : ad222 = ad232 := (by injection e232)
           replace p232 := eq_true p232
           replace q232 := eq_true q232
           try go_wp2_with (first | ((with_reducible refine gate_builtin (b := .append) (xs := #[.tmp 62, .tmp 67]) rfl ?_); at_builtin; refine Kd.R_append k64 (w0 := w) w.heap.size rfl (.tmp 62) (.tmp 67) 35 39 (.agg #[(.int .i64 0), (.int .i64 0)]) 16 rfl Tryz.underlying35 info64 rfl (by decide) (by omega) (.slice (some ad223) x3_1.length co28) x3_1 (⟨(rd_T64 x4_1 x5_1).f0, (rd_T64 x4_1 x5_1).f1⟩ : S64) [.int .i64 ((rd_T64 x4_1 x5_1).f0), .int .i64 ((rd_T64 x4_1 x5_1).f1)] (fun k_ => some k_ ≠ (.slice (some ad222) x4_1.length co27 : Value).ownBlock) (fun _ => False) rfl rfl ?aP (fun _ hk => hk.elim) ?aF ?aO ?aB ?aS ?aL ?_; (case aP => exact k64_mkM _ _ _ (⟨(rd_T64 x4_1 x5_1).f0, (rd_T64 x4_1 x5_1).f1⟩ : S64)); (case aB => exact (by repeat (first | (with_reducible first | exact HB.out | apply wA | apply wN | apply wD) | exact HB.out))); (case aF => exact (fun k_ hk => Kd.fresh' (rL (by (with_reducible repeat (first | apply rA | apply rN | apply rD)); exact HO_4.out)) k_ hk)); (case aO => exact (by (with_reducible repeat (first | apply rA | apply rN | apply rD)); exact HO_3.out)); (case aS => exact (below_size (by repeat (first | (with_reducible first | exact HB.out | apply wA | apply wN | apply wD) | exact HB.out)))); (case aL => have := LMc26.out; omega); intro v234 w30 ho hb hg hat; rw [← Ny233.out] at ho; have n0_ := Aside0.mk (Kd.R_after (ok := (fun _ => True)) (by (with_reducible repeat (first | apply rA | apply rN | apply rD)); exact Kd.R_mono HO_4.out (fun _ hk => ⟨trivial, hk⟩)) hg hat); have n1_ := Aside0.mk (hb); have n2_ := Aside0.mk (ho); clear HO_4; clear HB; clear HO_3; have HO_4 := n0_; have HB := n1_; have HO235 := n2_; clear n0_ n1_ n2_; clear ho hb hg hat))
           go_roundg k1
           case measure => have := HK1.out; omega
           case rel => exact ⟨(y233), (x4_1), (wrap64 (x5_1 + 1)), (by first | rfl | (simp; done) | (simp [*]; done)), H', ⟨by have := HK1.out; omega⟩, ⟨by (with_reducible repeat (first | apply rA | apply rN | apply rD)); exact HO235.out⟩, ⟨by (with_reducible repeat (first | apply rA | apply rN | apply rD)); exact Kd.R_mono HO_4.out (fun _ hk => hk.2)⟩, ⟨by repeat (first | (with_reducible first | exact HB.out | apply wA | apply wN | apply wD) | exact HB.out)⟩⟩
          ·rw [if_neg c26] at H
           exact absurd H (by simp)
       ·rw [if_neg c9] at H
        exact absurd H (by simp)
      ·rw [if_neg c8] at H
       exact absurd H (by simp)
     ·rw [if_neg c6] at H
      exact absurd H (by simp)
    ·rw [if_neg c5] at H
     have c5b0 : decide (0 ≤ (wrap64 ((x3_1.length : Int) - 1))) = false := decide_eq_false c5
     clear c5
     by_cases c31 : 0 ≤ x5_1
     ·rw [if_pos c31] at H
      have c31b0 : decide (0 ≤ x5_1) = true := decide_eq_true c31
      clear c31
      by_cases c32 : x3_1.length < 8796093022208
      ·rw [if_pos c32] at H
       have LMc32 := Aside0.mk c32
       clear c32
       obtain ⟨y237, hy237⟩ : ∃ y_ : List (S64), y_ = (x3_1 ++ [(⟨(rd_T64 x4_1 x5_1).f0, (rd_T64 x4_1 x5_1).f1⟩ : S64)]) := ⟨_, rfl⟩
       replace H : (dredgeref06_Class.l0 k1 y237 x4_1 (wrap64 (x5_1 + 1))) = some r := by first | (rw [hy237]; with_reducible exact H) | (have H2_ := (Option.bind_some _ _).symm.trans H; rw [hy237]; with_reducible exact H2_) | (have H2_ := (Option.bind_some _ _).symm.trans H; with_reducible exact H2_) | with_reducible exact H | (rw [hy237]; exact H) | exact H
       have Ny237 := Aside0.mk hy237
       clear hy237
       have H' := Aside0.mk H
       clear H
       obtain ⟨Ao33, co33, eo33⟩ := Kd.R_slice HO_4.out
       subst eo33
       obtain ⟨Ao34, co34, eo34⟩ := Kd.R_slice HO_3.out
       subst eo34
       try go_wp2
       have n0_ := Aside0.mk (rD HO_3.out)
       have n1_ := Aside0.mk (rD HO_4.out)
       have n2_ := Aside0.mk (wD HB.out)
       clear HO_3
       clear HO_4
       clear HB
       have HO_3 := n0_
       have HO_4 := n1_
       have HB := n2_
       clear n0_ n1_ n2_
       refine start_ (n := 29) (S := fun w' => True) (ds := []) #[Z,Z,Z,Z,Z,Z,Z,Z,Z,Z,Z,Z,Z,Z,Z,Z,Z,Z,Z,Z,Z,Z,Z,Z,Z,Z,Z,Z,Z] (by kernel_rfl) rfl rfl trivial (fun hHeld => ?_); refine with_tabW dredgeref06_Class.tab7 dredgeref06_Class.bits7 (fun HT_ HW_ => ?_)
       generalize wr.drew = w35 at HO_3 HO_4 HB hHeld ⊢
       refine run_ [.p 0, .p 1, .p 2, .p 3, .p 4, .p 5, .p 6, .p 7, .p 8, .p 9, .p 10, .p 11, .p 12, .p 13, .p 14, .p 15, .p 16, .p 17, .p 18, .p 19, .p 20, .p 21, .p 22, .p 23, .p 24, .p 25, .p 26, .p 27, .p 28] 0 #[I,I,I,I,I,I,I,I,I,I,I,I,I,I,I,I,I,I,I,I,I,I,I,I,I,I,I,I,I] HT_.out (fun c d v a w h => by cases d <;> exact h) hHeld rfl (by kernel_rfl) ?_
       repeat first
       | (refine kp_ (v := ?_) (b := ?_) rfl (.inl ⟨by rfl, ?_⟩) ?_ ?_; rotate_left 2; (intro w'; go_simp; with_reducible rfl); (simp only [Act.put, pu_, pz_, ps_, i64_w, i32_w]; rfl))
       | (refine kp_ (v := undef) (b := ?_) rfl (.inr ⟨by rfl, rfl⟩) ?_ ?_; rotate_left; (simp only [Act.put, pu_, pz_, ps_, i64_w, i32_w]; rfl))
       refine kd_ ?_
       refine done_ (done_of HT_.out (by kernel_rfl)) ?_
       have p236 : 0 ≤ (x5_1 : Int) := of_decide_eq_true (by first | (with_reducible assumption) | assumption)
       have q236 : x5_1 < (x4_1.length : Int) := of_decide_eq_true (by first | (with_reducible assumption) | assumption)
       obtain ⟨ad236, e236, hx236_0, hx236_1⟩ := at_T64 (rR HO_4.out).2.2 x5_1 p236 q236
       cases e236
       replace p236 := eq_true p236
       replace q236 := eq_true q236
       try go_wp2_with (first | ((with_reducible refine gate_builtin (b := .append) (xs := #[.tmp 62, .tmp 67]) rfl ?_); at_builtin; refine Kd.R_append k64 (w0 := w) w.heap.size rfl (.tmp 62) (.tmp 67) 35 39 (.agg #[(.int .i64 0), (.int .i64 0)]) 16 rfl Tryz.underlying35 info64 rfl (by decide) (by omega) (.slice Ao34 x3_1.length co34) x3_1 (⟨(rd_T64 x4_1 x5_1).f0, (rd_T64 x4_1 x5_1).f1⟩ : S64) [.int .i64 ((rd_T64 x4_1 x5_1).f0), .int .i64 ((rd_T64 x4_1 x5_1).f1)] (fun k_ => some k_ ≠ (.slice (some ad236) x4_1.length co33 : Value).ownBlock) (fun _ => False) rfl rfl ?aP (fun _ hk => hk.elim) ?aF ?aO ?aB ?aS ?aL ?_; (case aP => exact k64_mkM _ _ _ (⟨(rd_T64 x4_1 x5_1).f0, (rd_T64 x4_1 x5_1).f1⟩ : S64)); (case aB => exact (by repeat (first | (with_reducible first | exact HB.out | apply wA | apply wN | apply wD) | exact HB.out))); (case aF => exact (fun k_ hk => Kd.fresh' (rL (by (with_reducible repeat (first | apply rA | apply rN | apply rD)); exact HO_4.out)) k_ hk)); (case aO => exact (by (with_reducible repeat (first | apply rA | apply rN | apply rD)); exact HO_3.out)); (case aS => exact (below_size (by repeat (first | (with_reducible first | exact HB.out | apply wA | apply wN | apply wD) | exact HB.out)))); (case aL => have := LMc32.out; omega); intro v238 w36 ho hb hg hat; rw [← Ny237.out] at ho; have n0_ := Aside0.mk (Kd.R_after (ok := (fun _ => True)) (by (with_reducible repeat (first | apply rA | apply rN | apply rD)); exact Kd.R_mono HO_4.out (fun _ hk => ⟨trivial, hk⟩)) hg hat); have n1_ := Aside0.mk (hb); have n2_ := Aside0.mk (ho); clear HO_4; clear HB; clear HO_3; have HO_4 := n0_; have HB := n1_; have HO239 := n2_; clear n0_ n1_ n2_; clear ho hb hg hat))
       go_roundg k1
       case measure => have := HK1.out; omega
       case rel => exact ⟨(y237), (x4_1), (wrap64 (x5_1 + 1)), (by first | rfl | (simp; done) | (simp [*]; done)), H', ⟨by have := HK1.out; omega⟩, ⟨by (with_reducible repeat (first | apply rA | apply rN | apply rD)); exact HO239.out⟩, ⟨by (with_reducible repeat (first | apply rA | apply rN | apply rD)); exact Kd.R_mono HO_4.out (fun _ hk => hk.2)⟩, ⟨by repeat (first | (with_reducible first | exact HB.out | apply wA | apply wN | apply wD) | exact HB.out)⟩⟩
      ·rw [if_neg c32] at H
       exact absurd H (by simp)
     ·rw [if_neg c31] at H
      exact absurd H (by simp)
   ·rw [if_neg c4] at H
    have c4b0 : decide (x5_1 < (x4_1.length : Int)) = false := decide_eq_false c4
    clear c4
    obtain rfl := Option.some.inj H
    obtain ⟨Ao37, co37, eo37⟩ := Kd.R_slice HO_4.out
    subst eo37
    go_wp2
    go_ret
    exact ⟨_, by first | rfl | (simp [errW_none, errW_some] <;> rfl) | (simp [*, errW_none, errW_some] <;> rfl), by (with_reducible repeat (first | apply rA | apply rN | apply rD)); exact Kd.R_mono HO_3.out (fun _ hk => trivial), by repeat (first | (with_reducible first | exact HB.out | apply wA | apply wN | apply wD) | exact HB.out)⟩
end Go.Proofs.YtamhkdlcoghdbaaGreatDoor.PCls
