/- Out of ZPClsx2 (wip/tools/prune2.py): the declarations alone that the texts of the trees name. -/
import Derived.Test.YtamhkdlcoghdbaaGreatDoorKQZGOne
namespace Go.Proofs.YtamhkdlcoghdbaaGreatDoor.PCls
open Go.RowKit Go.Proofs.YtamhkdlcoghdbaaGreatDoorW.PrintWords Go.Proofs.YtamhkdlcoghdbaaGreatDoorW.PrintLast Go.Proofs.YtamhkdlcoghdbaaGreatDoorW.PrintMore
attribute [local go_sem] max2_int min2_int max_two min_two max_three min_three max_four min_four   -- for this text's walks alone
set_option linter.unusedVariables false
set_option linter.unusedSimpArgs false
def classes_joined.l0 : Nat → List (S64) → List (S64) → Int → Int → Option ((List (S64)))
 | 0, _, _, _, _ => none
 | k + 1, x3, x11, x12, x13 => if x13 < x12 then (if 0 ≤ x13 then (if x13 < (x11.length : Int) then (if (x3.length : Int) > 0 then (if 0 ≤ (wrap64 ((x3.length : Int) - 1)) then (if (wrap64 ((x3.length : Int) - 1)) < (x3.length : Int) then (if ((rd_T64 x11 x13).f0) ≤ ((rd_T64 x3 (wrap64 ((x3.length : Int) - 1))).f1) then (classes_joined.l0 k (x3.set ((wrap64 ((x3.length : Int) - 1)) : Int).toNat (⟨(rd_T64 x3 (wrap64 ((x3.length : Int) - 1))).f0, mx ((rd_T64 x3 (wrap64 ((x3.length : Int) - 1))).f1) ((rd_T64 x11 x13).f1)⟩ : S64)) x11 x12 (wrap64 (x13 + 1))) else (if (wrap64 (((rd_T64 x11 x13).f0) - 1)) = ((rd_T64 x3 (wrap64 ((x3.length : Int) - 1))).f1) then (classes_joined.l0 k (x3.set ((wrap64 ((x3.length : Int) - 1)) : Int).toNat (⟨(rd_T64 x3 (wrap64 ((x3.length : Int) - 1))).f0, mx ((rd_T64 x3 (wrap64 ((x3.length : Int) - 1))).f1) ((rd_T64 x11 x13).f1)⟩ : S64)) x11 x12 (wrap64 (x13 + 1))) else (if x3.length < 8796093022208 then (classes_joined.l0 k (x3 ++ [(⟨(rd_T64 x11 x13).f0, (rd_T64 x11 x13).f1⟩ : S64)]) x11 x12 (wrap64 (x13 + 1))) else (none)))) else (none)) else (none)) else (if x3.length < 8796093022208 then (classes_joined.l0 k (x3 ++ [(⟨(rd_T64 x11 x13).f0, (rd_T64 x11 x13).f1⟩ : S64)]) x11 x12 (wrap64 (x13 + 1))) else (none))) else (none)) else (none)) else (some x3)
def classes_joined.f (k : Nat) (l0 : List (S64)) : Option ((List (S64))) := (api_Range_103.f l0).bind fun t101 => ((api_Range_105.f t101).bind fun t104 => (classes_joined.l0 k ([] : List (S64)) t104 (t101.length : Int) 0))
def classes_joined.T8 : Bool × List (List Nat × List Nat) := (true, [([], []), ([0], [0]), ([1], [1]), ([2], [2]), ([3, 2], [2, 3]), ([2], [2]), ([2], [2]), ([6, 2], [2, 6]), ([5, 7, 2], [2, 5, 7]), ([8, 2], [2, 8]), ([9, 2], [2, 9]), ([4, 10, 2], [2, 4, 10]), ([2, 11], [2, 11]), ([12, 2], [12]), ([13], [13]), ([14, 13], [13, 14]), ([15, 13, 13], [13, 15]), ([16], [16]), ([17, 16], [16, 17]), ([18, 16], [16, 18]), ([16], [16]), ([16], [16]), ([21, 16], [16, 21]), ([20, 22, 16], [16, 20, 22]), ([23, 16], [16, 23]), ([24, 16], [16, 24]), ([19, 25, 16], [16, 19, 25]), ([16, 26, 13], [13, 16, 26]), ([13, 27], [13, 27])])
def classes_joined.B8 : List Nat := [0, 1, 3, 7, 15, 7, 7, 71, 231, 487, 999, 2047, 4095, 8191, 16383, 32767, 65535, 131071, 262143, 524287, 131071, 131071, 2228223, 7471103, 15859711, 32636927, 67108863, 134217727, 268435455]
theorem classes_joined.tab8 : rtab .any (opsOf Tryz.f118 8) = classes_joined.T8 := by kernel_rfl
theorem classes_joined.bits8 : waitsOk classes_joined.T8.2 classes_joined.B8 = true := by kernel_rfl
def classes_joined.T9 : Bool × List (List Nat × List Nat) := (true, [([], []), ([], []), ([1], [1]), ([], []), ([], []), ([4], [4]), ([3, 5], [3, 5]), ([6], [6]), ([7], [7]), ([], []), ([9], [9]), ([8, 10], [8, 10]), ([0, 2, 0, 1, 2, 3, 4, 5, 6, 7, 8, 9, 10, 11], [0, 2]), ([12, 0, 1, 2, 3, 4, 5, 6, 7, 8, 9, 10, 11], [12]), ([13, 11, 0, 1, 2, 3, 4, 5, 6, 7, 8, 9, 10, 11], [11, 13])])
def classes_joined.B9 : List Nat := [0, 0, 2, 0, 0, 16, 56, 120, 248, 0, 512, 2040, 4095, 8191, 16383]
theorem classes_joined.tab9 : rtab .any (opsOf Tryz.f118 9) = classes_joined.T9 := by kernel_rfl
theorem classes_joined.bits9 : waitsOk classes_joined.T9.2 classes_joined.B9 = true := by kernel_rfl
set_option maxHeartbeats 8000000 in
set_option maxRecDepth 100000 in
theorem classes_joined.calls (k : Nat) (P0_ : Nat → Prop) (u9000_ : Value) (l0 : List (S64)) (r : List (S64)) (w0 w : World) (hB : Below w0.heap.size w0 w) (ho0 : Kd.R k64 39 w w0.heap.size P0_ u9000_ l0) (h : classes_joined.f k l0 = some r) :
  Calls Tryz.prog 118 #[u9000_] w fun e w' => ∃ v0_ : Value, e = .returned (v0_) ∧ Kd.R k64 39 w' w0.heap.size (fun k_ => (P0_ k_ ∨ w.heap.size ≤ k_)) v0_ r ∧ Below w0.heap.size w0 w' ∧ Kept w w' (fun k_ => P0_ k_) := by
 have hu64 := Tryz.underlying39
 have HO0 := Aside0.mk (show Kd.R k64 39 w w0.heap.size (fun k_ => (P0_ k_ ∨ w.heap.size ≤ k_)) u9000_ l0 from Kd.R_mono ho0 (fun k_ hk => (.inl hk)))
 have HK := Aside0.mk (Kept.refl w (fun k_ => P0_ k_))
 have HW0 := Aside0.mk hB.size
 have HB := Aside0.mk hB
 clear hB
 have H : ((api_Range_103.f l0).bind fun t101 => ((api_Range_105.f t101).bind fun t104 => (classes_joined.l0 k ([] : List (S64)) t104 (t101.length : Int) 0))) = some r := h
 clear h
 replace H := Option.bind_eq_some_iff.mp H
 obtain ⟨t101, A20, H⟩ := H
 replace H : ((api_Range_105.f t101).bind fun t104 => (classes_joined.l0 k ([] : List (S64)) t104 (t101.length : Int) 0)) = some r := H
 have A2 := Aside0.mk A20
 clear A20
 replace H := Option.bind_eq_some_iff.mp H
 obtain ⟨t104, A30, H⟩ := H
 replace H : (classes_joined.l0 k ([] : List (S64)) t104 (t101.length : Int) 0) = some r := H
 have A3 := Aside0.mk A30
 clear A30
 have H' := Aside0.mk H
 clear H
 obtain ⟨Ao4, co4, eo4⟩ := Kd.R_slice HO0.out
 subst eo4
 go_enter Tryz.func118, Tryz.ntmps118
 go_wp2_with (first | ((with_reducible refine gate_callee (f := 155) rfl ?_); refine goesL_ (some 8) rfl rfl Tryz.func155 (by kernel_rfl) rfl #[.slice Ao4 l0.length co4, .func (.func 156) #[] #[]] rfl (by (try simp only [List.map_toArray, List.map_cons, List.map_nil]); first | done | rfl | (simp only [List.length_drop, List.length_take]; rfl)) ?_; (with_reducible refine (api_Range_103.calls (fun k_ => some k_ = (.slice Ao4 l0.length co4 : Value).ownBlock) (.slice Ao4 l0.length co4) l0 t101 w0 _ ?side1 ?side2 A2.out).mono ?_); (case side1 => repeat (first | (with_reducible first | exact HB.out | apply wA | apply wN | apply wD) | exact HB.out)); (case side2 => exact Kd.R_tight rfl HO0.out); rintro e w5 ⟨v102, rfl, ho0, hb, hkp⟩; refine ⟨_, rfl, ?_⟩; have n0_ := Aside0.mk (Kd.R_mono (ok' := fun k_ => (P0_ k_ ∨ w.heap.size ≤ k_)) ho0 (fun k_ hk_ => Or.elim hk_ (fun hs_ => (HO0.out.1 k_ (hs_).symm)) (fun hn_ => (.inr (Nat.le_trans (by first | exact HK.out.1 | exact (show Kept w _ (fun k_ => P0_ k_) from by repeat (first | (with_reducible first | exact HK.out | apply Kept.alloc | apply Kept.drewN | apply Kept.drew) | exact HK.out)).1) hn_))))); have n1_ := Aside0.mk (Kept.then_ (S := (fun k_ => P0_ k_)) (by repeat (first | (with_reducible first | exact HK.out | apply Kept.alloc | apply Kept.drewN | apply Kept.drew) | exact HK.out)) hkp (fun k_ hs_ => (fun e_ => (HO0.out.1 k_ e_.symm)) hs_)); have n2_ := Aside0.mk (hb); clear HK; clear HB; clear HO0; have HO103 := n0_; have HK := n1_; have HB := n2_; clear n0_ n1_ n2_; (try clear hb); (try clear hkp); (try clear ho0); obtain ⟨Ao6, co6, eo6⟩ := Kd.R_slice HO103.out; subst eo6) | ((with_reducible refine gate_callee (f := 157) rfl ?_); refine goesL_ (some 10) rfl rfl Tryz.func157 (by kernel_rfl) rfl #[.slice Ao6 t101.length co6, .func (.func 158) #[] #[]] rfl (by (try simp only [List.map_toArray, List.map_cons, List.map_nil]); first | done | rfl | (simp only [List.length_drop, List.length_take]; rfl)) ?_; (with_reducible refine (api_Range_105.calls (fun k_ => some k_ = (.slice Ao6 t101.length co6 : Value).ownBlock) (.slice Ao6 t101.length co6) t101 t104 w0 _ ?side1 ?side2 A3.out).mono ?_); (case side1 => repeat (first | (with_reducible first | exact HB.out | apply wA | apply wN | apply wD) | exact HB.out)); (case side2 => exact Kd.R_tight rfl HO103.out); rintro e w7 ⟨rfl, hy0, hb, hkp⟩; refine ⟨_, rfl, ?_⟩; have n0_ := Aside0.mk (Kd.R_reok rfl hy0 (fun k_ e_ => HO103.out.1 k_ e_)); have n1_ := Aside0.mk (Kept.then_ (S := (fun k_ => P0_ k_)) (by repeat (first | (with_reducible first | exact HK.out | apply Kept.alloc | apply Kept.drewN | apply Kept.drew) | exact HK.out)) hkp (fun k_ hs_ => (fun e_ => (HO103.out.1 k_ e_.symm)) hs_)); have n2_ := Aside0.mk (hb); clear HO103; clear HK; clear HB; have HO103 := n0_; have HK := n1_; have HB := n2_; clear n0_ n1_ n2_; (try clear hb); (try clear hkp); (try clear hy0)))
 go_loopg [3, 13] k (fun kq v3 v13 w' => ∃ (x3_1 : List (S64)) (x11_1 : List (S64)) (x13_1 : Int), v13 = .int .i64 x13_1 ∧ Aside0 (classes_joined.l0 kq x3_1 x11_1 (t101.length : Int) x13_1 = some r) ∧ Aside0 (kq ≤ k) ∧ Aside0 (Kd.R k64 39 w' w0.heap.size (fun k_ => (P0_ k_ ∨ w.heap.size ≤ k_) ∧ some k_ ≠ ((.slice Ao6 t101.length co6) : Value).ownBlock) v3 x3_1) ∧ Aside0 (Kd.R k64 39 w' w0.heap.size (fun k_ => (P0_ k_ ∨ w.heap.size ≤ k_) ∧ some k_ ≠ (v3 : Value).ownBlock) (.slice Ao6 t101.length co6) x11_1) ∧ Aside0 (Kept w w' (fun k_ => P0_ k_)) ∧ Aside0 (Below w0.heap.size w0 w'))
 case atStart => exact ⟨(([] : List (S64))), (t104), (0), (by first | rfl | (simp; done) | (simp [*]; done)), H', ⟨Nat.le_refl _⟩, ⟨by first | exact Kd.R_nil _ _ _ _ _ | exact Kd.N_nil _ _ _ _ _ | exact Kd.V_nil _ _ _ _ _ | exact Kd.Q_nil _ _ _ _ _ | exact Kd.S_nil _ _ _ _ _⟩, ⟨by (with_reducible repeat (first | apply rA | apply rN | apply rD)); exact Kd.R_mono HO103.out (fun _ hk => ⟨hk, (by simp [Value.ownBlock])⟩)⟩, ⟨by repeat (first | (with_reducible first | exact HK.out | apply Kept.alloc | apply Kept.drewN | apply Kept.drew) | exact HK.out)⟩, ⟨by repeat (first | (with_reducible first | exact HB.out | apply wA | apply wN | apply wD) | exact HB.out)⟩⟩
 case round =>
  clear H'
  try clear c1
  try clear p2
  try clear c7
  obtain ⟨x3_1, x11_1, x13_1, rfl, HA, HK1, HO_3, HO_11, HK, HB⟩ := hrel
  have hl11_1 := (rR HO_11.out).1
  rw [hl11_1] at HO_11
  (try simp only [hl11_1])
  (try simp only [hl11_1] at HO_3)
  cases gk with
  | zero => exact absurd HA.out (by simp [classes_joined.l0])
  | succ k1 =>
   have H := HA.out
   clear HA
   simp only [classes_joined.l0] at H
   by_cases c8 : x13_1 < (t101.length : Int)
   ·rw [if_pos c8] at H
    have c8b0 : decide (x13_1 < (t101.length : Int)) = true := decide_eq_true c8
    have c8z0 := c8b0
    (try simp only [hl11_1] at c8z0)
    clear c8
    by_cases c9 : 0 ≤ x13_1
    ·rw [if_pos c9] at H
     have c9b0 : decide (0 ≤ x13_1) = true := decide_eq_true c9
     clear c9
     by_cases c10 : x13_1 < (x11_1.length : Int)
     ·rw [if_pos c10] at H
      have c10b0 : decide (x13_1 < (x11_1.length : Int)) = true := decide_eq_true c10
      have c10z0 := c10b0
      (try simp only [hl11_1] at c10z0)
      clear c10
      by_cases c11 : (x3_1.length : Int) > 0
      ·rw [if_pos c11] at H
       have c11b0 : decide (0 < (x3_1.length : Int)) = true := decide_eq_true c11
       have c11z0 := c11b0
       (try simp only [hl11_1] at c11z0)
       have c11b1 : decide (0 < x3_1.length) = true := decide_eq_true (by omega)
       have c11z1 := c11b1
       (try simp only [hl11_1] at c11z1)
       clear c11
       obtain ⟨ji12, hji12⟩ : ∃ j_ : Int, (wrap64 ((x3_1.length : Int) - 1)) = j_ := ⟨_, rfl⟩
       replace H : (if 0 ≤ (ji12) then (if (ji12) < (x3_1.length : Int) then (if ((rd_T64 x11_1 x13_1).f0) ≤ ((rd_T64 x3_1 (ji12)).f1) then (classes_joined.l0 k1 (x3_1.set ((ji12) : Int).toNat (⟨(rd_T64 x3_1 (ji12)).f0, mx ((rd_T64 x3_1 (ji12)).f1) ((rd_T64 x11_1 x13_1).f1)⟩ : S64)) x11_1 (t101.length : Int) (wrap64 (x13_1 + 1))) else (if (wrap64 (((rd_T64 x11_1 x13_1).f0) - 1)) = ((rd_T64 x3_1 (ji12)).f1) then (classes_joined.l0 k1 (x3_1.set ((ji12) : Int).toNat (⟨(rd_T64 x3_1 (ji12)).f0, mx ((rd_T64 x3_1 (ji12)).f1) ((rd_T64 x11_1 x13_1).f1)⟩ : S64)) x11_1 (t101.length : Int) (wrap64 (x13_1 + 1))) else (if x3_1.length < 8796093022208 then (classes_joined.l0 k1 (x3_1 ++ [(⟨(rd_T64 x11_1 x13_1).f0, (rd_T64 x11_1 x13_1).f1⟩ : S64)]) x11_1 (t101.length : Int) (wrap64 (x13_1 + 1))) else (none)))) else (none)) else (none)) = some r := by first | (rw [hji12] at H; exact H) | (simp only [hji12] at H ⊢; exact H)
       have hji12w : (IntKind.i64.wrap ((x3_1.length : Int) - 1)) = ji12 := (i64_w _).trans hji12
       by_cases c13 : 0 ≤ (ji12)
       ·rw [if_pos c13] at H
        have c13b0 : decide (0 ≤ (ji12)) = true := decide_eq_true c13
        clear c13
        by_cases c14 : (ji12) < (x3_1.length : Int)
        ·rw [if_pos c14] at H
         have c14b0 : decide ((ji12) < (x3_1.length : Int)) = true := decide_eq_true c14
         have c14z0 := c14b0
         (try simp only [hl11_1] at c14z0)
         clear c14
         by_cases c15 : ((rd_T64 x11_1 x13_1).f0) ≤ ((rd_T64 x3_1 (ji12)).f1)
         ·rw [if_pos c15] at H
          have c15b0 : decide (((rd_T64 x11_1 x13_1).f0) ≤ ((rd_T64 x3_1 (ji12)).f1)) = true := decide_eq_true c15
          clear c15
          obtain ⟨ji16, hji16⟩ : ∃ j_ : Int, (mx ((rd_T64 x3_1 (ji12)).f1) ((rd_T64 x11_1 x13_1).f1)) = j_ := ⟨_, rfl⟩
          replace H : (classes_joined.l0 k1 (x3_1.set ((ji12) : Int).toNat (⟨(rd_T64 x3_1 (ji12)).f0, ji16⟩ : S64)) x11_1 (t101.length : Int) (wrap64 (x13_1 + 1))) = some r := by first | (rw [hji16] at H; exact H) | (simp only [hji16] at H ⊢; exact H)
          have hji16_ : (if ((rd_T64 x3_1 (ji12)).f1) < ((rd_T64 x11_1 x13_1).f1) then ((rd_T64 x11_1 x13_1).f1) else ((rd_T64 x3_1 (ji12)).f1)) = ji16 := hji16
          obtain ⟨y109, hy109⟩ : ∃ y_ : List (S64), y_ = (x3_1.set ((ji12) : Int).toNat (⟨(rd_T64 x3_1 (ji12)).f0, ji16⟩ : S64)) := ⟨_, rfl⟩
          replace H : (classes_joined.l0 k1 y109 x11_1 (t101.length : Int) (wrap64 (x13_1 + 1))) = some r := by first | (rw [hy109]; with_reducible exact H) | (have H2_ := (Option.bind_some _ _).symm.trans H; rw [hy109]; with_reducible exact H2_) | (have H2_ := (Option.bind_some _ _).symm.trans H; with_reducible exact H2_) | with_reducible exact H | (rw [hy109]; exact H) | exact H
          have Ny109 := Aside0.mk hy109
          clear hy109
          have H' := Aside0.mk H
          clear H
          have p105 : 0 ≤ (x13_1 : Int) := of_decide_eq_true (by first | (with_reducible assumption) | assumption)
          have q105 : x13_1 < (x11_1.length : Int) := of_decide_eq_true (by first | (with_reducible assumption) | assumption)
          obtain ⟨ad105, e105, hx105_0, hx105_1⟩ := at_T64 (rR HO_11.out).2.2 x13_1 p105 q105
          cases e105
          replace p105 := eq_true p105
          replace q105 := eq_true q105
          try go_wp2_with (first | ((with_reducible refine gate_dst (N := 5) rfl ?_); refine box_event ?hg (N := 5) ?hd (cs := #[.int .i64 0, .int .i64 0]) (t := 39) ?hr ?_; (case hd => rfl); (case hg => rfl); (case hr => first | (go_simp; done) | (go_simp; rfl)); intro gb106 hg w18 hbox hb; have n0_ := Aside0.mk (Kd.R_below (Kd.R_elderB (by (with_reducible repeat (first | apply rA | apply rN | apply rD)); exact HO_3.out) gb106 (Nat.le_of_eq hg.symm)) hb); have n1_ := Aside0.mk (Kd.R_below (Kd.R_elderB (by (with_reducible repeat (first | apply rA | apply rN | apply rD)); exact HO_11.out) gb106 (Nat.le_of_eq hg.symm)) hb); have n2_ := Aside0.mk (Kept.below (S := (fun k_ => P0_ k_)) (by repeat (first | (with_reducible first | exact HK.out | apply Kept.alloc | apply Kept.drewN | apply Kept.drew) | exact HK.out)) hb); have n3_ := Aside0.mk (below_step (by repeat (first | (with_reducible first | exact HB.out | apply wA | apply wN | apply wD) | exact HB.out)) hb); have n4_ := Aside0.mk (hbox); have n5_ := Aside0.mk ((by rw [hg]; exact (by first | exact HK.out.1 | exact (show Kept w _ (fun k_ => P0_ k_) from by repeat (first | (with_reducible first | exact HK.out | apply Kept.alloc | apply Kept.drewN | apply Kept.drew) | exact HK.out)).1) : w.heap.size ≤ gb106)); have n6_ := Aside0.mk ((by rw [hg]; exact (below_size (by repeat (first | (with_reducible first | exact HB.out | apply wA | apply wN | apply wD) | exact HB.out))) : w0.heap.size ≤ gb106)); clear HO_3; clear HO_11; clear HK; clear HB; have HO_3 := n0_; have HO_11 := n1_; have HK := n2_; have HB := n3_; have BK106 := n4_; have GW106 := n5_; have GE106 := n6_; clear n0_ n1_ n2_ n3_ n4_ n5_ n6_; clear hb hbox hg; have hcz19_0 : w18.cell? ⟨gb106, 0, none⟩ = some (.int .i64 0) := (blk_cell BK106.out 0).trans rfl; have hcz19_1 : w18.cell? ⟨gb106, 1, none⟩ = some (.int .i64 0) := (blk_cell BK106.out 1).trans rfl; have hfz19_0 := blk_frozen BK106.out 0; have hfz19_1 := blk_frozen BK106.out 1; obtain ⟨Ao20, co20, eo20⟩ := Kd.R_slice HO_3.out; subst eo20))
          have n0_ : Aside0 (Kd.R k64 39 ((w18.setCell ⟨gb106, 0, none⟩ (.int .i64 ((rd_T64 x11_1 x13_1).f0))).setCell ⟨gb106, 1, none⟩ (.int .i64 ((rd_T64 x11_1 x13_1).f1))) w0.heap.size (fun k_ => (P0_ k_ ∨ w.heap.size ≤ k_) ∧ some k_ ≠ (.slice (some ad105) x11_1.length co6 : Value).ownBlock ∧ k_ ≠ gb106) (.slice Ao20 x3_1.length co20) x3_1) := ⟨by (with_reducible repeat (first | apply rA | apply rN | apply rD)); exact Kd.R_mono (Kd.R_far (p := ⟨gb106, 1, none⟩) (Kd.R_far (p := ⟨gb106, 0, none⟩) (Kd.R_mono HO_3.out (fun k_ hk => (⟨hk, hk.2⟩ : _ ∧ k_ ≠ gb106))) (fun _ hk => hk.2) (.int .i64 ((rd_T64 x11_1 x13_1).f0))) (fun _ hk => hk.2) (.int .i64 ((rd_T64 x11_1 x13_1).f1))) (fun _ hk => ⟨hk.1.1.1, ⟨hk.1.1.2, hk.1.2⟩⟩)⟩
          have n1_ : Aside0 (Kd.R k64 39 ((w18.setCell ⟨gb106, 0, none⟩ (.int .i64 ((rd_T64 x11_1 x13_1).f0))).setCell ⟨gb106, 1, none⟩ (.int .i64 ((rd_T64 x11_1 x13_1).f1))) w0.heap.size (fun k_ => (P0_ k_ ∨ w.heap.size ≤ k_) ∧ some k_ ≠ (.slice Ao20 x3_1.length co20 : Value).ownBlock ∧ k_ ≠ gb106) (.slice (some ad105) x11_1.length co6) x11_1) := ⟨by (with_reducible repeat (first | apply rA | apply rN | apply rD)); exact Kd.R_mono (Kd.R_far (p := ⟨gb106, 1, none⟩) (Kd.R_far (p := ⟨gb106, 0, none⟩) (Kd.R_mono HO_11.out (fun k_ hk => (⟨hk, hk.2⟩ : _ ∧ k_ ≠ gb106))) (fun _ hk => hk.2) (.int .i64 ((rd_T64 x11_1 x13_1).f0))) (fun _ hk => hk.2) (.int .i64 ((rd_T64 x11_1 x13_1).f1))) (fun _ hk => ⟨hk.1.1.1, ⟨hk.1.1.2, hk.1.2⟩⟩)⟩
          have n2_ : Aside0 (((w18.setCell ⟨gb106, 0, none⟩ (.int .i64 ((rd_T64 x11_1 x13_1).f0))).setCell ⟨gb106, 1, none⟩ (.int .i64 ((rd_T64 x11_1 x13_1).f1))).heap[gb106]? = some (.cells #[.int .i64 ((rd_T64 x11_1 x13_1).f0), .int .i64 ((rd_T64 x11_1 x13_1).f1)] 39 (0, 0))) := ⟨by (with_reducible repeat (first | refine bN ?_ _ | refine bD ?_ | refine bA ?_ _)); refine blk_put (cs := #[.int .i64 ((rd_T64 x11_1 x13_1).f0), .int .i64 0]) ?_ 1 _ rfl; (with_reducible repeat (first | refine bN ?_ _ | refine bD ?_ | refine bA ?_ _)); refine blk_put (cs := #[.int .i64 0, .int .i64 0]) ?_ 0 _ rfl; (with_reducible repeat (first | refine bN ?_ _ | refine bD ?_ | refine bA ?_ _)); exact BK106.out⟩
          have n3_ : Aside0 (Kept w ((w18.setCell ⟨gb106, 0, none⟩ (.int .i64 ((rd_T64 x11_1 x13_1).f0))).setCell ⟨gb106, 1, none⟩ (.int .i64 ((rd_T64 x11_1 x13_1).f1))) (fun k_ => P0_ k_)) := ⟨by repeat (first | (with_reducible first | exact HK.out | apply Kept.alloc | apply Kept.drewN | apply Kept.drew | refine Kept.setCell ?_ (.inr GW106.out) _) | exact HK.out)⟩
          have n4_ : Aside0 (Below w0.heap.size w0 ((w18.setCell ⟨gb106, 0, none⟩ (.int .i64 ((rd_T64 x11_1 x13_1).f0))).setCell ⟨gb106, 1, none⟩ (.int .i64 ((rd_T64 x11_1 x13_1).f1)))) := ⟨by repeat (first | (with_reducible first | exact HB.out | apply wA | apply wN | apply wD | refine wS ?_ GE106.out) | exact HB.out)⟩
          (try clear HO_3)
          (try clear HO_11)
          (try clear BK106)
          (try clear HK)
          (try clear HB)
          generalize ((w18.setCell ⟨gb106, 0, none⟩ (.int .i64 ((rd_T64 x11_1 x13_1).f0))).setCell ⟨gb106, 1, none⟩ (.int .i64 ((rd_T64 x11_1 x13_1).f1))) = w21 at n0_ n1_ n2_ n3_ n4_ ⊢
          have HO_3 := n0_
          have HO_11 := n1_
          have BK106 := n2_
          have HK := n3_
          have HB := n4_
          clear n0_ n1_ n2_ n3_ n4_
          have n0_ := Aside0.mk (rD HO_3.out)
          have n1_ := Aside0.mk (rD HO_11.out)
          have n2_ := Aside0.mk (bD BK106.out)
          have n3_ := Aside0.mk (Kept.drew HK.out)
          have n4_ := Aside0.mk (wD HB.out)
          clear HO_3
          clear HO_11
          clear BK106
          clear HK
          clear HB
          have HO_3 := n0_
          have HO_11 := n1_
          have BK106 := n2_
          have HK := n3_
          have HB := n4_
          clear n0_ n1_ n2_ n3_ n4_
          have p107 : 0 ≤ ((ji12) : Int) := of_decide_eq_true (by first | (with_reducible assumption) | assumption)
          have q107 : (ji12) < (x3_1.length : Int) := of_decide_eq_true (by first | (with_reducible assumption) | assumption)
          obtain ⟨ad107, e107, hx107_0, hx107_1⟩ := at_T64 (rR HO_3.out).2.2 (ji12) p107 q107
          cases e107
          replace p107 := eq_true p107
          replace q107 := eq_true q107
          refine start_ (n := 29) (S := fun w' => w'.cell? ⟨gb106, 0, none⟩ = some (.int .i64 ((rd_T64 x11_1 x13_1).f0)) ∧ w'.cell? ⟨gb106, 1, none⟩ = some (.int .i64 ((rd_T64 x11_1 x13_1).f1)) ∧ w'.cell? (ad107.add (((ji12)).toNat * 2)) = some (.int .i64 ((rd_T64 x3_1 (ji12)).f0)) ∧ w'.cell? ⟨(ad107.add (((ji12)).toNat * 2)).block, (ad107.add (((ji12)).toNat * 2)).off + 1, none⟩ = some (.int .i64 ((rd_T64 x3_1 (ji12)).f1))) (ds := []) #[Z,Z,Z,Z,Z,Z,Z,Z,Z,Z,Z,Z,Z,Z,Z,Z,Z,Z,Z,Z,Z,Z,Z,Z,Z,Z,Z,Z,Z] (by kernel_rfl) rfl rfl ⟨(blk_cell BK106.out 0).trans rfl, (blk_cell BK106.out 1).trans rfl, hx107_0, hx107_1⟩ (fun hHeld => ?_); refine with_tabW classes_joined.tab8 classes_joined.bits8 (fun HT_ HW_ => ?_)
          generalize w21.drew = w22 at HO_3 HO_11 BK106 HK HB hx107_0 hx107_1 hHeld ⊢
          refine run_ [.p 0, .p 1, .p 2, .p 3, .p 5, .p 6, .p 7, .p 8, .p 9, .t 4, .t 10, .p 11, .p 12, .p 13, .p 14, .p 15, .p 16, .p 17, .p 18, .p 19, .p 20, .p 21, .p 22, .p 23, .p 24, .p 25, .p 26, .p 27, .p 28] 0 #[I,I,I,I,I,I,I,I,I,I,I,I,I,I,I,I,I,I,I,I,I,I,I,I,I,I,I,I,I] HT_.out (fun c d v a w h => by cases d <;> exact h) hHeld rfl (by kernel_rfl) ?_
          repeat first
          | (refine kp_ (v := ?_) (b := ?_) rfl (.inl ⟨by rfl, ?_⟩) ?_ ?_; rotate_left 2; (intro w'; go_simp; with_reducible rfl); (simp only [Act.put, pu_, pz_, ps_, i64_w, i32_w]; rfl))
          | (refine kp_ (v := undef) (b := ?_) rfl (.inr ⟨by rfl, rfl⟩) ?_ ?_; rotate_left; (simp only [Act.put, pu_, pz_, ps_, i64_w, i32_w]; rfl))
          | (refine kt_ (v := ?_) (b := ?_) rfl (.inl ⟨by rfl, ?_⟩) ?_ ?_; rotate_left 2; (rintro w' ⟨s0, s1, s2, s3⟩; go_simp; with_reducible rfl); (simp only [Act.put, pu_, pz_, ps_, i64_w, i32_w]; rfl))
          refine kd_ ?_
          refine done_ (done_of HT_.out (by kernel_rfl)) ?_
          try go_wp2
          have n0_ := Aside0.mk (rD HO_3.out)
          have n1_ := Aside0.mk (rD HO_11.out)
          have n2_ := Aside0.mk (bD BK106.out)
          have n3_ := Aside0.mk (Kept.drew HK.out)
          have n4_ := Aside0.mk (wD HB.out)
          clear HO_3
          clear HO_11
          clear BK106
          clear HK
          clear HB
          have HO_3 := n0_
          have HO_11 := n1_
          have BK106 := n2_
          have HK := n3_
          have HB := n4_
          clear n0_ n1_ n2_ n3_ n4_
          have p108 : 0 ≤ ((ji12) : Int) := of_decide_eq_true (by first | (with_reducible assumption) | assumption)
          have q108 : (ji12) < (x3_1.length : Int) := of_decide_eq_true (by first | (with_reducible assumption) | assumption)
          obtain ⟨ad108, e108, hx108_0, hx108_1⟩ := at_T64 (rR HO_3.out).2.2 (ji12) p108 q108
          obtain rfl : ad107 = ad108 := (by injection e108)
          replace p108 := eq_true p108
          replace q108 := eq_true q108
          have p17 : 0 ≤ ((ji12) : Int) := of_decide_eq_true (by first | (with_reducible assumption) | assumption)
          have q17 : ((ji12) : Int) < ((x3_1.length : Int) : Int) := of_decide_eq_true (by first | (with_reducible assumption) | assumption)
          obtain ⟨go17, co17, eo17, gb17, gl17, cl17, HG17⟩ := Kd.R_form HO_3.out (by omega)
          (first | cases eo17 | (injection eo17 with ea_ en_ ec_; (first | subst ea_ | (injection ea_ with ea_; subst ea_)); subst ec_; clear en_))
          have GB17 := Aside0.mk gb17
          have GG17 := Aside0.mk HG17
          clear gb17 gl17 HG17
          have HMgo17 := Aside0.mk (show (P0_ go17 ∨ w.heap.size ≤ go17) from (HO_3.out.1 _ rfl).1)
          (first | simp only [add_plain] at hx107_0 | skip)
          (first | simp only [add_plain] at hx107_1 | skip)
          (first | simp only [add_plain] at hx108_0 | skip)
          (first | simp only [add_plain] at hx108_1 | skip)
          obtain ⟨ce17, hcl17, hM17, hcc17, hfr17⟩ := Kd.R_elem HO_3.out z64 ((ji12) : Int) p17 q17
          obtain rfl := k64_openM hM17
          have hx17_0 : World.cell? _ ⟨go17, ((ji12) : Int).toNat * 2, none⟩ = some (.int .i64 ((rd_T64 x3_1 (ji12)).f0)) := hcc17 0 _ rfl
          have hx17_1 : World.cell? _ ⟨go17, ((ji12) : Int).toNat * 2 + 1, none⟩ = some (.int .i64 ((rd_T64 x3_1 (ji12)).f1)) := hcc17 1 _ rfl
          have hf17_0 : World.frozen? _ ⟨go17, ((ji12) : Int).toNat * 2, none⟩ = false := hfr17 0
          have hf17_1 : World.frozen? _ ⟨go17, ((ji12) : Int).toNat * 2 + 1, none⟩ = false := hfr17 1
          clear hcl17 hcc17 hfr17 hM17
          replace p17 := eq_true p17
          replace q17 := eq_true q17
          obtain ⟨ce24, hcl24, hM24, hcc24, hfr24⟩ := Kd.R_elem HO_3.out z64 ((ji12) : Int) (of_decide_eq_true (by first | (with_reducible assumption) | assumption)) (by have h_ : ((ji12) : Int) < ((x3_1.length : Int) : Int) := of_decide_eq_true (by first | (with_reducible assumption) | assumption); first | exact h_ | (have e_ := (rR HO_3.out).1; omega) | simpa using h_)
          obtain rfl := k64_openM hM24
          have HP24 := (Kd.R_seg HO_3.out ((ji12) : Int) (of_decide_eq_true (by first | (with_reducible assumption) | assumption)) (by have h_ : ((ji12) : Int) < ((x3_1.length : Int) : Int) := of_decide_eq_true (by first | (with_reducible assumption) | assumption); first | exact h_ | (have e_ := (rR HO_3.out).1; omega) | simpa using h_) (seg := [.int .i64 ji16]) (j := 1) hcl24 hcc24 (show 2 ≤ 2 from by decide) (x' := (⟨(rd_T64 x3_1 (ji12)).f0, ji16⟩ : S64)) (k64_mkM _ _ _ (⟨(rd_T64 x3_1 (ji12)).f0, ji16⟩ : S64) ) (fun _ hk => hk)).1
          rw [← Ny109.out] at HP24
          have HQ24 := Aside0.mk HP24
          clear hcl24 hcc24 hfr24 hM24 HP24
          refine start_ (n := 15) (S := fun w' => w'.cell? ⟨gb106, 0, none⟩ = some (.int .i64 ((rd_T64 x11_1 x13_1).f0)) ∧ w'.cell? ⟨gb106, 1, none⟩ = some (.int .i64 ((rd_T64 x11_1 x13_1).f1)) ∧ w'.cell? ⟨go17, ((ji12)).toNat * 2, none⟩ = some (.int .i64 ((rd_T64 x3_1 (ji12)).f0)) ∧ w'.cell? ⟨go17, ((ji12)).toNat * 2 + 1, none⟩ = some (.int .i64 ((rd_T64 x3_1 (ji12)).f1))) (ds := [14]) #[Z,Z,Z,Z,Z,Z,Z,Z,Z,Z,Z,Z,Z,Z,Z] (by kernel_rfl) rfl rfl ⟨(blk_cell BK106.out 0).trans rfl, (blk_cell BK106.out 1).trans rfl, hx108_0, hx108_1⟩ (fun hHeld => ?_); refine with_tabW classes_joined.tab9 classes_joined.bits9 (fun HT_ HW_ => ?_)
          generalize w22.drew = w23 at HO_3 HO_11 BK106 HK HB GG17 HQ24 hf17_0 hf17_1 hx107_0 hx107_1 hx108_0 hx108_1 hx17_0 hx17_1 hHeld ⊢
          refine run_ [.p 0, .p 1, .p 2, .p 3, .p 4, .p 5, .p 6, .p 7, .p 9, .t 8, .t 10, .p 11, .p 12, .p 13] 1 #[I,I,I,I,I,I,I,I,I,I,I,I,I,I,Z] HT_.out (fun c d v a w h => by cases d <;> exact h) hHeld rfl (by kernel_rfl) ?_
          repeat first
          | (refine kp_ (v := ?_) (b := ?_) rfl (.inl ⟨by rfl, ?_⟩) ?_ ?_; rotate_left 2; (intro w'; go_simp; with_reducible rfl); (simp only [Act.put, pu_, pz_, ps_, i64_w, i32_w]; rfl))
          | (refine kt_ (v := ?_) (b := ?_) rfl (.inl ⟨by rfl, ?_⟩) ?_ ?_; rotate_left 2; (rintro w' ⟨s0, s1, s2, s3⟩; go_simp; with_reducible rfl); (simp only [Act.put, pu_, pz_, ps_, i64_w, i32_w]; rfl))
          refine kd_ ?_
          refine last_ (i := 14) (N := none) #[I,I,I,I,I,I,I,I,I,I,I,I,I,I,I] rfl rfl (one_of HT_.out (by kernel_rfl)) (by decide) (fun K hK => ?_)
          refine skip_ (w1 := ?_) (by rfl) rfl ?_ ?_
          rotate_left
          ·go_simp
           rfl
          refine hK.out _ _ ?_
          clear hK K
          refine done_ (done_of HT_.out (by kernel_rfl)) ?_
          try go_wp2
          (try simp only [← hl11_1])
          go_roundg k1
          case measure => have := HK1.out; omega
          case rel => exact ⟨(y109), (x11_1), (wrap64 (x13_1 + 1)), (by first | rfl | (simp; done) | (simp [*]; done)), H', ⟨by have := HK1.out; omega⟩, ⟨by (try simp only [hl11_1]); (with_reducible repeat (first | apply rA | apply rN | apply rD)); exact Kd.R_mono HQ24.out (fun _ hk => ⟨hk.1, hk.2.1⟩)⟩, ⟨by (try simp only [hl11_1]); (with_reducible repeat (first | apply rA | apply rN | apply rD)); exact Kd.R_mono (Kd.R_far (p := ⟨go17, ((ji12) : Int).toNat * 2 + 1, none⟩) (Kd.R_mono HO_11.out (fun k_ hk => (⟨hk, fun e_ => hk.2.1 (by rw [e_]; rfl)⟩ : _ ∧ k_ ≠ go17))) (fun _ hk => hk.2) (.int .i64 ji16)) (fun _ hk => ⟨hk.1.1, hk.1.2.1⟩)⟩, ⟨by repeat (first | (with_reducible first | exact HK.out | apply Kept.alloc | apply Kept.drewN | apply Kept.drew | refine Kept.setCell ?_ HMgo17.out _ | refine Kept.setCell ?_ (.inr GW106.out) _) | exact HK.out)⟩, ⟨by repeat (first | (with_reducible first | exact HB.out | apply wA | apply wN | apply wD | refine wS ?_ GB17.out | refine wS ?_ GE106.out) | exact HB.out)⟩⟩
         ·rw [if_neg c15] at H
          have c15b0 : decide (((rd_T64 x11_1 x13_1).f0) ≤ ((rd_T64 x3_1 (ji12)).f1)) = false := decide_eq_false c15
          clear c15
          by_cases c25 : (wrap64 (((rd_T64 x11_1 x13_1).f0) - 1)) = ((rd_T64 x3_1 (ji12)).f1)
          ·rw [if_pos c25] at H
           have c25b0 : ((wrap64 (((rd_T64 x11_1 x13_1).f0) - 1)) == ((rd_T64 x3_1 (ji12)).f1)) = true := beq_iff_eq.mpr c25
           have c25b1 : ((wrap64 (((rd_T64 x11_1 x13_1).f0) - 1)) != ((rd_T64 x3_1 (ji12)).f1)) = false := bne_eq_false_iff_eq.mpr c25
           clear c25
           obtain ⟨ji26, hji26⟩ : ∃ j_ : Int, (mx ((rd_T64 x3_1 (ji12)).f1) ((rd_T64 x11_1 x13_1).f1)) = j_ := ⟨_, rfl⟩
           replace H : (classes_joined.l0 k1 (x3_1.set ((ji12) : Int).toNat (⟨(rd_T64 x3_1 (ji12)).f0, ji26⟩ : S64)) x11_1 (t101.length : Int) (wrap64 (x13_1 + 1))) = some r := by first | (rw [hji26] at H; exact H) | (simp only [hji26] at H ⊢; exact H)
           have hji26_ : (if ((rd_T64 x3_1 (ji12)).f1) < ((rd_T64 x11_1 x13_1).f1) then ((rd_T64 x11_1 x13_1).f1) else ((rd_T64 x3_1 (ji12)).f1)) = ji26 := hji26
           obtain ⟨y112, hy112⟩ : ∃ y_ : List (S64), y_ = (x3_1.set ((ji12) : Int).toNat (⟨(rd_T64 x3_1 (ji12)).f0, ji26⟩ : S64)) := ⟨_, rfl⟩
           replace H : (classes_joined.l0 k1 y112 x11_1 (t101.length : Int) (wrap64 (x13_1 + 1))) = some r := by first | (rw [hy112]; with_reducible exact H) | (have H2_ := (Option.bind_some _ _).symm.trans H; rw [hy112]; with_reducible exact H2_) | (have H2_ := (Option.bind_some _ _).symm.trans H; with_reducible exact H2_) | with_reducible exact H | (rw [hy112]; exact H) | exact H
           have Ny112 := Aside0.mk hy112
           clear hy112
           have H' := Aside0.mk H
           clear H
           have p105 : 0 ≤ (x13_1 : Int) := of_decide_eq_true (by first | (with_reducible assumption) | assumption)
           have q105 : x13_1 < (x11_1.length : Int) := of_decide_eq_true (by first | (with_reducible assumption) | assumption)
           obtain ⟨ad105, e105, hx105_0, hx105_1⟩ := at_T64 (rR HO_11.out).2.2 x13_1 p105 q105
           cases e105
           replace p105 := eq_true p105
           replace q105 := eq_true q105
           try go_wp2_with (first | ((with_reducible refine gate_dst (N := 5) rfl ?_); refine box_event ?hg (N := 5) ?hd (cs := #[.int .i64 0, .int .i64 0]) (t := 39) ?hr ?_; (case hd => rfl); (case hg => rfl); (case hr => first | (go_simp; done) | (go_simp; rfl)); intro gb106 hg w28 hbox hb; have n0_ := Aside0.mk (Kd.R_below (Kd.R_elderB (by (with_reducible repeat (first | apply rA | apply rN | apply rD)); exact HO_3.out) gb106 (Nat.le_of_eq hg.symm)) hb); have n1_ := Aside0.mk (Kd.R_below (Kd.R_elderB (by (with_reducible repeat (first | apply rA | apply rN | apply rD)); exact HO_11.out) gb106 (Nat.le_of_eq hg.symm)) hb); have n2_ := Aside0.mk (Kept.below (S := (fun k_ => P0_ k_)) (by repeat (first | (with_reducible first | exact HK.out | apply Kept.alloc | apply Kept.drewN | apply Kept.drew) | exact HK.out)) hb); have n3_ := Aside0.mk (below_step (by repeat (first | (with_reducible first | exact HB.out | apply wA | apply wN | apply wD) | exact HB.out)) hb); have n4_ := Aside0.mk (hbox); have n5_ := Aside0.mk ((by rw [hg]; exact (by first | exact HK.out.1 | exact (show Kept w _ (fun k_ => P0_ k_) from by repeat (first | (with_reducible first | exact HK.out | apply Kept.alloc | apply Kept.drewN | apply Kept.drew) | exact HK.out)).1) : w.heap.size ≤ gb106)); have n6_ := Aside0.mk ((by rw [hg]; exact (below_size (by repeat (first | (with_reducible first | exact HB.out | apply wA | apply wN | apply wD) | exact HB.out))) : w0.heap.size ≤ gb106)); clear HO_3; clear HO_11; clear HK; clear HB; have HO_3 := n0_; have HO_11 := n1_; have HK := n2_; have HB := n3_; have BK106 := n4_; have GW106 := n5_; have GE106 := n6_; clear n0_ n1_ n2_ n3_ n4_ n5_ n6_; clear hb hbox hg; have hcz29_0 : w28.cell? ⟨gb106, 0, none⟩ = some (.int .i64 0) := (blk_cell BK106.out 0).trans rfl; have hcz29_1 : w28.cell? ⟨gb106, 1, none⟩ = some (.int .i64 0) := (blk_cell BK106.out 1).trans rfl; have hfz29_0 := blk_frozen BK106.out 0; have hfz29_1 := blk_frozen BK106.out 1; obtain ⟨Ao30, co30, eo30⟩ := Kd.R_slice HO_3.out; subst eo30))
           have n0_ : Aside0 (Kd.R k64 39 ((w28.setCell ⟨gb106, 0, none⟩ (.int .i64 ((rd_T64 x11_1 x13_1).f0))).setCell ⟨gb106, 1, none⟩ (.int .i64 ((rd_T64 x11_1 x13_1).f1))) w0.heap.size (fun k_ => (P0_ k_ ∨ w.heap.size ≤ k_) ∧ some k_ ≠ (.slice (some ad105) x11_1.length co6 : Value).ownBlock ∧ k_ ≠ gb106) (.slice Ao30 x3_1.length co30) x3_1) := ⟨by (with_reducible repeat (first | apply rA | apply rN | apply rD)); exact Kd.R_mono (Kd.R_far (p := ⟨gb106, 1, none⟩) (Kd.R_far (p := ⟨gb106, 0, none⟩) (Kd.R_mono HO_3.out (fun k_ hk => (⟨hk, hk.2⟩ : _ ∧ k_ ≠ gb106))) (fun _ hk => hk.2) (.int .i64 ((rd_T64 x11_1 x13_1).f0))) (fun _ hk => hk.2) (.int .i64 ((rd_T64 x11_1 x13_1).f1))) (fun _ hk => ⟨hk.1.1.1, ⟨hk.1.1.2, hk.1.2⟩⟩)⟩
           have n1_ : Aside0 (Kd.R k64 39 ((w28.setCell ⟨gb106, 0, none⟩ (.int .i64 ((rd_T64 x11_1 x13_1).f0))).setCell ⟨gb106, 1, none⟩ (.int .i64 ((rd_T64 x11_1 x13_1).f1))) w0.heap.size (fun k_ => (P0_ k_ ∨ w.heap.size ≤ k_) ∧ some k_ ≠ (.slice Ao30 x3_1.length co30 : Value).ownBlock ∧ k_ ≠ gb106) (.slice (some ad105) x11_1.length co6) x11_1) := ⟨by (with_reducible repeat (first | apply rA | apply rN | apply rD)); exact Kd.R_mono (Kd.R_far (p := ⟨gb106, 1, none⟩) (Kd.R_far (p := ⟨gb106, 0, none⟩) (Kd.R_mono HO_11.out (fun k_ hk => (⟨hk, hk.2⟩ : _ ∧ k_ ≠ gb106))) (fun _ hk => hk.2) (.int .i64 ((rd_T64 x11_1 x13_1).f0))) (fun _ hk => hk.2) (.int .i64 ((rd_T64 x11_1 x13_1).f1))) (fun _ hk => ⟨hk.1.1.1, ⟨hk.1.1.2, hk.1.2⟩⟩)⟩
           have n2_ : Aside0 (((w28.setCell ⟨gb106, 0, none⟩ (.int .i64 ((rd_T64 x11_1 x13_1).f0))).setCell ⟨gb106, 1, none⟩ (.int .i64 ((rd_T64 x11_1 x13_1).f1))).heap[gb106]? = some (.cells #[.int .i64 ((rd_T64 x11_1 x13_1).f0), .int .i64 ((rd_T64 x11_1 x13_1).f1)] 39 (0, 0))) := ⟨by (with_reducible repeat (first | refine bN ?_ _ | refine bD ?_ | refine bA ?_ _)); refine blk_put (cs := #[.int .i64 ((rd_T64 x11_1 x13_1).f0), .int .i64 0]) ?_ 1 _ rfl; (with_reducible repeat (first | refine bN ?_ _ | refine bD ?_ | refine bA ?_ _)); refine blk_put (cs := #[.int .i64 0, .int .i64 0]) ?_ 0 _ rfl; (with_reducible repeat (first | refine bN ?_ _ | refine bD ?_ | refine bA ?_ _)); exact BK106.out⟩
           have n3_ : Aside0 (Kept w ((w28.setCell ⟨gb106, 0, none⟩ (.int .i64 ((rd_T64 x11_1 x13_1).f0))).setCell ⟨gb106, 1, none⟩ (.int .i64 ((rd_T64 x11_1 x13_1).f1))) (fun k_ => P0_ k_)) := ⟨by repeat (first | (with_reducible first | exact HK.out | apply Kept.alloc | apply Kept.drewN | apply Kept.drew | refine Kept.setCell ?_ (.inr GW106.out) _) | exact HK.out)⟩
           have n4_ : Aside0 (Below w0.heap.size w0 ((w28.setCell ⟨gb106, 0, none⟩ (.int .i64 ((rd_T64 x11_1 x13_1).f0))).setCell ⟨gb106, 1, none⟩ (.int .i64 ((rd_T64 x11_1 x13_1).f1)))) := ⟨by repeat (first | (with_reducible first | exact HB.out | apply wA | apply wN | apply wD | refine wS ?_ GE106.out) | exact HB.out)⟩
           (try clear HO_3)
           (try clear HO_11)
           (try clear BK106)
           (try clear HK)
           (try clear HB)
           generalize ((w28.setCell ⟨gb106, 0, none⟩ (.int .i64 ((rd_T64 x11_1 x13_1).f0))).setCell ⟨gb106, 1, none⟩ (.int .i64 ((rd_T64 x11_1 x13_1).f1))) = w31 at n0_ n1_ n2_ n3_ n4_ ⊢
           have HO_3 := n0_
           have HO_11 := n1_
           have BK106 := n2_
           have HK := n3_
           have HB := n4_
           clear n0_ n1_ n2_ n3_ n4_
           have n0_ := Aside0.mk (rD HO_3.out)
           have n1_ := Aside0.mk (rD HO_11.out)
           have n2_ := Aside0.mk (bD BK106.out)
           have n3_ := Aside0.mk (Kept.drew HK.out)
           have n4_ := Aside0.mk (wD HB.out)
           clear HO_3
           clear HO_11
           clear BK106
           clear HK
           clear HB
           have HO_3 := n0_
           have HO_11 := n1_
           have BK106 := n2_
           have HK := n3_
           have HB := n4_
           clear n0_ n1_ n2_ n3_ n4_
           have p107 : 0 ≤ ((ji12) : Int) := of_decide_eq_true (by first | (with_reducible assumption) | assumption)
           have q107 : (ji12) < (x3_1.length : Int) := of_decide_eq_true (by first | (with_reducible assumption) | assumption)
           obtain ⟨ad107, e107, hx107_0, hx107_1⟩ := at_T64 (rR HO_3.out).2.2 (ji12) p107 q107
           cases e107
           replace p107 := eq_true p107
           replace q107 := eq_true q107
           have p110 : 0 ≤ ((ji12) : Int) := of_decide_eq_true (by first | (with_reducible assumption) | assumption)
           have q110 : (ji12) < (x3_1.length : Int) := of_decide_eq_true (by first | (with_reducible assumption) | assumption)
           obtain ⟨ad110, e110, hx110_0, hx110_1⟩ := at_T64 (rR HO_3.out).2.2 (ji12) p110 q110
           obtain rfl : ad107 = ad110 := (by injection e110)
           replace p110 := eq_true p110
           replace q110 := eq_true q110
           refine start_ (n := 29) (S := fun w' => w'.cell? ⟨gb106, 0, none⟩ = some (.int .i64 ((rd_T64 x11_1 x13_1).f0)) ∧ w'.cell? ⟨gb106, 1, none⟩ = some (.int .i64 ((rd_T64 x11_1 x13_1).f1)) ∧ w'.cell? (ad107.add (((ji12)).toNat * 2)) = some (.int .i64 ((rd_T64 x3_1 (ji12)).f0)) ∧ w'.cell? ⟨(ad107.add (((ji12)).toNat * 2)).block, (ad107.add (((ji12)).toNat * 2)).off + 1, none⟩ = some (.int .i64 ((rd_T64 x3_1 (ji12)).f1)) ∧ w'.cell? (ad107.add (((ji12)).toNat * 2)) = some (.int .i64 ((rd_T64 x3_1 (ji12)).f0)) ∧ w'.cell? ⟨(ad107.add (((ji12)).toNat * 2)).block, (ad107.add (((ji12)).toNat * 2)).off + 1, none⟩ = some (.int .i64 ((rd_T64 x3_1 (ji12)).f1))) (ds := []) #[Z,Z,Z,Z,Z,Z,Z,Z,Z,Z,Z,Z,Z,Z,Z,Z,Z,Z,Z,Z,Z,Z,Z,Z,Z,Z,Z,Z,Z] (by kernel_rfl) rfl rfl ⟨(blk_cell BK106.out 0).trans rfl, (blk_cell BK106.out 1).trans rfl, hx107_0, hx107_1, hx110_0, hx110_1⟩ (fun hHeld => ?_); refine with_tabW classes_joined.tab8 classes_joined.bits8 (fun HT_ HW_ => ?_)
           generalize w31.drew = w32 at HO_3 HO_11 BK106 HK HB hx107_0 hx107_1 hx110_0 hx110_1 hHeld ⊢
           refine run_ [.p 0, .p 1, .p 2, .p 3, .p 5, .p 6, .p 7, .p 8, .p 9, .t 4, .t 10, .p 11, .p 12, .p 13, .p 14, .p 15, .p 16, .p 17, .p 20, .p 21, .p 22, .p 23, .p 24, .t 18, .p 19, .t 25, .p 26, .p 27, .p 28] 0 #[I,I,I,I,I,I,I,I,I,I,I,I,I,I,I,I,I,I,I,I,I,I,I,I,I,I,I,I,I] HT_.out (fun c d v a w h => by cases d <;> exact h) hHeld rfl (by kernel_rfl) ?_
           repeat first
           | (refine kp_ (v := ?_) (b := ?_) rfl (.inl ⟨by rfl, ?_⟩) ?_ ?_; rotate_left 2; (intro w'; go_simp; with_reducible rfl); (simp only [Act.put, pu_, pz_, ps_, i64_w, i32_w]; rfl))
           | (refine kt_ (v := ?_) (b := ?_) rfl (.inl ⟨by rfl, ?_⟩) ?_ ?_; rotate_left 2; (rintro w' ⟨s0, s1, s2, s3, s4, s5⟩; go_simp; with_reducible rfl); (simp only [Act.put, pu_, pz_, ps_, i64_w, i32_w]; rfl))
           refine kd_ ?_
           refine done_ (done_of HT_.out (by kernel_rfl)) ?_
           try go_wp2
           have n0_ := Aside0.mk (rD HO_3.out)
           have n1_ := Aside0.mk (rD HO_11.out)
           have n2_ := Aside0.mk (bD BK106.out)
           have n3_ := Aside0.mk (Kept.drew HK.out)
           have n4_ := Aside0.mk (wD HB.out)
           clear HO_3
           clear HO_11
           clear BK106
           clear HK
           clear HB
           have HO_3 := n0_
           have HO_11 := n1_
           have BK106 := n2_
           have HK := n3_
           have HB := n4_
           clear n0_ n1_ n2_ n3_ n4_
           have p111 : 0 ≤ ((ji12) : Int) := of_decide_eq_true (by first | (with_reducible assumption) | assumption)
           have q111 : (ji12) < (x3_1.length : Int) := of_decide_eq_true (by first | (with_reducible assumption) | assumption)
           obtain ⟨ad111, e111, hx111_0, hx111_1⟩ := at_T64 (rR HO_3.out).2.2 (ji12) p111 q111
           obtain rfl : ad107 = ad111 := (by injection e111)
           replace p111 := eq_true p111
           replace q111 := eq_true q111
           have p27 : 0 ≤ ((ji12) : Int) := of_decide_eq_true (by first | (with_reducible assumption) | assumption)
           have q27 : ((ji12) : Int) < ((x3_1.length : Int) : Int) := of_decide_eq_true (by first | (with_reducible assumption) | assumption)
           obtain ⟨go27, co27, eo27, gb27, gl27, cl27, HG27⟩ := Kd.R_form HO_3.out (by omega)
           (first | cases eo27 | (injection eo27 with ea_ en_ ec_; (first | subst ea_ | (injection ea_ with ea_; subst ea_)); subst ec_; clear en_))
           have GB27 := Aside0.mk gb27
           have GG27 := Aside0.mk HG27
           clear gb27 gl27 HG27
           have HMgo27 := Aside0.mk (show (P0_ go27 ∨ w.heap.size ≤ go27) from (HO_3.out.1 _ rfl).1)
           (first | simp only [add_plain] at hx107_0 | skip)
           (first | simp only [add_plain] at hx107_1 | skip)
           (first | simp only [add_plain] at hx110_0 | skip)
           (first | simp only [add_plain] at hx110_1 | skip)
           (first | simp only [add_plain] at hx111_0 | skip)
           (first | simp only [add_plain] at hx111_1 | skip)
           obtain ⟨ce27, hcl27, hM27, hcc27, hfr27⟩ := Kd.R_elem HO_3.out z64 ((ji12) : Int) p27 q27
           obtain rfl := k64_openM hM27
           have hx27_0 : World.cell? _ ⟨go27, ((ji12) : Int).toNat * 2, none⟩ = some (.int .i64 ((rd_T64 x3_1 (ji12)).f0)) := hcc27 0 _ rfl
           have hx27_1 : World.cell? _ ⟨go27, ((ji12) : Int).toNat * 2 + 1, none⟩ = some (.int .i64 ((rd_T64 x3_1 (ji12)).f1)) := hcc27 1 _ rfl
           have hf27_0 : World.frozen? _ ⟨go27, ((ji12) : Int).toNat * 2, none⟩ = false := hfr27 0
           have hf27_1 : World.frozen? _ ⟨go27, ((ji12) : Int).toNat * 2 + 1, none⟩ = false := hfr27 1
           clear hcl27 hcc27 hfr27 hM27
           replace p27 := eq_true p27
           replace q27 := eq_true q27
           obtain ⟨ce34, hcl34, hM34, hcc34, hfr34⟩ := Kd.R_elem HO_3.out z64 ((ji12) : Int) (of_decide_eq_true (by first | (with_reducible assumption) | assumption)) (by have h_ : ((ji12) : Int) < ((x3_1.length : Int) : Int) := of_decide_eq_true (by first | (with_reducible assumption) | assumption); first | exact h_ | (have e_ := (rR HO_3.out).1; omega) | simpa using h_)
           obtain rfl := k64_openM hM34
           have HP34 := (Kd.R_seg HO_3.out ((ji12) : Int) (of_decide_eq_true (by first | (with_reducible assumption) | assumption)) (by have h_ : ((ji12) : Int) < ((x3_1.length : Int) : Int) := of_decide_eq_true (by first | (with_reducible assumption) | assumption); first | exact h_ | (have e_ := (rR HO_3.out).1; omega) | simpa using h_) (seg := [.int .i64 ji26]) (j := 1) hcl34 hcc34 (show 2 ≤ 2 from by decide) (x' := (⟨(rd_T64 x3_1 (ji12)).f0, ji26⟩ : S64)) (k64_mkM _ _ _ (⟨(rd_T64 x3_1 (ji12)).f0, ji26⟩ : S64) ) (fun _ hk => hk)).1
           rw [← Ny112.out] at HP34
           have HQ34 := Aside0.mk HP34
           clear hcl34 hcc34 hfr34 hM34 HP34
           refine start_ (n := 15) (S := fun w' => w'.cell? ⟨gb106, 0, none⟩ = some (.int .i64 ((rd_T64 x11_1 x13_1).f0)) ∧ w'.cell? ⟨gb106, 1, none⟩ = some (.int .i64 ((rd_T64 x11_1 x13_1).f1)) ∧ w'.cell? ⟨go27, ((ji12)).toNat * 2, none⟩ = some (.int .i64 ((rd_T64 x3_1 (ji12)).f0)) ∧ w'.cell? ⟨go27, ((ji12)).toNat * 2 + 1, none⟩ = some (.int .i64 ((rd_T64 x3_1 (ji12)).f1))) (ds := [14]) #[Z,Z,Z,Z,Z,Z,Z,Z,Z,Z,Z,Z,Z,Z,Z] (by kernel_rfl) rfl rfl ⟨(blk_cell BK106.out 0).trans rfl, (blk_cell BK106.out 1).trans rfl, hx111_0, hx111_1⟩ (fun hHeld => ?_); refine with_tabW classes_joined.tab9 classes_joined.bits9 (fun HT_ HW_ => ?_)
           generalize w32.drew = w33 at HO_3 HO_11 BK106 HK HB GG27 HQ34 hf27_0 hf27_1 hx107_0 hx107_1 hx110_0 hx110_1 hx111_0 hx111_1 hx27_0 hx27_1 hHeld ⊢
           refine run_ [.p 0, .p 1, .p 2, .p 3, .p 4, .p 5, .p 6, .p 7, .p 9, .t 8, .t 10, .p 11, .p 12, .p 13] 1 #[I,I,I,I,I,I,I,I,I,I,I,I,I,I,Z] HT_.out (fun c d v a w h => by cases d <;> exact h) hHeld rfl (by kernel_rfl) ?_
           repeat first
           | (refine kp_ (v := ?_) (b := ?_) rfl (.inl ⟨by rfl, ?_⟩) ?_ ?_; rotate_left 2; (intro w'; go_simp; with_reducible rfl); (simp only [Act.put, pu_, pz_, ps_, i64_w, i32_w]; rfl))
           | (refine kt_ (v := ?_) (b := ?_) rfl (.inl ⟨by rfl, ?_⟩) ?_ ?_; rotate_left 2; (rintro w' ⟨s0, s1, s2, s3⟩; go_simp; with_reducible rfl); (simp only [Act.put, pu_, pz_, ps_, i64_w, i32_w]; rfl))
           refine kd_ ?_
           refine last_ (i := 14) (N := none) #[I,I,I,I,I,I,I,I,I,I,I,I,I,I,I] rfl rfl (one_of HT_.out (by kernel_rfl)) (by decide) (fun K hK => ?_)
           refine skip_ (w1 := ?_) (by rfl) rfl ?_ ?_
           rotate_left
           ·go_simp
            rfl
           refine hK.out _ _ ?_
           clear hK K
           refine done_ (done_of HT_.out (by kernel_rfl)) ?_
           try go_wp2
           (try simp only [← hl11_1])
           go_roundg k1
           case measure => have := HK1.out; omega
           case rel => exact ⟨(y112), (x11_1), (wrap64 (x13_1 + 1)), (by first | rfl | (simp; done) | (simp [*]; done)), H', ⟨by have := HK1.out; omega⟩, ⟨by (try simp only [hl11_1]); (with_reducible repeat (first | apply rA | apply rN | apply rD)); exact Kd.R_mono HQ34.out (fun _ hk => ⟨hk.1, hk.2.1⟩)⟩, ⟨by (try simp only [hl11_1]); (with_reducible repeat (first | apply rA | apply rN | apply rD)); exact Kd.R_mono (Kd.R_far (p := ⟨go27, ((ji12) : Int).toNat * 2 + 1, none⟩) (Kd.R_mono HO_11.out (fun k_ hk => (⟨hk, fun e_ => hk.2.1 (by rw [e_]; rfl)⟩ : _ ∧ k_ ≠ go27))) (fun _ hk => hk.2) (.int .i64 ji26)) (fun _ hk => ⟨hk.1.1, hk.1.2.1⟩)⟩, ⟨by repeat (first | (with_reducible first | exact HK.out | apply Kept.alloc | apply Kept.drewN | apply Kept.drew | refine Kept.setCell ?_ HMgo27.out _ | refine Kept.setCell ?_ (.inr GW106.out) _) | exact HK.out)⟩, ⟨by repeat (first | (with_reducible first | exact HB.out | apply wA | apply wN | apply wD | refine wS ?_ GB27.out | refine wS ?_ GE106.out) | exact HB.out)⟩⟩
          ·rw [if_neg c25] at H
           have c25b0 : ((wrap64 (((rd_T64 x11_1 x13_1).f0) - 1)) == ((rd_T64 x3_1 (ji12)).f1)) = false := beq_eq_false_iff_ne.mpr c25
           have c25b1 : ((wrap64 (((rd_T64 x11_1 x13_1).f0) - 1)) != ((rd_T64 x3_1 (ji12)).f1)) = true := bne_iff_ne.mpr c25
           by_cases c35 : x3_1.length < 8796093022208
           ·rw [if_pos c35] at H
            have LMc35 := Aside0.mk c35
            clear c35
            obtain ⟨y113, hy113⟩ : ∃ y_ : List (S64), y_ = (x3_1 ++ [(⟨(rd_T64 x11_1 x13_1).f0, (rd_T64 x11_1 x13_1).f1⟩ : S64)]) := ⟨_, rfl⟩
            replace H : (classes_joined.l0 k1 y113 x11_1 (t101.length : Int) (wrap64 (x13_1 + 1))) = some r := by first | (rw [hy113]; with_reducible exact H) | (have H2_ := (Option.bind_some _ _).symm.trans H; rw [hy113]; with_reducible exact H2_) | (have H2_ := (Option.bind_some _ _).symm.trans H; with_reducible exact H2_) | with_reducible exact H | (rw [hy113]; exact H) | exact H
            have Ny113 := Aside0.mk hy113
            clear hy113
            have H' := Aside0.mk H
            clear H
            have p105 : 0 ≤ (x13_1 : Int) := of_decide_eq_true (by first | (with_reducible assumption) | assumption)
            have q105 : x13_1 < (x11_1.length : Int) := of_decide_eq_true (by first | (with_reducible assumption) | assumption)
            obtain ⟨ad105, e105, hx105_0, hx105_1⟩ := at_T64 (rR HO_11.out).2.2 x13_1 p105 q105
            cases e105
            replace p105 := eq_true p105
            replace q105 := eq_true q105
            try go_wp2_with (first | ((with_reducible refine gate_dst (N := 5) rfl ?_); refine box_event ?hg (N := 5) ?hd (cs := #[.int .i64 0, .int .i64 0]) (t := 39) ?hr ?_; (case hd => rfl); (case hg => rfl); (case hr => first | (go_simp; done) | (go_simp; rfl)); intro gb106 hg w36 hbox hb; have n0_ := Aside0.mk (Kd.R_below (Kd.R_elderB (by (with_reducible repeat (first | apply rA | apply rN | apply rD)); exact HO_3.out) gb106 (Nat.le_of_eq hg.symm)) hb); have n1_ := Aside0.mk (Kd.R_below (Kd.R_elderB (by (with_reducible repeat (first | apply rA | apply rN | apply rD)); exact HO_11.out) gb106 (Nat.le_of_eq hg.symm)) hb); have n2_ := Aside0.mk (Kept.below (S := (fun k_ => P0_ k_)) (by repeat (first | (with_reducible first | exact HK.out | apply Kept.alloc | apply Kept.drewN | apply Kept.drew) | exact HK.out)) hb); have n3_ := Aside0.mk (below_step (by repeat (first | (with_reducible first | exact HB.out | apply wA | apply wN | apply wD) | exact HB.out)) hb); have n4_ := Aside0.mk (hbox); have n5_ := Aside0.mk ((by rw [hg]; exact (by first | exact HK.out.1 | exact (show Kept w _ (fun k_ => P0_ k_) from by repeat (first | (with_reducible first | exact HK.out | apply Kept.alloc | apply Kept.drewN | apply Kept.drew) | exact HK.out)).1) : w.heap.size ≤ gb106)); have n6_ := Aside0.mk ((by rw [hg]; exact (below_size (by repeat (first | (with_reducible first | exact HB.out | apply wA | apply wN | apply wD) | exact HB.out))) : w0.heap.size ≤ gb106)); clear HO_3; clear HO_11; clear HK; clear HB; have HO_3 := n0_; have HO_11 := n1_; have HK := n2_; have HB := n3_; have BK106 := n4_; have GW106 := n5_; have GE106 := n6_; clear n0_ n1_ n2_ n3_ n4_ n5_ n6_; clear hb hbox hg; have hcz37_0 : w36.cell? ⟨gb106, 0, none⟩ = some (.int .i64 0) := (blk_cell BK106.out 0).trans rfl; have hcz37_1 : w36.cell? ⟨gb106, 1, none⟩ = some (.int .i64 0) := (blk_cell BK106.out 1).trans rfl; have hfz37_0 := blk_frozen BK106.out 0; have hfz37_1 := blk_frozen BK106.out 1; obtain ⟨Ao38, co38, eo38⟩ := Kd.R_slice HO_3.out; subst eo38))
            have n0_ : Aside0 (Kd.R k64 39 ((w36.setCell ⟨gb106, 0, none⟩ (.int .i64 ((rd_T64 x11_1 x13_1).f0))).setCell ⟨gb106, 1, none⟩ (.int .i64 ((rd_T64 x11_1 x13_1).f1))) w0.heap.size (fun k_ => (P0_ k_ ∨ w.heap.size ≤ k_) ∧ some k_ ≠ (.slice (some ad105) x11_1.length co6 : Value).ownBlock ∧ k_ ≠ gb106) (.slice Ao38 x3_1.length co38) x3_1) := ⟨by (with_reducible repeat (first | apply rA | apply rN | apply rD)); exact Kd.R_mono (Kd.R_far (p := ⟨gb106, 1, none⟩) (Kd.R_far (p := ⟨gb106, 0, none⟩) (Kd.R_mono HO_3.out (fun k_ hk => (⟨hk, hk.2⟩ : _ ∧ k_ ≠ gb106))) (fun _ hk => hk.2) (.int .i64 ((rd_T64 x11_1 x13_1).f0))) (fun _ hk => hk.2) (.int .i64 ((rd_T64 x11_1 x13_1).f1))) (fun _ hk => ⟨hk.1.1.1, ⟨hk.1.1.2, hk.1.2⟩⟩)⟩
            have n1_ : Aside0 (Kd.R k64 39 ((w36.setCell ⟨gb106, 0, none⟩ (.int .i64 ((rd_T64 x11_1 x13_1).f0))).setCell ⟨gb106, 1, none⟩ (.int .i64 ((rd_T64 x11_1 x13_1).f1))) w0.heap.size (fun k_ => (P0_ k_ ∨ w.heap.size ≤ k_) ∧ some k_ ≠ (.slice Ao38 x3_1.length co38 : Value).ownBlock ∧ k_ ≠ gb106) (.slice (some ad105) x11_1.length co6) x11_1) := ⟨by (with_reducible repeat (first | apply rA | apply rN | apply rD)); exact Kd.R_mono (Kd.R_far (p := ⟨gb106, 1, none⟩) (Kd.R_far (p := ⟨gb106, 0, none⟩) (Kd.R_mono HO_11.out (fun k_ hk => (⟨hk, hk.2⟩ : _ ∧ k_ ≠ gb106))) (fun _ hk => hk.2) (.int .i64 ((rd_T64 x11_1 x13_1).f0))) (fun _ hk => hk.2) (.int .i64 ((rd_T64 x11_1 x13_1).f1))) (fun _ hk => ⟨hk.1.1.1, ⟨hk.1.1.2, hk.1.2⟩⟩)⟩
            have n2_ : Aside0 (((w36.setCell ⟨gb106, 0, none⟩ (.int .i64 ((rd_T64 x11_1 x13_1).f0))).setCell ⟨gb106, 1, none⟩ (.int .i64 ((rd_T64 x11_1 x13_1).f1))).heap[gb106]? = some (.cells #[.int .i64 ((rd_T64 x11_1 x13_1).f0), .int .i64 ((rd_T64 x11_1 x13_1).f1)] 39 (0, 0))) := ⟨by (with_reducible repeat (first | refine bN ?_ _ | refine bD ?_ | refine bA ?_ _)); refine blk_put (cs := #[.int .i64 ((rd_T64 x11_1 x13_1).f0), .int .i64 0]) ?_ 1 _ rfl; (with_reducible repeat (first | refine bN ?_ _ | refine bD ?_ | refine bA ?_ _)); refine blk_put (cs := #[.int .i64 0, .int .i64 0]) ?_ 0 _ rfl; (with_reducible repeat (first | refine bN ?_ _ | refine bD ?_ | refine bA ?_ _)); exact BK106.out⟩
            have n3_ : Aside0 (Kept w ((w36.setCell ⟨gb106, 0, none⟩ (.int .i64 ((rd_T64 x11_1 x13_1).f0))).setCell ⟨gb106, 1, none⟩ (.int .i64 ((rd_T64 x11_1 x13_1).f1))) (fun k_ => P0_ k_)) := ⟨by repeat (first | (with_reducible first | exact HK.out | apply Kept.alloc | apply Kept.drewN | apply Kept.drew | refine Kept.setCell ?_ (.inr GW106.out) _) | exact HK.out)⟩
            have n4_ : Aside0 (Below w0.heap.size w0 ((w36.setCell ⟨gb106, 0, none⟩ (.int .i64 ((rd_T64 x11_1 x13_1).f0))).setCell ⟨gb106, 1, none⟩ (.int .i64 ((rd_T64 x11_1 x13_1).f1)))) := ⟨by repeat (first | (with_reducible first | exact HB.out | apply wA | apply wN | apply wD | refine wS ?_ GE106.out) | exact HB.out)⟩
            (try clear HO_3)
            (try clear HO_11)
            (try clear BK106)
            (try clear HK)
            (try clear HB)
            generalize ((w36.setCell ⟨gb106, 0, none⟩ (.int .i64 ((rd_T64 x11_1 x13_1).f0))).setCell ⟨gb106, 1, none⟩ (.int .i64 ((rd_T64 x11_1 x13_1).f1))) = w39 at n0_ n1_ n2_ n3_ n4_ ⊢
            have HO_3 := n0_
            have HO_11 := n1_
            have BK106 := n2_
            have HK := n3_
            have HB := n4_
            clear n0_ n1_ n2_ n3_ n4_
            have n0_ := Aside0.mk (rD HO_3.out)
            have n1_ := Aside0.mk (rD HO_11.out)
            have n2_ := Aside0.mk (bD BK106.out)
            have n3_ := Aside0.mk (Kept.drew HK.out)
            have n4_ := Aside0.mk (wD HB.out)
            clear HO_3
            clear HO_11
            clear BK106
            clear HK
            clear HB
            have HO_3 := n0_
            have HO_11 := n1_
            have BK106 := n2_
            have HK := n3_
            have HB := n4_
            clear n0_ n1_ n2_ n3_ n4_
            have p107 : 0 ≤ ((ji12) : Int) := of_decide_eq_true (by first | (with_reducible assumption) | assumption)
            have q107 : (ji12) < (x3_1.length : Int) := of_decide_eq_true (by first | (with_reducible assumption) | assumption)
            obtain ⟨ad107, e107, hx107_0, hx107_1⟩ := at_T64 (rR HO_3.out).2.2 (ji12) p107 q107
            cases e107
            replace p107 := eq_true p107
            replace q107 := eq_true q107
            have p110 : 0 ≤ ((ji12) : Int) := of_decide_eq_true (by first | (with_reducible assumption) | assumption)
            have q110 : (ji12) < (x3_1.length : Int) := of_decide_eq_true (by first | (with_reducible assumption) | assumption)
            obtain ⟨ad110, e110, hx110_0, hx110_1⟩ := at_T64 (rR HO_3.out).2.2 (ji12) p110 q110
            obtain rfl : ad107 = ad110 := (by injection e110)
            replace p110 := eq_true p110
            replace q110 := eq_true q110
            refine start_ (n := 29) (S := fun w' => w'.cell? ⟨gb106, 0, none⟩ = some (.int .i64 ((rd_T64 x11_1 x13_1).f0)) ∧ w'.cell? ⟨gb106, 1, none⟩ = some (.int .i64 ((rd_T64 x11_1 x13_1).f1)) ∧ w'.cell? (ad107.add (((ji12)).toNat * 2)) = some (.int .i64 ((rd_T64 x3_1 (ji12)).f0)) ∧ w'.cell? ⟨(ad107.add (((ji12)).toNat * 2)).block, (ad107.add (((ji12)).toNat * 2)).off + 1, none⟩ = some (.int .i64 ((rd_T64 x3_1 (ji12)).f1)) ∧ w'.cell? (ad107.add (((ji12)).toNat * 2)) = some (.int .i64 ((rd_T64 x3_1 (ji12)).f0)) ∧ w'.cell? ⟨(ad107.add (((ji12)).toNat * 2)).block, (ad107.add (((ji12)).toNat * 2)).off + 1, none⟩ = some (.int .i64 ((rd_T64 x3_1 (ji12)).f1))) (ds := []) #[Z,Z,Z,Z,Z,Z,Z,Z,Z,Z,Z,Z,Z,Z,Z,Z,Z,Z,Z,Z,Z,Z,Z,Z,Z,Z,Z,Z,Z] (by kernel_rfl) rfl rfl ⟨(blk_cell BK106.out 0).trans rfl, (blk_cell BK106.out 1).trans rfl, hx107_0, hx107_1, hx110_0, hx110_1⟩ (fun hHeld => ?_); refine with_tabW classes_joined.tab8 classes_joined.bits8 (fun HT_ HW_ => ?_)
            generalize w39.drew = w40 at HO_3 HO_11 BK106 HK HB hx107_0 hx107_1 hx110_0 hx110_1 hHeld ⊢
            refine run_ [.p 0, .p 1, .p 2, .p 3, .p 5, .p 6, .p 7, .p 8, .p 9, .t 4, .t 10, .p 11, .p 12, .p 13, .p 14, .p 15, .p 16, .p 17, .p 20, .p 21, .p 22, .p 23, .p 24, .t 18, .p 19, .t 25, .p 26, .p 27, .p 28] 0 #[I,I,I,I,I,I,I,I,I,I,I,I,I,I,I,I,I,I,I,I,I,I,I,I,I,I,I,I,I] HT_.out (fun c d v a w h => by cases d <;> exact h) hHeld rfl (by kernel_rfl) ?_
            repeat first
            | (refine kp_ (v := ?_) (b := ?_) rfl (.inl ⟨by rfl, ?_⟩) ?_ ?_; rotate_left 2; (intro w'; go_simp; with_reducible rfl); (simp only [Act.put, pu_, pz_, ps_, i64_w, i32_w]; rfl))
            | (refine kt_ (v := ?_) (b := ?_) rfl (.inl ⟨by rfl, ?_⟩) ?_ ?_; rotate_left 2; (rintro w' ⟨s0, s1, s2, s3, s4, s5⟩; go_simp; with_reducible rfl); (simp only [Act.put, pu_, pz_, ps_, i64_w, i32_w]; rfl))
            refine kd_ ?_
            refine done_ (done_of HT_.out (by kernel_rfl)) ?_
            have hcz41_0 : w40.cell? ⟨gb106, 0, none⟩ = some (.int .i64 ((rd_T64 x11_1 x13_1).f0)) := (blk_cell BK106.out 0).trans rfl
            have hcz41_1 : w40.cell? ⟨gb106, 1, none⟩ = some (.int .i64 ((rd_T64 x11_1 x13_1).f1)) := (blk_cell BK106.out 1).trans rfl
            have hfz41_0 := blk_frozen BK106.out 0
            have hfz41_1 := blk_frozen BK106.out 1
            try go_wp2_with (first | ((with_reducible refine gate_builtin (b := .append) (xs := #[.tmp 62, .tmp 64]) rfl ?_); at_builtin; refine Kd.R_append k64 (w0 := w0) w0.heap.size rfl (.tmp 62) (.tmp 64) 35 39 (.agg #[(.int .i64 0), (.int .i64 0)]) 16 rfl Tryz.underlying35 info64 rfl (by decide) (by omega) (.slice (some ad107) x3_1.length co38) x3_1 (⟨(rd_T64 x11_1 x13_1).f0, (rd_T64 x11_1 x13_1).f1⟩ : S64) [.int .i64 ((rd_T64 x11_1 x13_1).f0), .int .i64 ((rd_T64 x11_1 x13_1).f1)] (fun k_ => (P0_ k_ ∨ w.heap.size ≤ k_) ∧ some k_ ≠ (.slice (some ad105) x11_1.length co6 : Value).ownBlock ∧ k_ ≠ gb106) (fun _ => False) rfl rfl ?aP (fun _ hk => hk.elim) ?aF ?aO ?aB ?aS ?aL ?_; (case aP => exact k64_mkM _ _ _ (⟨(rd_T64 x11_1 x13_1).f0, (rd_T64 x11_1 x13_1).f1⟩ : S64)); (case aB => exact (by repeat (first | (with_reducible first | exact HB.out | apply wA | apply wN | apply wD | refine wS ?_ GE106.out) | exact HB.out))); (case aF => exact (fun k_ hk => ⟨(.inr (Nat.le_trans (by first | exact HK.out.1 | exact (show Kept w _ (fun k_ => P0_ k_) from by repeat (first | (with_reducible first | exact HK.out | apply Kept.alloc | apply Kept.drewN | apply Kept.drew | refine Kept.setCell ?_ (.inr GW106.out) _) | exact HK.out)).1) hk)), Kd.fresh' (rL (by (with_reducible repeat (first | apply rA | apply rN | apply rD)); exact HO_11.out)) k_ hk, Kd.freshB (g := gb106) (o := .cells #[.int .i64 ((rd_T64 x11_1 x13_1).f0), .int .i64 ((rd_T64 x11_1 x13_1).f1)] 39 (0, 0)) (by (with_reducible repeat (first | refine bN ?_ _ | refine bD ?_ | refine bA ?_ _)); exact BK106.out) k_ hk⟩)); (case aO => exact (by (with_reducible repeat (first | apply rA | apply rN | apply rD)); exact HO_3.out)); (case aS => exact (below_size (by repeat (first | (with_reducible first | exact HB.out | apply wA | apply wN | apply wD | refine wS ?_ GE106.out) | exact HB.out)))); (case aL => have := LMc35.out; omega); intro v114 w42 ho hb hg hat; rw [← Ny113.out] at ho; have n0_ := Aside0.mk (Kd.R_after (ok := (fun k_ => (P0_ k_ ∨ w.heap.size ≤ k_) ∧ k_ ≠ gb106)) (by (with_reducible repeat (first | apply rA | apply rN | apply rD)); exact Kd.R_mono HO_11.out (fun _ hk => ⟨⟨hk.1, hk.2.2⟩, hk.2.1⟩)) hg hat); have n1_ := Aside0.mk (blk_grown (g := gb106) (o := .cells #[.int .i64 ((rd_T64 x11_1 x13_1).f0), .int .i64 ((rd_T64 x11_1 x13_1).f1)] 39 (0, 0)) (by (with_reducible repeat (first | refine bN ?_ _ | refine bD ?_ | refine bA ?_ _)); exact BK106.out) hg (Kd.R_away HO_3.out (fun _ hk => hk.2.2))); have n2_ := Aside0.mk (hb); have n3_ := Aside0.mk (Kept.of_grown (S := (fun k_ => P0_ k_)) hg (by repeat (first | (with_reducible first | exact HK.out | apply Kept.alloc | apply Kept.drewN | apply Kept.drew | refine Kept.setCell ?_ (.inr GW106.out) _) | exact HK.out)) (fun k_ e_ => (HO_3.out.1 k_ e_).1)); have n4_ := Aside0.mk (ho); clear HO_11; clear BK106; clear HB; clear HK; clear HO_3; have HO_11 := n0_; have BK106 := n1_; have HB := n2_; have HK := n3_; have HO115 := n4_; clear n0_ n1_ n2_ n3_ n4_; clear ho hb hg hat))
            (try simp only [← hl11_1])
            go_roundg k1
            case measure => have := HK1.out; omega
            case rel => exact ⟨(y113), (x11_1), (wrap64 (x13_1 + 1)), (by first | rfl | (simp; done) | (simp [*]; done)), H', ⟨by have := HK1.out; omega⟩, ⟨by (try simp only [hl11_1]); (with_reducible repeat (first | apply rA | apply rN | apply rD)); exact Kd.R_mono HO115.out (fun _ hk => ⟨hk.1, hk.2.1⟩)⟩, ⟨by (try simp only [hl11_1]); (with_reducible repeat (first | apply rA | apply rN | apply rD)); exact Kd.R_mono HO_11.out (fun _ hk => ⟨hk.1.1, hk.2⟩)⟩, ⟨by repeat (first | (with_reducible first | exact HK.out | apply Kept.alloc | apply Kept.drewN | apply Kept.drew | refine Kept.setCell ?_ (.inr GW106.out) _) | exact HK.out)⟩, ⟨by repeat (first | (with_reducible first | exact HB.out | apply wA | apply wN | apply wD | refine wS ?_ GE106.out) | exact HB.out)⟩⟩
           ·rw [if_neg c35] at H
            exact absurd H (by simp)
        ·rw [if_neg c14] at H
         exact absurd H (by simp)
       ·rw [if_neg c13] at H
        exact absurd H (by simp)
      ·rw [if_neg c11] at H
       have c11b0 : decide (0 < (x3_1.length : Int)) = false := decide_eq_false c11
       have c11z0 := c11b0
       (try simp only [hl11_1] at c11z0)
       have c11b1 : decide (0 < x3_1.length) = false := decide_eq_false (by omega)
       have c11z1 := c11b1
       (try simp only [hl11_1] at c11z1)
       clear c11
       by_cases c43 : x3_1.length < 8796093022208
       ·rw [if_pos c43] at H
        have LMc43 := Aside0.mk c43
        clear c43
        obtain ⟨y116, hy116⟩ : ∃ y_ : List (S64), y_ = (x3_1 ++ [(⟨(rd_T64 x11_1 x13_1).f0, (rd_T64 x11_1 x13_1).f1⟩ : S64)]) := ⟨_, rfl⟩
        replace H : (classes_joined.l0 k1 y116 x11_1 (t101.length : Int) (wrap64 (x13_1 + 1))) = some r := by first | (rw [hy116]; with_reducible exact H) | (have H2_ := (Option.bind_some _ _).symm.trans H; rw [hy116]; with_reducible exact H2_) | (have H2_ := (Option.bind_some _ _).symm.trans H; with_reducible exact H2_) | with_reducible exact H | (rw [hy116]; exact H) | exact H
        have Ny116 := Aside0.mk hy116
        clear hy116
        have H' := Aside0.mk H
        clear H
        have p105 : 0 ≤ (x13_1 : Int) := of_decide_eq_true (by first | (with_reducible assumption) | assumption)
        have q105 : x13_1 < (x11_1.length : Int) := of_decide_eq_true (by first | (with_reducible assumption) | assumption)
        obtain ⟨ad105, e105, hx105_0, hx105_1⟩ := at_T64 (rR HO_11.out).2.2 x13_1 p105 q105
        cases e105
        replace p105 := eq_true p105
        replace q105 := eq_true q105
        try go_wp2_with (first | ((with_reducible refine gate_dst (N := 5) rfl ?_); refine box_event ?hg (N := 5) ?hd (cs := #[.int .i64 0, .int .i64 0]) (t := 39) ?hr ?_; (case hd => rfl); (case hg => rfl); (case hr => first | (go_simp; done) | (go_simp; rfl)); intro gb106 hg w44 hbox hb; have n0_ := Aside0.mk (Kd.R_below (Kd.R_elderB (by (with_reducible repeat (first | apply rA | apply rN | apply rD)); exact HO_3.out) gb106 (Nat.le_of_eq hg.symm)) hb); have n1_ := Aside0.mk (Kd.R_below (Kd.R_elderB (by (with_reducible repeat (first | apply rA | apply rN | apply rD)); exact HO_11.out) gb106 (Nat.le_of_eq hg.symm)) hb); have n2_ := Aside0.mk (Kept.below (S := (fun k_ => P0_ k_)) (by repeat (first | (with_reducible first | exact HK.out | apply Kept.alloc | apply Kept.drewN | apply Kept.drew) | exact HK.out)) hb); have n3_ := Aside0.mk (below_step (by repeat (first | (with_reducible first | exact HB.out | apply wA | apply wN | apply wD) | exact HB.out)) hb); have n4_ := Aside0.mk (hbox); have n5_ := Aside0.mk ((by rw [hg]; exact (by first | exact HK.out.1 | exact (show Kept w _ (fun k_ => P0_ k_) from by repeat (first | (with_reducible first | exact HK.out | apply Kept.alloc | apply Kept.drewN | apply Kept.drew) | exact HK.out)).1) : w.heap.size ≤ gb106)); have n6_ := Aside0.mk ((by rw [hg]; exact (below_size (by repeat (first | (with_reducible first | exact HB.out | apply wA | apply wN | apply wD) | exact HB.out))) : w0.heap.size ≤ gb106)); clear HO_3; clear HO_11; clear HK; clear HB; have HO_3 := n0_; have HO_11 := n1_; have HK := n2_; have HB := n3_; have BK106 := n4_; have GW106 := n5_; have GE106 := n6_; clear n0_ n1_ n2_ n3_ n4_ n5_ n6_; clear hb hbox hg; have hcz45_0 : w44.cell? ⟨gb106, 0, none⟩ = some (.int .i64 0) := (blk_cell BK106.out 0).trans rfl; have hcz45_1 : w44.cell? ⟨gb106, 1, none⟩ = some (.int .i64 0) := (blk_cell BK106.out 1).trans rfl; have hfz45_0 := blk_frozen BK106.out 0; have hfz45_1 := blk_frozen BK106.out 1; obtain ⟨Ao46, co46, eo46⟩ := Kd.R_slice HO_3.out; subst eo46))
        have n0_ : Aside0 (Kd.R k64 39 ((w44.setCell ⟨gb106, 0, none⟩ (.int .i64 ((rd_T64 x11_1 x13_1).f0))).setCell ⟨gb106, 1, none⟩ (.int .i64 ((rd_T64 x11_1 x13_1).f1))) w0.heap.size (fun k_ => (P0_ k_ ∨ w.heap.size ≤ k_) ∧ some k_ ≠ (.slice (some ad105) x11_1.length co6 : Value).ownBlock ∧ k_ ≠ gb106) (.slice Ao46 x3_1.length co46) x3_1) := ⟨by (with_reducible repeat (first | apply rA | apply rN | apply rD)); exact Kd.R_mono (Kd.R_far (p := ⟨gb106, 1, none⟩) (Kd.R_far (p := ⟨gb106, 0, none⟩) (Kd.R_mono HO_3.out (fun k_ hk => (⟨hk, hk.2⟩ : _ ∧ k_ ≠ gb106))) (fun _ hk => hk.2) (.int .i64 ((rd_T64 x11_1 x13_1).f0))) (fun _ hk => hk.2) (.int .i64 ((rd_T64 x11_1 x13_1).f1))) (fun _ hk => ⟨hk.1.1.1, ⟨hk.1.1.2, hk.1.2⟩⟩)⟩
        have n1_ : Aside0 (Kd.R k64 39 ((w44.setCell ⟨gb106, 0, none⟩ (.int .i64 ((rd_T64 x11_1 x13_1).f0))).setCell ⟨gb106, 1, none⟩ (.int .i64 ((rd_T64 x11_1 x13_1).f1))) w0.heap.size (fun k_ => (P0_ k_ ∨ w.heap.size ≤ k_) ∧ some k_ ≠ (.slice Ao46 x3_1.length co46 : Value).ownBlock ∧ k_ ≠ gb106) (.slice (some ad105) x11_1.length co6) x11_1) := ⟨by (with_reducible repeat (first | apply rA | apply rN | apply rD)); exact Kd.R_mono (Kd.R_far (p := ⟨gb106, 1, none⟩) (Kd.R_far (p := ⟨gb106, 0, none⟩) (Kd.R_mono HO_11.out (fun k_ hk => (⟨hk, hk.2⟩ : _ ∧ k_ ≠ gb106))) (fun _ hk => hk.2) (.int .i64 ((rd_T64 x11_1 x13_1).f0))) (fun _ hk => hk.2) (.int .i64 ((rd_T64 x11_1 x13_1).f1))) (fun _ hk => ⟨hk.1.1.1, ⟨hk.1.1.2, hk.1.2⟩⟩)⟩
        have n2_ : Aside0 (((w44.setCell ⟨gb106, 0, none⟩ (.int .i64 ((rd_T64 x11_1 x13_1).f0))).setCell ⟨gb106, 1, none⟩ (.int .i64 ((rd_T64 x11_1 x13_1).f1))).heap[gb106]? = some (.cells #[.int .i64 ((rd_T64 x11_1 x13_1).f0), .int .i64 ((rd_T64 x11_1 x13_1).f1)] 39 (0, 0))) := ⟨by (with_reducible repeat (first | refine bN ?_ _ | refine bD ?_ | refine bA ?_ _)); refine blk_put (cs := #[.int .i64 ((rd_T64 x11_1 x13_1).f0), .int .i64 0]) ?_ 1 _ rfl; (with_reducible repeat (first | refine bN ?_ _ | refine bD ?_ | refine bA ?_ _)); refine blk_put (cs := #[.int .i64 0, .int .i64 0]) ?_ 0 _ rfl; (with_reducible repeat (first | refine bN ?_ _ | refine bD ?_ | refine bA ?_ _)); exact BK106.out⟩
        have n3_ : Aside0 (Kept w ((w44.setCell ⟨gb106, 0, none⟩ (.int .i64 ((rd_T64 x11_1 x13_1).f0))).setCell ⟨gb106, 1, none⟩ (.int .i64 ((rd_T64 x11_1 x13_1).f1))) (fun k_ => P0_ k_)) := ⟨by repeat (first | (with_reducible first | exact HK.out | apply Kept.alloc | apply Kept.drewN | apply Kept.drew | refine Kept.setCell ?_ (.inr GW106.out) _) | exact HK.out)⟩
        have n4_ : Aside0 (Below w0.heap.size w0 ((w44.setCell ⟨gb106, 0, none⟩ (.int .i64 ((rd_T64 x11_1 x13_1).f0))).setCell ⟨gb106, 1, none⟩ (.int .i64 ((rd_T64 x11_1 x13_1).f1)))) := ⟨by repeat (first | (with_reducible first | exact HB.out | apply wA | apply wN | apply wD | refine wS ?_ GE106.out) | exact HB.out)⟩
        (try clear HO_3)
        (try clear HO_11)
        (try clear BK106)
        (try clear HK)
        (try clear HB)
        generalize ((w44.setCell ⟨gb106, 0, none⟩ (.int .i64 ((rd_T64 x11_1 x13_1).f0))).setCell ⟨gb106, 1, none⟩ (.int .i64 ((rd_T64 x11_1 x13_1).f1))) = w47 at n0_ n1_ n2_ n3_ n4_ ⊢
        have HO_3 := n0_
        have HO_11 := n1_
        have BK106 := n2_
        have HK := n3_
        have HB := n4_
        clear n0_ n1_ n2_ n3_ n4_
        have n0_ := Aside0.mk (rD HO_3.out)
        have n1_ := Aside0.mk (rD HO_11.out)
        have n2_ := Aside0.mk (bD BK106.out)
        have n3_ := Aside0.mk (Kept.drew HK.out)
        have n4_ := Aside0.mk (wD HB.out)
        clear HO_3
        clear HO_11
        clear BK106
        clear HK
        clear HB
        have HO_3 := n0_
        have HO_11 := n1_
        have BK106 := n2_
        have HK := n3_
        have HB := n4_
        clear n0_ n1_ n2_ n3_ n4_
        refine start_ (n := 29) (S := fun w' => True) (ds := []) #[Z,Z,Z,Z,Z,Z,Z,Z,Z,Z,Z,Z,Z,Z,Z,Z,Z,Z,Z,Z,Z,Z,Z,Z,Z,Z,Z,Z,Z] (by kernel_rfl) rfl rfl trivial (fun hHeld => ?_); refine with_tabW classes_joined.tab8 classes_joined.bits8 (fun HT_ HW_ => ?_)
        generalize w47.drew = w48 at HO_3 HO_11 BK106 HK HB hHeld ⊢
        refine run_ [.p 0, .p 1, .p 2, .p 3, .p 4, .p 5, .p 6, .p 7, .p 8, .p 9, .p 10, .p 11, .p 12, .p 13, .p 14, .p 15, .p 16, .p 17, .p 18, .p 19, .p 20, .p 21, .p 22, .p 23, .p 24, .p 25, .p 26, .p 27, .p 28] 0 #[I,I,I,I,I,I,I,I,I,I,I,I,I,I,I,I,I,I,I,I,I,I,I,I,I,I,I,I,I] HT_.out (fun c d v a w h => by cases d <;> exact h) hHeld rfl (by kernel_rfl) ?_
        repeat first
        | (refine kp_ (v := ?_) (b := ?_) rfl (.inl ⟨by rfl, ?_⟩) ?_ ?_; rotate_left 2; (intro w'; go_simp; with_reducible rfl); (simp only [Act.put, pu_, pz_, ps_, i64_w, i32_w]; rfl))
        | (refine kp_ (v := undef) (b := ?_) rfl (.inr ⟨by rfl, rfl⟩) ?_ ?_; rotate_left; (simp only [Act.put, pu_, pz_, ps_, i64_w, i32_w]; rfl))
        refine kd_ ?_
        refine done_ (done_of HT_.out (by kernel_rfl)) ?_
        have hcz49_0 : w48.cell? ⟨gb106, 0, none⟩ = some (.int .i64 ((rd_T64 x11_1 x13_1).f0)) := (blk_cell BK106.out 0).trans rfl
        have hcz49_1 : w48.cell? ⟨gb106, 1, none⟩ = some (.int .i64 ((rd_T64 x11_1 x13_1).f1)) := (blk_cell BK106.out 1).trans rfl
        have hfz49_0 := blk_frozen BK106.out 0
        have hfz49_1 := blk_frozen BK106.out 1
        try go_wp2_with (first | ((with_reducible refine gate_builtin (b := .append) (xs := #[.tmp 62, .tmp 64]) rfl ?_); at_builtin; refine Kd.R_append k64 (w0 := w0) w0.heap.size rfl (.tmp 62) (.tmp 64) 35 39 (.agg #[(.int .i64 0), (.int .i64 0)]) 16 rfl Tryz.underlying35 info64 rfl (by decide) (by omega) (.slice Ao46 x3_1.length co46) x3_1 (⟨(rd_T64 x11_1 x13_1).f0, (rd_T64 x11_1 x13_1).f1⟩ : S64) [.int .i64 ((rd_T64 x11_1 x13_1).f0), .int .i64 ((rd_T64 x11_1 x13_1).f1)] (fun k_ => (P0_ k_ ∨ w.heap.size ≤ k_) ∧ some k_ ≠ (.slice (some ad105) x11_1.length co6 : Value).ownBlock ∧ k_ ≠ gb106) (fun _ => False) rfl rfl ?aP (fun _ hk => hk.elim) ?aF ?aO ?aB ?aS ?aL ?_; (case aP => exact k64_mkM _ _ _ (⟨(rd_T64 x11_1 x13_1).f0, (rd_T64 x11_1 x13_1).f1⟩ : S64)); (case aB => exact (by repeat (first | (with_reducible first | exact HB.out | apply wA | apply wN | apply wD | refine wS ?_ GE106.out) | exact HB.out))); (case aF => exact (fun k_ hk => ⟨(.inr (Nat.le_trans (by first | exact HK.out.1 | exact (show Kept w _ (fun k_ => P0_ k_) from by repeat (first | (with_reducible first | exact HK.out | apply Kept.alloc | apply Kept.drewN | apply Kept.drew | refine Kept.setCell ?_ (.inr GW106.out) _) | exact HK.out)).1) hk)), Kd.fresh' (rL (by (with_reducible repeat (first | apply rA | apply rN | apply rD)); exact HO_11.out)) k_ hk, Kd.freshB (g := gb106) (o := .cells #[.int .i64 ((rd_T64 x11_1 x13_1).f0), .int .i64 ((rd_T64 x11_1 x13_1).f1)] 39 (0, 0)) (by (with_reducible repeat (first | refine bN ?_ _ | refine bD ?_ | refine bA ?_ _)); exact BK106.out) k_ hk⟩)); (case aO => exact (by (with_reducible repeat (first | apply rA | apply rN | apply rD)); exact HO_3.out)); (case aS => exact (below_size (by repeat (first | (with_reducible first | exact HB.out | apply wA | apply wN | apply wD | refine wS ?_ GE106.out) | exact HB.out)))); (case aL => have := LMc43.out; omega); intro v117 w50 ho hb hg hat; rw [← Ny116.out] at ho; have n0_ := Aside0.mk (Kd.R_after (ok := (fun k_ => (P0_ k_ ∨ w.heap.size ≤ k_) ∧ k_ ≠ gb106)) (by (with_reducible repeat (first | apply rA | apply rN | apply rD)); exact Kd.R_mono HO_11.out (fun _ hk => ⟨⟨hk.1, hk.2.2⟩, hk.2.1⟩)) hg hat); have n1_ := Aside0.mk (blk_grown (g := gb106) (o := .cells #[.int .i64 ((rd_T64 x11_1 x13_1).f0), .int .i64 ((rd_T64 x11_1 x13_1).f1)] 39 (0, 0)) (by (with_reducible repeat (first | refine bN ?_ _ | refine bD ?_ | refine bA ?_ _)); exact BK106.out) hg (Kd.R_away HO_3.out (fun _ hk => hk.2.2))); have n2_ := Aside0.mk (hb); have n3_ := Aside0.mk (Kept.of_grown (S := (fun k_ => P0_ k_)) hg (by repeat (first | (with_reducible first | exact HK.out | apply Kept.alloc | apply Kept.drewN | apply Kept.drew | refine Kept.setCell ?_ (.inr GW106.out) _) | exact HK.out)) (fun k_ e_ => (HO_3.out.1 k_ e_).1)); have n4_ := Aside0.mk (ho); clear HO_11; clear BK106; clear HB; clear HK; clear HO_3; have HO_11 := n0_; have BK106 := n1_; have HB := n2_; have HK := n3_; have HO118 := n4_; clear n0_ n1_ n2_ n3_ n4_; clear ho hb hg hat))
        (try simp only [← hl11_1])
        go_roundg k1
        case measure => have := HK1.out; omega
        case rel => exact ⟨(y116), (x11_1), (wrap64 (x13_1 + 1)), (by first | rfl | (simp; done) | (simp [*]; done)), H', ⟨by have := HK1.out; omega⟩, ⟨by (try simp only [hl11_1]); (with_reducible repeat (first | apply rA | apply rN | apply rD)); exact Kd.R_mono HO118.out (fun _ hk => ⟨hk.1, hk.2.1⟩)⟩, ⟨by (try simp only [hl11_1]); (with_reducible repeat (first | apply rA | apply rN | apply rD)); exact Kd.R_mono HO_11.out (fun _ hk => ⟨hk.1.1, hk.2⟩)⟩, ⟨by repeat (first | (with_reducible first | exact HK.out | apply Kept.alloc | apply Kept.drewN | apply Kept.drew | refine Kept.setCell ?_ (.inr GW106.out) _) | exact HK.out)⟩, ⟨by repeat (first | (with_reducible first | exact HB.out | apply wA | apply wN | apply wD | refine wS ?_ GE106.out) | exact HB.out)⟩⟩
       ·rw [if_neg c43] at H
        exact absurd H (by simp)
     ·rw [if_neg c10] at H
      exact absurd H (by simp)
    ·rw [if_neg c9] at H
     exact absurd H (by simp)
   ·rw [if_neg c8] at H
    have c8b0 : decide (x13_1 < (t101.length : Int)) = false := decide_eq_false c8
    have c8z0 := c8b0
    (try simp only [hl11_1] at c8z0)
    clear c8
    obtain rfl := Option.some.inj H
    go_wp2
    go_ret
    exact ⟨_, by first | rfl | (simp [errW_none, errW_some] <;> rfl) | (simp [*, errW_none, errW_some] <;> rfl), by (with_reducible repeat (first | apply rA | apply rN | apply rD)); exact Kd.R_mono HO_3.out (fun _ hk => hk.1), by repeat (first | (with_reducible first | exact HB.out | apply wA | apply wN | apply wD) | exact HB.out), by repeat (first | (with_reducible first | exact HK.out | apply Kept.alloc | apply Kept.drewN | apply Kept.drew) | exact HK.out)⟩
end Go.Proofs.YtamhkdlcoghdbaaGreatDoor.PCls
