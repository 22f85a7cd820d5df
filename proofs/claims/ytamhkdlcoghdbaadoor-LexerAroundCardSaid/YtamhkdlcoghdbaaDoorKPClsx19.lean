/- Out of PClsx19 (wip/tools/prune2.py): the declarations alone that the texts of the trees name. -/
import Derived.Test.YtamhkdlcoghdbaaDoorKGOne
namespace Go.Proofs.YtamhkdlcoghdbaaDoor.PCls
open Go.RowKit Go.Proofs.YtamhkdlcoghdbaaDoorW.PrintWords Go.Proofs.YtamhkdlcoghdbaaDoorW.PrintLast Go.Proofs.YtamhkdlcoghdbaaDoorW.PrintMore
attribute [local go_sem] max2_int min2_int max_two min_two max_three min_three max_four min_four   -- for this text's walks alone
set_option linter.unusedVariables false
set_option linter.unusedSimpArgs false
mutual
def classes_Less.l0 : Nat → List (S64) → List (S64) → List (S64) → Int → Int → Option ((List (S64)))
 | 0, _, _, _, _, _ => none
 | k + 1, x1, x5, x15, x16, x17 => if x17 < x16 then (if 0 ≤ x17 then (if x17 < (x15.length : Int) then (classes_Less.l1 k x1 x5 x15 x16 x17 ((rd_T64 x15 x17).f0) ((rd_T64 x15 x17).f1)) else (none)) else (none)) else (some x5)
def classes_Less.j2 : Nat → List (S64) → List (S64) → List (S64) → Int → Int → Int → Int → Option ((List (S64)))
 | 0, _, _, _, _, _, _, _ => none
 | k + 1, x1, x5, x15, x16, x17, x358000, x358001 => classes_Less.l2 k x1 x5 true x15 x16 x17 x1 (x1.length : Int) 0 x358000 x358001
def classes_Less.l2 : Nat → List (S64) → List (S64) → Bool → List (S64) → Int → Int → List (S64) → Int → Int → Int → Int → Option ((List (S64)))
 | 0, _, _, _, _, _, _, _, _, _, _, _ => none
 | k + 1, x1, x5, x8, x15, x16, x17, x35, x36, x37, x358000, x358001 => if x37 < x36 then (if 0 ≤ x37 then (if x37 < (x35.length : Int) then (if ((rd_T64 x35 x37).f0) > x358001 then (if x8 = true then (if x5.length < 8796093022208 then (classes_Less.l0 k x1 (x5 ++ [(⟨x358000, x358001⟩ : S64)]) x15 x16 (wrap64 (x17 + 1))) else (none)) else (classes_Less.l0 k x1 x5 x15 x16 (wrap64 (x17 + 1)))) else (if ((rd_T64 x35 x37).f0) > x358000 then (if x5.length < 8796093022208 then ((some (x5 ++ [(⟨x358000, wrap64 (((rd_T64 x35 x37).f0) - 1)⟩ : S64)] : List (S64))).bind fun y370 => (if (((rd_T64 x35 x37).f1) < x358001) then (classes_Less.l2 k x1 y370 (decide (((rd_T64 x35 x37).f1) < x358001)) x15 x16 x17 x35 x36 (wrap64 (x37 + 1)) (wrap64 (((rd_T64 x35 x37).f1) + 1)) x358001) else (if ((rd_T64 x35 x37).f1) < x358001 then (if y370.length < 8796093022208 then (classes_Less.l0 k x1 (y370 ++ [(⟨x358000, x358001⟩ : S64)]) x15 x16 (wrap64 (x17 + 1))) else (none)) else (classes_Less.l0 k x1 y370 x15 x16 (wrap64 (x17 + 1)))))) else (none)) else (if (((rd_T64 x35 x37).f1) < x358001) then (classes_Less.l2 k x1 x5 (decide (((rd_T64 x35 x37).f1) < x358001)) x15 x16 x17 x35 x36 (wrap64 (x37 + 1)) (wrap64 (((rd_T64 x35 x37).f1) + 1)) x358001) else (if ((rd_T64 x35 x37).f1) < x358001 then (if x5.length < 8796093022208 then (classes_Less.l0 k x1 (x5 ++ [(⟨x358000, x358001⟩ : S64)]) x15 x16 (wrap64 (x17 + 1))) else (none)) else (classes_Less.l0 k x1 x5 x15 x16 (wrap64 (x17 + 1))))))) else (none)) else (none)) else (if x8 = true then (if x5.length < 8796093022208 then (classes_Less.l0 k x1 (x5 ++ [(⟨x358000, x358001⟩ : S64)]) x15 x16 (wrap64 (x17 + 1))) else (none)) else (classes_Less.l0 k x1 x5 x15 x16 (wrap64 (x17 + 1))))
def classes_Less.l1 : Nat → List (S64) → List (S64) → List (S64) → Int → Int → Int → Int → Option ((List (S64)))
 | 0, _, _, _, _, _, _, _ => none
 | k + 1, x1, x5, x15, x16, x17, x358000, x358001 => if (x1.length : Int) > 0 then (if 0 < (x1.length : Int) then (if ((rd_T64 x1 0).f1) < x358000 then (if 1 ≤ (x1.length : Int) then (classes_Less.l1 k (x1.drop (1 : Int).toNat) x5 x15 x16 x17 x358000 x358001) else (none)) else (classes_Less.j2 k x1 x5 x15 x16 x17 x358000 x358001)) else (none)) else (classes_Less.j2 k x1 x5 x15 x16 x17 x358000 x358001)
end
def classes_Less.f (k : Nat) (l0 : List (S64)) (l1 : List (S64)) : Option ((List (S64))) := (classes_class.f k l0).bind fun t350 => ((classes_class.f k l1).bind fun t353 => (classes_Less.l0 k t353 ([] : List (S64)) t350 (t350.length : Int) 0))
set_option maxHeartbeats 8000000 in
set_option maxRecDepth 100000 in
theorem classes_Less.calls (k : Nat) (A0 : Option Addr) (c0 : Nat) (l0 : List (S64)) (A1 : Option Addr) (c1 : Nat) (l1 : List (S64)) (r : List (S64)) (w : World) (hr0 : Kd.C k64 w A0 l0.length l0) (hc0 : l0.length ≤ c0) (hr1 : Kd.C k64 w A1 l1.length l1) (hc1 : l1.length ≤ c1) (h : classes_Less.f k l0 l1 = some r) :
  Calls Tryd.prog 97 #[.slice A0 l0.length c0, .slice A1 l1.length c1] w fun e w' => ∃ v0_ : Value, e = .returned (v0_) ∧ Kd.R k64 50 w' w.heap.size (fun _ => True) v0_ r ∧ Below w.heap.size w w' := by
 have hu64 := Tryd.underlying50
 have HR0 := Aside0.mk hr0
 have HC0 := Aside0.mk hc0
 clear hr0 hc0
 have HR1 := Aside0.mk hr1
 have HC1 := Aside0.mk hc1
 clear hr1 hc1
 have HB := Aside0.mk (Below.refl w.heap.size w)
 have H : ((classes_class.f k l0).bind fun t350 => ((classes_class.f k l1).bind fun t353 => (classes_Less.l0 k t353 ([] : List (S64)) t350 (t350.length : Int) 0))) = some r := h
 clear h
 replace H := Option.bind_eq_some_iff.mp H
 obtain ⟨t350, A30, H⟩ := H
 replace H : ((classes_class.f k l1).bind fun t353 => (classes_Less.l0 k t353 ([] : List (S64)) t350 (t350.length : Int) 0)) = some r := H
 have A3 := Aside0.mk A30
 clear A30
 replace H := Option.bind_eq_some_iff.mp H
 obtain ⟨t353, A40, H⟩ := H
 replace H : (classes_Less.l0 k t353 ([] : List (S64)) t350 (t350.length : Int) 0) = some r := H
 have A4 := Aside0.mk A40
 clear A40
 have H' := Aside0.mk H
 clear H
 go_enter Tryd.func97, Tryd.ntmps97
 go_wp2_with (first | (go_at_call 105; (with_reducible refine (classes_class.calls k _ _ l0 t350 _ ?side1 ?side2 A3.out).mono ?_); (case side1 => repeat (first | exact HR0.out | (with_reducible refine cA ?_ _) | (with_reducible refine cN ?_ _) | (with_reducible refine cD ?_))); (case side2 => exact HC0.out); rintro e w5 ⟨v351, rfl, ho0, hb⟩; have n0_ := Aside0.mk (Kd.R_lower ho0 (below_size (by repeat (first | (with_reducible first | exact HB.out | apply wA | apply wN | apply wD) | exact HB.out)))); have n1_ := Aside0.mk (below_step (by repeat (first | (with_reducible first | exact HB.out | apply wA | apply wN | apply wD) | exact HB.out)) hb); clear HB; have HO352 := n0_; have HB := n1_; clear n0_ n1_; (try clear hb); (try clear hb2); (try clear hk); (try clear hi); (try clear ho0)) | (go_at_call 105; (with_reducible refine (classes_class.calls k _ _ l1 t353 _ ?side1 ?side2 A4.out).mono ?_); (case side1 => repeat (first | exact (Kd.C_below HR1.out HB.out) | (with_reducible refine cA ?_ _) | (with_reducible refine cN ?_ _) | (with_reducible refine cD ?_))); (case side2 => exact HC1.out); rintro e w6 ⟨v354, rfl, ho0, hb⟩; have n0_ := Aside0.mk (rE (by (with_reducible repeat (first | apply rA | apply rN | apply rD)); exact HO352.out) (rB ho0) hb); have n1_ := Aside0.mk (Kd.R_lower (rW ho0 (rL (by (with_reducible repeat (first | apply rA | apply rN | apply rD)); exact HO352.out))) (below_size (by repeat (first | (with_reducible first | exact HB.out | apply wA | apply wN | apply wD) | exact HB.out)))); have n2_ := Aside0.mk (below_step (by repeat (first | (with_reducible first | exact HB.out | apply wA | apply wN | apply wD) | exact HB.out)) hb); clear HO352; clear HB; have HO352 := n0_; have HO355 := n1_; have HB := n2_; clear n0_ n1_ n2_; (try clear hb); (try clear hb2); (try clear hk); (try clear hi); (try clear ho0); obtain ⟨Ao7, co7, eo7⟩ := Kd.R_slice HO352.out; subst eo7))
 go_loopg [1, 5, 17] k (fun kq v1 v5 v17 w' => ∃ (x1_1 : List (S64)) (x5_1 : List (S64)) (x17_1 : Int), v17 = .int .i64 x17_1 ∧ Aside0 (classes_Less.l0 kq x1_1 x5_1 t350 (t350.length : Int) x17_1 = some r) ∧ Aside0 (kq ≤ k) ∧ Aside0 (Kd.Q k64 50 w' w.heap.size (fun k_ => some k_ ≠ (v5 : Value).ownBlock ∧ some k_ ≠ ((.slice Ao7 t350.length co7) : Value).ownBlock) v1 x1_1) ∧ Aside0 (Kd.R k64 50 w' w.heap.size (fun k_ => some k_ ≠ (v1 : Value).ownBlock ∧ some k_ ≠ ((.slice Ao7 t350.length co7) : Value).ownBlock) v5 x5_1) ∧ Aside0 (Kd.R k64 50 w' w.heap.size (fun k_ => some k_ ≠ (v1 : Value).ownBlock ∧ some k_ ≠ (v5 : Value).ownBlock) (.slice Ao7 t350.length co7) t350) ∧ Aside0 (Below w.heap.size w w'))
 case atStart => exact ⟨(t353), (([] : List (S64))), (0), (by first | rfl | (simp; done) | (simp [*]; done)), H', ⟨Nat.le_refl _⟩, ⟨Kd.Q_of_R (by (with_reducible repeat (first | apply rA | apply rN | apply rD)); exact Kd.R_mono HO355.out (fun _ hk => ⟨(by simp [Value.ownBlock]), hk.2⟩))⟩, ⟨by first | exact Kd.R_nil _ _ _ _ _ | exact Kd.N_nil _ _ _ _ _ | exact Kd.V_nil _ _ _ _ _ | exact Kd.Q_nil _ _ _ _ _ | exact Kd.S_nil _ _ _ _ _⟩, ⟨by (with_reducible repeat (first | apply rA | apply rN | apply rD)); exact Kd.R_mono HO352.out (fun _ hk => ⟨hk.2, (by simp [Value.ownBlock])⟩)⟩, ⟨by repeat (first | (with_reducible first | exact HB.out | apply wA | apply wN | apply wD) | exact HB.out)⟩⟩
 case round =>
  clear H'
  try clear c1
  try clear p2
  try clear c3
  obtain ⟨x1_1, x5_1, x17_1, rfl, HA, HK1, HO_1, HO_5, HO_15, HB⟩ := hrel
  cases gk with
  | zero => exact absurd HA.out (by simp [classes_Less.l0])
  | succ k1 =>
   have H := HA.out
   clear HA
   simp only [classes_Less.l0] at H
   by_cases c8 : x17_1 < (t350.length : Int)
   ·rw [if_pos c8] at H
    have c8b0 : decide (x17_1 < (t350.length : Int)) = true := decide_eq_true c8
    clear c8
    by_cases c9 : 0 ≤ x17_1
    ·rw [if_pos c9] at H
     have c9b0 : decide (0 ≤ x17_1) = true := decide_eq_true c9
     clear c9
     by_cases c10 : x17_1 < (t350.length : Int)
     ·rw [if_pos c10] at H
      have c10b0 : decide (x17_1 < (t350.length : Int)) = true := decide_eq_true c10
      clear c10
      have HC11 := Aside0.mk H
      clear H
      have p356 : 0 ≤ (x17_1 : Int) := of_decide_eq_true (by first | (with_reducible assumption) | assumption)
      have q356 : x17_1 < (t350.length : Int) := of_decide_eq_true (by first | (with_reducible assumption) | assumption)
      obtain ⟨ad356, e356, hx356_0, hx356_1⟩ := at_T64 (rR HO_15.out).2.2 x17_1 p356 q356
      cases e356
      replace p356 := eq_true p356
      replace q356 := eq_true q356
      go_upto_block 2 with (first | ((with_reducible refine gate_dst (N := 7) rfl ?_); refine box_event ?hg (N := 7) ?hd (cs := #[.int .i64 0, .int .i64 0]) (t := 50) ?hr ?_; (case hd => rfl); (case hg => rfl); (case hr => first | (go_simp; done) | (go_simp; rfl)); intro gb357 hg w12 hbox hb; have n0_ := Aside0.mk (Kd.Q_below (Kd.Q_elderB (by (with_reducible repeat (first | apply qA | apply qN | apply qD)); exact HO_1.out) gb357 (Nat.le_of_eq hg.symm)) hb); have n1_ := Aside0.mk (Kd.R_below (Kd.R_elderB (by (with_reducible repeat (first | apply rA | apply rN | apply rD)); exact HO_5.out) gb357 (Nat.le_of_eq hg.symm)) hb); have n2_ := Aside0.mk (Kd.R_below (Kd.R_elderB (by (with_reducible repeat (first | apply rA | apply rN | apply rD)); exact HO_15.out) gb357 (Nat.le_of_eq hg.symm)) hb); have n3_ := Aside0.mk (below_step (by repeat (first | (with_reducible first | exact HB.out | apply wA | apply wN | apply wD) | exact HB.out)) hb); have n4_ := Aside0.mk (hbox); have n5_ := Aside0.mk ((by rw [hg]; exact (below_size (by repeat (first | (with_reducible first | exact HB.out | apply wA | apply wN | apply wD) | exact HB.out))) : w.heap.size ≤ gb357)); have n6_ := Aside0.mk ((by rw [hg]; exact (below_size (by repeat (first | (with_reducible first | exact HB.out | apply wA | apply wN | apply wD) | exact HB.out))) : w.heap.size ≤ gb357)); clear HO_1; clear HO_5; clear HO_15; clear HB; have HO_1 := n0_; have HO_5 := n1_; have HO_15 := n2_; have HB := n3_; have BK357 := n4_; have GW357 := n5_; have GE357 := n6_; clear n0_ n1_ n2_ n3_ n4_ n5_ n6_; clear hb hbox hg; have hcz13_0 : w12.cell? ⟨gb357, 0, none⟩ = some (.int .i64 0) := (blk_cell BK357.out 0).trans rfl; have hcz13_1 : w12.cell? ⟨gb357, 1, none⟩ = some (.int .i64 0) := (blk_cell BK357.out 1).trans rfl; have hfz13_0 := blk_frozen BK357.out 0; have hfz13_1 := blk_frozen BK357.out 1))
      (try simp only [Act.put, List.setIfInBounds_toArray, List.set_cons_zero, List.set_cons_succ])
      go_cut [1] (fun v1 wc => ∃ (kq : Nat) (x1_10 : List (S64)), Aside0 (classes_Less.j2 kq x1_10 x5_1 t350 (t350.length : Int) x17_1 ((rd_T64 t350 x17_1).f0) ((rd_T64 t350 x17_1).f1) = some r) ∧ Aside0 (kq ≤ k1) ∧ Aside0 (Kd.Q k64 50 wc w.heap.size (fun k_ => some k_ ≠ (u5 : Value).ownBlock ∧ some k_ ≠ ((.slice (some ad356) t350.length co7) : Value).ownBlock ∧ k_ ≠ gb357) v1 x1_10) ∧ Aside0 (Kd.R k64 50 wc w.heap.size (fun k_ => some k_ ≠ (v1 : Value).ownBlock ∧ some k_ ≠ ((.slice (some ad356) t350.length co7) : Value).ownBlock ∧ k_ ≠ gb357) u5 x5_1) ∧ Aside0 (Kd.R k64 50 wc w.heap.size (fun k_ => some k_ ≠ (v1 : Value).ownBlock ∧ some k_ ≠ (u5 : Value).ownBlock ∧ k_ ≠ gb357) (.slice (some ad356) t350.length co7) t350) ∧ Aside0 (wc.heap[gb357]? = some (.cells #[.int .i64 ((rd_T64 t350 x17_1).f0), .int .i64 ((rd_T64 t350 x17_1).f1)] 50 (0, 0))) ∧ Aside0 (Below w.heap.size w wc))
      case first =>
       have H := HC11.out
       clear HC11
       have H' := Aside0.mk H
       clear H
       go_wp2
       repeat (go_quiet (fail); try go_wp2)
       go_loopg [1] k1 (fun kq v1 w' => ∃ (x1_2 : List (S64)), Aside0 (classes_Less.l1 kq x1_2 x5_1 t350 (t350.length : Int) x17_1 ((rd_T64 t350 x17_1).f0) ((rd_T64 t350 x17_1).f1) = some r) ∧ Aside0 (kq ≤ k1) ∧ Aside0 (Kd.Q k64 50 w' w.heap.size (fun k_ => some k_ ≠ (u5 : Value).ownBlock ∧ some k_ ≠ ((.slice (some ad356) t350.length co7) : Value).ownBlock ∧ k_ ≠ gb357) v1 x1_2) ∧ Aside0 (Kd.R k64 50 w' w.heap.size (fun k_ => some k_ ≠ (v1 : Value).ownBlock ∧ some k_ ≠ ((.slice (some ad356) t350.length co7) : Value).ownBlock ∧ k_ ≠ gb357) u5 x5_1) ∧ Aside0 (Kd.R k64 50 w' w.heap.size (fun k_ => some k_ ≠ (v1 : Value).ownBlock ∧ some k_ ≠ (u5 : Value).ownBlock ∧ k_ ≠ gb357) (.slice (some ad356) t350.length co7) t350) ∧ Aside0 (w'.heap[gb357]? = some (.cells #[.int .i64 ((rd_T64 t350 x17_1).f0), .int .i64 ((rd_T64 t350 x17_1).f1)] 50 (0, 0))) ∧ Aside0 (Below w.heap.size w w'))
       case atStart => exact ⟨(x1_1), H', ⟨Nat.le_refl _⟩, ⟨by (with_reducible repeat (first | apply qA | apply qN | apply qD)); exact Kd.Q_mono (Kd.Q_far (p := ⟨gb357, 1, none⟩) (Kd.Q_far (p := ⟨gb357, 0, none⟩) (Kd.Q_mono HO_1.out (fun k_ hk => (⟨hk, hk.2⟩ : _ ∧ k_ ≠ gb357))) (fun _ hk => hk.2) (.int .i64 ((rd_T64 t350 x17_1).f0))) (fun _ hk => hk.2) (.int .i64 ((rd_T64 t350 x17_1).f1))) (fun _ hk => ⟨hk.1.1.1, ⟨hk.1.1.2, hk.1.2⟩⟩)⟩, ⟨by (with_reducible repeat (first | apply rA | apply rN | apply rD)); exact Kd.R_mono (Kd.R_far (p := ⟨gb357, 1, none⟩) (Kd.R_far (p := ⟨gb357, 0, none⟩) (Kd.R_mono HO_5.out (fun k_ hk => (⟨hk, hk.2⟩ : _ ∧ k_ ≠ gb357))) (fun _ hk => hk.2) (.int .i64 ((rd_T64 t350 x17_1).f0))) (fun _ hk => hk.2) (.int .i64 ((rd_T64 t350 x17_1).f1))) (fun _ hk => ⟨hk.1.1.1, ⟨hk.1.1.2, hk.1.2⟩⟩)⟩, ⟨by (with_reducible repeat (first | apply rA | apply rN | apply rD)); exact Kd.R_mono (Kd.R_far (p := ⟨gb357, 1, none⟩) (Kd.R_far (p := ⟨gb357, 0, none⟩) (Kd.R_mono HO_15.out (fun k_ hk => (⟨hk, hk.2⟩ : _ ∧ k_ ≠ gb357))) (fun _ hk => hk.2) (.int .i64 ((rd_T64 t350 x17_1).f0))) (fun _ hk => hk.2) (.int .i64 ((rd_T64 t350 x17_1).f1))) (fun _ hk => ⟨hk.1.1.1, ⟨hk.1.1.2, hk.1.2⟩⟩)⟩, ⟨by (with_reducible repeat (first | refine bN ?_ _ | refine bD ?_ | refine bA ?_ _)); refine blk_put (cs := #[.int .i64 ((rd_T64 t350 x17_1).f0), .int .i64 0]) ?_ 1 _ rfl; (with_reducible repeat (first | refine bN ?_ _ | refine bD ?_ | refine bA ?_ _)); refine blk_put (cs := #[.int .i64 0, .int .i64 0]) ?_ 0 _ rfl; (with_reducible repeat (first | refine bN ?_ _ | refine bD ?_ | refine bA ?_ _)); exact BK357.out⟩, ⟨by repeat (first | (with_reducible first | exact HB.out | apply wA | apply wN | apply wD | refine wS ?_ GE357.out) | exact HB.out)⟩⟩
       case round =>
        clear H'
        try clear c1
        try clear p2
        try clear c3
        try clear p3
        try clear q3
        try clear hx3
        try clear c8
        try clear c8b0
        try clear c9
        try clear c9b0
        try clear c10
        try clear c10b0
        try clear hcz13_0
        try clear hcz13_1
        try clear hfz13_0
        try clear hfz13_1
        try clear hx356_0
        try clear hx356_1
        try clear p2
        try clear p356
        try clear q356
        obtain ⟨x1_2, HA, HK2, HO_1, HO_5, HO_15, BK357, HB⟩ := hrel
        cases gk with
        | zero => exact absurd HA.out (by simp [classes_Less.l1])
        | succ k2 =>
         have H := HA.out
         clear HA
         simp only [classes_Less.l1] at H
         by_cases c14 : (x1_2.length : Int) > 0
         ·rw [if_pos c14] at H
          have c14b0 : decide (0 < (x1_2.length : Int)) = true := decide_eq_true c14
          have c14b1 : decide (0 < x1_2.length) = true := decide_eq_true (by omega)
          clear c14
          (first | rw [c14b0] | (simp only [i64_w, i32_w]; rw [c14b0]) | skip)
          by_cases c15 : 0 < (x1_2.length : Int)
          ·rw [if_pos c15] at H
           have c15b0 : decide (0 < (x1_2.length : Int)) = true := decide_eq_true c15
           have c15b1 : decide (0 < x1_2.length) = true := decide_eq_true (by omega)
           clear c15
           by_cases c16 : ((rd_T64 x1_2 0).f1) < ((rd_T64 t350 x17_1).f0)
           ·rw [if_pos c16] at H
            have c16b0 : decide (((rd_T64 x1_2 0).f1) < ((rd_T64 t350 x17_1).f0)) = true := decide_eq_true c16
            clear c16
            by_cases c17 : 1 ≤ (x1_2.length : Int)
            ·rw [if_pos c17] at H
             have c17b0 := eq_true c17
             have c17b1 : decide (1 ≤ (x1_2.length : Int)) = true := decide_eq_true c17
             clear c17
             obtain ⟨y359, hy359⟩ : ∃ y_ : List (S64), y_ = (x1_2.drop (1 : Int).toNat) := ⟨_, rfl⟩
             replace H : (classes_Less.l1 k2 y359 x5_1 t350 (t350.length : Int) x17_1 ((rd_T64 t350 x17_1).f0) ((rd_T64 t350 x17_1).f1)) = some r := by first | (rw [hy359]; with_reducible exact H) | (have H2_ := (Option.bind_some _ _).symm.trans H; rw [hy359]; with_reducible exact H2_) | (have H2_ := (Option.bind_some _ _).symm.trans H; with_reducible exact H2_) | with_reducible exact H | (rw [hy359]; exact H) | exact H
             have Ny359 := Aside0.mk hy359
             clear hy359
             have H' := Aside0.mk H
             clear H
             obtain ⟨Ao18, co18, eo18, _⟩ := Kd.Q_slice HO_1.out
             subst eo18
             have p358 : 0 ≤ (0 : Int) := (by omega)
             have q358 : 0 < (x1_2.length : Int) := of_decide_eq_true (by first | (with_reducible assumption) | assumption)
             obtain ⟨ad358, e358, hx358_0, hx358_1⟩ := at_T64 (Kd.Q_reads' HO_1.out).2.2 0 p358 q358
             cases e358
             have qi358 : (0 < x1_2.length) = True := eq_true (by omega)
             (try rw [show ((0 : Int)).toNat = 0 from rfl] at hx358_0)
             (try rw [show 0 * 2 = 0 from rfl] at hx358_0)
             (try rw [Addr.add_zero'] at hx358_0)
             (try rw [show ((0 : Int)).toNat = 0 from rfl] at hx358_1)
             (try rw [show 0 * 2 = 0 from rfl] at hx358_1)
             (try rw [Addr.add_zero'] at hx358_1)
             replace p358 := eq_true p358
             replace q358 := eq_true q358
             have hcz19_0 : wr.cell? ⟨gb357, 0, none⟩ = some (.int .i64 ((rd_T64 t350 x17_1).f0)) := (blk_cell BK357.out 0).trans rfl
             have hcz19_1 : wr.cell? ⟨gb357, 1, none⟩ = some (.int .i64 ((rd_T64 t350 x17_1).f1)) := (blk_cell BK357.out 1).trans rfl
             have hfz19_0 := blk_frozen BK357.out 0
             have hfz19_1 := blk_frozen BK357.out 1
             have q20 : (1 : Int) ≤ ((x1_2.length : Int) : Int) := of_decide_eq_true (by first | (with_reducible assumption) | assumption)
             obtain ⟨i020, hi020, _, hsz20, _⟩ := info_parts info64
             have hcut20 := cut_from (P := Tryd.prog) 25 50 .i64 Tryd.underlying25 hi020 2 hsz20 (some ad358) x1_2.length co18 1 (by omega) q20
             have hr20 := Kd.Q_drop (k := (1 : Int).toNat) HO_1.out (by omega)
             obtain ⟨A20, hA20⟩ : ∃ A1, A1 = (if co18 = (1 : Int).toNat then (some ad358) else ((some ad358) : Option Addr).map (·.add ((1 : Int).toNat * 2))) := ⟨_, rfl⟩
             obtain ⟨c20, hc20⟩ : ∃ c1, c1 = co18 - (1 : Int).toNat := ⟨_, rfl⟩
             have hy20 : y359.length = x1_2.length - (1 : Int).toNat := (by rw [Ny359.out, List.length_drop])
             rw [← Ny359.out] at hr20
             rw [← hy20, ← hA20, ← hc20] at hcut20
             replace hr20 : Kd.Q k64 50 wr w.heap.size (fun k_ => some k_ ≠ (u5 : Value).ownBlock ∧ some k_ ≠ (.slice (some ad356) t350.length co7 : Value).ownBlock ∧ k_ ≠ gb357) (.slice A20 y359.length c20) y359 := (by rw [hA20, hc20, hy20]; exact hr20)
             have HE20 : Aside0 ((Value.slice A20 y359.length c20).ownBlock = (.slice (some ad358) x1_2.length co18 : Value).ownBlock) := ⟨by rw [hA20]; split <;> (cases ((some ad358) : Option Addr) <;> rfl)⟩
             clear hy20 hi020 hsz20 HO_1 hA20 hc20
             have HO361 := Aside0.mk hr20
             clear hr20
             replace q20 := eq_true q20
             have n_ := Aside0.mk (Kd.R_mono (ok' := fun k_ => (some k_ ≠ (.slice A20 y359.length c20 : Value).ownBlock ∧ (some k_ ≠ (.slice (some ad356) t350.length co7 : Value).ownBlock ∧ k_ ≠ gb357))) HO_5.out (fun k_ hk => ⟨(by rw [HE20.out]; exact hk.1), ⟨hk.2.1, hk.2.2⟩⟩))
             clear HO_5
             have HO_5 := n_
             clear n_
             have n_ := Aside0.mk (Kd.R_mono (ok' := fun k_ => (some k_ ≠ (.slice A20 y359.length c20 : Value).ownBlock ∧ (some k_ ≠ (u5 : Value).ownBlock ∧ k_ ≠ gb357))) HO_15.out (fun k_ hk => ⟨(by rw [HE20.out]; exact hk.1), ⟨hk.2.1, hk.2.2⟩⟩))
             clear HO_15
             have HO_15 := n_
             clear n_
             go_wp2
             repeat (go_quiet (fail); try go_wp2)
             go_roundg k2
             case measure => have := HK1.out; have := HK2.out; omega
             case rel => exact ⟨(y359), H', ⟨by have := HK1.out; have := HK2.out; omega⟩, ⟨by (with_reducible repeat (first | apply qA | apply qN | apply qD)); exact HO361.out⟩, ⟨by (with_reducible repeat (first | apply rA | apply rN | apply rD)); exact HO_5.out⟩, ⟨by (with_reducible repeat (first | apply rA | apply rN | apply rD)); exact HO_15.out⟩, ⟨by (with_reducible repeat (first | refine bN ?_ _ | refine bD ?_ | refine bA ?_ _)); exact BK357.out⟩, ⟨by repeat (first | (with_reducible first | exact HB.out | apply wA | apply wN | apply wD | refine wS ?_ GE357.out) | exact HB.out)⟩⟩
            ·rw [if_neg c17] at H
             exact absurd H (by simp)
           ·rw [if_neg c16] at H
            have c16b0 : decide (((rd_T64 x1_2 0).f1) < ((rd_T64 t350 x17_1).f0)) = false := decide_eq_false c16
            clear c16
            have H' := Aside0.mk H
            clear H
            obtain ⟨Ao21, co21, eo21, _⟩ := Kd.Q_slice HO_1.out
            subst eo21
            have p358 : 0 ≤ (0 : Int) := (by omega)
            have q358 : 0 < (x1_2.length : Int) := of_decide_eq_true (by first | (with_reducible assumption) | assumption)
            obtain ⟨ad358, e358, hx358_0, hx358_1⟩ := at_T64 (Kd.Q_reads' HO_1.out).2.2 0 p358 q358
            cases e358
            have qi358 : (0 < x1_2.length) = True := eq_true (by omega)
            (try rw [show ((0 : Int)).toNat = 0 from rfl] at hx358_0)
            (try rw [show 0 * 2 = 0 from rfl] at hx358_0)
            (try rw [Addr.add_zero'] at hx358_0)
            (try rw [show ((0 : Int)).toNat = 0 from rfl] at hx358_1)
            (try rw [show 0 * 2 = 0 from rfl] at hx358_1)
            (try rw [Addr.add_zero'] at hx358_1)
            replace p358 := eq_true p358
            replace q358 := eq_true q358
            have hcz22_0 : wr.cell? ⟨gb357, 0, none⟩ = some (.int .i64 ((rd_T64 t350 x17_1).f0)) := (blk_cell BK357.out 0).trans rfl
            have hcz22_1 : wr.cell? ⟨gb357, 1, none⟩ = some (.int .i64 ((rd_T64 t350 x17_1).f1)) := (blk_cell BK357.out 1).trans rfl
            have hfz22_0 := blk_frozen BK357.out 0
            have hfz22_1 := blk_frozen BK357.out 1
            go_wp2
            repeat (go_quiet (fail); try go_wp2)
            go_meet
            case rel => exact ⟨_, (x1_2), H', ⟨by have := HK1.out; have := HK2.out; first | omega | exact Nat.le_refl _⟩, ⟨by (with_reducible repeat (first | apply qA | apply qN | apply qD)); exact HO_1.out⟩, ⟨by (with_reducible repeat (first | apply rA | apply rN | apply rD)); exact HO_5.out⟩, ⟨by (with_reducible repeat (first | apply rA | apply rN | apply rD)); exact HO_15.out⟩, ⟨by (with_reducible repeat (first | refine bN ?_ _ | refine bD ?_ | refine bA ?_ _)); exact BK357.out⟩, ⟨by repeat (first | (with_reducible first | exact HB.out | apply wA | apply wN | apply wD | refine wS ?_ GE357.out) | exact HB.out)⟩⟩
          ·exact absurd (of_decide_eq_true c14b0) c15
         ·rw [if_neg c14] at H
          have c14b0 : decide (0 < (x1_2.length : Int)) = false := decide_eq_false c14
          have c14b1 : decide (0 < x1_2.length) = false := decide_eq_false (by omega)
          clear c14
          (first | rw [c14b0] | (simp only [i64_w, i32_w]; rw [c14b0]) | skip)
          have H' := Aside0.mk H
          clear H
          obtain ⟨Ao23, co23, eo23, _⟩ := Kd.Q_slice HO_1.out
          subst eo23
          go_wp2
          repeat (go_quiet (fail); try go_wp2)
          go_meet
          case rel => exact ⟨_, (x1_2), H', ⟨by have := HK1.out; have := HK2.out; first | omega | exact Nat.le_refl _⟩, ⟨by (with_reducible repeat (first | apply qA | apply qN | apply qD)); exact HO_1.out⟩, ⟨by (with_reducible repeat (first | apply rA | apply rN | apply rD)); exact HO_5.out⟩, ⟨by (with_reducible repeat (first | apply rA | apply rN | apply rD)); exact HO_15.out⟩, ⟨by (with_reducible repeat (first | refine bN ?_ _ | refine bD ?_ | refine bA ?_ _)); exact BK357.out⟩, ⟨by repeat (first | (with_reducible first | exact HB.out | apply wA | apply wN | apply wD | refine wS ?_ GE357.out) | exact HB.out)⟩⟩
      case rest =>
       clear HC11
       try clear c1
       try clear c2
       try clear p2
       try clear q2
       try clear c3
       try clear p3
       try clear q3
       try clear hx3
       try clear qi3
       try clear c8
       try clear c8b0
       try clear c9
       try clear c9b0
       try clear c10
       try clear c10b0
       try clear c14
       try clear c14b0
       try clear c14b1
       try clear c15
       try clear c15b0
       try clear c15b1
       try clear c16
       try clear c16b0
       try clear c17
       try clear c17b0
       try clear c17b1
       try clear c20
       try clear q20
       try clear hcz13_0
       try clear hcz13_1
       try clear hcz19_0
       try clear hcz19_1
       try clear hcz22_0
       try clear hcz22_1
       try clear hfz13_0
       try clear hfz13_1
       try clear hfz19_0
       try clear hfz19_1
       try clear hfz22_0
       try clear hfz22_1
       try clear hx356_0
       try clear hx356_1
       try clear hx358_0
       try clear hx358_1
       try clear p2
       try clear p3
       try clear p356
       try clear p358
       try clear q20
       try clear q3
       try clear q356
       try clear q358
       obtain ⟨kq, x1_10, HA, HJ10, HO_1, HO_5, HO_15, BK357, HB⟩ := hcut
       cases kq with
       | zero => exact absurd HA.out (by simp [classes_Less.j2])
       | succ kj10 =>
        have H := HA.out
        clear HA
        simp only [classes_Less.j2] at H
        have H' := Aside0.mk H
        clear H
        obtain ⟨Ao24, co24, eo24, _⟩ := Kd.Q_slice HO_1.out
        subst eo24
        go_wp2
        repeat (go_quiet (fail); try go_wp2)
        go_loopg [5, 8, 37] kj10 (fun kq v5 v8 v37 w' => ∃ (x5_3 : List (S64)) (x8_3 : Bool) (x37_3 : Int) (x358000_3 : Int), v8 = .bool x8_3 ∧ v37 = .int .i64 x37_3 ∧ Aside0 (classes_Less.l2 kq x1_10 x5_3 x8_3 t350 (t350.length : Int) x17_1 x1_10 (x1_10.length : Int) x37_3 x358000_3 ((rd_T64 t350 x17_1).f1) = some r) ∧ Aside0 (kq ≤ kj10) ∧ Aside0 (Kd.Q k64 50 w' w.heap.size (fun k_ => some k_ ≠ (v5 : Value).ownBlock ∧ some k_ ≠ ((.slice (some ad356) t350.length co7) : Value).ownBlock ∧ k_ ≠ gb357) (.slice Ao24 x1_10.length co24) x1_10) ∧ Aside0 (Kd.R k64 50 w' w.heap.size (fun k_ => some k_ ≠ ((.slice Ao24 x1_10.length co24) : Value).ownBlock ∧ some k_ ≠ ((.slice (some ad356) t350.length co7) : Value).ownBlock ∧ some k_ ≠ ((.slice Ao24 x1_10.length co24) : Value).ownBlock ∧ k_ ≠ gb357) v5 x5_3) ∧ Aside0 (Kd.R k64 50 w' w.heap.size (fun k_ => some k_ ≠ ((.slice Ao24 x1_10.length co24) : Value).ownBlock ∧ some k_ ≠ (v5 : Value).ownBlock ∧ some k_ ≠ ((.slice Ao24 x1_10.length co24) : Value).ownBlock ∧ k_ ≠ gb357) (.slice (some ad356) t350.length co7) t350) ∧ Aside0 (Kd.Q k64 50 w' w.heap.size (fun k_ => some k_ ≠ (v5 : Value).ownBlock ∧ some k_ ≠ ((.slice (some ad356) t350.length co7) : Value).ownBlock ∧ k_ ≠ gb357) (.slice Ao24 x1_10.length co24) x1_10) ∧ Aside0 (w'.heap[gb357]? = some (.cells #[.int .i64 x358000_3, .int .i64 ((rd_T64 t350 x17_1).f1)] 50 (0, 0))) ∧ Aside0 (Below w.heap.size w w'))
        case atStart => exact ⟨(x5_1), (true), (0), (((rd_T64 t350 x17_1).f0)), (by first | rfl | (simp; done) | (simp [*]; done)), (by first | rfl | (simp; done) | (simp [*]; done)), H', ⟨Nat.le_refl _⟩, ⟨by (with_reducible repeat (first | apply qA | apply qN | apply qD)); exact HO_1.out⟩, ⟨by (with_reducible repeat (first | apply rA | apply rN | apply rD)); exact Kd.R_mono HO_5.out (fun _ hk => ⟨hk.1, ⟨hk.2.1, ⟨hk.1, hk.2.2⟩⟩⟩)⟩, ⟨by (with_reducible repeat (first | apply rA | apply rN | apply rD)); exact Kd.R_mono HO_15.out (fun _ hk => ⟨hk.1, ⟨hk.2.1, ⟨hk.1, hk.2.2⟩⟩⟩)⟩, ⟨by (with_reducible repeat (first | apply qA | apply qN | apply qD)); exact HO_1.out⟩, ⟨by (with_reducible repeat (first | refine bN ?_ _ | refine bD ?_ | refine bA ?_ _)); exact BK357.out⟩, ⟨by repeat (first | (with_reducible first | exact HB.out | apply wA | apply wN | apply wD | refine wS ?_ GE357.out) | exact HB.out)⟩⟩
        case round =>
         clear H'
         try clear c1
         try clear c2
         try clear p2
         try clear q2
         try clear c3
         try clear p3
         try clear q3
         try clear hx3
         try clear qi3
         try clear c8
         try clear c8b0
         try clear c9
         try clear c9b0
         try clear c10
         try clear c10b0
         try clear c14
         try clear c14b0
         try clear c14b1
         try clear c15
         try clear c15b0
         try clear c15b1
         try clear c16
         try clear c16b0
         try clear c17
         try clear c17b0
         try clear c17b1
         try clear c20
         try clear q20
         try clear hcz13_0
         try clear hcz13_1
         try clear hcz19_0
         try clear hcz19_1
         try clear hcz22_0
         try clear hcz22_1
         try clear hfz13_0
         try clear hfz13_1
         try clear hfz19_0
         try clear hfz19_1
         try clear hfz22_0
         try clear hfz22_1
         try clear hx356_0
         try clear hx356_1
         try clear hx358_0
         try clear hx358_1
         try clear p2
         try clear p3
         try clear p356
         try clear p358
         try clear q2
         try clear q20
         try clear q3
         try clear q356
         try clear q358
         obtain ⟨x5_3, x8_3, x37_3, x358000_3, rfl, rfl, HA, HK3, HO_1, HO_5, HO_15, HO_35, BK357, HB⟩ := hrel
         cases gk with
         | zero => exact absurd HA.out (by simp [classes_Less.l2])
         | succ k3 =>
          have H := HA.out
          clear HA
          simp only [classes_Less.l2] at H
          by_cases c25 : x37_3 < (x1_10.length : Int)
          ·rw [if_pos c25] at H
           have c25b0 : decide (x37_3 < (x1_10.length : Int)) = true := decide_eq_true c25
           clear c25
           by_cases c26 : 0 ≤ x37_3
           ·rw [if_pos c26] at H
            have c26b0 : decide (0 ≤ x37_3) = true := decide_eq_true c26
            clear c26
            by_cases c27 : x37_3 < (x1_10.length : Int)
            ·rw [if_pos c27] at H
             have c27b0 : decide (x37_3 < (x1_10.length : Int)) = true := decide_eq_true c27
             clear c27
             by_cases c28 : ((rd_T64 x1_10 x37_3).f0) > ((rd_T64 t350 x17_1).f1)
             ·rw [if_pos c28] at H
              have c28b0 : decide (((rd_T64 t350 x17_1).f1) < ((rd_T64 x1_10 x37_3).f0)) = true := decide_eq_true c28
              clear c28
              by_cases c29 : x8_3 = true
              ·subst c29
               have H1 : (if x5_3.length < 8796093022208 then (classes_Less.l0 k3 x1_10 (x5_3 ++ [(⟨x358000_3, ((rd_T64 t350 x17_1).f1)⟩ : S64)]) t350 (t350.length : Int) (wrap64 (x17_1 + 1))) else (none)) = some r := by rw [if_pos rfl] at H; exact H
               clear H
               have H := H1
               clear H1
               by_cases c30 : x5_3.length < 8796093022208
               ·rw [if_pos c30] at H
                have LMc30 := Aside0.mk c30
                clear c30
                obtain ⟨y367, hy367⟩ : ∃ y_ : List (S64), y_ = (x5_3 ++ [(⟨x358000_3, ((rd_T64 t350 x17_1).f1)⟩ : S64)]) := ⟨_, rfl⟩
                replace H : (classes_Less.l0 k3 x1_10 y367 t350 (t350.length : Int) (wrap64 (x17_1 + 1))) = some r := by first | (rw [hy367]; with_reducible exact H) | (have H2_ := (Option.bind_some _ _).symm.trans H; rw [hy367]; with_reducible exact H2_) | (have H2_ := (Option.bind_some _ _).symm.trans H; with_reducible exact H2_) | with_reducible exact H | (rw [hy367]; exact H) | exact H
                have Ny367 := Aside0.mk hy367
                clear hy367
                have H' := Aside0.mk H
                clear H
                have p365 : 0 ≤ (x37_3 : Int) := of_decide_eq_true (by first | (with_reducible assumption) | assumption)
                have q365 : x37_3 < (x1_10.length : Int) := of_decide_eq_true (by first | (with_reducible assumption) | assumption)
                obtain ⟨ad365, e365, hx365_0, hx365_1⟩ := at_T64 (Kd.Q_reads' HO_35.out).2.2 x37_3 p365 q365
                cases e365
                replace p365 := eq_true p365
                replace q365 := eq_true q365
                go_wp2_with (first | ((with_reducible refine gate_dst (N := 10) rfl ?_); refine box_event ?hg (N := 10) ?hd (cs := #[.int .i64 0, .int .i64 0]) (t := 50) ?hr ?_; (case hd => rfl); (case hg => rfl); (case hr => first | (go_simp; done) | (go_simp; rfl)); intro gb366 hg w31 hbox hb; have n0_ := Aside0.mk (Kd.Q_below (Kd.Q_elderB (by (with_reducible repeat (first | apply qA | apply qN | apply qD)); exact HO_1.out) gb366 (Nat.le_of_eq hg.symm)) hb); have n1_ := Aside0.mk (Kd.R_below (Kd.R_elderB (by (with_reducible repeat (first | apply rA | apply rN | apply rD)); exact HO_5.out) gb366 (Nat.le_of_eq hg.symm)) hb); have n2_ := Aside0.mk (Kd.R_below (Kd.R_elderB (by (with_reducible repeat (first | apply rA | apply rN | apply rD)); exact HO_15.out) gb366 (Nat.le_of_eq hg.symm)) hb); have n3_ := Aside0.mk (Kd.Q_below (Kd.Q_elderB (by (with_reducible repeat (first | apply qA | apply qN | apply qD)); exact HO_35.out) gb366 (Nat.le_of_eq hg.symm)) hb); have n4_ := Aside0.mk (blk_below (g := gb357) (o := .cells #[.int .i64 x358000_3, .int .i64 ((rd_T64 t350 x17_1).f1)] 50 (0, 0)) (by (with_reducible repeat (first | refine bN ?_ _ | refine bD ?_ | refine bA ?_ _)); exact BK357.out) hb); have n5_ := Aside0.mk (below_step (by repeat (first | (with_reducible first | exact HB.out | apply wA | apply wN | apply wD | refine wS ?_ GE357.out) | exact HB.out)) hb); have n6_ := Aside0.mk (hbox); have n7_ := Aside0.mk ((by rw [hg]; exact (below_size (by repeat (first | (with_reducible first | exact HB.out | apply wA | apply wN | apply wD | refine wS ?_ GE357.out) | exact HB.out))) : w.heap.size ≤ gb366)); have n8_ := Aside0.mk ((by rw [hg]; exact (below_size (by repeat (first | (with_reducible first | exact HB.out | apply wA | apply wN | apply wD | refine wS ?_ GE357.out) | exact HB.out))) : w.heap.size ≤ gb366)); have n9_ := Aside0.mk ((by rw [hg]; exact Nat.ne_of_lt (blk_lt (g := gb357) (o := .cells #[.int .i64 x358000_3, .int .i64 ((rd_T64 t350 x17_1).f1)] 50 (0, 0)) (by (with_reducible repeat (first | refine bN ?_ _ | refine bD ?_ | refine bA ?_ _)); exact BK357.out)) : gb357 ≠ gb366)); have n10_ := Aside0.mk ((by rw [hg]; exact Nat.ne_of_gt (blk_lt (g := gb357) (o := .cells #[.int .i64 x358000_3, .int .i64 ((rd_T64 t350 x17_1).f1)] 50 (0, 0)) (by (with_reducible repeat (first | refine bN ?_ _ | refine bD ?_ | refine bA ?_ _)); exact BK357.out)) : gb366 ≠ gb357)); clear HO_1; clear HO_5; clear HO_15; clear HO_35; clear BK357; clear HB; have HO_1 := n0_; have HO_5 := n1_; have HO_15 := n2_; have HO_35 := n3_; have BK357 := n4_; have HB := n5_; have BK366 := n6_; have GW366 := n7_; have GE366 := n8_; have NB357_366 := n9_; have NB366_357 := n10_; clear n0_ n1_ n2_ n3_ n4_ n5_ n6_ n7_ n8_ n9_ n10_; clear hb hbox hg; have hnb32 := NB366_357.out; have hnc32 := NB357_366.out; have hcz33_0 : w31.cell? ⟨gb366, 0, none⟩ = some (.int .i64 0) := (blk_cell BK366.out 0).trans rfl; have hcz33_1 : w31.cell? ⟨gb366, 1, none⟩ = some (.int .i64 0) := (blk_cell BK366.out 1).trans rfl; have hfz33_0 := blk_frozen BK366.out 0; have hfz33_1 := blk_frozen BK366.out 1; have hcz34_0 : w31.cell? ⟨gb357, 0, none⟩ = some (.int .i64 x358000_3) := (blk_cell BK357.out 0).trans rfl; have hcz34_1 : w31.cell? ⟨gb357, 1, none⟩ = some (.int .i64 ((rd_T64 t350 x17_1).f1)) := (blk_cell BK357.out 1).trans rfl; have hfz34_0 := blk_frozen BK357.out 0; have hfz34_1 := blk_frozen BK357.out 1) | ((with_reducible refine gate_builtin (b := .append) (xs := #[.tmp 73, .tmp 75]) rfl ?_); at_builtin; refine Kd.R_append k64 (w0 := w) w.heap.size rfl (.tmp 73) (.tmp 75) 25 50 (.agg #[(.int .i64 0), (.int .i64 0)]) 16 rfl Tryd.underlying25 info64 rfl (by decide) (by omega) u5 x5_3 (⟨x358000_3, ((rd_T64 t350 x17_1).f1)⟩ : S64) [.int .i64 x358000_3, .int .i64 ((rd_T64 t350 x17_1).f1)] (fun k_ => some k_ ≠ (.slice (some ad365) x1_10.length co24 : Value).ownBlock ∧ some k_ ≠ (.slice (some ad356) t350.length co7 : Value).ownBlock ∧ some k_ ≠ (.slice (some ad365) x1_10.length co24 : Value).ownBlock ∧ k_ ≠ gb357 ∧ k_ ≠ gb366) (fun _ => False) rfl (by first | (go_simp; done) | (go_simp; rfl)) ?aP (fun _ hk => hk.elim) ?aF ?aO ?aB ?aS ?aL ?_; (case aP => exact k64_mkM _ _ _ (⟨x358000_3, ((rd_T64 t350 x17_1).f1)⟩ : S64)); (case aB => exact (by repeat (first | (with_reducible first | exact HB.out | apply wA | apply wN | apply wD | refine wS ?_ GE357.out | refine wS ?_ GE366.out) | exact HB.out))); (case aF => exact (fun k_ hk => ⟨Kd.fresh' (Kd.Q_lt (by (with_reducible repeat (first | apply qA | apply qN | apply qD)); exact (Kd.Q_mono (Kd.Q_far (p := ⟨gb366, 1, none⟩) (Kd.Q_far (p := ⟨gb366, 0, none⟩) (Kd.Q_mono HO_1.out (fun k_ hk => (⟨hk, hk.2⟩ : _ ∧ k_ ≠ gb366))) (fun _ hk => hk.2) (.int .i64 ((rd_T64 x1_10 x37_3).f0))) (fun _ hk => hk.2) (.int .i64 ((rd_T64 x1_10 x37_3).f1))) (fun _ h_ => h_.1)))) k_ hk, Kd.fresh' (rL (by (with_reducible repeat (first | apply rA | apply rN | apply rD)); exact (Kd.R_mono (Kd.R_far (p := ⟨gb366, 1, none⟩) (Kd.R_far (p := ⟨gb366, 0, none⟩) (Kd.R_mono HO_15.out (fun k_ hk => (⟨hk, hk.2⟩ : _ ∧ k_ ≠ gb366))) (fun _ hk => hk.2) (.int .i64 ((rd_T64 x1_10 x37_3).f0))) (fun _ hk => hk.2) (.int .i64 ((rd_T64 x1_10 x37_3).f1))) (fun _ h_ => h_.1)))) k_ hk, Kd.fresh' (Kd.Q_lt (by (with_reducible repeat (first | apply qA | apply qN | apply qD)); exact (Kd.Q_mono (Kd.Q_far (p := ⟨gb366, 1, none⟩) (Kd.Q_far (p := ⟨gb366, 0, none⟩) (Kd.Q_mono HO_35.out (fun k_ hk => (⟨hk, hk.2⟩ : _ ∧ k_ ≠ gb366))) (fun _ hk => hk.2) (.int .i64 ((rd_T64 x1_10 x37_3).f0))) (fun _ hk => hk.2) (.int .i64 ((rd_T64 x1_10 x37_3).f1))) (fun _ h_ => h_.1)))) k_ hk, Kd.freshB (g := gb357) (o := .cells #[.int .i64 x358000_3, .int .i64 ((rd_T64 t350 x17_1).f1)] 50 (0, 0)) (by (with_reducible repeat (first | refine bN ?_ _ | refine bD ?_ | refine bA ?_ _)); refine blk_far ?_ NB357_366.out _; (with_reducible repeat (first | refine bN ?_ _ | refine bD ?_ | refine bA ?_ _)); refine blk_far ?_ NB357_366.out _; (with_reducible repeat (first | refine bN ?_ _ | refine bD ?_ | refine bA ?_ _)); exact BK357.out) k_ hk, Kd.freshB (g := gb366) (o := .cells #[.int .i64 ((rd_T64 x1_10 x37_3).f0), .int .i64 ((rd_T64 x1_10 x37_3).f1)] 50 (0, 0)) (by (with_reducible repeat (first | refine bN ?_ _ | refine bD ?_ | refine bA ?_ _)); refine blk_put (cs := #[.int .i64 ((rd_T64 x1_10 x37_3).f0), .int .i64 0]) ?_ 1 _ rfl; (with_reducible repeat (first | refine bN ?_ _ | refine bD ?_ | refine bA ?_ _)); refine blk_put (cs := #[.int .i64 0, .int .i64 0]) ?_ 0 _ rfl; (with_reducible repeat (first | refine bN ?_ _ | refine bD ?_ | refine bA ?_ _)); exact BK366.out) k_ hk⟩)); (case aO => exact (by (with_reducible repeat (first | apply rA | apply rN | apply rD)); exact Kd.R_mono (Kd.R_far (p := ⟨gb366, 1, none⟩) (Kd.R_far (p := ⟨gb366, 0, none⟩) (Kd.R_mono HO_5.out (fun k_ hk => (⟨hk, hk.2⟩ : _ ∧ k_ ≠ gb366))) (fun _ hk => hk.2) (.int .i64 ((rd_T64 x1_10 x37_3).f0))) (fun _ hk => hk.2) (.int .i64 ((rd_T64 x1_10 x37_3).f1))) (fun _ hk => ⟨hk.1.1.1, ⟨hk.1.1.2.1, ⟨hk.1.1.2.2.1, ⟨hk.1.1.2.2.2, hk.1.2⟩⟩⟩⟩))); (case aS => exact (below_size (by repeat (first | (with_reducible first | exact HB.out | apply wA | apply wN | apply wD | refine wS ?_ GE357.out | refine wS ?_ GE366.out) | exact HB.out)))); (case aL => have := LMc30.out; omega); intro v368 w35 ho hb hg hat; rw [← Ny367.out] at ho; have n0_ := Aside0.mk (Kd.Q_after (ok := (fun k_ => some k_ ≠ (.slice (some ad356) t350.length co7 : Value).ownBlock ∧ k_ ≠ gb357 ∧ k_ ≠ gb366)) (by (with_reducible repeat (first | apply qA | apply qN | apply qD)); exact Kd.Q_mono (Kd.Q_far (p := ⟨gb366, 1, none⟩) (Kd.Q_far (p := ⟨gb366, 0, none⟩) (Kd.Q_mono HO_1.out (fun k_ hk => (⟨hk, hk.2⟩ : _ ∧ k_ ≠ gb366))) (fun _ hk => hk.2) (.int .i64 ((rd_T64 x1_10 x37_3).f0))) (fun _ hk => hk.2) (.int .i64 ((rd_T64 x1_10 x37_3).f1))) (fun _ hk => ⟨⟨hk.1.1.2.1, ⟨hk.1.1.2.2, hk.1.2⟩⟩, hk.1.1.1⟩)) hg hat); have n1_ := Aside0.mk (Kd.R_after (ok := (fun k_ => some k_ ≠ (.slice (some ad365) x1_10.length co24 : Value).ownBlock ∧ some k_ ≠ (.slice (some ad365) x1_10.length co24 : Value).ownBlock ∧ k_ ≠ gb357 ∧ k_ ≠ gb366)) (by (with_reducible repeat (first | apply rA | apply rN | apply rD)); exact Kd.R_mono (Kd.R_far (p := ⟨gb366, 1, none⟩) (Kd.R_far (p := ⟨gb366, 0, none⟩) (Kd.R_mono HO_15.out (fun k_ hk => (⟨hk, hk.2⟩ : _ ∧ k_ ≠ gb366))) (fun _ hk => hk.2) (.int .i64 ((rd_T64 x1_10 x37_3).f0))) (fun _ hk => hk.2) (.int .i64 ((rd_T64 x1_10 x37_3).f1))) (fun _ hk => ⟨⟨hk.1.1.1, ⟨hk.1.1.2.2.1, ⟨hk.1.1.2.2.2, hk.1.2⟩⟩⟩, hk.1.1.2.1⟩)) hg hat); have n2_ := Aside0.mk (Kd.Q_after (ok := (fun k_ => some k_ ≠ (.slice (some ad356) t350.length co7 : Value).ownBlock ∧ k_ ≠ gb357 ∧ k_ ≠ gb366)) (by (with_reducible repeat (first | apply qA | apply qN | apply qD)); exact Kd.Q_mono (Kd.Q_far (p := ⟨gb366, 1, none⟩) (Kd.Q_far (p := ⟨gb366, 0, none⟩) (Kd.Q_mono HO_35.out (fun k_ hk => (⟨hk, hk.2⟩ : _ ∧ k_ ≠ gb366))) (fun _ hk => hk.2) (.int .i64 ((rd_T64 x1_10 x37_3).f0))) (fun _ hk => hk.2) (.int .i64 ((rd_T64 x1_10 x37_3).f1))) (fun _ hk => ⟨⟨hk.1.1.2.1, ⟨hk.1.1.2.2, hk.1.2⟩⟩, hk.1.1.1⟩)) hg hat); have n3_ := Aside0.mk (blk_grown (g := gb357) (o := .cells #[.int .i64 x358000_3, .int .i64 ((rd_T64 t350 x17_1).f1)] 50 (0, 0)) (by (with_reducible repeat (first | refine bN ?_ _ | refine bD ?_ | refine bA ?_ _)); refine blk_far ?_ NB357_366.out _; (with_reducible repeat (first | refine bN ?_ _ | refine bD ?_ | refine bA ?_ _)); refine blk_far ?_ NB357_366.out _; (with_reducible repeat (first | refine bN ?_ _ | refine bD ?_ | refine bA ?_ _)); exact BK357.out) hg (Kd.R_away HO_5.out (fun _ hk => hk.1.2.2.2))); have n4_ := Aside0.mk (blk_grown (g := gb366) (o := .cells #[.int .i64 ((rd_T64 x1_10 x37_3).f0), .int .i64 ((rd_T64 x1_10 x37_3).f1)] 50 (0, 0)) (by (with_reducible repeat (first | refine bN ?_ _ | refine bD ?_ | refine bA ?_ _)); refine blk_put (cs := #[.int .i64 ((rd_T64 x1_10 x37_3).f0), .int .i64 0]) ?_ 1 _ rfl; (with_reducible repeat (first | refine bN ?_ _ | refine bD ?_ | refine bA ?_ _)); refine blk_put (cs := #[.int .i64 0, .int .i64 0]) ?_ 0 _ rfl; (with_reducible repeat (first | refine bN ?_ _ | refine bD ?_ | refine bA ?_ _)); exact BK366.out) hg (Kd.R_away HO_5.out (fun _ hk => hk.2))); have n5_ := Aside0.mk (hb); have n6_ := Aside0.mk (ho); clear HO_1; clear HO_15; clear HO_35; clear BK357; clear BK366; clear HB; clear HO_5; have HO_1 := n0_; have HO_15 := n1_; have HO_35 := n2_; have BK357 := n3_; have BK366 := n4_; have HB := n5_; have HO369 := n6_; clear n0_ n1_ n2_ n3_ n4_ n5_ n6_; clear ho hb hg hat))
                go_roundg k3
                case measure => have := HK1.out; have := HJ10.out; have := HK3.out; omega
                case rel => exact ⟨(x1_10), (y367), (wrap64 (x17_1 + 1)), (by first | rfl | (simp; done) | (simp [*]; done)), H', ⟨by have := HK1.out; have := HJ10.out; have := HK3.out; omega⟩, ⟨by (with_reducible repeat (first | apply qA | apply qN | apply qD)); exact Kd.Q_mono HO_1.out (fun _ hk => ⟨hk.2, hk.1.1⟩)⟩, ⟨by (with_reducible repeat (first | apply rA | apply rN | apply rD)); exact Kd.R_mono HO369.out (fun _ hk => ⟨hk.1, hk.2.1⟩)⟩, ⟨by (with_reducible repeat (first | apply rA | apply rN | apply rD)); exact Kd.R_mono HO_15.out (fun _ hk => ⟨hk.1.1, hk.2⟩)⟩, ⟨by repeat (first | (with_reducible first | exact HB.out | apply wA | apply wN | apply wD | refine wS ?_ GE357.out | refine wS ?_ GE366.out) | exact HB.out)⟩⟩
               ·rw [if_neg c30] at H
                exact absurd H (by simp)
              ·replace c29 := Bool.eq_false_iff.mpr c29
               subst c29
               have H1 : (classes_Less.l0 k3 x1_10 x5_3 t350 (t350.length : Int) (wrap64 (x17_1 + 1))) = some r := by rw [if_neg (show ¬ (false = true) by decide)] at H; exact H
               clear H
               have H := H1
               clear H1
               have H' := Aside0.mk H
               clear H
               have p365 : 0 ≤ (x37_3 : Int) := of_decide_eq_true (by first | (with_reducible assumption) | assumption)
               have q365 : x37_3 < (x1_10.length : Int) := of_decide_eq_true (by first | (with_reducible assumption) | assumption)
               obtain ⟨ad365, e365, hx365_0, hx365_1⟩ := at_T64 (Kd.Q_reads' HO_35.out).2.2 x37_3 p365 q365
               cases e365
               replace p365 := eq_true p365
               replace q365 := eq_true q365
               go_wp2_with (first | ((with_reducible refine gate_dst (N := 10) rfl ?_); refine box_event ?hg (N := 10) ?hd (cs := #[.int .i64 0, .int .i64 0]) (t := 50) ?hr ?_; (case hd => rfl); (case hg => rfl); (case hr => first | (go_simp; done) | (go_simp; rfl)); intro gb366 hg w36 hbox hb; have n0_ := Aside0.mk (Kd.Q_below (Kd.Q_elderB (by (with_reducible repeat (first | apply qA | apply qN | apply qD)); exact HO_1.out) gb366 (Nat.le_of_eq hg.symm)) hb); have n1_ := Aside0.mk (Kd.R_below (Kd.R_elderB (by (with_reducible repeat (first | apply rA | apply rN | apply rD)); exact HO_5.out) gb366 (Nat.le_of_eq hg.symm)) hb); have n2_ := Aside0.mk (Kd.R_below (Kd.R_elderB (by (with_reducible repeat (first | apply rA | apply rN | apply rD)); exact HO_15.out) gb366 (Nat.le_of_eq hg.symm)) hb); have n3_ := Aside0.mk (Kd.Q_below (Kd.Q_elderB (by (with_reducible repeat (first | apply qA | apply qN | apply qD)); exact HO_35.out) gb366 (Nat.le_of_eq hg.symm)) hb); have n4_ := Aside0.mk (blk_below (g := gb357) (o := .cells #[.int .i64 x358000_3, .int .i64 ((rd_T64 t350 x17_1).f1)] 50 (0, 0)) (by (with_reducible repeat (first | refine bN ?_ _ | refine bD ?_ | refine bA ?_ _)); exact BK357.out) hb); have n5_ := Aside0.mk (below_step (by repeat (first | (with_reducible first | exact HB.out | apply wA | apply wN | apply wD | refine wS ?_ GE357.out) | exact HB.out)) hb); have n6_ := Aside0.mk (hbox); have n7_ := Aside0.mk ((by rw [hg]; exact (below_size (by repeat (first | (with_reducible first | exact HB.out | apply wA | apply wN | apply wD | refine wS ?_ GE357.out) | exact HB.out))) : w.heap.size ≤ gb366)); have n8_ := Aside0.mk ((by rw [hg]; exact (below_size (by repeat (first | (with_reducible first | exact HB.out | apply wA | apply wN | apply wD | refine wS ?_ GE357.out) | exact HB.out))) : w.heap.size ≤ gb366)); have n9_ := Aside0.mk ((by rw [hg]; exact Nat.ne_of_lt (blk_lt (g := gb357) (o := .cells #[.int .i64 x358000_3, .int .i64 ((rd_T64 t350 x17_1).f1)] 50 (0, 0)) (by (with_reducible repeat (first | refine bN ?_ _ | refine bD ?_ | refine bA ?_ _)); exact BK357.out)) : gb357 ≠ gb366)); have n10_ := Aside0.mk ((by rw [hg]; exact Nat.ne_of_gt (blk_lt (g := gb357) (o := .cells #[.int .i64 x358000_3, .int .i64 ((rd_T64 t350 x17_1).f1)] 50 (0, 0)) (by (with_reducible repeat (first | refine bN ?_ _ | refine bD ?_ | refine bA ?_ _)); exact BK357.out)) : gb366 ≠ gb357)); clear HO_1; clear HO_5; clear HO_15; clear HO_35; clear BK357; clear HB; have HO_1 := n0_; have HO_5 := n1_; have HO_15 := n2_; have HO_35 := n3_; have BK357 := n4_; have HB := n5_; have BK366 := n6_; have GW366 := n7_; have GE366 := n8_; have NB357_366 := n9_; have NB366_357 := n10_; clear n0_ n1_ n2_ n3_ n4_ n5_ n6_ n7_ n8_ n9_ n10_; clear hb hbox hg; have hnb37 := NB366_357.out; have hnc37 := NB357_366.out; have hcz38_0 : w36.cell? ⟨gb366, 0, none⟩ = some (.int .i64 0) := (blk_cell BK366.out 0).trans rfl; have hcz38_1 : w36.cell? ⟨gb366, 1, none⟩ = some (.int .i64 0) := (blk_cell BK366.out 1).trans rfl; have hfz38_0 := blk_frozen BK366.out 0; have hfz38_1 := blk_frozen BK366.out 1; have hcz39_0 : w36.cell? ⟨gb357, 0, none⟩ = some (.int .i64 x358000_3) := (blk_cell BK357.out 0).trans rfl; have hcz39_1 : w36.cell? ⟨gb357, 1, none⟩ = some (.int .i64 ((rd_T64 t350 x17_1).f1)) := (blk_cell BK357.out 1).trans rfl; have hfz39_0 := blk_frozen BK357.out 0; have hfz39_1 := blk_frozen BK357.out 1))
               go_roundg k3
               case measure => have := HK1.out; have := HJ10.out; have := HK3.out; omega
               case rel => exact ⟨(x1_10), (x5_3), (wrap64 (x17_1 + 1)), (by first | rfl | (simp; done) | (simp [*]; done)), H', ⟨by have := HK1.out; have := HJ10.out; have := HK3.out; omega⟩, ⟨by (with_reducible repeat (first | apply qA | apply qN | apply qD)); exact Kd.Q_mono (Kd.Q_far (p := ⟨gb366, 1, none⟩) (Kd.Q_far (p := ⟨gb366, 0, none⟩) (Kd.Q_mono HO_1.out (fun k_ hk => (⟨hk, hk.2⟩ : _ ∧ k_ ≠ gb366))) (fun _ hk => hk.2) (.int .i64 ((rd_T64 x1_10 x37_3).f0))) (fun _ hk => hk.2) (.int .i64 ((rd_T64 x1_10 x37_3).f1))) (fun _ hk => ⟨hk.1.1.1, hk.1.1.2.1⟩)⟩, ⟨by (with_reducible repeat (first | apply rA | apply rN | apply rD)); exact Kd.R_mono (Kd.R_far (p := ⟨gb366, 1, none⟩) (Kd.R_far (p := ⟨gb366, 0, none⟩) (Kd.R_mono HO_5.out (fun k_ hk => (⟨hk, hk.2⟩ : _ ∧ k_ ≠ gb366))) (fun _ hk => hk.2) (.int .i64 ((rd_T64 x1_10 x37_3).f0))) (fun _ hk => hk.2) (.int .i64 ((rd_T64 x1_10 x37_3).f1))) (fun _ hk => ⟨hk.1.1.1, hk.1.1.2.1⟩)⟩, ⟨by (with_reducible repeat (first | apply rA | apply rN | apply rD)); exact Kd.R_mono (Kd.R_far (p := ⟨gb366, 1, none⟩) (Kd.R_far (p := ⟨gb366, 0, none⟩) (Kd.R_mono HO_15.out (fun k_ hk => (⟨hk, hk.2⟩ : _ ∧ k_ ≠ gb366))) (fun _ hk => hk.2) (.int .i64 ((rd_T64 x1_10 x37_3).f0))) (fun _ hk => hk.2) (.int .i64 ((rd_T64 x1_10 x37_3).f1))) (fun _ hk => ⟨hk.1.1.1, hk.1.1.2.1⟩)⟩, ⟨by repeat (first | (with_reducible first | exact HB.out | apply wA | apply wN | apply wD | refine wS ?_ GE357.out | refine wS ?_ GE366.out) | exact HB.out)⟩⟩
             ·rw [if_neg c28] at H
              have c28b0 : decide (((rd_T64 t350 x17_1).f1) < ((rd_T64 x1_10 x37_3).f0)) = false := decide_eq_false c28
              clear c28
              by_cases c40 : ((rd_T64 x1_10 x37_3).f0) > x358000_3
              ·rw [if_pos c40] at H
               have c40b0 : decide (x358000_3 < ((rd_T64 x1_10 x37_3).f0)) = true := decide_eq_true c40
               clear c40
               by_cases c41 : x5_3.length < 8796093022208
               ·rw [if_pos c41] at H
                have LMc41 := Aside0.mk c41
                clear c41
                obtain ⟨y370, hy370⟩ : ∃ y_ : List (S64), y_ = (x5_3 ++ [(⟨x358000_3, wrap64 (((rd_T64 x1_10 x37_3).f0) - 1)⟩ : S64)]) := ⟨_, rfl⟩
                replace H : (if (((rd_T64 x1_10 x37_3).f1) < ((rd_T64 t350 x17_1).f1)) then (classes_Less.l2 k3 x1_10 y370 (decide (((rd_T64 x1_10 x37_3).f1) < ((rd_T64 t350 x17_1).f1))) t350 (t350.length : Int) x17_1 x1_10 (x1_10.length : Int) (wrap64 (x37_3 + 1)) (wrap64 (((rd_T64 x1_10 x37_3).f1) + 1)) ((rd_T64 t350 x17_1).f1)) else (if ((rd_T64 x1_10 x37_3).f1) < ((rd_T64 t350 x17_1).f1) then (if y370.length < 8796093022208 then (classes_Less.l0 k3 x1_10 (y370 ++ [(⟨x358000_3, ((rd_T64 t350 x17_1).f1)⟩ : S64)]) t350 (t350.length : Int) (wrap64 (x17_1 + 1))) else (none)) else (classes_Less.l0 k3 x1_10 y370 t350 (t350.length : Int) (wrap64 (x17_1 + 1))))) = some r := by first | (rw [hy370]; with_reducible exact H) | (have H2_ := (Option.bind_some _ _).symm.trans H; rw [hy370]; with_reducible exact H2_) | (have H2_ := (Option.bind_some _ _).symm.trans H; with_reducible exact H2_) | with_reducible exact H | (rw [hy370]; exact H) | exact H
                have Ny370 := Aside0.mk hy370
                clear hy370
                by_cases c42 : (((rd_T64 x1_10 x37_3).f1) < ((rd_T64 t350 x17_1).f1))
                ·rw [if_pos c42] at H
                 have c42b0 : decide (((rd_T64 x1_10 x37_3).f1) < ((rd_T64 t350 x17_1).f1)) = true := decide_eq_true c42
                 clear c42
                 have H' := Aside0.mk H
                 clear H
                 have p365 : 0 ≤ (x37_3 : Int) := of_decide_eq_true (by first | (with_reducible assumption) | assumption)
                 have q365 : x37_3 < (x1_10.length : Int) := of_decide_eq_true (by first | (with_reducible assumption) | assumption)
                 obtain ⟨ad365, e365, hx365_0, hx365_1⟩ := at_T64 (Kd.Q_reads' HO_35.out).2.2 x37_3 p365 q365
                 cases e365
                 replace p365 := eq_true p365
                 replace q365 := eq_true q365
                 go_wp2_with (first | ((with_reducible refine gate_dst (N := 10) rfl ?_); refine box_event ?hg (N := 10) ?hd (cs := #[.int .i64 0, .int .i64 0]) (t := 50) ?hr ?_; (case hd => rfl); (case hg => rfl); (case hr => first | (go_simp; done) | (go_simp; rfl)); intro gb366 hg w43 hbox hb; have n0_ := Aside0.mk (Kd.Q_below (Kd.Q_elderB (by (with_reducible repeat (first | apply qA | apply qN | apply qD)); exact HO_1.out) gb366 (Nat.le_of_eq hg.symm)) hb); have n1_ := Aside0.mk (Kd.R_below (Kd.R_elderB (by (with_reducible repeat (first | apply rA | apply rN | apply rD)); exact HO_5.out) gb366 (Nat.le_of_eq hg.symm)) hb); have n2_ := Aside0.mk (Kd.R_below (Kd.R_elderB (by (with_reducible repeat (first | apply rA | apply rN | apply rD)); exact HO_15.out) gb366 (Nat.le_of_eq hg.symm)) hb); have n3_ := Aside0.mk (Kd.Q_below (Kd.Q_elderB (by (with_reducible repeat (first | apply qA | apply qN | apply qD)); exact HO_35.out) gb366 (Nat.le_of_eq hg.symm)) hb); have n4_ := Aside0.mk (blk_below (g := gb357) (o := .cells #[.int .i64 x358000_3, .int .i64 ((rd_T64 t350 x17_1).f1)] 50 (0, 0)) (by (with_reducible repeat (first | refine bN ?_ _ | refine bD ?_ | refine bA ?_ _)); exact BK357.out) hb); have n5_ := Aside0.mk (below_step (by repeat (first | (with_reducible first | exact HB.out | apply wA | apply wN | apply wD | refine wS ?_ GE357.out) | exact HB.out)) hb); have n6_ := Aside0.mk (hbox); have n7_ := Aside0.mk ((by rw [hg]; exact (below_size (by repeat (first | (with_reducible first | exact HB.out | apply wA | apply wN | apply wD | refine wS ?_ GE357.out) | exact HB.out))) : w.heap.size ≤ gb366)); have n8_ := Aside0.mk ((by rw [hg]; exact (below_size (by repeat (first | (with_reducible first | exact HB.out | apply wA | apply wN | apply wD | refine wS ?_ GE357.out) | exact HB.out))) : w.heap.size ≤ gb366)); have n9_ := Aside0.mk ((by rw [hg]; exact Nat.ne_of_lt (blk_lt (g := gb357) (o := .cells #[.int .i64 x358000_3, .int .i64 ((rd_T64 t350 x17_1).f1)] 50 (0, 0)) (by (with_reducible repeat (first | refine bN ?_ _ | refine bD ?_ | refine bA ?_ _)); exact BK357.out)) : gb357 ≠ gb366)); have n10_ := Aside0.mk ((by rw [hg]; exact Nat.ne_of_gt (blk_lt (g := gb357) (o := .cells #[.int .i64 x358000_3, .int .i64 ((rd_T64 t350 x17_1).f1)] 50 (0, 0)) (by (with_reducible repeat (first | refine bN ?_ _ | refine bD ?_ | refine bA ?_ _)); exact BK357.out)) : gb366 ≠ gb357)); clear HO_1; clear HO_5; clear HO_15; clear HO_35; clear BK357; clear HB; have HO_1 := n0_; have HO_5 := n1_; have HO_15 := n2_; have HO_35 := n3_; have BK357 := n4_; have HB := n5_; have BK366 := n6_; have GW366 := n7_; have GE366 := n8_; have NB357_366 := n9_; have NB366_357 := n10_; clear n0_ n1_ n2_ n3_ n4_ n5_ n6_ n7_ n8_ n9_ n10_; clear hb hbox hg; have hnb44 := NB366_357.out; have hnc44 := NB357_366.out; have hcz45_0 : w43.cell? ⟨gb366, 0, none⟩ = some (.int .i64 0) := (blk_cell BK366.out 0).trans rfl; have hcz45_1 : w43.cell? ⟨gb366, 1, none⟩ = some (.int .i64 0) := (blk_cell BK366.out 1).trans rfl; have hfz45_0 := blk_frozen BK366.out 0; have hfz45_1 := blk_frozen BK366.out 1; have hcz46_0 : w43.cell? ⟨gb357, 0, none⟩ = some (.int .i64 x358000_3) := (blk_cell BK357.out 0).trans rfl; have hcz46_1 : w43.cell? ⟨gb357, 1, none⟩ = some (.int .i64 ((rd_T64 t350 x17_1).f1)) := (blk_cell BK357.out 1).trans rfl; have hfz46_0 := blk_frozen BK357.out 0; have hfz46_1 := blk_frozen BK357.out 1) | ((with_reducible refine gate_builtin (b := .append) (xs := #[.tmp 51, .tmp 58]) rfl ?_); at_builtin; refine Kd.R_append k64 (w0 := w) w.heap.size rfl (.tmp 51) (.tmp 58) 25 50 (.agg #[(.int .i64 0), (.int .i64 0)]) 16 rfl Tryd.underlying25 info64 rfl (by decide) (by omega) u5 x5_3 (⟨x358000_3, wrap64 (((rd_T64 x1_10 x37_3).f0) - 1)⟩ : S64) [.int .i64 x358000_3, .int .i64 (wrap64 (((rd_T64 x1_10 x37_3).f0) - 1))] (fun k_ => some k_ ≠ (.slice (some ad365) x1_10.length co24 : Value).ownBlock ∧ some k_ ≠ (.slice (some ad356) t350.length co7 : Value).ownBlock ∧ some k_ ≠ (.slice (some ad365) x1_10.length co24 : Value).ownBlock ∧ k_ ≠ gb357 ∧ k_ ≠ gb366) (fun _ => False) rfl (by first | (go_simp; done) | (go_simp; rfl)) ?aP (fun _ hk => hk.elim) ?aF ?aO ?aB ?aS ?aL ?_; (case aP => exact k64_mkM _ _ _ (⟨x358000_3, wrap64 (((rd_T64 x1_10 x37_3).f0) - 1)⟩ : S64)); (case aB => exact (by repeat (first | (with_reducible first | exact HB.out | apply wA | apply wN | apply wD | refine wS ?_ GE357.out | refine wS ?_ GE366.out) | exact HB.out))); (case aF => exact (fun k_ hk => ⟨Kd.fresh' (Kd.Q_lt (by (with_reducible repeat (first | apply qA | apply qN | apply qD)); exact (Kd.Q_mono (Kd.Q_far (p := ⟨gb366, 1, none⟩) (Kd.Q_far (p := ⟨gb366, 0, none⟩) (Kd.Q_mono HO_1.out (fun k_ hk => (⟨hk, hk.2⟩ : _ ∧ k_ ≠ gb366))) (fun _ hk => hk.2) (.int .i64 ((rd_T64 x1_10 x37_3).f0))) (fun _ hk => hk.2) (.int .i64 ((rd_T64 x1_10 x37_3).f1))) (fun _ h_ => h_.1)))) k_ hk, Kd.fresh' (rL (by (with_reducible repeat (first | apply rA | apply rN | apply rD)); exact (Kd.R_mono (Kd.R_far (p := ⟨gb366, 1, none⟩) (Kd.R_far (p := ⟨gb366, 0, none⟩) (Kd.R_mono HO_15.out (fun k_ hk => (⟨hk, hk.2⟩ : _ ∧ k_ ≠ gb366))) (fun _ hk => hk.2) (.int .i64 ((rd_T64 x1_10 x37_3).f0))) (fun _ hk => hk.2) (.int .i64 ((rd_T64 x1_10 x37_3).f1))) (fun _ h_ => h_.1)))) k_ hk, Kd.fresh' (Kd.Q_lt (by (with_reducible repeat (first | apply qA | apply qN | apply qD)); exact (Kd.Q_mono (Kd.Q_far (p := ⟨gb366, 1, none⟩) (Kd.Q_far (p := ⟨gb366, 0, none⟩) (Kd.Q_mono HO_35.out (fun k_ hk => (⟨hk, hk.2⟩ : _ ∧ k_ ≠ gb366))) (fun _ hk => hk.2) (.int .i64 ((rd_T64 x1_10 x37_3).f0))) (fun _ hk => hk.2) (.int .i64 ((rd_T64 x1_10 x37_3).f1))) (fun _ h_ => h_.1)))) k_ hk, Kd.freshB (g := gb357) (o := .cells #[.int .i64 x358000_3, .int .i64 ((rd_T64 t350 x17_1).f1)] 50 (0, 0)) (by (with_reducible repeat (first | refine bN ?_ _ | refine bD ?_ | refine bA ?_ _)); refine blk_far ?_ NB357_366.out _; (with_reducible repeat (first | refine bN ?_ _ | refine bD ?_ | refine bA ?_ _)); refine blk_far ?_ NB357_366.out _; (with_reducible repeat (first | refine bN ?_ _ | refine bD ?_ | refine bA ?_ _)); exact BK357.out) k_ hk, Kd.freshB (g := gb366) (o := .cells #[.int .i64 ((rd_T64 x1_10 x37_3).f0), .int .i64 ((rd_T64 x1_10 x37_3).f1)] 50 (0, 0)) (by (with_reducible repeat (first | refine bN ?_ _ | refine bD ?_ | refine bA ?_ _)); refine blk_put (cs := #[.int .i64 ((rd_T64 x1_10 x37_3).f0), .int .i64 0]) ?_ 1 _ rfl; (with_reducible repeat (first | refine bN ?_ _ | refine bD ?_ | refine bA ?_ _)); refine blk_put (cs := #[.int .i64 0, .int .i64 0]) ?_ 0 _ rfl; (with_reducible repeat (first | refine bN ?_ _ | refine bD ?_ | refine bA ?_ _)); exact BK366.out) k_ hk⟩)); (case aO => exact (by (with_reducible repeat (first | apply rA | apply rN | apply rD)); exact Kd.R_mono (Kd.R_far (p := ⟨gb366, 1, none⟩) (Kd.R_far (p := ⟨gb366, 0, none⟩) (Kd.R_mono HO_5.out (fun k_ hk => (⟨hk, hk.2⟩ : _ ∧ k_ ≠ gb366))) (fun _ hk => hk.2) (.int .i64 ((rd_T64 x1_10 x37_3).f0))) (fun _ hk => hk.2) (.int .i64 ((rd_T64 x1_10 x37_3).f1))) (fun _ hk => ⟨hk.1.1.1, ⟨hk.1.1.2.1, ⟨hk.1.1.2.2.1, ⟨hk.1.1.2.2.2, hk.1.2⟩⟩⟩⟩))); (case aS => exact (below_size (by repeat (first | (with_reducible first | exact HB.out | apply wA | apply wN | apply wD | refine wS ?_ GE357.out | refine wS ?_ GE366.out) | exact HB.out)))); (case aL => have := LMc41.out; omega); intro v371 w47 ho hb hg hat; rw [← Ny370.out] at ho; have n0_ := Aside0.mk (Kd.Q_after (ok := (fun k_ => some k_ ≠ (.slice (some ad356) t350.length co7 : Value).ownBlock ∧ k_ ≠ gb357 ∧ k_ ≠ gb366)) (by (with_reducible repeat (first | apply qA | apply qN | apply qD)); exact Kd.Q_mono (Kd.Q_far (p := ⟨gb366, 1, none⟩) (Kd.Q_far (p := ⟨gb366, 0, none⟩) (Kd.Q_mono HO_1.out (fun k_ hk => (⟨hk, hk.2⟩ : _ ∧ k_ ≠ gb366))) (fun _ hk => hk.2) (.int .i64 ((rd_T64 x1_10 x37_3).f0))) (fun _ hk => hk.2) (.int .i64 ((rd_T64 x1_10 x37_3).f1))) (fun _ hk => ⟨⟨hk.1.1.2.1, ⟨hk.1.1.2.2, hk.1.2⟩⟩, hk.1.1.1⟩)) hg hat); have n1_ := Aside0.mk (Kd.R_after (ok := (fun k_ => some k_ ≠ (.slice (some ad365) x1_10.length co24 : Value).ownBlock ∧ some k_ ≠ (.slice (some ad365) x1_10.length co24 : Value).ownBlock ∧ k_ ≠ gb357 ∧ k_ ≠ gb366)) (by (with_reducible repeat (first | apply rA | apply rN | apply rD)); exact Kd.R_mono (Kd.R_far (p := ⟨gb366, 1, none⟩) (Kd.R_far (p := ⟨gb366, 0, none⟩) (Kd.R_mono HO_15.out (fun k_ hk => (⟨hk, hk.2⟩ : _ ∧ k_ ≠ gb366))) (fun _ hk => hk.2) (.int .i64 ((rd_T64 x1_10 x37_3).f0))) (fun _ hk => hk.2) (.int .i64 ((rd_T64 x1_10 x37_3).f1))) (fun _ hk => ⟨⟨hk.1.1.1, ⟨hk.1.1.2.2.1, ⟨hk.1.1.2.2.2, hk.1.2⟩⟩⟩, hk.1.1.2.1⟩)) hg hat); have n2_ := Aside0.mk (Kd.Q_after (ok := (fun k_ => some k_ ≠ (.slice (some ad356) t350.length co7 : Value).ownBlock ∧ k_ ≠ gb357 ∧ k_ ≠ gb366)) (by (with_reducible repeat (first | apply qA | apply qN | apply qD)); exact Kd.Q_mono (Kd.Q_far (p := ⟨gb366, 1, none⟩) (Kd.Q_far (p := ⟨gb366, 0, none⟩) (Kd.Q_mono HO_35.out (fun k_ hk => (⟨hk, hk.2⟩ : _ ∧ k_ ≠ gb366))) (fun _ hk => hk.2) (.int .i64 ((rd_T64 x1_10 x37_3).f0))) (fun _ hk => hk.2) (.int .i64 ((rd_T64 x1_10 x37_3).f1))) (fun _ hk => ⟨⟨hk.1.1.2.1, ⟨hk.1.1.2.2, hk.1.2⟩⟩, hk.1.1.1⟩)) hg hat); have n3_ := Aside0.mk (blk_grown (g := gb357) (o := .cells #[.int .i64 x358000_3, .int .i64 ((rd_T64 t350 x17_1).f1)] 50 (0, 0)) (by (with_reducible repeat (first | refine bN ?_ _ | refine bD ?_ | refine bA ?_ _)); refine blk_far ?_ NB357_366.out _; (with_reducible repeat (first | refine bN ?_ _ | refine bD ?_ | refine bA ?_ _)); refine blk_far ?_ NB357_366.out _; (with_reducible repeat (first | refine bN ?_ _ | refine bD ?_ | refine bA ?_ _)); exact BK357.out) hg (Kd.R_away HO_5.out (fun _ hk => hk.1.2.2.2))); have n4_ := Aside0.mk (blk_grown (g := gb366) (o := .cells #[.int .i64 ((rd_T64 x1_10 x37_3).f0), .int .i64 ((rd_T64 x1_10 x37_3).f1)] 50 (0, 0)) (by (with_reducible repeat (first | refine bN ?_ _ | refine bD ?_ | refine bA ?_ _)); refine blk_put (cs := #[.int .i64 ((rd_T64 x1_10 x37_3).f0), .int .i64 0]) ?_ 1 _ rfl; (with_reducible repeat (first | refine bN ?_ _ | refine bD ?_ | refine bA ?_ _)); refine blk_put (cs := #[.int .i64 0, .int .i64 0]) ?_ 0 _ rfl; (with_reducible repeat (first | refine bN ?_ _ | refine bD ?_ | refine bA ?_ _)); exact BK366.out) hg (Kd.R_away HO_5.out (fun _ hk => hk.2))); have n5_ := Aside0.mk (hb); have n6_ := Aside0.mk (ho); clear HO_1; clear HO_15; clear HO_35; clear BK357; clear BK366; clear HB; clear HO_5; have HO_1 := n0_; have HO_15 := n1_; have HO_35 := n2_; have BK357 := n3_; have BK366 := n4_; have HB := n5_; have HO372 := n6_; clear n0_ n1_ n2_ n3_ n4_ n5_ n6_; clear ho hb hg hat; have hcz48_0 : w47.cell? ⟨gb366, 0, none⟩ = some (.int .i64 ((rd_T64 x1_10 x37_3).f0)) := (blk_cell BK366.out 0).trans rfl; have hcz48_1 : w47.cell? ⟨gb366, 1, none⟩ = some (.int .i64 ((rd_T64 x1_10 x37_3).f1)) := (blk_cell BK366.out 1).trans rfl; have hfz48_0 := blk_frozen BK366.out 0; have hfz48_1 := blk_frozen BK366.out 1; have hcz49_0 : w47.cell? ⟨gb357, 0, none⟩ = some (.int .i64 x358000_3) := (blk_cell BK357.out 0).trans rfl; have hcz49_1 : w47.cell? ⟨gb357, 1, none⟩ = some (.int .i64 ((rd_T64 t350 x17_1).f1)) := (blk_cell BK357.out 1).trans rfl; have hfz49_0 := blk_frozen BK357.out 0; have hfz49_1 := blk_frozen BK357.out 1))
                 go_roundg k3
                 case measure => have := HK1.out; have := HJ10.out; have := HK3.out; omega
                 case rel => exact ⟨(y370), (decide (((rd_T64 x1_10 x37_3).f1) < ((rd_T64 t350 x17_1).f1))), (wrap64 (x37_3 + 1)), (wrap64 (((rd_T64 x1_10 x37_3).f1) + 1)), (by first | rfl | (simp; done) | (simp [*]; done)), (by first | rfl | (simp; done) | (simp [*]; done)), H', ⟨by have := HK1.out; have := HJ10.out; have := HK3.out; omega⟩, ⟨by (with_reducible repeat (first | apply qA | apply qN | apply qD)); exact Kd.Q_mono (Kd.Q_far (p := ⟨gb357, 0, none⟩) (Kd.Q_mono HO_1.out (fun k_ hk => (⟨hk, hk.1.2.1⟩ : _ ∧ k_ ≠ gb357))) (fun _ hk => hk.2) (.int .i64 (wrap64 (((rd_T64 x1_10 x37_3).f1) + 1)))) (fun _ hk => ⟨hk.1.2, ⟨hk.1.1.1, hk.1.1.2.1⟩⟩)⟩, ⟨by (with_reducible repeat (first | apply rA | apply rN | apply rD)); exact Kd.R_mono (Kd.R_far (p := ⟨gb357, 0, none⟩) (Kd.R_mono HO372.out (fun k_ hk => (⟨hk, hk.2.2.2.1⟩ : _ ∧ k_ ≠ gb357))) (fun _ hk => hk.2) (.int .i64 (wrap64 (((rd_T64 x1_10 x37_3).f1) + 1)))) (fun _ hk => ⟨hk.1.1, ⟨hk.1.2.1, ⟨hk.1.2.2.1, hk.1.2.2.2.1⟩⟩⟩)⟩, ⟨by (with_reducible repeat (first | apply rA | apply rN | apply rD)); exact Kd.R_mono (Kd.R_far (p := ⟨gb357, 0, none⟩) (Kd.R_mono HO_15.out (fun k_ hk => (⟨hk, hk.1.2.2.1⟩ : _ ∧ k_ ≠ gb357))) (fun _ hk => hk.2) (.int .i64 (wrap64 (((rd_T64 x1_10 x37_3).f1) + 1)))) (fun _ hk => ⟨hk.1.1.1, ⟨hk.1.2, ⟨hk.1.1.2.1, hk.1.1.2.2.1⟩⟩⟩)⟩, ⟨by (with_reducible repeat (first | apply qA | apply qN | apply qD)); exact Kd.Q_mono (Kd.Q_far (p := ⟨gb357, 0, none⟩) (Kd.Q_mono HO_35.out (fun k_ hk => (⟨hk, hk.1.2.1⟩ : _ ∧ k_ ≠ gb357))) (fun _ hk => hk.2) (.int .i64 (wrap64 (((rd_T64 x1_10 x37_3).f1) + 1)))) (fun _ hk => ⟨hk.1.2, ⟨hk.1.1.1, hk.1.1.2.1⟩⟩)⟩, ⟨by (with_reducible repeat (first | refine bN ?_ _ | refine bD ?_ | refine bA ?_ _)); refine blk_put (cs := #[.int .i64 x358000_3, .int .i64 ((rd_T64 t350 x17_1).f1)]) ?_ 0 _ rfl; (with_reducible repeat (first | refine bN ?_ _ | refine bD ?_ | refine bA ?_ _)); exact BK357.out⟩, ⟨by repeat (first | (with_reducible first | exact HB.out | apply wA | apply wN | apply wD | refine wS ?_ GE357.out | refine wS ?_ GE366.out) | exact HB.out)⟩⟩
                ·rw [if_neg c42] at H
                 have c42b0 : decide (((rd_T64 x1_10 x37_3).f1) < ((rd_T64 t350 x17_1).f1)) = false := decide_eq_false c42
                 clear c42
                 by_cases c50 : ((rd_T64 x1_10 x37_3).f1) < ((rd_T64 t350 x17_1).f1)
                 ·exact absurd c50 (of_decide_eq_false c42b0)
                 ·rw [if_neg c50] at H
                  have c50b0 : decide (((rd_T64 x1_10 x37_3).f1) < ((rd_T64 t350 x17_1).f1)) = false := decide_eq_false c50
                  clear c50
                  have H' := Aside0.mk H
                  clear H
                  have p365 : 0 ≤ (x37_3 : Int) := of_decide_eq_true (by first | (with_reducible assumption) | assumption)
                  have q365 : x37_3 < (x1_10.length : Int) := of_decide_eq_true (by first | (with_reducible assumption) | assumption)
                  obtain ⟨ad365, e365, hx365_0, hx365_1⟩ := at_T64 (Kd.Q_reads' HO_35.out).2.2 x37_3 p365 q365
                  cases e365
                  replace p365 := eq_true p365
                  replace q365 := eq_true q365
                  go_wp2_with (first | ((with_reducible refine gate_dst (N := 10) rfl ?_); refine box_event ?hg (N := 10) ?hd (cs := #[.int .i64 0, .int .i64 0]) (t := 50) ?hr ?_; (case hd => rfl); (case hg => rfl); (case hr => first | (go_simp; done) | (go_simp; rfl)); intro gb366 hg w60 hbox hb; have n0_ := Aside0.mk (Kd.Q_below (Kd.Q_elderB (by (with_reducible repeat (first | apply qA | apply qN | apply qD)); exact HO_1.out) gb366 (Nat.le_of_eq hg.symm)) hb); have n1_ := Aside0.mk (Kd.R_below (Kd.R_elderB (by (with_reducible repeat (first | apply rA | apply rN | apply rD)); exact HO_5.out) gb366 (Nat.le_of_eq hg.symm)) hb); have n2_ := Aside0.mk (Kd.R_below (Kd.R_elderB (by (with_reducible repeat (first | apply rA | apply rN | apply rD)); exact HO_15.out) gb366 (Nat.le_of_eq hg.symm)) hb); have n3_ := Aside0.mk (Kd.Q_below (Kd.Q_elderB (by (with_reducible repeat (first | apply qA | apply qN | apply qD)); exact HO_35.out) gb366 (Nat.le_of_eq hg.symm)) hb); have n4_ := Aside0.mk (blk_below (g := gb357) (o := .cells #[.int .i64 x358000_3, .int .i64 ((rd_T64 t350 x17_1).f1)] 50 (0, 0)) (by (with_reducible repeat (first | refine bN ?_ _ | refine bD ?_ | refine bA ?_ _)); exact BK357.out) hb); have n5_ := Aside0.mk (below_step (by repeat (first | (with_reducible first | exact HB.out | apply wA | apply wN | apply wD | refine wS ?_ GE357.out) | exact HB.out)) hb); have n6_ := Aside0.mk (hbox); have n7_ := Aside0.mk ((by rw [hg]; exact (below_size (by repeat (first | (with_reducible first | exact HB.out | apply wA | apply wN | apply wD | refine wS ?_ GE357.out) | exact HB.out))) : w.heap.size ≤ gb366)); have n8_ := Aside0.mk ((by rw [hg]; exact (below_size (by repeat (first | (with_reducible first | exact HB.out | apply wA | apply wN | apply wD | refine wS ?_ GE357.out) | exact HB.out))) : w.heap.size ≤ gb366)); have n9_ := Aside0.mk ((by rw [hg]; exact Nat.ne_of_lt (blk_lt (g := gb357) (o := .cells #[.int .i64 x358000_3, .int .i64 ((rd_T64 t350 x17_1).f1)] 50 (0, 0)) (by (with_reducible repeat (first | refine bN ?_ _ | refine bD ?_ | refine bA ?_ _)); exact BK357.out)) : gb357 ≠ gb366)); have n10_ := Aside0.mk ((by rw [hg]; exact Nat.ne_of_gt (blk_lt (g := gb357) (o := .cells #[.int .i64 x358000_3, .int .i64 ((rd_T64 t350 x17_1).f1)] 50 (0, 0)) (by (with_reducible repeat (first | refine bN ?_ _ | refine bD ?_ | refine bA ?_ _)); exact BK357.out)) : gb366 ≠ gb357)); clear HO_1; clear HO_5; clear HO_15; clear HO_35; clear BK357; clear HB; have HO_1 := n0_; have HO_5 := n1_; have HO_15 := n2_; have HO_35 := n3_; have BK357 := n4_; have HB := n5_; have BK366 := n6_; have GW366 := n7_; have GE366 := n8_; have NB357_366 := n9_; have NB366_357 := n10_; clear n0_ n1_ n2_ n3_ n4_ n5_ n6_ n7_ n8_ n9_ n10_; clear hb hbox hg; have hnb61 := NB366_357.out; have hnc61 := NB357_366.out; have hcz62_0 : w60.cell? ⟨gb366, 0, none⟩ = some (.int .i64 0) := (blk_cell BK366.out 0).trans rfl; have hcz62_1 : w60.cell? ⟨gb366, 1, none⟩ = some (.int .i64 0) := (blk_cell BK366.out 1).trans rfl; have hfz62_0 := blk_frozen BK366.out 0; have hfz62_1 := blk_frozen BK366.out 1; have hcz63_0 : w60.cell? ⟨gb357, 0, none⟩ = some (.int .i64 x358000_3) := (blk_cell BK357.out 0).trans rfl; have hcz63_1 : w60.cell? ⟨gb357, 1, none⟩ = some (.int .i64 ((rd_T64 t350 x17_1).f1)) := (blk_cell BK357.out 1).trans rfl; have hfz63_0 := blk_frozen BK357.out 0; have hfz63_1 := blk_frozen BK357.out 1) | ((with_reducible refine gate_builtin (b := .append) (xs := #[.tmp 51, .tmp 58]) rfl ?_); at_builtin; refine Kd.R_append k64 (w0 := w) w.heap.size rfl (.tmp 51) (.tmp 58) 25 50 (.agg #[(.int .i64 0), (.int .i64 0)]) 16 rfl Tryd.underlying25 info64 rfl (by decide) (by omega) u5 x5_3 (⟨x358000_3, wrap64 (((rd_T64 x1_10 x37_3).f0) - 1)⟩ : S64) [.int .i64 x358000_3, .int .i64 (wrap64 (((rd_T64 x1_10 x37_3).f0) - 1))] (fun k_ => some k_ ≠ (.slice (some ad365) x1_10.length co24 : Value).ownBlock ∧ some k_ ≠ (.slice (some ad356) t350.length co7 : Value).ownBlock ∧ some k_ ≠ (.slice (some ad365) x1_10.length co24 : Value).ownBlock ∧ k_ ≠ gb357 ∧ k_ ≠ gb366) (fun _ => False) rfl (by first | (go_simp; done) | (go_simp; rfl)) ?aP (fun _ hk => hk.elim) ?aF ?aO ?aB ?aS ?aL ?_; (case aP => exact k64_mkM _ _ _ (⟨x358000_3, wrap64 (((rd_T64 x1_10 x37_3).f0) - 1)⟩ : S64)); (case aB => exact (by repeat (first | (with_reducible first | exact HB.out | apply wA | apply wN | apply wD | refine wS ?_ GE357.out | refine wS ?_ GE366.out) | exact HB.out))); (case aF => exact (fun k_ hk => ⟨Kd.fresh' (Kd.Q_lt (by (with_reducible repeat (first | apply qA | apply qN | apply qD)); exact (Kd.Q_mono (Kd.Q_far (p := ⟨gb366, 1, none⟩) (Kd.Q_far (p := ⟨gb366, 0, none⟩) (Kd.Q_mono HO_1.out (fun k_ hk => (⟨hk, hk.2⟩ : _ ∧ k_ ≠ gb366))) (fun _ hk => hk.2) (.int .i64 ((rd_T64 x1_10 x37_3).f0))) (fun _ hk => hk.2) (.int .i64 ((rd_T64 x1_10 x37_3).f1))) (fun _ h_ => h_.1)))) k_ hk, Kd.fresh' (rL (by (with_reducible repeat (first | apply rA | apply rN | apply rD)); exact (Kd.R_mono (Kd.R_far (p := ⟨gb366, 1, none⟩) (Kd.R_far (p := ⟨gb366, 0, none⟩) (Kd.R_mono HO_15.out (fun k_ hk => (⟨hk, hk.2⟩ : _ ∧ k_ ≠ gb366))) (fun _ hk => hk.2) (.int .i64 ((rd_T64 x1_10 x37_3).f0))) (fun _ hk => hk.2) (.int .i64 ((rd_T64 x1_10 x37_3).f1))) (fun _ h_ => h_.1)))) k_ hk, Kd.fresh' (Kd.Q_lt (by (with_reducible repeat (first | apply qA | apply qN | apply qD)); exact (Kd.Q_mono (Kd.Q_far (p := ⟨gb366, 1, none⟩) (Kd.Q_far (p := ⟨gb366, 0, none⟩) (Kd.Q_mono HO_35.out (fun k_ hk => (⟨hk, hk.2⟩ : _ ∧ k_ ≠ gb366))) (fun _ hk => hk.2) (.int .i64 ((rd_T64 x1_10 x37_3).f0))) (fun _ hk => hk.2) (.int .i64 ((rd_T64 x1_10 x37_3).f1))) (fun _ h_ => h_.1)))) k_ hk, Kd.freshB (g := gb357) (o := .cells #[.int .i64 x358000_3, .int .i64 ((rd_T64 t350 x17_1).f1)] 50 (0, 0)) (by (with_reducible repeat (first | refine bN ?_ _ | refine bD ?_ | refine bA ?_ _)); refine blk_far ?_ NB357_366.out _; (with_reducible repeat (first | refine bN ?_ _ | refine bD ?_ | refine bA ?_ _)); refine blk_far ?_ NB357_366.out _; (with_reducible repeat (first | refine bN ?_ _ | refine bD ?_ | refine bA ?_ _)); exact BK357.out) k_ hk, Kd.freshB (g := gb366) (o := .cells #[.int .i64 ((rd_T64 x1_10 x37_3).f0), .int .i64 ((rd_T64 x1_10 x37_3).f1)] 50 (0, 0)) (by (with_reducible repeat (first | refine bN ?_ _ | refine bD ?_ | refine bA ?_ _)); refine blk_put (cs := #[.int .i64 ((rd_T64 x1_10 x37_3).f0), .int .i64 0]) ?_ 1 _ rfl; (with_reducible repeat (first | refine bN ?_ _ | refine bD ?_ | refine bA ?_ _)); refine blk_put (cs := #[.int .i64 0, .int .i64 0]) ?_ 0 _ rfl; (with_reducible repeat (first | refine bN ?_ _ | refine bD ?_ | refine bA ?_ _)); exact BK366.out) k_ hk⟩)); (case aO => exact (by (with_reducible repeat (first | apply rA | apply rN | apply rD)); exact Kd.R_mono (Kd.R_far (p := ⟨gb366, 1, none⟩) (Kd.R_far (p := ⟨gb366, 0, none⟩) (Kd.R_mono HO_5.out (fun k_ hk => (⟨hk, hk.2⟩ : _ ∧ k_ ≠ gb366))) (fun _ hk => hk.2) (.int .i64 ((rd_T64 x1_10 x37_3).f0))) (fun _ hk => hk.2) (.int .i64 ((rd_T64 x1_10 x37_3).f1))) (fun _ hk => ⟨hk.1.1.1, ⟨hk.1.1.2.1, ⟨hk.1.1.2.2.1, ⟨hk.1.1.2.2.2, hk.1.2⟩⟩⟩⟩))); (case aS => exact (below_size (by repeat (first | (with_reducible first | exact HB.out | apply wA | apply wN | apply wD | refine wS ?_ GE357.out | refine wS ?_ GE366.out) | exact HB.out)))); (case aL => have := LMc41.out; omega); intro v371 w64 ho hb hg hat; rw [← Ny370.out] at ho; have n0_ := Aside0.mk (Kd.Q_after (ok := (fun k_ => some k_ ≠ (.slice (some ad356) t350.length co7 : Value).ownBlock ∧ k_ ≠ gb357 ∧ k_ ≠ gb366)) (by (with_reducible repeat (first | apply qA | apply qN | apply qD)); exact Kd.Q_mono (Kd.Q_far (p := ⟨gb366, 1, none⟩) (Kd.Q_far (p := ⟨gb366, 0, none⟩) (Kd.Q_mono HO_1.out (fun k_ hk => (⟨hk, hk.2⟩ : _ ∧ k_ ≠ gb366))) (fun _ hk => hk.2) (.int .i64 ((rd_T64 x1_10 x37_3).f0))) (fun _ hk => hk.2) (.int .i64 ((rd_T64 x1_10 x37_3).f1))) (fun _ hk => ⟨⟨hk.1.1.2.1, ⟨hk.1.1.2.2, hk.1.2⟩⟩, hk.1.1.1⟩)) hg hat); have n1_ := Aside0.mk (Kd.R_after (ok := (fun k_ => some k_ ≠ (.slice (some ad365) x1_10.length co24 : Value).ownBlock ∧ some k_ ≠ (.slice (some ad365) x1_10.length co24 : Value).ownBlock ∧ k_ ≠ gb357 ∧ k_ ≠ gb366)) (by (with_reducible repeat (first | apply rA | apply rN | apply rD)); exact Kd.R_mono (Kd.R_far (p := ⟨gb366, 1, none⟩) (Kd.R_far (p := ⟨gb366, 0, none⟩) (Kd.R_mono HO_15.out (fun k_ hk => (⟨hk, hk.2⟩ : _ ∧ k_ ≠ gb366))) (fun _ hk => hk.2) (.int .i64 ((rd_T64 x1_10 x37_3).f0))) (fun _ hk => hk.2) (.int .i64 ((rd_T64 x1_10 x37_3).f1))) (fun _ hk => ⟨⟨hk.1.1.1, ⟨hk.1.1.2.2.1, ⟨hk.1.1.2.2.2, hk.1.2⟩⟩⟩, hk.1.1.2.1⟩)) hg hat); have n2_ := Aside0.mk (Kd.Q_after (ok := (fun k_ => some k_ ≠ (.slice (some ad356) t350.length co7 : Value).ownBlock ∧ k_ ≠ gb357 ∧ k_ ≠ gb366)) (by (with_reducible repeat (first | apply qA | apply qN | apply qD)); exact Kd.Q_mono (Kd.Q_far (p := ⟨gb366, 1, none⟩) (Kd.Q_far (p := ⟨gb366, 0, none⟩) (Kd.Q_mono HO_35.out (fun k_ hk => (⟨hk, hk.2⟩ : _ ∧ k_ ≠ gb366))) (fun _ hk => hk.2) (.int .i64 ((rd_T64 x1_10 x37_3).f0))) (fun _ hk => hk.2) (.int .i64 ((rd_T64 x1_10 x37_3).f1))) (fun _ hk => ⟨⟨hk.1.1.2.1, ⟨hk.1.1.2.2, hk.1.2⟩⟩, hk.1.1.1⟩)) hg hat); have n3_ := Aside0.mk (blk_grown (g := gb357) (o := .cells #[.int .i64 x358000_3, .int .i64 ((rd_T64 t350 x17_1).f1)] 50 (0, 0)) (by (with_reducible repeat (first | refine bN ?_ _ | refine bD ?_ | refine bA ?_ _)); refine blk_far ?_ NB357_366.out _; (with_reducible repeat (first | refine bN ?_ _ | refine bD ?_ | refine bA ?_ _)); refine blk_far ?_ NB357_366.out _; (with_reducible repeat (first | refine bN ?_ _ | refine bD ?_ | refine bA ?_ _)); exact BK357.out) hg (Kd.R_away HO_5.out (fun _ hk => hk.1.2.2.2))); have n4_ := Aside0.mk (blk_grown (g := gb366) (o := .cells #[.int .i64 ((rd_T64 x1_10 x37_3).f0), .int .i64 ((rd_T64 x1_10 x37_3).f1)] 50 (0, 0)) (by (with_reducible repeat (first | refine bN ?_ _ | refine bD ?_ | refine bA ?_ _)); refine blk_put (cs := #[.int .i64 ((rd_T64 x1_10 x37_3).f0), .int .i64 0]) ?_ 1 _ rfl; (with_reducible repeat (first | refine bN ?_ _ | refine bD ?_ | refine bA ?_ _)); refine blk_put (cs := #[.int .i64 0, .int .i64 0]) ?_ 0 _ rfl; (with_reducible repeat (first | refine bN ?_ _ | refine bD ?_ | refine bA ?_ _)); exact BK366.out) hg (Kd.R_away HO_5.out (fun _ hk => hk.2))); have n5_ := Aside0.mk (hb); have n6_ := Aside0.mk (ho); clear HO_1; clear HO_15; clear HO_35; clear BK357; clear BK366; clear HB; clear HO_5; have HO_1 := n0_; have HO_15 := n1_; have HO_35 := n2_; have BK357 := n3_; have BK366 := n4_; have HB := n5_; have HO372 := n6_; clear n0_ n1_ n2_ n3_ n4_ n5_ n6_; clear ho hb hg hat; have hcz65_0 : w64.cell? ⟨gb366, 0, none⟩ = some (.int .i64 ((rd_T64 x1_10 x37_3).f0)) := (blk_cell BK366.out 0).trans rfl; have hcz65_1 : w64.cell? ⟨gb366, 1, none⟩ = some (.int .i64 ((rd_T64 x1_10 x37_3).f1)) := (blk_cell BK366.out 1).trans rfl; have hfz65_0 := blk_frozen BK366.out 0; have hfz65_1 := blk_frozen BK366.out 1; have hcz66_0 : w64.cell? ⟨gb357, 0, none⟩ = some (.int .i64 x358000_3) := (blk_cell BK357.out 0).trans rfl; have hcz66_1 : w64.cell? ⟨gb357, 1, none⟩ = some (.int .i64 ((rd_T64 t350 x17_1).f1)) := (blk_cell BK357.out 1).trans rfl; have hfz66_0 := blk_frozen BK357.out 0; have hfz66_1 := blk_frozen BK357.out 1))
                  go_roundg k3
                  case measure => have := HK1.out; have := HJ10.out; have := HK3.out; omega
                  case rel => exact ⟨(x1_10), (y370), (wrap64 (x17_1 + 1)), (by first | rfl | (simp; done) | (simp [*]; done)), H', ⟨by have := HK1.out; have := HJ10.out; have := HK3.out; omega⟩, ⟨by (with_reducible repeat (first | apply qA | apply qN | apply qD)); exact Kd.Q_mono HO_1.out (fun _ hk => ⟨hk.2, hk.1.1⟩)⟩, ⟨by (with_reducible repeat (first | apply rA | apply rN | apply rD)); exact Kd.R_mono HO372.out (fun _ hk => ⟨hk.1, hk.2.1⟩)⟩, ⟨by (with_reducible repeat (first | apply rA | apply rN | apply rD)); exact Kd.R_mono HO_15.out (fun _ hk => ⟨hk.1.1, hk.2⟩)⟩, ⟨by repeat (first | (with_reducible first | exact HB.out | apply wA | apply wN | apply wD | refine wS ?_ GE357.out | refine wS ?_ GE366.out) | exact HB.out)⟩⟩
               ·rw [if_neg c41] at H
                exact absurd H (by simp)
              ·rw [if_neg c40] at H
               have c40b0 : decide (x358000_3 < ((rd_T64 x1_10 x37_3).f0)) = false := decide_eq_false c40
               clear c40
               by_cases c67 : (((rd_T64 x1_10 x37_3).f1) < ((rd_T64 t350 x17_1).f1))
               ·rw [if_pos c67] at H
                have c67b0 : decide (((rd_T64 x1_10 x37_3).f1) < ((rd_T64 t350 x17_1).f1)) = true := decide_eq_true c67
                clear c67
                have H' := Aside0.mk H
                clear H
                have p365 : 0 ≤ (x37_3 : Int) := of_decide_eq_true (by first | (with_reducible assumption) | assumption)
                have q365 : x37_3 < (x1_10.length : Int) := of_decide_eq_true (by first | (with_reducible assumption) | assumption)
                obtain ⟨ad365, e365, hx365_0, hx365_1⟩ := at_T64 (Kd.Q_reads' HO_35.out).2.2 x37_3 p365 q365
                cases e365
                replace p365 := eq_true p365
                replace q365 := eq_true q365
                go_wp2_with (first | ((with_reducible refine gate_dst (N := 10) rfl ?_); refine box_event ?hg (N := 10) ?hd (cs := #[.int .i64 0, .int .i64 0]) (t := 50) ?hr ?_; (case hd => rfl); (case hg => rfl); (case hr => first | (go_simp; done) | (go_simp; rfl)); intro gb366 hg w68 hbox hb; have n0_ := Aside0.mk (Kd.Q_below (Kd.Q_elderB (by (with_reducible repeat (first | apply qA | apply qN | apply qD)); exact HO_1.out) gb366 (Nat.le_of_eq hg.symm)) hb); have n1_ := Aside0.mk (Kd.R_below (Kd.R_elderB (by (with_reducible repeat (first | apply rA | apply rN | apply rD)); exact HO_5.out) gb366 (Nat.le_of_eq hg.symm)) hb); have n2_ := Aside0.mk (Kd.R_below (Kd.R_elderB (by (with_reducible repeat (first | apply rA | apply rN | apply rD)); exact HO_15.out) gb366 (Nat.le_of_eq hg.symm)) hb); have n3_ := Aside0.mk (Kd.Q_below (Kd.Q_elderB (by (with_reducible repeat (first | apply qA | apply qN | apply qD)); exact HO_35.out) gb366 (Nat.le_of_eq hg.symm)) hb); have n4_ := Aside0.mk (blk_below (g := gb357) (o := .cells #[.int .i64 x358000_3, .int .i64 ((rd_T64 t350 x17_1).f1)] 50 (0, 0)) (by (with_reducible repeat (first | refine bN ?_ _ | refine bD ?_ | refine bA ?_ _)); exact BK357.out) hb); have n5_ := Aside0.mk (below_step (by repeat (first | (with_reducible first | exact HB.out | apply wA | apply wN | apply wD | refine wS ?_ GE357.out) | exact HB.out)) hb); have n6_ := Aside0.mk (hbox); have n7_ := Aside0.mk ((by rw [hg]; exact (below_size (by repeat (first | (with_reducible first | exact HB.out | apply wA | apply wN | apply wD | refine wS ?_ GE357.out) | exact HB.out))) : w.heap.size ≤ gb366)); have n8_ := Aside0.mk ((by rw [hg]; exact (below_size (by repeat (first | (with_reducible first | exact HB.out | apply wA | apply wN | apply wD | refine wS ?_ GE357.out) | exact HB.out))) : w.heap.size ≤ gb366)); have n9_ := Aside0.mk ((by rw [hg]; exact Nat.ne_of_lt (blk_lt (g := gb357) (o := .cells #[.int .i64 x358000_3, .int .i64 ((rd_T64 t350 x17_1).f1)] 50 (0, 0)) (by (with_reducible repeat (first | refine bN ?_ _ | refine bD ?_ | refine bA ?_ _)); exact BK357.out)) : gb357 ≠ gb366)); have n10_ := Aside0.mk ((by rw [hg]; exact Nat.ne_of_gt (blk_lt (g := gb357) (o := .cells #[.int .i64 x358000_3, .int .i64 ((rd_T64 t350 x17_1).f1)] 50 (0, 0)) (by (with_reducible repeat (first | refine bN ?_ _ | refine bD ?_ | refine bA ?_ _)); exact BK357.out)) : gb366 ≠ gb357)); clear HO_1; clear HO_5; clear HO_15; clear HO_35; clear BK357; clear HB; have HO_1 := n0_; have HO_5 := n1_; have HO_15 := n2_; have HO_35 := n3_; have BK357 := n4_; have HB := n5_; have BK366 := n6_; have GW366 := n7_; have GE366 := n8_; have NB357_366 := n9_; have NB366_357 := n10_; clear n0_ n1_ n2_ n3_ n4_ n5_ n6_ n7_ n8_ n9_ n10_; clear hb hbox hg; have hnb69 := NB366_357.out; have hnc69 := NB357_366.out; have hcz70_0 : w68.cell? ⟨gb366, 0, none⟩ = some (.int .i64 0) := (blk_cell BK366.out 0).trans rfl; have hcz70_1 : w68.cell? ⟨gb366, 1, none⟩ = some (.int .i64 0) := (blk_cell BK366.out 1).trans rfl; have hfz70_0 := blk_frozen BK366.out 0; have hfz70_1 := blk_frozen BK366.out 1; have hcz71_0 : w68.cell? ⟨gb357, 0, none⟩ = some (.int .i64 x358000_3) := (blk_cell BK357.out 0).trans rfl; have hcz71_1 : w68.cell? ⟨gb357, 1, none⟩ = some (.int .i64 ((rd_T64 t350 x17_1).f1)) := (blk_cell BK357.out 1).trans rfl; have hfz71_0 := blk_frozen BK357.out 0; have hfz71_1 := blk_frozen BK357.out 1))
                go_roundg k3
                case measure => have := HK1.out; have := HJ10.out; have := HK3.out; omega
                case rel => exact ⟨(x5_3), (decide (((rd_T64 x1_10 x37_3).f1) < ((rd_T64 t350 x17_1).f1))), (wrap64 (x37_3 + 1)), (wrap64 (((rd_T64 x1_10 x37_3).f1) + 1)), (by first | rfl | (simp; done) | (simp [*]; done)), (by first | rfl | (simp; done) | (simp [*]; done)), H', ⟨by have := HK1.out; have := HJ10.out; have := HK3.out; omega⟩, ⟨by (with_reducible repeat (first | apply qA | apply qN | apply qD)); exact Kd.Q_mono (Kd.Q_far (p := ⟨gb357, 0, none⟩) (Kd.Q_far (p := ⟨gb366, 1, none⟩) (Kd.Q_far (p := ⟨gb366, 0, none⟩) (Kd.Q_mono (Kd.Q_mono HO_1.out (fun k_ hk => (⟨hk, hk.2⟩ : _ ∧ k_ ≠ gb366))) (fun k_ hk => (⟨hk, hk.1.1.2.2⟩ : _ ∧ k_ ≠ gb357))) (fun _ hk => hk.1.2) (.int .i64 ((rd_T64 x1_10 x37_3).f0))) (fun _ hk => hk.1.2) (.int .i64 ((rd_T64 x1_10 x37_3).f1))) (fun _ hk => hk.2) (.int .i64 (wrap64 (((rd_T64 x1_10 x37_3).f1) + 1)))) (fun _ hk => ⟨hk.1.1.1.1, ⟨hk.1.1.1.2.1, hk.1.1.1.2.2⟩⟩)⟩, ⟨by (with_reducible repeat (first | apply rA | apply rN | apply rD)); exact Kd.R_mono (Kd.R_far (p := ⟨gb357, 0, none⟩) (Kd.R_far (p := ⟨gb366, 1, none⟩) (Kd.R_far (p := ⟨gb366, 0, none⟩) (Kd.R_mono (Kd.R_mono HO_5.out (fun k_ hk => (⟨hk, hk.2⟩ : _ ∧ k_ ≠ gb366))) (fun k_ hk => (⟨hk, hk.1.1.2.2.2⟩ : _ ∧ k_ ≠ gb357))) (fun _ hk => hk.1.2) (.int .i64 ((rd_T64 x1_10 x37_3).f0))) (fun _ hk => hk.1.2) (.int .i64 ((rd_T64 x1_10 x37_3).f1))) (fun _ hk => hk.2) (.int .i64 (wrap64 (((rd_T64 x1_10 x37_3).f1) + 1)))) (fun _ hk => ⟨hk.1.1.1.1, ⟨hk.1.1.1.2.1, ⟨hk.1.1.1.2.2.1, hk.1.1.1.2.2.2⟩⟩⟩)⟩, ⟨by (with_reducible repeat (first | apply rA | apply rN | apply rD)); exact Kd.R_mono (Kd.R_far (p := ⟨gb357, 0, none⟩) (Kd.R_far (p := ⟨gb366, 1, none⟩) (Kd.R_far (p := ⟨gb366, 0, none⟩) (Kd.R_mono (Kd.R_mono HO_15.out (fun k_ hk => (⟨hk, hk.2⟩ : _ ∧ k_ ≠ gb366))) (fun k_ hk => (⟨hk, hk.1.1.2.2.2⟩ : _ ∧ k_ ≠ gb357))) (fun _ hk => hk.1.2) (.int .i64 ((rd_T64 x1_10 x37_3).f0))) (fun _ hk => hk.1.2) (.int .i64 ((rd_T64 x1_10 x37_3).f1))) (fun _ hk => hk.2) (.int .i64 (wrap64 (((rd_T64 x1_10 x37_3).f1) + 1)))) (fun _ hk => ⟨hk.1.1.1.1, ⟨hk.1.1.1.2.1, ⟨hk.1.1.1.2.2.1, hk.1.1.1.2.2.2⟩⟩⟩)⟩, ⟨by (with_reducible repeat (first | apply qA | apply qN | apply qD)); exact Kd.Q_mono (Kd.Q_far (p := ⟨gb357, 0, none⟩) (Kd.Q_far (p := ⟨gb366, 1, none⟩) (Kd.Q_far (p := ⟨gb366, 0, none⟩) (Kd.Q_mono (Kd.Q_mono HO_35.out (fun k_ hk => (⟨hk, hk.2⟩ : _ ∧ k_ ≠ gb366))) (fun k_ hk => (⟨hk, hk.1.1.2.2⟩ : _ ∧ k_ ≠ gb357))) (fun _ hk => hk.1.2) (.int .i64 ((rd_T64 x1_10 x37_3).f0))) (fun _ hk => hk.1.2) (.int .i64 ((rd_T64 x1_10 x37_3).f1))) (fun _ hk => hk.2) (.int .i64 (wrap64 (((rd_T64 x1_10 x37_3).f1) + 1)))) (fun _ hk => ⟨hk.1.1.1.1, ⟨hk.1.1.1.2.1, hk.1.1.1.2.2⟩⟩)⟩, ⟨by (with_reducible repeat (first | refine bN ?_ _ | refine bD ?_ | refine bA ?_ _)); refine blk_put (cs := #[.int .i64 x358000_3, .int .i64 ((rd_T64 t350 x17_1).f1)]) ?_ 0 _ rfl; (with_reducible repeat (first | refine bN ?_ _ | refine bD ?_ | refine bA ?_ _)); refine blk_far ?_ NB357_366.out _; (with_reducible repeat (first | refine bN ?_ _ | refine bD ?_ | refine bA ?_ _)); refine blk_far ?_ NB357_366.out _; (with_reducible repeat (first | refine bN ?_ _ | refine bD ?_ | refine bA ?_ _)); exact BK357.out⟩, ⟨by repeat (first | (with_reducible first | exact HB.out | apply wA | apply wN | apply wD | refine wS ?_ GE357.out | refine wS ?_ GE366.out) | exact HB.out)⟩⟩
               ·rw [if_neg c67] at H
                have c67b0 : decide (((rd_T64 x1_10 x37_3).f1) < ((rd_T64 t350 x17_1).f1)) = false := decide_eq_false c67
                clear c67
                by_cases c72 : ((rd_T64 x1_10 x37_3).f1) < ((rd_T64 t350 x17_1).f1)
                ·exact absurd c72 (of_decide_eq_false c67b0)
                ·rw [if_neg c72] at H
                 have c72b0 : decide (((rd_T64 x1_10 x37_3).f1) < ((rd_T64 t350 x17_1).f1)) = false := decide_eq_false c72
                 clear c72
                 have H' := Aside0.mk H
                 clear H
                 have p365 : 0 ≤ (x37_3 : Int) := of_decide_eq_true (by first | (with_reducible assumption) | assumption)
                 have q365 : x37_3 < (x1_10.length : Int) := of_decide_eq_true (by first | (with_reducible assumption) | assumption)
                 obtain ⟨ad365, e365, hx365_0, hx365_1⟩ := at_T64 (Kd.Q_reads' HO_35.out).2.2 x37_3 p365 q365
                 cases e365
                 replace p365 := eq_true p365
                 replace q365 := eq_true q365
                 go_wp2_with (first | ((with_reducible refine gate_dst (N := 10) rfl ?_); refine box_event ?hg (N := 10) ?hd (cs := #[.int .i64 0, .int .i64 0]) (t := 50) ?hr ?_; (case hd => rfl); (case hg => rfl); (case hr => first | (go_simp; done) | (go_simp; rfl)); intro gb366 hg w79 hbox hb; have n0_ := Aside0.mk (Kd.Q_below (Kd.Q_elderB (by (with_reducible repeat (first | apply qA | apply qN | apply qD)); exact HO_1.out) gb366 (Nat.le_of_eq hg.symm)) hb); have n1_ := Aside0.mk (Kd.R_below (Kd.R_elderB (by (with_reducible repeat (first | apply rA | apply rN | apply rD)); exact HO_5.out) gb366 (Nat.le_of_eq hg.symm)) hb); have n2_ := Aside0.mk (Kd.R_below (Kd.R_elderB (by (with_reducible repeat (first | apply rA | apply rN | apply rD)); exact HO_15.out) gb366 (Nat.le_of_eq hg.symm)) hb); have n3_ := Aside0.mk (Kd.Q_below (Kd.Q_elderB (by (with_reducible repeat (first | apply qA | apply qN | apply qD)); exact HO_35.out) gb366 (Nat.le_of_eq hg.symm)) hb); have n4_ := Aside0.mk (blk_below (g := gb357) (o := .cells #[.int .i64 x358000_3, .int .i64 ((rd_T64 t350 x17_1).f1)] 50 (0, 0)) (by (with_reducible repeat (first | refine bN ?_ _ | refine bD ?_ | refine bA ?_ _)); exact BK357.out) hb); have n5_ := Aside0.mk (below_step (by repeat (first | (with_reducible first | exact HB.out | apply wA | apply wN | apply wD | refine wS ?_ GE357.out) | exact HB.out)) hb); have n6_ := Aside0.mk (hbox); have n7_ := Aside0.mk ((by rw [hg]; exact (below_size (by repeat (first | (with_reducible first | exact HB.out | apply wA | apply wN | apply wD | refine wS ?_ GE357.out) | exact HB.out))) : w.heap.size ≤ gb366)); have n8_ := Aside0.mk ((by rw [hg]; exact (below_size (by repeat (first | (with_reducible first | exact HB.out | apply wA | apply wN | apply wD | refine wS ?_ GE357.out) | exact HB.out))) : w.heap.size ≤ gb366)); have n9_ := Aside0.mk ((by rw [hg]; exact Nat.ne_of_lt (blk_lt (g := gb357) (o := .cells #[.int .i64 x358000_3, .int .i64 ((rd_T64 t350 x17_1).f1)] 50 (0, 0)) (by (with_reducible repeat (first | refine bN ?_ _ | refine bD ?_ | refine bA ?_ _)); exact BK357.out)) : gb357 ≠ gb366)); have n10_ := Aside0.mk ((by rw [hg]; exact Nat.ne_of_gt (blk_lt (g := gb357) (o := .cells #[.int .i64 x358000_3, .int .i64 ((rd_T64 t350 x17_1).f1)] 50 (0, 0)) (by (with_reducible repeat (first | refine bN ?_ _ | refine bD ?_ | refine bA ?_ _)); exact BK357.out)) : gb366 ≠ gb357)); clear HO_1; clear HO_5; clear HO_15; clear HO_35; clear BK357; clear HB; have HO_1 := n0_; have HO_5 := n1_; have HO_15 := n2_; have HO_35 := n3_; have BK357 := n4_; have HB := n5_; have BK366 := n6_; have GW366 := n7_; have GE366 := n8_; have NB357_366 := n9_; have NB366_357 := n10_; clear n0_ n1_ n2_ n3_ n4_ n5_ n6_ n7_ n8_ n9_ n10_; clear hb hbox hg; have hnb80 := NB366_357.out; have hnc80 := NB357_366.out; have hcz81_0 : w79.cell? ⟨gb366, 0, none⟩ = some (.int .i64 0) := (blk_cell BK366.out 0).trans rfl; have hcz81_1 : w79.cell? ⟨gb366, 1, none⟩ = some (.int .i64 0) := (blk_cell BK366.out 1).trans rfl; have hfz81_0 := blk_frozen BK366.out 0; have hfz81_1 := blk_frozen BK366.out 1; have hcz82_0 : w79.cell? ⟨gb357, 0, none⟩ = some (.int .i64 x358000_3) := (blk_cell BK357.out 0).trans rfl; have hcz82_1 : w79.cell? ⟨gb357, 1, none⟩ = some (.int .i64 ((rd_T64 t350 x17_1).f1)) := (blk_cell BK357.out 1).trans rfl; have hfz82_0 := blk_frozen BK357.out 0; have hfz82_1 := blk_frozen BK357.out 1))
                 go_roundg k3
                 case measure => have := HK1.out; have := HJ10.out; have := HK3.out; omega
                 case rel => exact ⟨(x1_10), (x5_3), (wrap64 (x17_1 + 1)), (by first | rfl | (simp; done) | (simp [*]; done)), H', ⟨by have := HK1.out; have := HJ10.out; have := HK3.out; omega⟩, ⟨by (with_reducible repeat (first | apply qA | apply qN | apply qD)); exact Kd.Q_mono (Kd.Q_far (p := ⟨gb366, 1, none⟩) (Kd.Q_far (p := ⟨gb366, 0, none⟩) (Kd.Q_mono HO_1.out (fun k_ hk => (⟨hk, hk.2⟩ : _ ∧ k_ ≠ gb366))) (fun _ hk => hk.2) (.int .i64 ((rd_T64 x1_10 x37_3).f0))) (fun _ hk => hk.2) (.int .i64 ((rd_T64 x1_10 x37_3).f1))) (fun _ hk => ⟨hk.1.1.1, hk.1.1.2.1⟩)⟩, ⟨by (with_reducible repeat (first | apply rA | apply rN | apply rD)); exact Kd.R_mono (Kd.R_far (p := ⟨gb366, 1, none⟩) (Kd.R_far (p := ⟨gb366, 0, none⟩) (Kd.R_mono HO_5.out (fun k_ hk => (⟨hk, hk.2⟩ : _ ∧ k_ ≠ gb366))) (fun _ hk => hk.2) (.int .i64 ((rd_T64 x1_10 x37_3).f0))) (fun _ hk => hk.2) (.int .i64 ((rd_T64 x1_10 x37_3).f1))) (fun _ hk => ⟨hk.1.1.1, hk.1.1.2.1⟩)⟩, ⟨by (with_reducible repeat (first | apply rA | apply rN | apply rD)); exact Kd.R_mono (Kd.R_far (p := ⟨gb366, 1, none⟩) (Kd.R_far (p := ⟨gb366, 0, none⟩) (Kd.R_mono HO_15.out (fun k_ hk => (⟨hk, hk.2⟩ : _ ∧ k_ ≠ gb366))) (fun _ hk => hk.2) (.int .i64 ((rd_T64 x1_10 x37_3).f0))) (fun _ hk => hk.2) (.int .i64 ((rd_T64 x1_10 x37_3).f1))) (fun _ hk => ⟨hk.1.1.1, hk.1.1.2.1⟩)⟩, ⟨by repeat (first | (with_reducible first | exact HB.out | apply wA | apply wN | apply wD | refine wS ?_ GE357.out | refine wS ?_ GE366.out) | exact HB.out)⟩⟩
            ·exact absurd (of_decide_eq_true c25b0) c27
           ·rw [if_neg c26] at H
            exact absurd H (by simp)
          ·rw [if_neg c25] at H
           have c25b0 : decide (x37_3 < (x1_10.length : Int)) = false := decide_eq_false c25
           clear c25
           by_cases c83 : x8_3 = true
           ·subst c83
            have H1 : (if x5_3.length < 8796093022208 then (classes_Less.l0 k3 x1_10 (x5_3 ++ [(⟨x358000_3, ((rd_T64 t350 x17_1).f1)⟩ : S64)]) t350 (t350.length : Int) (wrap64 (x17_1 + 1))) else (none)) = some r := by rw [if_pos rfl] at H; exact H
            clear H
            have H := H1
            clear H1
            by_cases c84 : x5_3.length < 8796093022208
            ·rw [if_pos c84] at H
             have LMc84 := Aside0.mk c84
             clear c84
             obtain ⟨y362, hy362⟩ : ∃ y_ : List (S64), y_ = (x5_3 ++ [(⟨x358000_3, ((rd_T64 t350 x17_1).f1)⟩ : S64)]) := ⟨_, rfl⟩
             replace H : (classes_Less.l0 k3 x1_10 y362 t350 (t350.length : Int) (wrap64 (x17_1 + 1))) = some r := by first | (rw [hy362]; with_reducible exact H) | (have H2_ := (Option.bind_some _ _).symm.trans H; rw [hy362]; with_reducible exact H2_) | (have H2_ := (Option.bind_some _ _).symm.trans H; with_reducible exact H2_) | with_reducible exact H | (rw [hy362]; exact H) | exact H
             have Ny362 := Aside0.mk hy362
             clear hy362
             have H' := Aside0.mk H
             clear H
             have hcz85_0 : wr.cell? ⟨gb357, 0, none⟩ = some (.int .i64 x358000_3) := (blk_cell BK357.out 0).trans rfl
             have hcz85_1 : wr.cell? ⟨gb357, 1, none⟩ = some (.int .i64 ((rd_T64 t350 x17_1).f1)) := (blk_cell BK357.out 1).trans rfl
             have hfz85_0 := blk_frozen BK357.out 0
             have hfz85_1 := blk_frozen BK357.out 1
             go_wp2_with (first | ((with_reducible refine gate_builtin (b := .append) (xs := #[.tmp 73, .tmp 75]) rfl ?_); at_builtin; refine Kd.R_append k64 (w0 := w) w.heap.size rfl (.tmp 73) (.tmp 75) 25 50 (.agg #[(.int .i64 0), (.int .i64 0)]) 16 rfl Tryd.underlying25 info64 rfl (by decide) (by omega) u5 x5_3 (⟨x358000_3, ((rd_T64 t350 x17_1).f1)⟩ : S64) [.int .i64 x358000_3, .int .i64 ((rd_T64 t350 x17_1).f1)] (fun k_ => some k_ ≠ (.slice Ao24 x1_10.length co24 : Value).ownBlock ∧ some k_ ≠ (.slice (some ad356) t350.length co7 : Value).ownBlock ∧ some k_ ≠ (.slice Ao24 x1_10.length co24 : Value).ownBlock ∧ k_ ≠ gb357) (fun _ => False) rfl rfl ?aP (fun _ hk => hk.elim) ?aF ?aO ?aB ?aS ?aL ?_; (case aP => exact k64_mkM _ _ _ (⟨x358000_3, ((rd_T64 t350 x17_1).f1)⟩ : S64)); (case aB => exact (by repeat (first | (with_reducible first | exact HB.out | apply wA | apply wN | apply wD | refine wS ?_ GE357.out) | exact HB.out))); (case aF => exact (fun k_ hk => ⟨Kd.fresh' (Kd.Q_lt (by (with_reducible repeat (first | apply qA | apply qN | apply qD)); exact HO_1.out)) k_ hk, Kd.fresh' (rL (by (with_reducible repeat (first | apply rA | apply rN | apply rD)); exact HO_15.out)) k_ hk, Kd.fresh' (Kd.Q_lt (by (with_reducible repeat (first | apply qA | apply qN | apply qD)); exact HO_35.out)) k_ hk, Kd.freshB (g := gb357) (o := .cells #[.int .i64 x358000_3, .int .i64 ((rd_T64 t350 x17_1).f1)] 50 (0, 0)) (by (with_reducible repeat (first | refine bN ?_ _ | refine bD ?_ | refine bA ?_ _)); exact BK357.out) k_ hk⟩)); (case aO => exact (by (with_reducible repeat (first | apply rA | apply rN | apply rD)); exact HO_5.out)); (case aS => exact (below_size (by repeat (first | (with_reducible first | exact HB.out | apply wA | apply wN | apply wD | refine wS ?_ GE357.out) | exact HB.out)))); (case aL => have := LMc84.out; omega); intro v363 w86 ho hb hg hat; rw [← Ny362.out] at ho; have n0_ := Aside0.mk (Kd.Q_after (ok := (fun k_ => some k_ ≠ (.slice (some ad356) t350.length co7 : Value).ownBlock ∧ k_ ≠ gb357)) (by (with_reducible repeat (first | apply qA | apply qN | apply qD)); exact Kd.Q_mono HO_1.out (fun _ hk => ⟨⟨hk.2.1, hk.2.2⟩, hk.1⟩)) hg hat); have n1_ := Aside0.mk (Kd.R_after (ok := (fun k_ => some k_ ≠ (.slice Ao24 x1_10.length co24 : Value).ownBlock ∧ some k_ ≠ (.slice Ao24 x1_10.length co24 : Value).ownBlock ∧ k_ ≠ gb357)) (by (with_reducible repeat (first | apply rA | apply rN | apply rD)); exact Kd.R_mono HO_15.out (fun _ hk => ⟨⟨hk.1, ⟨hk.2.2.1, hk.2.2.2⟩⟩, hk.2.1⟩)) hg hat); have n2_ := Aside0.mk (Kd.Q_after (ok := (fun k_ => some k_ ≠ (.slice (some ad356) t350.length co7 : Value).ownBlock ∧ k_ ≠ gb357)) (by (with_reducible repeat (first | apply qA | apply qN | apply qD)); exact Kd.Q_mono HO_35.out (fun _ hk => ⟨⟨hk.2.1, hk.2.2⟩, hk.1⟩)) hg hat); have n3_ := Aside0.mk (blk_grown (g := gb357) (o := .cells #[.int .i64 x358000_3, .int .i64 ((rd_T64 t350 x17_1).f1)] 50 (0, 0)) (by (with_reducible repeat (first | refine bN ?_ _ | refine bD ?_ | refine bA ?_ _)); exact BK357.out) hg (Kd.R_away HO_5.out (fun _ hk => hk.2.2.2))); have n4_ := Aside0.mk (hb); have n5_ := Aside0.mk (ho); clear HO_1; clear HO_15; clear HO_35; clear BK357; clear HB; clear HO_5; have HO_1 := n0_; have HO_15 := n1_; have HO_35 := n2_; have BK357 := n3_; have HB := n4_; have HO364 := n5_; clear n0_ n1_ n2_ n3_ n4_ n5_; clear ho hb hg hat))
             go_roundg k3
             case measure => have := HK1.out; have := HJ10.out; have := HK3.out; omega
             case rel => exact ⟨(x1_10), (y362), (wrap64 (x17_1 + 1)), (by first | rfl | (simp; done) | (simp [*]; done)), H', ⟨by have := HK1.out; have := HJ10.out; have := HK3.out; omega⟩, ⟨by (with_reducible repeat (first | apply qA | apply qN | apply qD)); exact Kd.Q_mono HO_1.out (fun _ hk => ⟨hk.2, hk.1.1⟩)⟩, ⟨by (with_reducible repeat (first | apply rA | apply rN | apply rD)); exact Kd.R_mono HO364.out (fun _ hk => ⟨hk.1, hk.2.1⟩)⟩, ⟨by (with_reducible repeat (first | apply rA | apply rN | apply rD)); exact Kd.R_mono HO_15.out (fun _ hk => ⟨hk.1.1, hk.2⟩)⟩, ⟨by repeat (first | (with_reducible first | exact HB.out | apply wA | apply wN | apply wD | refine wS ?_ GE357.out) | exact HB.out)⟩⟩
            ·rw [if_neg c84] at H
             exact absurd H (by simp)
           ·replace c83 := Bool.eq_false_iff.mpr c83
            subst c83
            have H1 : (classes_Less.l0 k3 x1_10 x5_3 t350 (t350.length : Int) (wrap64 (x17_1 + 1))) = some r := by rw [if_neg (show ¬ (false = true) by decide)] at H; exact H
            clear H
            have H := H1
            clear H1
            have H' := Aside0.mk H
            clear H
            go_wp2
            repeat (go_quiet (fail); try go_wp2)
            go_roundg k3
            case measure => have := HK1.out; have := HJ10.out; have := HK3.out; omega
            case rel => exact ⟨(x1_10), (x5_3), (wrap64 (x17_1 + 1)), (by first | rfl | (simp; done) | (simp [*]; done)), H', ⟨by have := HK1.out; have := HJ10.out; have := HK3.out; omega⟩, ⟨by (with_reducible repeat (first | apply qA | apply qN | apply qD)); exact Kd.Q_mono HO_1.out (fun _ hk => ⟨hk.1, hk.2.1⟩)⟩, ⟨by (with_reducible repeat (first | apply rA | apply rN | apply rD)); exact Kd.R_mono HO_5.out (fun _ hk => ⟨hk.1, hk.2.1⟩)⟩, ⟨by (with_reducible repeat (first | apply rA | apply rN | apply rD)); exact Kd.R_mono HO_15.out (fun _ hk => ⟨hk.1, hk.2.1⟩)⟩, ⟨by repeat (first | (with_reducible first | exact HB.out | apply wA | apply wN | apply wD | refine wS ?_ GE357.out) | exact HB.out)⟩⟩
     ·exact absurd (of_decide_eq_true c8b0) c10
    ·rw [if_neg c9] at H
     exact absurd H (by simp)
   ·rw [if_neg c8] at H
    have c8b0 : decide (x17_1 < (t350.length : Int)) = false := decide_eq_false c8
    clear c8
    obtain rfl := Option.some.inj H
    go_wp2
    repeat (go_quiet (fail); try go_wp2)
    go_ret
    exact ⟨_, by first | rfl | (simp [errW_none, errW_some] <;> rfl) | (simp [*, errW_none, errW_some] <;> rfl), by (with_reducible repeat (first | apply rA | apply rN | apply rD)); exact Kd.R_mono HO_5.out (fun _ hk => trivial), by repeat (first | (with_reducible first | exact HB.out | apply wA | apply wN | apply wD) | exact HB.out)⟩
end Go.Proofs.YtamhkdlcoghdbaaDoor.PCls
