/- Put together (wip/tools/pack.py): QZPClsx5, QZPClsx1, QZPClsx18. -/
import Derived.Test.YtamhkdlcoghdbaaGreatDoorKQZPClsx4
/- Out of ZPClsx5 (wip/tools/prune2.py): the declarations alone that the texts of the trees name. -/
namespace Go.Proofs.YtamhkdlcoghdbaaGreatDoor.PCls
open Go.RowKit Go.Proofs.YtamhkdlcoghdbaaGreatDoorW.PrintWords Go.Proofs.YtamhkdlcoghdbaaGreatDoorW.PrintLast Go.Proofs.YtamhkdlcoghdbaaGreatDoorW.PrintMore
attribute [local go_sem] max2_int min2_int max_two min_two max_three min_three max_four min_four   -- for this text's walks alone
set_option linter.unusedVariables false
set_option linter.unusedSimpArgs false
def classes_moved.l0 : Nat → Int → List (S64) → Int → Int → Option ((List (S64)))
 | 0, _, _, _, _ => none
 | k + 1, x3, x9, x18, x19 => if x19 < x18 then (if 0 ≤ x19 then (if x19 < (x9.length : Int) then ((some (x9.set (x19 : Int).toNat (⟨wrap64 (((rd_T64 x9 x19).f0) + x3), (rd_T64 x9 x19).f1⟩ : S64) : List (S64))).bind fun y161 => (classes_moved.l0 k x3 (y161.set (x19 : Int).toNat (⟨(rd_T64 y161 x19).f0, wrap64 (((rd_T64 y161 x19).f1) + x3)⟩ : S64)) x18 (wrap64 (x19 + 1)))) else (none)) else (none)) else (some x9)
def classes_moved.f (k : Nat) (l0 : List (S64)) (a1 : Int) (a2 : Int) (a3 : Int) : Option ((List (S64))) := (classes_And.f k l0 (([(⟨a1, a2⟩ : S64)] : List (S64)))).bind fun t157 => (classes_moved.l0 k a3 t157 (t157.length : Int) 0)
set_option maxHeartbeats 8000000 in
set_option maxRecDepth 100000 in
theorem classes_moved.calls (k : Nat) (A0 : Option Addr) (c0 : Nat) (l0 : List (S64)) (a1 : Int) (a2 : Int) (a3 : Int) (r : List (S64)) (w : World) (hr0 : Kd.C k64 w A0 l0.length l0) (hc0 : l0.length ≤ c0) (h : classes_moved.f k l0 a1 a2 a3 = some r) :
  Calls Tryz.prog 120 #[.slice A0 l0.length c0, .int .i64 a1, .int .i64 a2, .int .i64 a3] w fun e w' => ∃ v0_ : Value, e = .returned (v0_) ∧ Kd.R k64 39 w' w.heap.size (fun _ => True) v0_ r ∧ Below w.heap.size w w' := by
 have hu64 := Tryz.underlying39
 have HR0 := Aside0.mk hr0
 have HC0 := Aside0.mk hc0
 clear hr0 hc0
 have HB := Aside0.mk (Below.refl w.heap.size w)
 have H : ((classes_And.f k l0 (([(⟨a1, a2⟩ : S64)] : List (S64)))).bind fun t157 => (classes_moved.l0 k a3 t157 (t157.length : Int) 0)) = some r := h
 clear h
 obtain ⟨y154, hy154⟩ : ∃ y_ : List (S64), y_ = (([(⟨a1, a2⟩ : S64)] : List (S64))) := ⟨_, rfl⟩
 replace H : ((classes_And.f k l0 y154).bind fun t157 => (classes_moved.l0 k a3 t157 (t157.length : Int) 0)) = some r := by first | (rw [hy154]; with_reducible exact H) | (have H2_ := (Option.bind_some _ _).symm.trans H; rw [hy154]; with_reducible exact H2_) | (have H2_ := (Option.bind_some _ _).symm.trans H; with_reducible exact H2_) | with_reducible exact H | (rw [hy154]; exact H) | exact H
 have Ny154 := Aside0.mk hy154
 clear hy154
 replace H := Option.bind_eq_some_iff.mp H
 obtain ⟨t157, A50, H⟩ := H
 replace H : (classes_moved.l0 k a3 t157 (t157.length : Int) 0) = some r := H
 have A5 := Aside0.mk A50
 clear A50
 have H' := Aside0.mk H
 clear H
 go_enter Tryz.func120, Tryz.ntmps120
 go_wp2_with (first | ((with_reducible refine gate_dst (N := 15) rfl ?_); refine Kd.R_lit k64 _ 39 ?hg (N := 15) ?hd (xs := ([(⟨a1, a2⟩ : S64)] : List (S64))) (inner := [.int .i64 a1, .int .i64 a2]) (ok := fun _ => True) (okp := fun _ => True) ?hr ?hp (fun _ hk => hk) trivial (Below.refl _ _) (Nat.le_refl _) (by simp) ?_; (case hd => rfl); (case hg => rfl); (case hr => first | (go_simp; done) | (go_simp; rfl)); (case hp => exact (Reps.c2 (show Kd.M k64 _ _ _ (⟨a1, a2⟩ : S64) [.int .i64 a1, .int .i64 a2] from (k64_mkM _ _ _ (⟨a1, a2⟩ : S64) )) (Reps.none _ _))); intro v155 w6 ho7 hb hg_ hnew_; clear hg_ hnew_; (first | rw [← Ny154.out] at ho7 | (simp only [Int.reduceToNat] at ho7; rw [← Ny154.out] at ho7)); have n0_ := Aside0.mk (Kd.R_lower ho7 (below_size (by repeat (first | (with_reducible first | exact HB.out | apply wA | apply wN | apply wD) | exact HB.out)))); have n1_ := Aside0.mk (below_step (by repeat (first | (with_reducible first | exact HB.out | apply wA | apply wN | apply wD) | exact HB.out)) hb); clear HB; have HO156 := n0_; have HB := n1_; clear n0_ n1_; clear hb ho7; obtain ⟨Ao8, co8, eo8⟩ := Kd.R_slice HO156.out; subst eo8) | ((with_reducible refine gate_callee (f := 161) rfl ?_); refine goesL_ (some 16) rfl rfl Tryz.func161 (by kernel_rfl) rfl #[.slice A0 l0.length c0, .slice Ao8 y154.length co8] rfl (by (try simp only [List.map_toArray, List.map_cons, List.map_nil]); first | done | rfl | (simp only [List.length_drop, List.length_take]; rfl)) ?_; (with_reducible refine (classes_And.calls k _ _ l0 _ _ y154 t157 _ ?side1 ?side2 ?side3 ?side4 A5.out).mono ?_); (case side1 => repeat (first | exact (Kd.C_below HR0.out HB.out) | (with_reducible refine cA ?_ _) | (with_reducible refine cN ?_ _) | (with_reducible refine cD ?_))); (case side2 => exact HC0.out); (case side3 => repeat (first | exact (rR HO156.out).2.2 | (with_reducible refine cA ?_ _) | (with_reducible refine cN ?_ _) | (with_reducible refine cD ?_))); (case side4 => exact (rR HO156.out).2.1); rintro e w9 ⟨v158, rfl, ho0, hb⟩; refine ⟨_, rfl, ?_⟩; have n0_ := Aside0.mk (rE (by (with_reducible repeat (first | apply rA | apply rN | apply rD)); exact HO156.out) (rB ho0) hb); have n1_ := Aside0.mk (Kd.R_lower (rW ho0 (rL (by (with_reducible repeat (first | apply rA | apply rN | apply rD)); exact HO156.out))) (below_size (by repeat (first | (with_reducible first | exact HB.out | apply wA | apply wN | apply wD) | exact HB.out)))); have n2_ := Aside0.mk (below_step (by repeat (first | (with_reducible first | exact HB.out | apply wA | apply wN | apply wD) | exact HB.out)) hb); clear HO156; clear HB; have HO156 := n0_; have HO159 := n1_; have HB := n2_; clear n0_ n1_ n2_; (try clear hb); (try clear hb2); (try clear hk); (try clear hi); (try clear ho0); obtain ⟨Ao10, co10, eo10⟩ := Kd.R_slice HO159.out; subst eo10))
 go_loopg [19] k (fun kq v19 w' => ∃ (x9_1 : List (S64)) (x19_1 : Int), v19 = .int .i64 x19_1 ∧ Aside0 (classes_moved.l0 kq a3 x9_1 (t157.length : Int) x19_1 = some r) ∧ Aside0 (kq ≤ k) ∧ Aside0 (Kd.R k64 39 w' w.heap.size (fun _ => True) (.slice Ao10 t157.length co10) x9_1) ∧ Aside0 (Below w.heap.size w w'))
 case atStart => exact ⟨(t157), (0), (by first | rfl | (simp; done) | (simp [*]; done)), H', ⟨Nat.le_refl _⟩, ⟨by (with_reducible repeat (first | apply rA | apply rN | apply rD)); exact Kd.R_mono HO159.out (fun _ hk => trivial)⟩, ⟨by repeat (first | (with_reducible first | exact HB.out | apply wA | apply wN | apply wD) | exact HB.out)⟩⟩
 case round =>
  clear H'
  try clear c2
  try clear p2
  try clear c3
  try clear c7
  obtain ⟨x9_1, x19_1, rfl, HA, HK1, HO_9, HB⟩ := hrel
  have hl9_1 := (rR HO_9.out).1
  rw [hl9_1] at HO_9
  (try simp only [hl9_1])
  cases gk with
  | zero => exact absurd HA.out (by simp [classes_moved.l0])
  | succ k1 =>
   have H := HA.out
   clear HA
   simp only [classes_moved.l0] at H
   by_cases c11 : x19_1 < (t157.length : Int)
   ·rw [if_pos c11] at H
    have c11b0 : decide (x19_1 < (t157.length : Int)) = true := decide_eq_true c11
    have c11z0 := c11b0
    (try simp only [hl9_1] at c11z0)
    clear c11
    by_cases c12 : 0 ≤ x19_1
    ·rw [if_pos c12] at H
     have c12b0 : decide (0 ≤ x19_1) = true := decide_eq_true c12
     clear c12
     by_cases c13 : x19_1 < (x9_1.length : Int)
     ·rw [if_pos c13] at H
      have c13b0 : decide (x19_1 < (x9_1.length : Int)) = true := decide_eq_true c13
      have c13z0 := c13b0
      (try simp only [hl9_1] at c13z0)
      clear c13
      obtain ⟨y161, hy161⟩ : ∃ y_ : List (S64), y_ = (x9_1.set (x19_1 : Int).toNat (⟨wrap64 (((rd_T64 x9_1 x19_1).f0) + a3), (rd_T64 x9_1 x19_1).f1⟩ : S64)) := ⟨_, rfl⟩
      replace H : (classes_moved.l0 k1 a3 (y161.set (x19_1 : Int).toNat (⟨(rd_T64 y161 x19_1).f0, wrap64 (((rd_T64 y161 x19_1).f1) + a3)⟩ : S64)) (t157.length : Int) (wrap64 (x19_1 + 1))) = some r := by first | (rw [hy161]; with_reducible exact H) | (have H2_ := (Option.bind_some _ _).symm.trans H; rw [hy161]; with_reducible exact H2_) | (have H2_ := (Option.bind_some _ _).symm.trans H; with_reducible exact H2_) | with_reducible exact H | (rw [hy161]; exact H) | exact H
      have Ny161 := Aside0.mk hy161
      clear hy161
      obtain ⟨y163, hy163⟩ : ∃ y_ : List (S64), y_ = (y161.set (x19_1 : Int).toNat (⟨(rd_T64 y161 x19_1).f0, wrap64 (((rd_T64 y161 x19_1).f1) + a3)⟩ : S64)) := ⟨_, rfl⟩
      replace H : (classes_moved.l0 k1 a3 y163 (t157.length : Int) (wrap64 (x19_1 + 1))) = some r := by first | (rw [hy163]; with_reducible exact H) | (have H2_ := (Option.bind_some _ _).symm.trans H; rw [hy163]; with_reducible exact H2_) | (have H2_ := (Option.bind_some _ _).symm.trans H; with_reducible exact H2_) | with_reducible exact H | (rw [hy163]; exact H) | exact H
      have Ny163 := Aside0.mk hy163
      clear hy163
      have H' := Aside0.mk H
      clear H
      have p160 : 0 ≤ (x19_1 : Int) := of_decide_eq_true (by first | (with_reducible assumption) | assumption)
      have q160 : x19_1 < (x9_1.length : Int) := of_decide_eq_true (by first | (with_reducible assumption) | assumption)
      obtain ⟨ad160, e160, hx160_0, hx160_1⟩ := at_T64 (rR HO_9.out).2.2 x19_1 p160 q160
      cases e160
      replace p160 := eq_true p160
      replace q160 := eq_true q160
      have p14 : 0 ≤ (x19_1 : Int) := of_decide_eq_true (by first | (with_reducible assumption) | assumption)
      have q14 : (x19_1 : Int) < ((x9_1.length : Int) : Int) := of_decide_eq_true (by first | (with_reducible assumption) | assumption)
      obtain ⟨go14, co14, eo14, gb14, gl14, cl14, HG14⟩ := Kd.R_form HO_9.out (by omega)
      (first | cases eo14 | (injection eo14 with ea_ en_ ec_; (first | subst ea_ | (injection ea_ with ea_; subst ea_)); subst ec_; clear en_))
      have GB14 := Aside0.mk gb14
      have GG14 := Aside0.mk HG14
      clear gb14 gl14 HG14
      (first | simp only [add_plain] at hx160_0 | skip)
      (first | simp only [add_plain] at hx160_1 | skip)
      obtain ⟨ce14, hcl14, hM14, hcc14, hfr14⟩ := Kd.R_elem HO_9.out z64 (x19_1 : Int) p14 q14
      obtain rfl := k64_openM hM14
      have hx14_0 : wr.cell? ⟨go14, (x19_1 : Int).toNat * 2, none⟩ = some (.int .i64 ((rd_T64 x9_1 x19_1).f0)) := hcc14 0 _ rfl
      have hx14_1 : wr.cell? ⟨go14, (x19_1 : Int).toNat * 2 + 1, none⟩ = some (.int .i64 ((rd_T64 x9_1 x19_1).f1)) := hcc14 1 _ rfl
      have hf14_0 : wr.frozen? ⟨go14, (x19_1 : Int).toNat * 2, none⟩ = false := hfr14 0
      have hf14_1 : wr.frozen? ⟨go14, (x19_1 : Int).toNat * 2 + 1, none⟩ = false := hfr14 1
      clear hcl14 hcc14 hfr14 hM14
      replace p14 := eq_true p14
      replace q14 := eq_true q14
      have HX16 := Aside0.mk (show Kd.R k64 39 wr w.heap.size (fun _ => True) (.slice (some ⟨go14, 0, none⟩) x9_1.length co10) x9_1 from (by (with_reducible repeat (first | apply rA | apply rN | apply rD)); exact HO_9.out))
      obtain ⟨ce16, hcl16, hM16, hcc16, hfr16⟩ := Kd.R_elem HX16.out z64 (x19_1 : Int) (of_decide_eq_true (by first | (with_reducible assumption) | assumption)) (by have h_ : (x19_1 : Int) < ((x9_1.length : Int) : Int) := of_decide_eq_true (by first | (with_reducible assumption) | assumption); first | exact h_ | (have e_ := (rR HO_9.out).1; omega) | simpa using h_)
      obtain rfl := k64_openM hM16
      have HP16 := Kd.R_seg HX16.out (x19_1 : Int) (of_decide_eq_true (by first | (with_reducible assumption) | assumption)) (by have h_ : (x19_1 : Int) < ((x9_1.length : Int) : Int) := of_decide_eq_true (by first | (with_reducible assumption) | assumption); first | exact h_ | (have e_ := (rR HO_9.out).1; omega) | simpa using h_) (seg := [.int .i64 (wrap64 (((rd_T64 x9_1 x19_1).f0) + a3))]) (j := 0) hcl16 hcc16 (show 1 ≤ 2 from by decide) (x' := (⟨wrap64 (((rd_T64 x9_1 x19_1).f0) + a3), (rd_T64 x9_1 x19_1).f1⟩ : S64)) (k64_mkM _ _ _ (⟨wrap64 (((rd_T64 x9_1 x19_1).f0) + a3), (rd_T64 x9_1 x19_1).f1⟩ : S64) ) (fun _ hk => hk)
      have hx16_0 := hcc16 0 _ rfl
      (try simp only [show (k64).sz = 2 from rfl, Nat.mul_one, Nat.add_zero] at hx16_0)
      have hf16_0 := hfr16 0
      (try simp only [show (k64).sz = 2 from rfl, Nat.mul_one, Nat.add_zero] at hf16_0)
      clear hcl16 hcc16 hfr16 hM16
      go_wp2_with (first | ((with_reducible refine gate_store (t := 3) (p := 30) rfl ?_); refine store_event (t := 3) (p := 30) (v := ?vo_w17) (w1 := (wr.setCell ⟨go14, (x19_1 : Int).toNat * 2, none⟩ (.int .i64 (wrap64 (((rd_T64 x9_1 x19_1).f0) + a3))))) ?hg ?ho ?hn ?hr ?_; (case ho => rfl); (case hg => rfl); (case hn => rfl); (case hr => first | (go_simp; done) | (go_simp; rfl)); intro w17 hw; have hg : wr.grownBy w17 (some go14) := (by rw [hw]; exact HP16.2); have hp_ : Kd.R k64 39 w17 w.heap.size (fun _ => True) (.slice (some ⟨go14, 0, none⟩) x9_1.length co10) y161 := (by rw [hw, Ny161.out]; exact HP16.1); clear HP16; have n0_ := Aside0.mk (hp_); have n1_ := Aside0.mk ((by rw [hw]; exact wS (HB.out) GB14.out : Below w.heap.size w w17)); clear HO_9; clear HB; have HO_9 := n0_; have HB := n1_; clear n0_ n1_; clear hg hw hp_; have p162 : 0 ≤ (x19_1 : Int) := of_decide_eq_true (by first | (with_reducible assumption) | assumption); have q162 : x19_1 < (y161.length : Int) := (by have h_ : (x19_1 : Int) < ((x9_1.length : Int) : Int) := of_decide_eq_true (by first | (with_reducible assumption) | assumption); first | (have e_ := (rR HO_9.out).1; omega) | simpa only [Ny161.out, List.length_set] using h_); have ql162 : ((x19_1 : Int) < ((x9_1.length : Int) : Int)) = True := eq_true (of_decide_eq_true (by first | (with_reducible assumption) | assumption)); obtain ⟨ad162, e162, hx162_0, hx162_1⟩ := at_T64 (rR HO_9.out).2.2 x19_1 p162 q162; obtain rfl : (⟨go14, 0, none⟩ : Addr) = ad162 := (by injection e162); (first | simp only [add_plain] at hx162_0 | simp only [add_at] at hx162_0 | simp only [Addr.add, Nat.zero_add] at hx162_0 | skip); (first | simp only [add_plain] at hx162_1 | simp only [add_at] at hx162_1 | simp only [Addr.add, Nat.zero_add] at hx162_1 | skip); replace p162 := eq_true p162; replace q162 := eq_true q162; have p15 : 0 ≤ (x19_1 : Int) := of_decide_eq_true (by first | (with_reducible assumption) | assumption); have q15 : (x19_1 : Int) < ((x9_1.length : Int) : Int) := of_decide_eq_true (by first | (with_reducible assumption) | assumption); obtain ⟨ce15, hcl15, hM15, hcc15, hfr15⟩ := Kd.R_elem HO_9.out z64 (x19_1 : Int) p15 q15; obtain rfl := k64_openM hM15; have hx15_0 : w17.cell? ⟨go14, (x19_1 : Int).toNat * 2, none⟩ = some (.int .i64 ((rd_T64 y161 x19_1).f0)) := hcc15 0 _ rfl; have hx15_1 : w17.cell? ⟨go14, (x19_1 : Int).toNat * 2 + 1, none⟩ = some (.int .i64 ((rd_T64 y161 x19_1).f1)) := hcc15 1 _ rfl; have hf15_0 : w17.frozen? ⟨go14, (x19_1 : Int).toNat * 2, none⟩ = false := hfr15 0; have hf15_1 : w17.frozen? ⟨go14, (x19_1 : Int).toNat * 2 + 1, none⟩ = false := hfr15 1; clear hcl15 hcc15 hfr15 hM15; replace p15 := eq_true p15; replace q15 := eq_true q15; have HX18 := Aside0.mk (show Kd.R k64 39 w17 w.heap.size (fun _ => True) (.slice (some ⟨go14, 0, none⟩) x9_1.length co10) y161 from (by (with_reducible repeat (first | apply rA | apply rN | apply rD)); exact HO_9.out)); obtain ⟨ce18, hcl18, hM18, hcc18, hfr18⟩ := Kd.R_elem HX18.out z64 (x19_1 : Int) (of_decide_eq_true (by first | (with_reducible assumption) | assumption)) (by have h_ : (x19_1 : Int) < ((x9_1.length : Int) : Int) := of_decide_eq_true (by first | (with_reducible assumption) | assumption); first | exact h_ | (have e_ := (rR HO_9.out).1; omega) | simpa using h_); obtain rfl := k64_openM hM18; have HP18 := Kd.R_seg HX18.out (x19_1 : Int) (of_decide_eq_true (by first | (with_reducible assumption) | assumption)) (by have h_ : (x19_1 : Int) < ((x9_1.length : Int) : Int) := of_decide_eq_true (by first | (with_reducible assumption) | assumption); first | exact h_ | (have e_ := (rR HO_9.out).1; omega) | simpa using h_) (seg := [.int .i64 (wrap64 (((rd_T64 y161 x19_1).f1) + a3))]) (j := 1) hcl18 hcc18 (show 2 ≤ 2 from by decide) (x' := (⟨(rd_T64 y161 x19_1).f0, wrap64 (((rd_T64 y161 x19_1).f1) + a3)⟩ : S64)) (k64_mkM _ _ _ (⟨(rd_T64 y161 x19_1).f0, wrap64 (((rd_T64 y161 x19_1).f1) + a3)⟩ : S64) ) (fun _ hk => hk); have hx18_1 := hcc18 1 _ rfl; (try simp only [show (k64).sz = 2 from rfl, Nat.mul_one, Nat.add_zero] at hx18_1); have hf18_1 := hfr18 1; (try simp only [show (k64).sz = 2 from rfl, Nat.mul_one, Nat.add_zero] at hf18_1); clear hcl18 hcc18 hfr18 hM18) | ((with_reducible refine gate_store (t := 3) (p := 39) rfl ?_); refine store_event (t := 3) (p := 39) (v := ?vo_w19) (w1 := (w17.setCell ⟨go14, (x19_1 : Int).toNat * 2 + 1, none⟩ (.int .i64 (wrap64 (((rd_T64 y161 x19_1).f1) + a3))))) ?hg ?ho ?hn ?hr ?_; (case ho => rfl); (case hg => rfl); (case hn => rfl); (case hr => first | (go_simp; done) | (go_simp; rfl)); intro w19 hw; have hg : w17.grownBy w19 (some go14) := (by rw [hw]; exact HP18.2); have hp_ : Kd.R k64 39 w19 w.heap.size (fun _ => True) (.slice (some ⟨go14, 0, none⟩) x9_1.length co10) y163 := (by rw [hw, Ny163.out]; exact HP18.1); clear HP18; have n0_ := Aside0.mk (hp_); have n1_ := Aside0.mk ((by rw [hw]; exact wS (HB.out) GB14.out : Below w.heap.size w w19)); clear HO_9; clear HB; have HO_9 := n0_; have HB := n1_; clear n0_ n1_; clear hg hw hp_))
      (try simp only [← hl9_1])
      go_roundg k1
      case measure => have := HK1.out; omega
      case rel => exact ⟨(y163), (wrap64 (x19_1 + 1)), (by first | rfl | (simp; done) | (simp [*]; done)), H', ⟨by have := HK1.out; omega⟩, ⟨by (try simp only [hl9_1]); (with_reducible repeat (first | apply rA | apply rN | apply rD)); exact HO_9.out⟩, ⟨by repeat (first | (with_reducible first | exact HB.out | apply wA | apply wN | apply wD) | exact HB.out)⟩⟩
     ·rw [if_neg c13] at H
      exact absurd H (by simp)
    ·rw [if_neg c12] at H
     exact absurd H (by simp)
   ·rw [if_neg c11] at H
    have c11b0 : decide (x19_1 < (t157.length : Int)) = false := decide_eq_false c11
    have c11z0 := c11b0
    (try simp only [hl9_1] at c11z0)
    clear c11
    obtain rfl := Option.some.inj H
    go_wp2
    go_ret
    exact ⟨_, by first | rfl | (simp [errW_none, errW_some] <;> rfl) | (simp [*, errW_none, errW_some] <;> rfl), by (with_reducible repeat (first | apply rA | apply rN | apply rD)); exact HO_9.out, by repeat (first | (with_reducible first | exact HB.out | apply wA | apply wN | apply wD) | exact HB.out)⟩
end Go.Proofs.YtamhkdlcoghdbaaGreatDoor.PCls
/- Out of ZPClsx1 (wip/tools/prune2.py): the declarations alone that the texts of the trees name. -/
namespace Go.Proofs.YtamhkdlcoghdbaaGreatDoor.PCls
open Go.RowKit Go.Proofs.YtamhkdlcoghdbaaGreatDoorW.PrintWords Go.Proofs.YtamhkdlcoghdbaaGreatDoorW.PrintLast Go.Proofs.YtamhkdlcoghdbaaGreatDoorW.PrintMore
attribute [local go_sem] max2_int min2_int max_two min_two max_three min_three max_four min_four   -- for this text's walks alone
set_option linter.unusedVariables false
set_option linter.unusedSimpArgs false
theorem eqA64 (d : Nat) (w : World) (x0 y0 : Int) (x1 y1 : Int) :
  (Op.equalIn (d + 2) 39 (.agg #[.int .i64 x0, .int .i64 x1]) (.agg #[.int .i64 y0, .int .i64 y1])).run Tryz.prog w = .ok (x0 == y0 && (x1 == y1)) w := by
 refine eqA_of Tryz.underlying39 (by kernel_rfl) ?_
 refine eqf_cons (by rfl) (by go_simp; rfl) (by go_simp; rfl) (by go_simp) ?_
 exact eqf_last (by rfl) (by go_simp; rfl) (by go_simp; rfl) (by go_simp)
end Go.Proofs.YtamhkdlcoghdbaaGreatDoor.PCls
/- Out of ZPClsx18 (wip/tools/prune2.py): the declarations alone that the texts of the trees name. -/
namespace Go.Proofs.YtamhkdlcoghdbaaGreatDoor.PCls
open Go.RowKit Go.Proofs.YtamhkdlcoghdbaaGreatDoorW.PrintWords Go.Proofs.YtamhkdlcoghdbaaGreatDoorW.PrintLast Go.Proofs.YtamhkdlcoghdbaaGreatDoorW.PrintMore
attribute [local go_sem] max2_int min2_int max_two min_two max_three min_three max_four min_four   -- for this text's walks alone
set_option linter.unusedVariables false
set_option linter.unusedSimpArgs false
def classes_all.f (a0 : Bool) : Option ((List (S64))) := if a0 = true then (some (([(⟨0, 55295⟩ : S64), (⟨57344, 1114111⟩ : S64)] : List (S64)))) else (some (([(⟨0, 255⟩ : S64)] : List (S64))))
set_option maxHeartbeats 8000000 in
set_option maxRecDepth 100000 in
theorem classes_all.calls (a0 : Bool) (r : List (S64)) (w : World) (h : classes_all.f a0 = some r) :
  Calls Tryz.prog 151 #[.bool a0] w fun e w' => ∃ v0_ : Value, e = .returned (v0_) ∧ Kd.R k64 39 w' w.heap.size (fun _ => True) v0_ r ∧ Below w.heap.size w w' := by
 have hu64 := Tryz.underlying39
 have HB := Aside0.mk (Below.refl w.heap.size w)
 have H : (if a0 = true then (some (([(⟨0, 55295⟩ : S64), (⟨57344, 1114111⟩ : S64)] : List (S64)))) else (some (([(⟨0, 255⟩ : S64)] : List (S64))))) = some r := h
 clear h
 by_cases c2 : a0 = true
 ·subst c2
  have H1 : (some (([(⟨0, 55295⟩ : S64), (⟨57344, 1114111⟩ : S64)] : List (S64)))) = some r := by rw [if_pos rfl] at H; exact H
  clear H
  have H := H1
  clear H1
  obtain ⟨y338, hy338⟩ : ∃ y_ : List (S64), y_ = (([(⟨0, 55295⟩ : S64), (⟨57344, 1114111⟩ : S64)] : List (S64))) := ⟨_, rfl⟩
  replace H : (some y338) = some r := by first | (rw [hy338]; with_reducible exact H) | (have H2_ := (Option.bind_some _ _).symm.trans H; rw [hy338]; with_reducible exact H2_) | (have H2_ := (Option.bind_some _ _).symm.trans H; with_reducible exact H2_) | with_reducible exact H | (rw [hy338]; exact H) | exact H
  have Ny338 := Aside0.mk hy338
  clear hy338
  obtain rfl := Option.some.inj H
  go_enter Tryz.func151, Tryz.ntmps151
  go_wp2_with (first | ((with_reducible refine gate_dst (N := 9) rfl ?_); refine Kd.R_lit k64 _ 39 ?hg (N := 9) ?hd (xs := ([(⟨0, 55295⟩ : S64), (⟨57344, 1114111⟩ : S64)] : List (S64))) (inner := [.int .i64 0, .int .i64 55295, .int .i64 57344, .int .i64 1114111]) (ok := fun _ => True) (okp := fun _ => True) ?hr ?hp (fun _ hk => hk) trivial (Below.refl _ _) (Nat.le_refl _) (by simp) ?_; (case hd => rfl); (case hg => rfl); (case hr => first | (go_simp; done) | (go_simp; rfl)); (case hp => exact (Reps.c2 (show Kd.M k64 _ _ _ (⟨0, 55295⟩ : S64) [.int .i64 0, .int .i64 55295] from (k64_mkM _ _ _ (⟨0, 55295⟩ : S64) )) (Reps.c2 (show Kd.M k64 _ _ _ (⟨57344, 1114111⟩ : S64) [.int .i64 57344, .int .i64 1114111] from (k64_mkM _ _ _ (⟨57344, 1114111⟩ : S64) )) (Reps.none _ _)))); intro v339 w3 ho4 hb hg_ hnew_; clear hg_ hnew_; (first | rw [← Ny338.out] at ho4 | (simp only [Int.reduceToNat] at ho4; rw [← Ny338.out] at ho4)); have n0_ := Aside0.mk (Kd.R_lower ho4 (below_size (by repeat (first | (with_reducible first | exact HB.out | apply wA | apply wN | apply wD) | exact HB.out)))); have n1_ := Aside0.mk (below_step (by repeat (first | (with_reducible first | exact HB.out | apply wA | apply wN | apply wD) | exact HB.out)) hb); clear HB; have HO340 := n0_; have HB := n1_; clear n0_ n1_; clear hb ho4))
  go_ret
  exact ⟨_, by first | rfl | (simp [errW_none, errW_some] <;> rfl) | (simp [*, errW_none, errW_some] <;> rfl), by (with_reducible repeat (first | apply rA | apply rN | apply rD)); exact HO340.out, by repeat (first | (with_reducible first | exact HB.out | apply wA | apply wN | apply wD) | exact HB.out)⟩
 ·replace c2 := Bool.eq_false_iff.mpr c2
  subst c2
  have H1 : (some (([(⟨0, 255⟩ : S64)] : List (S64)))) = some r := by rw [if_neg (show ¬ (false = true) by decide)] at H; exact H
  clear H
  have H := H1
  clear H1
  obtain ⟨y341, hy341⟩ : ∃ y_ : List (S64), y_ = (([(⟨0, 255⟩ : S64)] : List (S64))) := ⟨_, rfl⟩
  replace H : (some y341) = some r := by first | (rw [hy341]; with_reducible exact H) | (have H2_ := (Option.bind_some _ _).symm.trans H; rw [hy341]; with_reducible exact H2_) | (have H2_ := (Option.bind_some _ _).symm.trans H; with_reducible exact H2_) | with_reducible exact H | (rw [hy341]; exact H) | exact H
  have Ny341 := Aside0.mk hy341
  clear hy341
  obtain rfl := Option.some.inj H
  go_enter Tryz.func151, Tryz.ntmps151
  go_wp2_with (first | ((with_reducible refine gate_dst (N := 6) rfl ?_); refine Kd.R_lit k64 _ 39 ?hg (N := 6) ?hd (xs := ([(⟨0, 255⟩ : S64)] : List (S64))) (inner := [.int .i64 0, .int .i64 255]) (ok := fun _ => True) (okp := fun _ => True) ?hr ?hp (fun _ hk => hk) trivial (Below.refl _ _) (Nat.le_refl _) (by simp) ?_; (case hd => rfl); (case hg => rfl); (case hr => first | (go_simp; done) | (go_simp; rfl)); (case hp => exact (Reps.c2 (show Kd.M k64 _ _ _ (⟨0, 255⟩ : S64) [.int .i64 0, .int .i64 255] from (k64_mkM _ _ _ (⟨0, 255⟩ : S64) )) (Reps.none _ _))); intro v342 w5 ho6 hb hg_ hnew_; clear hg_ hnew_; (first | rw [← Ny341.out] at ho6 | (simp only [Int.reduceToNat] at ho6; rw [← Ny341.out] at ho6)); have n0_ := Aside0.mk (Kd.R_lower ho6 (below_size (by repeat (first | (with_reducible first | exact HB.out | apply wA | apply wN | apply wD) | exact HB.out)))); have n1_ := Aside0.mk (below_step (by repeat (first | (with_reducible first | exact HB.out | apply wA | apply wN | apply wD) | exact HB.out)) hb); clear HB; have HO343 := n0_; have HB := n1_; clear n0_ n1_; clear hb ho6))
  go_ret
  exact ⟨_, by first | rfl | (simp [errW_none, errW_some] <;> rfl) | (simp [*, errW_none, errW_some] <;> rfl), by (with_reducible repeat (first | apply rA | apply rN | apply rD)); exact HO343.out, by repeat (first | (with_reducible first | exact HB.out | apply wA | apply wN | apply wD) | exact HB.out)⟩
def classes_Norm.f (k : Nat) (l0 : List (S64)) (a1 : Bool) : Option ((List (S64))) := (classes_all.f a1).bind fun t344 => ((classes_And.f k l0 t344).bind fun t347 => (some t347))
set_option maxHeartbeats 8000000 in
set_option maxRecDepth 100000 in
theorem classes_Norm.calls (k : Nat) (A0 : Option Addr) (c0 : Nat) (l0 : List (S64)) (a1 : Bool) (r : List (S64)) (w : World) (hr0 : Kd.C k64 w A0 l0.length l0) (hc0 : l0.length ≤ c0) (h : classes_Norm.f k l0 a1 = some r) :
  Calls Tryz.prog 149 #[.slice A0 l0.length c0, .bool a1] w fun e w' => ∃ v0_ : Value, e = .returned (v0_) ∧ Kd.R k64 39 w' w.heap.size (fun _ => True) v0_ r ∧ Below w.heap.size w w' := by
 have HR0 := Aside0.mk hr0
 have HC0 := Aside0.mk hc0
 clear hr0 hc0
 have HB := Aside0.mk (Below.refl w.heap.size w)
 have H : ((classes_all.f a1).bind fun t344 => ((classes_And.f k l0 t344).bind fun t347 => (some t347))) = some r := h
 clear h
 replace H := Option.bind_eq_some_iff.mp H
 obtain ⟨t344, A30, H⟩ := H
 replace H : ((classes_And.f k l0 t344).bind fun t347 => (some t347)) = some r := H
 have A3 := Aside0.mk A30
 clear A30
 replace H := Option.bind_eq_some_iff.mp H
 obtain ⟨t347, A40, H⟩ := H
 replace H : (some t347) = some r := H
 have A4 := Aside0.mk A40
 clear A40
 obtain rfl := Option.some.inj H
 go_enter Tryz.func149, Tryz.ntmps149
 go_wp2_with (first | ((with_reducible refine gate_callee (f := 151) rfl ?_); refine goesL_ (some 7) rfl rfl Tryz.func151 (by kernel_rfl) rfl #[.bool a1] rfl (by (try simp only [List.map_toArray, List.map_cons, List.map_nil]); first | done | rfl | (simp only [List.length_drop, List.length_take]; rfl)) ?_; (with_reducible refine (classes_all.calls a1 t344 _ A3.out).mono ?_); rintro e w5 ⟨v345, rfl, ho0, hb⟩; refine ⟨_, rfl, ?_⟩; have n0_ := Aside0.mk (Kd.R_lower ho0 (below_size (by repeat (first | (with_reducible first | exact HB.out | apply wA | apply wN | apply wD) | exact HB.out)))); have n1_ := Aside0.mk (below_step (by repeat (first | (with_reducible first | exact HB.out | apply wA | apply wN | apply wD) | exact HB.out)) hb); clear HB; have HO346 := n0_; have HB := n1_; clear n0_ n1_; (try clear hb); (try clear hb2); (try clear hk); (try clear hi); (try clear ho0); obtain ⟨Ao6, co6, eo6⟩ := Kd.R_slice HO346.out; subst eo6) | ((with_reducible refine gate_callee (f := 161) rfl ?_); refine goesL_ (some 8) rfl rfl Tryz.func161 (by kernel_rfl) rfl #[.slice A0 l0.length c0, .slice Ao6 t344.length co6] rfl (by (try simp only [List.map_toArray, List.map_cons, List.map_nil]); first | done | rfl | (simp only [List.length_drop, List.length_take]; rfl)) ?_; (with_reducible refine (classes_And.calls k _ _ l0 _ _ t344 t347 _ ?side1 ?side2 ?side3 ?side4 A4.out).mono ?_); (case side1 => repeat (first | exact (Kd.C_below HR0.out HB.out) | (with_reducible refine cA ?_ _) | (with_reducible refine cN ?_ _) | (with_reducible refine cD ?_))); (case side2 => exact HC0.out); (case side3 => repeat (first | exact (rR HO346.out).2.2 | (with_reducible refine cA ?_ _) | (with_reducible refine cN ?_ _) | (with_reducible refine cD ?_))); (case side4 => exact (rR HO346.out).2.1); rintro e w7 ⟨v348, rfl, ho0, hb⟩; refine ⟨_, rfl, ?_⟩; have n0_ := Aside0.mk (rE (by (with_reducible repeat (first | apply rA | apply rN | apply rD)); exact HO346.out) (rB ho0) hb); have n1_ := Aside0.mk (Kd.R_lower (rW ho0 (rL (by (with_reducible repeat (first | apply rA | apply rN | apply rD)); exact HO346.out))) (below_size (by repeat (first | (with_reducible first | exact HB.out | apply wA | apply wN | apply wD) | exact HB.out)))); have n2_ := Aside0.mk (below_step (by repeat (first | (with_reducible first | exact HB.out | apply wA | apply wN | apply wD) | exact HB.out)) hb); clear HO346; clear HB; have HO346 := n0_; have HO349 := n1_; have HB := n2_; clear n0_ n1_ n2_; (try clear hb); (try clear hb2); (try clear hk); (try clear hi); (try clear ho0)))
 go_ret
 exact ⟨_, by first | rfl | (simp [errW_none, errW_some] <;> rfl) | (simp [*, errW_none, errW_some] <;> rfl), by (with_reducible repeat (first | apply rA | apply rN | apply rD)); exact Kd.R_mono HO349.out (fun _ hk => trivial), by repeat (first | (with_reducible first | exact HB.out | apply wA | apply wN | apply wD) | exact HB.out)⟩
end Go.Proofs.YtamhkdlcoghdbaaGreatDoor.PCls
