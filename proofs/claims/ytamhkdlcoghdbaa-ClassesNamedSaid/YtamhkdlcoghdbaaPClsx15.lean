-- Written by wip/tools/pp.py (this session's driver of the kit's print): functions of the program as plain Lean functions, each with its contract.
import Derived.Test.YtamhkdlcoghdbaaPClsx0
namespace Go.Proofs.Ytamhkdlcoghdbaa.PCls
open Go.RowKit Go.Proofs.YtamhkdlcoghdbaaW.PrintWords Go.Proofs.YtamhkdlcoghdbaaW.PrintLast Go.Proofs.YtamhkdlcoghdbaaW.PrintMore
attribute [local go_sem] max2_int min2_int max_two min_two max_three min_three max_four min_four   -- for this text's walks alone
set_option linter.unusedVariables false
set_option linter.unusedSimpArgs false

/-! ### dredgeref06_Named: function 28 -/
def dredgeref06_Named.f (a0 : ByteArray) : Option ((List (S64)) × Bool) := if a0.toList = ([97, 108, 110, 117, 109] : List UInt8) then (some ((([(⟨48, 57⟩ : S64), (⟨65, 90⟩ : S64), (⟨97, 122⟩ : S64)] : List (S64))), true)) else (if a0.toList = ([97, 108, 112, 104, 97] : List UInt8) then (some ((([(⟨65, 90⟩ : S64), (⟨97, 122⟩ : S64)] : List (S64))), true)) else (if a0.toList = ([98, 108, 97, 110, 107] : List UInt8) then (some ((([(⟨9, 9⟩ : S64), (⟨32, 32⟩ : S64)] : List (S64))), true)) else (if a0.toList = ([99, 110, 116, 114, 108] : List UInt8) then (some ((([(⟨0, 31⟩ : S64), (⟨127, 127⟩ : S64)] : List (S64))), true)) else (if a0.toList = ([100, 105, 103, 105, 116] : List UInt8) then (some ((([(⟨48, 57⟩ : S64)] : List (S64))), true)) else (if a0.toList = ([103, 114, 97, 112, 104] : List UInt8) then (some ((([(⟨33, 126⟩ : S64)] : List (S64))), true)) else (if a0.toList = ([108, 111, 119, 101, 114] : List UInt8) then (some ((([(⟨97, 122⟩ : S64)] : List (S64))), true)) else (if a0.toList = ([112, 114, 105, 110, 116] : List UInt8) then (some ((([(⟨32, 126⟩ : S64)] : List (S64))), true)) else (if a0.toList = ([112, 117, 110, 99, 116] : List UInt8) then (some ((([(⟨33, 47⟩ : S64), (⟨58, 64⟩ : S64), (⟨91, 96⟩ : S64), (⟨123, 126⟩ : S64)] : List (S64))), true)) else (if a0.toList = ([115, 112, 97, 99, 101] : List UInt8) then (some ((([(⟨9, 13⟩ : S64), (⟨32, 32⟩ : S64)] : List (S64))), true)) else (if a0.toList = ([117, 112, 112, 101, 114] : List UInt8) then (some ((([(⟨65, 90⟩ : S64)] : List (S64))), true)) else (if a0.toList = ([120, 100, 105, 103, 105, 116] : List UInt8) then (some ((([(⟨48, 57⟩ : S64), (⟨65, 70⟩ : S64), (⟨97, 102⟩ : S64)] : List (S64))), true)) else (some (([] : List (S64)), false)))))))))))))
set_option maxHeartbeats 8000000 in
set_option maxRecDepth 100000 in
theorem dredgeref06_Named.calls (a0 : ByteArray) (r1 : List (S64)) (r2 : Bool) (w : World) (h : dredgeref06_Named.f a0 = some (r1, r2)) :
  Calls Try.prog 28 #[.string a0] w fun e w' => ∃ v0_ : Value, e = .returned (.tuple #[v0_, .bool r2]) ∧ Kd.R k64 64 w' w.heap.size (fun _ => True) v0_ r1 ∧ Below w.heap.size w w' := by
 have hu64 := Try.underlying64
 have HB := Aside0.mk (Below.refl w.heap.size w)
 have H : (if a0.toList = ([97, 108, 110, 117, 109] : List UInt8) then (some ((([(⟨48, 57⟩ : S64), (⟨65, 90⟩ : S64), (⟨97, 122⟩ : S64)] : List (S64))), true)) else (if a0.toList = ([97, 108, 112, 104, 97] : List UInt8) then (some ((([(⟨65, 90⟩ : S64), (⟨97, 122⟩ : S64)] : List (S64))), true)) else (if a0.toList = ([98, 108, 97, 110, 107] : List UInt8) then (some ((([(⟨9, 9⟩ : S64), (⟨32, 32⟩ : S64)] : List (S64))), true)) else (if a0.toList = ([99, 110, 116, 114, 108] : List UInt8) then (some ((([(⟨0, 31⟩ : S64), (⟨127, 127⟩ : S64)] : List (S64))), true)) else (if a0.toList = ([100, 105, 103, 105, 116] : List UInt8) then (some ((([(⟨48, 57⟩ : S64)] : List (S64))), true)) else (if a0.toList = ([103, 114, 97, 112, 104] : List UInt8) then (some ((([(⟨33, 126⟩ : S64)] : List (S64))), true)) else (if a0.toList = ([108, 111, 119, 101, 114] : List UInt8) then (some ((([(⟨97, 122⟩ : S64)] : List (S64))), true)) else (if a0.toList = ([112, 114, 105, 110, 116] : List UInt8) then (some ((([(⟨32, 126⟩ : S64)] : List (S64))), true)) else (if a0.toList = ([112, 117, 110, 99, 116] : List UInt8) then (some ((([(⟨33, 47⟩ : S64), (⟨58, 64⟩ : S64), (⟨91, 96⟩ : S64), (⟨123, 126⟩ : S64)] : List (S64))), true)) else (if a0.toList = ([115, 112, 97, 99, 101] : List UInt8) then (some ((([(⟨9, 13⟩ : S64), (⟨32, 32⟩ : S64)] : List (S64))), true)) else (if a0.toList = ([117, 112, 112, 101, 114] : List UInt8) then (some ((([(⟨65, 90⟩ : S64)] : List (S64))), true)) else (if a0.toList = ([120, 100, 105, 103, 105, 116] : List UInt8) then (some ((([(⟨48, 57⟩ : S64), (⟨65, 70⟩ : S64), (⟨97, 102⟩ : S64)] : List (S64))), true)) else (some (([] : List (S64)), false)))))))))))))) = some (r1, r2) := h
 clear h
 by_cases c2 : a0.toList = ([97, 108, 110, 117, 109] : List UInt8)
 ·rw [if_pos c2] at H
  have c2b0 : (a0.toList == ([97, 108, 110, 117, 109] : List UInt8)) = true := beq_iff_eq.mpr c2
  have c2b1 : (a0.toList != ([97, 108, 110, 117, 109] : List UInt8)) = false := bne_eq_false_iff_eq.mpr c2
  clear c2
  obtain ⟨y270, hy270⟩ : ∃ y_ : List (S64), y_ = (([(⟨48, 57⟩ : S64), (⟨65, 90⟩ : S64), (⟨97, 122⟩ : S64)] : List (S64))) := ⟨_, rfl⟩
  replace H : (some (y270, true)) = some (r1, r2) := by first | (rw [hy270]; with_reducible exact H) | (have H2_ := (Option.bind_some _ _).symm.trans H; rw [hy270]; with_reducible exact H2_) | (have H2_ := (Option.bind_some _ _).symm.trans H; with_reducible exact H2_) | with_reducible exact H | (rw [hy270]; exact H) | exact H
  have Ny270 := Aside0.mk hy270
  clear hy270
  simp only [Option.some.injEq, Prod.mk.injEq] at H
  obtain ⟨rfl, rfl⟩ := H
  go_enter Try.func28, Try.ntmps28
  go_wp2_with (first | ((with_reducible refine gate_dst (N := 10) rfl ?_); refine Kd.R_lit k64 _ 64 ?hg (N := 10) ?hd (xs := ([(⟨48, 57⟩ : S64), (⟨65, 90⟩ : S64), (⟨97, 122⟩ : S64)] : List (S64))) (inner := [.int .i64 48, .int .i64 57, .int .i64 65, .int .i64 90, .int .i64 97, .int .i64 122]) (ok := fun _ => True) (okp := fun _ => True) ?hr ?hp (fun _ hk => hk) trivial (Below.refl _ _) (Nat.le_refl _) (by simp) ?_; (case hd => rfl); (case hg => rfl); (case hr => first | (go_simp; done) | (go_simp; rfl)); (case hp => exact (Reps.c2 (show Kd.M k64 _ _ _ (⟨48, 57⟩ : S64) [.int .i64 48, .int .i64 57] from (k64_mkM _ _ _ (⟨48, 57⟩ : S64) )) (Reps.c2 (show Kd.M k64 _ _ _ (⟨65, 90⟩ : S64) [.int .i64 65, .int .i64 90] from (k64_mkM _ _ _ (⟨65, 90⟩ : S64) )) (Reps.c2 (show Kd.M k64 _ _ _ (⟨97, 122⟩ : S64) [.int .i64 97, .int .i64 122] from (k64_mkM _ _ _ (⟨97, 122⟩ : S64) )) (Reps.none _ _))))); intro v271 w3 ho4 hb hg_ hnew_; clear hg_ hnew_; (first | rw [← Ny270.out] at ho4 | (simp only [Int.reduceToNat] at ho4; rw [← Ny270.out] at ho4)); have n0_ := Aside0.mk (Kd.R_lower ho4 (below_size (by repeat (first | (with_reducible first | exact HB.out | apply wA | apply wN | apply wD) | exact HB.out)))); have n1_ := Aside0.mk (below_step (by repeat (first | (with_reducible first | exact HB.out | apply wA | apply wN | apply wD) | exact HB.out)) hb); clear HB; have HO272 := n0_; have HB := n1_; clear n0_ n1_; clear hb ho4))
  go_ret2
  exact ⟨_, by first | rfl | (simp [errW_none, errW_some] <;> rfl) | (simp [*, errW_none, errW_some] <;> rfl), by (with_reducible repeat (first | apply rA | apply rN | apply rD)); exact HO272.out, by repeat (first | (with_reducible first | exact HB.out | apply wA | apply wN | apply wD) | exact HB.out)⟩
 ·rw [if_neg c2] at H
  have c2b0 : (a0.toList == ([97, 108, 110, 117, 109] : List UInt8)) = false := beq_eq_false_iff_ne.mpr c2
  have c2b1 : (a0.toList != ([97, 108, 110, 117, 109] : List UInt8)) = true := bne_iff_ne.mpr c2
  by_cases c5 : a0.toList = ([97, 108, 112, 104, 97] : List UInt8)
  ·rw [if_pos c5] at H
   have c5b0 : (a0.toList == ([97, 108, 112, 104, 97] : List UInt8)) = true := beq_iff_eq.mpr c5
   have c5b1 : (a0.toList != ([97, 108, 112, 104, 97] : List UInt8)) = false := bne_eq_false_iff_eq.mpr c5
   clear c5
   obtain ⟨y273, hy273⟩ : ∃ y_ : List (S64), y_ = (([(⟨65, 90⟩ : S64), (⟨97, 122⟩ : S64)] : List (S64))) := ⟨_, rfl⟩
   replace H : (some (y273, true)) = some (r1, r2) := by first | (rw [hy273]; with_reducible exact H) | (have H2_ := (Option.bind_some _ _).symm.trans H; rw [hy273]; with_reducible exact H2_) | (have H2_ := (Option.bind_some _ _).symm.trans H; with_reducible exact H2_) | with_reducible exact H | (rw [hy273]; exact H) | exact H
   have Ny273 := Aside0.mk hy273
   clear hy273
   simp only [Option.some.injEq, Prod.mk.injEq] at H
   obtain ⟨rfl, rfl⟩ := H
   go_enter Try.func28, Try.ntmps28
   go_wp2_with (first | ((with_reducible refine gate_dst (N := 15) rfl ?_); refine Kd.R_lit k64 _ 64 ?hg (N := 15) ?hd (xs := ([(⟨65, 90⟩ : S64), (⟨97, 122⟩ : S64)] : List (S64))) (inner := [.int .i64 65, .int .i64 90, .int .i64 97, .int .i64 122]) (ok := fun _ => True) (okp := fun _ => True) ?hr ?hp (fun _ hk => hk) trivial (Below.refl _ _) (Nat.le_refl _) (by simp) ?_; (case hd => rfl); (case hg => rfl); (case hr => first | (go_simp; done) | (go_simp; rfl)); (case hp => exact (Reps.c2 (show Kd.M k64 _ _ _ (⟨65, 90⟩ : S64) [.int .i64 65, .int .i64 90] from (k64_mkM _ _ _ (⟨65, 90⟩ : S64) )) (Reps.c2 (show Kd.M k64 _ _ _ (⟨97, 122⟩ : S64) [.int .i64 97, .int .i64 122] from (k64_mkM _ _ _ (⟨97, 122⟩ : S64) )) (Reps.none _ _)))); intro v274 w6 ho7 hb hg_ hnew_; clear hg_ hnew_; (first | rw [← Ny273.out] at ho7 | (simp only [Int.reduceToNat] at ho7; rw [← Ny273.out] at ho7)); have n0_ := Aside0.mk (Kd.R_lower ho7 (below_size (by repeat (first | (with_reducible first | exact HB.out | apply wA | apply wN | apply wD) | exact HB.out)))); have n1_ := Aside0.mk (below_step (by repeat (first | (with_reducible first | exact HB.out | apply wA | apply wN | apply wD) | exact HB.out)) hb); clear HB; have HO275 := n0_; have HB := n1_; clear n0_ n1_; clear hb ho7))
   go_ret2
   exact ⟨_, by first | rfl | (simp [errW_none, errW_some] <;> rfl) | (simp [*, errW_none, errW_some] <;> rfl), by (with_reducible repeat (first | apply rA | apply rN | apply rD)); exact HO275.out, by repeat (first | (with_reducible first | exact HB.out | apply wA | apply wN | apply wD) | exact HB.out)⟩
  ·rw [if_neg c5] at H
   have c5b0 : (a0.toList == ([97, 108, 112, 104, 97] : List UInt8)) = false := beq_eq_false_iff_ne.mpr c5
   have c5b1 : (a0.toList != ([97, 108, 112, 104, 97] : List UInt8)) = true := bne_iff_ne.mpr c5
   by_cases c8 : a0.toList = ([98, 108, 97, 110, 107] : List UInt8)
   ·rw [if_pos c8] at H
    have c8b0 : (a0.toList == ([98, 108, 97, 110, 107] : List UInt8)) = true := beq_iff_eq.mpr c8
    have c8b1 : (a0.toList != ([98, 108, 97, 110, 107] : List UInt8)) = false := bne_eq_false_iff_eq.mpr c8
    clear c8
    obtain ⟨y276, hy276⟩ : ∃ y_ : List (S64), y_ = (([(⟨9, 9⟩ : S64), (⟨32, 32⟩ : S64)] : List (S64))) := ⟨_, rfl⟩
    replace H : (some (y276, true)) = some (r1, r2) := by first | (rw [hy276]; with_reducible exact H) | (have H2_ := (Option.bind_some _ _).symm.trans H; rw [hy276]; with_reducible exact H2_) | (have H2_ := (Option.bind_some _ _).symm.trans H; with_reducible exact H2_) | with_reducible exact H | (rw [hy276]; exact H) | exact H
    have Ny276 := Aside0.mk hy276
    clear hy276
    simp only [Option.some.injEq, Prod.mk.injEq] at H
    obtain ⟨rfl, rfl⟩ := H
    go_enter Try.func28, Try.ntmps28
    go_wp2_with (first | ((with_reducible refine gate_dst (N := 20) rfl ?_); refine Kd.R_lit k64 _ 64 ?hg (N := 20) ?hd (xs := ([(⟨9, 9⟩ : S64), (⟨32, 32⟩ : S64)] : List (S64))) (inner := [.int .i64 9, .int .i64 9, .int .i64 32, .int .i64 32]) (ok := fun _ => True) (okp := fun _ => True) ?hr ?hp (fun _ hk => hk) trivial (Below.refl _ _) (Nat.le_refl _) (by simp) ?_; (case hd => rfl); (case hg => rfl); (case hr => first | (go_simp; done) | (go_simp; rfl)); (case hp => exact (Reps.c2 (show Kd.M k64 _ _ _ (⟨9, 9⟩ : S64) [.int .i64 9, .int .i64 9] from (k64_mkM _ _ _ (⟨9, 9⟩ : S64) )) (Reps.c2 (show Kd.M k64 _ _ _ (⟨32, 32⟩ : S64) [.int .i64 32, .int .i64 32] from (k64_mkM _ _ _ (⟨32, 32⟩ : S64) )) (Reps.none _ _)))); intro v277 w9 ho10 hb hg_ hnew_; clear hg_ hnew_; (first | rw [← Ny276.out] at ho10 | (simp only [Int.reduceToNat] at ho10; rw [← Ny276.out] at ho10)); have n0_ := Aside0.mk (Kd.R_lower ho10 (below_size (by repeat (first | (with_reducible first | exact HB.out | apply wA | apply wN | apply wD) | exact HB.out)))); have n1_ := Aside0.mk (below_step (by repeat (first | (with_reducible first | exact HB.out | apply wA | apply wN | apply wD) | exact HB.out)) hb); clear HB; have HO278 := n0_; have HB := n1_; clear n0_ n1_; clear hb ho10))
    go_ret2
    exact ⟨_, by first | rfl | (simp [errW_none, errW_some] <;> rfl) | (simp [*, errW_none, errW_some] <;> rfl), by (with_reducible repeat (first | apply rA | apply rN | apply rD)); exact HO278.out, by repeat (first | (with_reducible first | exact HB.out | apply wA | apply wN | apply wD) | exact HB.out)⟩
   ·rw [if_neg c8] at H
    have c8b0 : (a0.toList == ([98, 108, 97, 110, 107] : List UInt8)) = false := beq_eq_false_iff_ne.mpr c8
    have c8b1 : (a0.toList != ([98, 108, 97, 110, 107] : List UInt8)) = true := bne_iff_ne.mpr c8
    by_cases c11 : a0.toList = ([99, 110, 116, 114, 108] : List UInt8)
    ·rw [if_pos c11] at H
     have c11b0 : (a0.toList == ([99, 110, 116, 114, 108] : List UInt8)) = true := beq_iff_eq.mpr c11
     have c11b1 : (a0.toList != ([99, 110, 116, 114, 108] : List UInt8)) = false := bne_eq_false_iff_eq.mpr c11
     clear c11
     obtain ⟨y279, hy279⟩ : ∃ y_ : List (S64), y_ = (([(⟨0, 31⟩ : S64), (⟨127, 127⟩ : S64)] : List (S64))) := ⟨_, rfl⟩
     replace H : (some (y279, true)) = some (r1, r2) := by first | (rw [hy279]; with_reducible exact H) | (have H2_ := (Option.bind_some _ _).symm.trans H; rw [hy279]; with_reducible exact H2_) | (have H2_ := (Option.bind_some _ _).symm.trans H; with_reducible exact H2_) | with_reducible exact H | (rw [hy279]; exact H) | exact H
     have Ny279 := Aside0.mk hy279
     clear hy279
     simp only [Option.some.injEq, Prod.mk.injEq] at H
     obtain ⟨rfl, rfl⟩ := H
     go_enter Try.func28, Try.ntmps28
     go_wp2_with (first | ((with_reducible refine gate_dst (N := 25) rfl ?_); refine Kd.R_lit k64 _ 64 ?hg (N := 25) ?hd (xs := ([(⟨0, 31⟩ : S64), (⟨127, 127⟩ : S64)] : List (S64))) (inner := [.int .i64 0, .int .i64 31, .int .i64 127, .int .i64 127]) (ok := fun _ => True) (okp := fun _ => True) ?hr ?hp (fun _ hk => hk) trivial (Below.refl _ _) (Nat.le_refl _) (by simp) ?_; (case hd => rfl); (case hg => rfl); (case hr => first | (go_simp; done) | (go_simp; rfl)); (case hp => exact (Reps.c2 (show Kd.M k64 _ _ _ (⟨0, 31⟩ : S64) [.int .i64 0, .int .i64 31] from (k64_mkM _ _ _ (⟨0, 31⟩ : S64) )) (Reps.c2 (show Kd.M k64 _ _ _ (⟨127, 127⟩ : S64) [.int .i64 127, .int .i64 127] from (k64_mkM _ _ _ (⟨127, 127⟩ : S64) )) (Reps.none _ _)))); intro v280 w12 ho13 hb hg_ hnew_; clear hg_ hnew_; (first | rw [← Ny279.out] at ho13 | (simp only [Int.reduceToNat] at ho13; rw [← Ny279.out] at ho13)); have n0_ := Aside0.mk (Kd.R_lower ho13 (below_size (by repeat (first | (with_reducible first | exact HB.out | apply wA | apply wN | apply wD) | exact HB.out)))); have n1_ := Aside0.mk (below_step (by repeat (first | (with_reducible first | exact HB.out | apply wA | apply wN | apply wD) | exact HB.out)) hb); clear HB; have HO281 := n0_; have HB := n1_; clear n0_ n1_; clear hb ho13))
     go_ret2
     exact ⟨_, by first | rfl | (simp [errW_none, errW_some] <;> rfl) | (simp [*, errW_none, errW_some] <;> rfl), by (with_reducible repeat (first | apply rA | apply rN | apply rD)); exact HO281.out, by repeat (first | (with_reducible first | exact HB.out | apply wA | apply wN | apply wD) | exact HB.out)⟩
    ·rw [if_neg c11] at H
     have c11b0 : (a0.toList == ([99, 110, 116, 114, 108] : List UInt8)) = false := beq_eq_false_iff_ne.mpr c11
     have c11b1 : (a0.toList != ([99, 110, 116, 114, 108] : List UInt8)) = true := bne_iff_ne.mpr c11
     by_cases c14 : a0.toList = ([100, 105, 103, 105, 116] : List UInt8)
     ·rw [if_pos c14] at H
      have c14b0 : (a0.toList == ([100, 105, 103, 105, 116] : List UInt8)) = true := beq_iff_eq.mpr c14
      have c14b1 : (a0.toList != ([100, 105, 103, 105, 116] : List UInt8)) = false := bne_eq_false_iff_eq.mpr c14
      clear c14
      obtain ⟨y282, hy282⟩ : ∃ y_ : List (S64), y_ = (([(⟨48, 57⟩ : S64)] : List (S64))) := ⟨_, rfl⟩
      replace H : (some (y282, true)) = some (r1, r2) := by first | (rw [hy282]; with_reducible exact H) | (have H2_ := (Option.bind_some _ _).symm.trans H; rw [hy282]; with_reducible exact H2_) | (have H2_ := (Option.bind_some _ _).symm.trans H; with_reducible exact H2_) | with_reducible exact H | (rw [hy282]; exact H) | exact H
      have Ny282 := Aside0.mk hy282
      clear hy282
      simp only [Option.some.injEq, Prod.mk.injEq] at H
      obtain ⟨rfl, rfl⟩ := H
      go_enter Try.func28, Try.ntmps28
      go_wp2_with (first | ((with_reducible refine gate_dst (N := 29) rfl ?_); refine Kd.R_lit k64 _ 64 ?hg (N := 29) ?hd (xs := ([(⟨48, 57⟩ : S64)] : List (S64))) (inner := [.int .i64 48, .int .i64 57]) (ok := fun _ => True) (okp := fun _ => True) ?hr ?hp (fun _ hk => hk) trivial (Below.refl _ _) (Nat.le_refl _) (by simp) ?_; (case hd => rfl); (case hg => rfl); (case hr => first | (go_simp; done) | (go_simp; rfl)); (case hp => exact (Reps.c2 (show Kd.M k64 _ _ _ (⟨48, 57⟩ : S64) [.int .i64 48, .int .i64 57] from (k64_mkM _ _ _ (⟨48, 57⟩ : S64) )) (Reps.none _ _))); intro v283 w15 ho16 hb hg_ hnew_; clear hg_ hnew_; (first | rw [← Ny282.out] at ho16 | (simp only [Int.reduceToNat] at ho16; rw [← Ny282.out] at ho16)); have n0_ := Aside0.mk (Kd.R_lower ho16 (below_size (by repeat (first | (with_reducible first | exact HB.out | apply wA | apply wN | apply wD) | exact HB.out)))); have n1_ := Aside0.mk (below_step (by repeat (first | (with_reducible first | exact HB.out | apply wA | apply wN | apply wD) | exact HB.out)) hb); clear HB; have HO284 := n0_; have HB := n1_; clear n0_ n1_; clear hb ho16))
      go_ret2
      exact ⟨_, by first | rfl | (simp [errW_none, errW_some] <;> rfl) | (simp [*, errW_none, errW_some] <;> rfl), by (with_reducible repeat (first | apply rA | apply rN | apply rD)); exact HO284.out, by repeat (first | (with_reducible first | exact HB.out | apply wA | apply wN | apply wD) | exact HB.out)⟩
     ·rw [if_neg c14] at H
      have c14b0 : (a0.toList == ([100, 105, 103, 105, 116] : List UInt8)) = false := beq_eq_false_iff_ne.mpr c14
      have c14b1 : (a0.toList != ([100, 105, 103, 105, 116] : List UInt8)) = true := bne_iff_ne.mpr c14
      by_cases c17 : a0.toList = ([103, 114, 97, 112, 104] : List UInt8)
      ·rw [if_pos c17] at H
       have c17b0 : (a0.toList == ([103, 114, 97, 112, 104] : List UInt8)) = true := beq_iff_eq.mpr c17
       have c17b1 : (a0.toList != ([103, 114, 97, 112, 104] : List UInt8)) = false := bne_eq_false_iff_eq.mpr c17
       clear c17
       obtain ⟨y285, hy285⟩ : ∃ y_ : List (S64), y_ = (([(⟨33, 126⟩ : S64)] : List (S64))) := ⟨_, rfl⟩
       replace H : (some (y285, true)) = some (r1, r2) := by first | (rw [hy285]; with_reducible exact H) | (have H2_ := (Option.bind_some _ _).symm.trans H; rw [hy285]; with_reducible exact H2_) | (have H2_ := (Option.bind_some _ _).symm.trans H; with_reducible exact H2_) | with_reducible exact H | (rw [hy285]; exact H) | exact H
       have Ny285 := Aside0.mk hy285
       clear hy285
       simp only [Option.some.injEq, Prod.mk.injEq] at H
       obtain ⟨rfl, rfl⟩ := H
       go_enter Try.func28, Try.ntmps28
       go_wp2_with (first | ((with_reducible refine gate_dst (N := 33) rfl ?_); refine Kd.R_lit k64 _ 64 ?hg (N := 33) ?hd (xs := ([(⟨33, 126⟩ : S64)] : List (S64))) (inner := [.int .i64 33, .int .i64 126]) (ok := fun _ => True) (okp := fun _ => True) ?hr ?hp (fun _ hk => hk) trivial (Below.refl _ _) (Nat.le_refl _) (by simp) ?_; (case hd => rfl); (case hg => rfl); (case hr => first | (go_simp; done) | (go_simp; rfl)); (case hp => exact (Reps.c2 (show Kd.M k64 _ _ _ (⟨33, 126⟩ : S64) [.int .i64 33, .int .i64 126] from (k64_mkM _ _ _ (⟨33, 126⟩ : S64) )) (Reps.none _ _))); intro v286 w18 ho19 hb hg_ hnew_; clear hg_ hnew_; (first | rw [← Ny285.out] at ho19 | (simp only [Int.reduceToNat] at ho19; rw [← Ny285.out] at ho19)); have n0_ := Aside0.mk (Kd.R_lower ho19 (below_size (by repeat (first | (with_reducible first | exact HB.out | apply wA | apply wN | apply wD) | exact HB.out)))); have n1_ := Aside0.mk (below_step (by repeat (first | (with_reducible first | exact HB.out | apply wA | apply wN | apply wD) | exact HB.out)) hb); clear HB; have HO287 := n0_; have HB := n1_; clear n0_ n1_; clear hb ho19))
       go_ret2
       exact ⟨_, by first | rfl | (simp [errW_none, errW_some] <;> rfl) | (simp [*, errW_none, errW_some] <;> rfl), by (with_reducible repeat (first | apply rA | apply rN | apply rD)); exact HO287.out, by repeat (first | (with_reducible first | exact HB.out | apply wA | apply wN | apply wD) | exact HB.out)⟩
      ·rw [if_neg c17] at H
       have c17b0 : (a0.toList == ([103, 114, 97, 112, 104] : List UInt8)) = false := beq_eq_false_iff_ne.mpr c17
       have c17b1 : (a0.toList != ([103, 114, 97, 112, 104] : List UInt8)) = true := bne_iff_ne.mpr c17
       by_cases c20 : a0.toList = ([108, 111, 119, 101, 114] : List UInt8)
       ·rw [if_pos c20] at H
        have c20b0 : (a0.toList == ([108, 111, 119, 101, 114] : List UInt8)) = true := beq_iff_eq.mpr c20
        have c20b1 : (a0.toList != ([108, 111, 119, 101, 114] : List UInt8)) = false := bne_eq_false_iff_eq.mpr c20
        clear c20
        obtain ⟨y288, hy288⟩ : ∃ y_ : List (S64), y_ = (([(⟨97, 122⟩ : S64)] : List (S64))) := ⟨_, rfl⟩
        replace H : (some (y288, true)) = some (r1, r2) := by first | (rw [hy288]; with_reducible exact H) | (have H2_ := (Option.bind_some _ _).symm.trans H; rw [hy288]; with_reducible exact H2_) | (have H2_ := (Option.bind_some _ _).symm.trans H; with_reducible exact H2_) | with_reducible exact H | (rw [hy288]; exact H) | exact H
        have Ny288 := Aside0.mk hy288
        clear hy288
        simp only [Option.some.injEq, Prod.mk.injEq] at H
        obtain ⟨rfl, rfl⟩ := H
        go_enter Try.func28, Try.ntmps28
        go_wp2_with (first | ((with_reducible refine gate_dst (N := 37) rfl ?_); refine Kd.R_lit k64 _ 64 ?hg (N := 37) ?hd (xs := ([(⟨97, 122⟩ : S64)] : List (S64))) (inner := [.int .i64 97, .int .i64 122]) (ok := fun _ => True) (okp := fun _ => True) ?hr ?hp (fun _ hk => hk) trivial (Below.refl _ _) (Nat.le_refl _) (by simp) ?_; (case hd => rfl); (case hg => rfl); (case hr => first | (go_simp; done) | (go_simp; rfl)); (case hp => exact (Reps.c2 (show Kd.M k64 _ _ _ (⟨97, 122⟩ : S64) [.int .i64 97, .int .i64 122] from (k64_mkM _ _ _ (⟨97, 122⟩ : S64) )) (Reps.none _ _))); intro v289 w21 ho22 hb hg_ hnew_; clear hg_ hnew_; (first | rw [← Ny288.out] at ho22 | (simp only [Int.reduceToNat] at ho22; rw [← Ny288.out] at ho22)); have n0_ := Aside0.mk (Kd.R_lower ho22 (below_size (by repeat (first | (with_reducible first | exact HB.out | apply wA | apply wN | apply wD) | exact HB.out)))); have n1_ := Aside0.mk (below_step (by repeat (first | (with_reducible first | exact HB.out | apply wA | apply wN | apply wD) | exact HB.out)) hb); clear HB; have HO290 := n0_; have HB := n1_; clear n0_ n1_; clear hb ho22))
        go_ret2
        exact ⟨_, by first | rfl | (simp [errW_none, errW_some] <;> rfl) | (simp [*, errW_none, errW_some] <;> rfl), by (with_reducible repeat (first | apply rA | apply rN | apply rD)); exact HO290.out, by repeat (first | (with_reducible first | exact HB.out | apply wA | apply wN | apply wD) | exact HB.out)⟩
       ·rw [if_neg c20] at H
        have c20b0 : (a0.toList == ([108, 111, 119, 101, 114] : List UInt8)) = false := beq_eq_false_iff_ne.mpr c20
        have c20b1 : (a0.toList != ([108, 111, 119, 101, 114] : List UInt8)) = true := bne_iff_ne.mpr c20
        by_cases c23 : a0.toList = ([112, 114, 105, 110, 116] : List UInt8)
        ·rw [if_pos c23] at H
         have c23b0 : (a0.toList == ([112, 114, 105, 110, 116] : List UInt8)) = true := beq_iff_eq.mpr c23
         have c23b1 : (a0.toList != ([112, 114, 105, 110, 116] : List UInt8)) = false := bne_eq_false_iff_eq.mpr c23
         clear c23
         obtain ⟨y291, hy291⟩ : ∃ y_ : List (S64), y_ = (([(⟨32, 126⟩ : S64)] : List (S64))) := ⟨_, rfl⟩
         replace H : (some (y291, true)) = some (r1, r2) := by first | (rw [hy291]; with_reducible exact H) | (have H2_ := (Option.bind_some _ _).symm.trans H; rw [hy291]; with_reducible exact H2_) | (have H2_ := (Option.bind_some _ _).symm.trans H; with_reducible exact H2_) | with_reducible exact H | (rw [hy291]; exact H) | exact H
         have Ny291 := Aside0.mk hy291
         clear hy291
         simp only [Option.some.injEq, Prod.mk.injEq] at H
         obtain ⟨rfl, rfl⟩ := H
         go_enter Try.func28, Try.ntmps28
         go_wp2_with (first | ((with_reducible refine gate_dst (N := 41) rfl ?_); refine Kd.R_lit k64 _ 64 ?hg (N := 41) ?hd (xs := ([(⟨32, 126⟩ : S64)] : List (S64))) (inner := [.int .i64 32, .int .i64 126]) (ok := fun _ => True) (okp := fun _ => True) ?hr ?hp (fun _ hk => hk) trivial (Below.refl _ _) (Nat.le_refl _) (by simp) ?_; (case hd => rfl); (case hg => rfl); (case hr => first | (go_simp; done) | (go_simp; rfl)); (case hp => exact (Reps.c2 (show Kd.M k64 _ _ _ (⟨32, 126⟩ : S64) [.int .i64 32, .int .i64 126] from (k64_mkM _ _ _ (⟨32, 126⟩ : S64) )) (Reps.none _ _))); intro v292 w24 ho25 hb hg_ hnew_; clear hg_ hnew_; (first | rw [← Ny291.out] at ho25 | (simp only [Int.reduceToNat] at ho25; rw [← Ny291.out] at ho25)); have n0_ := Aside0.mk (Kd.R_lower ho25 (below_size (by repeat (first | (with_reducible first | exact HB.out | apply wA | apply wN | apply wD) | exact HB.out)))); have n1_ := Aside0.mk (below_step (by repeat (first | (with_reducible first | exact HB.out | apply wA | apply wN | apply wD) | exact HB.out)) hb); clear HB; have HO293 := n0_; have HB := n1_; clear n0_ n1_; clear hb ho25))
         go_ret2
         exact ⟨_, by first | rfl | (simp [errW_none, errW_some] <;> rfl) | (simp [*, errW_none, errW_some] <;> rfl), by (with_reducible repeat (first | apply rA | apply rN | apply rD)); exact HO293.out, by repeat (first | (with_reducible first | exact HB.out | apply wA | apply wN | apply wD) | exact HB.out)⟩
        ·rw [if_neg c23] at H
         have c23b0 : (a0.toList == ([112, 114, 105, 110, 116] : List UInt8)) = false := beq_eq_false_iff_ne.mpr c23
         have c23b1 : (a0.toList != ([112, 114, 105, 110, 116] : List UInt8)) = true := bne_iff_ne.mpr c23
         by_cases c26 : a0.toList = ([112, 117, 110, 99, 116] : List UInt8)
         ·rw [if_pos c26] at H
          have c26b0 : (a0.toList == ([112, 117, 110, 99, 116] : List UInt8)) = true := beq_iff_eq.mpr c26
          have c26b1 : (a0.toList != ([112, 117, 110, 99, 116] : List UInt8)) = false := bne_eq_false_iff_eq.mpr c26
          clear c26
          obtain ⟨y294, hy294⟩ : ∃ y_ : List (S64), y_ = (([(⟨33, 47⟩ : S64), (⟨58, 64⟩ : S64), (⟨91, 96⟩ : S64), (⟨123, 126⟩ : S64)] : List (S64))) := ⟨_, rfl⟩
          replace H : (some (y294, true)) = some (r1, r2) := by first | (rw [hy294]; with_reducible exact H) | (have H2_ := (Option.bind_some _ _).symm.trans H; rw [hy294]; with_reducible exact H2_) | (have H2_ := (Option.bind_some _ _).symm.trans H; with_reducible exact H2_) | with_reducible exact H | (rw [hy294]; exact H) | exact H
          have Ny294 := Aside0.mk hy294
          clear hy294
          simp only [Option.some.injEq, Prod.mk.injEq] at H
          obtain ⟨rfl, rfl⟩ := H
          go_enter Try.func28, Try.ntmps28
          go_wp2_with (first | ((with_reducible refine gate_dst (N := 48) rfl ?_); refine Kd.R_lit k64 _ 64 ?hg (N := 48) ?hd (xs := ([(⟨33, 47⟩ : S64), (⟨58, 64⟩ : S64), (⟨91, 96⟩ : S64), (⟨123, 126⟩ : S64)] : List (S64))) (inner := [.int .i64 33, .int .i64 47, .int .i64 58, .int .i64 64, .int .i64 91, .int .i64 96, .int .i64 123, .int .i64 126]) (ok := fun _ => True) (okp := fun _ => True) ?hr ?hp (fun _ hk => hk) trivial (Below.refl _ _) (Nat.le_refl _) (by simp) ?_; (case hd => rfl); (case hg => rfl); (case hr => first | (go_simp; done) | (go_simp; rfl)); (case hp => exact (Reps.c2 (show Kd.M k64 _ _ _ (⟨33, 47⟩ : S64) [.int .i64 33, .int .i64 47] from (k64_mkM _ _ _ (⟨33, 47⟩ : S64) )) (Reps.c2 (show Kd.M k64 _ _ _ (⟨58, 64⟩ : S64) [.int .i64 58, .int .i64 64] from (k64_mkM _ _ _ (⟨58, 64⟩ : S64) )) (Reps.c2 (show Kd.M k64 _ _ _ (⟨91, 96⟩ : S64) [.int .i64 91, .int .i64 96] from (k64_mkM _ _ _ (⟨91, 96⟩ : S64) )) (Reps.c2 (show Kd.M k64 _ _ _ (⟨123, 126⟩ : S64) [.int .i64 123, .int .i64 126] from (k64_mkM _ _ _ (⟨123, 126⟩ : S64) )) (Reps.none _ _)))))); intro v295 w27 ho28 hb hg_ hnew_; clear hg_ hnew_; (first | rw [← Ny294.out] at ho28 | (simp only [Int.reduceToNat] at ho28; rw [← Ny294.out] at ho28)); have n0_ := Aside0.mk (Kd.R_lower ho28 (below_size (by repeat (first | (with_reducible first | exact HB.out | apply wA | apply wN | apply wD) | exact HB.out)))); have n1_ := Aside0.mk (below_step (by repeat (first | (with_reducible first | exact HB.out | apply wA | apply wN | apply wD) | exact HB.out)) hb); clear HB; have HO296 := n0_; have HB := n1_; clear n0_ n1_; clear hb ho28))
          go_ret2
          exact ⟨_, by first | rfl | (simp [errW_none, errW_some] <;> rfl) | (simp [*, errW_none, errW_some] <;> rfl), by (with_reducible repeat (first | apply rA | apply rN | apply rD)); exact HO296.out, by repeat (first | (with_reducible first | exact HB.out | apply wA | apply wN | apply wD) | exact HB.out)⟩
         ·rw [if_neg c26] at H
          have c26b0 : (a0.toList == ([112, 117, 110, 99, 116] : List UInt8)) = false := beq_eq_false_iff_ne.mpr c26
          have c26b1 : (a0.toList != ([112, 117, 110, 99, 116] : List UInt8)) = true := bne_iff_ne.mpr c26
          by_cases c29 : a0.toList = ([115, 112, 97, 99, 101] : List UInt8)
          ·rw [if_pos c29] at H
           have c29b0 : (a0.toList == ([115, 112, 97, 99, 101] : List UInt8)) = true := beq_iff_eq.mpr c29
           have c29b1 : (a0.toList != ([115, 112, 97, 99, 101] : List UInt8)) = false := bne_eq_false_iff_eq.mpr c29
           clear c29
           obtain ⟨y297, hy297⟩ : ∃ y_ : List (S64), y_ = (([(⟨9, 13⟩ : S64), (⟨32, 32⟩ : S64)] : List (S64))) := ⟨_, rfl⟩
           replace H : (some (y297, true)) = some (r1, r2) := by first | (rw [hy297]; with_reducible exact H) | (have H2_ := (Option.bind_some _ _).symm.trans H; rw [hy297]; with_reducible exact H2_) | (have H2_ := (Option.bind_some _ _).symm.trans H; with_reducible exact H2_) | with_reducible exact H | (rw [hy297]; exact H) | exact H
           have Ny297 := Aside0.mk hy297
           clear hy297
           simp only [Option.some.injEq, Prod.mk.injEq] at H
           obtain ⟨rfl, rfl⟩ := H
           go_enter Try.func28, Try.ntmps28
           go_wp2_with (first | ((with_reducible refine gate_dst (N := 53) rfl ?_); refine Kd.R_lit k64 _ 64 ?hg (N := 53) ?hd (xs := ([(⟨9, 13⟩ : S64), (⟨32, 32⟩ : S64)] : List (S64))) (inner := [.int .i64 9, .int .i64 13, .int .i64 32, .int .i64 32]) (ok := fun _ => True) (okp := fun _ => True) ?hr ?hp (fun _ hk => hk) trivial (Below.refl _ _) (Nat.le_refl _) (by simp) ?_; (case hd => rfl); (case hg => rfl); (case hr => first | (go_simp; done) | (go_simp; rfl)); (case hp => exact (Reps.c2 (show Kd.M k64 _ _ _ (⟨9, 13⟩ : S64) [.int .i64 9, .int .i64 13] from (k64_mkM _ _ _ (⟨9, 13⟩ : S64) )) (Reps.c2 (show Kd.M k64 _ _ _ (⟨32, 32⟩ : S64) [.int .i64 32, .int .i64 32] from (k64_mkM _ _ _ (⟨32, 32⟩ : S64) )) (Reps.none _ _)))); intro v298 w30 ho31 hb hg_ hnew_; clear hg_ hnew_; (first | rw [← Ny297.out] at ho31 | (simp only [Int.reduceToNat] at ho31; rw [← Ny297.out] at ho31)); have n0_ := Aside0.mk (Kd.R_lower ho31 (below_size (by repeat (first | (with_reducible first | exact HB.out | apply wA | apply wN | apply wD) | exact HB.out)))); have n1_ := Aside0.mk (below_step (by repeat (first | (with_reducible first | exact HB.out | apply wA | apply wN | apply wD) | exact HB.out)) hb); clear HB; have HO299 := n0_; have HB := n1_; clear n0_ n1_; clear hb ho31))
           go_ret2
           exact ⟨_, by first | rfl | (simp [errW_none, errW_some] <;> rfl) | (simp [*, errW_none, errW_some] <;> rfl), by (with_reducible repeat (first | apply rA | apply rN | apply rD)); exact HO299.out, by repeat (first | (with_reducible first | exact HB.out | apply wA | apply wN | apply wD) | exact HB.out)⟩
          ·rw [if_neg c29] at H
           have c29b0 : (a0.toList == ([115, 112, 97, 99, 101] : List UInt8)) = false := beq_eq_false_iff_ne.mpr c29
           have c29b1 : (a0.toList != ([115, 112, 97, 99, 101] : List UInt8)) = true := bne_iff_ne.mpr c29
           by_cases c32 : a0.toList = ([117, 112, 112, 101, 114] : List UInt8)
           ·rw [if_pos c32] at H
            have c32b0 : (a0.toList == ([117, 112, 112, 101, 114] : List UInt8)) = true := beq_iff_eq.mpr c32
            have c32b1 : (a0.toList != ([117, 112, 112, 101, 114] : List UInt8)) = false := bne_eq_false_iff_eq.mpr c32
            clear c32
            obtain ⟨y300, hy300⟩ : ∃ y_ : List (S64), y_ = (([(⟨65, 90⟩ : S64)] : List (S64))) := ⟨_, rfl⟩
            replace H : (some (y300, true)) = some (r1, r2) := by first | (rw [hy300]; with_reducible exact H) | (have H2_ := (Option.bind_some _ _).symm.trans H; rw [hy300]; with_reducible exact H2_) | (have H2_ := (Option.bind_some _ _).symm.trans H; with_reducible exact H2_) | with_reducible exact H | (rw [hy300]; exact H) | exact H
            have Ny300 := Aside0.mk hy300
            clear hy300
            simp only [Option.some.injEq, Prod.mk.injEq] at H
            obtain ⟨rfl, rfl⟩ := H
            go_enter Try.func28, Try.ntmps28
            go_wp2_with (first | ((with_reducible refine gate_dst (N := 57) rfl ?_); refine Kd.R_lit k64 _ 64 ?hg (N := 57) ?hd (xs := ([(⟨65, 90⟩ : S64)] : List (S64))) (inner := [.int .i64 65, .int .i64 90]) (ok := fun _ => True) (okp := fun _ => True) ?hr ?hp (fun _ hk => hk) trivial (Below.refl _ _) (Nat.le_refl _) (by simp) ?_; (case hd => rfl); (case hg => rfl); (case hr => first | (go_simp; done) | (go_simp; rfl)); (case hp => exact (Reps.c2 (show Kd.M k64 _ _ _ (⟨65, 90⟩ : S64) [.int .i64 65, .int .i64 90] from (k64_mkM _ _ _ (⟨65, 90⟩ : S64) )) (Reps.none _ _))); intro v301 w33 ho34 hb hg_ hnew_; clear hg_ hnew_; (first | rw [← Ny300.out] at ho34 | (simp only [Int.reduceToNat] at ho34; rw [← Ny300.out] at ho34)); have n0_ := Aside0.mk (Kd.R_lower ho34 (below_size (by repeat (first | (with_reducible first | exact HB.out | apply wA | apply wN | apply wD) | exact HB.out)))); have n1_ := Aside0.mk (below_step (by repeat (first | (with_reducible first | exact HB.out | apply wA | apply wN | apply wD) | exact HB.out)) hb); clear HB; have HO302 := n0_; have HB := n1_; clear n0_ n1_; clear hb ho34))
            go_ret2
            exact ⟨_, by first | rfl | (simp [errW_none, errW_some] <;> rfl) | (simp [*, errW_none, errW_some] <;> rfl), by (with_reducible repeat (first | apply rA | apply rN | apply rD)); exact HO302.out, by repeat (first | (with_reducible first | exact HB.out | apply wA | apply wN | apply wD) | exact HB.out)⟩
           ·rw [if_neg c32] at H
            have c32b0 : (a0.toList == ([117, 112, 112, 101, 114] : List UInt8)) = false := beq_eq_false_iff_ne.mpr c32
            have c32b1 : (a0.toList != ([117, 112, 112, 101, 114] : List UInt8)) = true := bne_iff_ne.mpr c32
            by_cases c35 : a0.toList = ([120, 100, 105, 103, 105, 116] : List UInt8)
            ·rw [if_pos c35] at H
             have c35b0 : (a0.toList == ([120, 100, 105, 103, 105, 116] : List UInt8)) = true := beq_iff_eq.mpr c35
             have c35b1 : (a0.toList != ([120, 100, 105, 103, 105, 116] : List UInt8)) = false := bne_eq_false_iff_eq.mpr c35
             clear c35
             obtain ⟨y303, hy303⟩ : ∃ y_ : List (S64), y_ = (([(⟨48, 57⟩ : S64), (⟨65, 70⟩ : S64), (⟨97, 102⟩ : S64)] : List (S64))) := ⟨_, rfl⟩
             replace H : (some (y303, true)) = some (r1, r2) := by first | (rw [hy303]; with_reducible exact H) | (have H2_ := (Option.bind_some _ _).symm.trans H; rw [hy303]; with_reducible exact H2_) | (have H2_ := (Option.bind_some _ _).symm.trans H; with_reducible exact H2_) | with_reducible exact H | (rw [hy303]; exact H) | exact H
             have Ny303 := Aside0.mk hy303
             clear hy303
             simp only [Option.some.injEq, Prod.mk.injEq] at H
             obtain ⟨rfl, rfl⟩ := H
             go_enter Try.func28, Try.ntmps28
             go_wp2_with (first | ((with_reducible refine gate_dst (N := 63) rfl ?_); refine Kd.R_lit k64 _ 64 ?hg (N := 63) ?hd (xs := ([(⟨48, 57⟩ : S64), (⟨65, 70⟩ : S64), (⟨97, 102⟩ : S64)] : List (S64))) (inner := [.int .i64 48, .int .i64 57, .int .i64 65, .int .i64 70, .int .i64 97, .int .i64 102]) (ok := fun _ => True) (okp := fun _ => True) ?hr ?hp (fun _ hk => hk) trivial (Below.refl _ _) (Nat.le_refl _) (by simp) ?_; (case hd => rfl); (case hg => rfl); (case hr => first | (go_simp; done) | (go_simp; rfl)); (case hp => exact (Reps.c2 (show Kd.M k64 _ _ _ (⟨48, 57⟩ : S64) [.int .i64 48, .int .i64 57] from (k64_mkM _ _ _ (⟨48, 57⟩ : S64) )) (Reps.c2 (show Kd.M k64 _ _ _ (⟨65, 70⟩ : S64) [.int .i64 65, .int .i64 70] from (k64_mkM _ _ _ (⟨65, 70⟩ : S64) )) (Reps.c2 (show Kd.M k64 _ _ _ (⟨97, 102⟩ : S64) [.int .i64 97, .int .i64 102] from (k64_mkM _ _ _ (⟨97, 102⟩ : S64) )) (Reps.none _ _))))); intro v304 w36 ho37 hb hg_ hnew_; clear hg_ hnew_; (first | rw [← Ny303.out] at ho37 | (simp only [Int.reduceToNat] at ho37; rw [← Ny303.out] at ho37)); have n0_ := Aside0.mk (Kd.R_lower ho37 (below_size (by repeat (first | (with_reducible first | exact HB.out | apply wA | apply wN | apply wD) | exact HB.out)))); have n1_ := Aside0.mk (below_step (by repeat (first | (with_reducible first | exact HB.out | apply wA | apply wN | apply wD) | exact HB.out)) hb); clear HB; have HO305 := n0_; have HB := n1_; clear n0_ n1_; clear hb ho37))
             go_ret2
             exact ⟨_, by first | rfl | (simp [errW_none, errW_some] <;> rfl) | (simp [*, errW_none, errW_some] <;> rfl), by (with_reducible repeat (first | apply rA | apply rN | apply rD)); exact HO305.out, by repeat (first | (with_reducible first | exact HB.out | apply wA | apply wN | apply wD) | exact HB.out)⟩
            ·rw [if_neg c35] at H
             have c35b0 : (a0.toList == ([120, 100, 105, 103, 105, 116] : List UInt8)) = false := beq_eq_false_iff_ne.mpr c35
             have c35b1 : (a0.toList != ([120, 100, 105, 103, 105, 116] : List UInt8)) = true := bne_iff_ne.mpr c35
             simp only [Option.some.injEq, Prod.mk.injEq] at H
             obtain ⟨rfl, rfl⟩ := H
             go_enter Try.func28, Try.ntmps28
             go_wp2
             go_ret2
             exact ⟨_, by first | rfl | (simp [errW_none, errW_some] <;> rfl) | (simp [*, errW_none, errW_some] <;> rfl), by first | exact Kd.R_nil _ _ _ _ _ | exact Kd.N_nil _ _ _ _ _ | exact Kd.V_nil _ _ _ _ _ | exact Kd.Q_nil _ _ _ _ _ | exact Kd.S_nil _ _ _ _ _, by repeat (first | (with_reducible first | exact HB.out | apply wA | apply wN | apply wD) | exact HB.out)⟩

end Go.Proofs.Ytamhkdlcoghdbaa.PCls
