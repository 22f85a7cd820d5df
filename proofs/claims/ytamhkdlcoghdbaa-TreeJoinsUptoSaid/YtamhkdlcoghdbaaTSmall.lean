/- The small functions of the tree's package: thing, bounds, stands, from, nothing. -/
import Derived.Test.YtamhkdlcoghdbaaTPure
import Derived.Test.YtamhkdlcoghdbaaTMem
import Derived.RangeFuncBox
namespace Go.Proofs.Ytamhkdlcoghdbaa.PCls
open Go.RowKit Go.Proofs.YtamhkdlcoghdbaaW.PrintWords Go.Proofs.YtamhkdlcoghdbaaW.PrintLast Go.Proofs.YtamhkdlcoghdbaaW.PrintMore
set_option linter.unusedVariables false
set_option linter.unusedSimpArgs false

set_option maxHeartbeats 1000000 in
theorem thing_calls (k : Int) (w : World) : Calls Try.prog 109 #[.int .i64 k] w fun e w' => e = .returned (.bool (thing k)) ∧ w' = w := by
  have hk : k = 2 ∨ k = 7 ∨ k = 8 ∨ k = 9 ∨ ((k == 2) = false ∧ (k == 7) = false ∧ (k == 8) = false ∧ (k == 9) = false ∧ thing k = false) := by
    by_cases h2 : k = 2
    · exact .inl h2
    · by_cases h7 : k = 7
      · exact .inr (.inl h7)
      · by_cases h8 : k = 8
        · exact .inr (.inr (.inl h8))
        · by_cases h9 : k = 9
          · exact .inr (.inr (.inr (.inl h9)))
          · refine .inr (.inr (.inr (.inr ⟨beq_eq_false_iff_ne.2 h2, beq_eq_false_iff_ne.2 h7, beq_eq_false_iff_ne.2 h8, beq_eq_false_iff_ne.2 h9, ?_⟩)))
            simp [thing, h2, h7, h8, h9]
  rcases hk with rfl | rfl | rfl | rfl | ⟨h2, h7, h8, h9, ht⟩
  all_goals
    go_enter Try.func109, Try.ntmps109
    go_wp2
    go_ret
  · exact ⟨rfl, rfl⟩
  · exact ⟨rfl, rfl⟩
  · exact ⟨rfl, rfl⟩
  · exact ⟨rfl, rfl⟩
  · exact ⟨by rw [ht]; rfl, rfl⟩

set_option maxHeartbeats 1000000 in
theorem bounds_calls (lo hi : Int) (w : World) : Calls Try.prog 110 #[.int .i64 lo, .int .i64 hi] w fun e w' => e = .returned (.bool (bounds lo hi)) ∧ w' = w := by
  go_enter Try.func110, Try.ntmps110
  go_wp2
  all_goals go_ret
  all_goals refine ⟨congrArg (fun x => Ending.returned (Value.bool x)) ?_, rfl⟩
  all_goals (rw [Bool.eq_iff_iff]; simp [bounds]; omega)

set_option maxHeartbeats 1000000 in
theorem from_calls (k m lo hi : Int) (ar ak : Option Addr) (lr cr lk ck : Nat) (w : World) :
    Calls Try.prog 81 #[.agg #[.int .i64 k, .int .i64 m, .int .i64 lo, .int .i64 hi, .slice ar lr cr, .slice ak lk ck]] w fun e w' => e = .returned (.agg #[.int .i64 k, .int .i64 m, .int .i64 lo, .int .i64 hi, .slice ar lr cr, .slice ak lk ck, .int .i64 1, .int .i64 0, .bool true, .bool true, .bool true]) ∧ Below w.heap.size w w' := by
  go_enter Try.func81, Try.ntmps81
  go_wp2
  refine bodyPost_ret (v := .agg #[.int .i64 k, .int .i64 m, .int .i64 lo, .int .i64 hi, .slice ar lr cr, .slice ak lk ck, .int .i64 1, .int .i64 0, .bool true, .bool true, .bool true]) (by simp [results, Try.results81, go_sem]) rfl ?_
  exact ⟨rfl, ((Below.refl _ w).alloc (Nat.le_refl _) _).alloc (by simp) _⟩

set_option maxHeartbeats 1000000 in
theorem nothing_calls (k m lo hi d a : Int) (ar ak : Option Addr) (lr cr lk ck : Nat) (f l b : Bool) (w : World) :
    Calls Try.prog 90 #[.agg #[.int .i64 k, .int .i64 m, .int .i64 lo, .int .i64 hi, .slice ar lr cr, .slice ak lk ck, .int .i64 d, .int .i64 a, .bool f, .bool l, .bool b]] w fun e w' => e = .returned (.tuple #[]) ∧ Below w.heap.size w w' := by
  go_enter Try.func90, Try.ntmps90
  go_wp2
  go_end0
  exact ⟨rfl, (Below.refl _ w).alloc (Nat.le_refl _) _⟩

set_option maxHeartbeats 4000000 in
theorem stands_calls (k m lo hi d a : Int) (ar ak : Option Addr) (lr cr lk ck : Nat) (f l b : Bool) (B : Bool)
    (hB : B = (if a = 9 then thing k else if a = 6 then !decide (k = 6) else if a = 5 then (if k = 3 then b && f else if k = 4 then b && l else thing k) else true)) (w : World) :
    Calls Try.prog 83 #[.agg #[.int .i64 k, .int .i64 m, .int .i64 lo, .int .i64 hi, .slice ar lr cr, .slice ak lk ck, .int .i64 d, .int .i64 a, .bool f, .bool l, .bool b]] w fun e w' => e = .returned (.bool B) ∧ Below w.heap.size w w' := by
  have ht := fun w => thing_calls k w
  generalize thing k = T at hB ht
  have HT := Lib.hid ht
  have HB := Lib.hid hB
  clear ht hB
  have ha : a = 9 ∨ a = 6 ∨ a = 5 ∨ ((a == 9) = false ∧ (a == 6) = false ∧ (a == 5) = false ∧ a ≠ 9 ∧ a ≠ 6 ∧ a ≠ 5) := by
    by_cases h2 : a = 9
    · exact .inl h2
    · by_cases h7 : a = 6
      · exact .inr (.inl h7)
      · by_cases h8 : a = 5
        · exact .inr (.inr (.inl h8))
        · exact .inr (.inr (.inr ⟨beq_eq_false_iff_ne.2 h2, beq_eq_false_iff_ne.2 h7, beq_eq_false_iff_ne.2 h8, h2, h7, h8⟩))
  rcases ha with rfl | rfl | rfl | ⟨g1, g2, g3, n1, n2, n3⟩
  · go_enter Try.func83, Try.ntmps83
    go_wp2_with fail
    refine (HT.out _).mono ?_
    rintro e w2 ⟨rfl, rfl⟩
    go_wp2
    go_ret
    exact ⟨by rw [HB.out]; rfl, (Below.refl _ w).alloc (Nat.le_refl _) _⟩
  · go_enter Try.func83, Try.ntmps83
    go_wp2_with fail
    go_ret
    exact ⟨by rw [HB.out]; first | (congr 2; done) | (congr 2; rw [Bool.eq_iff_iff]; simp), (Below.refl _ w).alloc (Nat.le_refl _) _⟩
  · have hk : k = 3 ∨ k = 4 ∨ ((k == 3) = false ∧ (k == 4) = false ∧ k ≠ 3 ∧ k ≠ 4) := by
      by_cases h2 : k = 3
      · exact .inl h2
      · by_cases h7 : k = 4
        · exact .inr (.inl h7)
        · exact .inr (.inr ⟨beq_eq_false_iff_ne.2 h2, beq_eq_false_iff_ne.2 h7, h2, h7⟩)
    rcases hk with rfl | rfl | ⟨g1, g2, n1, n2⟩
    · go_enter Try.func83, Try.ntmps83
      go_wp2_with fail
      all_goals go_ret
      all_goals exact ⟨by rw [HB.out]; simp [*], (Below.refl _ w).alloc (Nat.le_refl _) _⟩
    · go_enter Try.func83, Try.ntmps83
      go_wp2_with fail
      all_goals go_ret
      all_goals exact ⟨by rw [HB.out]; simp [*], (Below.refl _ w).alloc (Nat.le_refl _) _⟩
    · go_enter Try.func83, Try.ntmps83
      go_wp2_with fail
      refine (HT.out _).mono ?_
      rintro e w2 ⟨rfl, rfl⟩
      go_wp2
      go_ret
      exact ⟨by rw [HB.out]; simp [n1, n2], (Below.refl _ w).alloc (Nat.le_refl _) _⟩
  · go_enter Try.func83, Try.ntmps83
    go_wp2_with fail
    go_ret
    exact ⟨by rw [HB.out]; simp [n1, n2, n3], (Below.refl _ w).alloc (Nat.le_refl _) _⟩
end Go.Proofs.Ytamhkdlcoghdbaa.PCls
