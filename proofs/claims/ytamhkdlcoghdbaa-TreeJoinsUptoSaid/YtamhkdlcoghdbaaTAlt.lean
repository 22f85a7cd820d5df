/- Alt of none. -/
import Derived.Test.YtamhkdlcoghdbaaTSet
namespace Go.Proofs.Ytamhkdlcoghdbaa.PCls
open Go.RowKit Go.Proofs.YtamhkdlcoghdbaaW.PrintWords Go.Proofs.YtamhkdlcoghdbaaW.PrintLast Go.Proofs.YtamhkdlcoghdbaaW.PrintMore
set_option linter.unusedVariables false
set_option linter.unusedSimpArgs false

set_option maxHeartbeats 4000000 in
set_option maxRecDepth 100000 in
theorem alt_nil (w : World) : Calls Try.prog 56 #[.slice none 0 0] w fun e w' => e = .returned (.agg #[.int .i64 2, .int .i64 0, .int .i64 0, .int .i64 0, .slice none 0 0, .slice none 0 0]) ∧ Below w.heap.size w w' := by
  have HONE := Lib.hid (fun w => one_none none 0 6 2 0 0 0 none none 0 0 0 0 w)
  have hz := World.alloc_heap_new w (.cells #[.int .i64 0, .int .i64 0, .int .i64 0, .int .i64 0, .slice none 0 0, .slice none 0 0] 44)
  obtain ⟨W1, hW1⟩ : ∃ W1, W1 = w.alloc (.cells #[.int .i64 0, .int .i64 0, .int .i64 0, .int .i64 0, .slice none 0 0, .slice none 0 0] 44) := ⟨_, rfl⟩
  have hs : W1.heap.size = w.heap.size + 1 := by rw [hW1]; simp
  have hbb : Below w.heap.size w W1 := by rw [hW1]; exact (Below.refl _ w).alloc (Nat.le_refl _) _
  rw [← hW1] at hz
  have HZ := Lib.hid hz
  have HS := Lib.hid hs
  have HW1 := Lib.hid hW1
  have HB := Lib.hid hbb
  clear hs hbb hW1
  have HB0 := Lib.hid (show Below w.heap.size w (w.alloc (.cells #[.int .i64 0, .int .i64 0, .int .i64 0, .int .i64 0, .slice none 0 0, .slice none 0 0] 44)) from (Below.refl _ w).alloc (Nat.le_refl _) _)
  clear hz
  go_enter Try.func56, Try.ntmps56
  go_wp2_with fail
  go_loopg [3, 8] 0 (fun gg s3 s8 wr => s3 = .slice none 0 0 ∧ s8 = .int .i64 0 ∧ Aside0 (wr = W1))
  case atStart => exact ⟨rfl, rfl, ⟨HW1.out.symm⟩⟩
  case round =>
    obtain ⟨rfl, rfl, HQ⟩ := hrel
    obtain rfl := HQ.out
    clear HW1 HB0
    go_wp2_with fail
    refine (HONE.out _).mono ?_
    rintro e w5 ⟨rfl, hB5⟩
    have hz5 := (hB5.block _ (by have := HS.out; omega)).trans HZ.out
    have d0 := cell_heap (i := 0) hz5 rfl
    have d1 := cell_heap (i := 1) hz5 rfl
    have d2 := cell_heap (i := 2) hz5 rfl
    have d3 := cell_heap (i := 3) hz5 rfl
    have d4 := cell_heap (i := 4) hz5 rfl
    have d5 := cell_heap (i := 5) hz5 rfl
    have q0 : ∀ o, w5.frozen? ⟨w.heap.size, o, none⟩ = false := fun o => by simp [World.frozen?, hz5]
    have HZ5 := Lib.hid hz5
    have HB5 := Lib.hid hB5
    clear hz5 hB5
    go_wp2
    obtain ⟨WF, hWF⟩ : ∃ WF, WF = put6 w5 w.heap.size 0 (.int .i64 2) (.int .i64 0) (.int .i64 0) (.int .i64 0) (.slice none 0 0) (.slice none 0 0) := ⟨_, rfl⟩
    have hzF : WF.heap[w.heap.size]? = some (.cells #[.int .i64 2, .int .i64 0, .int .i64 0, .int .i64 0, .slice none 0 0, .slice none 0 0] 44 (0, 0)) := by
      rw [hWF]; unfold put6
      exact set_row (set_row (set_row (set_row (set_row (set_row HZ5.out _ _) _ _) _ _) _ _) _ _) _ _
    have hbF : Below w.heap.size w WF := by rw [hWF]; exact put6_below (HB.out.trans (HB5.out.mono HB.out.size)) (Nat.le_refl _) _ _ _ _ _ _ _
    change bodyPost Try.prog Try.f56 _ Exit.ret _ (put6 w5 w.heap.size 0 (.int .i64 2) (.int .i64 0) (.int .i64 0) (.int .i64 0) (.slice none 0 0) (.slice none 0 0))
    rw [← hWF]
    have r0 := cell_heap (i := 0) hzF rfl
    have r1 := cell_heap (i := 1) hzF rfl
    have r2 := cell_heap (i := 2) hzF rfl
    have r3 := cell_heap (i := 3) hzF rfl
    have r4 := cell_heap (i := 4) hzF rfl
    have r5 := cell_heap (i := 5) hzF rfl
    refine bodyPost_ret (v := .agg #[.int .i64 2, .int .i64 0, .int .i64 0, .int .i64 0, .slice none 0 0, .slice none 0 0]) (by simp [results, Try.results56, go_sem, r0, r1, r2, r3, r4, r5]) rfl ?_
    exact ⟨rfl, hbF⟩

end Go.Proofs.Ytamhkdlcoghdbaa.PCls
