/- What the examples ask beside: Rep of what may not be repeated, a set of one number. -/
import Derived.Test.YtamhkdlcoghdbaaTCat
namespace Go.Proofs.Ytamhkdlcoghdbaa.PCls
open Go.RowKit Go.Proofs.YtamhkdlcoghdbaaW.PrintWords Go.Proofs.YtamhkdlcoghdbaaW.PrintLast Go.Proofs.YtamhkdlcoghdbaaW.PrintMore
set_option linter.unusedVariables false
set_option linter.unusedSimpArgs false

set_option maxHeartbeats 4000000 in
set_option maxRecDepth 100000 in
theorem rep_wrong (k m lo hi a b : Int) (ar ak : Option Addr) (lr cr lk ck : Nat) (E : Int) (hE : thing k = false ∧ E = 50 ∨ thing k = true ∧ bounds a b = false ∧ E = 1) (w : World) :
    Calls Try.prog 78 #[.agg #[.int .i64 k, .int .i64 m, .int .i64 lo, .int .i64 hi, .slice ar lr cr, .slice ak lk ck], .int .i64 a, .int .i64 b] w
      fun e w' => e = .returned (.tuple #[.agg #[.int .i64 0, .int .i64 0, .int .i64 0, .int .i64 0, .slice none 0 0, .slice none 0 0], .int .i64 E]) ∧ Below w.heap.size w w' := by
  have ht := fun w => thing_calls k w
  have hb := fun w => bounds_calls a b w
  rcases hE with ⟨h1, rfl⟩ | ⟨h1, h2, rfl⟩
  · rw [h1] at ht
    have HT := Lib.hid ht
    clear ht hb h1
    go_enter Try.func78, Try.ntmps78
    go_wp2_with fail
    refine (HT.out _).mono ?_
    rintro e w2 ⟨rfl, rfl⟩
    go_wp2
    refine bodyPost_ret (v := .tuple #[.agg #[.int .i64 0, .int .i64 0, .int .i64 0, .int .i64 0, .slice none 0 0, .slice none 0 0], .int .i64 50]) (by simp [results, Try.results78, go_sem]) rfl ?_
    exact ⟨rfl, ((Below.refl _ w).alloc (Nat.le_refl _) _).alloc (by simp) _⟩
  · rw [h1] at ht
    rw [h2] at hb
    have HT := Lib.hid ht
    have HB := Lib.hid hb
    clear ht hb h1 h2
    go_enter Try.func78, Try.ntmps78
    go_wp2_with fail
    refine (HT.out _).mono ?_
    rintro e w2 ⟨rfl, rfl⟩
    go_wp2_with fail
    refine (HB.out _).mono ?_
    rintro e w2 ⟨rfl, rfl⟩
    go_wp2
    refine bodyPost_ret (v := .tuple #[.agg #[.int .i64 0, .int .i64 0, .int .i64 0, .int .i64 0, .slice none 0 0, .slice none 0 0], .int .i64 1]) (by simp [results, Try.results78, go_sem]) rfl ?_
    exact ⟨rfl, ((Below.refl _ w).alloc (Nat.le_refl _) _).alloc (by simp) _⟩

set_option maxHeartbeats 4000000 in
set_option maxRecDepth 100000 in
theorem set_calls (x : Int) (hx : -9223372036854775808 ≤ x ∧ x ≤ 9223372036854775807) (w : World) :
    Calls Try.prog 79 #[.int .i64 x] w fun e w' => ∃ g, e = .returned (.agg #[.int .i64 2, .int .i64 0, .int .i64 0, .int .i64 0, .slice (some ⟨g, 0, none⟩) 1 1, .slice none 0 0]) ∧
      NIn w' (fun b => w.heap.size ≤ b ∧ b < w'.heap.size) (.mk 2 0 0 0 [⟨x, x⟩] []) [.int .i64 2, .int .i64 0, .int .i64 0, .int .i64 0, .slice (some ⟨g, 0, none⟩) 1 1, .slice none 0 0] ∧ Below w.heap.size w w' := by
  go_enter Try.func79, Try.ntmps79
  go_wp2
  obtain ⟨WF, hWF⟩ : ∃ WF, WF = (w.alloc (.cells #[.int .i64 2, .int .i64 0, .int .i64 0, .int .i64 0, .slice (some ⟨w.heap.size + 1, 0, none⟩) 1 1, .slice none 0 0] 44)).alloc (.cells #[.int .i64 x, .int .i64 x] 64) := ⟨_, rfl⟩
  have hzF : WF.heap[w.heap.size]? = some (.cells #[.int .i64 2, .int .i64 0, .int .i64 0, .int .i64 0, .slice (some ⟨w.heap.size + 1, 0, none⟩) 1 1, .slice none 0 0] 44 (0, 0)) := by rw [hWF]; exact (Below.heap_alloc _ _ _ (by simp)).trans (World.alloc_heap_new w _)
  have hrF : WF.heap[w.heap.size + 1]? = some (.cells #[.int .i64 x, .int .i64 x] 64 (0, 0)) := by
    have := World.alloc_heap_new (w.alloc (.cells #[.int .i64 2, .int .i64 0, .int .i64 0, .int .i64 0, .slice (some ⟨w.heap.size + 1, 0, none⟩) 1 1, .slice none 0 0] 44)) (.cells #[.int .i64 x, .int .i64 x] 64)
    rw [World.size_alloc] at this
    rw [hWF]; exact this
  have hsF : WF.heap.size = w.heap.size + 2 := by rw [hWF]; simp
  have hbF : Below w.heap.size w WF := by rw [hWF]; exact ((Below.refl _ w).alloc (Nat.le_refl _) _).alloc (by simp) _
  rw [← hWF]
  have r0 := cell_heap (i := 0) hzF rfl
  have r1 := cell_heap (i := 1) hzF rfl
  have r2 := cell_heap (i := 2) hzF rfl
  have r3 := cell_heap (i := 3) hzF rfl
  have r4 := cell_heap (i := 4) hzF rfl
  have r5 := cell_heap (i := 5) hzF rfl
  refine bodyPost_ret (v := .agg #[.int .i64 2, .int .i64 0, .int .i64 0, .int .i64 0, .slice (some ⟨w.heap.size + 1, 0, none⟩) 1 1, .slice none 0 0]) (by simp [results, Try.results79, go_sem, r0, r1, r2, r3, r4, r5]) rfl ?_
  refine ⟨w.heap.size + 1, rfl, ?_, hbF⟩
  refine NIn.mk 2 0 0 0 [⟨x, x⟩] [] (some ⟨w.heap.size + 1, 0, none⟩) none 1 0 (fun _ => []) ⟨rfl, by simp [maxLen], fun _ => ⟨_, rfl, fun j p hj => ?_⟩⟩ (fun ad e _ => by cases e; rw [hsF]; simp only; omega) (by simp) (by simp) ?_ (by simp) (by simp) (fun j t h => by simp at h) (fun j h => by simp at h)
  · have hj0 : j = 0 := by have := (List.getElem?_eq_some_iff.1 hj).1; simp at this; omega
    subst hj0
    simp at hj
    subst hj
    refine ⟨enc2 ⟨x, x⟩, rfl, k64_mk _ _, fun i u hu => ?_⟩
    rw [add_plain]
    match i, hu with
    | 0, hu => simp [enc2] at hu; subst hu; exact cell_heap hrF rfl
    | 1, hu => simp [enc2] at hu; subst hu; exact cell_heap hrF rfl
    | i + 2, hu => simp [enc2] at hu
  · simp [inR]; omega
end Go.Proofs.Ytamhkdlcoghdbaa.PCls
