/- Out of Qd (wip/tools/prune2.py): the declarations alone that the texts of the trees name. -/
import Derived.Test.YtamhkdlcoghdbaaGreatDoorVMQTDepth
namespace Go.Proofs.YtamhkdlcoghdbaaGreatDoor.PCls
open Go.RowKit Go.Shelf Go.Proofs.YtamhkdlcoghdbaaGreatDoorW.PrintWords Go.Proofs.YtamhkdlcoghdbaaGreatDoorW.PrintLast Go.Proofs.YtamhkdlcoghdbaaGreatDoorW.PrintMore
set_option linter.unusedVariables false
set_option linter.unusedSimpArgs false
theorem rep_results (tmps : Array Value) (w : World) (a : Nat) (v0 v1 v2 v3 v4 v5 vb : Value) (h4 : tmps.getD 6 undef = .pointer (some ⟨a, 0, none⟩)) (h5 : tmps.getD 7 undef = vb) (ho : w.heap[a]? = some (.cells #[v0, v1, v2, v3, v4, v5] 43 (0, 0))) :
  (results Tryz.f28 tmps).run Tryz.prog w = .ok (.tuple #[.agg #[v0, v1, v2, v3, v4, v5], vb]) w := by
 have r0 := cell_heap (i := 0) ho rfl
 have r1 := cell_heap (i := 1) ho rfl
 have r2 := cell_heap (i := 2) ho rfl
 have r3 := cell_heap (i := 3) ho rfl
 have r4 := cell_heap (i := 4) ho rfl
 have r5 := cell_heap (i := 5) ho rfl
 have h4' : tmps[6]?.getD undef = .pointer (some ⟨a, 0, none⟩) := by simpa using h4
 have h5' : tmps[7]?.getD undef = vb := by simpa using h5
 simp only [results, show Tryz.f28.results = #[ResultVar.cell 6 43, ResultVar.tmp 7] from rfl]
 simp [h4', h5', go_sem, r0, r1, r2, r3, r4, r5]
set_option maxHeartbeats 8000000 in
set_option maxRecDepth 100000 in
theorem rep_right (t : NT) (a b : Int) (cs : List Value) (w : World) (hk : thing t.k = true) (hb : bounds a b = true) (hN : NIn w (· < w.heap.size) t cs) (hn : t.nodes ≤ 2000) :
  Calls Tryz.prog 28 #[.agg cs.toArray, .int .i64 a, .int .i64 b] w fun e w' => ∃ cs' : List Value, e = .returned (.tuple #[.agg cs'.toArray, .int .i64 0]) ∧ NIn w' (fun b => w.heap.size ≤ b ∧ b < w'.heap.size) (.mk 9 0 a b [] [t]) cs' ∧ Below w.heap.size w w' := by
 obtain ⟨m, lo, hi, ar, ak, lr, cr, lk, ck, rfl⟩ := six' hN
 obtain ⟨W2, hW2⟩ : ∃ X, X = (w.alloc (.cells #[.int .i64 t.k, .int .i64 m, .int .i64 lo, .int .i64 hi, .slice ar lr cr, .slice ak lk ck] 43)).alloc (.cells #[.int .i64 0, .int .i64 0, .int .i64 0, .int .i64 0, .slice none 0 0, .slice none 0 0] 43) := ⟨_, rfl⟩
 have hb2 : Below w.heap.size w W2 := by rw [hW2]; exact ((Below.refl w.heap.size w).alloc (Nat.le_refl _) _).alloc (by simp) _
 have hz2 : W2.heap.size = w.heap.size + 2 := by rw [hW2]; simp
 have hbox : W2.heap[w.heap.size]? = some (.cells #[.int .i64 t.k, .int .i64 m, .int .i64 lo, .int .i64 hi, .slice ar lr cr, .slice ak lk ck] 43 (0, 0)) := by rw [hW2]; exact (heap_alloc_old _ _ (by simp)).trans (heap_alloc_new _ _)
 have hres : W2.heap[w.heap.size + 1]? = some (.cells #[.int .i64 0, .int .i64 0, .int .i64 0, .int .i64 0, .slice none 0 0, .slice none 0 0] 43 (0, 0)) := by rw [hW2]; exact heap_alloc2_new w _ _
 have ht := fun w => thing_calls t.k w
 have hbc := fun w => bounds_calls a b w
 rw [hk] at ht
 rw [hb] at hbc
 have HTW := Lib.hid (twin_calls w.heap.size t.nodes t _ W2 (Nat.le_refl _) (by omega) (hN.move (fun b hb' => hb2.block b hb')))
 have HT := Lib.hid ht
 have HB := Lib.hid hbc
 have HW := Lib.hid (And.intro hb2 (And.intro hz2 hres))
 have c0 := lk_cell (i := 0) hbox rfl
 have c1 := lk_cell (i := 1) hbox rfl
 have c2 := lk_cell (i := 2) hbox rfl
 have c3 := lk_cell (i := 3) hbox rfl
 have c4 := lk_cell (i := 4) hbox rfl
 have c5 := lk_cell (i := 5) hbox rfl
 have hl2 : w.heap.size < W2.heap.size := by omega
 have HW2 := Lib.hid hW2
 clear ht hbc hk hb hb2 hz2 hres hbox hN hn hW2
 go_enter Tryz.func28, Tryz.ntmps28
 go_upto_region 1 with fail
 rw [← HW2.out]
 go_wp2_with fail
 refine (HT.out _).mono ?_
 rintro e w2 ⟨rfl, rfl⟩
 go_wp2_with fail
 refine (HB.out _).mono ?_
 rintro e w2 ⟨rfl, rfl⟩
 go_wp2_with fail
 refine HTW.out.mono ?_
 rintro e w3 ⟨cs', rfl, hN3, hb3⟩
 obtain ⟨kk, km, klo, khi, kar, kak, klr, kcr, klk, kck, rfl⟩ := nin_six hN3
 have hr3 := (hb3.block _ (blk_lt HW.out.2.2)).trans HW.out.2.2
 have hs3 := hb3.size
 have hz2 := HW.out.2.1
 have HN3 := Lib.hid (nin_one (w := w3.alloc (.cells #[.int .i64 kk, .int .i64 km, .int .i64 klo, .int .i64 khi, .slice kar klr kcr, .slice kak klk kck] 43)) (P := fun b => b ≠ w.heap.size + 1 ∧ w.heap.size ≤ b ∧ b < w3.heap.size + 1) 9 0 a b ((hN3.move (w' := w3.alloc (.cells #[.int .i64 kk, .int .i64 km, .int .i64 klo, .int .i64 khi, .slice kar klr kcr, .slice kak klk kck] 43)) (fun b hb => heap_alloc_old _ _ hb.2)).mono (fun b hb => by omega)) (g := w3.heap.size) (by omega) (fun i u hu => lk_cell (heap_alloc_new w3 _) (by simpa using hu)))
 have hr4 : (w3.alloc (.cells #[.int .i64 kk, .int .i64 km, .int .i64 klo, .int .i64 khi, .slice kar klr kcr, .slice kak klk kck] 43)).heap[w.heap.size + 1]? = some (.cells #[.int .i64 0, .int .i64 0, .int .i64 0, .int .i64 0, .slice none 0 0, .slice none 0 0] 43 (0, 0)) := (heap_alloc_old _ _ (by omega)).trans hr3
 have HB4 := Lib.hid ((HW.out.1.trans (hb3.mono HW.out.1.size)).alloc (Nat.le_trans HW.out.1.size hs3) (.cells #[.int .i64 kk, .int .i64 km, .int .i64 klo, .int .i64 khi, .slice kar klr kcr, .slice kak klk kck] 43))
 have HR4 := Lib.hid hr4
 have r0 := lk_cell (i := 0) hr4 rfl
 have r1 := lk_cell (i := 1) hr4 rfl
 have r2 := lk_cell (i := 2) hr4 rfl
 have r3 := lk_cell (i := 3) hr4 rfl
 have r4 := lk_cell (i := 4) hr4 rfl
 have r5 := lk_cell (i := 5) hr4 rfl
 have hf : ∀ o, (w3.alloc (.cells #[.int .i64 kk, .int .i64 km, .int .i64 klo, .int .i64 khi, .slice kar klr kcr, .slice kak klk kck] 43)).frozen? ⟨w.heap.size + 1, o, none⟩ = false := fun o => by simp [World.frozen?, hr4]
 clear hN3 hb3 hr3 hr4 HTW HT HB
 go_wp2_with fail
 refine bodyPost_ret (rep_results _ (put6 (w3.alloc (.cells #[.int .i64 kk, .int .i64 km, .int .i64 klo, .int .i64 khi, .slice kar klr kcr, .slice kak klk kck] 43)) (w.heap.size + 1) 0 (.int .i64 9) (.int .i64 0) (.int .i64 a) (.int .i64 b) (.slice none 0 0) (.slice (some ⟨w3.heap.size, 0, none⟩) 1 1)) (w.heap.size + 1) _ _ _ _ _ _ _ rfl rfl (put6_res HR4.out _ _ _ _ _ _)) rfl ?_
 have e : (put6 (w3.alloc (.cells #[.int .i64 kk, .int .i64 km, .int .i64 klo, .int .i64 khi, .slice kar klr kcr, .slice kak klk kck] 43)) (w.heap.size + 1) 0 (.int .i64 9) (.int .i64 0) (.int .i64 a) (.int .i64 b) (.slice none 0 0) (.slice (some ⟨w3.heap.size, 0, none⟩) 1 1)).heap.size = w3.heap.size + 1 := by rw [put6_size]; simp
 exact ⟨_, rfl, (HN3.out.move (fun b hb => put6_other _ _ _ _ _ _ _ _ _ b hb.1)).mono (fun b hb => ⟨hb.2.1, Nat.lt_of_lt_of_eq hb.2.2 e.symm⟩), put6_below HB4.out (Nat.le_succ _) _ _ _ _ _ _ _⟩
/-- a number from 0 on -/
theorem digits_calls27 (n : Int) (h0 : 0 ≤ n) (h1 : n ≤ 255) (w : World) : Calls Tryz.prog 27 #[.int .i64 n] w fun e w' => e = .returned (.string (digB n)) ∧ Below w.heap.size w w' := by
 obtain ⟨k, rfl⟩ : ∃ k : Nat, n = k := ⟨n.toNat, by omega⟩
 rw [show digB (k : Int) = dig 20 k by unfold digB; rw [if_neg (by omega), Int.toNat_natCast]]
 exact digits_nat 20 k w (Nat.le_refl _) (lt20 k (by omega)) (by omega) (by decide)
end Go.Proofs.YtamhkdlcoghdbaaGreatDoor.PCls
