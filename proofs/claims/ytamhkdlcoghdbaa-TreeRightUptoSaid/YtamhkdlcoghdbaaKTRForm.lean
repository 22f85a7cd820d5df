/- Out of TRForm (wip/tools/prune2.py): the declarations alone that the texts of the trees name. -/
import Derived.Test.YtamhkdlcoghdbaaKMTLay0
import Derived.Test.YtamhkdlcoghdbaaKMYPClsx27
namespace Go.Proofs.Ytamhkdlcoghdbaa.PCls
open Go.RowKit Go.Proofs.YtamhkdlcoghdbaaW.PrintWords Go.Proofs.YtamhkdlcoghdbaaW.PrintLast Go.Proofs.YtamhkdlcoghdbaaW.PrintMore
set_option linter.unusedVariables false
set_option linter.unusedSimpArgs false
set_option maxHeartbeats 4000000 in
theorem refstands_calls (k m lo hi d a en : Int) (ar ak : Option Addr) (lr cr lk ck : Nat) (f l b : Bool) (B : Bool)
  (hB : B = (if a = 9 then thing k else if a = 6 then !decide (k = 6) else if a = 5 then (if k = 3 then b && f else if k = 4 then b && l else thing k) else true)) (w : World) :
  Calls Try.prog 114 #[.agg #[.int .i64 k, .int .i64 m, .int .i64 lo, .int .i64 hi, .slice ar lr cr, .slice ak lk ck, .int .i64 d, .int .i64 a, .bool f, .bool l, .bool b, .int .i64 en]] w fun e w' => e = .returned (.bool B) ∧ Below w.heap.size w w' := by
 have ht := fun w => refthing_calls k w
 generalize thing k = T at hB ht
 have HT := Lib.hid ht
 have HB := Lib.hid hB
 clear ht hB
 have ha : a = 9 ∨ a = 6 ∨ a = 5 ∨ ((a == 9) = false ∧ (a == 6) = false ∧ (a == 5) = false ∧ a ≠ 9 ∧ a ≠ 6 ∧ a ≠ 5) := by
  by_cases h2 : a = 9
  ·exact .inl h2
  ·by_cases h7 : a = 6
   ·exact .inr (.inl h7)
   ·by_cases h8 : a = 5
    ·exact .inr (.inr (.inl h8))
    ·exact .inr (.inr (.inr ⟨beq_eq_false_iff_ne.2 h2, beq_eq_false_iff_ne.2 h7, beq_eq_false_iff_ne.2 h8, h2, h7, h8⟩))
 have hk : k = 3 ∨ k = 4 ∨ ((k == 3) = false ∧ (k == 4) = false ∧ k ≠ 3 ∧ k ≠ 4) := by
  by_cases h2 : k = 3
  ·exact .inl h2
  ·by_cases h7 : k = 4
   ·exact .inr (.inl h7)
   ·exact .inr (.inr ⟨beq_eq_false_iff_ne.2 h2, beq_eq_false_iff_ne.2 h7, h2, h7⟩)
 rcases ha with rfl | rfl | rfl | ⟨g1, g2, g3, n1, n2, n3⟩
 ·go_enter Try.func114, Try.ntmps114
  go_wp2_with fail
  refine (HT.out _).mono ?_
  rintro e w2 ⟨rfl, rfl⟩
  go_wp2
  go_ret
  exact ⟨by rw [HB.out]; rfl, (Below.refl _ w).alloc (Nat.le_refl _) _⟩
 ·go_enter Try.func114, Try.ntmps114
  go_wp2_with fail
  refine (HT.out _).mono ?_
  rintro e w2 ⟨rfl, rfl⟩
  go_wp2
  go_ret
  exact ⟨by rw [HB.out]; first | (congr 2; done) | (congr 2; rw [Bool.eq_iff_iff]; simp), (Below.refl _ w).alloc (Nat.le_refl _) _⟩
 ·rcases hk with rfl | rfl | ⟨g1, g2, n1, n2⟩
  ·go_enter Try.func114, Try.ntmps114
   go_wp2_with fail
   refine (HT.out _).mono ?_
   rintro e w2 ⟨rfl, rfl⟩
   go_wp2
   all_goals go_ret
   all_goals exact ⟨by rw [HB.out]; simp [*], (Below.refl _ w).alloc (Nat.le_refl _) _⟩
  ·go_enter Try.func114, Try.ntmps114
   go_wp2_with fail
   refine (HT.out _).mono ?_
   rintro e w2 ⟨rfl, rfl⟩
   go_wp2
   all_goals go_ret
   all_goals exact ⟨by rw [HB.out]; simp [*], (Below.refl _ w).alloc (Nat.le_refl _) _⟩
  ·go_enter Try.func114, Try.ntmps114
   go_wp2_with fail
   refine (HT.out _).mono ?_
   rintro e w2 ⟨rfl, rfl⟩
   go_wp2
   go_ret
   exact ⟨by rw [HB.out]; simp [n1, n2], (Below.refl _ w).alloc (Nat.le_refl _) _⟩
 ·go_enter Try.func114, Try.ntmps114
  go_wp2_with fail
  refine (HT.out _).mono ?_
  rintro e w2 ⟨rfl, rfl⟩
  go_wp2
  go_ret
  exact ⟨by rw [HB.out]; simp [n1, n2, n3], (Below.refl _ w).alloc (Nat.le_refl _) _⟩
theorem formed_1 (m lo hi : Int) (r : List S64) (kids : List NT) (chars fold : Bool) : formed (.mk 1 m lo hi r kids) chars fold = (decide (kids.length = 0) && decide (r.length = 0) && decide (m = 0) && (decide (lo = 0) && decide (hi = 0))) := rfl
theorem formed_2 (m lo hi : Int) (r : List S64) (kids : List NT) (chars fold : Bool) : formed (.mk 2 m lo hi r kids) chars fold = (setOk r chars fold && (decide (kids.length = 0) && decide (m = 0) && (decide (lo = 0) && decide (hi = 0)))) := rfl
theorem formed_3 (m lo hi : Int) (r : List S64) (kids : List NT) (chars fold : Bool) : formed (.mk 3 m lo hi r kids) chars fold = (decide (kids.length = 0) && decide (r.length = 0) && decide (m = 0) && (decide (lo = 0) && decide (hi = 0))) := rfl
theorem formed_4 (m lo hi : Int) (r : List S64) (kids : List NT) (chars fold : Bool) : formed (.mk 4 m lo hi r kids) chars fold = (decide (kids.length = 0) && decide (r.length = 0) && decide (m = 0) && (decide (lo = 0) && decide (hi = 0))) := rfl
theorem formed_5 (m lo hi : Int) (r : List S64) (kids : List NT) (chars fold : Bool) : formed (.mk 5 m lo hi r kids) chars fold = (decide (2 ≤ kids.length) && decide (r.length = 0) && decide (m = 0) && (decide (lo = 0) && decide (hi = 0))) := rfl
theorem formed_6 (m lo hi : Int) (r : List S64) (kids : List NT) (chars fold : Bool) : formed (.mk 6 m lo hi r kids) chars fold = (decide (2 ≤ kids.length) && decide (r.length = 0) && decide (m = 0) && (decide (lo = 0) && decide (hi = 0))) := rfl
theorem formed_7 (m lo hi : Int) (r : List S64) (kids : List NT) (chars fold : Bool) : formed (.mk 7 m lo hi r kids) chars fold = (decide (kids.length = 1) && decide (r.length = 0) && (decide (lo = 0) && decide (hi = 0))) := rfl
theorem formed_8 (m lo hi : Int) (r : List S64) (kids : List NT) (chars fold : Bool) : formed (.mk 8 m lo hi r kids) chars fold = (decide (1 ≤ m) && decide (m ≤ 9) && decide (kids.length = 0) && decide (r.length = 0) && (decide (lo = 0) && decide (hi = 0))) := rfl
theorem formed_9 (m lo hi : Int) (r : List S64) (kids : List NT) (chars fold : Bool) : formed (.mk 9 m lo hi r kids) chars fold = (bounds lo hi && decide (kids.length = 1) && decide (r.length = 0) && decide (m = 0)) := rfl
/-- place, mode, node boxed -/
structure RfSt (w wr : World) (pc nc : Array Value) (chars fold : Bool) : Prop where
 bel : Below w.heap.size w wr
 pl : wr.heap[w.heap.size]? = some (.cells pc 88 (0, 0))
 mode : wr.heap[w.heap.size + 1]? = some (.cells #[.bool chars, .bool fold] 46 (0, 0))
 node : wr.heap[w.heap.size + 2]? = some (.cells nc 44 (0, 0))
 sz : w.heap.size + 3 ≤ wr.heap.size
theorem RfSt.start (w : World) (pc nc : Array Value) (chars fold : Bool) : RfSt w (((w.alloc (.cells pc 88)).alloc (.cells #[.bool chars, .bool fold] 46)).alloc (.cells nc 44)) pc nc chars fold := by
 have hat : ∀ (A : World) (o : Obj) (b : Nat), b = A.heap.size → (A.alloc o).heap[b]? = some o := fun A o b h => by rw [h]; exact World.alloc_heap_new A o
 have hup : ∀ (A : World) (o x : Obj) (b : Nat), A.heap[b]? = some x → (A.alloc o).heap[b]? = some x := fun A o x b h => (Below.heap_alloc A o b (Array.getElem?_eq_some_iff.1 h).1).trans h
 exact ⟨(((Below.refl _ w).alloc (Nat.le_refl _) _).alloc (by simp) _).alloc (by simp; omega) _, hup _ _ _ _ (hup _ _ _ _ (hat _ _ _ rfl)), hup _ _ _ _ (hat _ _ _ (by simp)), hat _ _ _ (by simp), by simp⟩
theorem RfSt.below {w A B : World} {pc nc : Array Value} {chars fold : Bool} (h : RfSt w A pc nc chars fold) (hb : Below A.heap.size A B) : RfSt w B pc nc chars fold :=
 ⟨h.bel.trans (hb.mono h.bel.size), (hb.block _ (by have := h.sz; omega)).trans h.pl, (hb.block _ (by have := h.sz; omega)).trans h.mode, (hb.block _ (by have := h.sz; omega)).trans h.node, Nat.le_trans h.sz hb.size⟩
set_option maxHeartbeats 4000000 in
theorem refformed_1 (m lo hi d a en : Int) (r : List S64) (kids : List NT) (ar ak : Option Addr) (cr ck : Nat) (f l b chars fold : Bool) (w : World) (S : Bool) (hS : S = stands ⟨.mk 1 m lo hi r kids, d, a, f, l, b⟩) :
  Calls Try.prog 99 #[.agg #[.int .i64 1, .int .i64 m, .int .i64 lo, .int .i64 hi, .slice ar r.length cr, .slice ak kids.length ck, .int .i64 d, .int .i64 a, .bool f, .bool l, .bool b, .int .i64 en], .agg #[.bool chars, .bool fold]] w fun e w' => e = .returned (.bool (S && formed (.mk 1 m lo hi r kids) chars fold)) ∧ Below w.heap.size w w' := by
 have hsc := fun w => refstands_calls 1 m lo hi d a en ar ak r.length cr kids.length ck f l b S hS w
 obtain ⟨W3, hW3⟩ : ∃ W3, W3 = ((w.alloc (.cells #[.int .i64 1, .int .i64 m, .int .i64 lo, .int .i64 hi, .slice ar r.length cr, .slice ak kids.length ck, .int .i64 d, .int .i64 a, .bool f, .bool l, .bool b, .int .i64 en] 88)).alloc (.cells #[.bool chars, .bool fold] 46)).alloc (.cells #[.int .i64 1, .int .i64 m, .int .i64 lo, .int .i64 hi, .slice ar r.length cr, .slice ak kids.length ck] 44) := ⟨_, rfl⟩
 have HST := Lib.hid (show RfSt w W3 #[.int .i64 1, .int .i64 m, .int .i64 lo, .int .i64 hi, .slice ar r.length cr, .slice ak kids.length ck, .int .i64 d, .int .i64 a, .bool f, .bool l, .bool b, .int .i64 en] #[.int .i64 1, .int .i64 m, .int .i64 lo, .int .i64 hi, .slice ar r.length cr, .slice ak kids.length ck] chars fold by rw [hW3]; exact RfSt.start w _ _ chars fold)
 have HW3 := Lib.hid hW3
 have HSC := Lib.hid hsc
 have HS := Lib.hid hS
 clear hW3 hsc hS
 go_enter Try.func99, Try.ntmps99
 go_wp2_with fail
 rw [← HW3.out]
 refine (HSC.out _).mono ?_
 rintro e w4 ⟨rfl, hb4⟩
 have HS4 := Lib.hid (HST.out.below hb4)
 clear hb4 HS
 cases S with
 | false =>
  go_wp2_with fail
  go_ret
  exact ⟨rfl, HS4.out.bel⟩
 | true =>
  have n0 := cell_heap (i := 0) HS4.out.node rfl
  have n1 := cell_heap (i := 1) HS4.out.node rfl
  have n2 := cell_heap (i := 2) HS4.out.node rfl
  have n3 := cell_heap (i := 3) HS4.out.node rfl
  have n4 := cell_heap (i := 4) HS4.out.node rfl
  have n5 := cell_heap (i := 5) HS4.out.node rfl
  go_wp2_with fail
  refine (bare_calls 1 m lo hi ar ak r.length cr kids.length ck false false false false w4).mono ?_
  rintro e w5 ⟨rfl, hb⟩
  have HS5 := Lib.hid (HS4.out.below hb)
  clear hb
  clear n0 n1 n2 n3 n4 n5
  go_wp2_with fail
  go_ret
  exact ⟨congrArg (fun x => Ending.returned (Value.bool x)) (by (try rw [Bool.true_and]); rw [formed_1]; unfold bareB; generalize decide (m = 0) = A; generalize decide (lo = 0) = B; generalize decide (hi = 0) = C; generalize decide (r.length = 0) = D; generalize decide (kids.length = 0) = E; revert A B C D E; decide), HS5.out.bel⟩
set_option maxHeartbeats 4000000 in
theorem refformed_3 (m lo hi d a en : Int) (r : List S64) (kids : List NT) (ar ak : Option Addr) (cr ck : Nat) (f l b chars fold : Bool) (w : World) (S : Bool) (hS : S = stands ⟨.mk 3 m lo hi r kids, d, a, f, l, b⟩) :
  Calls Try.prog 99 #[.agg #[.int .i64 3, .int .i64 m, .int .i64 lo, .int .i64 hi, .slice ar r.length cr, .slice ak kids.length ck, .int .i64 d, .int .i64 a, .bool f, .bool l, .bool b, .int .i64 en], .agg #[.bool chars, .bool fold]] w fun e w' => e = .returned (.bool (S && formed (.mk 3 m lo hi r kids) chars fold)) ∧ Below w.heap.size w w' := by
 have hsc := fun w => refstands_calls 3 m lo hi d a en ar ak r.length cr kids.length ck f l b S hS w
 obtain ⟨W3, hW3⟩ : ∃ W3, W3 = ((w.alloc (.cells #[.int .i64 3, .int .i64 m, .int .i64 lo, .int .i64 hi, .slice ar r.length cr, .slice ak kids.length ck, .int .i64 d, .int .i64 a, .bool f, .bool l, .bool b, .int .i64 en] 88)).alloc (.cells #[.bool chars, .bool fold] 46)).alloc (.cells #[.int .i64 3, .int .i64 m, .int .i64 lo, .int .i64 hi, .slice ar r.length cr, .slice ak kids.length ck] 44) := ⟨_, rfl⟩
 have HST := Lib.hid (show RfSt w W3 #[.int .i64 3, .int .i64 m, .int .i64 lo, .int .i64 hi, .slice ar r.length cr, .slice ak kids.length ck, .int .i64 d, .int .i64 a, .bool f, .bool l, .bool b, .int .i64 en] #[.int .i64 3, .int .i64 m, .int .i64 lo, .int .i64 hi, .slice ar r.length cr, .slice ak kids.length ck] chars fold by rw [hW3]; exact RfSt.start w _ _ chars fold)
 have HW3 := Lib.hid hW3
 have HSC := Lib.hid hsc
 have HS := Lib.hid hS
 clear hW3 hsc hS
 go_enter Try.func99, Try.ntmps99
 go_wp2_with fail
 rw [← HW3.out]
 refine (HSC.out _).mono ?_
 rintro e w4 ⟨rfl, hb4⟩
 have HS4 := Lib.hid (HST.out.below hb4)
 clear hb4 HS
 cases S with
 | false =>
  go_wp2_with fail
  go_ret
  exact ⟨rfl, HS4.out.bel⟩
 | true =>
  have n0 := cell_heap (i := 0) HS4.out.node rfl
  have n1 := cell_heap (i := 1) HS4.out.node rfl
  have n2 := cell_heap (i := 2) HS4.out.node rfl
  have n3 := cell_heap (i := 3) HS4.out.node rfl
  have n4 := cell_heap (i := 4) HS4.out.node rfl
  have n5 := cell_heap (i := 5) HS4.out.node rfl
  go_wp2_with fail
  refine (bare_calls 3 m lo hi ar ak r.length cr kids.length ck false false false false w4).mono ?_
  rintro e w5 ⟨rfl, hb⟩
  have HS5 := Lib.hid (HS4.out.below hb)
  clear hb
  clear n0 n1 n2 n3 n4 n5
  go_wp2_with fail
  go_ret
  exact ⟨congrArg (fun x => Ending.returned (Value.bool x)) (by (try rw [Bool.true_and]); rw [formed_3]; unfold bareB; generalize decide (m = 0) = A; generalize decide (lo = 0) = B; generalize decide (hi = 0) = C; generalize decide (r.length = 0) = D; generalize decide (kids.length = 0) = E; revert A B C D E; decide), HS5.out.bel⟩
set_option maxHeartbeats 4000000 in
theorem refformed_4 (m lo hi d a en : Int) (r : List S64) (kids : List NT) (ar ak : Option Addr) (cr ck : Nat) (f l b chars fold : Bool) (w : World) (S : Bool) (hS : S = stands ⟨.mk 4 m lo hi r kids, d, a, f, l, b⟩) :
  Calls Try.prog 99 #[.agg #[.int .i64 4, .int .i64 m, .int .i64 lo, .int .i64 hi, .slice ar r.length cr, .slice ak kids.length ck, .int .i64 d, .int .i64 a, .bool f, .bool l, .bool b, .int .i64 en], .agg #[.bool chars, .bool fold]] w fun e w' => e = .returned (.bool (S && formed (.mk 4 m lo hi r kids) chars fold)) ∧ Below w.heap.size w w' := by
 have hsc := fun w => refstands_calls 4 m lo hi d a en ar ak r.length cr kids.length ck f l b S hS w
 obtain ⟨W3, hW3⟩ : ∃ W3, W3 = ((w.alloc (.cells #[.int .i64 4, .int .i64 m, .int .i64 lo, .int .i64 hi, .slice ar r.length cr, .slice ak kids.length ck, .int .i64 d, .int .i64 a, .bool f, .bool l, .bool b, .int .i64 en] 88)).alloc (.cells #[.bool chars, .bool fold] 46)).alloc (.cells #[.int .i64 4, .int .i64 m, .int .i64 lo, .int .i64 hi, .slice ar r.length cr, .slice ak kids.length ck] 44) := ⟨_, rfl⟩
 have HST := Lib.hid (show RfSt w W3 #[.int .i64 4, .int .i64 m, .int .i64 lo, .int .i64 hi, .slice ar r.length cr, .slice ak kids.length ck, .int .i64 d, .int .i64 a, .bool f, .bool l, .bool b, .int .i64 en] #[.int .i64 4, .int .i64 m, .int .i64 lo, .int .i64 hi, .slice ar r.length cr, .slice ak kids.length ck] chars fold by rw [hW3]; exact RfSt.start w _ _ chars fold)
 have HW3 := Lib.hid hW3
 have HSC := Lib.hid hsc
 have HS := Lib.hid hS
 clear hW3 hsc hS
 go_enter Try.func99, Try.ntmps99
 go_wp2_with fail
 rw [← HW3.out]
 refine (HSC.out _).mono ?_
 rintro e w4 ⟨rfl, hb4⟩
 have HS4 := Lib.hid (HST.out.below hb4)
 clear hb4 HS
 cases S with
 | false =>
  go_wp2_with fail
  go_ret
  exact ⟨rfl, HS4.out.bel⟩
 | true =>
  have n0 := cell_heap (i := 0) HS4.out.node rfl
  have n1 := cell_heap (i := 1) HS4.out.node rfl
  have n2 := cell_heap (i := 2) HS4.out.node rfl
  have n3 := cell_heap (i := 3) HS4.out.node rfl
  have n4 := cell_heap (i := 4) HS4.out.node rfl
  have n5 := cell_heap (i := 5) HS4.out.node rfl
  go_wp2_with fail
  refine (bare_calls 4 m lo hi ar ak r.length cr kids.length ck false false false false w4).mono ?_
  rintro e w5 ⟨rfl, hb⟩
  have HS5 := Lib.hid (HS4.out.below hb)
  clear hb
  clear n0 n1 n2 n3 n4 n5
  go_wp2_with fail
  go_ret
  exact ⟨congrArg (fun x => Ending.returned (Value.bool x)) (by (try rw [Bool.true_and]); rw [formed_4]; unfold bareB; generalize decide (m = 0) = A; generalize decide (lo = 0) = B; generalize decide (hi = 0) = C; generalize decide (r.length = 0) = D; generalize decide (kids.length = 0) = E; revert A B C D E; decide), HS5.out.bel⟩
set_option maxHeartbeats 4000000 in
theorem refformed_5 (m lo hi d a en : Int) (r : List S64) (kids : List NT) (ar ak : Option Addr) (cr ck : Nat) (f l b chars fold : Bool) (w : World) (S : Bool) (hS : S = stands ⟨.mk 5 m lo hi r kids, d, a, f, l, b⟩) :
  Calls Try.prog 99 #[.agg #[.int .i64 5, .int .i64 m, .int .i64 lo, .int .i64 hi, .slice ar r.length cr, .slice ak kids.length ck, .int .i64 d, .int .i64 a, .bool f, .bool l, .bool b, .int .i64 en], .agg #[.bool chars, .bool fold]] w fun e w' => e = .returned (.bool (S && formed (.mk 5 m lo hi r kids) chars fold)) ∧ Below w.heap.size w w' := by
 have hsc := fun w => refstands_calls 5 m lo hi d a en ar ak r.length cr kids.length ck f l b S hS w
 obtain ⟨W3, hW3⟩ : ∃ W3, W3 = ((w.alloc (.cells #[.int .i64 5, .int .i64 m, .int .i64 lo, .int .i64 hi, .slice ar r.length cr, .slice ak kids.length ck, .int .i64 d, .int .i64 a, .bool f, .bool l, .bool b, .int .i64 en] 88)).alloc (.cells #[.bool chars, .bool fold] 46)).alloc (.cells #[.int .i64 5, .int .i64 m, .int .i64 lo, .int .i64 hi, .slice ar r.length cr, .slice ak kids.length ck] 44) := ⟨_, rfl⟩
 have HST := Lib.hid (show RfSt w W3 #[.int .i64 5, .int .i64 m, .int .i64 lo, .int .i64 hi, .slice ar r.length cr, .slice ak kids.length ck, .int .i64 d, .int .i64 a, .bool f, .bool l, .bool b, .int .i64 en] #[.int .i64 5, .int .i64 m, .int .i64 lo, .int .i64 hi, .slice ar r.length cr, .slice ak kids.length ck] chars fold by rw [hW3]; exact RfSt.start w _ _ chars fold)
 have HW3 := Lib.hid hW3
 have HSC := Lib.hid hsc
 have HS := Lib.hid hS
 clear hW3 hsc hS
 go_enter Try.func99, Try.ntmps99
 go_wp2_with fail
 rw [← HW3.out]
 refine (HSC.out _).mono ?_
 rintro e w4 ⟨rfl, hb4⟩
 have HS4 := Lib.hid (HST.out.below hb4)
 clear hb4 HS
 cases S with
 | false =>
  go_wp2_with fail
  go_ret
  exact ⟨rfl, HS4.out.bel⟩
 | true =>
  have n0 := cell_heap (i := 0) HS4.out.node rfl
  have n1 := cell_heap (i := 1) HS4.out.node rfl
  have n2 := cell_heap (i := 2) HS4.out.node rfl
  have n3 := cell_heap (i := 3) HS4.out.node rfl
  have n4 := cell_heap (i := 4) HS4.out.node rfl
  have n5 := cell_heap (i := 5) HS4.out.node rfl
  by_cases hl : 1 < kids.length
  ·have hl1 : (1 : Int) < (kids.length : Int) := by omega
   go_wp2_with fail
   refine (bare_calls 5 m lo hi ar ak r.length cr kids.length ck false false false true w4).mono ?_
   rintro e w5 ⟨rfl, hb⟩
   have HS5 := Lib.hid (HS4.out.below hb)
   clear hb
   clear n0 n1 n2 n3 n4 n5
   go_wp2_with fail
   go_ret
   exact ⟨congrArg (fun x => Ending.returned (Value.bool x)) (by (try rw [Bool.true_and]); rw [formed_5, decide_eq_true (show 2 ≤ kids.length from hl), Bool.true_and]; unfold bareB; generalize decide (m = 0) = A; generalize decide (lo = 0) = B; generalize decide (hi = 0) = C; generalize decide (r.length = 0) = D; generalize decide (kids.length = 0) = E; revert A B C D E; decide), HS5.out.bel⟩
  ·have hl1 : ¬ (1 : Int) < (kids.length : Int) := by omega
   go_wp2_with fail
   go_ret
   exact ⟨congrArg (fun x => Ending.returned (Value.bool x)) (by (try rw [Bool.true_and]); rw [formed_5, decide_eq_false (show ¬ 2 ≤ kids.length from hl)]; rfl), HS4.out.bel⟩
set_option maxHeartbeats 4000000 in
theorem refformed_6 (m lo hi d a en : Int) (r : List S64) (kids : List NT) (ar ak : Option Addr) (cr ck : Nat) (f l b chars fold : Bool) (w : World) (S : Bool) (hS : S = stands ⟨.mk 6 m lo hi r kids, d, a, f, l, b⟩) :
  Calls Try.prog 99 #[.agg #[.int .i64 6, .int .i64 m, .int .i64 lo, .int .i64 hi, .slice ar r.length cr, .slice ak kids.length ck, .int .i64 d, .int .i64 a, .bool f, .bool l, .bool b, .int .i64 en], .agg #[.bool chars, .bool fold]] w fun e w' => e = .returned (.bool (S && formed (.mk 6 m lo hi r kids) chars fold)) ∧ Below w.heap.size w w' := by
 have hsc := fun w => refstands_calls 6 m lo hi d a en ar ak r.length cr kids.length ck f l b S hS w
 obtain ⟨W3, hW3⟩ : ∃ W3, W3 = ((w.alloc (.cells #[.int .i64 6, .int .i64 m, .int .i64 lo, .int .i64 hi, .slice ar r.length cr, .slice ak kids.length ck, .int .i64 d, .int .i64 a, .bool f, .bool l, .bool b, .int .i64 en] 88)).alloc (.cells #[.bool chars, .bool fold] 46)).alloc (.cells #[.int .i64 6, .int .i64 m, .int .i64 lo, .int .i64 hi, .slice ar r.length cr, .slice ak kids.length ck] 44) := ⟨_, rfl⟩
 have HST := Lib.hid (show RfSt w W3 #[.int .i64 6, .int .i64 m, .int .i64 lo, .int .i64 hi, .slice ar r.length cr, .slice ak kids.length ck, .int .i64 d, .int .i64 a, .bool f, .bool l, .bool b, .int .i64 en] #[.int .i64 6, .int .i64 m, .int .i64 lo, .int .i64 hi, .slice ar r.length cr, .slice ak kids.length ck] chars fold by rw [hW3]; exact RfSt.start w _ _ chars fold)
 have HW3 := Lib.hid hW3
 have HSC := Lib.hid hsc
 have HS := Lib.hid hS
 clear hW3 hsc hS
 go_enter Try.func99, Try.ntmps99
 go_wp2_with fail
 rw [← HW3.out]
 refine (HSC.out _).mono ?_
 rintro e w4 ⟨rfl, hb4⟩
 have HS4 := Lib.hid (HST.out.below hb4)
 clear hb4 HS
 cases S with
 | false =>
  go_wp2_with fail
  go_ret
  exact ⟨rfl, HS4.out.bel⟩
 | true =>
  have n0 := cell_heap (i := 0) HS4.out.node rfl
  have n1 := cell_heap (i := 1) HS4.out.node rfl
  have n2 := cell_heap (i := 2) HS4.out.node rfl
  have n3 := cell_heap (i := 3) HS4.out.node rfl
  have n4 := cell_heap (i := 4) HS4.out.node rfl
  have n5 := cell_heap (i := 5) HS4.out.node rfl
  by_cases hl : 1 < kids.length
  ·have hl1 : (1 : Int) < (kids.length : Int) := by omega
   go_wp2_with fail
   refine (bare_calls 6 m lo hi ar ak r.length cr kids.length ck false false false true w4).mono ?_
   rintro e w5 ⟨rfl, hb⟩
   have HS5 := Lib.hid (HS4.out.below hb)
   clear hb
   clear n0 n1 n2 n3 n4 n5
   go_wp2_with fail
   go_ret
   exact ⟨congrArg (fun x => Ending.returned (Value.bool x)) (by (try rw [Bool.true_and]); rw [formed_6, decide_eq_true (show 2 ≤ kids.length from hl), Bool.true_and]; unfold bareB; generalize decide (m = 0) = A; generalize decide (lo = 0) = B; generalize decide (hi = 0) = C; generalize decide (r.length = 0) = D; generalize decide (kids.length = 0) = E; revert A B C D E; decide), HS5.out.bel⟩
  ·have hl1 : ¬ (1 : Int) < (kids.length : Int) := by omega
   go_wp2_with fail
   go_ret
   exact ⟨congrArg (fun x => Ending.returned (Value.bool x)) (by (try rw [Bool.true_and]); rw [formed_6, decide_eq_false (show ¬ 2 ≤ kids.length from hl)]; rfl), HS4.out.bel⟩
set_option maxHeartbeats 4000000 in
theorem refformed_7 (m lo hi d a en : Int) (r : List S64) (kids : List NT) (ar ak : Option Addr) (cr ck : Nat) (f l b chars fold : Bool) (w : World) (S : Bool) (hS : S = stands ⟨.mk 7 m lo hi r kids, d, a, f, l, b⟩) :
  Calls Try.prog 99 #[.agg #[.int .i64 7, .int .i64 m, .int .i64 lo, .int .i64 hi, .slice ar r.length cr, .slice ak kids.length ck, .int .i64 d, .int .i64 a, .bool f, .bool l, .bool b, .int .i64 en], .agg #[.bool chars, .bool fold]] w fun e w' => e = .returned (.bool (S && formed (.mk 7 m lo hi r kids) chars fold)) ∧ Below w.heap.size w w' := by
 have hsc := fun w => refstands_calls 7 m lo hi d a en ar ak r.length cr kids.length ck f l b S hS w
 obtain ⟨W3, hW3⟩ : ∃ W3, W3 = ((w.alloc (.cells #[.int .i64 7, .int .i64 m, .int .i64 lo, .int .i64 hi, .slice ar r.length cr, .slice ak kids.length ck, .int .i64 d, .int .i64 a, .bool f, .bool l, .bool b, .int .i64 en] 88)).alloc (.cells #[.bool chars, .bool fold] 46)).alloc (.cells #[.int .i64 7, .int .i64 m, .int .i64 lo, .int .i64 hi, .slice ar r.length cr, .slice ak kids.length ck] 44) := ⟨_, rfl⟩
 have HST := Lib.hid (show RfSt w W3 #[.int .i64 7, .int .i64 m, .int .i64 lo, .int .i64 hi, .slice ar r.length cr, .slice ak kids.length ck, .int .i64 d, .int .i64 a, .bool f, .bool l, .bool b, .int .i64 en] #[.int .i64 7, .int .i64 m, .int .i64 lo, .int .i64 hi, .slice ar r.length cr, .slice ak kids.length ck] chars fold by rw [hW3]; exact RfSt.start w _ _ chars fold)
 have HW3 := Lib.hid hW3
 have HSC := Lib.hid hsc
 have HS := Lib.hid hS
 clear hW3 hsc hS
 go_enter Try.func99, Try.ntmps99
 go_wp2_with fail
 rw [← HW3.out]
 refine (HSC.out _).mono ?_
 rintro e w4 ⟨rfl, hb4⟩
 have HS4 := Lib.hid (HST.out.below hb4)
 clear hb4 HS
 cases S with
 | false =>
  go_wp2_with fail
  go_ret
  exact ⟨rfl, HS4.out.bel⟩
 | true =>
  have n0 := cell_heap (i := 0) HS4.out.node rfl
  have n1 := cell_heap (i := 1) HS4.out.node rfl
  have n2 := cell_heap (i := 2) HS4.out.node rfl
  have n3 := cell_heap (i := 3) HS4.out.node rfl
  have n4 := cell_heap (i := 4) HS4.out.node rfl
  have n5 := cell_heap (i := 5) HS4.out.node rfl
  by_cases hl : kids.length = 1
  ·have hl1 : ((kids.length : Int) == 1) = true := by rw [beq_iff_eq]; omega
   have HL := Lib.hid hl
   clear hl
   go_wp2_with fail
   refine (bare_calls 7 m lo hi ar ak r.length cr kids.length ck true false false true w4).mono ?_
   rintro e w5 ⟨rfl, hb⟩
   have HS5 := Lib.hid (HS4.out.below hb)
   clear hb
   clear n0 n1 n2 n3 n4 n5
   go_wp2_with fail
   go_ret
   exact ⟨congrArg (fun x => Ending.returned (Value.bool x)) (by (try rw [Bool.true_and]); rw [formed_7, decide_eq_true HL.out, Bool.true_and]; unfold bareB; generalize decide (m = 0) = A; generalize decide (lo = 0) = B; generalize decide (hi = 0) = C; generalize decide (r.length = 0) = D; generalize decide (kids.length = 0) = E; revert A B C D E; decide), HS5.out.bel⟩
  ·have hl1 : ((kids.length : Int) == 1) = false := by rw [beq_eq_false_iff_ne]; omega
   go_wp2_with fail
   go_ret
   exact ⟨congrArg (fun x => Ending.returned (Value.bool x)) (by (try rw [Bool.true_and]); rw [formed_7, decide_eq_false hl]; rfl), HS4.out.bel⟩
set_option maxHeartbeats 4000000 in
theorem refformed_8 (m lo hi d a en : Int) (r : List S64) (kids : List NT) (ar ak : Option Addr) (cr ck : Nat) (f l b chars fold : Bool) (w : World) (S : Bool) (hS : S = stands ⟨.mk 8 m lo hi r kids, d, a, f, l, b⟩) :
  Calls Try.prog 99 #[.agg #[.int .i64 8, .int .i64 m, .int .i64 lo, .int .i64 hi, .slice ar r.length cr, .slice ak kids.length ck, .int .i64 d, .int .i64 a, .bool f, .bool l, .bool b, .int .i64 en], .agg #[.bool chars, .bool fold]] w fun e w' => e = .returned (.bool (S && formed (.mk 8 m lo hi r kids) chars fold)) ∧ Below w.heap.size w w' := by
 have hsc := fun w => refstands_calls 8 m lo hi d a en ar ak r.length cr kids.length ck f l b S hS w
 obtain ⟨W3, hW3⟩ : ∃ W3, W3 = ((w.alloc (.cells #[.int .i64 8, .int .i64 m, .int .i64 lo, .int .i64 hi, .slice ar r.length cr, .slice ak kids.length ck, .int .i64 d, .int .i64 a, .bool f, .bool l, .bool b, .int .i64 en] 88)).alloc (.cells #[.bool chars, .bool fold] 46)).alloc (.cells #[.int .i64 8, .int .i64 m, .int .i64 lo, .int .i64 hi, .slice ar r.length cr, .slice ak kids.length ck] 44) := ⟨_, rfl⟩
 have HST := Lib.hid (show RfSt w W3 #[.int .i64 8, .int .i64 m, .int .i64 lo, .int .i64 hi, .slice ar r.length cr, .slice ak kids.length ck, .int .i64 d, .int .i64 a, .bool f, .bool l, .bool b, .int .i64 en] #[.int .i64 8, .int .i64 m, .int .i64 lo, .int .i64 hi, .slice ar r.length cr, .slice ak kids.length ck] chars fold by rw [hW3]; exact RfSt.start w _ _ chars fold)
 have HW3 := Lib.hid hW3
 have HSC := Lib.hid hsc
 have HS := Lib.hid hS
 clear hW3 hsc hS
 go_enter Try.func99, Try.ntmps99
 go_wp2_with fail
 rw [← HW3.out]
 refine (HSC.out _).mono ?_
 rintro e w4 ⟨rfl, hb4⟩
 have HS4 := Lib.hid (HST.out.below hb4)
 clear hb4 HS
 cases S with
 | false =>
  go_wp2_with fail
  go_ret
  exact ⟨rfl, HS4.out.bel⟩
 | true =>
  have n0 := cell_heap (i := 0) HS4.out.node rfl
  have n1 := cell_heap (i := 1) HS4.out.node rfl
  have n2 := cell_heap (i := 2) HS4.out.node rfl
  have n3 := cell_heap (i := 3) HS4.out.node rfl
  have n4 := cell_heap (i := 4) HS4.out.node rfl
  have n5 := cell_heap (i := 5) HS4.out.node rfl
  by_cases h1 : 1 ≤ m
  ·by_cases h9 : m ≤ 9
   ·skip
    go_wp2_with fail
    refine (bare_calls 8 m lo hi ar ak r.length cr kids.length ck true false false false w4).mono ?_
    rintro e w5 ⟨rfl, hb⟩
    have HS5 := Lib.hid (HS4.out.below hb)
    clear hb n0 n1 n2 n3 n4 n5
    go_wp2_with fail
    go_ret
    exact ⟨congrArg (fun x => Ending.returned (Value.bool x)) (by (try rw [Bool.true_and]); rw [formed_8, decide_eq_true h1, decide_eq_true h9, Bool.true_and, Bool.true_and]; unfold bareB; generalize decide (m = 0) = A; generalize decide (lo = 0) = B; generalize decide (hi = 0) = C; generalize decide (r.length = 0) = D; generalize decide (kids.length = 0) = E; revert A B C D E; decide), HS5.out.bel⟩
   ·skip
    go_wp2_with fail
    go_ret
    exact ⟨congrArg (fun x => Ending.returned (Value.bool x)) (by (try rw [Bool.true_and]); rw [formed_8, decide_eq_true h1, decide_eq_false (show ¬ m ≤ 9 by omega)]; rfl), HS4.out.bel⟩
  ·go_wp2_with fail
   go_ret
   exact ⟨congrArg (fun x => Ending.returned (Value.bool x)) (by (try rw [Bool.true_and]); rw [formed_8, decide_eq_false (show ¬ 1 ≤ m by omega)]; rfl), HS4.out.bel⟩
set_option maxHeartbeats 4000000 in
theorem refformed_9 (m lo hi d a en : Int) (r : List S64) (kids : List NT) (ar ak : Option Addr) (cr ck : Nat) (f l b chars fold : Bool) (w : World) (S : Bool) (hS : S = stands ⟨.mk 9 m lo hi r kids, d, a, f, l, b⟩) :
  Calls Try.prog 99 #[.agg #[.int .i64 9, .int .i64 m, .int .i64 lo, .int .i64 hi, .slice ar r.length cr, .slice ak kids.length ck, .int .i64 d, .int .i64 a, .bool f, .bool l, .bool b, .int .i64 en], .agg #[.bool chars, .bool fold]] w fun e w' => e = .returned (.bool (S && formed (.mk 9 m lo hi r kids) chars fold)) ∧ Below w.heap.size w w' := by
 have hsc := fun w => refstands_calls 9 m lo hi d a en ar ak r.length cr kids.length ck f l b S hS w
 obtain ⟨W3, hW3⟩ : ∃ W3, W3 = ((w.alloc (.cells #[.int .i64 9, .int .i64 m, .int .i64 lo, .int .i64 hi, .slice ar r.length cr, .slice ak kids.length ck, .int .i64 d, .int .i64 a, .bool f, .bool l, .bool b, .int .i64 en] 88)).alloc (.cells #[.bool chars, .bool fold] 46)).alloc (.cells #[.int .i64 9, .int .i64 m, .int .i64 lo, .int .i64 hi, .slice ar r.length cr, .slice ak kids.length ck] 44) := ⟨_, rfl⟩
 have HST := Lib.hid (show RfSt w W3 #[.int .i64 9, .int .i64 m, .int .i64 lo, .int .i64 hi, .slice ar r.length cr, .slice ak kids.length ck, .int .i64 d, .int .i64 a, .bool f, .bool l, .bool b, .int .i64 en] #[.int .i64 9, .int .i64 m, .int .i64 lo, .int .i64 hi, .slice ar r.length cr, .slice ak kids.length ck] chars fold by rw [hW3]; exact RfSt.start w _ _ chars fold)
 have HW3 := Lib.hid hW3
 have HSC := Lib.hid hsc
 have HS := Lib.hid hS
 clear hW3 hsc hS
 go_enter Try.func99, Try.ntmps99
 go_wp2_with fail
 rw [← HW3.out]
 refine (HSC.out _).mono ?_
 rintro e w4 ⟨rfl, hb4⟩
 have HS4 := Lib.hid (HST.out.below hb4)
 clear hb4 HS
 cases S with
 | false =>
  go_wp2_with fail
  go_ret
  exact ⟨rfl, HS4.out.bel⟩
 | true =>
  have n0 := cell_heap (i := 0) HS4.out.node rfl
  have n1 := cell_heap (i := 1) HS4.out.node rfl
  have n2 := cell_heap (i := 2) HS4.out.node rfl
  have n3 := cell_heap (i := 3) HS4.out.node rfl
  have n4 := cell_heap (i := 4) HS4.out.node rfl
  have n5 := cell_heap (i := 5) HS4.out.node rfl
  obtain ⟨B, hB⟩ : ∃ B, B = bounds lo hi := ⟨_, rfl⟩
  have hbc := fun w => refbounds_calls lo hi w
  rw [← hB] at hbc
  have HB := Lib.hid hB
  have HBC := Lib.hid hbc
  clear hB hbc
  go_wp2_with fail
  refine (HBC.out _).mono ?_
  rintro e w5 ⟨rfl, rfl⟩
  cases B with
  | false =>
   go_wp2_with fail
   go_ret
   exact ⟨congrArg (fun x => Ending.returned (Value.bool x)) (by (try rw [Bool.true_and]); rw [formed_9, ← HB.out]; rfl), HS4.out.bel⟩
  | true =>
  by_cases hl : kids.length = 1
  ·have hl1 : ((kids.length : Int) == 1) = true := by rw [beq_iff_eq]; omega
   have HL := Lib.hid hl
   clear hl
   go_wp2_with fail
   refine (bare_calls 9 m lo hi ar ak r.length cr kids.length ck false true false true _).mono ?_
   rintro e w6 ⟨rfl, hb⟩
   have HS6 := Lib.hid (HS4.out.below hb)
   clear hb
   clear n0 n1 n2 n3 n4 n5
   go_wp2_with fail
   go_ret
   exact ⟨congrArg (fun x => Ending.returned (Value.bool x)) (by (try rw [Bool.true_and]); rw [formed_9, ← HB.out, decide_eq_true HL.out, Bool.true_and, Bool.true_and]; unfold bareB; generalize decide (m = 0) = A; generalize decide (lo = 0) = B; generalize decide (hi = 0) = C; generalize decide (r.length = 0) = D; generalize decide (kids.length = 0) = E; revert A B C D E; decide), HS6.out.bel⟩
  ·have hl1 : ((kids.length : Int) == 1) = false := by rw [beq_eq_false_iff_ne]; omega
   go_wp2_with fail
   go_ret
   exact ⟨congrArg (fun x => Ending.returned (Value.bool x)) (by (try rw [Bool.true_and]); rw [formed_9, ← HB.out, decide_eq_false hl]; rfl), HS4.out.bel⟩
set_option maxHeartbeats 4000000 in
theorem refformed_2 (m lo hi d a en : Int) (r : List S64) (kids : List NT) (ar ak : Option Addr) (cr ck : Nat) (f l b chars fold : Bool) (w : World) (S : Bool) (hS : S = stands ⟨.mk 2 m lo hi r kids, d, a, f, l, b⟩) (hr : Kd.C k64 w ar r.length r) (hcr : r.length ≤ cr) (hrl : r.length < 2097152) (hin : inR r = true) :
  Calls Try.prog 99 #[.agg #[.int .i64 2, .int .i64 m, .int .i64 lo, .int .i64 hi, .slice ar r.length cr, .slice ak kids.length ck, .int .i64 d, .int .i64 a, .bool f, .bool l, .bool b, .int .i64 en], .agg #[.bool chars, .bool fold]] w fun e w' => e = .returned (.bool (S && formed (.mk 2 m lo hi r kids) chars fold)) ∧ Below w.heap.size w w' := by
 have hsc := fun w => refstands_calls 2 m lo hi d a en ar ak r.length cr kids.length ck f l b S hS w
 obtain ⟨W3, hW3⟩ : ∃ W3, W3 = ((w.alloc (.cells #[.int .i64 2, .int .i64 m, .int .i64 lo, .int .i64 hi, .slice ar r.length cr, .slice ak kids.length ck, .int .i64 d, .int .i64 a, .bool f, .bool l, .bool b, .int .i64 en] 88)).alloc (.cells #[.bool chars, .bool fold] 46)).alloc (.cells #[.int .i64 2, .int .i64 m, .int .i64 lo, .int .i64 hi, .slice ar r.length cr, .slice ak kids.length ck] 44) := ⟨_, rfl⟩
 have HST := Lib.hid (show RfSt w W3 #[.int .i64 2, .int .i64 m, .int .i64 lo, .int .i64 hi, .slice ar r.length cr, .slice ak kids.length ck, .int .i64 d, .int .i64 a, .bool f, .bool l, .bool b, .int .i64 en] #[.int .i64 2, .int .i64 m, .int .i64 lo, .int .i64 hi, .slice ar r.length cr, .slice ak kids.length ck] chars fold by rw [hW3]; exact RfSt.start w _ _ chars fold)
 have HW3 := Lib.hid hW3
 have HSC := Lib.hid hsc
 have HS := Lib.hid hS
 clear hW3 hsc hS
 have HR := Lib.hid hr
 have HCR := Lib.hid hcr
 have HRL := Lib.hid (And.intro hrl hin)
 clear hr hcr hrl hin
 go_enter Try.func99, Try.ntmps99
 go_wp2_with fail
 rw [← HW3.out]
 refine (HSC.out _).mono ?_
 rintro e w4 ⟨rfl, hb4⟩
 have HS4 := Lib.hid (HST.out.below hb4)
 clear hb4 HS
 cases S with
 | false =>
  go_wp2_with fail
  go_ret
  exact ⟨rfl, HS4.out.bel⟩
 | true =>
  have n0 := cell_heap (i := 0) HS4.out.node rfl
  have n1 := cell_heap (i := 1) HS4.out.node rfl
  have n2 := cell_heap (i := 2) HS4.out.node rfl
  have n3 := cell_heap (i := 3) HS4.out.node rfl
  have n4 := cell_heap (i := 4) HS4.out.node rfl
  have n5 := cell_heap (i := 5) HS4.out.node rfl
  have m0 := cell_heap (i := 0) HS4.out.mode rfl
  obtain ⟨k1, f1⟩ := (refright_ends r chars HRL.out.1 HRL.out.2).get
  obtain ⟨k2, f2⟩ := (reffold_ends r HRL.out.1 HRL.out.2).get
  obtain ⟨k3, f3⟩ := (alike_ends r (Cls.fold r) (by have := HRL.out.1; omega)).get
  obtain ⟨RO, hRO⟩ : ∃ RO, RO = decide (r = Cls.norm r chars) := ⟨_, rfl⟩
  obtain ⟨AO, hAO⟩ : ∃ AO, AO = decide (r = Cls.fold r) := ⟨_, rfl⟩
  rw [← hRO] at f1
  rw [← hAO] at f3
  have F1 := Lib.hid f1
  have F2 := Lib.hid f2
  have F3 := Lib.hid f3
  have HRO := Lib.hid (And.intro hRO hAO)
  clear f1 f2 f3 hRO hAO
  go_wp2_with fail
  refine (dredgeref06_Right.calls k1 ar cr r chars RO w4 (Kd.C_below HR.out HS4.out.bel) HCR.out F1.out).mono ?_
  rintro e w5 ⟨rfl, hb⟩
  have HS5 := Lib.hid (HS4.out.below hb)
  clear hb n0 n1 n2 n3 n4 n5 m0
  have n0 := cell_heap (i := 0) HS5.out.node rfl
  have n1 := cell_heap (i := 1) HS5.out.node rfl
  have n2 := cell_heap (i := 2) HS5.out.node rfl
  have n3 := cell_heap (i := 3) HS5.out.node rfl
  have n4 := cell_heap (i := 4) HS5.out.node rfl
  have n5 := cell_heap (i := 5) HS5.out.node rfl
  go_wp2_with fail
  refine (dredgeref06_Fold.calls k2 ar cr r (Cls.fold r) w5 (Kd.C_below HR.out HS5.out.bel) HCR.out F2.out).mono ?_
  rintro e w6 ⟨vf, rfl, hR6, hb⟩
  obtain ⟨vA, vC, rfl⟩ := Kd.R_slice hR6
  have hrr := rR hR6
  have HRR := Lib.hid hrr
  have HS6 := Lib.hid (HS5.out.below hb)
  clear hb hR6 hrr n0 n1 n2 n3 n4 n5
  have n0 := cell_heap (i := 0) HS6.out.node rfl
  have n1 := cell_heap (i := 1) HS6.out.node rfl
  have n2 := cell_heap (i := 2) HS6.out.node rfl
  have n3 := cell_heap (i := 3) HS6.out.node rfl
  have n4 := cell_heap (i := 4) HS6.out.node rfl
  have n5 := cell_heap (i := 5) HS6.out.node rfl
  go_wp2_with fail
  refine (dredgeref06_Alike.calls k3 ar cr r vA vC (Cls.fold r) AO w6 (Kd.C_below HR.out HS6.out.bel) HCR.out HRR.out.2.2 HRR.out.2.1 F3.out).mono ?_
  rintro e w7 ⟨rfl, hD⟩
  have hb := below_drawn (Below.refl w6.heap.size w6) hD
  have HS7 := Lib.hid (HS6.out.below hb)
  clear hb hD n0 n1 n2 n3 n4 n5 HRR
  have n0 := cell_heap (i := 0) HS7.out.node rfl
  have n1 := cell_heap (i := 1) HS7.out.node rfl
  have n2 := cell_heap (i := 2) HS7.out.node rfl
  have n3 := cell_heap (i := 3) HS7.out.node rfl
  have n4 := cell_heap (i := 4) HS7.out.node rfl
  have n5 := cell_heap (i := 5) HS7.out.node rfl
  have m1 := cell_heap (i := 1) HS7.out.mode rfl
  have HFM := Lib.hid (show formed (.mk 2 m lo hi r kids) chars fold = ((RO && (!fold || AO)) && (decide (kids.length = 0) && decide (m = 0) && (decide (lo = 0) && decide (hi = 0)))) from by
   have e : decide (Cls.fold r = r) = AO := by rw [HRO.out.2, Bool.eq_iff_iff]; simp only [decide_eq_true_eq]; exact eq_comm
   rw [formed_2]; unfold setOk; rw [e, ← HRO.out.1])
  clear HRO F1 F2 F3
  cases RO with
  | false =>
   go_wp2_with fail
   go_ret
   exact ⟨congrArg (fun x => Ending.returned (Value.bool x)) (by (try rw [Bool.true_and]); rw [HFM.out]; rfl), HS7.out.bel⟩
  | true =>
   cases fold with
   | false =>
    go_wp2_with fail
    refine (bare_calls 2 m lo hi ar ak r.length cr kids.length ck false false true false w7).mono ?_
    rintro e w8 ⟨rfl, hb⟩
    have HS8 := Lib.hid (HS7.out.below hb)
    clear hb n0 n1 n2 n3 n4 n5 m1
    go_wp2_with fail
    go_ret
    exact ⟨congrArg (fun x => Ending.returned (Value.bool x)) (by (try rw [Bool.true_and]); rw [HFM.out]; unfold bareB; generalize decide (m = 0) = A; generalize decide (lo = 0) = B; generalize decide (hi = 0) = C; generalize decide (r.length = 0) = D; generalize decide (kids.length = 0) = E; first | (revert A B C D E; decide) | (generalize AO = Z; revert A B C D E Z; decide)), HS8.out.bel⟩
   | true =>
    cases AO with
    | true =>
     go_wp2_with fail
     refine (bare_calls 2 m lo hi ar ak r.length cr kids.length ck false false true false w7).mono ?_
     rintro e w8 ⟨rfl, hb⟩
     have HS8 := Lib.hid (HS7.out.below hb)
     clear hb n0 n1 n2 n3 n4 n5 m1
     go_wp2_with fail
     go_ret
     exact ⟨congrArg (fun x => Ending.returned (Value.bool x)) (by (try rw [Bool.true_and]); rw [HFM.out]; unfold bareB; generalize decide (m = 0) = A; generalize decide (lo = 0) = B; generalize decide (hi = 0) = C; generalize decide (r.length = 0) = D; generalize decide (kids.length = 0) = E; first | (revert A B C D E; decide) | (generalize AO = Z; revert A B C D E Z; decide)), HS8.out.bel⟩
    | false =>
     go_wp2_with fail
     go_ret
     exact ⟨congrArg (fun x => Ending.returned (Value.bool x)) (by (try rw [Bool.true_and]); rw [HFM.out]; rfl), HS7.out.bel⟩
set_option maxHeartbeats 4000000 in
theorem refformed_0 (k m lo hi d a en : Int) (r : List S64) (kids : List NT) (ar ak : Option Addr) (cr ck : Nat) (f l b chars fold : Bool) (w : World) (S : Bool) (hS : S = stands ⟨.mk k m lo hi r kids, d, a, f, l, b⟩) (h1 : k ≠ 1) (h2 : k ≠ 2) (h3 : k ≠ 3) (h4 : k ≠ 4) (h5 : k ≠ 5) (h6 : k ≠ 6) (h7 : k ≠ 7) (h8 : k ≠ 8) (h9 : k ≠ 9) :
  Calls Try.prog 99 #[.agg #[.int .i64 k, .int .i64 m, .int .i64 lo, .int .i64 hi, .slice ar r.length cr, .slice ak kids.length ck, .int .i64 d, .int .i64 a, .bool f, .bool l, .bool b, .int .i64 en], .agg #[.bool chars, .bool fold]] w fun e w' => e = .returned (.bool (S && formed (.mk k m lo hi r kids) chars fold)) ∧ Below w.heap.size w w' := by
 have hsc := fun w => refstands_calls k m lo hi d a en ar ak r.length cr kids.length ck f l b S hS w
 obtain ⟨W3, hW3⟩ : ∃ W3, W3 = ((w.alloc (.cells #[.int .i64 k, .int .i64 m, .int .i64 lo, .int .i64 hi, .slice ar r.length cr, .slice ak kids.length ck, .int .i64 d, .int .i64 a, .bool f, .bool l, .bool b, .int .i64 en] 88)).alloc (.cells #[.bool chars, .bool fold] 46)).alloc (.cells #[.int .i64 k, .int .i64 m, .int .i64 lo, .int .i64 hi, .slice ar r.length cr, .slice ak kids.length ck] 44) := ⟨_, rfl⟩
 have HST := Lib.hid (show RfSt w W3 #[.int .i64 k, .int .i64 m, .int .i64 lo, .int .i64 hi, .slice ar r.length cr, .slice ak kids.length ck, .int .i64 d, .int .i64 a, .bool f, .bool l, .bool b, .int .i64 en] #[.int .i64 k, .int .i64 m, .int .i64 lo, .int .i64 hi, .slice ar r.length cr, .slice ak kids.length ck] chars fold by rw [hW3]; exact RfSt.start w _ _ chars fold)
 have HW3 := Lib.hid hW3
 have HSC := Lib.hid hsc
 have HS := Lib.hid hS
 clear hW3 hsc hS
 have b1 : (k == 1) = false := beq_eq_false_iff_ne.2 h1
 have b2 : (k == 2) = false := beq_eq_false_iff_ne.2 h2
 have b3 : (k == 3) = false := beq_eq_false_iff_ne.2 h3
 have b4 : (k == 4) = false := beq_eq_false_iff_ne.2 h4
 have b5 : (k == 5) = false := beq_eq_false_iff_ne.2 h5
 have b6 : (k == 6) = false := beq_eq_false_iff_ne.2 h6
 have b7 : (k == 7) = false := beq_eq_false_iff_ne.2 h7
 have b8 : (k == 8) = false := beq_eq_false_iff_ne.2 h8
 have b9 : (k == 9) = false := beq_eq_false_iff_ne.2 h9
 have HFM := Lib.hid (show formed (.mk k m lo hi r kids) chars fold = false by simp [formed, NT.k, h1, h2, h3, h4, h5, h6, h7, h8, h9])
 clear h1 h2 h3 h4 h5 h6 h7 h8 h9
 go_enter Try.func99, Try.ntmps99
 go_wp2_with fail
 rw [← HW3.out]
 refine (HSC.out _).mono ?_
 rintro e w4 ⟨rfl, hb4⟩
 have HS4 := Lib.hid (HST.out.below hb4)
 clear hb4 HS
 cases S with
 | false =>
  go_wp2_with fail
  go_ret
  exact ⟨rfl, HS4.out.bel⟩
 | true =>
  have n0 := cell_heap (i := 0) HS4.out.node rfl
  have n1 := cell_heap (i := 1) HS4.out.node rfl
  have n2 := cell_heap (i := 2) HS4.out.node rfl
  have n3 := cell_heap (i := 3) HS4.out.node rfl
  have n4 := cell_heap (i := 4) HS4.out.node rfl
  have n5 := cell_heap (i := 5) HS4.out.node rfl
  go_wp2_with fail
  go_ret
  exact ⟨congrArg (fun x => Ending.returned (Value.bool x)) (by rw [HFM.out]; rfl), HS4.out.bel⟩
theorem refformed_calls (k m lo hi d a en : Int) (r : List S64) (kids : List NT) (ar ak : Option Addr) (cr ck : Nat) (f l b chars fold : Bool) (w : World) (S : Bool) (hS : S = stands ⟨.mk k m lo hi r kids, d, a, f, l, b⟩) (hr : Kd.C k64 w ar r.length r) (hcr : r.length ≤ cr) (hrl : r.length < 2097152) (hin : inR r = true) :
  Calls Try.prog 99 #[.agg #[.int .i64 k, .int .i64 m, .int .i64 lo, .int .i64 hi, .slice ar r.length cr, .slice ak kids.length ck, .int .i64 d, .int .i64 a, .bool f, .bool l, .bool b, .int .i64 en], .agg #[.bool chars, .bool fold]] w fun e w' => e = .returned (.bool (S && formed (.mk k m lo hi r kids) chars fold)) ∧ Below w.heap.size w w' := by
 by_cases h1 : k = 1
 ·subst h1; exact refformed_1 m lo hi d a en r kids ar ak cr ck f l b chars fold w S hS
 by_cases h2 : k = 2
 ·subst h2; exact refformed_2 m lo hi d a en r kids ar ak cr ck f l b chars fold w S hS hr hcr hrl hin
 by_cases h3 : k = 3
 ·subst h3; exact refformed_3 m lo hi d a en r kids ar ak cr ck f l b chars fold w S hS
 by_cases h4 : k = 4
 ·subst h4; exact refformed_4 m lo hi d a en r kids ar ak cr ck f l b chars fold w S hS
 by_cases h5 : k = 5
 ·subst h5; exact refformed_5 m lo hi d a en r kids ar ak cr ck f l b chars fold w S hS
 by_cases h6 : k = 6
 ·subst h6; exact refformed_6 m lo hi d a en r kids ar ak cr ck f l b chars fold w S hS
 by_cases h7 : k = 7
 ·subst h7; exact refformed_7 m lo hi d a en r kids ar ak cr ck f l b chars fold w S hS
 by_cases h8 : k = 8
 ·subst h8; exact refformed_8 m lo hi d a en r kids ar ak cr ck f l b chars fold w S hS
 by_cases h9 : k = 9
 ·subst h9; exact refformed_9 m lo hi d a en r kids ar ak cr ck f l b chars fold w S hS
 exact refformed_0 k m lo hi d a en r kids ar ak cr ck f l b chars fold w S hS h1 h2 h3 h4 h5 h6 h7 h8 h9
end Go.Proofs.Ytamhkdlcoghdbaa.PCls
