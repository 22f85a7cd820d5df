/- TreeSound: the law. -/
import Derived.Test.YtamhkdlcoghdbaaTEx
import Derived.Test.YtamhkdlcoghdbaaTTwo
namespace Go.Proofs.Ytamhkdlcoghdbaa.PCls
open Go.RowKit Go.Shelf Go.Proofs.YtamhkdlcoghdbaaW.PrintWords Go.Proofs.YtamhkdlcoghdbaaW.PrintLast Go.Proofs.YtamhkdlcoghdbaaW.PrintMore
set_option linter.unusedVariables false
set_option linter.unusedSimpArgs false
attribute [local go_sem] Oper.semAt_some

theorem numbered_at : ∀ (l : List Step) (g : Int), numbered l g = true → ∀ (pre : List Step) (x : Step), pre ++ [x] <+: l → x.n.k = 7 → x.n.m = g + (groupsIn pre : Int) + 1
  | [], g, _, pre, x, h, _ => by have := h.length_le; simp at this
  | s :: l, g, hn, pre, x, h, h7 => by
    cases pre with
    | nil =>
      obtain ⟨u, hu⟩ := h
      simp only [List.nil_append, List.cons_append, List.cons.injEq] at hu
      obtain ⟨rfl, _⟩ := hu
      unfold numbered at hn
      rw [if_pos h7] at hn
      simp only [Bool.and_eq_true, decide_eq_true_eq] at hn
      simp [groupsIn, hn.1]
    | cons y pre =>
      obtain ⟨u, hu⟩ := h
      simp only [List.cons_append, List.cons.injEq] at hu
      obtain ⟨rfl, hu⟩ := hu
      unfold numbered at hn
      rw [groupsIn_cons]
      by_cases hy : y.n.k = 7
      · rw [if_pos hy] at hn
        simp only [Bool.and_eq_true, decide_eq_true_eq] at hn
        rw [numbered_at l _ hn.2 pre x ⟨u, by simpa using hu⟩ h7, if_pos hy]
        push_cast; omega
      · rw [if_neg hy] at hn
        rw [numbered_at l _ hn pre x ⟨u, by simpa using hu⟩ h7, if_neg hy]
        push_cast; omega
theorem deepOf_le (b : Int) : ∀ (l : List Step) (d : Int), d ≤ b → (∀ s, s ∈ l → s.deep ≤ b) → l.foldl (fun d s => max d s.deep) d ≤ b
  | [], d, h0, _ => h0
  | x :: l, d, h0, h => deepOf_le b l _ (by have := h x List.mem_cons_self; simp only; omega) (fun s hs => h s (List.mem_cons_of_mem _ hs))
def onlyNormal (Q : Exit → Act → World → Prop) : Exit → Act → World → Prop
  | .normal, a, w => Q .normal a w
  | _, _, _ => False
theorem drawn_only {n : Nat} {P : Program} {c : Code} {Q : Exit → Act → World → Prop} {a : Act} {w : World} (h : c.wp P (onlyNormal Q) a w) : c.wpIn Fence.wide n P Q a w :=
  wpIn_mono (wpIn_wide.2 h) (fun e a w h => by cases e <;> first | exact h | exact h.elim)
theorem func_not_nil (A : Addr) (W : World) : (binOp .eql 50 (.func (.func 87) #[] #[.pointer (some A)]) .nilFunc).run Try.prog W = .ok (.bool false) W := by
  kernel_rfl

set_option maxHeartbeats 4000000 in
set_option maxRecDepth 100000 in
theorem sound_wrong (k m lo hi : Int) (r : List S64) (kids : List NT) (ar ak : Option Addr) (cr ck : Nat) (chars fold : Bool) (w : World) (hT0 : NIn w (· < w.heap.size) (.mk k m lo hi r kids) [.int .i64 k, .int .i64 m, .int .i64 lo, .int .i64 hi, .slice ar r.length cr, .slice ak kids.length ck]) (hn : (NT.mk k m lo hi r kids).nodes < 274877906944) (hR : rightT (.mk k m lo hi r kids) chars fold ≠ 0) :
    Calls Try.prog 10 #[.agg #[.int .i64 k, .int .i64 m, .int .i64 lo, .int .i64 hi, .slice ar r.length cr, .slice ak kids.length ck], .agg #[.bool chars, .bool fold]] w fun e w' => e = .returned (.bool true) ∧ Below w.heap.size w w' := by
  have HT := Lib.hid hT0
  have HN := Lib.hid hn
  have HR := Lib.hid hR
  clear hT0 hn hR
  obtain ⟨W3, hW3⟩ : ∃ W3, W3 = ((w.alloc (.cells #[.int .i64 k, .int .i64 m, .int .i64 lo, .int .i64 hi, .slice ar r.length cr, .slice ak kids.length ck] 44)).alloc (.cells #[.bool chars, .bool fold] 46)).alloc (.cells #[.bool false] 4) := ⟨_, rfl⟩
  have hat : ∀ (A : World) (o : Obj) (b : Nat), b = A.heap.size → (A.alloc o).heap[b]? = some o := fun A o b h => by rw [h]; exact World.alloc_heap_new A o
  have hup : ∀ (A : World) (o x : Obj) (b : Nat), A.heap[b]? = some x → (A.alloc o).heap[b]? = some x := fun A o x b h => (Below.heap_alloc A o b (Array.getElem?_eq_some_iff.1 h).1).trans h
  have hs3 : W3.heap.size = w.heap.size + 3 := by rw [hW3]; simp
  have hb3 : Below w.heap.size w W3 := by rw [hW3]; exact (((Below.refl _ w).alloc (Nat.le_refl _) _).alloc (by simp) _).alloc (by simp; omega) _
  have h0 : W3.heap[w.heap.size]? = some (.cells #[.int .i64 k, .int .i64 m, .int .i64 lo, .int .i64 hi, .slice ar r.length cr, .slice ak kids.length ck] 44) := by rw [hW3]; exact hup _ _ _ _ (hup _ _ _ _ (hat _ _ _ rfl))
  have h1 : W3.heap[w.heap.size + 1]? = some (.cells #[.bool chars, .bool fold] 46) := by rw [hW3]; exact hup _ _ _ _ (hat _ _ _ (by simp))
  have h2 : W3.heap[w.heap.size + 2]? = some (.cells #[.bool false] 4) := by rw [hW3]; exact hat _ _ _ (by simp)
  have H0 := Lib.hid h0
  have H1 := Lib.hid h1
  have H2 := Lib.hid h2
  have HS3 := Lib.hid hs3
  have HB3 := Lib.hid hb3
  have HW3 := Lib.hid hW3
  clear hat hup hs3 hb3 h0 h1 h2 hW3
  go_enter Try.func10, Try.ntmps10
  go_wp2_with fail
  rw [← HW3.out]
  refine ((examples_calls _)).mono ?_
  rintro e w4 ⟨rfl, hb4⟩
  have h0_w4 := (hb4.block _ (by have := HS3.out; omega)).trans H0.out
  have n0 := cell_heap (i := 0) h0_w4 rfl
  have n1 := cell_heap (i := 1) h0_w4 rfl
  have n2 := cell_heap (i := 2) h0_w4 rfl
  have n3 := cell_heap (i := 3) h0_w4 rfl
  have n4 := cell_heap (i := 4) h0_w4 rfl
  have n5 := cell_heap (i := 5) h0_w4 rfl
  clear h0_w4
  have h1_w4 := (hb4.block _ (by have := HS3.out; omega)).trans H1.out
  have m0 := cell_heap (i := 0) h1_w4 rfl
  have m1 := cell_heap (i := 1) h1_w4 rfl
  clear h1_w4
  have HB4 := Lib.hid hb4
  clear hb4
  have hbb : Below w.heap.size w w4 := HB3.out.trans (HB4.out.mono (by have := HS3.out; omega))
  have hr := right_calls (.mk k m lo hi r kids) _ chars fold w4 ((HT.out.move (fun b hb => hbb.block b hb)).mono (fun b hb => Nat.lt_of_lt_of_le hb hbb.size)) HN.out
  obtain ⟨R, hR⟩ : ∃ R, R = rightT (.mk k m lo hi r kids) chars fold := ⟨_, rfl⟩
  rw [← hR] at hr
  have HR1 := Lib.hid (show (R == 0) = false from beq_eq_false_iff_ne.2 (by rw [hR]; exact HR.out))
  clear hR
  have HRC := Lib.hid hr
  clear hbb hr
  go_wp2_with fail
  refine (HRC.out).mono ?_
  rintro e w5 ⟨rfl, hb5⟩
  have hb35 : Below W3.heap.size W3 w5 := HB4.out.trans (hb5.mono HB4.out.size)
  have HB5 := Lib.hid hb35
  clear hb5 HRC n0 n1 n2 n3 n4 n5 m0 m1
  have hz := (hb35.block _ (by have := HS3.out; omega)).trans H2.out
  have hr2 := cell_heap (i := 0) hz rfl
  have fr2 : w5.frozen? ⟨w.heap.size + 2, 0, none⟩ = false := by simp [World.frozen?, hz]
  clear hz hb35
  have hR1 := HR1.out
  go_wp2_with fail
  refine bodyPost_ret (v := .bool true) (by simp [results, Try.results10, go_sem, hr2]) rfl ?_
  exact ⟨rfl, (HB3.out.trans (HB5.out.mono (by have := HS3.out; omega))).setCell (p := ⟨w.heap.size + 2, 0, none⟩) (by simp only; omega) _⟩

set_option maxHeartbeats 4000000 in
set_option maxRecDepth 100000 in
theorem sound_right (k m lo hi : Int) (r : List S64) (kids : List NT) (ar ak : Option Addr) (cr ck : Nat) (chars fold : Bool) (w : World) (hT0 : NIn w (· < w.heap.size) (.mk k m lo hi r kids) [.int .i64 k, .int .i64 m, .int .i64 lo, .int .i64 hi, .slice ar r.length cr, .slice ak kids.length ck]) (hn : (NT.mk k m lo hi r kids).nodes < 274877906944) (hR : rightT (.mk k m lo hi r kids) chars fold = 0) :
    Calls Try.prog 10 #[.agg #[.int .i64 k, .int .i64 m, .int .i64 lo, .int .i64 hi, .slice ar r.length cr, .slice ak kids.length ck], .agg #[.bool chars, .bool fold]] w fun e w' => e = .returned (.bool true) ∧ Below w.heap.size w w' := by
  have HT := Lib.hid hT0
  have HN := Lib.hid hn
  have HR := Lib.hid hR
  clear hT0 hn hR
  obtain ⟨W3, hW3⟩ : ∃ W3, W3 = ((w.alloc (.cells #[.int .i64 k, .int .i64 m, .int .i64 lo, .int .i64 hi, .slice ar r.length cr, .slice ak kids.length ck] 44)).alloc (.cells #[.bool chars, .bool fold] 46)).alloc (.cells #[.bool false] 4) := ⟨_, rfl⟩
  have hat : ∀ (A : World) (o : Obj) (b : Nat), b = A.heap.size → (A.alloc o).heap[b]? = some o := fun A o b h => by rw [h]; exact World.alloc_heap_new A o
  have hup : ∀ (A : World) (o x : Obj) (b : Nat), A.heap[b]? = some x → (A.alloc o).heap[b]? = some x := fun A o x b h => (Below.heap_alloc A o b (Array.getElem?_eq_some_iff.1 h).1).trans h
  have hs3 : W3.heap.size = w.heap.size + 3 := by rw [hW3]; simp
  have hb3 : Below w.heap.size w W3 := by rw [hW3]; exact (((Below.refl _ w).alloc (Nat.le_refl _) _).alloc (by simp) _).alloc (by simp; omega) _
  have h0 : W3.heap[w.heap.size]? = some (.cells #[.int .i64 k, .int .i64 m, .int .i64 lo, .int .i64 hi, .slice ar r.length cr, .slice ak kids.length ck] 44) := by rw [hW3]; exact hup _ _ _ _ (hup _ _ _ _ (hat _ _ _ rfl))
  have h1 : W3.heap[w.heap.size + 1]? = some (.cells #[.bool chars, .bool fold] 46) := by rw [hW3]; exact hup _ _ _ _ (hat _ _ _ (by simp))
  have h2 : W3.heap[w.heap.size + 2]? = some (.cells #[.bool false] 4) := by rw [hW3]; exact hat _ _ _ (by simp)
  have H0 := Lib.hid h0
  have H1 := Lib.hid h1
  have H2 := Lib.hid h2
  have HS3 := Lib.hid hs3
  have HB3 := Lib.hid hb3
  have HW3 := Lib.hid hW3
  clear hat hup hs3 hb3 h0 h1 h2 hW3
  refine (callsIn_wide (n := 9)).1 ?_
  refine callsIn_of_wp_marks Try.func10 rfl trivial ?_ rfl
  simp only [Try.ntmps10, List.size_toArray, List.length_cons, List.length_nil, Nat.reduceAdd, Nat.reduceSub, Array.replicate_succ, Array.replicate_zero, List.push_toArray, List.append_toArray, List.nil_append, List.cons_append]
  gi_wp2_with fail
  rw [← HW3.out]
  refine ⟨trivial, ?_⟩
  refine (callsIn_wide.2 (examples_calls _)).mono ?_
  rintro e w4 ⟨rfl, hb4⟩
  have h0_w4 := (hb4.block _ (by have := HS3.out; omega)).trans H0.out
  have n0 := cell_heap (i := 0) h0_w4 rfl
  have n1 := cell_heap (i := 1) h0_w4 rfl
  have n2 := cell_heap (i := 2) h0_w4 rfl
  have n3 := cell_heap (i := 3) h0_w4 rfl
  have n4 := cell_heap (i := 4) h0_w4 rfl
  have n5 := cell_heap (i := 5) h0_w4 rfl
  clear h0_w4
  have h1_w4 := (hb4.block _ (by have := HS3.out; omega)).trans H1.out
  have m0 := cell_heap (i := 0) h1_w4 rfl
  have m1 := cell_heap (i := 1) h1_w4 rfl
  clear h1_w4
  have HB4 := Lib.hid hb4
  clear hb4
  have hbb : Below w.heap.size w w4 := HB3.out.trans (HB4.out.mono (by have := HS3.out; omega))
  have hr := right_calls (.mk k m lo hi r kids) _ chars fold w4 ((HT.out.move (fun b hb => hbb.block b hb)).mono (fun b hb => Nat.lt_of_lt_of_le hb hbb.size)) HN.out
  rw [HR.out] at hr
  have HRC := Lib.hid hr
  clear hbb hr
  gi_wp2_with fail
  refine ⟨trivial, ?_⟩
  refine (callsIn_wide.2 HRC.out).mono ?_
  rintro e w5 ⟨rfl, hb5⟩
  have hb35 : Below W3.heap.size W3 w5 := HB4.out.trans (hb5.mono HB4.out.size)
  have HB5 := Lib.hid hb35
  clear hb5 HRC n0 n1 n2 n3 n4 n5 m0 m1
  have h0_w5 := (hb35.block _ (by have := HS3.out; omega)).trans H0.out
  have n0 := cell_heap (i := 0) h0_w5 rfl
  have n1 := cell_heap (i := 1) h0_w5 rfl
  have n2 := cell_heap (i := 2) h0_w5 rfl
  have n3 := cell_heap (i := 3) h0_w5 rfl
  have n4 := cell_heap (i := 4) h0_w5 rfl
  have n5 := cell_heap (i := 5) h0_w5 rfl
  clear h0_w5
  clear hb35
  gi_wp2_with fail
  refine ⟨trivial, ?_⟩
  refine (callsIn_wide.2 (all_calls k m lo hi ar ak r.length cr kids.length ck _)).mono ?_
  rintro e w6 ⟨rfl, rfl⟩
  clear n0 n1 n2 n3 n4 n5
  have hnn := fun W => func_not_nil ⟨w5.heap.size, 0, none⟩ W
  gi_wp2_with fail
  clear hnn
  obtain ⟨W6, hW6⟩ : ∃ W6, W6 = (((w5.alloc (.cells #[.int .i64 k, .int .i64 m, .int .i64 lo, .int .i64 hi, .slice ar r.length cr, .slice ak kids.length ck] 44)).alloc (.cells #[.int .i64 0] 3)).alloc (.cells #[.int .i64 0] 3)).alloc (.cells #[.int .i64 0] 3) := ⟨_, rfl⟩
  rw [← hW6]
  have hat : ∀ (A : World) (o : Obj) (b : Nat), b = A.heap.size → (A.alloc o).heap[b]? = some o := fun A o b h => by rw [h]; exact World.alloc_heap_new A o
  have hup : ∀ (A : World) (o x : Obj) (b : Nat), A.heap[b]? = some x → (A.alloc o).heap[b]? = some x := fun A o x b h => (Below.heap_alloc A o b (Array.getElem?_eq_some_iff.1 h).1).trans h
  obtain ⟨S0, hS0⟩ : ∃ S0, S0 = w5.heap.size := ⟨_, rfl⟩
  have hs6 : W6.heap.size = S0 + 4 := by rw [hW6, hS0]; simp
  have hb6 : Below W3.heap.size W3 W6 := by
    have h := HB5.out.size
    rw [hW6]; exact (((HB5.out.alloc h _).alloc (by simp; omega) _).alloc (by simp; omega) _).alloc (by simp; omega) _
  have hn6 : W6.heap[S0]? = some (.cells #[.int .i64 k, .int .i64 m, .int .i64 lo, .int .i64 hi, .slice ar r.length cr, .slice ak kids.length ck] 44 (0, 0)) := by rw [hW6, hS0]; exact hup _ _ _ _ (hup _ _ _ _ (hup _ _ _ _ (hat _ _ _ rfl)))
  have hm6 : Boxed W6 (S0 + 1) 3 (.int .i64 0) := by rw [hW6, hS0]; exact hup _ _ _ _ (hup _ _ _ _ (hat _ _ _ (by simp)))
  have hd6 : Boxed W6 (S0 + 2) 3 (.int .i64 0) := by rw [hW6, hS0]; exact hup _ _ _ _ (hat _ _ _ (by simp))
  have hg6 : Boxed W6 (S0 + 3) 3 (.int .i64 0) := by rw [hW6, hS0]; exact hat _ _ _ (by simp)
  have h3S : W3.heap.size ≤ S0 := by rw [hS0]; exact HB5.out.size
  have hsw : w.heap.size + 3 ≤ S0 := by have := HS3.out; omega
  rw [← hS0]
  have HS6 := Lib.hid hs6
  have HB6 := Lib.hid hb6
  have HN6 := Lib.hid hn6
  have HM6 := Lib.hid hm6
  have HD6 := Lib.hid hd6
  have HG6 := Lib.hid hg6
  have H3S := Lib.hid h3S
  have HSW := Lib.hid hsw
  clear hat hup hS0 hs6 hb6 hn6 hm6 hd6 hg6 h3S hsw hW6 HB5
  obtain ⟨okr, hlen, hdeep, hnum, hgr⟩ := right_ok chars fold _ ⟨0, 0, 0, []⟩ rfl (by decide) HR.out
  have HLEN := Lib.hid hlen
  have HDEEP := Lib.hid hdeep
  have HNUM := Lib.hid hnum
  have HGR := Lib.hid (hgr (by decide))
  clear okr hlen hdeep hnum hgr
  have htk : List.take 2000 (enters (Step.top (NT.mk k m lo hi r kids)).evs) = enters (Step.top (NT.mk k m lo hi r kids)).evs := List.take_of_length_le (by have := HLEN.out; simp only at this; omega)
  have HTK := Lib.hid htk
  clear htk
  refine range_law (n := 9) (lb := #[.pointer (some ⟨S0, 0, none⟩)]) rfl (fun args w => enters_ Try.func87 (by kernel_rfl) rfl args w) (fun _ _ => true) S0 ?hlo ((enters (Step.top (.mk k m lo hi r kids)).evs).take 2000) (EA (S0 + 6)) ?hEs
    (fun x vs a' W => ∃ (A : Option Addr) (c Bx : Nat), S0 + 6 ≤ Bx ∧ W.heap[Bx]? = some (.cells #[.int .i64 x.n.k, .int .i64 x.n.m, .int .i64 x.n.lo, .int .i64 x.n.hi, .slice A x.n.r.length c, .slice none 0 0] 44 (0, 0)) ∧ a' = { tmps := #[.agg #[.int .i64 k, .int .i64 m, .int .i64 lo, .int .i64 hi, .slice ar r.length cr, .slice ak kids.length ck], .agg #[.bool chars, .bool fold], .pointer (some ⟨w.heap.size, 0, none⟩), .pointer (some ⟨w.heap.size + 1, 0, none⟩), .pointer (some ⟨w.heap.size + 2, 0, none⟩), .bool true, .func (.func 87) #[] #[.pointer (some ⟨S0, 0, none⟩)], .pointer (some ⟨S0 + 1, 0, none⟩), .pointer (some ⟨S0 + 2, 0, none⟩), .pointer (some ⟨S0 + 3, 0, none⟩), .int .i64 x.deep, .pointer (some ⟨Bx, 0, none⟩), .bool true, .agg #[.int .i64 k, .int .i64 m, .int .i64 lo, .int .i64 hi, .slice ar r.length cr, .slice ak kids.length ck], .agg #[.bool chars, .bool fold], .int .i64 0, .bool false, undef, .agg #[.int .i64 k, .int .i64 m, .int .i64 lo, .int .i64 hi, .slice ar r.length cr, .slice ak kids.length ck], .func (.func 87) #[] #[.pointer (some ⟨S0, 0, none⟩)], .bool true, .bool false, .bool false, .func (.func 87) #[] #[.pointer (some ⟨S0, 0, none⟩)], .bool false, .bool false, .func (.func 87) #[] #[.pointer (some ⟨S0, 0, none⟩)], .int .i64 x.deep, .agg #[.int .i64 x.n.k, .int .i64 x.n.m, .int .i64 x.n.lo, .int .i64 x.n.hi, .slice A x.n.r.length c, .slice none 0 0], undef, undef, undef, undef, undef, undef, undef, undef, undef, undef, undef, undef, undef, undef, undef, undef, undef, undef, undef, undef, undef, undef, undef, undef, undef, undef, undef, undef, undef, undef, undef, undef, undef, undef, undef, undef, undef, undef, undef, undef, undef, undef], defers := [] }) ?hQ1
    (fun pre W => Boxed W (S0 + 1) 3 (.int .i64 (pre.length : Int)) ∧ Boxed W (S0 + 2) 3 (.int .i64 (deepOf pre)) ∧ Boxed W (S0 + 3) 3 (.int .i64 (groupsIn pre : Int)) ∧ Below S0 W6 W ∧ W.heap[S0]? = some (.cells #[.int .i64 k, .int .i64 m, .int .i64 lo, .int .i64 hi, .slice ar r.length cr, .slice ak kids.length ck] 44 (0, 0))) (fun _ _ _ => False) ?hI ?hIx ?h0 ?hseq ?hassign ?hbody ?hdone ?hstop
  case hlo => rw [HS6.out]; omega
  case hEs => rintro x W vs ⟨A, c, rfl, _⟩; rfl
  case hQ1 =>
    rintro x vs a' W W' ⟨A, c, Bx, h1, h2, h3⟩ hk
    exact ⟨A, c, Bx, h1, (hk _ (by rw [HS6.out]; omega)).trans h2, h3⟩
  case hI =>
    intro s A B h hb
    have e := HS6.out
    exact ⟨(hb.block _ (by omega)).trans h.1, (hb.block _ (by omega)).trans h.2.1, (hb.block _ (by omega)).trans h.2.2.1, h.2.2.2.1.trans (hb.mono (by omega)), (hb.block _ (by omega)).trans h.2.2.2.2⟩
  case hIx => intro c s A B h; exact h.elim
  case h0 => exact ⟨HM6.out, HD6.out, HG6.out, Below.refl _ _, HN6.out⟩
  case hseq =>
    intro W1 hb1 hs1
    have e := HS6.out
    have hlw := HSW.out
    rw [e] at hs1
    have hwb : Below w.heap.size w W1 := HB3.out.trans ((HB6.out.trans (hb1.mono (by have := H3S.out; omega))).mono (by have := HS3.out; omega))
    have := all_seq (.mk k m lo hi r kids) _ S0 S0 W1 (fun _ _ => true) (by omega) ((HT.out.move (fun b h => hwb.block b h)).mono (fun b hb => by omega)) ((hb1.block _ (by omega)).trans HN6.out) (by have := HN.out; omega)
    rw [hs1] at this
    exact this
  case hassign =>
    rintro l pre x vs W K hpre hI ⟨A, c, rfl, hR⟩ hs hK
    have e := HS6.out
    rw [e] at hs
    have hb : Below W.heap.size W (W.alloc (.cells #[.int .i64 x.n.k, .int .i64 x.n.m, .int .i64 x.n.lo, .int .i64 x.n.hi, .slice A x.n.r.length c, .slice none 0 0] 44)) := (Below.refl _ W).alloc (Nat.le_refl _) _
    have HK := Lib.hid hK
    have HH := Lib.hid (show _ from HK.out { tmps := #[.agg #[.int .i64 k, .int .i64 m, .int .i64 lo, .int .i64 hi, .slice ar r.length cr, .slice ak kids.length ck], .agg #[.bool chars, .bool fold], .pointer (some ⟨w.heap.size, 0, none⟩), .pointer (some ⟨w.heap.size + 1, 0, none⟩), .pointer (some ⟨w.heap.size + 2, 0, none⟩), .bool true, .func (.func 87) #[] #[.pointer (some ⟨S0, 0, none⟩)], .pointer (some ⟨S0 + 1, 0, none⟩), .pointer (some ⟨S0 + 2, 0, none⟩), .pointer (some ⟨S0 + 3, 0, none⟩), .int .i64 x.deep, .pointer (some ⟨W.heap.size, 0, none⟩), .bool true, .agg #[.int .i64 k, .int .i64 m, .int .i64 lo, .int .i64 hi, .slice ar r.length cr, .slice ak kids.length ck], .agg #[.bool chars, .bool fold], .int .i64 0, .bool false, undef, .agg #[.int .i64 k, .int .i64 m, .int .i64 lo, .int .i64 hi, .slice ar r.length cr, .slice ak kids.length ck], .func (.func 87) #[] #[.pointer (some ⟨S0, 0, none⟩)], .bool true, .bool false, .bool false, .func (.func 87) #[] #[.pointer (some ⟨S0, 0, none⟩)], .bool false, .bool false, .func (.func 87) #[] #[.pointer (some ⟨S0, 0, none⟩)], .int .i64 x.deep, .agg #[.int .i64 x.n.k, .int .i64 x.n.m, .int .i64 x.n.lo, .int .i64 x.n.hi, .slice A x.n.r.length c, .slice none 0 0], undef, undef, undef, undef, undef, undef, undef, undef, undef, undef, undef, undef, undef, undef, undef, undef, undef, undef, undef, undef, undef, undef, undef, undef, undef, undef, undef, undef, undef, undef, undef, undef, undef, undef, undef, undef, undef, undef, undef, undef, undef, undef], defers := [] } _ (KeptBut.of_below hb) ⟨boxed_keep hI.1 hb, boxed_keep hI.2.1 hb, boxed_keep hI.2.2.1 hb, hI.2.2.2.1.trans (hb.mono (by omega)), (hb.block _ (by omega)).trans hI.2.2.2.2⟩ ⟨A, c, W.heap.size, by omega, World.alloc_heap_new W _, rfl⟩)
    clear hK HK hb hR hI hs e
    gi_wp2
    exact HH.out
  case hbody =>
    rintro l pre x vs a' W hpre ⟨hbm, hbd, hbg, hbel, hbn⟩ ⟨A, c, Bx, hBx, hxb, rfl⟩ hs
    have hl : pre.length < 2000 := by
      have := hpre.length_le
      simp only [List.length_append, List.length_cons, List.length_nil, List.length_take] at this
      omega
    have hg := groupsIn_le pre
    have hpre2 : pre ++ [x] <+: enters (Step.top (NT.mk k m lo hi r kids)).evs := by have h := hpre; rw [HTK.out] at h; exact h
    have hwm : wrap64 ((pre.length : Int) + 1) = (pre.length : Int) + 1 := w64_lit _ (by omega) (by omega)
    have hwg : wrap64 ((groupsIn pre : Int) + 1) = (groupsIn pre : Int) + 1 := w64_lit _ (by omega) (by omega)
    have cm := hbm.cell
    have fm := hbm.frozen
    have cd := hbd.cell
    have fd := hbd.frozen
    have cg := hbg.cell
    have fg := hbg.frozen
    have cx := cell_heap (i := 0) hxb rfl
    have HBM := Lib.hid hbm
    have HBD := Lib.hid hbd
    have HBG := Lib.hid hbg
    have HBE := Lib.hid hbel
    have HBN := Lib.hid hbn
    have HS := Lib.hid hs
    have HBX := Lib.hid (And.intro hBx hxb)
    have HPRE := Lib.hid hpre2
    have n1 : ¬ (S0 + 1 = Bx) := by omega
    have n2 : ¬ (S0 + 2 = Bx) := by omega
    have n3 : ¬ (S0 + 3 = Bx) := by omega
    have n4 : ¬ (Bx = S0 + 1) := by omega
    have n5 : ¬ (Bx = S0 + 2) := by omega
    have n6 : ¬ (Bx = S0 + 3) := by omega
    have hKB : ∀ (u v : Value), KeptBut S0 W6.heap.size W ((W.setCell ⟨S0 + 1, 0, none⟩ u).setCell ⟨S0 + 2, 0, none⟩ v) := fun u v => ((KeptBut.refl _ _ W).setCell (p := ⟨S0 + 1, 0, none⟩) (by simp only; omega) (by rw [HS6.out]; simp only; omega) u).setCell (p := ⟨S0 + 2, 0, none⟩) (by simp only; omega) (by rw [HS6.out]; simp only; omega) v
    have hBB : ∀ (u v : Value), Below S0 W6 ((W.setCell ⟨S0 + 1, 0, none⟩ u).setCell ⟨S0 + 2, 0, none⟩ v) := fun u v => (hbel.setCell (p := ⟨S0 + 1, 0, none⟩) (by simp only; omega) u).setCell (p := ⟨S0 + 2, 0, none⟩) (by simp only; omega) v
    have hot : ∀ (A : World) (b : Nat) (p : Addr) (u : Value), b ≠ p.block → (A.setCell p u).heap[b]? = A.heap[b]? := fun A b p u h => Below.heap_setCell _ _ _ _ h
    have hB1 : ∀ (u v : Value), ((W.setCell ⟨S0 + 1, 0, none⟩ u).setCell ⟨S0 + 2, 0, none⟩ v).heap[S0 + 1]? = (W.setCell ⟨S0 + 1, 0, none⟩ u).heap[S0 + 1]? := fun u v => hot _ _ _ _ (by simp only; omega)
    have hB2 : ∀ (u v : Value), Boxed ((W.setCell ⟨S0 + 1, 0, none⟩ u).setCell ⟨S0 + 2, 0, none⟩ v) (S0 + 2) 3 v := fun u v => by
      have e : Boxed (W.setCell ⟨S0 + 1, 0, none⟩ u) (S0 + 2) 3 (.int .i64 (deepOf pre)) := (hot _ _ _ _ (by simp only; omega)).trans hbd
      exact e.set v
    have hB3 : ∀ (u v : Value), ((W.setCell ⟨S0 + 1, 0, none⟩ u).setCell ⟨S0 + 2, 0, none⟩ v).heap[S0 + 3]? = W.heap[S0 + 3]? := fun u v => (hot _ _ _ _ (by simp only; omega)).trans (hot _ _ _ _ (by simp only; omega))
    have hB0 : ∀ (u v : Value), ((W.setCell ⟨S0 + 1, 0, none⟩ u).setCell ⟨S0 + 2, 0, none⟩ v).heap[S0]? = W.heap[S0]? := fun u v => (hot _ _ _ _ (by simp only; omega)).trans (hot _ _ _ _ (by simp only; omega))
    have HALL := Lib.hid (And.intro hKB (And.intro hBB (And.intro hB0 (And.intro hB1 (And.intro hB2 hB3)))))
    have HOT := Lib.hid hot
    have HLP := Lib.hid (show ((pre.length : Int) + 1) = ((pre ++ [x]).length : Int) by simp)
    have HDP := Lib.hid (deepOf_snoc pre x)
    have HGP := Lib.hid (groupsIn_snoc pre x)
    clear hbm hbd hbg hbel hbn hs hxb hl hg hpre hBx hKB hBB hot hB0 hB1 hB2 hB3
    by_cases h7 : x.n.k = 7
    · have hm7 := numbered_at _ 0 HNUM.out pre x hpre2 h7
      rw [Int.zero_add] at hm7
      have cx1 := cell_heap (i := 1) HBX.out.2 rfl
      rw [hm7] at cx1
      rw [h7] at cx
      have H7 := Lib.hid h7
      clear h7 hm7 hpre2
      gi_wp2_with fail
      refine ⟨rfl, (HALL.out.1 _ _).setCell (p := ⟨S0 + 3, 0, none⟩) (by simp only; omega) (by rw [HS6.out]; simp only; omega) _, ?_, ?_, ?_, (HALL.out.2.1 _ _).setCell (p := ⟨S0 + 3, 0, none⟩) (by simp only; omega) _, ?_⟩
      · rw [← HLP.out]
        exact (HOT.out _ _ _ _ (by simp only; omega)).trans ((HALL.out.2.2.2.1 _ _).trans (HBM.out.set _))
      · rw [HDP.out]
        exact (HOT.out _ _ _ _ (by simp only; omega)).trans (HALL.out.2.2.2.2.1 _ _)
      · rw [HGP.out, if_pos H7.out]
        exact (show Boxed _ (S0 + 3) 3 _ from (HALL.out.2.2.2.2.2 _ _).trans HBG.out).set _
      · exact (HOT.out _ _ _ _ (by simp only; omega)).trans ((HALL.out.2.2.1 _ _).trans HBN.out)
    · have h72 : (x.n.k == 7) = false := beq_eq_false_iff_ne.2 h7
      have H7 := Lib.hid h7
      clear h7 hpre2
      gi_wp2_with fail
      refine ⟨rfl, HALL.out.1 _ _, ?_, ?_, ?_, HALL.out.2.1 _ _, ?_⟩
      · rw [← HLP.out]
        exact (HALL.out.2.2.2.1 _ _).trans (HBM.out.set _)
      · rw [HDP.out]
        exact HALL.out.2.2.2.2.1 _ _
      · rw [HGP.out, if_neg H7.out]
        exact (HALL.out.2.2.2.2.2 _ _).trans HBG.out
      · exact (HALL.out.2.2.1 _ _).trans HBN.out
  case hdone =>
    rintro W ⟨hbm, hbd, hbg, hbel, hbn⟩ hs hK
    have HKK := Lib.hid hK
    have HS := Lib.hid hs
    have HMD := Lib.hid hbm
    have HDD := Lib.hid hbd
    have HGD := Lib.hid hbg
    have HBE := Lib.hid hbel
    have HND := Lib.hid hbn
    clear hbm hbd hbg hbel hbn hs hK
    rw [HTK.out] at HMD HDD HGD
    obtain ⟨xs, hxs⟩ : ∃ xs, xs = enters (Step.top (NT.mk k m lo hi r kids)).evs := ⟨_, rfl⟩
    have hlen := HLEN.out
    have hdeep := HDEEP.out
    have hgr := HGR.out
    rw [← hxs] at HMD HDD HGD hlen hdeep hgr
    simp only [Int.zero_add] at hlen hgr
    have hnod : xs.length = (NT.mk k m lo hi r kids).nodes := by rw [hxs]; exact enters_length (NT.mk k m lo hi r kids) 1 0 true true true
    obtain ⟨many, hmany⟩ : ∃ many : Int, many = (xs.length : Int) := ⟨_, rfl⟩
    obtain ⟨deep, hdp⟩ : ∃ deep : Int, deep = deepOf xs := ⟨_, rfl⟩
    obtain ⟨grp, hgp⟩ : ∃ grp : Int, grp = (groupsIn xs : Int) := ⟨_, rfl⟩
    have ec : countT (NT.mk k m lo hi r kids) = many := by unfold countT; rw [← hnod, hmany]; omega
    have ed : depthT (NT.mk k m lo hi r kids) = deep := by unfold depthT; rw [if_neg (by rw [← hnod]; omega), hdp, hxs]
    have eg : groupsT (NT.mk k m lo hi r kids) = grp := by unfold groupsT; rw [if_neg (by rw [← hnod]; omega), hgp, hxs]
    have l1 : many ≤ 2000 := by rw [hmany]; omega
    have l2 : deep ≤ 40 := by rw [hdp]; exact deepOf_le 40 xs 0 (by omega) (fun s hs => (hdeep s hs).1)
    have l3 : grp ≤ 30 := by rw [hgp]; omega
    rw [← hmany] at HMD
    rw [← hdp] at HDD
    rw [← hgp] at HGD
    have EC := Lib.hid ec
    have ED := Lib.hid ed
    have EG := Lib.hid eg
    clear hxs hlen hdeep hgr hnod hmany hdp hgp ec ed eg
    have hS0W : S0 + 6 ≤ W.heap.size := by have h1 := HS.out; have h2 := HS6.out; omega
    have HS0W := Lib.hid hS0W
    have hwW : Below w.heap.size w W := HB3.out.trans ((HB6.out.trans (HBE.out.mono H3S.out)).mono (by have := HS3.out; omega))
    have HWW := Lib.hid hwW
    have h2W : W.heap[w.heap.size + 2]? = some (.cells #[.bool false] 4) := ((HB6.out.trans (HBE.out.mono H3S.out)).block _ (by have := HS3.out; omega)).trans H2.out
    have H2W := Lib.hid h2W
    have h0W : W.heap[w.heap.size]? = some (.cells #[.int .i64 k, .int .i64 m, .int .i64 lo, .int .i64 hi, .slice ar r.length cr, .slice ak kids.length ck] 44) := ((HB6.out.trans (HBE.out.mono H3S.out)).block _ (by have := HS3.out; omega)).trans H0.out
    have H0W := Lib.hid h0W
    have HSWW := Lib.hid (show w.heap.size + 3 ≤ W.heap.size by have := HSW.out; omega)
    clear hwW hS0W h2W h0W
    gi_wp2_with fail
    refine drawn_only ?_
    have HBa := Lib.hid (show Below W.heap.size W W.drew from (Below.refl _ W).drew)
    refine start_ (n := 29) (S := fun w' => Below W.heap.size W w') (ds := [28]) #[false, false, false, false, false, false, false, false, false, false, false, false, false, false, false, false, false, false, false, false, false, false, false, false, false, false, false, false, false] (by kernel_rfl) rfl rfl HBa.out (fun hHeld => ?_)
    refine with_self (fun HT_ => ?_)
    generalize W.drew = w_d at HBa hHeld ⊢
    refine take_ (i := 0) (N := some 43) (v := ?_) (a' := ?_) #[true, false, false, false, false, false, false, false, false, false, false, false, false, false, false, false, false, false, false, false, false, false, false, false, false, false, false, false, false] rfl rfl (take_of HT_.out (by kernel_rfl)) (fun _ _ _ h => h) (Or.inl ⟨by rfl, ?_⟩) hHeld ?_ ?_
    rotate_left
    · intro w' hS
      have c0 := cell_heap (i := 0) ((hS.block _ (by have := HS0W.out; omega)).trans HMD.out) rfl
      clear hS
      go_simp
      with_reducible rfl
    rotate_left
    · simp only [Act.put, List.setIfInBounds_toArray, List.set_cons_zero, List.set_cons_succ, i64_w, i32_w]
      rfl
    refine take_ (i := 1) (N := some 44) (v := ?_) (a' := ?_) #[true, true, false, false, false, false, false, false, false, false, false, false, false, false, false, false, false, false, false, false, false, false, false, false, false, false, false, false, false] rfl rfl (take_of HT_.out (by kernel_rfl)) (fun _ _ _ h => h) (Or.inl ⟨by rfl, ?_⟩) hHeld ?_ ?_
    rotate_left
    · intro w' hS
      have hz := (hS.block _ (by have := HSWW.out; omega)).trans H0W.out
      have n0 := cell_heap (i := 0) hz rfl
      have n1 := cell_heap (i := 1) hz rfl
      have n2 := cell_heap (i := 2) hz rfl
      have n3 := cell_heap (i := 3) hz rfl
      have n4 := cell_heap (i := 4) hz rfl
      have n5 := cell_heap (i := 5) hz rfl
      clear hz
      clear hS
      go_simp
      with_reducible rfl
    rotate_left
    · simp only [Act.put, List.setIfInBounds_toArray, List.set_cons_zero, List.set_cons_succ, i64_w, i32_w]
      rfl
    refine one_ (i := 2) (N := some 45) #[true, true, true, false, false, false, false, false, false, false, false, false, false, false, false, false, false, false, false, false, false, false, false, false, false, false, false, false, false] rfl rfl (one_of HT_.out (by kernel_rfl)) (by decide) (fun K hK => ?_)
    refine goes_ Try.func51 (by kernel_rfl) rfl #[.agg #[.int .i64 k, .int .i64 m, .int .i64 lo, .int .i64 hi, .slice ar r.length cr, .slice ak kids.length ck]] (by rfl) rfl rfl (by (try simp only [List.map_toArray, List.map_cons, List.map_nil]); first | done | rfl) ?_
    refine (count_calls (.mk k m lo hi r kids) _ w_d ((HT.out.move (fun b hb => ((HBa.out.mono (by have := HSWW.out; omega)).block b hb).trans (HWW.out.block b hb))).mono (fun b hb => Nat.lt_of_lt_of_le hb (Nat.le_trans HWW.out.size HBa.out.size))) (by have := HN.out; omega)).mono ?_
    rintro e w1 ⟨rfl, hB⟩
    have HB_w1 := Lib.hid (HBa.out.trans (hB.mono HBa.out.size))
    rw [EC.out]
    clear hB
    refine ⟨_, rfl, ?_⟩
    clear hHeld
    refine hK.out _ _ HB_w1.out (fun hHeld => ?_)
    clear hK K
    refine norm_ (a' := ?_) ?_ ?_
    rotate_left
    · show Act.put _ (some 45) _ = _
      simp only [Act.put, List.setIfInBounds_toArray, List.set_cons_zero, List.set_cons_succ, i64_w, i32_w]
      rfl
    refine pure_ (i := 3) (N := some 46) (v := ?_) (a' := ?_) #[true, true, true, true, false, false, false, false, false, false, false, false, false, false, false, false, false, false, false, false, false, false, false, false, false, false, false, false, false] rfl rfl (any_of HT_.out (by kernel_rfl)) (fun _ _ _ h => h) (Or.inl ⟨by rfl, ?_⟩) ?_ ?_
    rotate_left
    · intro w'
      go_simp
      with_reducible rfl
    rotate_left
    · simp only [Act.put, List.setIfInBounds_toArray, List.set_cons_zero, List.set_cons_succ, i64_w, i32_w]
      rfl
    refine pure_ (i := 4) (N := some 47) (v := ?_) (a' := ?_) #[true, true, true, true, true, false, false, false, false, false, false, false, false, false, false, false, false, false, false, false, false, false, false, false, false, false, false, false, false] rfl rfl (any_of HT_.out (by kernel_rfl)) (fun _ _ _ h => h) (Or.inl ⟨by rfl, ?_⟩) ?_ ?_
    rotate_left
    · intro w'
      go_simp
      with_reducible rfl
    rotate_left
    · simp only [Act.put, List.setIfInBounds_toArray, List.set_cons_zero, List.set_cons_succ, i64_w, i32_w]
      rfl
    refine take_ (i := 5) (N := some 48) (v := ?_) (a' := ?_) #[true, true, true, true, true, true, false, false, false, false, false, false, false, false, false, false, false, false, false, false, false, false, false, false, false, false, false, false, false] rfl rfl (take_of HT_.out (by kernel_rfl)) (fun _ _ _ h => h) (Or.inl ⟨by rfl, ?_⟩) hHeld ?_ ?_
    rotate_left
    · intro w' hS
      have c0 := cell_heap (i := 0) ((hS.block _ (by have := HS0W.out; omega)).trans HMD.out) rfl
      clear hS
      go_simp
      with_reducible rfl
    rotate_left
    · simp only [Act.put, List.setIfInBounds_toArray, List.set_cons_zero, List.set_cons_succ, i64_w, i32_w]
      rfl
    refine pure_ (i := 6) (N := some 49) (v := ?_) (a' := ?_) #[true, true, true, true, true, true, true, false, false, false, false, false, false, false, false, false, false, false, false, false, false, false, false, false, false, false, false, false, false] rfl rfl (any_of HT_.out (by kernel_rfl)) (fun _ _ _ h => h) (Or.inl ⟨by rfl, ?_⟩) ?_ ?_
    rotate_left
    · intro w'
      go_simp
      with_reducible rfl
    rotate_left
    · simp only [Act.put, List.setIfInBounds_toArray, List.set_cons_zero, List.set_cons_succ, i64_w, i32_w]
      rfl
    refine pure_ (i := 7) (N := some 50) (v := ?_) (a' := ?_) #[true, true, true, true, true, true, true, true, false, false, false, false, false, false, false, false, false, false, false, false, false, false, false, false, false, false, false, false, false] rfl rfl (any_of HT_.out (by kernel_rfl)) (fun _ _ _ h => h) (Or.inl ⟨by rfl, ?_⟩) ?_ ?_
    rotate_left
    · intro w'
      go_simp
      with_reducible rfl
    rotate_left
    · simp only [Act.put, List.setIfInBounds_toArray, List.set_cons_zero, List.set_cons_succ, i64_w, i32_w]
      rfl
    refine pure_ (i := 8) (N := some 51) (v := ?_) (a' := ?_) #[true, true, true, true, true, true, true, true, true, false, false, false, false, false, false, false, false, false, false, false, false, false, false, false, false, false, false, false, false] rfl rfl (any_of HT_.out (by kernel_rfl)) (fun _ _ _ h => h) (Or.inl ⟨by rfl, ?_⟩) ?_ ?_
    rotate_left
    · intro w'
      go_simp
      with_reducible rfl
    rotate_left
    · simp only [Act.put, List.setIfInBounds_toArray, List.set_cons_zero, List.set_cons_succ, i64_w, i32_w]
      rfl
    refine take_ (i := 9) (N := some 52) (v := ?_) (a' := ?_) #[true, true, true, true, true, true, true, true, true, true, false, false, false, false, false, false, false, false, false, false, false, false, false, false, false, false, false, false, false] rfl rfl (take_of HT_.out (by kernel_rfl)) (fun _ _ _ h => h) (Or.inl ⟨by rfl, ?_⟩) hHeld ?_ ?_
    rotate_left
    · intro w' hS
      have c0 := cell_heap (i := 0) ((hS.block _ (by have := HS0W.out; omega)).trans HDD.out) rfl
      clear hS
      go_simp
      with_reducible rfl
    rotate_left
    · simp only [Act.put, List.setIfInBounds_toArray, List.set_cons_zero, List.set_cons_succ, i64_w, i32_w]
      rfl
    refine take_ (i := 10) (N := some 53) (v := ?_) (a' := ?_) #[true, true, true, true, true, true, true, true, true, true, true, false, false, false, false, false, false, false, false, false, false, false, false, false, false, false, false, false, false] rfl rfl (take_of HT_.out (by kernel_rfl)) (fun _ _ _ h => h) (Or.inl ⟨by rfl, ?_⟩) hHeld ?_ ?_
    rotate_left
    · intro w' hS
      have hz := (hS.block _ (by have := HSWW.out; omega)).trans H0W.out
      have n0 := cell_heap (i := 0) hz rfl
      have n1 := cell_heap (i := 1) hz rfl
      have n2 := cell_heap (i := 2) hz rfl
      have n3 := cell_heap (i := 3) hz rfl
      have n4 := cell_heap (i := 4) hz rfl
      have n5 := cell_heap (i := 5) hz rfl
      clear hz
      clear hS
      go_simp
      with_reducible rfl
    rotate_left
    · simp only [Act.put, List.setIfInBounds_toArray, List.set_cons_zero, List.set_cons_succ, i64_w, i32_w]
      rfl
    refine one_ (i := 11) (N := some 54) #[true, true, true, true, true, true, true, true, true, true, true, true, false, false, false, false, false, false, false, false, false, false, false, false, false, false, false, false, false] rfl rfl (one_of HT_.out (by kernel_rfl)) (by decide) (fun K hK => ?_)
    refine goes_ Try.func52 (by kernel_rfl) rfl #[.agg #[.int .i64 k, .int .i64 m, .int .i64 lo, .int .i64 hi, .slice ar r.length cr, .slice ak kids.length ck]] (by rfl) rfl rfl (by (try simp only [List.map_toArray, List.map_cons, List.map_nil]); first | done | rfl) ?_
    refine (depth_calls (.mk k m lo hi r kids) _ w1 ((HT.out.move (fun b hb => ((HB_w1.out.mono (by have := HSWW.out; omega)).block b hb).trans (HWW.out.block b hb))).mono (fun b hb => Nat.lt_of_lt_of_le hb (Nat.le_trans HWW.out.size HB_w1.out.size))) (by have := HN.out; omega)).mono ?_
    rintro e w2 ⟨rfl, hB⟩
    have HB_w2 := Lib.hid (HB_w1.out.trans (hB.mono HB_w1.out.size))
    rw [ED.out]
    clear hB
    refine ⟨_, rfl, ?_⟩
    clear hHeld
    refine hK.out _ _ HB_w2.out (fun hHeld => ?_)
    clear hK K
    refine norm_ (a' := ?_) ?_ ?_
    rotate_left
    · show Act.put _ (some 54) _ = _
      simp only [Act.put, List.setIfInBounds_toArray, List.set_cons_zero, List.set_cons_succ, i64_w, i32_w]
      rfl
    refine pure_ (i := 12) (N := some 55) (v := ?_) (a' := ?_) #[true, true, true, true, true, true, true, true, true, true, true, true, true, false, false, false, false, false, false, false, false, false, false, false, false, false, false, false, false] rfl rfl (any_of HT_.out (by kernel_rfl)) (fun _ _ _ h => h) (Or.inl ⟨by rfl, ?_⟩) ?_ ?_
    rotate_left
    · intro w'
      go_simp
      with_reducible rfl
    rotate_left
    · simp only [Act.put, List.setIfInBounds_toArray, List.set_cons_zero, List.set_cons_succ, i64_w, i32_w]
      rfl
    refine pure_ (i := 13) (N := some 56) (v := ?_) (a' := ?_) #[true, true, true, true, true, true, true, true, true, true, true, true, true, true, false, false, false, false, false, false, false, false, false, false, false, false, false, false, false] rfl rfl (any_of HT_.out (by kernel_rfl)) (fun _ _ _ h => h) (Or.inl ⟨by rfl, ?_⟩) ?_ ?_
    rotate_left
    · intro w'
      go_simp
      with_reducible rfl
    rotate_left
    · simp only [Act.put, List.setIfInBounds_toArray, List.set_cons_zero, List.set_cons_succ, i64_w, i32_w]
      rfl
    refine pure_ (i := 14) (N := some 57) (v := ?_) (a' := ?_) #[true, true, true, true, true, true, true, true, true, true, true, true, true, true, true, false, false, false, false, false, false, false, false, false, false, false, false, false, false] rfl rfl (any_of HT_.out (by kernel_rfl)) (fun _ _ _ h => h) (Or.inl ⟨by rfl, ?_⟩) ?_ ?_
    rotate_left
    · intro w'
      go_simp
      with_reducible rfl
    rotate_left
    · simp only [Act.put, List.setIfInBounds_toArray, List.set_cons_zero, List.set_cons_succ, i64_w, i32_w]
      rfl
    refine take_ (i := 15) (N := some 58) (v := ?_) (a' := ?_) #[true, true, true, true, true, true, true, true, true, true, true, true, true, true, true, true, false, false, false, false, false, false, false, false, false, false, false, false, false] rfl rfl (take_of HT_.out (by kernel_rfl)) (fun _ _ _ h => h) (Or.inl ⟨by rfl, ?_⟩) hHeld ?_ ?_
    rotate_left
    · intro w' hS
      have c0 := cell_heap (i := 0) ((hS.block _ (by have := HS0W.out; omega)).trans HDD.out) rfl
      clear hS
      go_simp
      with_reducible rfl
    rotate_left
    · simp only [Act.put, List.setIfInBounds_toArray, List.set_cons_zero, List.set_cons_succ, i64_w, i32_w]
      rfl
    refine pure_ (i := 16) (N := some 59) (v := ?_) (a' := ?_) #[true, true, true, true, true, true, true, true, true, true, true, true, true, true, true, true, true, false, false, false, false, false, false, false, false, false, false, false, false] rfl rfl (any_of HT_.out (by kernel_rfl)) (fun _ _ _ h => h) (Or.inl ⟨by rfl, ?_⟩) ?_ ?_
    rotate_left
    · intro w'
      go_simp
      with_reducible rfl
    rotate_left
    · simp only [Act.put, List.setIfInBounds_toArray, List.set_cons_zero, List.set_cons_succ, i64_w, i32_w]
      rfl
    refine pure_ (i := 17) (N := some 60) (v := ?_) (a' := ?_) #[true, true, true, true, true, true, true, true, true, true, true, true, true, true, true, true, true, true, false, false, false, false, false, false, false, false, false, false, false] rfl rfl (any_of HT_.out (by kernel_rfl)) (fun _ _ _ h => h) (Or.inl ⟨by rfl, ?_⟩) ?_ ?_
    rotate_left
    · intro w'
      go_simp
      with_reducible rfl
    rotate_left
    · simp only [Act.put, List.setIfInBounds_toArray, List.set_cons_zero, List.set_cons_succ, i64_w, i32_w]
      rfl
    refine pure_ (i := 18) (N := some 61) (v := ?_) (a' := ?_) #[true, true, true, true, true, true, true, true, true, true, true, true, true, true, true, true, true, true, true, false, false, false, false, false, false, false, false, false, false] rfl rfl (any_of HT_.out (by kernel_rfl)) (fun _ _ _ h => h) (Or.inl ⟨by rfl, ?_⟩) ?_ ?_
    rotate_left
    · intro w'
      go_simp
      with_reducible rfl
    rotate_left
    · simp only [Act.put, List.setIfInBounds_toArray, List.set_cons_zero, List.set_cons_succ, i64_w, i32_w]
      rfl
    refine take_ (i := 19) (N := some 62) (v := ?_) (a' := ?_) #[true, true, true, true, true, true, true, true, true, true, true, true, true, true, true, true, true, true, true, true, false, false, false, false, false, false, false, false, false] rfl rfl (take_of HT_.out (by kernel_rfl)) (fun _ _ _ h => h) (Or.inl ⟨by rfl, ?_⟩) hHeld ?_ ?_
    rotate_left
    · intro w' hS
      have c0 := cell_heap (i := 0) ((hS.block _ (by have := HS0W.out; omega)).trans HGD.out) rfl
      clear hS
      go_simp
      with_reducible rfl
    rotate_left
    · simp only [Act.put, List.setIfInBounds_toArray, List.set_cons_zero, List.set_cons_succ, i64_w, i32_w]
      rfl
    refine take_ (i := 20) (N := some 63) (v := ?_) (a' := ?_) #[true, true, true, true, true, true, true, true, true, true, true, true, true, true, true, true, true, true, true, true, true, false, false, false, false, false, false, false, false] rfl rfl (take_of HT_.out (by kernel_rfl)) (fun _ _ _ h => h) (Or.inl ⟨by rfl, ?_⟩) hHeld ?_ ?_
    rotate_left
    · intro w' hS
      have hz := (hS.block _ (by have := HSWW.out; omega)).trans H0W.out
      have n0 := cell_heap (i := 0) hz rfl
      have n1 := cell_heap (i := 1) hz rfl
      have n2 := cell_heap (i := 2) hz rfl
      have n3 := cell_heap (i := 3) hz rfl
      have n4 := cell_heap (i := 4) hz rfl
      have n5 := cell_heap (i := 5) hz rfl
      clear hz
      clear hS
      go_simp
      with_reducible rfl
    rotate_left
    · simp only [Act.put, List.setIfInBounds_toArray, List.set_cons_zero, List.set_cons_succ, i64_w, i32_w]
      rfl
    refine one_ (i := 21) (N := some 64) #[true, true, true, true, true, true, true, true, true, true, true, true, true, true, true, true, true, true, true, true, true, true, false, false, false, false, false, false, false] rfl rfl (one_of HT_.out (by kernel_rfl)) (by decide) (fun K hK => ?_)
    refine goes_ Try.func53 (by kernel_rfl) rfl #[.agg #[.int .i64 k, .int .i64 m, .int .i64 lo, .int .i64 hi, .slice ar r.length cr, .slice ak kids.length ck]] (by rfl) rfl rfl (by (try simp only [List.map_toArray, List.map_cons, List.map_nil]); first | done | rfl) ?_
    refine (groups_calls (.mk k m lo hi r kids) _ w2 ((HT.out.move (fun b hb => ((HB_w2.out.mono (by have := HSWW.out; omega)).block b hb).trans (HWW.out.block b hb))).mono (fun b hb => Nat.lt_of_lt_of_le hb (Nat.le_trans HWW.out.size HB_w2.out.size))) (by have := HN.out; omega)).mono ?_
    rintro e w3 ⟨rfl, hB⟩
    have HB_w3 := Lib.hid (HB_w2.out.trans (hB.mono HB_w2.out.size))
    rw [EG.out]
    clear hB
    refine ⟨_, rfl, ?_⟩
    clear hHeld
    refine hK.out _ _ HB_w3.out (fun hHeld => ?_)
    clear hK K
    refine norm_ (a' := ?_) ?_ ?_
    rotate_left
    · show Act.put _ (some 64) _ = _
      simp only [Act.put, List.setIfInBounds_toArray, List.set_cons_zero, List.set_cons_succ, i64_w, i32_w]
      rfl
    refine pure_ (i := 22) (N := some 65) (v := ?_) (a' := ?_) #[true, true, true, true, true, true, true, true, true, true, true, true, true, true, true, true, true, true, true, true, true, true, true, false, false, false, false, false, false] rfl rfl (any_of HT_.out (by kernel_rfl)) (fun _ _ _ h => h) (Or.inl ⟨by rfl, ?_⟩) ?_ ?_
    rotate_left
    · intro w'
      go_simp
      with_reducible rfl
    rotate_left
    · simp only [Act.put, List.setIfInBounds_toArray, List.set_cons_zero, List.set_cons_succ, i64_w, i32_w]
      rfl
    refine pure_ (i := 23) (N := some 66) (v := ?_) (a' := ?_) #[true, true, true, true, true, true, true, true, true, true, true, true, true, true, true, true, true, true, true, true, true, true, true, true, false, false, false, false, false] rfl rfl (any_of HT_.out (by kernel_rfl)) (fun _ _ _ h => h) (Or.inl ⟨by rfl, ?_⟩) ?_ ?_
    rotate_left
    · intro w'
      go_simp
      with_reducible rfl
    rotate_left
    · simp only [Act.put, List.setIfInBounds_toArray, List.set_cons_zero, List.set_cons_succ, i64_w, i32_w]
      rfl
    refine pure_ (i := 24) (N := some 67) (v := ?_) (a' := ?_) #[true, true, true, true, true, true, true, true, true, true, true, true, true, true, true, true, true, true, true, true, true, true, true, true, true, false, false, false, false] rfl rfl (any_of HT_.out (by kernel_rfl)) (fun _ _ _ h => h) (Or.inl ⟨by rfl, ?_⟩) ?_ ?_
    rotate_left
    · intro w'
      go_simp
      with_reducible rfl
    rotate_left
    · simp only [Act.put, List.setIfInBounds_toArray, List.set_cons_zero, List.set_cons_succ, i64_w, i32_w]
      rfl
    refine take_ (i := 25) (N := some 68) (v := ?_) (a' := ?_) #[true, true, true, true, true, true, true, true, true, true, true, true, true, true, true, true, true, true, true, true, true, true, true, true, true, true, false, false, false] rfl rfl (take_of HT_.out (by kernel_rfl)) (fun _ _ _ h => h) (Or.inl ⟨by rfl, ?_⟩) hHeld ?_ ?_
    rotate_left
    · intro w' hS
      have c0 := cell_heap (i := 0) ((hS.block _ (by have := HS0W.out; omega)).trans HGD.out) rfl
      clear hS
      go_simp
      with_reducible rfl
    rotate_left
    · simp only [Act.put, List.setIfInBounds_toArray, List.set_cons_zero, List.set_cons_succ, i64_w, i32_w]
      rfl
    refine pure_ (i := 26) (N := some 69) (v := ?_) (a' := ?_) #[true, true, true, true, true, true, true, true, true, true, true, true, true, true, true, true, true, true, true, true, true, true, true, true, true, true, true, false, false] rfl rfl (any_of HT_.out (by kernel_rfl)) (fun _ _ _ h => h) (Or.inl ⟨by rfl, ?_⟩) ?_ ?_
    rotate_left
    · intro w'
      go_simp
      with_reducible rfl
    rotate_left
    · simp only [Act.put, List.setIfInBounds_toArray, List.set_cons_zero, List.set_cons_succ, i64_w, i32_w]
      rfl
    refine pure_ (i := 27) (N := some 70) (v := ?_) (a' := ?_) #[true, true, true, true, true, true, true, true, true, true, true, true, true, true, true, true, true, true, true, true, true, true, true, true, true, true, true, true, false] rfl rfl (any_of HT_.out (by kernel_rfl)) (fun _ _ _ h => h) (Or.inl ⟨by rfl, ?_⟩) ?_ ?_
    rotate_left
    · intro w'
      go_simp
      with_reducible rfl
    rotate_left
    · simp only [Act.put, List.setIfInBounds_toArray, List.set_cons_zero, List.set_cons_succ, i64_w, i32_w]
      rfl
    refine last_ (i := 28) (N := none) #[true, true, true, true, true, true, true, true, true, true, true, true, true, true, true, true, true, true, true, true, true, true, true, true, true, true, true, true, true] rfl rfl (one_of HT_.out (by kernel_rfl)) (by decide) (fun K hK => ?_)
    have hz := (HB_w3.out.block _ (by have := HSWW.out; omega)).trans H2W.out
    have cz := cell_heap (i := 0) hz rfl
    have fz : w3.frozen? ⟨w.heap.size + 2, 0, none⟩ = false := by simp [World.frozen?, hz]
    clear hz
    refine skip_ (w1 := ?_) (by rfl) rfl ?_ ?_
    rotate_left
    · go_simp
      rfl
    refine hK.out _ _ ?_
    clear hK K
    refine done_ (done_of HT_.out (by kernel_rfl)) ?_
    clear HT_ hHeld
    simp only [onlyNormal]
    gi_wp2_with fail
    have hlt6 : W6.heap.size < W.heap.size := by have h1 := HS6.out; have h2 := HS0W.out; omega
    have hne6 : W6.heap.size ≠ w.heap.size + 2 := by have h1 := HS6.out; have h2 := HSW.out; omega
    have hdf : (w3.setCell ⟨w.heap.size + 2, 0, none⟩ (.bool true)).heap[W6.heap.size]? = some (.deferred (some [])) := (Below.heap_setCell _ _ _ _ hne6).trans ((HB_w3.out.block _ hlt6).trans HKK.out)
    have e1 : ∀ ob : Obj, ((w3.setCell ⟨w.heap.size + 2, 0, none⟩ (.bool true)).putObj W6.heap.size ob).cell? ⟨w.heap.size + 2, 0, none⟩ = some (.bool true) := fun ob => by
      rw [World.cell?_of_block (w := (w3.setCell ⟨w.heap.size + 2, 0, none⟩ (.bool true))) (a := ⟨w.heap.size + 2, 0, none⟩) (World.putObj_heap_other (fun e => hne6 e.symm))]
      first | exact World.cell?_setCell_same _ _ cz | exact World.cell?_setCell_same _ _ _ cz
    refine ⟨by simp, .inl ⟨_, _, rfl, run_takeDeferred hdf, ?_⟩⟩
    refine ⟨.bool true, ?_, rfl, ?_⟩
    · simp [results, Try.results10, go_sem, e1]
    · exact ((HWW.out.trans (HB_w3.out.mono HWW.out.size)).setCell (p := ⟨w.heap.size + 2, 0, none⟩) (by simp only; omega) _).trans (below_putObj _ _ (by have h1 := HS6.out; have h2 := HSW.out; omega))
  case hstop => intro c pre W _ h; exact h.elim

theorem sound_calls (t : NT) (cs : List Value) (chars fold : Bool) (w : World) (hT : NIn w (· < w.heap.size) t cs) (hn : t.nodes < 274877906944) :
    Calls Try.prog 10 #[.agg cs.toArray, .agg #[.bool chars, .bool fold]] w fun e w' => e = .returned (.bool true) ∧ Below w.heap.size w w' := by
  have hT0 := hT
  cases hT with
  | mk k m lo hi r kids ar ak cr ck csk _ _ _ _ _ _ _ _ _ =>
    by_cases hR : rightT (.mk k m lo hi r kids) chars fold = 0
    · exact sound_right k m lo hi r kids ar ak cr ck chars fold w hT0 hn hR
    · exact sound_wrong k m lo hi r kids ar ak cr ck chars fold w hT0 hn hR
end Go.Proofs.Ytamhkdlcoghdbaa.PCls
