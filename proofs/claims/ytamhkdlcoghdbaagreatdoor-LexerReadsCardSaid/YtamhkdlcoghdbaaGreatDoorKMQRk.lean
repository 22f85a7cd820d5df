/- Put together (wip/tools/pack.py): QRk, QRv, QLf, QRw. -/
import Derived.Test.YtamhkdlcoghdbaaGreatDoorKMQRq
import Derived.Test.YtamhkdlcoghdbaaGreatDoorKMQYPClsx23
/- Out of Rk (wip/tools/prune2.py): the declarations alone that the texts of the trees name. -/
namespace Go.Proofs.YtamhkdlcoghdbaaGreatDoor.PCls
open Go.RowKit Go.Shelf Go.Proofs.YtamhkdlcoghdbaaGreatDoorW.PrintWords Go.Proofs.YtamhkdlcoghdbaaGreatDoorW.PrintLast Go.Proofs.YtamhkdlcoghdbaaGreatDoorW.PrintMore
set_option linter.unusedVariables false
set_option linter.unusedSimpArgs false
theorem rnamedAll (W : World) (B base p q : Nat) (pp : Nat) (s : ByteArray) (chars fold : Bool) (V : Value) (sg : UInt8) (hsg : sg = 58 ∨ sg = 61 ∨ sg = 46) (h : Rs W B s chars fold pp V 0 0) (hbase : base ≤ W.heap.size) (hB : B < base) (hs : s.size ≤ 2000) (hh : Lx.here s p [91, sg] = true) :
    Calls Tryz.prog 187 #[.pointer (some ⟨B, 0, none⟩), .int .i64 p, .int .i64 q] W fun e w' => RItem W w' e B base s chars fold pp V (Lx.named clC s chars q p sg) := by
  rcases hsg with rfl | rfl | rfl
  · exact rnamed58_calls W B base p q pp s chars fold V h hbase hB hs hh
  · exact rnamed61_calls W B base p q pp s chars fold V h hbase hB hs hh
  · exact rnamed46_calls W B base p q pp s chars fold V h hbase hB hs hh
theorem item_true (C : CL) (s : ByteArray) (chars : Bool) (x0 p : Nat) : Lx.item C s chars x0 p true = if Lx.here s p [91, 58] = true then Lx.named C s chars x0 p 58 else if Lx.here s p [91, 61] = true then Lx.named C s chars x0 p 61 else if Lx.here s p [91, 46] = true then Lx.named C s chars x0 p 46 else if (Lx.unit s chars p).2 = 0 then .error (33, (x0 : Int)) else if (Lx.unit s chars p).1 < 0 then .error (20, (p : Int)) else .ok ⟨true, (Lx.unit s chars p).1, [⟨(Lx.unit s chars p).1, (Lx.unit s chars p).1⟩], p, (p + (Lx.unit s chars p).2 : Nat)⟩ := by
  unfold Lx.item
  simp
/-- what the named reader tells, put into the item's result -/
theorem item_after {W W1 w' : World} {B base : Nat} {s : ByteArray} {chars fold : Bool} {pp : Nat} {V : Value} {r : Except Er It} {e : Ending} (h : RItem W1 w' e B (W.heap.size + 1) s chars fold pp V r) (hb1 : Below W.heap.size W W1) (hk1 : W1.heap[W.heap.size]? = some zero4) (hs1 : W1.heap.size = W.heap.size + 1) (hB : B < base) (hbase : base ≤ W.heap.size) :
    ∃ b c A n k t, e = .returned (.agg #[.bool b, .int .i64 c, .slice A n k, .int .i64 t]) ∧ w'.heap[W.heap.size]? = some zero4 ∧ RItem W (set4 w' W.heap.size (.bool b) (.int .i64 c) (.slice A n k) (.int .i64 t)) e B base s chars fold pp V r := by
  cases r with
  | error x =>
    obtain ⟨⟨b, c, A, n, k, t, rfl⟩, hrs, hst⟩ := h
    refine ⟨b, c, A, n, k, t, rfl, (hst.block _ (by omega) (by omega)).trans hk1, ⟨_, _, _, _, _, _, rfl⟩, set4_rs hrs (by omega) _ _ _ _, set4_stp ((Stp.of_below hb1 hbase).trans (hst.lower (by omega))) hbase _ _ _ _⟩
  | ok i =>
    obtain ⟨A, k, rfl, hrow, hbw⟩ := h
    refine ⟨_, _, _, _, _, _, rfl, (hbw.block _ (by omega)).trans hk1, A, k, rfl, set4_row (hrow.lower (by omega)) (fun g hg => ?_) _ _ _ _, set4_below (hb1.trans (hbw.mono (by omega))) (Nat.le_refl _) _ _ _ _⟩
    have := (ownLt hrow.1 g hg).1
    omega
set_option maxHeartbeats 8000000 in
set_option maxRecDepth 100000 in
theorem ritem_calls (W : World) (B base p q : Nat) (pp : Nat) (s : ByteArray) (chars fold : Bool) (V : Value) (h : Rs W B s chars fold pp V 0 0) (hbase : base ≤ W.heap.size) (hB : B < base) (hs : s.size ≤ 2000) (hp : p ≤ 4000) :
    Calls Tryz.prog 141 #[.pointer (some ⟨B, 0, none⟩), .int .i64 p, .int .i64 q] W fun e w' => RItem W w' e B base s chars fold pp V (Lx.item clC s chars q p true) := by
  have HEQ := Lib.hid (item_true clC s chars q p)
  have hBW := h.lt
  obtain ⟨W1, hW1⟩ : ∃ X, X = W.alloc zero4 := ⟨_, rfl⟩
  have hb1 : Below W.heap.size W W1 := by rw [hW1]; exact (Below.refl _ W).alloc (Nat.le_refl _) _
  have hk1 : W1.heap[W.heap.size]? = some zero4 := by rw [hW1]; exact heap_alloc_new W _
  have hs1 : W1.heap.size = W.heap.size + 1 := by rw [hW1]; simp
  have h1 := h.below hb1
  have c0 := h1.c0
  have HI := Lib.hid (fun (a b : UInt8) => is_calls' W1 B p s ⟨#[a, b]⟩ c0 hs (by omega) (show 2 ≤ 10 by decide))
  have HN := Lib.hid (fun sg hsg hh => rnamedAll W1 B (W.heap.size + 1) p q pp s chars fold V sg hsg h1 (by omega) (by omega) hs hh)
  have HW1 := Lib.hid (And.intro hW1 (And.intro hb1 (And.intro hk1 (And.intro hs1 (And.intro h1 (And.intro hB hbase))))))
  obtain ⟨b1, hB1⟩ : ∃ b, b = Lx.here s p [91, 58] := ⟨_, rfl⟩
  obtain ⟨b2, hB2⟩ : ∃ b, b = Lx.here s p [91, 61] := ⟨_, rfl⟩
  obtain ⟨b3, hB3⟩ : ∃ b, b = Lx.here s p [91, 46] := ⟨_, rfl⟩
  rw [← hB1, ← hB2, ← hB3] at HEQ
  have HB := Lib.hid (And.intro hB1 (And.intro hB2 hB3))
  have hp9 : (p : Int) ≤ 4000 := by omega
  clear h hW1 hb1 hk1 hs1 h1 hbase hB c0 hB1 hB2 hB3
  go_enter Tryz.func141, Tryz.ntmps141
  go_wp2_with fail
  rw [← HW1.out.1]
  refine (HI.out 91 58).mono ?_
  rintro e w ⟨rfl, hw⟩
  subst w
  rw [show Lx.here s p (⟨#[91, 58]⟩ : ByteArray).data.toList = b1 from HB.out.1.symm]
  go_wp2_with fail
  refine (HI.out 91 61).mono ?_
  rintro e w ⟨rfl, hw⟩
  subst w
  rw [show Lx.here s p (⟨#[91, 61]⟩ : ByteArray).data.toList = b2 from HB.out.2.1.symm]
  go_wp2_with fail
  refine (HI.out 91 46).mono ?_
  rintro e w ⟨rfl, hw⟩
  subst w
  rw [show Lx.here s p (⟨#[91, 46]⟩ : ByteArray).data.toList = b3 from HB.out.2.2.symm]
  clear HI
  cases b1 with
  | true =>
    have HX := Lib.hid (HEQ.out.trans (by rw [if_pos rfl]))
    have HNN := Lib.hid (HN.out 58 (by decide) HB.out.1.symm)
    clear HEQ HN
    go_wp2_with fail
    refine HNN.out.mono ?_
    rintro e w' hR
    rw [← HX.out] at hR
    obtain ⟨ib, ic, iA, iN, ik, it, rfl, hz, hE⟩ := item_after hR HW1.out.2.1 HW1.out.2.2.1 HW1.out.2.2.2.1 HW1.out.2.2.2.2.2.1 HW1.out.2.2.2.2.2.2
    have r0 := lk_cell (i := 0) hz rfl
    have r1 := lk_cell (i := 1) hz rfl
    have r2 := lk_cell (i := 2) hz rfl
    have r3 := lk_cell (i := 3) hz rfl
    have q0 : ∀ o, w'.frozen? ⟨W.heap.size, o, none⟩ = false := fun o => by simp only [World.frozen?, hz]; simp
    have HE := Lib.hid (And.intro hz hE)
    clear hz hE hR HNN
    go_wp2
    exact bodyPost_ret (ret4 rfl rfl (set4_blk HE.out.1)) rfl HE.out.2
  | false =>
  cases b2 with
  | true =>
    have HX := Lib.hid (HEQ.out.trans (by rw [if_neg (by decide), if_pos rfl]))
    have HNN := Lib.hid (HN.out 61 (by decide) HB.out.2.1.symm)
    clear HEQ HN
    go_wp2_with fail
    refine HNN.out.mono ?_
    rintro e w' hR
    rw [← HX.out] at hR
    obtain ⟨ib, ic, iA, iN, ik, it, rfl, hz, hE⟩ := item_after hR HW1.out.2.1 HW1.out.2.2.1 HW1.out.2.2.2.1 HW1.out.2.2.2.2.2.1 HW1.out.2.2.2.2.2.2
    have r0 := lk_cell (i := 0) hz rfl
    have r1 := lk_cell (i := 1) hz rfl
    have r2 := lk_cell (i := 2) hz rfl
    have r3 := lk_cell (i := 3) hz rfl
    have q0 : ∀ o, w'.frozen? ⟨W.heap.size, o, none⟩ = false := fun o => by simp only [World.frozen?, hz]; simp
    have HE := Lib.hid (And.intro hz hE)
    clear hz hE hR HNN
    go_wp2
    exact bodyPost_ret (ret4 rfl rfl (set4_blk HE.out.1)) rfl HE.out.2
  | false =>
  cases b3 with
  | true =>
    have HX := Lib.hid (HEQ.out.trans (by rw [if_neg (by decide), if_neg (by decide), if_pos rfl]))
    have HNN := Lib.hid (HN.out 46 (by decide) HB.out.2.2.symm)
    clear HEQ HN
    go_wp2_with fail
    refine HNN.out.mono ?_
    rintro e w' hR
    rw [← HX.out] at hR
    obtain ⟨ib, ic, iA, iN, ik, it, rfl, hz, hE⟩ := item_after hR HW1.out.2.1 HW1.out.2.2.1 HW1.out.2.2.2.1 HW1.out.2.2.2.2.2.1 HW1.out.2.2.2.2.2.2
    have r0 := lk_cell (i := 0) hz rfl
    have r1 := lk_cell (i := 1) hz rfl
    have r2 := lk_cell (i := 2) hz rfl
    have r3 := lk_cell (i := 3) hz rfl
    have q0 : ∀ o, w'.frozen? ⟨W.heap.size, o, none⟩ = false := fun o => by simp only [World.frozen?, hz]; simp
    have HE := Lib.hid (And.intro hz hE)
    clear hz hE hR HNN
    go_wp2
    exact bodyPost_ret (ret4 rfl rfl (set4_blk HE.out.1)) rfl HE.out.2
  | false =>
  have HX := Lib.hid (HEQ.out.trans (by rw [if_neg (by decide), if_neg (by decide), if_neg (by decide)]))
  have HU := Lib.hid (fun w => refunit_calls s chars p w (by omega) (by omega))
  have HR := Lib.hid (unit_rng s chars p)
  obtain ⟨u, hu⟩ : ∃ u, u = Lx.unit s chars p := ⟨_, rfl⟩
  rw [← hu] at HX HU HR
  obtain ⟨c, n⟩ := u
  obtain ⟨hW1, hb1, hk1, hs1, h1, hB, hbase⟩ := HW1.out
  have c0 := h1.c0
  have c1 := h1.c1
  have hn9 : (n : Int) ≤ 2000 := by have := HR.out.2.2; omega
  have HB1 := Lib.hid (And.intro hb1 (And.intro hk1 (And.intro hs1 (And.intro hB (And.intro hbase h1)))))
  have hBl : B < W1.heap.size := h1.lt
  clear HEQ HN HW1 hW1 hb1 hk1 hs1 h1 hB hbase hu HB
  go_wp2_with fail
  have hv := True.intro
  refine go_start (fun w' => Below W1.heap.size W1 w') [] [.p 0, .p 1, .p 2, .t 3, .p 4, .p 5, .p 6, .p 7, .p 8, .t 9, .o 10, .p 11, .p 12, .p 13, .p 14, .p 15] (by kernel_rfl) (by kernel_rfl) (fun c d v a w h => by cases d <;> exact h) ((Below.refl _ W1).drew) (fun w2 hS2 => ?_)
  repeat first
   | refine go_p (v := ?_) (b := ?_) rfl (.inl ⟨by rfl, ?_⟩) ?_ ?_
     rotate_left 2
     · intro w'; go_simp; with_reducible rfl
     · simp only [Act.put, List.setIfInBounds_toArray, List.set_cons_zero, List.set_cons_succ, i64_w, i32_w, hv]; rfl
   | refine go_t (v := ?_) (b := ?_) rfl (.inl ⟨by rfl, ?_⟩) ?_ ?_
     rotate_left 2
     · intro w' hS; have hc := Below.cells hS; go_simp; with_reducible rfl
     · simp only [Act.put, List.setIfInBounds_toArray, List.set_cons_zero, List.set_cons_succ, i64_w, i32_w, hv]; rfl
  refine go_call rfl (by rfl) Tryz.func83 (by kernel_rfl) rfl (by simp only [List.map_toArray, List.map_cons, List.map_nil]; rfl) (HU.out w2) ?_
  rintro e w3 ⟨rfl, hb3⟩
  have hS3 : Below W1.heap.size W1 w3 := hS2.trans (hb3.mono hS2.size)
  refine ⟨_, _, rfl, hS3, (by simp only [Act.put, List.setIfInBounds_toArray, List.set_cons_zero, List.set_cons_succ]; rfl), ?_⟩
  repeat first
   | refine go_p (v := ?_) (b := ?_) rfl (.inl ⟨by rfl, ?_⟩) ?_ ?_
     rotate_left 2
     · intro w'; go_simp; with_reducible rfl
     · simp only [Act.put, List.setIfInBounds_toArray, List.set_cons_zero, List.set_cons_succ, i64_w, i32_w, hv]; rfl
   | refine go_t (v := ?_) (b := ?_) rfl (.inl ⟨by rfl, ?_⟩) ?_ ?_
     rotate_left 2
     · intro w' hS; have hc := Below.cells hS; go_simp; with_reducible rfl
     · simp only [Act.put, List.setIfInBounds_toArray, List.set_cons_zero, List.set_cons_succ, i64_w, i32_w, hv]; rfl
  refine go_done ?_
  have hz := (hS3.block W.heap.size (by have := HB1.out; omega)).trans HB1.out.2.1
  have hrs := HB1.out.2.2.2.2.2.below hS3
  have hsz3 := hS3.size
  have HS3 := Lib.hid (And.intro hS3 (And.intro hz hrs))
  have HNO := Lib.hid (fun (c q : Int) => no_calls w3 B (W.heap.size + 1) s chars fold pp V c q hrs (by have := HB1.out; omega))
  clear hS3 hS2 hb3 c0 c1 hz hrs HU
  by_cases hn : n = 0
  · have HY := Lib.hid (HX.out.trans (if_pos hn))
    have hn' : ((n : Int) == 0) = true := by rw [beq_iff_eq]; omega
    clear HX
    go_wp2_with fail
    refine (HNO.out _ _).mono ?_
    rintro e w4 ⟨rfl, hrs, hst⟩
    have hz := (hst.block W.heap.size (by have := HB1.out; omega) (by have := HB1.out; omega)).trans HS3.out.2.1
    have hsz4 := hst.size
    have hb4 : base ≤ w4.heap.size := by have := HB1.out; omega
    have hz1 : (w4.alloc (.cells #[.int .i64 c, .int .i64 c] 39)).heap[W.heap.size]? = some zero4 := (heap_alloc_old _ _ (Array.getElem?_eq_some_iff.1 hz).1).trans hz
    have r0 := lk_cell (i := 0) hz1 rfl
    have r1 := lk_cell (i := 1) hz1 rfl
    have r2 := lk_cell (i := 2) hz1 rfl
    have r3 := lk_cell (i := 3) hz1 rfl
    have q0 : ∀ o, (w4.alloc (.cells #[.int .i64 c, .int .i64 c] 39)).frozen? ⟨W.heap.size, o, none⟩ = false := fun o => by simp only [World.frozen?, hz1]; simp
    have HE := Lib.hid (And.intro hz1 (And.intro hrs hst))
    clear hz hz1 hrs hst HNO
    go_wp2
    refine bodyPost_ret (ret4 rfl rfl (set4_blk HE.out.1)) rfl ?_
    rw [HY.out]
    exact ⟨⟨_, _, _, _, _, _, rfl⟩, set4_rs (alloc_rs HE.out.2.1 _) (by have := HB1.out; omega) _ _ _ _, set4_stp (alloc_stp ((Stp.of_below (HB1.out.1.trans (HS3.out.1.mono (by have := HB1.out; omega))) HB1.out.2.2.2.2.1).trans (HE.out.2.2.lower (by have := HB1.out; omega))) hb4 _) HB1.out.2.2.2.2.1 _ _ _ _⟩
  have hn' : ((n : Int) == 0) = false := by rw [beq_eq_false_iff_ne]; omega
  by_cases hc : c < 0
  · have HY := Lib.hid (HX.out.trans ((if_neg hn).trans (if_pos hc)))
    clear HX
    go_wp2_with fail
    refine (HNO.out _ _).mono ?_
    rintro e w4 ⟨rfl, hrs, hst⟩
    have hz := (hst.block W.heap.size (by have := HB1.out; omega) (by have := HB1.out; omega)).trans HS3.out.2.1
    have hsz4 := hst.size
    have hb4 : base ≤ w4.heap.size := by have := HB1.out; omega
    have hz1 : (w4.alloc (.cells #[.int .i64 c, .int .i64 c] 39)).heap[W.heap.size]? = some zero4 := (heap_alloc_old _ _ (Array.getElem?_eq_some_iff.1 hz).1).trans hz
    have r0 := lk_cell (i := 0) hz1 rfl
    have r1 := lk_cell (i := 1) hz1 rfl
    have r2 := lk_cell (i := 2) hz1 rfl
    have r3 := lk_cell (i := 3) hz1 rfl
    have q0 : ∀ o, (w4.alloc (.cells #[.int .i64 c, .int .i64 c] 39)).frozen? ⟨W.heap.size, o, none⟩ = false := fun o => by simp only [World.frozen?, hz1]; simp
    have HE := Lib.hid (And.intro hz1 (And.intro hrs hst))
    clear hz hz1 hrs hst HNO
    go_wp2
    refine bodyPost_ret (ret4 rfl rfl (set4_blk HE.out.1)) rfl ?_
    rw [HY.out]
    exact ⟨⟨_, _, _, _, _, _, rfl⟩, set4_rs (alloc_rs HE.out.2.1 _) (by have := HB1.out; omega) _ _ _ _, set4_stp (alloc_stp ((Stp.of_below (HB1.out.1.trans (HS3.out.1.mono (by have := HB1.out; omega))) HB1.out.2.2.2.2.1).trans (HE.out.2.2.lower (by have := HB1.out; omega))) hb4 _) HB1.out.2.2.2.2.1 _ _ _ _⟩
  have HY := Lib.hid (HX.out.trans ((if_neg hn).trans (if_neg hc)))
  have hz := HS3.out.2.1
  have hz1 : (w3.alloc (.cells #[.int .i64 c, .int .i64 c] 39)).heap[W.heap.size]? = some zero4 := (heap_alloc_old _ _ (Array.getElem?_eq_some_iff.1 hz).1).trans hz
  have r0 := lk_cell (i := 0) hz1 rfl
  have r1 := lk_cell (i := 1) hz1 rfl
  have r2 := lk_cell (i := 2) hz1 rfl
  have r3 := lk_cell (i := 3) hz1 rfl
  have q0 : ∀ o, (w3.alloc (.cells #[.int .i64 c, .int .i64 c] 39)).frozen? ⟨W.heap.size, o, none⟩ = false := fun o => by simp only [World.frozen?, hz1]; simp
  have HE := Lib.hid hz1
  clear hz hz1 HNO HX
  go_wp2
  refine bodyPost_ret (v := .agg #[.bool true, .int .i64 c, .slice (some ⟨w3.heap.size, 0, none⟩) 1 1, .int .i64 ((p : Int) + (n : Int))]) (ret4 rfl rfl (set4_blk HE.out)) rfl ?_
  rw [HY.out]
  have hlo : W.heap.size ≤ w3.heap.size := by have := HB1.out; omega
  have hne : ∀ k, (Value.slice (some ⟨w3.heap.size, 0, none⟩) 1 1).ownBlock = some k → k ≠ W.heap.size := fun k hk => by
    have hk2 : w3.heap.size = k := by simpa [Value.ownBlock] using hk
    have := HB1.out
    omega
  have hrow := set4_row (g := W.heap.size) (Row.one w3 c (by have := HR.out; omega)) hne (.bool true) (.int .i64 c) (.slice (some ⟨w3.heap.size, 0, none⟩) 1 1) (.int .i64 ((p : Int) + (n : Int)))
  exact ⟨some ⟨w3.heap.size, 0, none⟩, 1, rfl, hrow.lower hlo, set4_below (((HB1.out.1).trans (HS3.out.1.mono (by have := HB1.out; omega))).alloc hlo _) (Nat.le_refl _) _ _ _ _⟩
theorem rone_calls (W : World) (B : Nat) (s : ByteArray) (chars fold : Bool) (pp : Nat) (V : Value) (x q c : Int) (h : Rs W B s chars fold pp V x q) (hc : 0 ≤ c ∧ c ≤ 1114111) :
    Calls Tryz.prog 92 #[.pointer (some ⟨B, 0, none⟩), .int .i64 c] W fun e w' => ∃ v', e = .returned v' ∧ Row w' W.heap.size v' (Lx.oneR clC fold c) ∧ Below W.heap.size W w' := by
  have hone := Row.one W c (by omega)
  have hb1 : Below W.heap.size W (W.alloc (.cells #[.int .i64 c, .int .i64 c] 39)) := (Below.refl _ W).alloc (Nat.le_refl _) _
  have c2 := (h.below hb1).c2
  have HO := Lib.hid (And.intro hone hb1)
  have HF := Lib.hid (rfold_row (W.alloc (.cells #[.int .i64 c, .int .i64 c] 39)) W.heap.size (.slice (some ⟨W.heap.size, 0, none⟩) 1 1) [⟨c, c⟩] hone (by simp))
  clear hone hb1 h
  cases fold with
  | true =>
    go_enter Tryz.func92, Tryz.ntmps92
    go_wp2_with fail
    refine HF.out.mono ?_
    rintro e w' ⟨v', rfl, hrow, hbw⟩
    obtain ⟨A, k, rfl⟩ := hrow.form
    have HE := Lib.hid (And.intro hrow hbw)
    clear hrow hbw
    go_wp2_with fail
    go_ret
    exact ⟨_, rfl, HE.out.1.lower (by simp), HO.out.2.trans (HE.out.2.mono (by simp))⟩
  | false =>
    go_enter Tryz.func92, Tryz.ntmps92
    go_wp2_with fail
    go_ret
    exact ⟨_, rfl, HO.out.1, HO.out.2⟩
end Go.Proofs.YtamhkdlcoghdbaaGreatDoor.PCls
/- Out of Rv (wip/tools/prune2.py): the declarations alone that the texts of the trees name. -/
namespace Go.Proofs.YtamhkdlcoghdbaaGreatDoor.PCls
open Go.RowKit Go.Shelf Go.Proofs.YtamhkdlcoghdbaaGreatDoorW.PrintWords Go.Proofs.YtamhkdlcoghdbaaGreatDoorW.PrintLast Go.Proofs.YtamhkdlcoghdbaaGreatDoorW.PrintMore
set_option linter.unusedVariables false
set_option linter.unusedSimpArgs false
/-- what a step of the reference's scanner does -/
def RSteps (W w' : World) (e : Ending) (B base : Nat) (s : ByteArray) (chars fold : Bool) (r : Except Er Lx.St) : Prop := e = .returned (.tuple #[]) ∧ match r with
 | .error y => RErr W w' B base s chars fold y
 | .ok y => ∃ V', RSt w' B base s chars fold y V' ∧ Stp W w' B base
theorem RSteps.err {W w' : World} {e : Ending} {B base : Nat} {s : ByteArray} {chars fold : Bool} {r : Except Er Lx.St} {y : Er} (h : r = .error y) (he : e = .returned (.tuple #[])) (hx : RErr W w' B base s chars fold y) : RSteps W w' e B base s chars fold r := by rw [h]; exact ⟨he, hx⟩
theorem RSteps.ok {W w' : World} {e : Ending} {B base : Nat} {s : ByteArray} {chars fold : Bool} {r : Except Er Lx.St} {y : Lx.St} (h : r = .ok y) (he : e = .returned (.tuple #[])) (hx : ∃ V', RSt w' B base s chars fold y V' ∧ Stp W w' B base) : RSteps W w' e B base s chars fold r := by rw [h]; exact ⟨he, hx⟩
theorem RSteps.up {W w w' : World} {e : Ending} {B base : Nat} {s : ByteArray} {chars fold : Bool} {r : Except Er Lx.St} (h : RSteps w w' e B base s chars fold r) (hb : Stp W w B base) : RSteps W w' e B base s chars fold r := by
 cases r with
 | error y => exact ⟨h.1, h.2.1, hb.trans h.2.2⟩
 | ok y => obtain ⟨V', h1, h2⟩ := h.2; exact ⟨h.1, V', h1, hb.trans h2⟩
def ivR (s : ByteArray) (x : Lx.St) (e : Nat) : Except Er Lx.St := match Lx.interval s x.sat e with
 | .error y => .error y
 | .ok (a, b, e2) => .ok (Lx.put x { Lx.tok 2 with lo := a, hi := b } e2)
theorem ivR_eq {s : ByteArray} {x : Lx.St} {p a2 b2 : Nat} {a1 b1 : Int} (ha : (a1, a2) = Lx.number s (s.size + 1) p (-1)) (hb : (if 0 ≤ a1 ∧ Lx.here s a2 [44] = true then Lx.number s (s.size + 1) (a2 + 1) (-1) else (a1, a2)) = (b1, b2)) :
  ivR s x p = if a1 < 0 ∨ Lx.here s b2 [92, 125] = false then .error (36, (x.sat : Int)) else if 255 < a1 ∨ 255 < b1 ∨ (0 ≤ b1 ∧ b1 < a1) then .error (37, (x.sat : Int)) else .ok (Lx.put x { Lx.tok 2 with lo := a1, hi := b1 } (b2 + 2)) := by
 unfold ivR
 rw [interval_eq ha hb]
 by_cases h1 : a1 < 0 ∨ Lx.here s b2 [92, 125] = false
 ·rw [if_pos h1, if_pos h1]
 ·rw [if_neg h1, if_neg h1]
  by_cases h2 : 255 < a1 ∨ 255 < b1 ∨ (0 ≤ b1 ∧ b1 < a1)
  ·rw [if_pos h2, if_pos h2]
  ·rw [if_neg h2, if_neg h2]
set_option maxHeartbeats 8000000 in
set_option maxRecDepth 100000 in
theorem rinterval_calls (W : World) (B base : Nat) (s : ByteArray) (chars fold : Bool) (x : Lx.St) (V : Value) (hst : RSt W B base s chars fold x V) (hx : x.sat + 2 ≤ s.size) :
  Calls Tryz.prog 140 #[.pointer (some ⟨B, 0, none⟩)] W fun e w' => RSteps W w' e B base s chars fold (ivR s x (x.sat + 2)) := by
 have c0 := hst.sc.c0
 have c3 := hst.sc.c3
 have hs := hst.ss
 have HN := Lib.hid (fun p hp => rnumber_calls W B p s c0 hs hp)
 have HH := Lib.hid (fun p t hp ht => is_calls' W B p s t c0 hs hp ht)
 have HNO := Lib.hid (fun (c : Int) => no_calls W B base s chars fold x.sat V c x.sat hst.sc hst.hb)
 obtain ⟨q, hq⟩ : ∃ q, q = x.sat := ⟨_, rfl⟩
 rw [← hq] at c3 hx
 have hw1 : wrap64 ((q : Int) + 2) = ((q + 2 : Nat) : Int) := (w64_in _ (by omega) (by omega)).trans (by omega)
 obtain ⟨a, ha⟩ : ∃ a, a = Lx.number s (s.size + 1) (q + 2) (-1) := ⟨_, rfl⟩
 have hal := number_le s (s.size + 1) (q + 2) (-1) (by omega) (by omega)
 rw [← ha] at hal
 have HA := Lib.hid ha
 clear ha
 obtain ⟨a1, a2⟩ := a
 simp only at hal
 obtain ⟨l1, l2, l3, l4, _⟩ := hal
 have hi0 : (0 : Int) ≤ (a2 : Int) := by omega
 have hi1 : (a2 : Int) ≤ 5000 := by omega
 have hA2 : a2 ≤ 4000 := by omega
 have hq9 : (q : Int) ≤ 2000 := by omega
 have HST := Lib.hid (And.intro hst hq)
 have HPUT := Lib.hid (fun n lo hi e d hed h1 h2 => rput_calls W W B base s chars fold x V hst (Below.refl _ W) 2 n lo hi [] (.slice none 0 0) (Row.nil W W.heap.size).1 rfl (by decide) e d hed h1 h2)
 clear hst hq
 have HIV := Lib.hid (fun b1 b2 hb => ivR_eq (s := s) (x := x) (p := q + 2) (b1 := b1) (b2 := b2) HA.out hb)
 rw [show q + 2 = x.sat + 2 by rw [HST.out.2]] at HIV
 by_cases h0 : a1 < 0
 ·have HX := Lib.hid ((HIV.out a1 a2 (by rw [if_neg (by omega)])).trans (if_pos (.inl h0)))
  have h0' : decide (0 ≤ a1) = false := by rw [decide_eq_false_iff_not]; omega
  go_enter Tryz.func140, Tryz.ntmps140
  go_wp2_with fail
  refine (HN.out (q + 2) (by omega)).mono ?_
  rw [← HA.out, h0']
  rintro e w' ⟨rfl, hw⟩
  subst w'
  clear HN HA HIV
  go_wp2_with fail
  rw [HST.out.2]
  refine (HNO.out 36).mono ?_
  rintro e w2 ⟨rfl, hrs, hstp⟩
  have HE := Lib.hid (And.intro hrs hstp)
  clear hrs hstp
  go_wp2_with fail
  refine bodyPost_ret (results_none rfl _ _ _) rfl ?_
  exact RSteps.err HX.out rfl ⟨⟨_, _, HE.out.1⟩, HE.out.2⟩
 ·have h0' : decide (0 ≤ a1) = true := by rw [decide_eq_true_eq]; omega
  have hm1 : max a1 0 = a1 := by omega
  have h00 : 0 ≤ a1 := by omega
  go_enter Tryz.func140, Tryz.ntmps140
  go_wp2_with fail
  refine (HN.out (q + 2) (by omega)).mono ?_
  rw [← HA.out, h0', hm1]
  rintro e w' ⟨rfl, hw⟩
  subst w'
  go_wp2_with fail
  refine (HH.out a2 ⟨#[44]⟩ (by omega) (by decide)).mono ?_
  rintro e w ⟨rfl, hw⟩
  subst w
  by_cases hc : Lx.here s a2 [44] = true
  ·rw [show Lx.here s a2 (⟨#[44]⟩ : ByteArray).data.toList = true from hc]
   obtain ⟨b, hb⟩ : ∃ b, b = Lx.number s (s.size + 1) (a2 + 1) (-1) := ⟨_, rfl⟩
   have hbl := number_le s (s.size + 1) (a2 + 1) (-1) (by omega) (by omega)
   rw [← hb] at hbl
   obtain ⟨b1, b2⟩ := b
   simp only at hbl
   obtain ⟨m1, m2, m3, m4, _⟩ := hbl
   have HB := Lib.hid hb
   have HI := Lib.hid (HIV.out b1 b2 (by rw [if_pos ⟨h00, hc⟩, ← hb]))
   clear hb hc HIV
   have hj0 : (0 : Int) ≤ (b2 : Int) := by omega
   have hj1 : (b2 : Int) ≤ 5000 := by omega
   have hB2 : b2 ≤ 5000 := by omega
   by_cases hb0 : b1 < 0
   ·obtain rfl : b1 = -1 := by omega
    go_wp2_with fail
    refine (HN.out (a2 + 1) (by omega)).mono ?_
    rw [← HB.out]
    rintro e w3 ⟨rfl, hw⟩
    subst w3
    go_wp2_with fail
    refine (HH.out b2 ⟨#[92, 125]⟩ (by omega) (by decide)).mono ?_
    rintro e w4 ⟨rfl, hw⟩
    subst w4
    by_cases hd : Lx.here s b2 [92, 125] = true
    ·rw [show Lx.here s b2 (⟨#[92, 125]⟩ : ByteArray).data.toList = true from hd]
     have hle := here_le hd
     simp at hle
     by_cases hcase : 255 < a1 ∨ 255 < (-1 : Int) ∨ (0 ≤ (-1 : Int) ∧ (-1 : Int) < a1)
     ·have HE := Lib.hid (HI.out.trans (by rw [if_neg (by rw [hd]; simp; omega), if_pos hcase]))
      have hc3 : 255 < a1 ∨ (¬ 255 < a1 ∧ 255 < (-1 : Int)) ∨ (¬ 255 < a1 ∧ ¬ 255 < (-1 : Int) ∧ ((-1 : Int) != -1) = true ∧ (-1 : Int) < a1) := by
       rw [bne_iff_ne]; omega
      clear hcase hd HN HI
      rcases hc3 with g1 | ⟨g1, g2⟩ | ⟨g1, g2, g3, g4⟩
      all_goals try (exfalso; omega)
      all_goals try (exact absurd g3 (by decide))
      all_goals
       go_wp2_with fail
       rw [HST.out.2]
       refine (HNO.out 37).mono ?_
       rintro e w5 ⟨rfl, hrs, hstp⟩
       have HE2 := Lib.hid (And.intro hrs hstp)
       clear hrs hstp
       go_wp2_with fail
       go_end0
       exact RSteps.err HE.out rfl ⟨⟨_, _, HE2.out.1⟩, HE2.out.2⟩
     ·have HE := Lib.hid (HI.out.trans (by rw [if_neg (by rw [hd]; simp; omega), if_neg hcase]))
      have hc3 : (¬ 255 < a1 ∧ ¬ 255 < (-1 : Int) ∧ ((-1 : Int) != -1) = false) ∨ (¬ 255 < a1 ∧ ¬ 255 < (-1 : Int) ∧ ((-1 : Int) != -1) = true ∧ ¬ (-1 : Int) < a1) := by
       rw [bne_iff_ne, bne_eq_false_iff_eq]; omega
      clear hcase hd HN HI
      rcases hc3 with ⟨g1, g2, g3⟩ | ⟨g1, g2, g3, g4⟩
      all_goals try (exfalso; rw [bne_eq_false_iff_eq] at g3; omega)
      all_goals try (exact absurd g3 (by decide))
      all_goals
       have i7 : (b2 : Int) + 2 - (q : Int) = ((b2 + 2 - q : Nat) : Int) := by omega
       go_wp2_with fail
       refine (HPUT.out 0 a1 (-1 : Int) (b2 + 2) (b2 + 2 - q) (by have := HST.out.2; omega) (by have := HST.out.2; omega) (by omega)).mono ?_
       rintro e w5 ⟨rfl, V', h1, h2⟩
       have HE2 := Lib.hid (And.intro h1 h2)
       clear h1 h2
       go_wp2_with fail
       go_end0
       exact RSteps.ok HE.out rfl ⟨V', HE2.out.1, HE2.out.2⟩
    ·have hd' : Lx.here s b2 [92, 125] = false := by simpa using hd
     have HE := Lib.hid (HI.out.trans (if_pos (.inr hd')))
     rw [show Lx.here s b2 (⟨#[92, 125]⟩ : ByteArray).data.toList = false from hd']
     clear hd hd' HN HI
     go_wp2_with fail
     rw [HST.out.2]
     refine (HNO.out 36).mono ?_
     rintro e w5 ⟨rfl, hrs, hstp⟩
     have HE2 := Lib.hid (And.intro hrs hstp)
     clear hrs hstp
     go_wp2_with fail
     go_end0
     exact RSteps.err HE.out rfl ⟨⟨_, _, HE2.out.1⟩, HE2.out.2⟩
   ·have hb0' : decide (0 ≤ b1) = true := by rw [decide_eq_true_eq]; omega
    have hm2 : max b1 0 = b1 := by omega
    go_wp2_with fail
    refine (HN.out (a2 + 1) (by omega)).mono ?_
    rw [← HB.out, hb0', hm2]
    rintro e w3 ⟨rfl, hw⟩
    subst w3
    go_wp2_with fail
    refine (HH.out b2 ⟨#[92, 125]⟩ (by omega) (by decide)).mono ?_
    rintro e w4 ⟨rfl, hw⟩
    subst w4
    by_cases hd : Lx.here s b2 [92, 125] = true
    ·rw [show Lx.here s b2 (⟨#[92, 125]⟩ : ByteArray).data.toList = true from hd]
     have hle := here_le hd
     simp at hle
     by_cases hcase : 255 < a1 ∨ 255 < b1 ∨ (0 ≤ b1 ∧ b1 < a1)
     ·have HE := Lib.hid (HI.out.trans (by rw [if_neg (by rw [hd]; simp; omega), if_pos hcase]))
      have hc3 : 255 < a1 ∨ (¬ 255 < a1 ∧ 255 < b1) ∨ (¬ 255 < a1 ∧ ¬ 255 < b1 ∧ (b1 != -1) = true ∧ b1 < a1) := by
       rw [bne_iff_ne]; omega
      clear hcase hd HN HI
      rcases hc3 with g1 | ⟨g1, g2⟩ | ⟨g1, g2, g3, g4⟩
      all_goals try (exfalso; omega)
      all_goals try (exact absurd g3 (by decide))
      all_goals
       go_wp2_with fail
       rw [HST.out.2]
       refine (HNO.out 37).mono ?_
       rintro e w5 ⟨rfl, hrs, hstp⟩
       have HE2 := Lib.hid (And.intro hrs hstp)
       clear hrs hstp
       go_wp2_with fail
       go_end0
       exact RSteps.err HE.out rfl ⟨⟨_, _, HE2.out.1⟩, HE2.out.2⟩
     ·have HE := Lib.hid (HI.out.trans (by rw [if_neg (by rw [hd]; simp; omega), if_neg hcase]))
      have hc3 : (¬ 255 < a1 ∧ ¬ 255 < b1 ∧ (b1 != -1) = false) ∨ (¬ 255 < a1 ∧ ¬ 255 < b1 ∧ (b1 != -1) = true ∧ ¬ b1 < a1) := by
       rw [bne_iff_ne, bne_eq_false_iff_eq]; omega
      clear hcase hd HN HI
      rcases hc3 with ⟨g1, g2, g3⟩ | ⟨g1, g2, g3, g4⟩
      all_goals try (exfalso; rw [bne_eq_false_iff_eq] at g3; omega)
      all_goals try (exact absurd g3 (by decide))
      all_goals
       have i7 : (b2 : Int) + 2 - (q : Int) = ((b2 + 2 - q : Nat) : Int) := by omega
       go_wp2_with fail
       refine (HPUT.out 0 a1 b1 (b2 + 2) (b2 + 2 - q) (by have := HST.out.2; omega) (by have := HST.out.2; omega) (by omega)).mono ?_
       rintro e w5 ⟨rfl, V', h1, h2⟩
       have HE2 := Lib.hid (And.intro h1 h2)
       clear h1 h2
       go_wp2_with fail
       go_end0
       exact RSteps.ok HE.out rfl ⟨V', HE2.out.1, HE2.out.2⟩
    ·have hd' : Lx.here s b2 [92, 125] = false := by simpa using hd
     have HE := Lib.hid (HI.out.trans (if_pos (.inr hd')))
     rw [show Lx.here s b2 (⟨#[92, 125]⟩ : ByteArray).data.toList = false from hd']
     clear hd hd' HN HI
     go_wp2_with fail
     rw [HST.out.2]
     refine (HNO.out 36).mono ?_
     rintro e w5 ⟨rfl, hrs, hstp⟩
     have HE2 := Lib.hid (And.intro hrs hstp)
     clear hrs hstp
     go_wp2_with fail
     go_end0
     exact RSteps.err HE.out rfl ⟨⟨_, _, HE2.out.1⟩, HE2.out.2⟩
  ·have HI := Lib.hid (HIV.out a1 a2 (by rw [if_neg (fun h => hc h.2)]))
   rw [show Lx.here s a2 (⟨#[44]⟩ : ByteArray).data.toList = false by simpa using hc]
   clear hc HIV
   go_wp2_with fail
   refine (HH.out a2 ⟨#[92, 125]⟩ (by omega) (by decide)).mono ?_
   rintro e w4 ⟨rfl, hw⟩
   subst w4
   by_cases hd : Lx.here s a2 [92, 125] = true
   ·rw [show Lx.here s a2 (⟨#[92, 125]⟩ : ByteArray).data.toList = true from hd]
    have hle := here_le hd
    simp at hle
    by_cases hcase : 255 < a1 ∨ 255 < a1 ∨ (0 ≤ a1 ∧ a1 < a1)
    ·have HE := Lib.hid (HI.out.trans (by rw [if_neg (by rw [hd]; simp; omega), if_pos hcase]))
     have hc3 : 255 < a1 ∨ (¬ 255 < a1 ∧ 255 < a1) ∨ (¬ 255 < a1 ∧ ¬ 255 < a1 ∧ (a1 != -1) = true ∧ a1 < a1) := by
      rw [bne_iff_ne]; omega
     clear hcase hd HN HI
     rcases hc3 with g1 | ⟨g1, g2⟩ | ⟨g1, g2, g3, g4⟩
     all_goals try (exfalso; omega)
     all_goals try (exact absurd g3 (by decide))
     all_goals
      go_wp2_with fail
      rw [HST.out.2]
      refine (HNO.out 37).mono ?_
      rintro e w5 ⟨rfl, hrs, hstp⟩
      have HE2 := Lib.hid (And.intro hrs hstp)
      clear hrs hstp
      go_wp2_with fail
      go_end0
      exact RSteps.err HE.out rfl ⟨⟨_, _, HE2.out.1⟩, HE2.out.2⟩
    ·have HE := Lib.hid (HI.out.trans (by rw [if_neg (by rw [hd]; simp; omega), if_neg hcase]))
     have hc3 : (¬ 255 < a1 ∧ ¬ 255 < a1 ∧ (a1 != -1) = false) ∨ (¬ 255 < a1 ∧ ¬ 255 < a1 ∧ (a1 != -1) = true ∧ ¬ a1 < a1) := by
      rw [bne_iff_ne, bne_eq_false_iff_eq]; omega
     clear hcase hd HN HI
     rcases hc3 with ⟨g1, g2, g3⟩ | ⟨g1, g2, g3, g4⟩
     all_goals try (exfalso; rw [bne_eq_false_iff_eq] at g3; omega)
     all_goals try (exact absurd g3 (by decide))
     all_goals
      have i7 : (a2 : Int) + 2 - (q : Int) = ((a2 + 2 - q : Nat) : Int) := by omega
      go_wp2_with fail
      refine (HPUT.out 0 a1 a1 (a2 + 2) (a2 + 2 - q) (by have := HST.out.2; omega) (by have := HST.out.2; omega) (by omega)).mono ?_
      rintro e w5 ⟨rfl, V', h1, h2⟩
      have HE2 := Lib.hid (And.intro h1 h2)
      clear h1 h2
      go_wp2_with fail
      go_end0
      exact RSteps.ok HE.out rfl ⟨V', HE2.out.1, HE2.out.2⟩
   ·have hd' : Lx.here s a2 [92, 125] = false := by simpa using hd
    have HE := Lib.hid (HI.out.trans (if_pos (.inr hd')))
    rw [show Lx.here s a2 (⟨#[92, 125]⟩ : ByteArray).data.toList = false from hd']
    clear hd hd' HN HI
    go_wp2_with fail
    rw [HST.out.2]
    refine (HNO.out 36).mono ?_
    rintro e w5 ⟨rfl, hrs, hstp⟩
    have HE2 := Lib.hid (And.intro hrs hstp)
    clear hrs hstp
    go_wp2_with fail
    go_end0
    exact RSteps.err HE.out rfl ⟨⟨_, _, HE2.out.1⟩, HE2.out.2⟩
end Go.Proofs.YtamhkdlcoghdbaaGreatDoor.PCls
/- Out of Lf (wip/tools/prune2.py): the declarations alone that the texts of the trees name. -/
namespace Go.Proofs.YtamhkdlcoghdbaaGreatDoor.PCls
set_option linter.unusedVariables false
set_option linter.unusedSimpArgs false
theorem unit_ascii (s : ByteArray) (chars : Bool) (p : Nat) (h : p < s.size) (hb : Lx.byt s p < 128) : Lx.unit s chars p = ((Lx.byt s p : Int), 1) := by
 have h4 := byt_at s p h
 have hd : Utf8.decode s p = (Lx.byt s p, 1) := by
  rw [Lib.decode_at]
  have hg : (s.get! p).toNat = Lx.byt s p := by rw [h4]; simp [ByteArray.get!, h]; rfl
  unfold Lib.decodeN
  rw [hg, if_pos hb]
 unfold Lx.unit
 rw [if_pos h]
 cases chars with
 | false => rfl
 | true =>
  have hok : okAt s p = true := by
   unfold okAt
   rw [hd]
   simp
   omega
  rw [if_pos rfl, if_pos hok, hd]
end Go.Proofs.YtamhkdlcoghdbaaGreatDoor.PCls
/- Out of Rw (wip/tools/prune2.py): the declarations alone that the texts of the trees name. -/
namespace Go.Proofs.YtamhkdlcoghdbaaGreatDoor.PCls
set_option linter.unusedVariables false
set_option linter.unusedSimpArgs false
theorem here_byt {s : ByteArray} {p : Nat} {a : UInt8} {t : List UInt8} (h : Lx.here s p (a :: t) = true) : p < s.size ∧ Lx.byt s p = a.toNat := by
 have hle := here_le h
 simp only [List.length_cons] at hle
 refine ⟨by omega, ?_⟩
 unfold Lx.here at h
 rw [Bool.and_eq_true, Lib.hasPrefix, List.isPrefixOf_iff_prefix] at h
 obtain ⟨u, hu⟩ := h.2
 have h0 : s.data.toList[p]? = some a := by
  have := congrArg (fun l => l[0]?) hu
  simp only [List.getElem?_drop, List.cons_append, List.getElem?_cons_zero, Nat.add_zero] at this
  exact this.symm
 unfold Lx.byt
 rw [List.getD_eq_getElem?_getD, h0]
 rfl
theorem here_of_byt {s : ByteArray} {p : Nat} (a : UInt8) (hp : p < s.size) (h : Lx.byt s p = a.toNat) : Lx.here s p [a] = true := by
 unfold Lx.here
 rw [Bool.and_eq_true, decide_eq_true_eq, Lib.hasPrefix, List.isPrefixOf_iff_prefix]
 refine ⟨by omega, s.data.toList.drop (p + 1), ?_⟩
 have hl : p < s.data.toList.length := by rw [len_size]; exact hp
 rw [List.drop_eq_getElem_cons hl, List.singleton_append]
 congr 1
 unfold Lx.byt at h
 rw [List.getD_eq_getElem?_getD, List.getElem?_eq_getElem hl] at h
 exact (UInt8.toNat_inj.1 h).symm
set_option maxHeartbeats 1000000 in
theorem dN_45 (n b0 b1 b2 b3 : Nat) (h : (Lib.decodeN n b0 b1 b2 b3).1 = 45) : b0 = 45 := by
 revert h
 unfold Lib.decodeN
 repeat' split
 all_goals (intro h; simp only at h; omega)
theorem unit_45 {s : ByteArray} {chars : Bool} {p : Nat} (h : (Lx.unit s chars p).1 = 45) : Lx.here s p [45] = true := by
 by_cases hp : p < s.size
 ·refine here_of_byt 45 hp ?_
  cases chars with
  | false =>
   simp only [Lx.unit, if_pos hp, Bool.false_eq_true, if_false] at h
   show Lx.byt s p = 45
   omega
  | true =>
   rw [unit_true s p hp] at h
   split at h
   ·have h' : (dAt s p).1 = 45 := by simp only at h; omega
    exact dN_45 _ _ _ _ _ h'
   ·simp at h
 ·rw [unit_none s chars p hp] at h; simp at h
theorem item_tail {s : ByteArray} {chars : Bool} {x0 p : Nat} {b : Bool} (h1 : Lx.here s p [91, 58] = false) (h2 : Lx.here s p [91, 61] = false) (h3 : Lx.here s p [91, 46] = false) : Lx.item clC s chars x0 p b = itemC s x0 p b (Lx.here s p [45, 93]) (Lx.unit s chars p) := by
 rw [item_eq, if_neg (by rw [h1]; decide), if_neg (by rw [h2]; decide), if_neg (by rw [h3]; decide)]
theorem not_here {s : ByteArray} {p : Nat} {a b : UInt8} (h : Lx.here s p [45] = true) (hb : a ≠ 45) : Lx.here s p [a, b] = false := by
 cases hh : Lx.here s p [a, b] with
 | false => rfl
 | true =>
  have h1 := (here_byt h).2
  have h2 := (here_byt hh).2
  exact absurd (UInt8.toNat_inj.1 (h2.symm.trans h1)) hb
theorem item_minus {s : ByteArray} {chars : Bool} {x0 p : Nat} (h1 : Lx.here s p [45] = true) (h2 : Lx.here s p [45, 93] = false) : Lx.item clC s chars x0 p false = if p + 1 = s.size then .error (33, (x0 : Int)) else .error (34, (p : Int)) := by
 have hb := here_byt h1
 rw [item_tail (not_here h1 (by decide)) (not_here h1 (by decide)) (not_here h1 (by decide)), unit_ascii s chars p hb.1 (by rw [hb.2]; decide), hb.2, h2]
 rfl
theorem item_plain {s : ByteArray} {chars : Bool} {x0 p : Nat} {b : Bool} (h : b = true ∨ Lx.here s p [45] = false ∨ Lx.here s p [45, 93] = true) : Lx.item clC s chars x0 p b = Lx.item clC s chars x0 p true := by
 rw [item_eq, item_eq]
 congr 3
 unfold itemC
 congr 2
 have hc : ∀ b' : Bool, ((Lx.unit s chars p).1 = 45 ∧ b' = false ∧ Lx.here s p [45, 93] = false) = ((Lx.unit s chars p).1 = 45 ∧ b' = false ∧ Lx.here s p [45, 93] = false) := fun _ => rfl
 have h0 : ¬ ((Lx.unit s chars p).1 = 45 ∧ b = false ∧ Lx.here s p [45, 93] = false) := by
  rintro ⟨g1, g2, g3⟩
  rcases h with h | h | h
  ·rw [h] at g2; cases g2
  ·rw [unit_45 g1] at h; cases h
  ·rw [g3] at h; cases h
 rw [if_neg h0, if_neg (by rintro ⟨_, g, _⟩; cases g)]
theorem item_sat' {s : ByteArray} {chars : Bool} {x0 p : Nat} {i : It} (h : Lx.item clC s chars x0 p true = .ok i) (he : i.isEnd = true) : i.sat = p := by
 rw [item_true] at h
 split at h
 ·rename_i h1
  rw [named58_eq clC s chars x0 p (here_le h1)] at h
  split at h
  ·cases h
  ·split at h <;> cases h
   cases he
 split at h
 ·rw [named_el_eq clC s chars x0 p 61 (by decide)] at h
  split at h
  ·cases h
  ·split at h <;> cases h
   rfl
 split at h
 ·rw [named_el_eq clC s chars x0 p 46 (by decide)] at h
  split at h
  ·cases h
  ·split at h <;> cases h
   rfl
 split at h
 ·cases h
 split at h <;> cases h
 rfl
theorem EOk.ne {s : ByteArray} {e : Er} (h : EOk s e) : e.1 ≠ 0 := by have := h.2.2; omega
end Go.Proofs.YtamhkdlcoghdbaaGreatDoor.PCls
