/- Out of LCounts (wip/tools/prune2.py): the declarations alone that the texts of the trees name. -/
import Derived.Test.YtamhkdlcoghdbaaKTRSame
namespace Go.Proofs.Ytamhkdlcoghdbaa.PCls
open Go.RowKit Go.Shelf Go.Proofs.YtamhkdlcoghdbaaW.PrintWords Go.Proofs.YtamhkdlcoghdbaaW.PrintLast Go.Proofs.YtamhkdlcoghdbaaW.PrintMore
set_option linter.unusedVariables false
set_option linter.unusedSimpArgs false
attribute [local go_sem] Oper.semAt_some
theorem NIn.up {w w' : World} {t : NT} {cs : List Value} (h : NIn w (· < w.heap.size) t cs) (hb : Below w.heap.size w w') : NIn w' (· < w'.heap.size) t cs :=
 (h.move (fun b hb' => hb.block b hb')).mono (fun b hb' => Nat.lt_of_lt_of_le hb' hb.size)
theorem CIn.up {w w' : World} {t : NT} {cs : List Value} (h : CIn w (· < w.heap.size) t cs) (hb : Below w.heap.size w w') : CIn w' (· < w'.heap.size) t cs :=
 (h.move (fun b hb' => hb.block b hb')).mono (fun b hb' => Nat.lt_of_lt_of_le hb' hb.size)
/-- two trees and what was lent of them, boxed -/
structure CSt (w wr : World) (X Y : Nat) (cn cm cx cy : Array Value) : Prop where
 bel : Below w.heap.size w wr
 n : wr.heap[w.heap.size]? = some (.cells cn 44 (0, 0))
 m : wr.heap[w.heap.size + 1]? = some (.cells cm 44 (0, 0))
 x : wr.heap[X]? = some (.cells cx 44 (0, 0))
 y : wr.heap[Y]? = some (.cells cy 44 (0, 0))
 sz : w.heap.size + 2 ≤ wr.heap.size
 sx : X < wr.heap.size
 sy : Y < wr.heap.size
theorem CSt.below {w A B : World} {X Y : Nat} {cn cm cx cy : Array Value} (h : CSt w A X Y cn cm cx cy) (hb : Below A.heap.size A B) : CSt w B X Y cn cm cx cy :=
 ⟨h.bel.trans (hb.mono h.bel.size), (hb.block _ (by have := h.sz; omega)).trans h.n, (hb.block _ (by have := h.sz; omega)).trans h.m, (hb.block _ h.sx).trans h.x, (hb.block _ h.sy).trans h.y, Nat.le_trans h.sz hb.size, Nat.lt_of_lt_of_le h.sx hb.size, Nat.lt_of_lt_of_le h.sy hb.size⟩
set_option maxHeartbeats 16000000 in
set_option maxRecDepth 100000 in
theorem treeCounts_c (k m lo hi : Int) (r : List S64) (kids : List NT) (ar ak : Option Addr) (cr ck : Nat) (k' m' lo' hi' : Int) (r' : List S64) (kids' : List NT) (ar' ak' : Option Addr) (cr' ck' : Nat) (w : World) (hT : NIn w (· < w.heap.size) (.mk k m lo hi r kids) [.int .i64 k, .int .i64 m, .int .i64 lo, .int .i64 hi, .slice ar r.length cr, .slice ak kids.length ck]) (hT' : NIn w (· < w.heap.size) (.mk k' m' lo' hi' r' kids') [.int .i64 k', .int .i64 m', .int .i64 lo', .int .i64 hi', .slice ar' r'.length cr', .slice ak' kids'.length ck']) (hn : (NT.mk k m lo hi r kids).nodes < 274877906944) (hn' : (NT.mk k' m' lo' hi' r' kids').nodes < 274877906944) :
  Calls Try.prog 14 #[.agg #[.int .i64 k, .int .i64 m, .int .i64 lo, .int .i64 hi, .slice ar r.length cr, .slice ak kids.length ck], .agg #[.int .i64 k', .int .i64 m', .int .i64 lo', .int .i64 hi', .slice ar' r'.length cr', .slice ak' kids'.length ck']] w fun e w' => e = .returned (.bool true) ∧ Below w.heap.size w w' := by
 obtain ⟨W2, hW2⟩ : ∃ W2, W2 = (w.alloc (.cells #[.int .i64 k, .int .i64 m, .int .i64 lo, .int .i64 hi, .slice ar r.length cr, .slice ak kids.length ck] 44)).alloc (.cells #[.int .i64 k', .int .i64 m', .int .i64 lo', .int .i64 hi', .slice ar' r'.length cr', .slice ak' kids'.length ck'] 44) := ⟨_, rfl⟩
 have HST := Lib.hid (show TwoSt w W2 #[.int .i64 k, .int .i64 m, .int .i64 lo, .int .i64 hi, .slice ar r.length cr, .slice ak kids.length ck] #[.int .i64 k', .int .i64 m', .int .i64 lo', .int .i64 hi', .slice ar' r'.length cr', .slice ak' kids'.length ck'] by rw [hW2]; exact TwoSt.start w _ _)
 have HW2 := Lib.hid hW2
 have HT := Lib.hid hT
 have HT' := Lib.hid hT'
 have HN := Lib.hid hn
 have HN' := Lib.hid hn'
 clear hT hT' hn hn' hW2
 go_enter Try.func14, Try.ntmps14
 go_wp2_with fail
 rw [← HW2.out]
 refine (examples_calls _).mono ?_
 rintro e w4 ⟨rfl, hb4⟩
 have HS4 := Lib.hid (HST.out.below hb4)
 clear hb4 HST HW2
 have HL := Lib.hid (lent_calls k m lo hi r kids ar ak cr ck w4 (HT.out.up HS4.out.bel) HN.out)
 have n0 := cell_heap (i := 0) HS4.out.x rfl
 have n1 := cell_heap (i := 1) HS4.out.x rfl
 have n2 := cell_heap (i := 2) HS4.out.x rfl
 have n3 := cell_heap (i := 3) HS4.out.x rfl
 have n4 := cell_heap (i := 4) HS4.out.x rfl
 have n5 := cell_heap (i := 5) HS4.out.x rfl
 go_wp2_with fail
 refine HL.out.mono ?_
 rintro e w5 ⟨xs, rfl, hb5, hX5, hC5⟩
 obtain ⟨xr, xk, xcr, xck, rfl⟩ := NIn.shape hX5
 have hS5 := HS4.out.below hb5
 obtain ⟨W6, hW6⟩ : ∃ W6, W6 = w5.alloc (.cells #[.int .i64 k, .int .i64 m, .int .i64 lo, .int .i64 hi, .slice xr r.length xcr, .slice xk kids.length xck] 44) := ⟨_, rfl⟩
 have hb6 : Below w5.heap.size w5 W6 := by rw [hW6]; exact (Below.refl _ w5).alloc (Nat.le_refl _) _
 have hx6 : W6.heap[w5.heap.size]? = some (.cells #[.int .i64 k, .int .i64 m, .int .i64 lo, .int .i64 hi, .slice xr r.length xcr, .slice xk kids.length xck] 44 (0, 0)) := by rw [hW6]; exact World.alloc_heap_new w5 _
 have hsz : w5.heap.size + 1 ≤ W6.heap.size := by rw [hW6]; simp
 have HS6 := Lib.hid (hS5.below hb6)
 have HX6 := Lib.hid hx6
 have HSZ := Lib.hid hsz
 have HNX := Lib.hid (hX5.up hb6)
 have HCX := Lib.hid (hC5.imp id (fun c => c.up hb6))
 have HW6 := Lib.hid hW6
 have HL2 := Lib.hid (lent_calls k' m' lo' hi' r' kids' ar' ak' cr' ck' W6 (HT'.out.up HS6.out.bel) HN'.out)
 have mm := HS6.out.n
 rw [hW6] at mm
 clear hb5 hX5 hC5 hS5 hW6 hb6 hx6 hsz HL HS4 n0 n1 n2 n3 n4 n5
 have n0 := cell_heap (i := 0) mm rfl
 have n1 := cell_heap (i := 1) mm rfl
 have n2 := cell_heap (i := 2) mm rfl
 have n3 := cell_heap (i := 3) mm rfl
 have n4 := cell_heap (i := 4) mm rfl
 have n5 := cell_heap (i := 5) mm rfl
 clear mm
 go_wp2_with fail
 rw [← HW6.out]
 refine HL2.out.mono ?_
 rintro e w7 ⟨ys, rfl, hb7, hY7, hC7⟩
 obtain ⟨yr, yk, ycr, yck, rfl⟩ := NIn.shape hY7
 obtain ⟨W8, hW8⟩ : ∃ W8, W8 = w7.alloc (.cells #[.int .i64 k', .int .i64 m', .int .i64 lo', .int .i64 hi', .slice yr r'.length ycr, .slice yk kids'.length yck] 44) := ⟨_, rfl⟩
 have hb8 : Below w7.heap.size w7 W8 := by rw [hW8]; exact (Below.refl _ w7).alloc (Nat.le_refl _) _
 have hy8 : W8.heap[w7.heap.size]? = some (.cells #[.int .i64 k', .int .i64 m', .int .i64 lo', .int .i64 hi', .slice yr r'.length ycr, .slice yk kids'.length yck] 44 (0, 0)) := by rw [hW8]; exact World.alloc_heap_new w7 _
 have hb68 : Below W6.heap.size W6 W8 := hb7.trans (hb8.mono hb7.size)
 obtain ⟨XB, hXB⟩ : ∃ XB, XB = w5.heap.size := ⟨_, rfl⟩
 obtain ⟨YB, hYB⟩ : ∃ YB, YB = w7.heap.size := ⟨_, rfl⟩
 have hst : CSt w W8 XB YB #[.int .i64 k, .int .i64 m, .int .i64 lo, .int .i64 hi, .slice ar r.length cr, .slice ak kids.length ck] #[.int .i64 k', .int .i64 m', .int .i64 lo', .int .i64 hi', .slice ar' r'.length cr', .slice ak' kids'.length ck'] #[.int .i64 k, .int .i64 m, .int .i64 lo, .int .i64 hi, .slice xr r.length xcr, .slice xk kids.length xck] #[.int .i64 k', .int .i64 m', .int .i64 lo', .int .i64 hi', .slice yr r'.length ycr, .slice yk kids'.length yck] := by
  have h := HS6.out.below hb68
  have hz := HSZ.out
  refine ⟨h.bel, h.x, h.n, ?_, ?_, h.sz, ?_, ?_⟩
  ·rw [hXB]; exact (hb68.block _ (by omega)).trans HX6.out
  ·rw [hYB]; exact hy8
  ·rw [hXB]; have := hb68.size; omega
  ·rw [hYB, hW8]; simp
 have HS8 := Lib.hid hst
 have HN8 := Lib.hid (HT.out.up hst.bel)
 have HM8 := Lib.hid (HT'.out.up hst.bel)
 have HX8 := Lib.hid (HNX.out.up hb68)
 have HY8 := Lib.hid (hY7.up hb8)
 have HCX8 := Lib.hid (HCX.out.imp id (fun c => c.up hb68))
 have HCY8 := Lib.hid (hC7.imp id (fun c => c.up hb8))
 have HW8 := Lib.hid hW8
 clear hb7 hY7 hC7 hb8 hy8 hb68 hst hW8 HL2 HS6 HX6 HSZ HNX HCX HW6 n0 n1 n2 n3 n4 n5
 go_upto_region 4 with (fail)
 rw [← HW8.out, ← hXB, ← hYB]
 clear hXB hYB HW8 HT HT'
 obtain ⟨C, hC⟩ : ∃ C, C = countT (NT.mk k m lo hi r kids) := ⟨_, rfl⟩
 obtain ⟨Dp, hDp⟩ : ∃ Dp, Dp = depthT (NT.mk k m lo hi r kids) := ⟨_, rfl⟩
 obtain ⟨G, hG⟩ : ∃ G, G = groupsT (NT.mk k m lo hi r kids) := ⟨_, rfl⟩
 have HV := Lib.hid (And.intro hC (And.intro hDp hG))
 clear hC hDp hG
 have HBa := Lib.hid (show Below W8.heap.size W8 W8.drew from (Below.refl _ W8).drew)
 refine start_ (n := 20) (S := fun w' => Below W8.heap.size W8 w') (ds := []) #[Z,Z,Z,Z,Z,Z,Z,Z,Z,Z,Z,Z,Z,Z,Z,Z,Z,Z,Z,Z] (by kernel_rfl) rfl rfl HBa.out (fun hHeld => ?_)
 refine with_self (fun HT_ => ?_)
 generalize W8.drew = w_d at HBa hHeld ⊢
 refine take_ (i := 0) (N := some 17) (v := ?_) (a' := ?_) #[I,Z,Z,Z,Z,Z,Z,Z,Z,Z,Z,Z,Z,Z,Z,Z,Z,Z,Z,Z] rfl rfl (take_of HT_.out (by kernel_rfl)) (fun _ _ _ h => h) (Or.inl ⟨by rfl, ?_⟩) hHeld ?_ ?_
 rotate_left
 ·intro w' hS
  have q_ := (HS8.out.below hS).x
  have x0 := cell_heap (i := 0) q_ rfl
  have x1 := cell_heap (i := 1) q_ rfl
  have x2 := cell_heap (i := 2) q_ rfl
  have x3 := cell_heap (i := 3) q_ rfl
  have x4 := cell_heap (i := 4) q_ rfl
  have x5 := cell_heap (i := 5) q_ rfl
  clear q_
  clear hS
  go_simp
  with_reducible rfl
 rotate_left
 ·simp only [Act.put, pu_, pz_, ps_, i64_w, i32_w]
  rfl
 refine take_ (i := 2) (N := some 19) (v := ?_) (a' := ?_) #[I,Z,I,Z,Z,Z,Z,Z,Z,Z,Z,Z,Z,Z,Z,Z,Z,Z,Z,Z] rfl rfl (take_of HT_.out (by kernel_rfl)) (fun _ _ _ h => h) (Or.inl ⟨by rfl, ?_⟩) hHeld ?_ ?_
 rotate_left
 ·intro w' hS
  have q_ := (HS8.out.below hS).n
  have x0 := cell_heap (i := 0) q_ rfl
  have x1 := cell_heap (i := 1) q_ rfl
  have x2 := cell_heap (i := 2) q_ rfl
  have x3 := cell_heap (i := 3) q_ rfl
  have x4 := cell_heap (i := 4) q_ rfl
  have x5 := cell_heap (i := 5) q_ rfl
  clear q_
  clear hS
  go_simp
  with_reducible rfl
 rotate_left
 ·simp only [Act.put, pu_, pz_, ps_, i64_w, i32_w]
  rfl
 refine one_ (i := 1) (N := some 18) #[I,I,I,Z,Z,Z,Z,Z,Z,Z,Z,Z,Z,Z,Z,Z,Z,Z,Z,Z] rfl rfl (one_of HT_.out (by kernel_rfl)) (by decide) (fun K hK => ?_)
 refine goes_ Try.func51 (by kernel_rfl) rfl #[.agg #[.int .i64 k, .int .i64 m, .int .i64 lo, .int .i64 hi, .slice xr r.length xcr, .slice xk kids.length xck]] (by rfl) rfl rfl (by (try simp only [List.map_toArray, List.map_cons, List.map_nil]); first | done | rfl) ?_
 have hr := count_calls (.mk k m lo hi r kids) _ w_d (HX8.out.up HBa.out) (by have := HN.out; omega)
 rw [← HV.out.1] at hr
 refine (hr).mono ?_
 rintro e wa ⟨rfl, hB⟩
 have HB_wa := Lib.hid (HBa.out.trans (hB.mono HBa.out.size))
 clear hB hr
 refine ⟨_, rfl, ?_⟩
 clear hHeld
 refine hK.out _ _ HB_wa.out (fun hHeld => ?_)
 clear hK K
 refine norm_ (a' := ?_) ?_ ?_
 rotate_left
 ·show Act.put _ (some 18) _ = _
  simp only [Act.put, pu_, pz_, ps_, i64_w, i32_w]
  rfl
 refine one_ (i := 3) (N := some 20) #[I,I,I,I,Z,Z,Z,Z,Z,Z,Z,Z,Z,Z,Z,Z,Z,Z,Z,Z] rfl rfl (one_of HT_.out (by kernel_rfl)) (by decide) (fun K hK => ?_)
 refine goes_ Try.func61 (by kernel_rfl) rfl #[.agg #[.int .i64 k, .int .i64 m, .int .i64 lo, .int .i64 hi, .slice ar r.length cr, .slice ak kids.length ck]] (by rfl) rfl rfl (by (try simp only [List.map_toArray, List.map_cons, List.map_nil]); first | done | rfl) ?_
 have hr := refcountT_calls k m lo hi r kids ar ak cr ck wa (HN8.out.up HB_wa.out) HN.out
 rw [← HV.out.1] at hr
 refine (hr).mono ?_
 rintro e wb ⟨rfl, hB⟩
 have HB_wb := Lib.hid (HB_wa.out.trans (hB.mono HB_wa.out.size))
 clear hB hr
 refine ⟨_, rfl, ?_⟩
 clear hHeld
 refine hK.out _ _ HB_wb.out (fun hHeld => ?_)
 clear hK K
 refine norm_ (a' := ?_) ?_ ?_
 rotate_left
 ·show Act.put _ (some 20) _ = _
  simp only [Act.put, pu_, pz_, ps_, i64_w, i32_w]
  rfl
 refine pure_ (i := 4) (N := some 21) (v := ?_) (a' := ?_) #[I,I,I,I,I,Z,Z,Z,Z,Z,Z,Z,Z,Z,Z,Z,Z,Z,Z,Z] rfl rfl (any_of HT_.out (by kernel_rfl)) (fun _ _ _ h => h) (Or.inl ⟨by rfl, ?_⟩) ?_ ?_
 rotate_left
 ·intro w'
  have hbs := beq_self_eq_true C
  go_simp
  with_reducible rfl
 rotate_left
 ·simp only [Act.put, pu_, pz_, ps_, i64_w, i32_w]
  rfl
 refine pure_ (i := 5) (N := some 22) (v := ?_) (a' := ?_) #[I,I,I,I,I,I,Z,Z,Z,Z,Z,Z,Z,Z,Z,Z,Z,Z,Z,Z] rfl rfl (any_of HT_.out (by kernel_rfl)) (fun _ _ _ h => h) (Or.inl ⟨by rfl, ?_⟩) ?_ ?_
 rotate_left
 ·intro w'
  go_simp
  with_reducible rfl
 rotate_left
 ·simp only [Act.put, pu_, pz_, ps_, i64_w, i32_w]
  rfl
 refine take_ (i := 6) (N := some 23) (v := ?_) (a' := ?_) #[I,I,I,I,I,I,I,Z,Z,Z,Z,Z,Z,Z,Z,Z,Z,Z,Z,Z] rfl rfl (take_of HT_.out (by kernel_rfl)) (fun _ _ _ h => h) (Or.inl ⟨by rfl, ?_⟩) hHeld ?_ ?_
 rotate_left
 ·intro w' hS
  have q_ := (HS8.out.below hS).x
  have x0 := cell_heap (i := 0) q_ rfl
  have x1 := cell_heap (i := 1) q_ rfl
  have x2 := cell_heap (i := 2) q_ rfl
  have x3 := cell_heap (i := 3) q_ rfl
  have x4 := cell_heap (i := 4) q_ rfl
  have x5 := cell_heap (i := 5) q_ rfl
  clear q_
  clear hS
  go_simp
  with_reducible rfl
 rotate_left
 ·simp only [Act.put, pu_, pz_, ps_, i64_w, i32_w]
  rfl
 refine take_ (i := 8) (N := some 25) (v := ?_) (a' := ?_) #[I,I,I,I,I,I,I,Z,I,Z,Z,Z,Z,Z,Z,Z,Z,Z,Z,Z] rfl rfl (take_of HT_.out (by kernel_rfl)) (fun _ _ _ h => h) (Or.inl ⟨by rfl, ?_⟩) hHeld ?_ ?_
 rotate_left
 ·intro w' hS
  have q_ := (HS8.out.below hS).n
  have x0 := cell_heap (i := 0) q_ rfl
  have x1 := cell_heap (i := 1) q_ rfl
  have x2 := cell_heap (i := 2) q_ rfl
  have x3 := cell_heap (i := 3) q_ rfl
  have x4 := cell_heap (i := 4) q_ rfl
  have x5 := cell_heap (i := 5) q_ rfl
  clear q_
  clear hS
  go_simp
  with_reducible rfl
 rotate_left
 ·simp only [Act.put, pu_, pz_, ps_, i64_w, i32_w]
  rfl
 refine one_ (i := 7) (N := some 24) #[I,I,I,I,I,I,I,I,I,Z,Z,Z,Z,Z,Z,Z,Z,Z,Z,Z] rfl rfl (one_of HT_.out (by kernel_rfl)) (by decide) (fun K hK => ?_)
 refine goes_ Try.func52 (by kernel_rfl) rfl #[.agg #[.int .i64 k, .int .i64 m, .int .i64 lo, .int .i64 hi, .slice xr r.length xcr, .slice xk kids.length xck]] (by rfl) rfl rfl (by (try simp only [List.map_toArray, List.map_cons, List.map_nil]); first | done | rfl) ?_
 have hr := depth_calls (.mk k m lo hi r kids) _ wb (HX8.out.up HB_wb.out) (by have := HN.out; omega)
 rw [← HV.out.2.1] at hr
 refine (hr).mono ?_
 rintro e wc_ ⟨rfl, hB⟩
 have HB_wc_ := Lib.hid (HB_wb.out.trans (hB.mono HB_wb.out.size))
 clear hB hr
 refine ⟨_, rfl, ?_⟩
 clear hHeld
 refine hK.out _ _ HB_wc_.out (fun hHeld => ?_)
 clear hK K
 refine norm_ (a' := ?_) ?_ ?_
 rotate_left
 ·show Act.put _ (some 24) _ = _
  simp only [Act.put, pu_, pz_, ps_, i64_w, i32_w]
  rfl
 refine one_ (i := 9) (N := some 26) #[I,I,I,I,I,I,I,I,I,I,Z,Z,Z,Z,Z,Z,Z,Z,Z,Z] rfl rfl (one_of HT_.out (by kernel_rfl)) (by decide) (fun K hK => ?_)
 refine goes_ Try.func62 (by kernel_rfl) rfl #[.agg #[.int .i64 k, .int .i64 m, .int .i64 lo, .int .i64 hi, .slice ar r.length cr, .slice ak kids.length ck]] (by rfl) rfl rfl (by (try simp only [List.map_toArray, List.map_cons, List.map_nil]); first | done | rfl) ?_
 have hr := refdepth_calls k m lo hi r kids ar ak cr ck wc_ (HN8.out.up HB_wc_.out) HN.out
 rw [← HV.out.2.1] at hr
 refine (hr).mono ?_
 rintro e wd ⟨rfl, hB⟩
 have HB_wd := Lib.hid (HB_wc_.out.trans (hB.mono HB_wc_.out.size))
 clear hB hr
 refine ⟨_, rfl, ?_⟩
 clear hHeld
 refine hK.out _ _ HB_wd.out (fun hHeld => ?_)
 clear hK K
 refine norm_ (a' := ?_) ?_ ?_
 rotate_left
 ·show Act.put _ (some 26) _ = _
  simp only [Act.put, pu_, pz_, ps_, i64_w, i32_w]
  rfl
 refine pure_ (i := 10) (N := some 27) (v := ?_) (a' := ?_) #[I,I,I,I,I,I,I,I,I,I,I,Z,Z,Z,Z,Z,Z,Z,Z,Z] rfl rfl (any_of HT_.out (by kernel_rfl)) (fun _ _ _ h => h) (Or.inl ⟨by rfl, ?_⟩) ?_ ?_
 rotate_left
 ·intro w'
  have hbs := beq_self_eq_true Dp
  go_simp
  with_reducible rfl
 rotate_left
 ·simp only [Act.put, pu_, pz_, ps_, i64_w, i32_w]
  rfl
 refine pure_ (i := 11) (N := some 28) (v := ?_) (a' := ?_) #[I,I,I,I,I,I,I,I,I,I,I,I,Z,Z,Z,Z,Z,Z,Z,Z] rfl rfl (any_of HT_.out (by kernel_rfl)) (fun _ _ _ h => h) (Or.inl ⟨by rfl, ?_⟩) ?_ ?_
 rotate_left
 ·intro w'
  go_simp
  with_reducible rfl
 rotate_left
 ·simp only [Act.put, pu_, pz_, ps_, i64_w, i32_w]
  rfl
 refine pure_ (i := 12) (N := some 29) (v := ?_) (a' := ?_) #[I,I,I,I,I,I,I,I,I,I,I,I,I,Z,Z,Z,Z,Z,Z,Z] rfl rfl (any_of HT_.out (by kernel_rfl)) (fun _ _ _ h => h) (Or.inl ⟨by rfl, ?_⟩) ?_ ?_
 rotate_left
 ·intro w'
  go_simp
  with_reducible rfl
 rotate_left
 ·simp only [Act.put, pu_, pz_, ps_, i64_w, i32_w]
  rfl
 refine take_ (i := 13) (N := some 30) (v := ?_) (a' := ?_) #[I,I,I,I,I,I,I,I,I,I,I,I,I,I,Z,Z,Z,Z,Z,Z] rfl rfl (take_of HT_.out (by kernel_rfl)) (fun _ _ _ h => h) (Or.inl ⟨by rfl, ?_⟩) hHeld ?_ ?_
 rotate_left
 ·intro w' hS
  have q_ := (HS8.out.below hS).x
  have x0 := cell_heap (i := 0) q_ rfl
  have x1 := cell_heap (i := 1) q_ rfl
  have x2 := cell_heap (i := 2) q_ rfl
  have x3 := cell_heap (i := 3) q_ rfl
  have x4 := cell_heap (i := 4) q_ rfl
  have x5 := cell_heap (i := 5) q_ rfl
  clear q_
  clear hS
  go_simp
  with_reducible rfl
 rotate_left
 ·simp only [Act.put, pu_, pz_, ps_, i64_w, i32_w]
  rfl
 refine take_ (i := 15) (N := some 32) (v := ?_) (a' := ?_) #[I,I,I,I,I,I,I,I,I,I,I,I,I,I,Z,I,Z,Z,Z,Z] rfl rfl (take_of HT_.out (by kernel_rfl)) (fun _ _ _ h => h) (Or.inl ⟨by rfl, ?_⟩) hHeld ?_ ?_
 rotate_left
 ·intro w' hS
  have q_ := (HS8.out.below hS).n
  have x0 := cell_heap (i := 0) q_ rfl
  have x1 := cell_heap (i := 1) q_ rfl
  have x2 := cell_heap (i := 2) q_ rfl
  have x3 := cell_heap (i := 3) q_ rfl
  have x4 := cell_heap (i := 4) q_ rfl
  have x5 := cell_heap (i := 5) q_ rfl
  clear q_
  clear hS
  go_simp
  with_reducible rfl
 rotate_left
 ·simp only [Act.put, pu_, pz_, ps_, i64_w, i32_w]
  rfl
 refine one_ (i := 14) (N := some 31) #[I,I,I,I,I,I,I,I,I,I,I,I,I,I,I,I,Z,Z,Z,Z] rfl rfl (one_of HT_.out (by kernel_rfl)) (by decide) (fun K hK => ?_)
 refine goes_ Try.func53 (by kernel_rfl) rfl #[.agg #[.int .i64 k, .int .i64 m, .int .i64 lo, .int .i64 hi, .slice xr r.length xcr, .slice xk kids.length xck]] (by rfl) rfl rfl (by (try simp only [List.map_toArray, List.map_cons, List.map_nil]); first | done | rfl) ?_
 have hr := groups_calls (.mk k m lo hi r kids) _ wd (HX8.out.up HB_wd.out) (by have := HN.out; omega)
 rw [← HV.out.2.2] at hr
 refine (hr).mono ?_
 rintro e we ⟨rfl, hB⟩
 have HB_we := Lib.hid (HB_wd.out.trans (hB.mono HB_wd.out.size))
 clear hB hr
 refine ⟨_, rfl, ?_⟩
 clear hHeld
 refine hK.out _ _ HB_we.out (fun hHeld => ?_)
 clear hK K
 refine norm_ (a' := ?_) ?_ ?_
 rotate_left
 ·show Act.put _ (some 31) _ = _
  simp only [Act.put, pu_, pz_, ps_, i64_w, i32_w]
  rfl
 refine one_ (i := 16) (N := some 33) #[I,I,I,I,I,I,I,I,I,I,I,I,I,I,I,I,I,Z,Z,Z] rfl rfl (one_of HT_.out (by kernel_rfl)) (by decide) (fun K hK => ?_)
 refine goes_ Try.func63 (by kernel_rfl) rfl #[.agg #[.int .i64 k, .int .i64 m, .int .i64 lo, .int .i64 hi, .slice ar r.length cr, .slice ak kids.length ck]] (by rfl) rfl rfl (by (try simp only [List.map_toArray, List.map_cons, List.map_nil]); first | done | rfl) ?_
 have hr := refgroups_calls k m lo hi r kids ar ak cr ck we (HN8.out.up HB_we.out) HN.out
 rw [← HV.out.2.2] at hr
 refine (hr).mono ?_
 rintro e wf ⟨rfl, hB⟩
 have HB_wf := Lib.hid (HB_we.out.trans (hB.mono HB_we.out.size))
 clear hB hr
 refine ⟨_, rfl, ?_⟩
 clear hHeld
 refine hK.out _ _ HB_wf.out (fun hHeld => ?_)
 clear hK K
 refine norm_ (a' := ?_) ?_ ?_
 rotate_left
 ·show Act.put _ (some 33) _ = _
  simp only [Act.put, pu_, pz_, ps_, i64_w, i32_w]
  rfl
 refine pure_ (i := 17) (N := some 34) (v := ?_) (a' := ?_) #[I,I,I,I,I,I,I,I,I,I,I,I,I,I,I,I,I,I,Z,Z] rfl rfl (any_of HT_.out (by kernel_rfl)) (fun _ _ _ h => h) (Or.inl ⟨by rfl, ?_⟩) ?_ ?_
 rotate_left
 ·intro w'
  have hbs := beq_self_eq_true G
  go_simp
  with_reducible rfl
 rotate_left
 ·simp only [Act.put, pu_, pz_, ps_, i64_w, i32_w]
  rfl
 refine pure_ (i := 18) (N := some 35) (v := ?_) (a' := ?_) #[I,I,I,I,I,I,I,I,I,I,I,I,I,I,I,I,I,I,I,Z] rfl rfl (any_of HT_.out (by kernel_rfl)) (fun _ _ _ h => h) (Or.inl ⟨by rfl, ?_⟩) ?_ ?_
 rotate_left
 ·intro w'
  go_simp
  with_reducible rfl
 rotate_left
 ·simp only [Act.put, pu_, pz_, ps_, i64_w, i32_w]
  rfl
 refine pure_ (i := 19) (N := some 8) (v := ?_) (a' := ?_) #[I,I,I,I,I,I,I,I,I,I,I,I,I,I,I,I,I,I,I,I] rfl rfl (any_of HT_.out (by kernel_rfl)) (fun _ _ _ h => h) (Or.inl ⟨by rfl, ?_⟩) ?_ ?_
 rotate_left
 ·intro w'
  go_simp
  with_reducible rfl
 rotate_left
 ·simp only [Act.put, pu_, pz_, ps_, i64_w, i32_w]
  rfl
 refine done_ (done_of HT_.out (by kernel_rfl)) ?_
 clear HT_ hHeld
 have HS9 := Lib.hid (HS8.out.below HB_wf.out)
 have HN9 := Lib.hid (HN8.out.up HB_wf.out)
 have HM9 := Lib.hid (HM8.out.up HB_wf.out)
 have HX9 := Lib.hid (HX8.out.up HB_wf.out)
 have HY9 := Lib.hid (HY8.out.up HB_wf.out)
 have HCX9 := Lib.hid (HCX8.out.imp id (fun c => c.up HB_wf.out))
 have HCY9 := Lib.hid (HCY8.out.imp id (fun c => c.up HB_wf.out))
 clear HS8 HN8 HM8 HX8 HY8 HCX8 HCY8 HB_wf HB_we HB_wd HB_wc_ HB_wb HB_wa HBa
 obtain ⟨S1, hS1⟩ : ∃ S1, S1 = sameT (NT.mk k m lo hi r kids) (NT.mk k' m' lo' hi' r' kids') := ⟨_, rfl⟩
 obtain ⟨S2, hS2⟩ : ∃ S2, S2 = sameT (NT.mk k m lo hi r kids) (NT.mk k m lo hi r kids) := ⟨_, rfl⟩
 have HSV := Lib.hid (And.intro hS1 hS2)
 clear hS1 hS2 HV
 go_upto_region 5 with (fail)
 have HBb := Lib.hid (show Below wf.heap.size wf wf.drew from (Below.refl _ wf).drew)
 refine start_ (n := 17) (S := fun w' => Below wf.heap.size wf w') (ds := []) #[Z,Z,Z,Z,Z,Z,Z,Z,Z,Z,Z,Z,Z,Z,Z,Z,Z] (by kernel_rfl) rfl rfl HBb.out (fun hHeld => ?_)
 refine with_self (fun HT_ => ?_)
 generalize wf.drew = w_e at HBb hHeld ⊢
 refine take_ (i := 0) (N := some 36) (v := ?_) (a' := ?_) #[I,Z,Z,Z,Z,Z,Z,Z,Z,Z,Z,Z,Z,Z,Z,Z,Z] rfl rfl (take_of HT_.out (by kernel_rfl)) (fun _ _ _ h => h) (Or.inl ⟨by rfl, ?_⟩) hHeld ?_ ?_
 rotate_left
 ·intro w' hS
  have q_ := (HS9.out.below hS).x
  have x0 := cell_heap (i := 0) q_ rfl
  have x1 := cell_heap (i := 1) q_ rfl
  have x2 := cell_heap (i := 2) q_ rfl
  have x3 := cell_heap (i := 3) q_ rfl
  have x4 := cell_heap (i := 4) q_ rfl
  have x5 := cell_heap (i := 5) q_ rfl
  clear q_
  clear hS
  go_simp
  with_reducible rfl
 rotate_left
 ·simp only [Act.put, pu_, pz_, ps_, i64_w, i32_w]
  rfl
 refine take_ (i := 1) (N := some 37) (v := ?_) (a' := ?_) #[I,I,Z,Z,Z,Z,Z,Z,Z,Z,Z,Z,Z,Z,Z,Z,Z] rfl rfl (take_of HT_.out (by kernel_rfl)) (fun _ _ _ h => h) (Or.inl ⟨by rfl, ?_⟩) hHeld ?_ ?_
 rotate_left
 ·intro w' hS
  have q_ := (HS9.out.below hS).y
  have x0 := cell_heap (i := 0) q_ rfl
  have x1 := cell_heap (i := 1) q_ rfl
  have x2 := cell_heap (i := 2) q_ rfl
  have x3 := cell_heap (i := 3) q_ rfl
  have x4 := cell_heap (i := 4) q_ rfl
  have x5 := cell_heap (i := 5) q_ rfl
  clear q_
  clear hS
  go_simp
  with_reducible rfl
 rotate_left
 ·simp only [Act.put, pu_, pz_, ps_, i64_w, i32_w]
  rfl
 refine take_ (i := 3) (N := some 39) (v := ?_) (a' := ?_) #[I,I,Z,I,Z,Z,Z,Z,Z,Z,Z,Z,Z,Z,Z,Z,Z] rfl rfl (take_of HT_.out (by kernel_rfl)) (fun _ _ _ h => h) (Or.inl ⟨by rfl, ?_⟩) hHeld ?_ ?_
 rotate_left
 ·intro w' hS
  have q_ := (HS9.out.below hS).n
  have x0 := cell_heap (i := 0) q_ rfl
  have x1 := cell_heap (i := 1) q_ rfl
  have x2 := cell_heap (i := 2) q_ rfl
  have x3 := cell_heap (i := 3) q_ rfl
  have x4 := cell_heap (i := 4) q_ rfl
  have x5 := cell_heap (i := 5) q_ rfl
  clear q_
  clear hS
  go_simp
  with_reducible rfl
 rotate_left
 ·simp only [Act.put, pu_, pz_, ps_, i64_w, i32_w]
  rfl
 refine take_ (i := 4) (N := some 40) (v := ?_) (a' := ?_) #[I,I,Z,I,I,Z,Z,Z,Z,Z,Z,Z,Z,Z,Z,Z,Z] rfl rfl (take_of HT_.out (by kernel_rfl)) (fun _ _ _ h => h) (Or.inl ⟨by rfl, ?_⟩) hHeld ?_ ?_
 rotate_left
 ·intro w' hS
  have q_ := (HS9.out.below hS).m
  have x0 := cell_heap (i := 0) q_ rfl
  have x1 := cell_heap (i := 1) q_ rfl
  have x2 := cell_heap (i := 2) q_ rfl
  have x3 := cell_heap (i := 3) q_ rfl
  have x4 := cell_heap (i := 4) q_ rfl
  have x5 := cell_heap (i := 5) q_ rfl
  clear q_
  clear hS
  go_simp
  with_reducible rfl
 rotate_left
 ·simp only [Act.put, pu_, pz_, ps_, i64_w, i32_w]
  rfl
 refine one_ (i := 2) (N := some 38) #[I,I,I,I,I,Z,Z,Z,Z,Z,Z,Z,Z,Z,Z,Z,Z] rfl rfl (one_of HT_.out (by kernel_rfl)) (by decide) (fun K hK => ?_)
 refine goes_ Try.func57 (by kernel_rfl) rfl #[.agg #[.int .i64 k, .int .i64 m, .int .i64 lo, .int .i64 hi, .slice xr r.length xcr, .slice xk kids.length xck], .agg #[.int .i64 k', .int .i64 m', .int .i64 lo', .int .i64 hi', .slice yr r'.length ycr, .slice yk kids'.length yck]] (by rfl) rfl rfl (by (try simp only [List.map_toArray, List.map_cons, List.map_nil]); first | done | rfl) ?_
 have hr := Same_calls w_e.heap.size (.mk k m lo hi r kids) (.mk k' m' lo' hi' r' kids') _ _ w_e (Nat.le_refl _) (HX9.out.up HBb.out) (HY9.out.up HBb.out) (by have := HN.out; omega) (by have := HN'.out; omega)
 rw [← HSV.out.1] at hr
 refine (hr).mono ?_
 rintro e wg ⟨rfl, hB⟩
 have HB_wg := Lib.hid (HBb.out.trans (hB.mono HBb.out.size))
 clear hB hr
 refine ⟨_, rfl, ?_⟩
 clear hHeld
 refine hK.out _ _ HB_wg.out (fun hHeld => ?_)
 clear hK K
 refine norm_ (a' := ?_) ?_ ?_
 rotate_left
 ·show Act.put _ (some 38) _ = _
  simp only [Act.put, pu_, pz_, ps_, i64_w, i32_w]
  rfl
 refine one_ (i := 5) (N := some 41) #[I,I,I,I,I,I,Z,Z,Z,Z,Z,Z,Z,Z,Z,Z,Z] rfl rfl (one_of HT_.out (by kernel_rfl)) (by decide) (fun K hK => ?_)
 refine goes_ Try.func64 (by kernel_rfl) rfl #[.agg #[.int .i64 k, .int .i64 m, .int .i64 lo, .int .i64 hi, .slice ar r.length cr, .slice ak kids.length ck], .agg #[.int .i64 k', .int .i64 m', .int .i64 lo', .int .i64 hi', .slice ar' r'.length cr', .slice ak' kids'.length ck']] (by rfl) rfl rfl (by (try simp only [List.map_toArray, List.map_cons, List.map_nil]); first | done | rfl) ?_
 have hr := refsame_c k m lo hi r kids ar ak cr ck k' m' lo' hi' r' kids' ar' ak' cr' ck' wg (HN9.out.up HB_wg.out) (HM9.out.up HB_wg.out) HN.out HN'.out
 rw [← HSV.out.1] at hr
 refine (hr).mono ?_
 rintro e wh ⟨rfl, hB⟩
 have HB_wh := Lib.hid (HB_wg.out.trans (hB.mono HB_wg.out.size))
 clear hB hr
 refine ⟨_, rfl, ?_⟩
 clear hHeld
 refine hK.out _ _ HB_wh.out (fun hHeld => ?_)
 clear hK K
 refine norm_ (a' := ?_) ?_ ?_
 rotate_left
 ·show Act.put _ (some 41) _ = _
  simp only [Act.put, pu_, pz_, ps_, i64_w, i32_w]
  rfl
 refine pure_ (i := 6) (N := some 42) (v := ?_) (a' := ?_) #[I,I,I,I,I,I,I,Z,Z,Z,Z,Z,Z,Z,Z,Z,Z] rfl rfl (any_of HT_.out (by kernel_rfl)) (fun _ _ _ h => h) (Or.inl ⟨by rfl, ?_⟩) ?_ ?_
 rotate_left
 ·intro w'
  have hbs := beq_self_eq_true S1
  go_simp
  with_reducible rfl
 rotate_left
 ·simp only [Act.put, pu_, pz_, ps_, i64_w, i32_w]
  rfl
 refine pure_ (i := 7) (N := some 43) (v := ?_) (a' := ?_) #[I,I,I,I,I,I,I,I,Z,Z,Z,Z,Z,Z,Z,Z,Z] rfl rfl (any_of HT_.out (by kernel_rfl)) (fun _ _ _ h => h) (Or.inl ⟨by rfl, ?_⟩) ?_ ?_
 rotate_left
 ·intro w'
  go_simp
  with_reducible rfl
 rotate_left
 ·simp only [Act.put, pu_, pz_, ps_, i64_w, i32_w]
  rfl
 refine take_ (i := 8) (N := some 44) (v := ?_) (a' := ?_) #[I,I,I,I,I,I,I,I,I,Z,Z,Z,Z,Z,Z,Z,Z] rfl rfl (take_of HT_.out (by kernel_rfl)) (fun _ _ _ h => h) (Or.inl ⟨by rfl, ?_⟩) hHeld ?_ ?_
 rotate_left
 ·intro w' hS
  have q_ := (HS9.out.below hS).x
  have x0 := cell_heap (i := 0) q_ rfl
  have x1 := cell_heap (i := 1) q_ rfl
  have x2 := cell_heap (i := 2) q_ rfl
  have x3 := cell_heap (i := 3) q_ rfl
  have x4 := cell_heap (i := 4) q_ rfl
  have x5 := cell_heap (i := 5) q_ rfl
  clear q_
  clear hS
  go_simp
  with_reducible rfl
 rotate_left
 ·simp only [Act.put, pu_, pz_, ps_, i64_w, i32_w]
  rfl
 refine take_ (i := 9) (N := some 45) (v := ?_) (a' := ?_) #[I,I,I,I,I,I,I,I,I,I,Z,Z,Z,Z,Z,Z,Z] rfl rfl (take_of HT_.out (by kernel_rfl)) (fun _ _ _ h => h) (Or.inl ⟨by rfl, ?_⟩) hHeld ?_ ?_
 rotate_left
 ·intro w' hS
  have q_ := (HS9.out.below hS).x
  have x0 := cell_heap (i := 0) q_ rfl
  have x1 := cell_heap (i := 1) q_ rfl
  have x2 := cell_heap (i := 2) q_ rfl
  have x3 := cell_heap (i := 3) q_ rfl
  have x4 := cell_heap (i := 4) q_ rfl
  have x5 := cell_heap (i := 5) q_ rfl
  clear q_
  clear hS
  go_simp
  with_reducible rfl
 rotate_left
 ·simp only [Act.put, pu_, pz_, ps_, i64_w, i32_w]
  rfl
 refine take_ (i := 11) (N := some 47) (v := ?_) (a' := ?_) #[I,I,I,I,I,I,I,I,I,I,Z,I,Z,Z,Z,Z,Z] rfl rfl (take_of HT_.out (by kernel_rfl)) (fun _ _ _ h => h) (Or.inl ⟨by rfl, ?_⟩) hHeld ?_ ?_
 rotate_left
 ·intro w' hS
  have q_ := (HS9.out.below hS).n
  have x0 := cell_heap (i := 0) q_ rfl
  have x1 := cell_heap (i := 1) q_ rfl
  have x2 := cell_heap (i := 2) q_ rfl
  have x3 := cell_heap (i := 3) q_ rfl
  have x4 := cell_heap (i := 4) q_ rfl
  have x5 := cell_heap (i := 5) q_ rfl
  clear q_
  clear hS
  go_simp
  with_reducible rfl
 rotate_left
 ·simp only [Act.put, pu_, pz_, ps_, i64_w, i32_w]
  rfl
 refine take_ (i := 12) (N := some 48) (v := ?_) (a' := ?_) #[I,I,I,I,I,I,I,I,I,I,Z,I,I,Z,Z,Z,Z] rfl rfl (take_of HT_.out (by kernel_rfl)) (fun _ _ _ h => h) (Or.inl ⟨by rfl, ?_⟩) hHeld ?_ ?_
 rotate_left
 ·intro w' hS
  have q_ := (HS9.out.below hS).n
  have x0 := cell_heap (i := 0) q_ rfl
  have x1 := cell_heap (i := 1) q_ rfl
  have x2 := cell_heap (i := 2) q_ rfl
  have x3 := cell_heap (i := 3) q_ rfl
  have x4 := cell_heap (i := 4) q_ rfl
  have x5 := cell_heap (i := 5) q_ rfl
  clear q_
  clear hS
  go_simp
  with_reducible rfl
 rotate_left
 ·simp only [Act.put, pu_, pz_, ps_, i64_w, i32_w]
  rfl
 refine one_ (i := 10) (N := some 46) #[I,I,I,I,I,I,I,I,I,I,I,I,I,Z,Z,Z,Z] rfl rfl (one_of HT_.out (by kernel_rfl)) (by decide) (fun K hK => ?_)
 refine goes_ Try.func57 (by kernel_rfl) rfl #[.agg #[.int .i64 k, .int .i64 m, .int .i64 lo, .int .i64 hi, .slice xr r.length xcr, .slice xk kids.length xck], .agg #[.int .i64 k, .int .i64 m, .int .i64 lo, .int .i64 hi, .slice xr r.length xcr, .slice xk kids.length xck]] (by rfl) rfl rfl (by (try simp only [List.map_toArray, List.map_cons, List.map_nil]); first | done | rfl) ?_
 have hr := Same_calls wh.heap.size (.mk k m lo hi r kids) (.mk k m lo hi r kids) _ _ wh (Nat.le_refl _) (HX9.out.up HB_wh.out) (HX9.out.up HB_wh.out) (by have := HN.out; omega) (by have := HN.out; omega)
 rw [← HSV.out.2] at hr
 refine (hr).mono ?_
 rintro e wi ⟨rfl, hB⟩
 have HB_wi := Lib.hid (HB_wh.out.trans (hB.mono HB_wh.out.size))
 clear hB hr
 refine ⟨_, rfl, ?_⟩
 clear hHeld
 refine hK.out _ _ HB_wi.out (fun hHeld => ?_)
 clear hK K
 refine norm_ (a' := ?_) ?_ ?_
 rotate_left
 ·show Act.put _ (some 46) _ = _
  simp only [Act.put, pu_, pz_, ps_, i64_w, i32_w]
  rfl
 refine one_ (i := 13) (N := some 49) #[I,I,I,I,I,I,I,I,I,I,I,I,I,I,Z,Z,Z] rfl rfl (one_of HT_.out (by kernel_rfl)) (by decide) (fun K hK => ?_)
 refine goes_ Try.func64 (by kernel_rfl) rfl #[.agg #[.int .i64 k, .int .i64 m, .int .i64 lo, .int .i64 hi, .slice ar r.length cr, .slice ak kids.length ck], .agg #[.int .i64 k, .int .i64 m, .int .i64 lo, .int .i64 hi, .slice ar r.length cr, .slice ak kids.length ck]] (by rfl) rfl rfl (by (try simp only [List.map_toArray, List.map_cons, List.map_nil]); first | done | rfl) ?_
 have hr := refsame_c k m lo hi r kids ar ak cr ck k m lo hi r kids ar ak cr ck wi (HN9.out.up HB_wi.out) (HN9.out.up HB_wi.out) HN.out HN.out
 rw [← HSV.out.2] at hr
 refine (hr).mono ?_
 rintro e wj ⟨rfl, hB⟩
 have HB_wj := Lib.hid (HB_wi.out.trans (hB.mono HB_wi.out.size))
 clear hB hr
 refine ⟨_, rfl, ?_⟩
 clear hHeld
 refine hK.out _ _ HB_wj.out (fun hHeld => ?_)
 clear hK K
 refine norm_ (a' := ?_) ?_ ?_
 rotate_left
 ·show Act.put _ (some 49) _ = _
  simp only [Act.put, pu_, pz_, ps_, i64_w, i32_w]
  rfl
 refine pure_ (i := 14) (N := some 50) (v := ?_) (a' := ?_) #[I,I,I,I,I,I,I,I,I,I,I,I,I,I,I,Z,Z] rfl rfl (any_of HT_.out (by kernel_rfl)) (fun _ _ _ h => h) (Or.inl ⟨by rfl, ?_⟩) ?_ ?_
 rotate_left
 ·intro w'
  have hbs := beq_self_eq_true S2
  go_simp
  with_reducible rfl
 rotate_left
 ·simp only [Act.put, pu_, pz_, ps_, i64_w, i32_w]
  rfl
 refine pure_ (i := 15) (N := some 51) (v := ?_) (a' := ?_) #[I,I,I,I,I,I,I,I,I,I,I,I,I,I,I,I,Z] rfl rfl (any_of HT_.out (by kernel_rfl)) (fun _ _ _ h => h) (Or.inl ⟨by rfl, ?_⟩) ?_ ?_
 rotate_left
 ·intro w'
  go_simp
  with_reducible rfl
 rotate_left
 ·simp only [Act.put, pu_, pz_, ps_, i64_w, i32_w]
  rfl
 refine pure_ (i := 16) (N := some 9) (v := ?_) (a' := ?_) #[I,I,I,I,I,I,I,I,I,I,I,I,I,I,I,I,I] rfl rfl (any_of HT_.out (by kernel_rfl)) (fun _ _ _ h => h) (Or.inl ⟨by rfl, ?_⟩) ?_ ?_
 rotate_left
 ·intro w'
  go_simp
  with_reducible rfl
 rotate_left
 ·simp only [Act.put, pu_, pz_, ps_, i64_w, i32_w]
  rfl
 refine done_ (done_of HT_.out (by kernel_rfl)) ?_
 clear HT_ hHeld
 have HSA := Lib.hid (HS9.out.below HB_wj.out)
 have HK1 := Lib.hid (kept_calls k m lo hi r kids ar ak cr ck wj (HN9.out.up HB_wj.out) HN.out _ (HX9.out.up HB_wj.out) (HCX9.out.imp id (fun c => c.up HB_wj.out)))
 have HMA := Lib.hid (HM9.out.up HB_wj.out)
 have HYA := Lib.hid (HY9.out.up HB_wj.out)
 have HCYA := Lib.hid (HCY9.out.imp id (fun c => c.up HB_wj.out))
 clear HS9 HN9 HM9 HX9 HY9 HCX9 HCY9 HSV HB_wj HB_wi HB_wh HB_wg HBb
 have x0 := cell_heap (i := 0) HSA.out.x rfl
 have x1 := cell_heap (i := 1) HSA.out.x rfl
 have x2 := cell_heap (i := 2) HSA.out.x rfl
 have x3 := cell_heap (i := 3) HSA.out.x rfl
 have x4 := cell_heap (i := 4) HSA.out.x rfl
 have x5 := cell_heap (i := 5) HSA.out.x rfl
 have n0 := cell_heap (i := 0) HSA.out.n rfl
 have n1 := cell_heap (i := 1) HSA.out.n rfl
 have n2 := cell_heap (i := 2) HSA.out.n rfl
 have n3 := cell_heap (i := 3) HSA.out.n rfl
 have n4 := cell_heap (i := 4) HSA.out.n rfl
 have n5 := cell_heap (i := 5) HSA.out.n rfl
 go_wp2_with fail
 refine HK1.out.mono ?_
 rintro e wk ⟨rfl, hbk⟩
 have HSB := Lib.hid (HSA.out.below hbk)
 have HK2 := Lib.hid (kept_calls k' m' lo' hi' r' kids' ar' ak' cr' ck' wk (HMA.out.up hbk) HN'.out _ (HYA.out.up hbk) (HCYA.out.imp id (fun c => c.up hbk)))
 clear hbk HK1 HSA HMA HYA HCYA x0 x1 x2 x3 x4 x5 n0 n1 n2 n3 n4 n5
 have x0 := cell_heap (i := 0) HSB.out.y rfl
 have x1 := cell_heap (i := 1) HSB.out.y rfl
 have x2 := cell_heap (i := 2) HSB.out.y rfl
 have x3 := cell_heap (i := 3) HSB.out.y rfl
 have x4 := cell_heap (i := 4) HSB.out.y rfl
 have x5 := cell_heap (i := 5) HSB.out.y rfl
 have n0 := cell_heap (i := 0) HSB.out.m rfl
 have n1 := cell_heap (i := 1) HSB.out.m rfl
 have n2 := cell_heap (i := 2) HSB.out.m rfl
 have n3 := cell_heap (i := 3) HSB.out.m rfl
 have n4 := cell_heap (i := 4) HSB.out.m rfl
 have n5 := cell_heap (i := 5) HSB.out.m rfl
 go_wp2_with fail
 refine HK2.out.mono ?_
 rintro e wl ⟨rfl, hbl⟩
 have HBL := Lib.hid (HSB.out.bel.trans (hbl.mono HSB.out.bel.size))
 clear hbl HK2 HSB x0 x1 x2 x3 x4 x5 n0 n1 n2 n3 n4 n5
 go_wp2_with fail
 go_ret
 exact ⟨rfl, HBL.out⟩
theorem treeCounts_calls (t u : NT) (cs ds : List Value) (w : World) (hT : NIn w (· < w.heap.size) t cs) (hU : NIn w (· < w.heap.size) u ds) (hn : t.nodes < 274877906944) (hn' : u.nodes < 274877906944) :
  Calls Try.prog 14 #[.agg cs.toArray, .agg ds.toArray] w fun e w' => e = .returned (.bool true) ∧ Below w.heap.size w w' := by
 obtain ⟨k, m, lo, hi, r, kids⟩ := t
 obtain ⟨k', m', lo', hi', r', kids'⟩ := u
 obtain ⟨ar, ak, cr, ck, rfl⟩ := NIn.shape hT
 obtain ⟨ar', ak', cr', ck', rfl⟩ := NIn.shape hU
 exact treeCounts_c k m lo hi r kids ar ak cr ck k' m' lo' hi' r' kids' ar' ak' cr' ck' w hT hU hn hn'
end Go.Proofs.Ytamhkdlcoghdbaa.PCls
