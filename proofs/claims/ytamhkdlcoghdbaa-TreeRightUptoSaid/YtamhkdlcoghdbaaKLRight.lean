/- Out of LRight (wip/tools/prune2.py): the declarations alone that the texts of the trees name. -/
import Derived.Test.YtamhkdlcoghdbaaKTStill
import Derived.Test.YtamhkdlcoghdbaaKTRRight
namespace Go.Proofs.Ytamhkdlcoghdbaa.PCls
open Go.RowKit Go.Shelf Go.Proofs.YtamhkdlcoghdbaaW.PrintWords Go.Proofs.YtamhkdlcoghdbaaW.PrintLast Go.Proofs.YtamhkdlcoghdbaaW.PrintMore
set_option linter.unusedVariables false
set_option linter.unusedSimpArgs false
set_option maxHeartbeats 8000000 in
set_option maxRecDepth 100000 in
theorem treeRight_c (k m lo hi : Int) (r : List S64) (kids : List NT) (ar ak : Option Addr) (cr ck : Nat) (chars fold : Bool) (w : World) (hT : NIn w (· < w.heap.size) (.mk k m lo hi r kids) [.int .i64 k, .int .i64 m, .int .i64 lo, .int .i64 hi, .slice ar r.length cr, .slice ak kids.length ck]) (hn : (NT.mk k m lo hi r kids).nodes < 274877906944) :
  Calls Try.prog 13 #[.agg #[.int .i64 k, .int .i64 m, .int .i64 lo, .int .i64 hi, .slice ar r.length cr, .slice ak kids.length ck], .agg #[.bool chars, .bool fold]] w fun e w' => e = .returned (.bool true) ∧ Below w.heap.size w w' := by
 have HT := Lib.hid hT
 have HN := Lib.hid hn
 clear hT hn
 obtain ⟨W2, hW2⟩ : ∃ W2, W2 = (w.alloc (.cells #[.int .i64 k, .int .i64 m, .int .i64 lo, .int .i64 hi, .slice ar r.length cr, .slice ak kids.length ck] 44)).alloc (.cells #[.bool chars, .bool fold] 46) := ⟨_, rfl⟩
 have HST := Lib.hid (show KidSt w W2 #[.int .i64 k, .int .i64 m, .int .i64 lo, .int .i64 hi, .slice ar r.length cr, .slice ak kids.length ck] chars fold by rw [hW2]; exact KidSt.start w _ chars fold)
 have HW2 := Lib.hid hW2
 clear hW2
 obtain ⟨R, hR⟩ : ∃ R, R = rightT (.mk k m lo hi r kids) chars fold := ⟨_, rfl⟩
 have HR := Lib.hid hR
 clear hR
 go_enter Try.func13, Try.ntmps13
 go_wp2_with fail
 rw [← HW2.out]
 refine (examples_calls _).mono ?_
 rintro e w4 ⟨rfl, hb4⟩
 have HS4 := Lib.hid (HST.out.below hb4)
 clear hb4 HST
 have n0 := cell_heap (i := 0) HS4.out.node rfl
 have n1 := cell_heap (i := 1) HS4.out.node rfl
 have n2 := cell_heap (i := 2) HS4.out.node rfl
 have n3 := cell_heap (i := 3) HS4.out.node rfl
 have n4 := cell_heap (i := 4) HS4.out.node rfl
 have n5 := cell_heap (i := 5) HS4.out.node rfl
 have HL := Lib.hid (lent_calls k m lo hi r kids ar ak cr ck w4 ((HT.out.move (fun b hb => HS4.out.bel.block b hb)).mono (fun b hb => Nat.lt_of_lt_of_le hb HS4.out.bel.size)) HN.out)
 go_wp2_with fail
 refine HL.out.mono ?_
 rintro e w5 ⟨xs, rfl, hb5, hX5, hC5⟩
 obtain ⟨xr, xk, xcr, xck, rfl⟩ := NIn.shape hX5
 have hS5 := HS4.out.below hb5
 obtain ⟨W6, hW6⟩ : ∃ W6, W6 = w5.alloc (.cells #[.int .i64 k, .int .i64 m, .int .i64 lo, .int .i64 hi, .slice xr r.length xcr, .slice xk kids.length xck] 44) := ⟨_, rfl⟩
 have hb6 : Below w5.heap.size w5 W6 := by rw [hW6]; exact (Below.refl _ w5).alloc (Nat.le_refl _) _
 have hx6 : W6.heap[w5.heap.size]? = some (.cells #[.int .i64 k, .int .i64 m, .int .i64 lo, .int .i64 hi, .slice xr r.length xcr, .slice xk kids.length xck] 44 (0, 0)) := by rw [hW6]; exact World.alloc_heap_new w5 _
 have hsz : w5.heap.size + 1 ≤ W6.heap.size := by rw [hW6]; simp
 have HS6 := Lib.hid (hS5.below hb6)
 have HX6 := Lib.hid hx6
 have HSZ := Lib.hid hsz
 have HNX := Lib.hid ((hX5.move (fun b hb => hb6.block b hb)).mono (fun b hb => Nat.lt_of_lt_of_le hb hb6.size))
 have HCX := Lib.hid (hC5.imp id (fun c => (c.move (fun b hb => hb6.block b hb)).mono (fun b hb => Nat.lt_of_lt_of_le hb hb6.size)))
 have HW6 := Lib.hid hW6
 have hr := right_calls (.mk k m lo hi r kids) _ chars fold W6 HNX.out HN.out
 rw [← HR.out] at hr
 have HRC := Lib.hid hr
 have mm := HS6.out.mode
 rw [hW6] at mm
 clear hb5 hX5 hC5 hS5 hW6 hb6 hx6 hsz hr HL HS4 n0 n1 n2 n3 n4 n5
 have m0 := cell_heap (i := 0) mm rfl
 have m1 := cell_heap (i := 1) mm rfl
 clear mm
 go_wp2_with fail
 rw [← HW6.out]
 refine HRC.out.mono ?_
 rintro e w7 ⟨rfl, hb7⟩
 have HS7 := Lib.hid (HS6.out.below hb7)
 have hx7 := (hb7.block _ (by have := HSZ.out; omega)).trans HX6.out
 have HNX7 := Lib.hid ((HNX.out.move (fun b hb => hb7.block b hb)).mono (fun b hb => Nat.lt_of_lt_of_le hb hb7.size))
 have HCX7 := Lib.hid (HCX.out.imp id (fun c => (c.move (fun b hb => hb7.block b hb)).mono (fun b hb => Nat.lt_of_lt_of_le hb hb7.size)))
 have HNT7 := Lib.hid ((HT.out.move (fun b hb => HS7.out.bel.block b hb)).mono (fun b hb => Nat.lt_of_lt_of_le hb HS7.out.bel.size))
 have HK := Lib.hid (kept_calls k m lo hi r kids ar ak cr ck w7 HNT7.out HN.out _ HNX7.out HCX7.out)
 clear hb7 HRC HNX HCX HX6 HS6 HSZ m0 m1
 have n0 := cell_heap (i := 0) HS7.out.node rfl
 have n1 := cell_heap (i := 1) HS7.out.node rfl
 have n2 := cell_heap (i := 2) HS7.out.node rfl
 have n3 := cell_heap (i := 3) HS7.out.node rfl
 have n4 := cell_heap (i := 4) HS7.out.node rfl
 have n5 := cell_heap (i := 5) HS7.out.node rfl
 have x0 := cell_heap (i := 0) hx7 rfl
 have x1 := cell_heap (i := 1) hx7 rfl
 have x2 := cell_heap (i := 2) hx7 rfl
 have x3 := cell_heap (i := 3) hx7 rfl
 have x4 := cell_heap (i := 4) hx7 rfl
 have x5 := cell_heap (i := 5) hx7 rfl
 clear hx7
 go_wp2_with fail
 refine HK.out.mono ?_
 rintro e w8 ⟨rfl, hb8⟩
 have HS8 := Lib.hid (HS7.out.below hb8)
 have HNT8 := Lib.hid ((HT.out.move (fun b hb => HS8.out.bel.block b hb)).mono (fun b hb => Nat.lt_of_lt_of_le hb HS8.out.bel.size))
 have hrr := refright_calls k m lo hi r kids ar ak cr ck chars fold w8 HNT8.out HN.out
 rw [← HR.out] at hrr
 have HRR := Lib.hid hrr
 clear hrr hb8 HK HNX7 HCX7 HNT7 HS7 n0 n1 n2 n3 n4 n5 x0 x1 x2 x3 x4 x5
 have n0 := cell_heap (i := 0) HS8.out.node rfl
 have n1 := cell_heap (i := 1) HS8.out.node rfl
 have n2 := cell_heap (i := 2) HS8.out.node rfl
 have n3 := cell_heap (i := 3) HS8.out.node rfl
 have n4 := cell_heap (i := 4) HS8.out.node rfl
 have n5 := cell_heap (i := 5) HS8.out.node rfl
 have m0 := cell_heap (i := 0) HS8.out.mode rfl
 have m1 := cell_heap (i := 1) HS8.out.mode rfl
 go_wp2_with fail
 refine HRR.out.mono ?_
 rintro e w9 ⟨rfl, hb9⟩
 have HB9 := Lib.hid (HS8.out.bel.trans (hb9.mono HS8.out.bel.size))
 clear hb9 HRR HNT8 HS8 n0 n1 n2 n3 n4 n5 m0 m1
 have heq : (R == R) = true := beq_self_eq_true R
 go_wp2_with fail
 go_ret
 exact ⟨rfl, HB9.out⟩
theorem treeRight_calls (t : NT) (cs : List Value) (chars fold : Bool) (w : World) (hT : NIn w (· < w.heap.size) t cs) (hn : t.nodes < 274877906944) :
  Calls Try.prog 13 #[.agg cs.toArray, .agg #[.bool chars, .bool fold]] w fun e w' => e = .returned (.bool true) ∧ Below w.heap.size w w' := by
 obtain ⟨k, m, lo, hi, r, kids⟩ := t
 obtain ⟨ar, ak, cr, ck, rfl⟩ := NIn.shape hT
 exact treeRight_c k m lo hi r kids ar ak cr ck chars fold w hT hn
end Go.Proofs.Ytamhkdlcoghdbaa.PCls
