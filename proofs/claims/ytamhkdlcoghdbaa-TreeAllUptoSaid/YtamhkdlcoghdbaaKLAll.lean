/- Out of LAll (wip/tools/prune2.py): the declarations alone that the texts of the trees name. -/
import Derived.Test.YtamhkdlcoghdbaaKTGoes
namespace Go.Proofs.Ytamhkdlcoghdbaa.PCls
open Go.RowKit Go.Shelf Go.Proofs.YtamhkdlcoghdbaaW.PrintWords Go.Proofs.YtamhkdlcoghdbaaW.PrintLast Go.Proofs.YtamhkdlcoghdbaaW.PrintMore
set_option linter.unusedVariables false
set_option linter.unusedSimpArgs false
theorem NIn.up2 {w w' : World} {t : NT} {cs : List Value} (h : NIn w (· < w.heap.size) t cs) (hb : Below w.heap.size w w') : NIn w' (· < w'.heap.size) t cs :=
 (h.move (fun b hb' => hb.block b hb')).mono (fun b hb' => Nat.lt_of_lt_of_le hb' hb.size)
theorem CIn.up2 {w w' : World} {t : NT} {cs : List Value} (h : CIn w (· < w.heap.size) t cs) (hb : Below w.heap.size w w') : CIn w' (· < w'.heap.size) t cs :=
 (h.move (fun b hb' => hb.block b hb')).mono (fun b hb' => Nat.lt_of_lt_of_le hb' hb.size)
/-- a tree and what was lent of it, boxed -/
structure ASt (w wr : World) (X : Nat) (cn cx : Array Value) : Prop where
 bel : Below w.heap.size w wr
 n : wr.heap[w.heap.size]? = some (.cells cn 44 (0, 0))
 x : wr.heap[X]? = some (.cells cx 44 (0, 0))
 sz : w.heap.size + 1 ≤ wr.heap.size
 sx : X < wr.heap.size
theorem ASt.below {w A B : World} {X : Nat} {cn cx : Array Value} (h : ASt w A X cn cx) (hb : Below A.heap.size A B) : ASt w B X cn cx :=
 ⟨h.bel.trans (hb.mono h.bel.size), (hb.block _ (by have := h.sz; omega)).trans h.n, (hb.block _ h.sx).trans h.x, Nat.le_trans h.sz hb.size, Nat.lt_of_lt_of_le h.sx hb.size⟩
set_option maxHeartbeats 16000000 in
set_option maxRecDepth 100000 in
theorem treeAll_c (k m lo hi : Int) (r : List S64) (kids : List NT) (ar ak : Option Addr) (cr ck : Nat) (M : Int) (w : World) (hT : NIn w (· < w.heap.size) (.mk k m lo hi r kids) [.int .i64 k, .int .i64 m, .int .i64 lo, .int .i64 hi, .slice ar r.length cr, .slice ak kids.length ck]) (hn : (NT.mk k m lo hi r kids).nodes < 274877906944) :
  Calls Try.prog 15 #[.agg #[.int .i64 k, .int .i64 m, .int .i64 lo, .int .i64 hi, .slice ar r.length cr, .slice ak kids.length ck], .int .i64 M] w fun e w' => e = .returned (.bool true) ∧ Below w.heap.size w w' := by
 have HT := Lib.hid hT
 have HN := Lib.hid hn
 clear hT hn
 obtain ⟨W2, hW2⟩ : ∃ W2, W2 = w.alloc (.cells #[.int .i64 k, .int .i64 m, .int .i64 lo, .int .i64 hi, .slice ar r.length cr, .slice ak kids.length ck] 44) := ⟨_, rfl⟩
 have hb2 : Below w.heap.size w W2 := by rw [hW2]; exact (Below.refl _ w).alloc (Nat.le_refl _) _
 have hx2 : W2.heap[w.heap.size]? = some (.cells #[.int .i64 k, .int .i64 m, .int .i64 lo, .int .i64 hi, .slice ar r.length cr, .slice ak kids.length ck] 44 (0, 0)) := by rw [hW2]; exact World.alloc_heap_new w _
 have HST := Lib.hid (show ASt w W2 w.heap.size #[.int .i64 k, .int .i64 m, .int .i64 lo, .int .i64 hi, .slice ar r.length cr, .slice ak kids.length ck] #[.int .i64 k, .int .i64 m, .int .i64 lo, .int .i64 hi, .slice ar r.length cr, .slice ak kids.length ck] from ⟨hb2, hx2, hx2, by rw [hW2]; simp, by rw [hW2]; simp⟩)
 have HW2 := Lib.hid hW2
 clear hW2 hb2 hx2
 go_enter Try.func15, Try.ntmps15
 go_wp2_with fail
 rw [← HW2.out]
 refine (examples_calls _).mono ?_
 rintro e w4 ⟨rfl, hb4⟩
 have HS4 := Lib.hid (HST.out.below hb4)
 clear hb4 HST HW2
 have HL := Lib.hid (lent_calls k m lo hi r kids ar ak cr ck w4 (HT.out.up2 HS4.out.bel) HN.out)
 have n0 := cell_heap (i := 0) HS4.out.n rfl
 have n1 := cell_heap (i := 1) HS4.out.n rfl
 have n2 := cell_heap (i := 2) HS4.out.n rfl
 have n3 := cell_heap (i := 3) HS4.out.n rfl
 have n4 := cell_heap (i := 4) HS4.out.n rfl
 have n5 := cell_heap (i := 5) HS4.out.n rfl
 go_wp2_with fail
 refine HL.out.mono ?_
 rintro e w5 ⟨xs, rfl, hb5, hX5, hC5⟩
 obtain ⟨xr, xk, xcr, xck, rfl⟩ := NIn.shape hX5
 have hS5 := HS4.out.below hb5
 obtain ⟨W6, hW6⟩ : ∃ W6, W6 = w5.alloc (.cells #[.int .i64 k, .int .i64 m, .int .i64 lo, .int .i64 hi, .slice xr r.length xcr, .slice xk kids.length xck] 44) := ⟨_, rfl⟩
 have hb6 : Below w5.heap.size w5 W6 := by rw [hW6]; exact (Below.refl _ w5).alloc (Nat.le_refl _) _
 have hx6 : W6.heap[w5.heap.size]? = some (.cells #[.int .i64 k, .int .i64 m, .int .i64 lo, .int .i64 hi, .slice xr r.length xcr, .slice xk kids.length xck] 44 (0, 0)) := by rw [hW6]; exact World.alloc_heap_new w5 _
 have hsz : w5.heap.size < W6.heap.size := by rw [hW6]; simp
 obtain ⟨XB, hXB⟩ : ∃ XB, XB = w5.heap.size := ⟨_, rfl⟩
 have h6 := hS5.below hb6
 have HS6 := Lib.hid (show ASt w W6 XB #[.int .i64 k, .int .i64 m, .int .i64 lo, .int .i64 hi, .slice ar r.length cr, .slice ak kids.length ck] #[.int .i64 k, .int .i64 m, .int .i64 lo, .int .i64 hi, .slice xr r.length xcr, .slice xk kids.length xck] from ⟨h6.bel, h6.n, by rw [hXB]; exact hx6, h6.sz, by rw [hXB]; exact hsz⟩)
 have HX6 := Lib.hid (hX5.up2 hb6)
 have HC6 := Lib.hid (hC5.imp id (fun c => c.up2 hb6))
 have HW6 := Lib.hid (And.intro hW6 hXB)
 have HL2 := Lib.hid (laid_calls 2000 (by decide) k m lo hi r kids ar ak cr ck W6 (HT.out.up2 HS6.out.bel) HN.out)
 have mm := HS6.out.n
 rw [hW6] at mm
 clear hb5 hX5 hC5 hS5 hW6 hb6 hx6 hsz h6 hXB HL HS4 n0 n1 n2 n3 n4 n5
 have n0 := cell_heap (i := 0) mm rfl
 have n1 := cell_heap (i := 1) mm rfl
 have n2 := cell_heap (i := 2) mm rfl
 have n3 := cell_heap (i := 3) mm rfl
 have n4 := cell_heap (i := 4) mm rfl
 have n5 := cell_heap (i := 5) mm rfl
 clear mm
 go_wp2_with fail
 rw [← HW6.out.1, ← HW6.out.2]
 refine HL2.out.mono ?_
 rintro e w7 h
 obtain ⟨g, c, L, rfl, h1, h2, h3, h4, h5⟩ := laid_open (by decide) h
 have HS7 := Lib.hid (HS6.out.below h5)
 have HX7 := Lib.hid (HX6.out.up2 h5)
 have HC7 := Lib.hid (HC6.out.imp id (fun c => c.up2 h5))
 have HP7 := Lib.hid h1
 have HN7 := Lib.hid h5.size
 have HL7 := Lib.hid h3
 clear h h1 h2 h3 h4 h5 HL2 HS6 HX6 HC6 HW6 n0 n1 n2 n3 n4 n5
 have hone : ∀ K : Prop, (∀ w8, Below w7.heap.size w7 w8 → K) → K := fun K hK => hK w7 (Below.refl _ _)
 clear hone
 by_cases hM : M < 1
 ·have hb8 := Below.refl w7.heap.size w7
  go_upto_region 5 with (fail)
  obtain ⟨w8, hw8⟩ : ∃ w8, w8 = w7 := ⟨_, rfl⟩
  rw [← hw8]
  rw [show Below w7.heap.size w7 w7 ↔ Below w7.heap.size w7 w8 by rw [hw8]] at hb8
  clear hw8 hM
  have HB8 := Lib.hid hb8
  have HS8 := Lib.hid (HS7.out.below hb8)
  have HX8 := Lib.hid (HX7.out.up2 hb8)
  have HC8 := Lib.hid (HC7.out.imp id (fun c => c.up2 hb8))
  have HG := Lib.hid (goes_c k m lo hi r kids xr xk xcr xck g c L _ _ 2001 w8 HX8.out HN.out (HP7.out.below HN7.out hb8) (Nat.le_trans HN7.out hb8.size) HL7.out (by decide))
  clear hb8 HS7 HX7 HC7
  have x0 := cell_heap (i := 0) HS8.out.x rfl
  have x1 := cell_heap (i := 1) HS8.out.x rfl
  have x2 := cell_heap (i := 2) HS8.out.x rfl
  have x3 := cell_heap (i := 3) HS8.out.x rfl
  have x4 := cell_heap (i := 4) HS8.out.x rfl
  have x5 := cell_heap (i := 5) HS8.out.x rfl
  go_wp2_with fail
  refine HG.out.mono ?_
  rintro e w9 ⟨rfl, hb9⟩
  have HS9 := Lib.hid (HS8.out.below hb9)
  have HK := Lib.hid (kept_calls k m lo hi r kids ar ak cr ck w9 (HT.out.up2 HS9.out.bel) HN.out _ (HX8.out.up2 hb9) (HC8.out.imp id (fun c => c.up2 hb9)))
  clear hb9 HG HS8 HX8 HC8 x0 x1 x2 x3 x4 x5
  have x0 := cell_heap (i := 0) HS9.out.x rfl
  have x1 := cell_heap (i := 1) HS9.out.x rfl
  have x2 := cell_heap (i := 2) HS9.out.x rfl
  have x3 := cell_heap (i := 3) HS9.out.x rfl
  have x4 := cell_heap (i := 4) HS9.out.x rfl
  have x5 := cell_heap (i := 5) HS9.out.x rfl
  have n0 := cell_heap (i := 0) HS9.out.n rfl
  have n1 := cell_heap (i := 1) HS9.out.n rfl
  have n2 := cell_heap (i := 2) HS9.out.n rfl
  have n3 := cell_heap (i := 3) HS9.out.n rfl
  have n4 := cell_heap (i := 4) HS9.out.n rfl
  have n5 := cell_heap (i := 5) HS9.out.n rfl
  go_wp2_with fail
  refine HK.out.mono ?_
  rintro e wa ⟨rfl, hba⟩
  have HBA := Lib.hid (HS9.out.bel.trans (hba.mono HS9.out.bel.size))
  clear hba HK HS9 x0 x1 x2 x3 x4 x5 n0 n1 n2 n3 n4 n5
  go_wp2_with fail
  go_ret
  exact ⟨rfl, HBA.out⟩
 ·have hM1 : 1 ≤ M := by omega
  have HG1 := Lib.hid (goes_c k m lo hi r kids xr xk xcr xck g c L _ _ M w7 HX7.out HN.out HP7.out HN7.out HL7.out hM1)
  have x0 := cell_heap (i := 0) HS7.out.x rfl
  have x1 := cell_heap (i := 1) HS7.out.x rfl
  have x2 := cell_heap (i := 2) HS7.out.x rfl
  have x3 := cell_heap (i := 3) HS7.out.x rfl
  have x4 := cell_heap (i := 4) HS7.out.x rfl
  have x5 := cell_heap (i := 5) HS7.out.x rfl
  go_wp2_with fail
  refine HG1.out.mono ?_
  rintro e w8 ⟨rfl, hb8⟩
  clear hM hM1
  have HB8 := Lib.hid hb8
  have HS8 := Lib.hid (HS7.out.below hb8)
  have HX8 := Lib.hid (HX7.out.up2 hb8)
  have HC8 := Lib.hid (HC7.out.imp id (fun c => c.up2 hb8))
  have HG := Lib.hid (goes_c k m lo hi r kids xr xk xcr xck g c L _ _ 2001 w8 HX8.out HN.out (HP7.out.below HN7.out hb8) (Nat.le_trans HN7.out hb8.size) HL7.out (by decide))
  clear hb8 HS7 HX7 HC7 HG1 x0 x1 x2 x3 x4 x5
  have x0 := cell_heap (i := 0) HS8.out.x rfl
  have x1 := cell_heap (i := 1) HS8.out.x rfl
  have x2 := cell_heap (i := 2) HS8.out.x rfl
  have x3 := cell_heap (i := 3) HS8.out.x rfl
  have x4 := cell_heap (i := 4) HS8.out.x rfl
  have x5 := cell_heap (i := 5) HS8.out.x rfl
  go_wp2_with fail
  refine HG.out.mono ?_
  rintro e w9 ⟨rfl, hb9⟩
  have HS9 := Lib.hid (HS8.out.below hb9)
  have HK := Lib.hid (kept_calls k m lo hi r kids ar ak cr ck w9 (HT.out.up2 HS9.out.bel) HN.out _ (HX8.out.up2 hb9) (HC8.out.imp id (fun c => c.up2 hb9)))
  clear hb9 HG HS8 HX8 HC8 x0 x1 x2 x3 x4 x5
  have x0 := cell_heap (i := 0) HS9.out.x rfl
  have x1 := cell_heap (i := 1) HS9.out.x rfl
  have x2 := cell_heap (i := 2) HS9.out.x rfl
  have x3 := cell_heap (i := 3) HS9.out.x rfl
  have x4 := cell_heap (i := 4) HS9.out.x rfl
  have x5 := cell_heap (i := 5) HS9.out.x rfl
  have n0 := cell_heap (i := 0) HS9.out.n rfl
  have n1 := cell_heap (i := 1) HS9.out.n rfl
  have n2 := cell_heap (i := 2) HS9.out.n rfl
  have n3 := cell_heap (i := 3) HS9.out.n rfl
  have n4 := cell_heap (i := 4) HS9.out.n rfl
  have n5 := cell_heap (i := 5) HS9.out.n rfl
  go_wp2_with fail
  refine HK.out.mono ?_
  rintro e wa ⟨rfl, hba⟩
  have HBA := Lib.hid (HS9.out.bel.trans (hba.mono HS9.out.bel.size))
  clear hba HK HS9 x0 x1 x2 x3 x4 x5 n0 n1 n2 n3 n4 n5
  go_wp2_with fail
  go_ret
  exact ⟨rfl, HBA.out⟩
theorem treeAll_calls (t : NT) (cs : List Value) (M : Int) (w : World) (hT : NIn w (· < w.heap.size) t cs) (hn : t.nodes < 274877906944) :
  Calls Try.prog 15 #[.agg cs.toArray, .int .i64 M] w fun e w' => e = .returned (.bool true) ∧ Below w.heap.size w w' := by
 obtain ⟨k, m, lo, hi, r, kids⟩ := t
 obtain ⟨ar, ak, cr, ck, rfl⟩ := NIn.shape hT
 exact treeAll_c k m lo hi r kids ar ak cr ck M w hT hn
end Go.Proofs.Ytamhkdlcoghdbaa.PCls
