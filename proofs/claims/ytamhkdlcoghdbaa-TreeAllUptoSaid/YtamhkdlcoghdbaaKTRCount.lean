/- Out of TRCount (wip/tools/prune2.py): the declarations alone that the texts of the trees name. -/
import Derived.Test.YtamhkdlcoghdbaaKTLay
namespace Go.Proofs.Ytamhkdlcoghdbaa.PCls
open Go.RowKit Go.Proofs.YtamhkdlcoghdbaaW.PrintWords Go.Proofs.YtamhkdlcoghdbaaW.PrintLast Go.Proofs.YtamhkdlcoghdbaaW.PrintMore
set_option linter.unusedVariables false
set_option linter.unusedSimpArgs false
theorem Plc.cell {W : World} {base n0 g c : Nat} {L : List Pl} (h : Plc W base n0 (.slice (some ⟨g, 0, none⟩) L.length c) L) {j : Nat} {p : Pl} (hj : L[j]? = some p) {i : Nat} {u : Value} (hu : p.cells[i]? = some u) : W.cell? ⟨g, j * 12 + i, none⟩ = some u := by
 have h12 := h.len p (List.mem_of_getElem? hj)
 have hi : i < 12 := by have := (List.getElem?_eq_some_iff.1 hu).1; omega
 have hl := (List.getElem?_eq_some_iff.1 hj).1
 rw [h.own.cellAt _ (by omega), rowP_at (fun q hq => h.len q hq) hj hi]
 exact hu
/-- Laid's list: the slice, the steps -/
theorem laid_open {W w2 : World} {most : Nat} {t : NT} {e : Ending} (hm : 0 < most) (h : LaidPost W most t e w2) : ∃ (g c : Nat) (L : List Pl), e = .returned (.slice (some ⟨g, 0, none⟩) L.length c) ∧ Plc w2 W.heap.size W.heap.size (.slice (some ⟨g, 0, none⟩) L.length c) L ∧ L.map Pl.two = layS most (Step.top t) 0 ∧ L.map Pl.s = (enters (Step.top t).evs).take most ∧ L.length = min most t.nodes ∧ Below W.heap.size W w2 := by
 obtain ⟨v, L, rfl, h1, h2, h3⟩ := h
 have hl : L.length = min most t.nodes := by
  have := congrArg List.length h2
  rw [List.length_map, layS_length] at this
  simpa [Step.top] using this
 have ht := t.nodes_pos
 obtain ⟨q, hq⟩ : ∃ q, L.length = q + 1 := ⟨L.length - 1, by omega⟩
 have hown := h1.own
 rw [hq] at hown
 obtain ⟨g, c, rfl⟩ := ownsRow_succ hown
 refine ⟨g, c, L, by rw [hq], by rw [hq]; exact h1, h2, ?_, hl, h3⟩
 have := layS_fst most (Step.top t) 0
 rw [← h2, List.map_map] at this
 exact this
def RetInt (n : Int) (W : World) (e : Ending) (w' : World) : Prop := e = .returned (.int .i64 n) ∧ Below W.heap.size W w'
section
variable (k m lo hi : Int) (r : List S64) (kids : List NT) (ar ak : Option Addr) (cr ck : Nat) (W : World) (hT : NIn W (· < W.heap.size) (.mk k m lo hi r kids) [.int .i64 k, .int .i64 m, .int .i64 lo, .int .i64 hi, .slice ar r.length cr, .slice ak kids.length ck]) (hn : (NT.mk k m lo hi r kids).nodes < 274877906944)
include hT hn
set_option maxHeartbeats 4000000 in
theorem refcountT_calls : Calls Try.prog 61 #[.agg #[.int .i64 k, .int .i64 m, .int .i64 lo, .int .i64 hi, .slice ar r.length cr, .slice ak kids.length ck]] W (RetInt (countT (.mk k m lo hi r kids)) W) := by
 have hb : Below W.heap.size W (W.alloc (.cells #[.int .i64 k, .int .i64 m, .int .i64 lo, .int .i64 hi, .slice ar r.length cr, .slice ak kids.length ck] 44)) := (Below.refl _ W).alloc (Nat.le_refl _) _
 have HL := Lib.hid (laid_calls 2001 (by decide) k m lo hi r kids ar ak cr ck _ ((hT.keep hb).mono (fun b h => Nat.lt_of_lt_of_le h hb.size)) hn)
 have HB := Lib.hid hb
 clear hT hn hb
 go_enter Try.func61, Try.ntmps61
 go_wp2_with fail
 refine HL.out.mono ?_
 rintro e w2 h
 obtain ⟨g, c, L, rfl, h1, h2, h3, h4, h5⟩ := laid_open (by decide) h
 have HH := Lib.hid (And.intro h4 h5)
 clear h h1 h2 h3 h4 h5
 go_wp2_with fail
 go_ret
 exact ⟨congrArg (fun x => Ending.returned (Value.int .i64 x)) (by unfold countT; have := HH.out.1; omega), HB.out.trans (HH.out.2.mono HB.out.size)⟩
end
end Go.Proofs.Ytamhkdlcoghdbaa.PCls
