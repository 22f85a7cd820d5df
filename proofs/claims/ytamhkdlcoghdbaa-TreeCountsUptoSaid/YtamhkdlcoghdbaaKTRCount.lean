/- Out of TRCount (wip/tools/prune2.py): the declarations alone that the texts of the trees name. -/
import Derived.Test.YtamhkdlcoghdbaaKTLay
namespace Go.Proofs.Ytamhkdlcoghdbaa.PCls
open Go.RowKit Go.Proofs.YtamhkdlcoghdbaaW.PrintWords Go.Proofs.YtamhkdlcoghdbaaW.PrintLast Go.Proofs.YtamhkdlcoghdbaaW.PrintMore
set_option linter.unusedVariables false
set_option linter.unusedSimpArgs false
theorem Plc.cell {W : World} {base n0 g c : Nat} {L : List Pl} (h : Plc W base n0 (.slice (some ⟨g, 0, none⟩) L.length c) L) {j : Nat} {p : Pl} (hj : L[j]? = some p) {i : Nat} {u : Value} (hu : p.cells[i]? = some u) : W.cell? ⟨g, j * 12 + i, none⟩ = some u := by
 have h12 := h.len p (List.mem_of_getElem? hj)
 have hi : i < 12 := by have := (List.getElem?_eq_some_iff.1 hu).1; omega
 have hl := (List.getElem?_eq_some_iff.1 hj).1
 rw [h.own.cellAt _ (by omega), rowP_at (fun q hq => h.len q hq) hj hi]
 exact hu
/-- Laid's list: the slice, the steps -/
theorem laid_open {W w2 : World} {most : Nat} {t : NT} {e : Ending} (hm : 0 < most) (h : LaidPost W most t e w2) : ∃ (g c : Nat) (L : List Pl), e = .returned (.slice (some ⟨g, 0, none⟩) L.length c) ∧ Plc w2 W.heap.size W.heap.size (.slice (some ⟨g, 0, none⟩) L.length c) L ∧ L.map Pl.two = layS most (Step.top t) 0 ∧ L.map Pl.s = (enters (Step.top t).evs).take most ∧ L.length = min most t.nodes ∧ Below W.heap.size W w2 := by
 obtain ⟨v, L, rfl, h1, h2, h3⟩ := h
 have hl : L.length = min most t.nodes := by
  have := congrArg List.length h2
  rw [List.length_map, layS_length] at this
  simpa [Step.top] using this
 have ht := t.nodes_pos
 obtain ⟨q, hq⟩ : ∃ q, L.length = q + 1 := ⟨L.length - 1, by omega⟩
 have hown := h1.own
 rw [hq] at hown
 obtain ⟨g, c, rfl⟩ := ownsRow_succ hown
 refine ⟨g, c, L, by rw [hq], by rw [hq]; exact h1, h2, ?_, hl, h3⟩
 have := layS_fst most (Step.top t) 0
 rw [← h2, List.map_map] at this
 exact this
def RetInt (n : Int) (W : World) (e : Ending) (w' : World) : Prop := e = .returned (.int .i64 n) ∧ Below W.heap.size W w'
section
variable (k m lo hi : Int) (r : List S64) (kids : List NT) (ar ak : Option Addr) (cr ck : Nat) (W : World) (hT : NIn W (· < W.heap.size) (.mk k m lo hi r kids) [.int .i64 k, .int .i64 m, .int .i64 lo, .int .i64 hi, .slice ar r.length cr, .slice ak kids.length ck]) (hn : (NT.mk k m lo hi r kids).nodes < 274877906944)
include hT hn
set_option maxHeartbeats 4000000 in
theorem refcountT_calls : Calls Try.prog 61 #[.agg #[.int .i64 k, .int .i64 m, .int .i64 lo, .int .i64 hi, .slice ar r.length cr, .slice ak kids.length ck]] W (RetInt (countT (.mk k m lo hi r kids)) W) := by
 have hb : Below W.heap.size W (W.alloc (.cells #[.int .i64 k, .int .i64 m, .int .i64 lo, .int .i64 hi, .slice ar r.length cr, .slice ak kids.length ck] 44)) := (Below.refl _ W).alloc (Nat.le_refl _) _
 have HL := Lib.hid (laid_calls 2001 (by decide) k m lo hi r kids ar ak cr ck _ ((hT.keep hb).mono (fun b h => Nat.lt_of_lt_of_le h hb.size)) hn)
 have HB := Lib.hid hb
 clear hT hn hb
 go_enter Try.func61, Try.ntmps61
 go_wp2_with fail
 refine HL.out.mono ?_
 rintro e w2 h
 obtain ⟨g, c, L, rfl, h1, h2, h3, h4, h5⟩ := laid_open (by decide) h
 have HH := Lib.hid (And.intro h4 h5)
 clear h h1 h2 h3 h4 h5
 go_wp2_with fail
 go_ret
 exact ⟨congrArg (fun x => Ending.returned (Value.int .i64 x)) (by unfold countT; have := HH.out.1; omega), HB.out.trans (HH.out.2.mono HB.out.size)⟩
set_option maxHeartbeats 4000000 in
theorem refdepth_calls : Calls Try.prog 62 #[.agg #[.int .i64 k, .int .i64 m, .int .i64 lo, .int .i64 hi, .slice ar r.length cr, .slice ak kids.length ck]] W (RetInt (depthT (.mk k m lo hi r kids)) W) := by
 have hb : Below W.heap.size W (W.alloc (.cells #[.int .i64 k, .int .i64 m, .int .i64 lo, .int .i64 hi, .slice ar r.length cr, .slice ak kids.length ck] 44)) := (Below.refl _ W).alloc (Nat.le_refl _) _
 have HL := Lib.hid (laid_calls 2001 (by decide) k m lo hi r kids ar ak cr ck _ ((hT.keep hb).mono (fun b h => Nat.lt_of_lt_of_le h hb.size)) hn)
 have HB := Lib.hid hb
 clear hT hn hb
 go_enter Try.func62, Try.ntmps62
 go_wp2_with fail
 refine HL.out.mono ?_
 rintro e w2 h
 obtain ⟨g, c, L, rfl, h1, h2, h3, h4, h5⟩ := laid_open (by decide) h
 have hlm : L.length ≤ 2001 := by omega
 have HH := Lib.hid (And.intro h3 (And.intro h4 h5))
 have HP := Lib.hid h1
 clear h h1 h2 h3 h4 h5
 go_wp2_with fail
 by_cases hc : L.length ≤ 2000
 ·have hci : (L.length : Int) ≤ 2000 := by omega
  go_loopg [4, 5] L.length (fun gg s4 s5 wr => ∃ j : Nat, s4 = .int .i64 (deepOf ((L.map Pl.s).take j)) ∧ s5 = .int .i64 j ∧ j ≤ L.length ∧ L.length - j ≤ gg ∧ Aside0 (wr = w2))
  case atStart => exact ⟨0, rfl, rfl, by omega, by omega, ⟨rfl⟩⟩
  case round =>
   obtain ⟨j, rfl, rfl, hj, hgg, HQ⟩ := hrel
   obtain rfl := HQ.out
   by_cases hlt : j < L.length
   ·have hlt' : (j : Int) < (L.length : Int) := by omega
    obtain ⟨p, hp⟩ : ∃ p, L[j]? = some p := ⟨_, List.getElem?_eq_getElem hlt⟩
    have c6 := HP.out.cell hp (i := 6) (u := .int .i64 p.s.deep) (by
     have := (HP.out.nin p (List.mem_of_getElem? hp)).len
     simp [Pl.cells, tailC, List.getElem?_append_right, this])
    have HD := Lib.hid (show deepOf ((L.map Pl.s).take (j + 1)) = max (deepOf ((L.map Pl.s).take j)) p.s.deep by
     rw [List.take_add_one, List.getElem?_map, hp]
     exact deepOf_snoc _ _)
    clear hp
    go_wp2_with fail
    go_roundg (L.length - (j + 1))
    case measure => omega
    case rel => exact ⟨j + 1, by rw [HD.out], congrArg (Value.int .i64) (by first | (push_cast; rfl) | (rw [w64_lit _ (by omega) (by omega)]; push_cast; rfl)), by omega, Nat.le_refl _, ⟨rfl⟩⟩
   ·obtain rfl : j = L.length := by omega
    have hlt' : ¬ (L.length : Int) < (L.length : Int) := by omega
    go_wp2_with fail
    go_ret
    refine ⟨congrArg (fun x => Ending.returned (Value.int .i64 x)) ?_, HB.out.trans (HH.out.2.2.mono HB.out.size)⟩
    have h4 := HH.out.2.1
    have h3 := HH.out.1
    rw [List.take_of_length_le (by rw [List.length_map]; omega), h3]
    unfold depthT
    rw [if_neg (by omega), List.take_of_length_le]
    rw [show (enters (Step.top (NT.mk k m lo hi r kids)).evs).length = (NT.mk k m lo hi r kids).nodes from enters_length (NT.mk k m lo hi r kids) 1 0 true true true]
    omega
 ·have hci : ¬ (L.length : Int) ≤ 2000 := by omega
  go_loopg [4, 5] 0 (fun gg s4 s5 wr => s4 = .int .i64 0 ∧ s5 = .int .i64 0 ∧ Aside0 (wr = w2))
  case atStart => exact ⟨rfl, rfl, ⟨rfl⟩⟩
  case round =>
   obtain ⟨rfl, rfl, HQ⟩ := hrel
   obtain rfl := HQ.out
   have hl0 : (0 : Int) < (L.length : Int) := by omega
   go_wp2_with fail
   go_ret
   refine ⟨congrArg (fun x => Ending.returned (Value.int .i64 x)) ?_, HB.out.trans (HH.out.2.2.mono HB.out.size)⟩
   have h4 := HH.out.2.1
   unfold depthT
   rw [if_pos (by omega)]
set_option maxHeartbeats 4000000 in
theorem refgroups_calls : Calls Try.prog 63 #[.agg #[.int .i64 k, .int .i64 m, .int .i64 lo, .int .i64 hi, .slice ar r.length cr, .slice ak kids.length ck]] W (RetInt (groupsT (.mk k m lo hi r kids)) W) := by
 have hb : Below W.heap.size W (W.alloc (.cells #[.int .i64 k, .int .i64 m, .int .i64 lo, .int .i64 hi, .slice ar r.length cr, .slice ak kids.length ck] 44)) := (Below.refl _ W).alloc (Nat.le_refl _) _
 have HL := Lib.hid (laid_calls 2001 (by decide) k m lo hi r kids ar ak cr ck _ ((hT.keep hb).mono (fun b h => Nat.lt_of_lt_of_le h hb.size)) hn)
 have HB := Lib.hid hb
 clear hT hn hb
 go_enter Try.func63, Try.ntmps63
 go_wp2_with fail
 refine HL.out.mono ?_
 rintro e w2 h
 obtain ⟨g, c, L, rfl, h1, h2, h3, h4, h5⟩ := laid_open (by decide) h
 have hlm : L.length ≤ 2001 := by omega
 have HH := Lib.hid (And.intro h3 (And.intro h4 h5))
 have HP := Lib.hid h1
 clear h h1 h2 h3 h4 h5
 go_wp2_with fail
 by_cases hc : L.length ≤ 2000
 ·have hci : (L.length : Int) ≤ 2000 := by omega
  go_loopg [4, 5] L.length (fun gg s4 s5 wr => ∃ j : Nat, s4 = .int .i64 (groupsIn ((L.map Pl.s).take j) : Int) ∧ s5 = .int .i64 j ∧ j ≤ L.length ∧ L.length - j ≤ gg ∧ Aside0 (wr = w2))
  case atStart => exact ⟨0, rfl, rfl, by omega, by omega, ⟨rfl⟩⟩
  case round =>
   obtain ⟨j, rfl, rfl, hj, hgg, HQ⟩ := hrel
   obtain rfl := HQ.out
   by_cases hlt : j < L.length
   ·have hlt' : (j : Int) < (L.length : Int) := by omega
    obtain ⟨p, hp⟩ : ∃ p, L[j]? = some p := ⟨_, List.getElem?_eq_getElem hlt⟩
    have hN := HP.out.nin p (List.mem_of_getElem? hp)
    obtain ⟨⟨⟨pk, pm, plo, phi, pr, pkids⟩, pd, pa, pf, pl, pb⟩, pen, pcs⟩ := p
    obtain ⟨par, pak, pcr, pck, rfl⟩ := NIn.shape hN
    have c0 := HP.out.cell hp (i := 0) rfl
    rw [Nat.add_zero] at c0
    have hgl : groupsIn ((L.map Pl.s).take j) ≤ j := Nat.le_trans (groupsIn_le _) (List.length_take_le _ _)
    have HD := Lib.hid (show groupsIn ((L.map Pl.s).take (j + 1)) = groupsIn ((L.map Pl.s).take j) + (if pk = 7 then 1 else 0) by
     rw [List.take_add_one, List.getElem?_map, hp]
     exact groupsIn_snoc _ _)
    clear hp hN
    generalize groupsIn ((L.map Pl.s).take j) = G at hgl HD ⊢
    by_cases h7 : pk = 7
    ·subst h7
     go_wp2_with fail
     go_roundg (L.length - (j + 1))
     case measure => omega
     case rel => exact ⟨j + 1, by rw [HD.out]; exact congrArg (Value.int .i64) (by first | (push_cast; rfl) | (rw [w64_lit _ (by omega) (by omega)]; simp)), congrArg (Value.int .i64) (by first | (push_cast; rfl) | (rw [w64_lit _ (by omega) (by omega)]; push_cast; rfl)), by omega, Nat.le_refl _, ⟨rfl⟩⟩
    ·have b7 : (pk == 7) = false := beq_eq_false_iff_ne.2 h7
     have H7 := Lib.hid h7
     clear h7
     go_wp2_with fail
     go_roundg (L.length - (j + 1))
     case measure => omega
     case rel => exact ⟨j + 1, by rw [HD.out, if_neg H7.out]; rfl, congrArg (Value.int .i64) (by first | (push_cast; rfl) | (rw [w64_lit _ (by omega) (by omega)]; push_cast; rfl)), by omega, Nat.le_refl _, ⟨rfl⟩⟩
   ·obtain rfl : j = L.length := by omega
    have hlt' : ¬ (L.length : Int) < (L.length : Int) := by omega
    go_wp2_with fail
    go_ret
    refine ⟨congrArg (fun x => Ending.returned (Value.int .i64 x)) ?_, HB.out.trans (HH.out.2.2.mono HB.out.size)⟩
    have h4 := HH.out.2.1
    have h3 := HH.out.1
    rw [List.take_of_length_le (by rw [List.length_map]; omega), h3]
    unfold groupsT
    rw [if_neg (by omega), List.take_of_length_le]
    rw [show (enters (Step.top (NT.mk k m lo hi r kids)).evs).length = (NT.mk k m lo hi r kids).nodes from enters_length (NT.mk k m lo hi r kids) 1 0 true true true]
    omega
 ·have hci : ¬ (L.length : Int) ≤ 2000 := by omega
  go_loopg [4, 5] 0 (fun gg s4 s5 wr => s4 = .int .i64 0 ∧ s5 = .int .i64 0 ∧ Aside0 (wr = w2))
  case atStart => exact ⟨rfl, rfl, ⟨rfl⟩⟩
  case round =>
   obtain ⟨rfl, rfl, HQ⟩ := hrel
   obtain rfl := HQ.out
   have hl0 : (0 : Int) < (L.length : Int) := by omega
   go_wp2_with fail
   go_ret
   refine ⟨congrArg (fun x => Ending.returned (Value.int .i64 x)) ?_, HB.out.trans (HH.out.2.2.mono HB.out.size)⟩
   have h4 := HH.out.2.1
   unfold groupsT
   rw [if_pos (by omega)]
end
end Go.Proofs.Ytamhkdlcoghdbaa.PCls
