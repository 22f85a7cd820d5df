/- Out of TRSame (wip/tools/prune2.py): the declarations alone that the texts of the trees name. -/
import Derived.Test.YtamhkdlcoghdbaaKTStill
namespace Go.Proofs.Ytamhkdlcoghdbaa.PCls
open Go.RowKit Go.Proofs.YtamhkdlcoghdbaaW.PrintWords Go.Proofs.YtamhkdlcoghdbaaW.PrintLast Go.Proofs.YtamhkdlcoghdbaaW.PrintMore
set_option linter.unusedVariables false
set_option linter.unusedSimpArgs false
mutual
def NT.pre : NT → List NT
 | .mk k m lo hi r kids => .mk k m lo hi r kids :: NT.preL kids
def NT.preL : List NT → List NT
 | [] => []
 | t :: ts => NT.pre t ++ NT.preL ts
end
def node1 : NT → NT → Bool
 | .mk k m lo hi r kids, .mk k' m' lo' hi' r' kids' => decide (k = k') && (decide (m = m') && (decide (lo = lo') && (decide (hi = hi') && (decide (r = r') && decide (kids.length = kids'.length)))))
def allP : List NT → List NT → Bool
 | [], [] => true
 | a :: l, b :: m => node1 a b && allP l m
 | _, _ => false
theorem pre_ns (t : NT) : ∀ (d a : Int) (f l b : Bool), (enters (evs t d a f l b)).map Step.n = NT.pre t := by
 have hL : ∀ ts : List NT, (∀ t, t ∈ ts → ∀ (d a : Int) (f l b : Bool), (enters (evs t d a f l b)).map Step.n = NT.pre t) → ∀ (d a : Int) (c i : Nat) (b : Bool), (enters (evsL ts d a c i b)).map Step.n = NT.preL ts := by
  intro ts
  induction ts with
  | nil => intro _ d a c i b; rfl
  | cons x ts ih =>
   intro h d a c i b
   simp only [evsL, enters_append, List.map_append, NT.preL]
   rw [h x List.mem_cons_self, ih (fun t ht => h t (List.mem_cons_of_mem _ ht))]
 refine NT.ind (P := fun t => ∀ (d a : Int) (f l b : Bool), (enters (evs t d a f l b)).map Step.n = NT.pre t) (fun k m lo hi r kids ih d a f l b => ?_) t
 simp only [evs, enters, enters_append, List.append_nil, List.map_cons, NT.pre]
 rw [hL kids ih]
theorem allP_same (t : NT) : ∀ (u : NT) (X Y : List NT), allP (NT.pre t ++ X) (NT.pre u ++ Y) = (NT.same t u && allP X Y) := by
 have hL : ∀ ts : List NT, (∀ t, t ∈ ts → ∀ (u : NT) (X Y : List NT), allP (NT.pre t ++ X) (NT.pre u ++ Y) = (NT.same t u && allP X Y)) → ∀ (us : List NT) (X Y : List NT), ts.length = us.length → allP (NT.preL ts ++ X) (NT.preL us ++ Y) = (NT.sameL ts us && allP X Y) := by
  intro ts
  induction ts with
  | nil =>
   intro _ us X Y h
   cases us with
   | nil => simp [NT.preL, NT.sameL]
   | cons _ _ => simp at h
  | cons x ts ih =>
   intro h us X Y hl
   cases us with
   | nil => simp at hl
   | cons u us =>
    simp only [NT.preL, NT.sameL, List.append_assoc]
    rw [h x List.mem_cons_self, ih (fun t ht => h t (List.mem_cons_of_mem _ ht)) us X Y (by simpa using hl), Bool.and_assoc]
 refine NT.ind (P := fun t => ∀ (u : NT) (X Y : List NT), allP (NT.pre t ++ X) (NT.pre u ++ Y) = (NT.same t u && allP X Y)) (fun k m lo hi r kids ih u X Y => ?_) t
 obtain ⟨k', m', lo', hi', r', kids'⟩ := u
 simp only [NT.pre, List.cons_append, allP, node1, NT.same]
 by_cases hl : kids.length = kids'.length
 ·rw [hL kids ih kids' X Y hl, decide_eq_true hl, Bool.and_true]
  simp only [Bool.and_assoc]
 ·have h0 : NT.sameL kids kids' = false := by
   cases h : NT.sameL kids kids'
   ·rfl
   ·exact absurd (sameL_length _ _ h) hl
  rw [h0, decide_eq_false hl]
  simp only [Bool.and_false, Bool.false_and]
/-- what the two lists tell -/
theorem refsame_eq {a b : NT} {L L' : List Pl} (h : L.map Pl.s = (enters (Step.top a).evs).take 2001) (h' : L'.map Pl.s = (enters (Step.top b).evs).take 2001) (hl : L.length = min 2001 a.nodes) (hl' : L'.length = min 2001 b.nodes) :
  sameT a b = (decide (L.length = L'.length) && (decide (L.length ≤ 2000) && allP (L.map fun p => p.s.n) (L'.map fun p => p.s.n))) := by
 have ea : (enters (Step.top a).evs).length = a.nodes := enters_length a 1 0 true true true
 have eb : (enters (Step.top b).evs).length = b.nodes := enters_length b 1 0 true true true
 have na : ∀ (q : NT), (enters (Step.top q).evs).map Step.n = NT.pre q := fun q => pre_ns q _ _ _ _ _
 unfold sameT
 by_cases h1 : a.nodes ≤ 2000
 ·by_cases h2 : b.nodes ≤ 2000
  ·rw [List.take_of_length_le (by omega)] at h h'
   have e1 : (L.map fun p => p.s.n) = NT.pre a ++ [] := by rw [List.append_nil, ← na a, ← h, List.map_map]; rfl
   have e2 : (L'.map fun p => p.s.n) = NT.pre b ++ [] := by rw [List.append_nil, ← na b, ← h', List.map_map]; rfl
   rw [e1, e2, allP_same, decide_eq_true h1, decide_eq_true h2, decide_eq_true (show L.length ≤ 2000 by omega)]
   simp only [Bool.true_and, allP, Bool.and_true]
   by_cases hs : NT.same a b = true
   ·have := (NT.same_iff a b).1 hs
    subst this
    rw [hs, decide_eq_true (show L.length = L'.length by omega)]; rfl
   ·rw [Bool.not_eq_true] at hs
    rw [hs, Bool.and_false]
  ·rw [decide_eq_false h2, decide_eq_false (show ¬ L.length = L'.length by omega)]
   simp
 ·rw [decide_eq_false h1]
  by_cases h2 : L.length = L'.length
  ·rw [decide_eq_false (show ¬ L.length ≤ 2000 by omega)]; simp
  ·rw [decide_eq_false h2]; simp
set_option maxHeartbeats 16000000 in
set_option maxRecDepth 100000 in
theorem refsame_c (k m lo hi : Int) (r : List S64) (kids : List NT) (ar ak : Option Addr) (cr ck : Nat) (k' m' lo' hi' : Int) (r' : List S64) (kids' : List NT) (ar' ak' : Option Addr) (cr' ck' : Nat) (W : World) (hT : NIn W (· < W.heap.size) (.mk k m lo hi r kids) [.int .i64 k, .int .i64 m, .int .i64 lo, .int .i64 hi, .slice ar r.length cr, .slice ak kids.length ck]) (hT' : NIn W (· < W.heap.size) (.mk k' m' lo' hi' r' kids') [.int .i64 k', .int .i64 m', .int .i64 lo', .int .i64 hi', .slice ar' r'.length cr', .slice ak' kids'.length ck']) (hn : (NT.mk k m lo hi r kids).nodes < 274877906944) (hn' : (NT.mk k' m' lo' hi' r' kids').nodes < 274877906944) :
  Calls Try.prog 64 #[.agg #[.int .i64 k, .int .i64 m, .int .i64 lo, .int .i64 hi, .slice ar r.length cr, .slice ak kids.length ck], .agg #[.int .i64 k', .int .i64 m', .int .i64 lo', .int .i64 hi', .slice ar' r'.length cr', .slice ak' kids'.length ck']] W fun e w' => e = .returned (.bool (sameT (.mk k m lo hi r kids) (.mk k' m' lo' hi' r' kids'))) ∧ Below W.heap.size W w' := by
 obtain ⟨W2, hW2⟩ : ∃ W2, W2 = (W.alloc (.cells #[.int .i64 k, .int .i64 m, .int .i64 lo, .int .i64 hi, .slice ar r.length cr, .slice ak kids.length ck] 44)).alloc (.cells #[.int .i64 k', .int .i64 m', .int .i64 lo', .int .i64 hi', .slice ar' r'.length cr', .slice ak' kids'.length ck'] 44) := ⟨_, rfl⟩
 have hst : TwoSt W W2 #[.int .i64 k, .int .i64 m, .int .i64 lo, .int .i64 hi, .slice ar r.length cr, .slice ak kids.length ck] #[.int .i64 k', .int .i64 m', .int .i64 lo', .int .i64 hi', .slice ar' r'.length cr', .slice ak' kids'.length ck'] := by rw [hW2]; exact TwoSt.start W _ _
 have HL := Lib.hid (laid_calls 2001 (by decide) k m lo hi r kids ar ak cr ck W2 ((hT.keep hst.bel).mono (fun b h => Nat.lt_of_lt_of_le h hst.bel.size)) hn)
 obtain ⟨RT, hRT⟩ : ∃ RT, RT = sameT (.mk k m lo hi r kids) (.mk k' m' lo' hi' r' kids') := ⟨_, rfl⟩
 have HRT := Lib.hid hRT
 rw [← hRT]
 have HST := Lib.hid hst
 have HW2 := Lib.hid hW2
 have HNN := Lib.hid (And.intro hn hn')
 have HTB := Lib.hid hT'

 have c0 := cell_heap (i := 0) HST.out.x rfl
 have c1 := cell_heap (i := 1) HST.out.x rfl
 have c2 := cell_heap (i := 2) HST.out.x rfl
 have c3 := cell_heap (i := 3) HST.out.x rfl
 have c4 := cell_heap (i := 4) HST.out.x rfl
 have c5 := cell_heap (i := 5) HST.out.x rfl
 clear hT hT' hn hn' hst hW2 hRT
 go_enter Try.func64, Try.ntmps64
 go_wp2_with fail
 rw [← HW2.out]
 refine HL.out.mono ?_
 rintro e w2 h
 obtain ⟨g, c, L, rfl, h1, h2, h3, h4, h5⟩ := laid_open (by decide) h
 have HS2 := Lib.hid (HST.out.below h5)
 have HP := Lib.hid h1
 have HB2 := Lib.hid h5
 have HLS := Lib.hid (And.intro h3 h4)
 have HL2 := Lib.hid (laid_calls 2001 (by decide) k' m' lo' hi' r' kids' ar' ak' cr' ck' w2 ((HTB.out.keep HS2.out.bel).mono (fun b h => Nat.lt_of_lt_of_le h HS2.out.bel.size)) HNN.out.2)
 have hlm : L.length ≤ 2001 := by omega
 clear h h1 h2 h3 h4 h5 c0 c1 c2 c3 c4 c5 HST HW2 HL
 have c0 := cell_heap (i := 0) HS2.out.n rfl
 have c1 := cell_heap (i := 1) HS2.out.n rfl
 have c2 := cell_heap (i := 2) HS2.out.n rfl
 have c3 := cell_heap (i := 3) HS2.out.n rfl
 have c4 := cell_heap (i := 4) HS2.out.n rfl
 have c5 := cell_heap (i := 5) HS2.out.n rfl
 go_wp2_with fail
 refine HL2.out.mono ?_
 rintro e w3 h
 obtain ⟨g', c', L', rfl, h1, h2, h3, h4, h5⟩ := laid_open (by decide) h
 have HS3 := Lib.hid (HS2.out.below h5)
 have HP' := Lib.hid h1
 have HB3 := Lib.hid h5
 have hlm' : L'.length ≤ 2001 := by omega
 have HEQ := Lib.hid (refsame_eq HLS.out.1 h3 HLS.out.2 h4)
 rw [← HRT.out] at HEQ
 clear h h1 h2 h3 h4 h5 c0 c1 c2 c3 c4 c5 HL2 HLS
 by_cases hl : L.length = L'.length
 rotate_left
 ·have hl1 : ((L.length : Int) != (L'.length : Int)) = true := by rw [bne_iff_ne]; omega
  have HX := Lib.hid (show RT = false by rw [HEQ.out, decide_eq_false hl]; rfl)
  clear hl
  go_wp2_with fail
  go_ret
  exact ⟨congrArg (fun x => Ending.returned (Value.bool x)) HX.out.symm, HS3.out.bel⟩
 have hl1 : ((L.length : Int) != (L'.length : Int)) = false := by rw [bne_eq_false_iff_eq]; omega
 by_cases h2 : L.length ≤ 2000
 rotate_left
 ·have h21 : (2000 : Int) < (L.length : Int) := by omega
  have HX := Lib.hid (show RT = false by rw [HEQ.out, decide_eq_false h2]; simp)
  clear hl h2
  go_wp2_with fail
  go_ret
  exact ⟨congrArg (fun x => Ending.returned (Value.bool x)) HX.out.symm, HS3.out.bel⟩
 have h21 : ¬ (2000 : Int) < (L.length : Int) := by omega
 have HRA := Lib.hid (show RT = allP (L.map fun p => p.s.n) (L'.map fun p => p.s.n) by rw [HEQ.out, decide_eq_true hl, decide_eq_true h2]; rfl)
 have HLL := Lib.hid hl
 clear hl h2
 go_wp2_with fail
 clear hl1 h21
 go_loopg [7] L.length (fun gg s7 wr => ∃ (j : Nat), s7 = .int .i64 j ∧ j ≤ L.length ∧ L.length - j ≤ gg ∧ Aside0 (Below w3.heap.size w3 wr ∧ RT = allP ((L.drop j).map fun p => p.s.n) ((L'.drop j).map fun p => p.s.n)))
 case atStart => exact ⟨0, rfl, by omega, by omega, ⟨Below.refl _ _, HRA.out⟩⟩
 case round =>
  obtain ⟨j, rfl, hj, hgg, HQ⟩ := hrel
  by_cases hlt : j < L.length
  ·have hlt' : (j : Int) < (L.length : Int) := by omega
   have hlt2 : (j : Int) < (L'.length : Int) := by have := HLL.out; omega
   obtain ⟨p, hp⟩ : ∃ p, L[j]? = some p := ⟨_, List.getElem?_eq_getElem hlt⟩
   obtain ⟨q, hq⟩ : ∃ q, L'[j]? = some q := ⟨_, List.getElem?_eq_getElem (by have := HLL.out; omega)⟩
   have hNp := HP.out.nin p (List.mem_of_getElem? hp)
   have hNq := HP'.out.nin q (List.mem_of_getElem? hq)
   have hPr := HP.out.below HB2.out.size (HB3.out.trans (HQ.out.1.mono HB3.out.size))
   have hPr' := HP'.out.below HB3.out.size HQ.out.1
   have hdrop : allP ((L.drop j).map fun p => p.s.n) ((L'.drop j).map fun p => p.s.n) = (node1 p.s.n q.s.n && allP ((L.drop (j + 1)).map fun p => p.s.n) ((L'.drop (j + 1)).map fun p => p.s.n)) := by
    obtain ⟨hh, e⟩ := List.getElem?_eq_some_iff.1 hp
    obtain ⟨hh', e'⟩ := List.getElem?_eq_some_iff.1 hq
    rw [List.drop_eq_getElem_cons hh, e, List.drop_eq_getElem_cons hh', e']; rfl
   have hR := HQ.out.2
   rw [hdrop] at hR
   obtain ⟨⟨⟨pk, pm, plo, phi, pr, pkids⟩, pd, pa, pf, pl, pb⟩, pen, pcs⟩ := p
   obtain ⟨⟨⟨qk, qm, qlo, qhi, qr, qkids⟩, qd, qa, qf, ql, qb⟩, qen, qcs⟩ := q
   obtain ⟨par, pak, pcr, pck, rfl⟩ := NIn.shape hNp
   obtain ⟨qar, qak, qcr, qck, rfl⟩ := NIn.shape hNq
   have HR := Lib.hid hR
   have c0 : wr.cell? ⟨g, j * 12, none⟩ = some (.int .i64 pk) := hPr.cell hp (i := 0) rfl
   have c1 : wr.cell? ⟨g, j * 12 + 1, none⟩ = some (.int .i64 pm) := hPr.cell hp (i := 1) rfl
   have c2 : wr.cell? ⟨g, j * 12 + 2, none⟩ = some (.int .i64 plo) := hPr.cell hp (i := 2) rfl
   have c3 : wr.cell? ⟨g, j * 12 + 3, none⟩ = some (.int .i64 phi) := hPr.cell hp (i := 3) rfl
   have c4 : wr.cell? ⟨g, j * 12 + 4, none⟩ = some (.slice par pr.length pcr) := hPr.cell hp (i := 4) rfl
   have c5 : wr.cell? ⟨g, j * 12 + 5, none⟩ = some (.slice pak pkids.length pck) := hPr.cell hp (i := 5) rfl
   have hba : Below wr.heap.size wr (wr.alloc (.cells #[.int .i64 pk, .int .i64 pm, .int .i64 plo, .int .i64 phi, .slice par pr.length pcr, .slice pak pkids.length pck] 44)) := (Below.refl _ wr).alloc (Nat.le_refl _) _
   have hPa := hPr'.below (Nat.le_trans HB3.out.size HQ.out.1.size) hba
   have d0 : (wr.alloc (.cells #[.int .i64 pk, .int .i64 pm, .int .i64 plo, .int .i64 phi, .slice par pr.length pcr, .slice pak pkids.length pck] 44)).cell? ⟨g', j * 12, none⟩ = some (.int .i64 qk) := hPa.cell hq (i := 0) rfl
   have d1 : (wr.alloc (.cells #[.int .i64 pk, .int .i64 pm, .int .i64 plo, .int .i64 phi, .slice par pr.length pcr, .slice pak pkids.length pck] 44)).cell? ⟨g', j * 12 + 1, none⟩ = some (.int .i64 qm) := hPa.cell hq (i := 1) rfl
   have d2 : (wr.alloc (.cells #[.int .i64 pk, .int .i64 pm, .int .i64 plo, .int .i64 phi, .slice par pr.length pcr, .slice pak pkids.length pck] 44)).cell? ⟨g', j * 12 + 2, none⟩ = some (.int .i64 qlo) := hPa.cell hq (i := 2) rfl
   have d3 : (wr.alloc (.cells #[.int .i64 pk, .int .i64 pm, .int .i64 plo, .int .i64 phi, .slice par pr.length pcr, .slice pak pkids.length pck] 44)).cell? ⟨g', j * 12 + 3, none⟩ = some (.int .i64 qhi) := hPa.cell hq (i := 3) rfl
   have d4 : (wr.alloc (.cells #[.int .i64 pk, .int .i64 pm, .int .i64 plo, .int .i64 phi, .slice par pr.length pcr, .slice pak pkids.length pck] 44)).cell? ⟨g', j * 12 + 4, none⟩ = some (.slice qar qr.length qcr) := hPa.cell hq (i := 4) rfl
   have d5 : (wr.alloc (.cells #[.int .i64 pk, .int .i64 pm, .int .i64 plo, .int .i64 phi, .slice par pr.length pcr, .slice pak pkids.length pck] 44)).cell? ⟨g', j * 12 + 5, none⟩ = some (.slice qak qkids.length qck) := hPa.cell hq (i := 5) rfl
   obtain ⟨X, hX⟩ : ∃ X, X = (wr.alloc (.cells #[.int .i64 pk, .int .i64 pm, .int .i64 plo, .int .i64 phi, .slice par pr.length pcr, .slice pak pkids.length pck] 44)).alloc (.cells #[.int .i64 qk, .int .i64 qm, .int .i64 qlo, .int .i64 qhi, .slice qar qr.length qcr, .slice qak qkids.length qck] 44) := ⟨_, rfl⟩
   have hx : TwoSt wr X #[.int .i64 pk, .int .i64 pm, .int .i64 plo, .int .i64 phi, .slice par pr.length pcr, .slice pak pkids.length pck] #[.int .i64 qk, .int .i64 qm, .int .i64 qlo, .int .i64 qhi, .slice qar qr.length qcr, .slice qak qkids.length qck] := by rw [hX]; exact TwoSt.start wr _ _
   obtain ⟨RE, hRE⟩ : ∃ RE, RE = decide (pr = qr) := ⟨_, rfl⟩
   have hal : Calls Try.prog 29 #[.slice par pr.length pcr, .slice qar qr.length qcr] X fun e w' => e = .returned (.bool RE) ∧ Drawn0 X w' := by
    have hNp' := (hNp.move (w' := X) (fun b hb => (hx.bel.block b (by have h1 := HB2.out.size; have h2 := HB3.out.size; have h3 := HQ.out.1.size; omega)).trans ((HQ.out.1.block b (by have h1 := HB2.out.size; have h2 := HB3.out.size; omega)).trans (HB3.out.block b (by have h1 := HB2.out.size; omega)))))
    have hNq' := (hNq.move (w' := X) (fun b hb => (hx.bel.block b (by have h1 := HB3.out.size; have h2 := HQ.out.1.size; omega)).trans (HQ.out.1.block b (by have h1 := HB3.out.size; omega))))
    cases hNp' with
    | mk _ _ _ _ _ _ _ _ _ _ cq q1 q2 q3 q4 q5 q6 q7 q8 q9 =>
     cases hNq' with
     | mk _ _ _ _ _ _ _ _ _ _ cq' z1 z2 z3 z4 z5 z6 z7 z8 z9 =>
      obtain ⟨k3, f3⟩ := (alike_ends pr qr (by omega)).get
      rw [← hRE] at f3
      exact dredgeref06_Alike.calls k3 _ _ pr qar qcr qr RE X q1 q3 z1 z3 f3
   have HAL := Lib.hid hal
   have HX := Lib.hid hX
   have HXS := Lib.hid hx
   have HRE := Lib.hid hRE
   clear hX hx hal hRE hR hdrop hPr hPr' hPa hba hNp hNq hp hq
   go_wp2_with fail
   rw [← HX.out]
   refine HAL.out.mono ?_
   rintro e w5 ⟨rfl, hD⟩
   have hb5 := below_drawn5 (Below.refl X.heap.size X) hD
   have HX5 := Lib.hid (HXS.out.below hb5)
   have HB5 := Lib.hid (HQ.out.1.trans (HX5.out.bel.mono HQ.out.1.size))
   have HBR := Lib.hid (HS3.out.bel.trans (HB5.out.mono HS3.out.bel.size))
   clear hD hb5 c0 c1 c2 c3 c4 c5 d0 d1 d2 d3 d4 d5 HAL HX HXS
   have x0 := cell_heap (i := 0) HX5.out.x rfl
   have y0 := cell_heap (i := 0) HX5.out.n rfl
   have x1 := cell_heap (i := 1) HX5.out.x rfl
   have y1 := cell_heap (i := 1) HX5.out.n rfl
   have x2 := cell_heap (i := 2) HX5.out.x rfl
   have y2 := cell_heap (i := 2) HX5.out.n rfl
   have x3 := cell_heap (i := 3) HX5.out.x rfl
   have y3 := cell_heap (i := 3) HX5.out.n rfl
   have x4 := cell_heap (i := 4) HX5.out.x rfl
   have y4 := cell_heap (i := 4) HX5.out.n rfl
   have x5 := cell_heap (i := 5) HX5.out.x rfl
   have y5 := cell_heap (i := 5) HX5.out.n rfl
   by_cases e0 : pk = qk
   rotate_left
   ·have b0 : (pk != qk) = true := by rw [bne_iff_ne]; exact e0
    have HZ := Lib.hid (show RT = false by rw [HR.out]; simp [node1, e0])
    go_wp2_with fail
    go_ret
    exact ⟨congrArg (fun x => Ending.returned (Value.bool x)) HZ.out.symm, HBR.out⟩
   have b0 : (pk != qk) = false := by rw [bne_eq_false_iff_eq]; exact e0
   by_cases e1 : pm = qm
   rotate_left
   ·have b1 : (pm != qm) = true := by rw [bne_iff_ne]; exact e1
    have HZ := Lib.hid (show RT = false by rw [HR.out]; simp [node1, e1])
    go_wp2_with fail
    go_ret
    exact ⟨congrArg (fun x => Ending.returned (Value.bool x)) HZ.out.symm, HBR.out⟩
   have b1 : (pm != qm) = false := by rw [bne_eq_false_iff_eq]; exact e1
   by_cases e2 : plo = qlo
   rotate_left
   ·have b2 : (plo != qlo) = true := by rw [bne_iff_ne]; exact e2
    have HZ := Lib.hid (show RT = false by rw [HR.out]; simp [node1, e2])
    go_wp2_with fail
    go_ret
    exact ⟨congrArg (fun x => Ending.returned (Value.bool x)) HZ.out.symm, HBR.out⟩
   have b2 : (plo != qlo) = false := by rw [bne_eq_false_iff_eq]; exact e2
   by_cases e3 : phi = qhi
   rotate_left
   ·have b3 : (phi != qhi) = true := by rw [bne_iff_ne]; exact e3
    have HZ := Lib.hid (show RT = false by rw [HR.out]; simp [node1, e3])
    go_wp2_with fail
    go_ret
    exact ⟨congrArg (fun x => Ending.returned (Value.bool x)) HZ.out.symm, HBR.out⟩
   have b3 : (phi != qhi) = false := by rw [bne_eq_false_iff_eq]; exact e3
   cases RE with
   | false =>
    have e4 : ¬ pr = qr := of_decide_eq_false HRE.out.symm
    have HZ := Lib.hid (show RT = false by rw [HR.out]; simp [node1, e4])
    go_wp2_with fail
    go_ret
    exact ⟨congrArg (fun x => Ending.returned (Value.bool x)) HZ.out.symm, HBR.out⟩
   | true =>
    have e4 : pr = qr := of_decide_eq_true HRE.out.symm
    by_cases e5 : pkids.length = qkids.length
    rotate_left
    ·have b5 : ((pkids.length : Int) != (qkids.length : Int)) = true := by rw [bne_iff_ne]; omega
     have HZ := Lib.hid (show RT = false by rw [HR.out]; simp [node1, e5])
     go_wp2_with fail
     go_ret
     exact ⟨congrArg (fun x => Ending.returned (Value.bool x)) HZ.out.symm, HBR.out⟩
    have b5 : ((pkids.length : Int) != (qkids.length : Int)) = false := by rw [bne_eq_false_iff_eq]; omega
    have HZ := Lib.hid (show RT = allP ((L.drop (j + 1)).map fun p => p.s.n) ((L'.drop (j + 1)).map fun p => p.s.n) by rw [HR.out]; simp only [node1]; rw [decide_eq_true e0, decide_eq_true e1, decide_eq_true e2, decide_eq_true e3, decide_eq_true e4, decide_eq_true e5]; simp only [Bool.true_and])
    clear e0 e1 e2 e3 e4 e5
    go_wp2_with fail
    go_roundg (L.length - (j + 1))
    case measure => omega
    case rel => exact ⟨j + 1, congrArg (Value.int .i64) (by first | (push_cast; rfl) | (rw [w64_lit _ (by omega) (by omega)]; push_cast; rfl)), by omega, Nat.le_refl _, ⟨HB5.out, HZ.out⟩⟩
  ·obtain rfl : j = L.length := by omega
   have hlt' : ¬ (L.length : Int) < (L.length : Int) := by omega
   have HX := Lib.hid (show RT = true by rw [HQ.out.2, List.drop_of_length_le (Nat.le_refl _), List.drop_of_length_le (by have := HLL.out; omega)]; rfl)
   have HBL := Lib.hid (HS3.out.bel.trans (HQ.out.1.mono HS3.out.bel.size))
   go_wp2_with fail
   go_ret
   exact ⟨congrArg (fun x => Ending.returned (Value.bool x)) HX.out.symm, HBL.out⟩
end Go.Proofs.Ytamhkdlcoghdbaa.PCls
