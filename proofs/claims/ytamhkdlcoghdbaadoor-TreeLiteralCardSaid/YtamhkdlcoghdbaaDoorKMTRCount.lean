/- Put together (wip/tools/pack.py): TRCount, TStill, TRSame, L4. -/
import Derived.Test.YtamhkdlcoghdbaaDoorKTLay
import Derived.Test.YtamhkdlcoghdbaaDoorKMYLTwo
/- Out of TRCount (wip/tools/prune2.py): the declarations alone that the texts of the trees name. -/
namespace Go.Proofs.YtamhkdlcoghdbaaDoor.PCls
open Go.RowKit Go.Proofs.YtamhkdlcoghdbaaDoorW.PrintWords Go.Proofs.YtamhkdlcoghdbaaDoorW.PrintLast Go.Proofs.YtamhkdlcoghdbaaDoorW.PrintMore
set_option linter.unusedVariables false
set_option linter.unusedSimpArgs false
theorem Plc.cell {W : World} {base n0 g c : Nat} {L : List Pl} (h : Plc W base n0 (.slice (some ⟨g, 0, none⟩) L.length c) L) {j : Nat} {p : Pl} (hj : L[j]? = some p) {i : Nat} {u : Value} (hu : p.cells[i]? = some u) : W.cell? ⟨g, j * 12 + i, none⟩ = some u := by
 have h12 := h.len p (List.mem_of_getElem? hj)
 have hi : i < 12 := by have := (List.getElem?_eq_some_iff.1 hu).1; omega
 have hl := (List.getElem?_eq_some_iff.1 hj).1
 rw [h.own.cellAt _ (by omega), rowP_at (fun q hq => h.len q hq) hj hi]
 exact hu
/-- Laid's list: the slice, the steps -/
theorem laid_open {W w2 : World} {most : Nat} {t : NT} {e : Ending} (hm : 0 < most) (h : LaidPost W most t e w2) : ∃ (g c : Nat) (L : List Pl), e = .returned (.slice (some ⟨g, 0, none⟩) L.length c) ∧ Plc w2 W.heap.size W.heap.size (.slice (some ⟨g, 0, none⟩) L.length c) L ∧ L.map Pl.two = layS most (Step.top t) 0 ∧ L.map Pl.s = (enters (Step.top t).evs).take most ∧ L.length = min most t.nodes ∧ Below W.heap.size W w2 := by
 obtain ⟨v, L, rfl, h1, h2, h3⟩ := h
 have hl : L.length = min most t.nodes := by
  have := congrArg List.length h2
  rw [List.length_map, layS_length] at this
  simpa [Step.top] using this
 have ht := t.nodes_pos
 obtain ⟨q, hq⟩ : ∃ q, L.length = q + 1 := ⟨L.length - 1, by omega⟩
 have hown := h1.own
 rw [hq] at hown
 obtain ⟨g, c, rfl⟩ := ownsRow_succ hown
 refine ⟨g, c, L, by rw [hq], by rw [hq]; exact h1, h2, ?_, hl, h3⟩
 have := layS_fst most (Step.top t) 0
 rw [← h2, List.map_map] at this
 exact this
section
variable (k m lo hi : Int) (r : List S64) (kids : List NT) (ar ak : Option Addr) (cr ck : Nat) (W : World) (hT : NIn W (· < W.heap.size) (.mk k m lo hi r kids) [.int .i64 k, .int .i64 m, .int .i64 lo, .int .i64 hi, .slice ar r.length cr, .slice ak kids.length ck]) (hn : (NT.mk k m lo hi r kids).nodes < 274877906944)
end
end Go.Proofs.YtamhkdlcoghdbaaDoor.PCls
/- Out of TStill (wip/tools/prune2.py): the declarations alone that the texts of the trees name. -/
namespace Go.Proofs.YtamhkdlcoghdbaaDoor.PCls
open Go.RowKit Go.Shelf Go.Proofs.YtamhkdlcoghdbaaDoorW.PrintWords Go.Proofs.YtamhkdlcoghdbaaDoorW.PrintLast Go.Proofs.YtamhkdlcoghdbaaDoorW.PrintMore
set_option linter.unusedVariables false
set_option linter.unusedSimpArgs false
attribute [local go_sem] Oper.semAt_some
/-- two boxes -/
structure TwoSt (w wr : World) (c0 c1 : Array Value) : Prop where
 bel : Below w.heap.size w wr
 x : wr.heap[w.heap.size]? = some (.cells c0 28 (0, 0))
 n : wr.heap[w.heap.size + 1]? = some (.cells c1 28 (0, 0))
 sz : w.heap.size + 2 ≤ wr.heap.size
theorem TwoSt.start (w : World) (c0 c1 : Array Value) : TwoSt w ((w.alloc (.cells c0 28)).alloc (.cells c1 28)) c0 c1 := by
 refine ⟨((Below.refl _ w).alloc (Nat.le_refl _) _).alloc (by simp) _, (Below.heap_alloc _ _ _ (by simp)).trans (World.alloc_heap_new w _), ?_, by simp⟩
 have := World.alloc_heap_new (w.alloc (.cells c0 28)) (.cells c1 28)
 rw [World.size_alloc] at this
 exact this
theorem TwoSt.below {w A B : World} {c0 c1 : Array Value} (h : TwoSt w A c0 c1) (hb : Below A.heap.size A B) : TwoSt w B c0 c1 :=
 ⟨h.bel.trans (hb.mono h.bel.size), (hb.block _ (by have := h.sz; omega)).trans h.x, (hb.block _ (by have := h.sz; omega)).trans h.n, Nat.le_trans h.sz hb.size⟩
theorem below_drawn5 {B : Nat} {w0 w w' : World} (h : Below B w0 w) (hd : Drawn0 w w') : Below B w0 w' := by
 obtain ⟨m, rfl⟩ := hd; exact wN h m
/-- a kid of a copy -/
theorem CIn.kid {w : World} {P : Nat → Prop} {k m lo hi : Int} {r : List S64} {kids : List NT} {R K lr lk : Nat} {v0 v1 v2 v3 v4 : Value} {ck : Nat} (h : CIn w P (.mk k m lo hi r kids) [v0, v1, v2, v3, v4, .slice (some ⟨K, 0, none⟩) lk ck]) {j : Nat} {t : NT} (hj : kids[j]? = some t) :
  ∃ cs, P K ∧ CIn w P t cs ∧ ∀ i u, cs[i]? = some u → w.cell? ⟨K, j * 6 + i, none⟩ = some u := by
 cases h with
 | mk _ _ _ _ _ _ R K cs hr hrp hrl hin hr0 hr1 hkp hkl hk ha hx => exact ⟨cs j, hkp, hk j t hj, ha j (List.getElem?_eq_some_iff.1 hj).1⟩
theorem CIn.shape {w : World} {P : Nat → Prop} {k m lo hi : Int} {r : List S64} {kids : List NT} {cs : List Value} (h : CIn w P (.mk k m lo hi r kids) cs) :
  ∃ R K, cs = [.int .i64 k, .int .i64 m, .int .i64 lo, .int .i64 hi, .slice (some ⟨R, 0, none⟩) r.length (r.length + 1), .slice (some ⟨K, 0, none⟩) kids.length (kids.length + 1)] := by
 cases h; exact ⟨_, _, rfl⟩
section
variable (k m lo hi : Int) (r : List S64) (kids : List NT) (ar ak : Option Addr) (cr ck : Nat) (W : World) (hT : NIn W (· < W.heap.size) (.mk k m lo hi r kids) [.int .i64 k, .int .i64 m, .int .i64 lo, .int .i64 hi, .slice ar r.length cr, .slice ak kids.length ck]) (hn : (NT.mk k m lo hi r kids).nodes < 274877906944)
end
end Go.Proofs.YtamhkdlcoghdbaaDoor.PCls
/- Out of TRSame (wip/tools/prune2.py): the declarations alone that the texts of the trees name. -/
namespace Go.Proofs.YtamhkdlcoghdbaaDoor.PCls
open Go.RowKit Go.Proofs.YtamhkdlcoghdbaaDoorW.PrintWords Go.Proofs.YtamhkdlcoghdbaaDoorW.PrintLast Go.Proofs.YtamhkdlcoghdbaaDoorW.PrintMore
set_option linter.unusedVariables false
set_option linter.unusedSimpArgs false
mutual
def NT.pre : NT → List NT
 | .mk k m lo hi r kids => .mk k m lo hi r kids :: NT.preL kids
def NT.preL : List NT → List NT
 | [] => []
 | t :: ts => NT.pre t ++ NT.preL ts
end
def node1 : NT → NT → Bool
 | .mk k m lo hi r kids, .mk k' m' lo' hi' r' kids' => decide (k = k') && (decide (m = m') && (decide (lo = lo') && (decide (hi = hi') && (decide (r = r') && decide (kids.length = kids'.length)))))
def allP : List NT → List NT → Bool
 | [], [] => true
 | a :: l, b :: m => node1 a b && allP l m
 | _, _ => false
theorem pre_ns (t : NT) : ∀ (d a : Int) (f l b : Bool), (enters (evs t d a f l b)).map Step.n = NT.pre t := by
 have hL : ∀ ts : List NT, (∀ t, t ∈ ts → ∀ (d a : Int) (f l b : Bool), (enters (evs t d a f l b)).map Step.n = NT.pre t) → ∀ (d a : Int) (c i : Nat) (b : Bool), (enters (evsL ts d a c i b)).map Step.n = NT.preL ts := by
  intro ts
  induction ts with
  | nil => intro _ d a c i b; rfl
  | cons x ts ih =>
   intro h d a c i b
   simp only [evsL, enters_append, List.map_append, NT.preL]
   rw [h x List.mem_cons_self, ih (fun t ht => h t (List.mem_cons_of_mem _ ht))]
 refine NT.ind (P := fun t => ∀ (d a : Int) (f l b : Bool), (enters (evs t d a f l b)).map Step.n = NT.pre t) (fun k m lo hi r kids ih d a f l b => ?_) t
 simp only [evs, enters, enters_append, List.append_nil, List.map_cons, NT.pre]
 rw [hL kids ih]
theorem allP_same (t : NT) : ∀ (u : NT) (X Y : List NT), allP (NT.pre t ++ X) (NT.pre u ++ Y) = (NT.same t u && allP X Y) := by
 have hL : ∀ ts : List NT, (∀ t, t ∈ ts → ∀ (u : NT) (X Y : List NT), allP (NT.pre t ++ X) (NT.pre u ++ Y) = (NT.same t u && allP X Y)) → ∀ (us : List NT) (X Y : List NT), ts.length = us.length → allP (NT.preL ts ++ X) (NT.preL us ++ Y) = (NT.sameL ts us && allP X Y) := by
  intro ts
  induction ts with
  | nil =>
   intro _ us X Y h
   cases us with
   | nil => simp [NT.preL, NT.sameL]
   | cons _ _ => simp at h
  | cons x ts ih =>
   intro h us X Y hl
   cases us with
   | nil => simp at hl
   | cons u us =>
    simp only [NT.preL, NT.sameL, List.append_assoc]
    rw [h x List.mem_cons_self, ih (fun t ht => h t (List.mem_cons_of_mem _ ht)) us X Y (by simpa using hl), Bool.and_assoc]
 refine NT.ind (P := fun t => ∀ (u : NT) (X Y : List NT), allP (NT.pre t ++ X) (NT.pre u ++ Y) = (NT.same t u && allP X Y)) (fun k m lo hi r kids ih u X Y => ?_) t
 obtain ⟨k', m', lo', hi', r', kids'⟩ := u
 simp only [NT.pre, List.cons_append, allP, node1, NT.same]
 by_cases hl : kids.length = kids'.length
 ·rw [hL kids ih kids' X Y hl, decide_eq_true hl, Bool.and_true]
  simp only [Bool.and_assoc]
 ·have h0 : NT.sameL kids kids' = false := by
   cases h : NT.sameL kids kids'
   ·rfl
   ·exact absurd (sameL_length _ _ h) hl
  rw [h0, decide_eq_false hl]
  simp only [Bool.and_false, Bool.false_and]
/-- what the two lists tell -/
theorem refsame_eq {a b : NT} {L L' : List Pl} (h : L.map Pl.s = (enters (Step.top a).evs).take 2001) (h' : L'.map Pl.s = (enters (Step.top b).evs).take 2001) (hl : L.length = min 2001 a.nodes) (hl' : L'.length = min 2001 b.nodes) :
  sameT a b = (decide (L.length = L'.length) && (decide (L.length ≤ 2000) && allP (L.map fun p => p.s.n) (L'.map fun p => p.s.n))) := by
 have ea : (enters (Step.top a).evs).length = a.nodes := enters_length a 1 0 true true true
 have eb : (enters (Step.top b).evs).length = b.nodes := enters_length b 1 0 true true true
 have na : ∀ (q : NT), (enters (Step.top q).evs).map Step.n = NT.pre q := fun q => pre_ns q _ _ _ _ _
 unfold sameT
 by_cases h1 : a.nodes ≤ 2000
 ·by_cases h2 : b.nodes ≤ 2000
  ·rw [List.take_of_length_le (by omega)] at h h'
   have e1 : (L.map fun p => p.s.n) = NT.pre a ++ [] := by rw [List.append_nil, ← na a, ← h, List.map_map]; rfl
   have e2 : (L'.map fun p => p.s.n) = NT.pre b ++ [] := by rw [List.append_nil, ← na b, ← h', List.map_map]; rfl
   rw [e1, e2, allP_same, decide_eq_true h1, decide_eq_true h2, decide_eq_true (show L.length ≤ 2000 by omega)]
   simp only [Bool.true_and, allP, Bool.and_true]
   by_cases hs : NT.same a b = true
   ·have := (NT.same_iff a b).1 hs
    subst this
    rw [hs, decide_eq_true (show L.length = L'.length by omega)]; rfl
   ·rw [Bool.not_eq_true] at hs
    rw [hs, Bool.and_false]
  ·rw [decide_eq_false h2, decide_eq_false (show ¬ L.length = L'.length by omega)]
   simp
 ·rw [decide_eq_false h1]
  by_cases h2 : L.length = L'.length
  ·rw [decide_eq_false (show ¬ L.length ≤ 2000 by omega)]; simp
  ·rw [decide_eq_false h2]; simp
set_option maxHeartbeats 16000000 in
set_option maxRecDepth 100000 in
theorem refsame_c (k m lo hi : Int) (r : List S64) (kids : List NT) (ar ak : Option Addr) (cr ck : Nat) (k' m' lo' hi' : Int) (r' : List S64) (kids' : List NT) (ar' ak' : Option Addr) (cr' ck' : Nat) (W : World) (hT : NIn W (· < W.heap.size) (.mk k m lo hi r kids) [.int .i64 k, .int .i64 m, .int .i64 lo, .int .i64 hi, .slice ar r.length cr, .slice ak kids.length ck]) (hT' : NIn W (· < W.heap.size) (.mk k' m' lo' hi' r' kids') [.int .i64 k', .int .i64 m', .int .i64 lo', .int .i64 hi', .slice ar' r'.length cr', .slice ak' kids'.length ck']) (hn : (NT.mk k m lo hi r kids).nodes < 274877906944) (hn' : (NT.mk k' m' lo' hi' r' kids').nodes < 274877906944) :
  Calls Tryd.prog 15 #[.agg #[.int .i64 k, .int .i64 m, .int .i64 lo, .int .i64 hi, .slice ar r.length cr, .slice ak kids.length ck], .agg #[.int .i64 k', .int .i64 m', .int .i64 lo', .int .i64 hi', .slice ar' r'.length cr', .slice ak' kids'.length ck']] W fun e w' => e = .returned (.bool (sameT (.mk k m lo hi r kids) (.mk k' m' lo' hi' r' kids'))) ∧ Below W.heap.size W w' := by
 obtain ⟨W2, hW2⟩ : ∃ W2, W2 = (W.alloc (.cells #[.int .i64 k, .int .i64 m, .int .i64 lo, .int .i64 hi, .slice ar r.length cr, .slice ak kids.length ck] 28)).alloc (.cells #[.int .i64 k', .int .i64 m', .int .i64 lo', .int .i64 hi', .slice ar' r'.length cr', .slice ak' kids'.length ck'] 28) := ⟨_, rfl⟩
 have hst : TwoSt W W2 #[.int .i64 k, .int .i64 m, .int .i64 lo, .int .i64 hi, .slice ar r.length cr, .slice ak kids.length ck] #[.int .i64 k', .int .i64 m', .int .i64 lo', .int .i64 hi', .slice ar' r'.length cr', .slice ak' kids'.length ck'] := by rw [hW2]; exact TwoSt.start W _ _
 have HL := Lib.hid (laid_calls 2001 (by decide) k m lo hi r kids ar ak cr ck W2 ((hT.keep hst.bel).mono (fun b h => Nat.lt_of_lt_of_le h hst.bel.size)) hn)
 obtain ⟨RT, hRT⟩ : ∃ RT, RT = sameT (.mk k m lo hi r kids) (.mk k' m' lo' hi' r' kids') := ⟨_, rfl⟩
 have HRT := Lib.hid hRT
 rw [← hRT]
 have HST := Lib.hid hst
 have HW2 := Lib.hid hW2
 have HNN := Lib.hid (And.intro hn hn')
 have HTB := Lib.hid hT'

 have c0 := cell_heap (i := 0) HST.out.x rfl
 have c1 := cell_heap (i := 1) HST.out.x rfl
 have c2 := cell_heap (i := 2) HST.out.x rfl
 have c3 := cell_heap (i := 3) HST.out.x rfl
 have c4 := cell_heap (i := 4) HST.out.x rfl
 have c5 := cell_heap (i := 5) HST.out.x rfl
 clear hT hT' hn hn' hst hW2 hRT
 go_enter Tryd.func15, Tryd.ntmps15
 go_wp2_with fail
 rw [← HW2.out]
 refine HL.out.mono ?_
 rintro e w2 h
 obtain ⟨g, c, L, rfl, h1, h2, h3, h4, h5⟩ := laid_open (by decide) h
 have HS2 := Lib.hid (HST.out.below h5)
 have HP := Lib.hid h1
 have HB2 := Lib.hid h5
 have HLS := Lib.hid (And.intro h3 h4)
 have HL2 := Lib.hid (laid_calls 2001 (by decide) k' m' lo' hi' r' kids' ar' ak' cr' ck' w2 ((HTB.out.keep HS2.out.bel).mono (fun b h => Nat.lt_of_lt_of_le h HS2.out.bel.size)) HNN.out.2)
 have hlm : L.length ≤ 2001 := by omega
 clear h h1 h2 h3 h4 h5 c0 c1 c2 c3 c4 c5 HST HW2 HL
 have c0 := cell_heap (i := 0) HS2.out.n rfl
 have c1 := cell_heap (i := 1) HS2.out.n rfl
 have c2 := cell_heap (i := 2) HS2.out.n rfl
 have c3 := cell_heap (i := 3) HS2.out.n rfl
 have c4 := cell_heap (i := 4) HS2.out.n rfl
 have c5 := cell_heap (i := 5) HS2.out.n rfl
 go_wp2_with fail
 refine HL2.out.mono ?_
 rintro e w3 h
 obtain ⟨g', c', L', rfl, h1, h2, h3, h4, h5⟩ := laid_open (by decide) h
 have HS3 := Lib.hid (HS2.out.below h5)
 have HP' := Lib.hid h1
 have HB3 := Lib.hid h5
 have hlm' : L'.length ≤ 2001 := by omega
 have HEQ := Lib.hid (refsame_eq HLS.out.1 h3 HLS.out.2 h4)
 rw [← HRT.out] at HEQ
 clear h h1 h2 h3 h4 h5 c0 c1 c2 c3 c4 c5 HL2 HLS
 by_cases hl : L.length = L'.length
 rotate_left
 ·have hl1 : ((L.length : Int) != (L'.length : Int)) = true := by rw [bne_iff_ne]; omega
  have HX := Lib.hid (show RT = false by rw [HEQ.out, decide_eq_false hl]; rfl)
  clear hl
  go_wp2_with fail
  go_ret
  exact ⟨congrArg (fun x => Ending.returned (Value.bool x)) HX.out.symm, HS3.out.bel⟩
 have hl1 : ((L.length : Int) != (L'.length : Int)) = false := by rw [bne_eq_false_iff_eq]; omega
 by_cases h2 : L.length ≤ 2000
 rotate_left
 ·have h21 : (2000 : Int) < (L.length : Int) := by omega
  have HX := Lib.hid (show RT = false by rw [HEQ.out, decide_eq_false h2]; simp)
  clear hl h2
  go_wp2_with fail
  go_ret
  exact ⟨congrArg (fun x => Ending.returned (Value.bool x)) HX.out.symm, HS3.out.bel⟩
 have h21 : ¬ (2000 : Int) < (L.length : Int) := by omega
 have HRA := Lib.hid (show RT = allP (L.map fun p => p.s.n) (L'.map fun p => p.s.n) by rw [HEQ.out, decide_eq_true hl, decide_eq_true h2]; rfl)
 have HLL := Lib.hid hl
 clear hl h2
 go_wp2_with fail
 clear hl1 h21
 go_loopg [7] L.length (fun gg s7 wr => ∃ (j : Nat), s7 = .int .i64 j ∧ j ≤ L.length ∧ L.length - j ≤ gg ∧ Aside0 (Below w3.heap.size w3 wr ∧ RT = allP ((L.drop j).map fun p => p.s.n) ((L'.drop j).map fun p => p.s.n)))
 case atStart => exact ⟨0, rfl, by omega, by omega, ⟨Below.refl _ _, HRA.out⟩⟩
 case round =>
  obtain ⟨j, rfl, hj, hgg, HQ⟩ := hrel
  by_cases hlt : j < L.length
  ·have hlt' : (j : Int) < (L.length : Int) := by omega
   have hlt2 : (j : Int) < (L'.length : Int) := by have := HLL.out; omega
   obtain ⟨p, hp⟩ : ∃ p, L[j]? = some p := ⟨_, List.getElem?_eq_getElem hlt⟩
   obtain ⟨q, hq⟩ : ∃ q, L'[j]? = some q := ⟨_, List.getElem?_eq_getElem (by have := HLL.out; omega)⟩
   have hNp := HP.out.nin p (List.mem_of_getElem? hp)
   have hNq := HP'.out.nin q (List.mem_of_getElem? hq)
   have hPr := HP.out.below HB2.out.size (HB3.out.trans (HQ.out.1.mono HB3.out.size))
   have hPr' := HP'.out.below HB3.out.size HQ.out.1
   have hdrop : allP ((L.drop j).map fun p => p.s.n) ((L'.drop j).map fun p => p.s.n) = (node1 p.s.n q.s.n && allP ((L.drop (j + 1)).map fun p => p.s.n) ((L'.drop (j + 1)).map fun p => p.s.n)) := by
    obtain ⟨hh, e⟩ := List.getElem?_eq_some_iff.1 hp
    obtain ⟨hh', e'⟩ := List.getElem?_eq_some_iff.1 hq
    rw [List.drop_eq_getElem_cons hh, e, List.drop_eq_getElem_cons hh', e']; rfl
   have hR := HQ.out.2
   rw [hdrop] at hR
   obtain ⟨⟨⟨pk, pm, plo, phi, pr, pkids⟩, pd, pa, pf, pl, pb⟩, pen, pcs⟩ := p
   obtain ⟨⟨⟨qk, qm, qlo, qhi, qr, qkids⟩, qd, qa, qf, ql, qb⟩, qen, qcs⟩ := q
   obtain ⟨par, pak, pcr, pck, rfl⟩ := NIn.shape hNp
   obtain ⟨qar, qak, qcr, qck, rfl⟩ := NIn.shape hNq
   have HR := Lib.hid hR
   have c0 : wr.cell? ⟨g, j * 12, none⟩ = some (.int .i64 pk) := hPr.cell hp (i := 0) rfl
   have c1 : wr.cell? ⟨g, j * 12 + 1, none⟩ = some (.int .i64 pm) := hPr.cell hp (i := 1) rfl
   have c2 : wr.cell? ⟨g, j * 12 + 2, none⟩ = some (.int .i64 plo) := hPr.cell hp (i := 2) rfl
   have c3 : wr.cell? ⟨g, j * 12 + 3, none⟩ = some (.int .i64 phi) := hPr.cell hp (i := 3) rfl
   have c4 : wr.cell? ⟨g, j * 12 + 4, none⟩ = some (.slice par pr.length pcr) := hPr.cell hp (i := 4) rfl
   have c5 : wr.cell? ⟨g, j * 12 + 5, none⟩ = some (.slice pak pkids.length pck) := hPr.cell hp (i := 5) rfl
   have hba : Below wr.heap.size wr (wr.alloc (.cells #[.int .i64 pk, .int .i64 pm, .int .i64 plo, .int .i64 phi, .slice par pr.length pcr, .slice pak pkids.length pck] 28)) := (Below.refl _ wr).alloc (Nat.le_refl _) _
   have hPa := hPr'.below (Nat.le_trans HB3.out.size HQ.out.1.size) hba
   have d0 : (wr.alloc (.cells #[.int .i64 pk, .int .i64 pm, .int .i64 plo, .int .i64 phi, .slice par pr.length pcr, .slice pak pkids.length pck] 28)).cell? ⟨g', j * 12, none⟩ = some (.int .i64 qk) := hPa.cell hq (i := 0) rfl
   have d1 : (wr.alloc (.cells #[.int .i64 pk, .int .i64 pm, .int .i64 plo, .int .i64 phi, .slice par pr.length pcr, .slice pak pkids.length pck] 28)).cell? ⟨g', j * 12 + 1, none⟩ = some (.int .i64 qm) := hPa.cell hq (i := 1) rfl
   have d2 : (wr.alloc (.cells #[.int .i64 pk, .int .i64 pm, .int .i64 plo, .int .i64 phi, .slice par pr.length pcr, .slice pak pkids.length pck] 28)).cell? ⟨g', j * 12 + 2, none⟩ = some (.int .i64 qlo) := hPa.cell hq (i := 2) rfl
   have d3 : (wr.alloc (.cells #[.int .i64 pk, .int .i64 pm, .int .i64 plo, .int .i64 phi, .slice par pr.length pcr, .slice pak pkids.length pck] 28)).cell? ⟨g', j * 12 + 3, none⟩ = some (.int .i64 qhi) := hPa.cell hq (i := 3) rfl
   have d4 : (wr.alloc (.cells #[.int .i64 pk, .int .i64 pm, .int .i64 plo, .int .i64 phi, .slice par pr.length pcr, .slice pak pkids.length pck] 28)).cell? ⟨g', j * 12 + 4, none⟩ = some (.slice qar qr.length qcr) := hPa.cell hq (i := 4) rfl
   have d5 : (wr.alloc (.cells #[.int .i64 pk, .int .i64 pm, .int .i64 plo, .int .i64 phi, .slice par pr.length pcr, .slice pak pkids.length pck] 28)).cell? ⟨g', j * 12 + 5, none⟩ = some (.slice qak qkids.length qck) := hPa.cell hq (i := 5) rfl
   obtain ⟨X, hX⟩ : ∃ X, X = (wr.alloc (.cells #[.int .i64 pk, .int .i64 pm, .int .i64 plo, .int .i64 phi, .slice par pr.length pcr, .slice pak pkids.length pck] 28)).alloc (.cells #[.int .i64 qk, .int .i64 qm, .int .i64 qlo, .int .i64 qhi, .slice qar qr.length qcr, .slice qak qkids.length qck] 28) := ⟨_, rfl⟩
   have hx : TwoSt wr X #[.int .i64 pk, .int .i64 pm, .int .i64 plo, .int .i64 phi, .slice par pr.length pcr, .slice pak pkids.length pck] #[.int .i64 qk, .int .i64 qm, .int .i64 qlo, .int .i64 qhi, .slice qar qr.length qcr, .slice qak qkids.length qck] := by rw [hX]; exact TwoSt.start wr _ _
   obtain ⟨RE, hRE⟩ : ∃ RE, RE = decide (pr = qr) := ⟨_, rfl⟩
   have hal : Calls Tryd.prog 45 #[.slice par pr.length pcr, .slice qar qr.length qcr] X fun e w' => e = .returned (.bool RE) ∧ Drawn0 X w' := by
    have hNp' := (hNp.move (w' := X) (fun b hb => (hx.bel.block b (by have h1 := HB2.out.size; have h2 := HB3.out.size; have h3 := HQ.out.1.size; omega)).trans ((HQ.out.1.block b (by have h1 := HB2.out.size; have h2 := HB3.out.size; omega)).trans (HB3.out.block b (by have h1 := HB2.out.size; omega)))))
    have hNq' := (hNq.move (w' := X) (fun b hb => (hx.bel.block b (by have h1 := HB3.out.size; have h2 := HQ.out.1.size; omega)).trans (HQ.out.1.block b (by have h1 := HB3.out.size; omega))))
    cases hNp' with
    | mk _ _ _ _ _ _ _ _ _ _ cq q1 q2 q3 q4 q5 q6 q7 q8 q9 =>
     cases hNq' with
     | mk _ _ _ _ _ _ _ _ _ _ cq' z1 z2 z3 z4 z5 z6 z7 z8 z9 =>
      obtain ⟨k3, f3⟩ := (alike_ends pr qr (by omega)).get
      rw [← hRE] at f3
      exact dredgeref06_Alike.calls k3 _ _ pr qar qcr qr RE X q1 q3 z1 z3 f3
   have HAL := Lib.hid hal
   have HX := Lib.hid hX
   have HXS := Lib.hid hx
   have HRE := Lib.hid hRE
   clear hX hx hal hRE hR hdrop hPr hPr' hPa hba hNp hNq hp hq
   go_wp2_with fail
   rw [← HX.out]
   refine HAL.out.mono ?_
   rintro e w5 ⟨rfl, hD⟩
   have hb5 := below_drawn5 (Below.refl X.heap.size X) hD
   have HX5 := Lib.hid (HXS.out.below hb5)
   have HB5 := Lib.hid (HQ.out.1.trans (HX5.out.bel.mono HQ.out.1.size))
   have HBR := Lib.hid (HS3.out.bel.trans (HB5.out.mono HS3.out.bel.size))
   clear hD hb5 c0 c1 c2 c3 c4 c5 d0 d1 d2 d3 d4 d5 HAL HX HXS
   have x0 := cell_heap (i := 0) HX5.out.x rfl
   have y0 := cell_heap (i := 0) HX5.out.n rfl
   have x1 := cell_heap (i := 1) HX5.out.x rfl
   have y1 := cell_heap (i := 1) HX5.out.n rfl
   have x2 := cell_heap (i := 2) HX5.out.x rfl
   have y2 := cell_heap (i := 2) HX5.out.n rfl
   have x3 := cell_heap (i := 3) HX5.out.x rfl
   have y3 := cell_heap (i := 3) HX5.out.n rfl
   have x4 := cell_heap (i := 4) HX5.out.x rfl
   have y4 := cell_heap (i := 4) HX5.out.n rfl
   have x5 := cell_heap (i := 5) HX5.out.x rfl
   have y5 := cell_heap (i := 5) HX5.out.n rfl
   by_cases e0 : pk = qk
   rotate_left
   ·have b0 : (pk != qk) = true := by rw [bne_iff_ne]; exact e0
    have HZ := Lib.hid (show RT = false by rw [HR.out]; simp [node1, e0])
    go_wp2_with fail
    go_ret
    exact ⟨congrArg (fun x => Ending.returned (Value.bool x)) HZ.out.symm, HBR.out⟩
   have b0 : (pk != qk) = false := by rw [bne_eq_false_iff_eq]; exact e0
   by_cases e1 : pm = qm
   rotate_left
   ·have b1 : (pm != qm) = true := by rw [bne_iff_ne]; exact e1
    have HZ := Lib.hid (show RT = false by rw [HR.out]; simp [node1, e1])
    go_wp2_with fail
    go_ret
    exact ⟨congrArg (fun x => Ending.returned (Value.bool x)) HZ.out.symm, HBR.out⟩
   have b1 : (pm != qm) = false := by rw [bne_eq_false_iff_eq]; exact e1
   by_cases e2 : plo = qlo
   rotate_left
   ·have b2 : (plo != qlo) = true := by rw [bne_iff_ne]; exact e2
    have HZ := Lib.hid (show RT = false by rw [HR.out]; simp [node1, e2])
    go_wp2_with fail
    go_ret
    exact ⟨congrArg (fun x => Ending.returned (Value.bool x)) HZ.out.symm, HBR.out⟩
   have b2 : (plo != qlo) = false := by rw [bne_eq_false_iff_eq]; exact e2
   by_cases e3 : phi = qhi
   rotate_left
   ·have b3 : (phi != qhi) = true := by rw [bne_iff_ne]; exact e3
    have HZ := Lib.hid (show RT = false by rw [HR.out]; simp [node1, e3])
    go_wp2_with fail
    go_ret
    exact ⟨congrArg (fun x => Ending.returned (Value.bool x)) HZ.out.symm, HBR.out⟩
   have b3 : (phi != qhi) = false := by rw [bne_eq_false_iff_eq]; exact e3
   cases RE with
   | false =>
    have e4 : ¬ pr = qr := of_decide_eq_false HRE.out.symm
    have HZ := Lib.hid (show RT = false by rw [HR.out]; simp [node1, e4])
    go_wp2_with fail
    go_ret
    exact ⟨congrArg (fun x => Ending.returned (Value.bool x)) HZ.out.symm, HBR.out⟩
   | true =>
    have e4 : pr = qr := of_decide_eq_true HRE.out.symm
    by_cases e5 : pkids.length = qkids.length
    rotate_left
    ·have b5 : ((pkids.length : Int) != (qkids.length : Int)) = true := by rw [bne_iff_ne]; omega
     have HZ := Lib.hid (show RT = false by rw [HR.out]; simp [node1, e5])
     go_wp2_with fail
     go_ret
     exact ⟨congrArg (fun x => Ending.returned (Value.bool x)) HZ.out.symm, HBR.out⟩
    have b5 : ((pkids.length : Int) != (qkids.length : Int)) = false := by rw [bne_eq_false_iff_eq]; omega
    have HZ := Lib.hid (show RT = allP ((L.drop (j + 1)).map fun p => p.s.n) ((L'.drop (j + 1)).map fun p => p.s.n) by rw [HR.out]; simp only [node1]; rw [decide_eq_true e0, decide_eq_true e1, decide_eq_true e2, decide_eq_true e3, decide_eq_true e4, decide_eq_true e5]; simp only [Bool.true_and])
    clear e0 e1 e2 e3 e4 e5
    go_wp2_with fail
    go_roundg (L.length - (j + 1))
    case measure => omega
    case rel => exact ⟨j + 1, congrArg (Value.int .i64) (by first | (push_cast; rfl) | (rw [w64_lit _ (by omega) (by omega)]; push_cast; rfl)), by omega, Nat.le_refl _, ⟨HB5.out, HZ.out⟩⟩
  ·obtain rfl : j = L.length := by omega
   have hlt' : ¬ (L.length : Int) < (L.length : Int) := by omega
   have HX := Lib.hid (show RT = true by rw [HQ.out.2, List.drop_of_length_le (Nat.le_refl _), List.drop_of_length_le (by have := HLL.out; omega)]; rfl)
   have HBL := Lib.hid (HS3.out.bel.trans (HQ.out.1.mono HS3.out.bel.size))
   go_wp2_with fail
   go_ret
   exact ⟨congrArg (fun x => Ending.returned (Value.bool x)) HX.out.symm, HBL.out⟩
end Go.Proofs.YtamhkdlcoghdbaaDoor.PCls
/- TreeLiteral, walked. -/
namespace Go.Proofs.YtamhkdlcoghdbaaDoor.PCls
open Go.RowKit Go.Shelf Go.Proofs.YtamhkdlcoghdbaaDoorW.PrintWords Go.Proofs.YtamhkdlcoghdbaaDoorW.PrintLast Go.Proofs.YtamhkdlcoghdbaaDoorW.PrintMore
set_option linter.unusedVariables false
set_option linter.unusedSimpArgs false

/-- the tree that both tell: where the text is none, a node without a kind -/
def litTree (chars fold : Bool) (s : ByteArray) : NT := if okB chars s = true then catT (unitsT chars fold s) else .mk 0 0 0 0 [] []
def litErr (chars : Bool) (s : ByteArray) : Int := if okB chars s = true then 0 else 20
/-- what either tells -/
def LitOut (W : World) (s : ByteArray) (chars fold : Bool) (e : Ending) (w' : World) : Prop := Below W.heap.size W w' ∧ ∃ (k m lo hi : Int) (ar ak : Option Addr) (lr cr lk ck : Nat), e = .returned (.tuple #[.agg #[.int .i64 k, .int .i64 m, .int .i64 lo, .int .i64 hi, .slice ar lr cr, .slice ak lk ck], .int .i64 (litErr chars s)]) ∧ NIn w' (· < w'.heap.size) (litTree chars fold s) [.int .i64 k, .int .i64 m, .int .i64 lo, .int .i64 hi, .slice ar lr cr, .slice ak lk ck]
theorem litout_a (s : ByteArray) (chars fold : Bool) (w : World) (hs : s.size ≤ 1900) (hT : Lib.Utf8Tabs 0 1 w) : Calls Tryd.prog 10 #[.string s, .agg #[.bool chars, .bool fold]] w (LitOut w s chars fold) := by
 refine (literal_any s chars fold w (by omega) hT).mono fun e w' ⟨hb, h⟩ => ⟨hb, ?_⟩
 unfold litTree litErr
 by_cases ho : okB chars s = true
 ·rw [if_pos ho] at h ⊢
  rw [if_pos ho]
  obtain ⟨cs, rfl, hN⟩ := h
  obtain ⟨k1, k2, k3, k4, k5, k6, k7, k8, k9, k10, rfl⟩ := six hN
  exact ⟨_, _, _, _, _, _, _, _, _, _, rfl, hN.mono fun b hb => hb.2⟩
 ·rw [if_neg ho] at h ⊢
  rw [if_neg ho]
  exact ⟨0, 0, 0, 0, none, none, 0, 0, 0, 0, h, NIn.leaf _ _ 0 0 0 0⟩
theorem litout_b (s : ByteArray) (chars fold : Bool) (w : World) (hs : s.size ≤ 1900) : Calls Tryd.prog 14 #[.string s, .agg #[.bool chars, .bool fold]] w (LitOut w s chars fold) := by
 refine (reflit_calls s chars fold w hs).mono fun e w' ⟨hb, h⟩ => ⟨hb, ?_⟩
 unfold litTree litErr
 by_cases ho : okB chars s = true
 ·rw [if_pos ho] at h ⊢
  rw [if_pos ho]
  obtain ⟨v0, v1, v2, v3, v4, v5, rfl, hN⟩ := h
  obtain ⟨k1, k2, k3, k4, k5, k6, k7, k8, k9, k10, e⟩ := six hN
  simp only [List.cons.injEq, and_true] at e
  obtain ⟨rfl, rfl, rfl, rfl, rfl, rfl⟩ := e
  exact ⟨_, _, _, _, _, _, _, _, _, _, rfl, hN⟩
 ·rw [if_neg ho] at h ⊢
  rw [if_neg ho]
  exact ⟨0, 0, 0, 0, none, none, 0, 0, 0, 0, h, NIn.leaf _ _ 0 0 0 0⟩
theorem litTree_nodes (chars fold : Bool) (s : ByteArray) (hs : s.size ≤ 1900) : (litTree chars fold s).nodes ≤ 2000 := by
 unfold litTree
 split
 ·have h := units_leaf chars fold s
  have hl := units_len chars fold s
  exact catT_units _ (leaves_plain h) (leaves_nodes _ h) (by omega)
 ·simp [NT.nodes, NT.nodesL]
/-- the reference's Same of a tree, twice in memory -/
theorem same_twice (t : NT) (W : World) (k m lo hi k' m' lo' hi' : Int) (ar ak ar' ak' : Option Addr) (lr cr lk ck lr' cr' lk' ck' : Nat) (h : NIn W (· < W.heap.size) t [.int .i64 k, .int .i64 m, .int .i64 lo, .int .i64 hi, .slice ar lr cr, .slice ak lk ck]) (h' : NIn W (· < W.heap.size) t [.int .i64 k', .int .i64 m', .int .i64 lo', .int .i64 hi', .slice ar' lr' cr', .slice ak' lk' ck']) (hn : t.nodes ≤ 2000) :
  Calls Tryd.prog 15 #[.agg #[.int .i64 k, .int .i64 m, .int .i64 lo, .int .i64 hi, .slice ar lr cr, .slice ak lk ck], .agg #[.int .i64 k', .int .i64 m', .int .i64 lo', .int .i64 hi', .slice ar' lr' cr', .slice ak' lk' ck']] W fun e w' => e = .returned (.bool true) ∧ Below W.heap.size W w' := by
 obtain ⟨tk, tm, tlo, thi, tr, tkids⟩ := t
 obtain ⟨_, _, _, _, e1⟩ := h.shape
 obtain ⟨_, _, _, _, e2⟩ := h'.shape
 simp only [List.cons.injEq, Value.int.injEq, Value.slice.injEq, and_true, true_and] at e1 e2
 obtain ⟨rfl, rfl, rfl, rfl, ⟨rfl, rfl, rfl⟩, ⟨rfl, rfl, rfl⟩⟩ := e1
 obtain ⟨rfl, rfl, rfl, rfl, ⟨rfl, rfl, rfl⟩, ⟨rfl, rfl, rfl⟩⟩ := e2
 refine (refsame_c _ _ _ _ _ _ _ _ _ _ _ _ _ _ _ _ _ _ _ _ W h h' (by omega) (by omega)).mono fun e w' ⟨he, hb⟩ => ⟨?_, hb⟩
 rw [he, same_self _ hn]
set_option maxHeartbeats 8000000 in
set_option maxRecDepth 100000 in
theorem treelit_calls (text : ByteArray) (chars fold : Bool) (w : World) (hT : Lib.Utf8Tabs 0 1 w) (hs : text.size ≤ 140737488351232) :
  Calls Tryd.prog 4 #[.string text, .agg #[.bool chars, .bool fold]] w fun e w' => e = .returned (.bool true) ∧ Below w.heap.size w w' := by
 have HT := Lib.hid hT
 obtain ⟨s, hs19, hcs⟩ : ∃ s : ByteArray, s.size ≤ 1900 ∧ ((1900 < text.size ∧ s = text.extract 0 1900) ∨ (¬ 1900 < text.size ∧ s = text)) := by
  by_cases hbig : 1900 < text.size
  ·exact ⟨_, by rw [ByteArray.size_extract]; omega, .inl ⟨hbig, rfl⟩⟩
  ·exact ⟨_, by omega, .inr ⟨hbig, rfl⟩⟩
 have HA := Lib.hid (fun (w1 : World) (hb : Below w.heap.size w w1) => litout_a s chars fold w1 hs19 (tabs_below HT.out hb))
 have HBB := Lib.hid (fun w1 => litout_b s chars fold w1 hs19)
 have HN := Lib.hid (litTree_nodes chars fold s hs19)
 have HSM := Lib.hid (same_twice (litTree chars fold s))
 obtain ⟨M, hM⟩ : ∃ M, M = w.heap.size := ⟨_, rfl⟩
 obtain ⟨W1, hW1⟩ : ∃ X, X = w.alloc (.cells #[.bool chars, .bool fold] 23) := ⟨_, rfl⟩
 have hb1 : Below w.heap.size w W1 := by rw [hW1]; exact (Below.refl _ w).alloc (Nat.le_refl _) _
 have hk1 : W1.heap[M]? = some (.cells #[.bool chars, .bool fold] 23 (0, 0)) := by rw [hW1, hM]; exact World.alloc_heap_new w _
 have H1 := Lib.hid (And.intro hb1 (And.intro hk1 (And.intro hM hW1)))
 clear hb1 hk1 hM hW1 hs19 hT
 go_enter Tryd.func4, Tryd.ntmps4
 go_wp2_with fail
 rw [← H1.out.2.2.2, ← H1.out.2.2.1]
 refine (examples_calls _).mono ?_
 rintro e W2 ⟨rfl, hb2⟩
 have hk2 : W2.heap[M]? = some (.cells #[.bool chars, .bool fold] 23 (0, 0)) := (hb2.block M (Array.getElem?_eq_some_iff.1 H1.out.2.1).1).trans H1.out.2.1
 have HB2 := Lib.hid (H1.out.1.trans (hb2.mono H1.out.1.size))
 have HK2 := Lib.hid hk2
 have m0 := heapCell (i := 0) hk2 rfl
 have m1 := heapCell (i := 1) hk2 rfl
 clear hb2 hk2
 rcases hcs with ⟨hbig, hss⟩ | ⟨hbig, hss⟩
 ·have hbi : (1900 : Int) < (text.size : Int) := by omega
  have hbj : (1900 : Int) ≤ (text.size : Int) := by omega
  have HSS := Lib.hid hss
  clear hss hbig
  go_wp2_with fail
  rw [← HSS.out]
  clear HSS hbi hbj
  refine (HA.out W2 HB2.out).mono ?_
  rintro e W3 ⟨hb3, k, m, lo, hi, ar, ak, lr, cr, lk, ck, rfl, hN3⟩
  have hk3 : W3.heap[M]? = some (.cells #[.bool chars, .bool fold] 23 (0, 0)) := (hb3.block M (Array.getElem?_eq_some_iff.1 HK2.out).1).trans HK2.out
  have HB3 := Lib.hid (HB2.out.trans (hb3.mono HB2.out.size))
  have hh4 := HeldT.new hN3
  have hbn4 : Below W3.heap.size W3 (W3.alloc (.cells #[.int .i64 k, .int .i64 m, .int .i64 lo, .int .i64 hi, .slice ar lr cr, .slice ak lk ck] 28)) := (Below.refl _ _).alloc (Nat.le_refl _) _
  have hk4 := (hbn4.block M (Array.getElem?_eq_some_iff.1 hk3).1).trans hk3
  have HB4 := Lib.hid (HB3.out.trans (hbn4.mono HB3.out.size))
  have HH4 := Lib.hid hh4
  have hlm := (Array.getElem?_eq_some_iff.1 hk3).1
  have HK4 := Lib.hid hk4
  have n0 := heapCell (i := 0) hk3 rfl
  have n1 := heapCell (i := 1) hk3 rfl
  clear HA hb3 hN3 hk3 hbn4 hk4 hh4 m0 m1
  go_wp2_with fail
  refine (HBB.out _).mono ?_
  rintro e W5 ⟨hb5, k', m', lo', hi', ar', ak', lr', cr', lk', ck', rfl, hN5⟩
  have HB5 := Lib.hid (HB4.out.trans (hb5.mono HB4.out.size))
  have HH5 := Lib.hid (HH4.out.below hb5)
  have HX := Lib.hid (HeldT.new hN5)
  have hB : Below W5.heap.size W5 (W5.alloc (.cells #[.int .i64 k', .int .i64 m', .int .i64 lo', .int .i64 hi', .slice ar' lr' cr', .slice ak' lk' ck'] 28)) := (Below.refl _ _).alloc (Nat.le_refl _) _
  have HH6 := Lib.hid (HH5.out.below hB)
  have HB6 := Lib.hid (HB5.out.trans (hB.mono HB5.out.size))
  have hg3 := HH5.out.lt
  have x0 := heapCell (i := 0) HH5.out.1 rfl
  have x1 := heapCell (i := 1) HH5.out.1 rfl
  have x2 := heapCell (i := 2) HH5.out.1 rfl
  have x3 := heapCell (i := 3) HH5.out.1 rfl
  have x4 := heapCell (i := 4) HH5.out.1 rfl
  have x5 := heapCell (i := 5) HH5.out.1 rfl
  clear HBB hb5 hN5 hB n0 n1
  go_wp2_with fail
  refine (HSM.out _ _ _ _ _ _ _ _ _ _ _ _ _ _ _ _ _ _ _ _ _ HH6.out.2 HX.out.2 HN.out).mono ?_
  rintro e W7 ⟨rfl, hb7⟩
  have HB7 := Lib.hid (HB6.out.trans (hb7.mono HB6.out.size))
  clear hb7
  go_wp2_with fail
  go_ret
  exact ⟨rfl, HB7.out⟩
 ·have hbi : ¬ (1900 : Int) < (text.size : Int) := by omega
  subst hss
  clear hbig
  go_wp2_with fail
  clear hbi
  refine (HA.out W2 HB2.out).mono ?_
  rintro e W3 ⟨hb3, k, m, lo, hi, ar, ak, lr, cr, lk, ck, rfl, hN3⟩
  have hk3 : W3.heap[M]? = some (.cells #[.bool chars, .bool fold] 23 (0, 0)) := (hb3.block M (Array.getElem?_eq_some_iff.1 HK2.out).1).trans HK2.out
  have HB3 := Lib.hid (HB2.out.trans (hb3.mono HB2.out.size))
  have hh4 := HeldT.new hN3
  have hbn4 : Below W3.heap.size W3 (W3.alloc (.cells #[.int .i64 k, .int .i64 m, .int .i64 lo, .int .i64 hi, .slice ar lr cr, .slice ak lk ck] 28)) := (Below.refl _ _).alloc (Nat.le_refl _) _
  have hk4 := (hbn4.block M (Array.getElem?_eq_some_iff.1 hk3).1).trans hk3
  have HB4 := Lib.hid (HB3.out.trans (hbn4.mono HB3.out.size))
  have HH4 := Lib.hid hh4
  have hlm := (Array.getElem?_eq_some_iff.1 hk3).1
  have HK4 := Lib.hid hk4
  have n0 := heapCell (i := 0) hk3 rfl
  have n1 := heapCell (i := 1) hk3 rfl
  clear HA hb3 hN3 hk3 hbn4 hk4 hh4 m0 m1
  go_wp2_with fail
  refine (HBB.out _).mono ?_
  rintro e W5 ⟨hb5, k', m', lo', hi', ar', ak', lr', cr', lk', ck', rfl, hN5⟩
  have HB5 := Lib.hid (HB4.out.trans (hb5.mono HB4.out.size))
  have HH5 := Lib.hid (HH4.out.below hb5)
  have HX := Lib.hid (HeldT.new hN5)
  have hB : Below W5.heap.size W5 (W5.alloc (.cells #[.int .i64 k', .int .i64 m', .int .i64 lo', .int .i64 hi', .slice ar' lr' cr', .slice ak' lk' ck'] 28)) := (Below.refl _ _).alloc (Nat.le_refl _) _
  have HH6 := Lib.hid (HH5.out.below hB)
  have HB6 := Lib.hid (HB5.out.trans (hB.mono HB5.out.size))
  have hg3 := HH5.out.lt
  have x0 := heapCell (i := 0) HH5.out.1 rfl
  have x1 := heapCell (i := 1) HH5.out.1 rfl
  have x2 := heapCell (i := 2) HH5.out.1 rfl
  have x3 := heapCell (i := 3) HH5.out.1 rfl
  have x4 := heapCell (i := 4) HH5.out.1 rfl
  have x5 := heapCell (i := 5) HH5.out.1 rfl
  clear HBB hb5 hN5 hB n0 n1
  go_wp2_with fail
  refine (HSM.out _ _ _ _ _ _ _ _ _ _ _ _ _ _ _ _ _ _ _ _ _ HH6.out.2 HX.out.2 HN.out).mono ?_
  rintro e W7 ⟨rfl, hb7⟩
  have HB7 := Lib.hid (HB6.out.trans (hb7.mono HB6.out.size))
  clear hb7
  go_wp2_with fail
  go_ret
  exact ⟨rfl, HB7.out⟩
end Go.Proofs.YtamhkdlcoghdbaaDoor.PCls
