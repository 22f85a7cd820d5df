/- Out of TRRight (wip/tools/prune2.py): the declarations alone that the texts of the trees name. -/
import Derived.Test.YtamhkdlcoghdbaaKTRForm
import Derived.Test.YtamhkdlcoghdbaaKTRCount
import Derived.Test.YtamhkdlcoghdbaaKTRPure
import Derived.Test.YtamhkdlcoghdbaaKTKid
namespace Go.Proofs.Ytamhkdlcoghdbaa.PCls
open Go.RowKit Go.Shelf Go.Proofs.YtamhkdlcoghdbaaW.PrintWords Go.Proofs.YtamhkdlcoghdbaaW.PrintLast Go.Proofs.YtamhkdlcoghdbaaW.PrintMore
set_option linter.unusedVariables false
set_option linter.unusedSimpArgs false
/-- how deep a place can be -/
theorem deep_bd : ∀ (t : NT) (d a : Int) (f l b : Bool) (s : Step), s ∈ enters (evs t d a f l b) → d ≤ s.deep ∧ s.deep < d + t.nodes := by
 have hL : ∀ ts : List NT, (∀ t, t ∈ ts → ∀ (d a : Int) (f l b : Bool) (s : Step), s ∈ enters (evs t d a f l b) → d ≤ s.deep ∧ s.deep < d + t.nodes) → ∀ (d a : Int) (c i : Nat) (b : Bool) (s : Step), s ∈ enters (evsL ts d a c i b) → d ≤ s.deep ∧ s.deep < d + NT.nodesL ts := by
  intro ts
  induction ts with
  | nil => intro _ d a c i b s h; simp [evsL, enters] at h
  | cons x ts ih =>
   intro h d a c i b s hs
   simp only [evsL, enters_append, List.mem_append] at hs
   simp only [NT.nodesL]
   rcases hs with hs | hs
   ·have := h x List.mem_cons_self _ _ _ _ _ s hs; omega
   ·have := ih (fun t ht => h t (List.mem_cons_of_mem _ ht)) _ _ _ _ _ s hs; omega
 refine fun t => NT.ind (P := fun t => ∀ (d a : Int) (f l b : Bool) (s : Step), s ∈ enters (evs t d a f l b) → d ≤ s.deep ∧ s.deep < d + t.nodes) (fun k m lo hi r kids ih d a f l b s hs => ?_) t
 simp only [evs, enters, enters_append, List.mem_cons, List.mem_append, List.append_nil, List.not_mem_nil, or_false] at hs
 simp only [NT.nodes]
 rcases hs with rfl | hs
 ·simp only; omega
 ·have := hL kids ih _ _ _ _ _ s hs; omega
/-- one number more behind a list of the call's own -/
theorem ints_append {X : World} {B0 : Nat} {v : Value} {xs : List Nat} (h : X.ownsRow B0 3 1 v xs.length (xs.map (fun n : Nat => Value.int .i64 (n : Int)))) (hb : B0 ≤ X.heap.size) (hl : xs.length < 549755813888) (ad : Addr) (c : Nat) (y : Nat) (hy : X.cell? (ad.add 0) = some (.int .i64 (y : Int))) :
  ∃ v' W, (Builtin.append_ #[75, 75] 75 #[v, .slice (some ad) 1 c]).run Try.prog X = .ok v' W ∧ W.ownsRow B0 3 1 v' (xs ++ [y]).length ((xs ++ [y]).map (fun n : Nat => Value.int .i64 (n : Int))) ∧ X.grownBy W v.ownBlock := by
 obtain ⟨i0, hi, hz0, hz1, hz2⟩ := info_parts info3'
 obtain ⟨v', W, hrun, hown, hgrow, hnil, hat⟩ := run_append_own_at X B0 75 75 3 i0 _ 1 8 Try.underlying75 hi hz0 hz1 hz2 rfl (by decide) v xs.length _ h ad 1 c [.int .i64 (y : Int)] rfl (fun j u hj => by
  match j, hj with
  | 0, hj => simp at hj; subst hj; exact hy) (by intro u hu; simp at hu; subst hu; rfl) (by unfold maxLen; omega) (by omega) hb
 exact ⟨v', W, hrun, by rw [List.map_append, List.length_append]; exact hown, hgrow⟩
/-- between two rounds of the reference's Right -/
structure RrSt (w2 wr : World) (av : Value) (ats ends : List Nat) (L : List Pl) : Prop where
 bel : Below w2.heap.size w2 wr
 own : wr.ownsRow w2.heap.size 3 1 av ats.length (ats.map (fun n : Nat => Value.int .i64 (n : Int)))
 len : ends.length = ats.length
 at_ : ∀ (q a : Nat), ats[q]? = some a → ∃ p : Pl, L[a]? = some p ∧ ends[q]? = some p.en
theorem RrSt.below {w2 A B : World} {av : Value} {ats ends : List Nat} {L : List Pl} (h : RrSt w2 A av ats ends L) (hb : Below A.heap.size A B) : RrSt w2 B av ats ends L :=
 ⟨h.bel.trans (hb.mono h.bel.size), own_move h.own (fun k hk => hb.block k (h.own.lt k hk).2), h.len, h.at_⟩
theorem RrSt.grown {w2 A B : World} {av bv : Value} {ats ends : List Nat} {L : List Pl} {y : Nat} {p : Pl} (h : RrSt w2 A av ats ends L) (hg : A.grownBy B av.ownBlock) (ho : B.ownsRow w2.heap.size 3 1 bv (ats ++ [y]).length ((ats ++ [y]).map (fun n : Nat => Value.int .i64 (n : Int)))) (hp : L[y]? = some p) : RrSt w2 B bv (ats ++ [y]) (ends ++ [p.en]) L := by
 refine ⟨⟨hg.os.trans h.bel.os, hg.tape.trans h.bel.tape, hg.output.trans h.bel.output, Nat.le_trans h.bel.size hg.size, fun b hb => (hg.block b (Nat.lt_of_lt_of_le hb h.bel.size) (fun e => by have := (h.own.lt b e.symm).1; omega)).trans (h.bel.block b hb)⟩, ho, by simp [h.len], fun q a hq => ?_⟩
 by_cases hl : q < ats.length
 ·rw [List.getElem?_append_left hl] at hq
  obtain ⟨p', h1, h2⟩ := h.at_ q a hq
  exact ⟨p', h1, by rw [List.getElem?_append_left (by rw [h.len]; exact hl)]; exact h2⟩
 ·rw [List.getElem?_append_right (by omega)] at hq
  have hq0 : q = ats.length := by have := (List.getElem?_eq_some_iff.1 hq).1; simp at this; omega
  subst hq0
  simp at hq
  subst hq
  exact ⟨p, hp, by rw [List.getElem?_append_right (by rw [h.len]; exact Nat.le_refl _), h.len]; simp⟩
set_option maxHeartbeats 16000000 in
set_option maxRecDepth 100000 in
theorem refright_calls (k m lo hi : Int) (r : List S64) (kids : List NT) (ar ak : Option Addr) (cr ck : Nat) (chars fold : Bool) (W : World) (hT : NIn W (· < W.heap.size) (.mk k m lo hi r kids) [.int .i64 k, .int .i64 m, .int .i64 lo, .int .i64 hi, .slice ar r.length cr, .slice ak kids.length ck]) (hn : (NT.mk k m lo hi r kids).nodes < 274877906944) :
  Calls Try.prog 60 #[.agg #[.int .i64 k, .int .i64 m, .int .i64 lo, .int .i64 hi, .slice ar r.length cr, .slice ak kids.length ck], .agg #[.bool chars, .bool fold]] W (RetInt (rightT (.mk k m lo hi r kids) chars fold) W) := by
 obtain ⟨W2, hW2⟩ : ∃ W2, W2 = (W.alloc (.cells #[.int .i64 k, .int .i64 m, .int .i64 lo, .int .i64 hi, .slice ar r.length cr, .slice ak kids.length ck] 44)).alloc (.cells #[.bool chars, .bool fold] 46) := ⟨_, rfl⟩
 have hst : KidSt W W2 #[.int .i64 k, .int .i64 m, .int .i64 lo, .int .i64 hi, .slice ar r.length cr, .slice ak kids.length ck] chars fold := by rw [hW2]; exact KidSt.start W _ chars fold
 have HL := Lib.hid (laid_calls 2001 (by decide) k m lo hi r kids ar ak cr ck W2 ((hT.keep hst.bel).mono (fun b h => Nat.lt_of_lt_of_le h hst.bel.size)) hn)
 obtain ⟨RT, hRT⟩ : ∃ RT, RT = rightT (.mk k m lo hi r kids) chars fold := ⟨_, rfl⟩
 have HRT := Lib.hid hRT
 rw [← hRT]
 have HST := Lib.hid hst
 have HW2 := Lib.hid hW2
 have HNN := Lib.hid hn
 have c0 := cell_heap (i := 0) HST.out.node rfl
 have c1 := cell_heap (i := 1) HST.out.node rfl
 have c2 := cell_heap (i := 2) HST.out.node rfl
 have c3 := cell_heap (i := 3) HST.out.node rfl
 have c4 := cell_heap (i := 4) HST.out.node rfl
 have c5 := cell_heap (i := 5) HST.out.node rfl
 clear hT hn hst hW2 hRT
 go_enter Try.func60, Try.ntmps60
 go_wp2_with fail
 rw [← HW2.out]
 refine HL.out.mono ?_
 rintro e w2 h
 obtain ⟨g, c, L, rfl, h1, h2, h3, h4, h5⟩ := laid_open (by decide) h
 have hlm : L.length ≤ 2001 := by omega
 have HS2 := Lib.hid (HST.out.below h5)
 have HP := Lib.hid h1
 have HEQ0 := Lib.hid (show RT = refRun chars fold (L.map Pl.two) 0 [] by rw [h2, ref_right]; exact HRT.out)
 have HDP := Lib.hid (show ∀ (j : Nat) (p : Pl), L[j]? = some p → 0 ≤ p.s.deep ∧ p.s.deep ≤ 4611686018427387904 from fun j p hp => by
  have hmem : p.s ∈ L.map Pl.s := List.mem_map.2 ⟨p, List.mem_of_getElem? hp, rfl⟩
  rw [h3] at hmem
  have h9 := deep_bd (.mk k m lo hi r kids) 1 0 true true true p.s (List.mem_of_mem_take hmem)
  have h8 := HNN.out
  omega)
 have HB5 := Lib.hid h5
 clear h h1 h2 h3 h4 h5 c0 c1 c2 c3 c4 c5 HST HW2 HL HRT
 go_wp2_with fail
 go_loopg [6, 7, 8] L.length (fun gg s6 s7 s8 wr => ∃ (av : Value) (ats ends : List Nat) (j : Nat), s6 = .int .i64 (ends.length : Int) ∧ av = s7 ∧ s8 = .int .i64 j ∧ j ≤ L.length ∧ L.length - j ≤ gg ∧ ends.length ≤ j ∧ Aside0 (RrSt w2 wr av ats ends L ∧ RT = refRun chars fold ((L.drop j).map Pl.two) j ends))
 case atStart => exact ⟨_, [], [], 0, rfl, rfl, rfl, by omega, by omega, by simp, ⟨⟨Below.refl _ _, ⟨rfl, .inl ⟨rfl, rfl⟩⟩, rfl, fun q a h => by simp at h⟩, HEQ0.out⟩⟩
 case round =>
  obtain ⟨av, ats, ends, j, rfl, rfl, rfl, hj, hgg, hej, HQ⟩ := hrel
  by_cases hlt : j < L.length
  ·have hlt' : (j : Int) < (L.length : Int) := by omega
   obtain ⟨p, hp⟩ : ∃ p, L[j]? = some p := ⟨_, List.getElem?_eq_getElem hlt⟩
   have hN := HP.out.nin p (List.mem_of_getElem? hp)
   have hPr := HP.out.below (Nat.le_trans HS2.out.bel.size (Nat.le_refl _) |> fun _ => HB5.out.size) HQ.out.1.bel
   have hdp := HDP.out j p hp
   have hdrop : (L.drop j).map Pl.two = Pl.two p :: (L.drop (j + 1)).map Pl.two := by
    obtain ⟨hh, e⟩ := List.getElem?_eq_some_iff.1 hp
    rw [List.drop_eq_getElem_cons hh, e]; rfl
   obtain ⟨⟨⟨pk, pm, plo, phi, pr, pkids⟩, pd, pa, pf, pl, pb⟩, pen, pcs⟩ := p
   obtain ⟨par, pak, pcr, pck, rfl⟩ := NIn.shape hN
   have HR := Lib.hid (show RT = refRun chars fold (((⟨.mk pk pm plo phi pr pkids, pd, pa, pf, pl, pb⟩ : Step), pen) :: (L.drop (j + 1)).map Pl.two) j ends by have := HQ.out.2; rw [hdrop] at this; exact this)
   have c0 : wr.cell? ⟨g, j * 12, none⟩ = some (.int .i64 pk) := hPr.cell hp (i := 0) rfl
   have c1 : wr.cell? ⟨g, j * 12 + 1, none⟩ = some (.int .i64 pm) := hPr.cell hp (i := 1) rfl
   have c2 : wr.cell? ⟨g, j * 12 + 2, none⟩ = some (.int .i64 plo) := hPr.cell hp (i := 2) rfl
   have c3 : wr.cell? ⟨g, j * 12 + 3, none⟩ = some (.int .i64 phi) := hPr.cell hp (i := 3) rfl
   have c4 : wr.cell? ⟨g, j * 12 + 4, none⟩ = some (.slice par pr.length pcr) := hPr.cell hp (i := 4) rfl
   have c5 : wr.cell? ⟨g, j * 12 + 5, none⟩ = some (.slice pak pkids.length pck) := hPr.cell hp (i := 5) rfl
   have c6 : wr.cell? ⟨g, j * 12 + 6, none⟩ = some (.int .i64 pd) := hPr.cell hp (i := 6) rfl
   have c7 : wr.cell? ⟨g, j * 12 + 7, none⟩ = some (.int .i64 pa) := hPr.cell hp (i := 7) rfl
   have c8 : wr.cell? ⟨g, j * 12 + 8, none⟩ = some (.bool pf) := hPr.cell hp (i := 8) rfl
   have c9 : wr.cell? ⟨g, j * 12 + 9, none⟩ = some (.bool pl) := hPr.cell hp (i := 9) rfl
   have c10 : wr.cell? ⟨g, j * 12 + 10, none⟩ = some (.bool pb) := hPr.cell hp (i := 10) rfl
   have c11 : wr.cell? ⟨g, j * 12 + 11, none⟩ = some (.int .i64 pen) := hPr.cell hp (i := 11) rfl
   obtain ⟨ava, avc, rfl, hvc⟩ : ∃ ava avc, av = .slice ava ats.length avc ∧ ats.length ≤ avc := by
    rcases HQ.out.1.own.2 with ⟨e, e0⟩ | ⟨g, cap, cur, e, _, _, hcl, _⟩
    ·exact ⟨none, 0, by rw [e, e0], by omega⟩
    ·exact ⟨_, _, e, hcl⟩
   have hNr := hN.move (w' := wr) (fun b hb => HQ.out.1.bel.block b (Nat.lt_of_lt_of_le hb HB5.out.size))
   have HNR := Lib.hid hNr
   have HPJ := Lib.hid hp
   have HLEN := Lib.hid HQ.out.1.len
   have hd0 : 0 ≤ pd := hdp.1
   have hd1 : pd ≤ 4611686018427387904 := hdp.2
   clear hN hPr hdrop hp hNr hdp
   by_cases hA : 2000 ≤ j
   ·have hA1 : (2000 : Int) ≤ (j : Int) := by omega
    have HX := Lib.hid (show RT = 42 by rw [HR.out]; simp only [refRun]; rw [if_pos hA])
    have HBL := Lib.hid ((HS2.out.bel.trans (HQ.out.1.bel.mono HS2.out.bel.size)).alloc (Nat.le_trans HS2.out.bel.size HQ.out.1.bel.size) (.cells #[.int .i64 pk, .int .i64 pm, .int .i64 plo, .int .i64 phi, .slice par pr.length pcr, .slice pak pkids.length pck, .int .i64 pd, .int .i64 pa, .bool pf, .bool pl, .bool pb, .int .i64 pen] 88))
    clear hA
    go_wp2_with fail
    go_ret
    exact ⟨congrArg (fun x => Ending.returned (Value.int .i64 x)) HX.out.symm, HBL.out⟩
   have hA1 : ¬ (2000 : Int) ≤ (j : Int) := by omega
   by_cases hD : 40 < pd
   ·have HX := Lib.hid (show RT = 43 by rw [HR.out]; simp only [refRun]; rw [if_neg hA, if_pos hD])
    have HBL := Lib.hid ((HS2.out.bel.trans (HQ.out.1.bel.mono HS2.out.bel.size)).alloc (Nat.le_trans HS2.out.bel.size HQ.out.1.bel.size) (.cells #[.int .i64 pk, .int .i64 pm, .int .i64 plo, .int .i64 phi, .slice par pr.length pcr, .slice pak pkids.length pck, .int .i64 pd, .int .i64 pa, .bool pf, .bool pl, .bool pb, .int .i64 pen] 88))
    go_wp2_with fail
    go_ret
    exact ⟨congrArg (fun x => Ending.returned (Value.int .i64 x)) HX.out.symm, HBL.out⟩
   obtain ⟨S, hS⟩ : ∃ S, S = stands (⟨.mk pk pm plo phi pr pkids, pd, pa, pf, pl, pb⟩ : Step) := ⟨_, rfl⟩
   obtain ⟨X, hX⟩ : ∃ X, X = wr.alloc (.cells #[.int .i64 pk, .int .i64 pm, .int .i64 plo, .int .i64 phi, .slice par pr.length pcr, .slice pak pkids.length pck, .int .i64 pd, .int .i64 pa, .bool pf, .bool pl, .bool pb, .int .i64 pen] 88) := ⟨_, rfl⟩
   have hbX : Below wr.heap.size wr X := by rw [hX]; exact (Below.refl _ wr).alloc (Nat.le_refl _) _
   have hpX : X.heap[wr.heap.size]? = some (.cells #[.int .i64 pk, .int .i64 pm, .int .i64 plo, .int .i64 phi, .slice par pr.length pcr, .slice pak pkids.length pck, .int .i64 pd, .int .i64 pa, .bool pf, .bool pl, .bool pb, .int .i64 pen] 88 (0, 0)) := by rw [hX]; exact World.alloc_heap_new wr _
   have hsX : X.heap.size = wr.heap.size + 1 := by rw [hX]; simp
   have hfc := fun (h1 : Kd.C k64 X par pr.length pr) (h2 : pr.length ≤ pcr) (h3 : pr.length < 2097152) (h4 : inR pr = true) => refformed_calls pk pm plo phi pd pa pen pr pkids par pak pcr pck pf pl pb chars fold X S hS h1 h2 h3 h4
   have hfc2 : Calls Try.prog 99 #[.agg #[.int .i64 pk, .int .i64 pm, .int .i64 plo, .int .i64 phi, .slice par pr.length pcr, .slice pak pkids.length pck, .int .i64 pd, .int .i64 pa, .bool pf, .bool pl, .bool pb, .int .i64 pen], .agg #[.bool chars, .bool fold]] X fun e w' => e = .returned (.bool (S && formed (.mk pk pm plo phi pr pkids) chars fold)) ∧ Below X.heap.size X w' := by
    have hh := HNR.out
    cases hh with
    | mk _ _ _ _ _ _ _ _ _ _ cq q1 q2 q3 q4 q5 q6 q7 q8 q9 => exact hfc (Kd.C_below q1 hbX) q3 q4 q5
   obtain ⟨OK, hOK⟩ : ∃ OK, OK = (S && formed (.mk pk pm plo phi pr pkids) chars fold) := ⟨_, rfl⟩
   rw [← hOK] at hfc2
   have hRR : RT = refRun chars fold (((⟨.mk pk pm plo phi pr pkids, pd, pa, pf, pl, pb⟩ : Step), pen) :: (L.drop (j + 1)).map Pl.two) j ends := HR.out
   simp only [refRun] at hRR
   rw [if_neg hA, if_neg hD, show (stands (⟨.mk pk pm plo phi pr pkids, pd, pa, pf, pl, pb⟩ : Step) && formed (NT.mk pk pm plo phi pr pkids) chars fold) = OK by rw [hOK, hS]] at hRR
   rw [hX] at hfc2
   have HFC := Lib.hid hfc2
   have HRR := Lib.hid hRR
   have HX0 := Lib.hid hX
   have HBX := Lib.hid hbX
   have HPX := Lib.hid hpX
   have HSX := Lib.hid hsX
   have HOK := Lib.hid (And.intro hOK hS)
   have mm := ((HS2.out.below HQ.out.1.bel).below (hbX.mono (Nat.le_refl _))).mode
   rw [hX] at mm
   have m0 := cell_heap (i := 0) mm rfl
   have m1 := cell_heap (i := 1) mm rfl
   have HAD := Lib.hid (And.intro hA hD)
   have hD1 : ¬ 40 < pd := hD
   clear hfc hfc2 hOK hS hRR hX hbX hpX hsX mm hA hD HR
   go_wp2_with fail
   refine HFC.out.mono ?_
   rintro e w5 ⟨rfl, hb5⟩
   rw [← HX0.out] at hb5
   have hX5 := (hb5.block _ (by have := HSX.out; omega)).trans HPX.out
   have HQ5 := Lib.hid (HQ.out.1.below (HBX.out.trans (hb5.mono HBX.out.size)))
   have HW5 := Lib.hid (show wr.heap.size + 1 ≤ w5.heap.size by have h1 := HSX.out; have h2 := hb5.size; omega)
   have HBL := Lib.hid (HS2.out.bel.trans (HQ5.out.bel.mono HS2.out.bel.size))
   have HXP5 := Lib.hid hX5
   have y0 := cell_heap (i := 0) hX5 rfl
   have y1 := cell_heap (i := 1) hX5 rfl
   have y2 := cell_heap (i := 2) hX5 rfl
   have y3 := cell_heap (i := 3) hX5 rfl
   have y4 := cell_heap (i := 4) hX5 rfl
   have y5 := cell_heap (i := 5) hX5 rfl
   have y6 := cell_heap (i := 6) hX5 rfl
   have y7 := cell_heap (i := 7) hX5 rfl
   have y8 := cell_heap (i := 8) hX5 rfl
   have y9 := cell_heap (i := 9) hX5 rfl
   have y10 := cell_heap (i := 10) hX5 rfl
   have y11 := cell_heap (i := 11) hX5 rfl
   clear hX5 hb5 HFC m0 m1 c0 c1 c2 c3 c4 c5 c6 c7 c8 c9 c10 c11
   cases OK with
   | false =>
    have HX := Lib.hid (show RT = 50 by rw [HRR.out]; rfl)
    go_wp2_with fail
    go_ret
    exact ⟨congrArg (fun x => Ending.returned (Value.int .i64 x)) HX.out.symm, HBL.out⟩
   | true =>
    have HR1 := Lib.hid (show RT = _ by have h := HRR.out; simp only [Bool.not_true, Bool.false_or] at h; exact h)
    by_cases h7 : pk = 7
    ·subst h7
     by_cases hm7 : pm ≠ (ends.length : Int) + 1
     ·have HX := Lib.hid (show RT = 50 by rw [HR1.out, if_pos (by simp [NT.k, NT.m, hm7])])
      have b7 : (pm != (ends.length : Int) + 1) = true := by rw [bne_iff_ne]; exact hm7
      clear hm7
      go_wp2_with fail
      go_ret
      exact ⟨congrArg (fun x => Ending.returned (Value.int .i64 x)) HX.out.symm, HBL.out⟩
     ·obtain rfl : pm = (ends.length : Int) + 1 := by simpa using hm7
      clear hm7
      have HR2 := Lib.hid (show RT = if 30 < ends.length + 1 then 42 else refRun chars fold ((L.drop (j + 1)).map Pl.two) (j + 1) (ends ++ [pen]) by rw [HR1.out, if_neg (by simp [NT.k, NT.m])]; exact if_pos rfl)
      obtain ⟨Y, hY⟩ : ∃ Y, Y = w5.alloc (.cells #[.int .i64 (j : Int)] 3) := ⟨_, rfl⟩
      have hbY : Below w5.heap.size w5 Y := by rw [hY]; exact (Below.refl _ w5).alloc (Nat.le_refl _) _
      have hyY : Y.heap[w5.heap.size]? = some (.cells #[.int .i64 (j : Int)] 3 (0, 0)) := by rw [hY]; exact World.alloc_heap_new w5 _
      obtain ⟨v', W6, hrun, hown, hgr⟩ := ints_append (HQ5.out.below hbY).own (HQ5.out.below hbY).bel.size (by have := HLEN.out; omega) ⟨w5.heap.size, 0, none⟩ 1 j (by rw [add_plain]; exact cell_heap hyY rfl)
      have hQ6 := (HQ5.out.below hbY).grown hgr hown HPJ.out
      have hx6 := (hgr.block _ (by have h1 := hbY.size; have h2 := HW5.out; omega) (fun e => by have h1 := (HQ.out.1.own.lt _ e.symm).2; omega)).trans ((hbY.block _ (by have h2 := HW5.out; omega)).trans HXP5.out)
      rw [hY] at hrun
      have HRUN := Lib.hid hrun
      have HQ6 := Lib.hid hQ6
      have HBL6 := Lib.hid (HS2.out.bel.trans (hQ6.bel.mono HS2.out.bel.size))
      have z0 := cell_heap (i := 0) hx6 rfl
      have z1 := cell_heap (i := 1) hx6 rfl
      clear hrun hQ6 hx6 hown hgr hY hbY hyY
      by_cases h30 : 30 < ends.length + 1
      ·have h301 : (30 : Int) < (ends.length : Int) + 1 := by omega
       have HX := Lib.hid (show RT = 42 by rw [HR2.out, if_pos h30])
       clear h30
       go_wp2_with (at_builtin; refine Lib.wpList_append_run _ rfl _ _ _ _ rfl _ _ rfl rfl _ _ HRUN.out ?_)
       go_ret
       exact ⟨congrArg (fun x => Ending.returned (Value.int .i64 x)) HX.out.symm, HBL6.out⟩
      ·have h301 : ¬ (30 : Int) < (ends.length : Int) + 1 := by omega
       have HX := Lib.hid (show RT = _ by rw [HR2.out, if_neg h30])
       clear h30
       go_wp2_with (at_builtin; refine Lib.wpList_append_run _ rfl _ _ _ _ rfl _ _ rfl rfl _ _ HRUN.out ?_)
       go_roundg (L.length - (j + 1))
       case measure => omega
       case rel => exact ⟨_, ats ++ [j], ends ++ [pen], j + 1, congrArg (Value.int .i64) (by rw [List.length_append]; simp), rfl, congrArg (Value.int .i64) (by first | (push_cast; rfl) | (rw [w64_lit _ (by omega) (by omega)]; push_cast; rfl)), by omega, Nat.le_refl _, by simp; omega, ⟨HQ6.out, HX.out⟩⟩
    ·have b7 : (pk == 7) = false := beq_eq_false_iff_ne.2 h7
     have HR2 := Lib.hid (show RT = _ by rw [HR1.out, if_neg (by simp [NT.k, h7]), if_neg (show ¬ (NT.mk pk pm plo phi pr pkids).k = 7 from h7)])
     clear h7
     by_cases h8 : pk = 8
     ·subst h8
      have hfm : formed (.mk 8 pm plo phi pr pkids) chars fold = true := by have h := HOK.out.1; simp only [Bool.true_eq, Bool.and_eq_true] at h; exact h.2
      rw [formed_8] at hfm
      simp only [Bool.and_eq_true, decide_eq_true_eq] at hfm
      have hp1 : 1 ≤ pm := hfm.1.1.1.1
      have hp9 : pm ≤ 9 := hfm.1.1.1.2
      clear hfm
      by_cases hgt : (ends.length : Int) < pm
      ·have HX := Lib.hid (show RT = 41 by rw [HR2.out, if_pos ⟨rfl, .inl hgt⟩])
       go_wp2_with fail
       go_ret
       exact ⟨congrArg (fun x => Ending.returned (Value.int .i64 x)) HX.out.symm, HBL.out⟩
      ·obtain ⟨q, rfl⟩ : ∃ q : Nat, pm = (q : Int) + 1 := ⟨(pm - 1).toNat, by omega⟩
       obtain ⟨at0, hat0⟩ : ∃ a, ats[q]? = some a := ⟨_, List.getElem?_eq_getElem (by have := HLEN.out; omega)⟩
       obtain ⟨pp, hpp, hen⟩ := HQ5.out.at_ q at0 hat0
       obtain ⟨ga, ca, eav⟩ : ∃ ga ca, Value.slice ava ats.length avc = .slice (some ⟨ga, 0, none⟩) ats.length ca := by
        rcases HQ5.out.own.2 with ⟨e, e0⟩ | ⟨g, cap, cur, e, _, _, hcl, _⟩
        ·have := (List.getElem?_eq_some_iff.1 hat0).1; omega
        ·exact ⟨_, _, e⟩
       simp only [Value.slice.injEq, true_and] at eav
       obtain ⟨rfl, rfl⟩ := eav
       have ca0 : w5.cell? ⟨ga, q, none⟩ = some (.int .i64 (at0 : Int)) := by
        have h9 := (List.getElem?_eq_some_iff.1 hat0).1
        have := HQ5.out.own.cellAt q (by omega)
        rw [this, List.getElem?_map, hat0]; rfl
       have hP5 := HP.out.below HB5.out.size HQ5.out.bel
       have hppn := (HP.out.nin pp (List.mem_of_getElem? hpp)).len
       have ce0 : w5.cell? ⟨g, at0 * 12 + 11, none⟩ = some (.int .i64 (pp.en : Int)) := hP5.cell hpp (i := 11) (by simp [Pl.cells, tailC, List.getElem?_append_right, hppn])
       have hal : (at0 : Int) < (L.length : Int) := by have := (List.getElem?_eq_some_iff.1 hpp).1; omega
       have hql : (q : Int) < (ats.length : Int) := by have := (List.getElem?_eq_some_iff.1 hat0).1; omega
       have hgd : ends.getD q 0 = pp.en := by simp [List.getD_eq_getElem?_getD, hen]
       have hqq : ((q : Int) + 1 - 1).toNat = q := by omega
       have hgt2 : ¬ (ends.length : Int) < (q : Int) + 1 := hgt
       by_cases hop : j < pp.en
       ·have hop1 : (j : Int) < (pp.en : Int) := by omega
        have HX := Lib.hid (show RT = 41 by rw [HR2.out, if_pos ⟨rfl, .inr (by simp only [NT.m]; rw [hqq, hgd]; exact hop)⟩])
        clear hat0 hpp hen hP5 hppn hgd hqq hop hgt
        go_wp2_with fail
        go_ret
        exact ⟨congrArg (fun x => Ending.returned (Value.int .i64 x)) HX.out.symm, HBL.out⟩
       ·have hop1 : ¬ (j : Int) < (pp.en : Int) := by omega
        have HX := Lib.hid (show RT = _ by rw [HR2.out, if_neg (by rintro ⟨_, h | h⟩; exact hgt h; simp only [NT.m] at h; rw [hqq, hgd] at h; exact hop h)])
        clear hat0 hpp hen hP5 hppn hgd hqq hop hgt
        go_wp2_with fail
        go_roundg (L.length - (j + 1))
        case measure => omega
        case rel => exact ⟨_, ats, ends, j + 1, rfl, rfl, congrArg (Value.int .i64) (by first | (push_cast; rfl) | (rw [w64_lit _ (by omega) (by omega)]; push_cast; rfl)), by omega, Nat.le_refl _, by omega, ⟨HQ5.out, HX.out⟩⟩
     ·have b8 : (pk == 8) = false := beq_eq_false_iff_ne.2 h8
      have HX := Lib.hid (show RT = _ by rw [HR2.out, if_neg (fun h => h8 h.1)])
      clear h8
      go_wp2_with fail
      go_roundg (L.length - (j + 1))
      case measure => omega
      case rel => exact ⟨_, ats, ends, j + 1, rfl, rfl, congrArg (Value.int .i64) (by first | (push_cast; rfl) | (rw [w64_lit _ (by omega) (by omega)]; push_cast; rfl)), by omega, Nat.le_refl _, by omega, ⟨HQ5.out, HX.out⟩⟩
  ·obtain rfl : j = L.length := by omega
   have hlt' : ¬ (L.length : Int) < (L.length : Int) := by omega
   have HX := Lib.hid (show RT = 0 by rw [HQ.out.2, List.drop_of_length_le (Nat.le_refl _)]; rfl)
   have HBL := Lib.hid (HS2.out.bel.trans (HQ.out.1.bel.mono HS2.out.bel.size))
   go_wp2_with fail
   go_ret
   exact ⟨congrArg (fun x => Ending.returned (Value.int .i64 x)) HX.out.symm, HBL.out⟩
end Go.Proofs.Ytamhkdlcoghdbaa.PCls
