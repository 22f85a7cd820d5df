/- Out of TTwin (wip/tools/prune2.py): the declarations alone that the texts of the trees name. -/
import Derived.Test.YtamhkdlcoghdbaaGreatDoorVMQZGTwo
namespace Go.Proofs.YtamhkdlcoghdbaaGreatDoor.PCls
open Go.RowKit Go.Proofs.YtamhkdlcoghdbaaGreatDoorW.PrintWords Go.Proofs.YtamhkdlcoghdbaaGreatDoorW.PrintLast Go.Proofs.YtamhkdlcoghdbaaGreatDoorW.PrintMore
set_option linter.unusedVariables false
set_option linter.unusedSimpArgs false
/-- between two rounds of twin's loop -/
structure TwinSt (w wr : World) (k m lo hi : Int) (r : List S64) (kids : List NT) (A : Option Addr) (c g gc : Nat) (cs : Nat → List Value) (j : Nat) (cj : Nat → List Value) : Prop where
 bel : Below w.heap.size w wr
 box : wr.heap[w.heap.size]? = some (.cells #[.int .i64 k, .int .i64 m, .int .i64 lo, .int .i64 hi, .slice A r.length c, .slice (some ⟨g, 0, none⟩) kids.length gc] 43 (0, 0))
 res : wr.heap[w.heap.size + 1]? = some (.cells #[.int .i64 0, .int .i64 0, .int .i64 0, .int .i64 0, .slice none 0 0, .slice none 0 0] 43 (0, 0))
 rng : Kd.C k64 wr A r.length r
 rngb : ∀ ad, A = some ad → r ≠ [] → w.heap.size + 2 ≤ ad.block ∧ ad.block < g
 gl : w.heap.size + 2 ≤ g ∧ g < wr.heap.size
 row : RowAt wr g kids.length cj
 len : ∀ i, i < kids.length → (cj i).length = 6
 done : ∀ i, i < j → ∀ t, kids[i]? = some t → NIn wr (fun b => g < b ∧ b < wr.heap.size) t (cj i)
 rest : ∀ i, j ≤ i → cj i = cs i
theorem TwinSt.next {w wr w8 : World} {k m lo hi : Int} {r : List S64} {kids : List NT} {A : Option Addr} {c g gc : Nat} {cs : Nat → List Value} {j : Nat} {cj : Nat → List Value} (h : TwinSt w wr k m lo hi r kids A c g gc cs j cj)
  (hj : j < kids.length) {t : NT} (ht : kids[j]? = some t) (hb : Below wr.heap.size wr w8) {v0 v1 v2 v3 v4 v5 : Value} (hN : NIn w8 (fun b => wr.heap.size ≤ b ∧ b < w8.heap.size) t [v0, v1, v2, v3, v4, v5]) :
  TwinSt w (put6 w8 g (j * 6) v0 v1 v2 v3 v4 v5) k m lo hi r kids A c g gc cs (j + 1) (fun i => if i = j then [v0, v1, v2, v3, v4, v5] else cj i) := by
 have hg := h.gl
 have hsz := hb.size
 have hmv : ∀ b, b ≠ g → b < wr.heap.size → (put6 w8 g (j * 6) v0 v1 v2 v3 v4 v5).heap[b]? = wr.heap[b]? := fun b h1 h2 => (put6_other _ _ _ _ _ _ _ _ _ b h1).trans (hb.block b h2)
 refine ⟨?_, ?_, ?_, ?_, h.rngb, ⟨hg.1, by rw [put6_size]; omega⟩, ?_, ?_, ?_, ?_⟩
 ·exact put6_below (h.bel.trans (hb.mono h.bel.size)) (by omega) _ _ _ _ _ _ _
 ·exact (hmv _ (by omega) (by omega)).trans h.box
 ·exact (hmv _ (by omega) (by omega)).trans h.res
 ·exact C_move (P := fun b => w.heap.size + 2 ≤ b ∧ b < g) h.rng h.rngb (fun b hb' => hmv b (by omega) (by omega))
 ·exact put6_row (h.row.keep (hb.block g hg.2)) hj _ _ _ _ _ _ h.len
 ·intro i hi
  by_cases hij : i = j
  ·rw [if_pos hij]; rfl
  ·rw [if_neg hij]; exact h.len i hi
 ·intro i hi t' ht'
  by_cases hij : i = j
  ·rw [if_pos hij]
   subst hij
   rw [ht] at ht'
   cases ht'
   exact (hN.move (fun b hb' => put6_other _ _ _ _ _ _ _ _ _ b (by omega))).mono (fun b hb' => by rw [put6_size]; omega)
  ·rw [if_neg hij]
   exact ((h.done i (by omega) t' ht').move (fun b hb' => hmv b (by omega) hb'.2)).mono (fun b hb' => by rw [put6_size]; omega)
 ·intro i hi
  rw [if_neg (by omega)]
  exact h.rest i (by omega)
set_option maxHeartbeats 8000000 in
set_option maxRecDepth 100000 in
theorem twin_calls (n0 : Nat) : ∀ (N : Nat) (t : NT) (cs : List Value) (w : World), t.nodes ≤ N → n0 ≤ w.heap.size → NIn w (· < n0) t cs →
  Calls Tryz.prog 58 #[.agg cs.toArray] w fun e w' => ∃ cs' : List Value, e = .returned (.agg cs'.toArray) ∧ NIn w' (fun b => w.heap.size ≤ b ∧ b < w'.heap.size) t cs' ∧ Below w.heap.size w w' := by
 intro N
 induction N with
 | zero => intro t cs w h; have := t.nodes_pos; omega
 | succ N ih =>
  intro t cs w hN hw hT
  have hT0 := hT
  cases hT with
  | mk k m lo hi r kids ar ak cr ck csk hr hrb hcr hrl hin hck hkl hk ha =>
   have HT := Lib.hid hT0
   have HN := Lib.hid hN
   have HW := Lib.hid hw
   have HI := Lib.hid ih
   have HC := Lib.hid (And.intro hr (And.intro hrb (And.intro hcr (And.intro hrl (And.intro hin (And.intro hck hkl))))))
   clear hT0 hN hw ih hr hrb hcr hrl hin hck hkl hk ha
   show Calls Tryz.prog 58 #[.agg #[.int .i64 k, .int .i64 m, .int .i64 lo, .int .i64 hi, .slice ar r.length cr, .slice ak kids.length ck]] w _
   obtain ⟨W1, hW1⟩ : ∃ W1, W1 = (w.alloc (.cells #[.int .i64 k, .int .i64 m, .int .i64 lo, .int .i64 hi, .slice ar r.length cr, .slice ak kids.length ck] 43)).alloc (.cells #[.int .i64 0, .int .i64 0, .int .i64 0, .int .i64 0, .slice none 0 0, .slice none 0 0] 43) := ⟨_, rfl⟩
   have hb1 : Below w.heap.size w W1 := by rw [hW1]; exact ((Below.refl _ w).alloc (Nat.le_refl _) _).alloc (by simp) _
   have hn1 : W1.heap[w.heap.size]? = some (.cells #[.int .i64 k, .int .i64 m, .int .i64 lo, .int .i64 hi, .slice ar r.length cr, .slice ak kids.length ck] 43 (0, 0)) := by rw [hW1]; exact (Below.heap_alloc _ _ _ (by simp)).trans (World.alloc_heap_new w _)
   have hz1 : W1.heap[w.heap.size + 1]? = some (.cells #[.int .i64 0, .int .i64 0, .int .i64 0, .int .i64 0, .slice none 0 0, .slice none 0 0] 43 (0, 0)) := by
    have := World.alloc_heap_new (w.alloc (.cells #[.int .i64 k, .int .i64 m, .int .i64 lo, .int .i64 hi, .slice ar r.length cr, .slice ak kids.length ck] 43)) (.cells #[.int .i64 0, .int .i64 0, .int .i64 0, .int .i64 0, .slice none 0 0, .slice none 0 0] 43)
    rw [World.size_alloc] at this
    rw [hW1]; exact this
   have hs1 : W1.heap.size = w.heap.size + 2 := by rw [hW1]; simp
   have mv1 : ∀ b, b < n0 → W1.heap[b]? = w.heap[b]? := fun b hb => hb1.block b (Nat.lt_of_lt_of_le hb HW.out)
   have hcl := api_Range_89.calls ar cr r r W1 (C_move (P := (· < n0)) HC.out.1 HC.out.2.1 mv1) HC.out.2.2.1 (by unfold api_Range_89.f; rw [if_pos (by have := HC.out.2.2.2.1; omega)])
   have HB1 := Lib.hid hb1
   have HN1 := Lib.hid hn1
   have HZ1 := Lib.hid hz1
   have HS1 := Lib.hid hs1
   rw [hW1] at hcl
   have HCL := Lib.hid hcl
   have HW1 := Lib.hid hW1
   clear hb1 hn1 hz1 hs1 mv1 hcl hW1
   go_enter Tryz.func58, Tryz.ntmps58
   go_wp2_with fail
   refine HCL.out.mono ?_
   rintro e w2 ⟨v, rfl, hR, hB⟩
   rw [← HW1.out] at hR hB
   obtain ⟨A, c, rfl⟩ := Kd.R_slice hR
   have hlt := R_lt hR
   have hrr := rR hR
   have hn2 := (hB.block _ (by have := HS1.out; omega)).trans HN1.out
   have hz2 := (hB.block _ (by have := HS1.out; omega)).trans HZ1.out
   obtain ⟨W3, hW3⟩ : ∃ W3, W3 = w2.setCell ⟨w.heap.size, 4, none⟩ (.slice A r.length c) := ⟨_, rfl⟩
   have hs2 := hB.size
   have hn3 : W3.heap[w.heap.size]? = some (.cells #[.int .i64 k, .int .i64 m, .int .i64 lo, .int .i64 hi, .slice A r.length c, .slice ak kids.length ck] 43 (0, 0)) := by rw [hW3]; exact set_row hn2 4 _
   have hz3 : W3.heap[w.heap.size + 1]? = some (.cells #[.int .i64 0, .int .i64 0, .int .i64 0, .int .i64 0, .slice none 0 0, .slice none 0 0] 43 (0, 0)) := by rw [hW3]; exact (Below.heap_setCell _ _ _ _ (by simp only; omega)).trans hz2
   have hb3 : Below w.heap.size w W3 := by rw [hW3]; exact (HB1.out.trans (hB.mono HB1.out.size)).setCell (p := ⟨w.heap.size, 4, none⟩) (Nat.le_refl _) _
   have hR3 : Kd.R k64 39 W3 W1.heap.size (fun _ => True) (.slice A r.length c) r := by
    rw [hW3]
    exact R_same hR (fun x hx => Below.heap_setCell _ _ _ _ (by have := (hlt x hx).1; have := HS1.out; simp only; omega))
   have hs3 : W3.heap.size = w2.heap.size := by rw [hW3]; simp [World.setCell]
   have mv3 : ∀ b, b < n0 → W3.heap[b]? = w.heap[b]? := fun b hb => hb3.block b (Nat.lt_of_lt_of_le hb HW.out)
   obtain ⟨csq, hk, hl6, hck⟩ := clone_kids (w := w) (HT.out.move mv3)
   have e0 := cell_heap (i := 0) hn2 rfl
   have e4 := cell_heap (i := 4) hn2 rfl
   have e5 := cell_heap (i := 5) hn2 rfl
   have f4 : w2.frozen? ⟨w.heap.size, 4, none⟩ = false := by simp [World.frozen?, hn2]
   have HN3 := Lib.hid hn3
   have HZ3 := Lib.hid hz3
   have HB3 := Lib.hid hb3
   have HR3 := Lib.hid hR3
   have HS3 := Lib.hid (And.intro hs3 hs2)
   have HK := Lib.hid hk
   have HL6 := Lib.hid hl6
   have HW3 := Lib.hid hW3
   rw [hW3] at hck
   have HLT := Lib.hid hlt
   clear hn2 hz2 hn3 hz3 hb3 hR3 hs3 hs2 hk hl6 mv3 hW3 hR hB hrr hlt
   go_wp2_with fail
   rcases hck with ⟨rfl, hck⟩ | ⟨hne, hck⟩
   ·have HCK := Lib.hid hck
    clear hck
    refine HCK.out.mono ?_
    rintro e w4 ⟨v2, hv2, rfl, hB4⟩
    rw [← HW3.out] at hB4
    have hn4 := (hB4.block _ (by have h1 := HS3.out; have h2 := HS1.out; omega)).trans HN3.out
    have hz4 := (hB4.block _ (by have h1 := HS3.out; have h2 := HS1.out; omega)).trans HZ3.out
    have HR4 := Lib.hid (R_below HR3.out hB4)
    have HB4 := Lib.hid (HB3.out.trans (hB4.mono HB3.out.size))
    have HS4 := Lib.hid (show w.heap.size + 2 ≤ w4.heap.size by have h1 := HS3.out; have h2 := HS1.out; have h3 := hB4.size; omega)
    obtain ⟨va, vc, rfl⟩ : ∃ va vc, v2 = .slice va 0 vc := by
     rcases hv2 with rfl | ⟨g, c2, rfl⟩
     ·exact ⟨none, 0, rfl⟩
     ·exact ⟨_, _, rfl⟩
    have c0 := cell_heap (i := 0) hn4 rfl
    have c1 := cell_heap (i := 1) hn4 rfl
    have c2 := cell_heap (i := 2) hn4 rfl
    have c3 := cell_heap (i := 3) hn4 rfl
    have c4 := cell_heap (i := 4) hn4 rfl
    have c5 := cell_heap (i := 5) hn4 rfl
    have d0 := cell_heap (i := 0) hz4 rfl
    have d1 := cell_heap (i := 1) hz4 rfl
    have d2 := cell_heap (i := 2) hz4 rfl
    have d3 := cell_heap (i := 3) hz4 rfl
    have d4 := cell_heap (i := 4) hz4 rfl
    have d5 := cell_heap (i := 5) hz4 rfl
    have f5 : w4.frozen? ⟨w.heap.size, 5, none⟩ = false := by simp [World.frozen?, hn4]
    have q0 : ∀ o, w4.frozen? ⟨w.heap.size + 1, o, none⟩ = false := fun o => by simp [World.frozen?, hz4]
    have HZ4 := Lib.hid hz4
    clear hn4 hz4 hB4 hv2 e0 e4 e5 f4
    go_wp2_with fail
    go_loopg [16] 0 (fun gg s16 wr => s16 = .int .i64 0 ∧ Aside0 (wr = w4.setCell ⟨w.heap.size, 5, none⟩ (.slice va 0 vc)))
    case atStart => exact ⟨rfl, ⟨rfl⟩⟩
    case round =>
     obtain ⟨rfl, HQ⟩ := hrel
     obtain rfl := HQ.out
     go_wp2
     obtain ⟨WF, hWF⟩ : ∃ WF, WF = put6 (w4.setCell ⟨w.heap.size, 5, none⟩ (.slice va 0 vc)) (w.heap.size + 1) 0 (.int .i64 k) (.int .i64 m) (.int .i64 lo) (.int .i64 hi) (.slice A r.length c) (.slice va 0 vc) := ⟨_, rfl⟩
     have hzF : WF.heap[w.heap.size + 1]? = some (.cells #[.int .i64 k, .int .i64 m, .int .i64 lo, .int .i64 hi, .slice A r.length c, .slice va 0 vc] 43 (0, 0)) := by
      rw [hWF]; unfold put6
      exact set_row (set_row (set_row (set_row (set_row (set_row ((Below.heap_setCell _ _ _ _ (by simp only; omega)).trans HZ4.out) _ _) _ _) _ _) _ _) _ _) _ _
     have hsF : WF.heap.size = w4.heap.size := by rw [hWF, put6_size]; simp [World.setCell]
     have hmF : ∀ b, w.heap.size + 2 ≤ b → WF.heap[b]? = w4.heap[b]? := fun b hb => by
      rw [hWF, put6_other _ _ _ _ _ _ _ _ _ b (by omega)]
      exact Below.heap_setCell _ _ _ _ (by simp only; omega)
     have hbF : Below w.heap.size w WF := by rw [hWF]; exact put6_below (HB4.out.setCell (p := ⟨w.heap.size, 5, none⟩) (Nat.le_refl _) _) (by omega) _ _ _ _ _ _ _
     change bodyPost Tryz.prog Tryz.f58 _ Exit.ret _ (put6 (w4.setCell ⟨w.heap.size, 5, none⟩ (.slice va 0 vc)) (w.heap.size + 1) 0 (.int .i64 k) (.int .i64 m) (.int .i64 lo) (.int .i64 hi) (.slice A r.length c) (.slice va 0 vc))
     rw [← hWF]
     have r0 := cell_heap (i := 0) hzF rfl
     have r1 := cell_heap (i := 1) hzF rfl
     have r2 := cell_heap (i := 2) hzF rfl
     have r3 := cell_heap (i := 3) hzF rfl
     have r4 := cell_heap (i := 4) hzF rfl
     have r5 := cell_heap (i := 5) hzF rfl
     refine bodyPost_ret (v := .agg #[.int .i64 k, .int .i64 m, .int .i64 lo, .int .i64 hi, .slice A r.length c, .slice va 0 vc]) (by simp [results, Tryz.results58, go_sem, r0, r1, r2, r3, r4, r5]) rfl ?_
     have hlt4 := R_lt HR4.out
     have h1 := HS1.out
     refine ⟨[.int .i64 k, .int .i64 m, .int .i64 lo, .int .i64 hi, .slice A r.length c, .slice va 0 vc], rfl, ?_, hbF⟩
     have hbnd : ∀ ad, A = some ad → r ≠ [] → w.heap.size + 2 ≤ ad.block ∧ ad.block < w4.heap.size := fun ad e _ => by
      subst e
      have := hlt4 ad.block rfl
      omega
     exact NIn.mk k m lo hi r [] A va c vc (fun _ => []) (C_move (P := fun b => w.heap.size + 2 ≤ b ∧ b < w4.heap.size) (rR HR4.out).2.2 hbnd (fun b hb => hmF b hb.1)) (fun ad e hne => by have := hbnd ad e hne; rw [hsF]; omega) (rR HR4.out).2.1 HC.out.2.2.2.1 HC.out.2.2.2.2.1 (Nat.zero_le _) (by simp) (fun j t h => by simp at h) (fun j h => by simp at h)
   ·have HCK := Lib.hid hck
    clear hck
    refine HCK.out.mono ?_
    rintro e w4 ⟨g, gc, rfl, hgc, hg1, hg2, hrow, hB4⟩
    rw [← HW3.out] at hg1 hB4
    have h3 := HS3.out
    have h1 := HS1.out
    have hsz4 := hB4.size
    have hn4 := (hB4.block _ (by omega)).trans HN3.out
    have hz4 := (hB4.block _ (by omega)).trans HZ3.out
    have hR4 := R_below HR3.out hB4
    have hbel4 := HB3.out.trans (hB4.mono HB3.out.size)
    have hlt3 := R_lt HR3.out
    have hst : TwinSt w (w4.setCell ⟨w.heap.size, 5, none⟩ (.slice (some ⟨g, 0, none⟩) kids.length gc)) k m lo hi r kids A c g gc csq 0 csq := by
     have ho : ∀ b, b ≠ w.heap.size → (w4.setCell ⟨w.heap.size, 5, none⟩ (.slice (some ⟨g, 0, none⟩) kids.length gc)).heap[b]? = w4.heap[b]? := fun b hb => Below.heap_setCell _ _ _ _ hb
     have hrb : ∀ ad, A = some ad → r ≠ [] → w.heap.size + 2 ≤ ad.block ∧ ad.block < g := fun ad e _ => by
      subst e
      have := hlt3 ad.block rfl
      omega
     exact ⟨hbel4.setCell (p := ⟨w.heap.size, 5, none⟩) (Nat.le_refl _) _, set_row hn4 5 _, (ho _ (by omega)).trans hz4, C_move (P := fun b => w.heap.size + 2 ≤ b ∧ b < g) (rR hR4).2.2 hrb (fun b hb => ho b (by omega)), hrb,
      ⟨by omega, by simpa [World.setCell] using hg2⟩, hrow.keep (ho g (by omega)), HL6.out, fun i hi => by omega, fun i _ => rfl⟩
    have HST := Lib.hid hst
    have HRC := Lib.hid (rR hR4).2.1
    have HNE := Lib.hid hne
    have HGC := Lib.hid hgc
    have c5 := cell_heap (i := 5) hn4 rfl
    have f5 : w4.frozen? ⟨w.heap.size, 5, none⟩ = false := by simp [World.frozen?, hn4]
    clear h3 h1 hsz4 hn4 hz4 hR4 hbel4 hlt3 hst hrow hg1 hg2 hB4 hne hgc e0 e4 e5 f4
    go_wp2_with fail
    go_loopg [16] kids.length (fun gg s16 wr => ∃ (j : Nat) (cj : Nat → List Value), s16 = .int .i64 j ∧ j ≤ kids.length ∧ kids.length - j ≤ gg ∧ Aside0 (TwinSt w wr k m lo hi r kids A c g gc csq j cj))
    case atStart => exact ⟨0, csq, rfl, by omega, by omega, ⟨HST.out⟩⟩
    case round =>
     obtain ⟨j, cj, rfl, hj, hgg, HTS⟩ := hrel
     clear c5 f5
     by_cases hlt : j < kids.length
     ·obtain ⟨t, ht⟩ : ∃ t, kids[j]? = some t := ⟨_, List.getElem?_eq_getElem hlt⟩
      have hNt := HK.out j t ht
      obtain ⟨x, hx⟩ : ∃ x, x = csq j := ⟨_, rfl⟩
      rw [← hx] at hNt
      have hcx : cj j = x := (HTS.out.rest j (Nat.le_refl _)).trans hx.symm
      have HTt := Lib.hid ht
      have HNt := Lib.hid hNt
      have hlt' : (j : Int) < (kids.length : Int) := by omega
      cases hNt with
      | mk tk tm tlo thi tr tkids tar tak tcr tck tcsk _ _ _ _ _ _ _ _ _ =>
       rename_i q1 q2 q3 q4 q5 q6 q7 q8 q9
       clear q1 q2 q3 q4 q5 q6 q7 q8 q9
       have xc : ∀ q u, ([.int .i64 tk, .int .i64 tm, .int .i64 tlo, .int .i64 thi, .slice tar tr.length tcr, .slice tak tkids.length tck] : List Value)[q]? = some u → wr.cell? ⟨g, j * 6 + q, none⟩ = some u := fun q u hu => HTS.out.row.cell hlt (by rw [hcx]; exact hu)
       have x0 := xc 0 _ rfl
       rw [Nat.add_zero] at x0
       have x1 := xc 1 _ rfl
       have x2 := xc 2 _ rfl
       have x3 := xc 3 _ rfl
       have x4 := xc 4 _ rfl
       have x5 := xc 5 _ rfl
       clear xc ht hcx hx
       go_upto_region 6 with (fail)
       obtain ⟨W6, hW6⟩ : ∃ W6, W6 = wr.alloc (.cells #[.int .i64 tk, .int .i64 tm, .int .i64 tlo, .int .i64 thi, .slice tar tr.length tcr, .slice tak tkids.length tck] 43) := ⟨_, rfl⟩
       have hb6 : Below wr.heap.size wr W6 := by rw [hW6]; exact (Below.refl _ wr).alloc (Nat.le_refl _) _
       have hk6 : W6.heap[wr.heap.size]? = some (.cells #[.int .i64 tk, .int .i64 tm, .int .i64 tlo, .int .i64 thi, .slice tar tr.length tcr, .slice tak tkids.length tck] 43 (0, 0)) := by rw [hW6]; exact World.alloc_heap_new wr _
       have hs6 : W6.heap.size = wr.heap.size + 1 := by rw [hW6]; simp
       have hgl := HTS.out.gl
       have hbl := HTS.out.bel.size
       have hx6 : W6.heap[w.heap.size]? = some (.cells #[.int .i64 k, .int .i64 m, .int .i64 lo, .int .i64 hi, .slice A r.length c, .slice (some ⟨g, 0, none⟩) kids.length gc] 43 (0, 0)) := (hb6.block _ (by omega)).trans HTS.out.box
       rw [← hW6]
       have H6 := Lib.hid (And.intro hb6 (And.intro hk6 (And.intro hs6 hx6)))
       have HGL := Lib.hid (And.intro hgl hbl)
       clear hb6 hk6 hs6 hx6 hW6 x0 x1 x2 x3 x4 x5 hgl hbl
       have HBa := Lib.hid (show Below W6.heap.size W6 W6.drew from (Below.refl _ W6).drew)
       refine start_ (n := 7) (S := fun w' => w'.cell? ⟨w.heap.size, 5, none⟩ = some (.slice (some ⟨g, 0, none⟩) kids.length gc) ∧ w'.cell? ⟨wr.heap.size, 0, none⟩ = some (.int .i64 tk) ∧ w'.cell? ⟨wr.heap.size, 1, none⟩ = some (.int .i64 tm) ∧ w'.cell? ⟨wr.heap.size, 2, none⟩ = some (.int .i64 tlo) ∧ w'.cell? ⟨wr.heap.size, 3, none⟩ = some (.int .i64 thi) ∧ w'.cell? ⟨wr.heap.size, 4, none⟩ = some (.slice tar tr.length tcr) ∧ w'.cell? ⟨wr.heap.size, 5, none⟩ = some (.slice tak tkids.length tck)) (ds := [6]) #[Z,Z,Z,Z,Z,Z,Z] (by kernel_rfl) rfl rfl ⟨cell_heap (i := 5) ((HBa.out.block _ (by have h1 := H6.out.2.2.1; have h2 := HGL.out; omega)).trans H6.out.2.2.2) rfl, cell_heap (i := 0) ((HBa.out.block _ (by have h1 := H6.out.2.2.1; omega)).trans H6.out.2.1) rfl, cell_heap (i := 1) ((HBa.out.block _ (by have h1 := H6.out.2.2.1; omega)).trans H6.out.2.1) rfl, cell_heap (i := 2) ((HBa.out.block _ (by have h1 := H6.out.2.2.1; omega)).trans H6.out.2.1) rfl, cell_heap (i := 3) ((HBa.out.block _ (by have h1 := H6.out.2.2.1; omega)).trans H6.out.2.1) rfl, cell_heap (i := 4) ((HBa.out.block _ (by have h1 := H6.out.2.2.1; omega)).trans H6.out.2.1) rfl, cell_heap (i := 5) ((HBa.out.block _ (by have h1 := H6.out.2.2.1; omega)).trans H6.out.2.1) rfl⟩ (fun hHeld => ?_)
       refine with_self (fun HT_ => ?_)
       generalize W6.drew = w7 at HBa hHeld ⊢
       refine pure_ (i := 0) (N := some 21) (v := ?_) (a' := ?_) #[I,Z,Z,Z,Z,Z,Z] rfl rfl (any_of HT_.out (by kernel_rfl)) (fun _ _ _ h => h) (Or.inl ⟨by rfl, ?_⟩) ?_ ?_
       rotate_left
       ·intro w'
        go_simp
        with_reducible rfl
       rotate_left
       ·simp only [Act.put, pu_, pz_, ps_, i64_w, i32_w]
        rfl
       refine take_ (i := 1) (N := some 22) (v := ?_) (a' := ?_) #[I,I,Z,Z,Z,Z,Z] rfl rfl (take_of HT_.out (by kernel_rfl)) (fun _ _ _ h => h) (Or.inl ⟨by rfl, ?_⟩) hHeld ?_ ?_
       rotate_left
       ·rintro w' ⟨s0, s1, s2, s3, s4, s5, s6⟩
        go_simp
        with_reducible rfl
       rotate_left
       ·simp only [Act.put, pu_, pz_, ps_, i64_w, i32_w]
        rfl
       refine pure_ (i := 2) (N := some 23) (v := ?_) (a' := ?_) #[I,I,I,Z,Z,Z,Z] rfl rfl (any_of HT_.out (by kernel_rfl)) (fun _ _ _ h => h) (Or.inl ⟨by rfl, ?_⟩) ?_ ?_
       rotate_left
       ·intro w'
        go_simp
        with_reducible rfl
       rotate_left
       ·simp only [Act.put, pu_, pz_, ps_, i64_w, i32_w]
        rfl
       refine take_ (i := 3) (N := some 24) (v := ?_) (a' := ?_) #[I,I,I,I,Z,Z,Z] rfl rfl (take_of HT_.out (by kernel_rfl)) (fun _ _ _ h => h) (Or.inl ⟨by rfl, ?_⟩) hHeld ?_ ?_
       rotate_left
       ·rintro w' ⟨s0, s1, s2, s3, s4, s5, s6⟩
        go_simp
        with_reducible rfl
       rotate_left
       ·simp only [Act.put, pu_, pz_, ps_, i64_w, i32_w]
        rfl
       refine one_ (i := 4) (N := some 25) #[I,I,I,I,I,Z,Z] rfl rfl (one_of HT_.out (by kernel_rfl)) (by decide) (fun K hK => ?_)
       refine goes_ Tryz.func58 (by kernel_rfl) rfl #[.agg #[.int .i64 tk, .int .i64 tm, .int .i64 tlo, .int .i64 thi, .slice tar tr.length tcr, .slice tak tkids.length tck]] (by rfl) rfl rfl (by (try simp only [List.map_toArray, List.map_cons, List.map_nil]); first | done | rfl) ?_
       have hb7 : Below wr.heap.size wr w7 := H6.out.1.trans (HBa.out.mono H6.out.1.size)
       have hnn : ∀ b, b < n0 → w7.heap[b]? = W3.heap[b]? := fun b hb => by
        have h1 := HW.out
        have h2 := HGL.out.2
        rw [hb7.block b (by omega), HTS.out.bel.block b (by omega), HB3.out.block b (by omega)]
       refine (HI.out (.mk tk tm tlo thi tr tkids) _ w7 (by have h1 := HN.out; have h2 := NT.nodes_kid (List.mem_of_getElem? HTt.out); simp only [NT.nodes] at h1 h2 ⊢; omega) (by have h1 := HW.out; have h2 := HGL.out.2; have h3 := hb7.size; omega) (HNt.out.move hnn)).mono ?_
       rintro e w8 ⟨cs', rfl, hNt, hB8⟩
       have hb8 : Below wr.heap.size wr w8 := hb7.trans (hB8.mono hb7.size)
       have hN8 : NIn w8 (fun b => wr.heap.size ≤ b ∧ b < w8.heap.size) (.mk tk tm tlo thi tr tkids) cs' := hNt.mono (fun b hb => by have := hb7.size; omega)
       clear hNt
       have HN8 := Lib.hid hN8
       have HB8 := Lib.hid (HBa.out.trans (hB8.mono HBa.out.size))
       cases hN8 with
       | mk _ _ _ _ _ _ ar2 ak2 cr2 ck2 csk2 _ _ _ _ _ _ _ _ _ =>
        rename_i q1 q2 q3 q4 q5 q6 q7 q8 q9
        clear q1 q2 q3 q4 q5 q6 q7 q8 q9
        have HX8 := Lib.hid (HTS.out.next hlt HTt.out hb8 HN8.out)
        have hrow8 := HTS.out.row.keep (hb8.block g HGL.out.1.2)
        have zc : ∀ q u, (cj j)[q]? = some u → w8.cell? ⟨g, j * 6 + q, none⟩ = some u := fun q u hu => hrow8.cell hlt hu
        have hl6 := HTS.out.len j hlt
        have fz : ∀ o, w8.frozen? ⟨g, o, none⟩ = false := fun o => hrow8.frozen o
        obtain ⟨y0, y1, y2, y3, y4, y5, hy⟩ : ∃ y0 y1 y2 y3 y4 y5, cj j = [y0, y1, y2, y3, y4, y5] := by
         match h : cj j, hl6 with
         | [y0, y1, y2, y3, y4, y5], _ => exact ⟨_, _, _, _, _, _, rfl⟩
        have z0 := zc 0 y0 (by rw [hy]; rfl)
        rw [Nat.add_zero] at z0
        have z1 := zc 1 y1 (by rw [hy]; rfl)
        have z2 := zc 2 y2 (by rw [hy]; rfl)
        have z3 := zc 3 y3 (by rw [hy]; rfl)
        have z4 := zc 4 y4 (by rw [hy]; rfl)
        have z5 := zc 5 y5 (by rw [hy]; rfl)
        clear hrow8 zc hl6 hy hnn hb8 hB8
        refine ⟨_, rfl, ?_⟩
        clear hHeld
        refine hK.out _ _ ⟨cell_heap (i := 5) ((HB8.out.block _ (by have h1 := H6.out.2.2.1; have h2 := HGL.out; omega)).trans H6.out.2.2.2) rfl, cell_heap (i := 0) ((HB8.out.block _ (by have h1 := H6.out.2.2.1; omega)).trans H6.out.2.1) rfl, cell_heap (i := 1) ((HB8.out.block _ (by have h1 := H6.out.2.2.1; omega)).trans H6.out.2.1) rfl, cell_heap (i := 2) ((HB8.out.block _ (by have h1 := H6.out.2.2.1; omega)).trans H6.out.2.1) rfl, cell_heap (i := 3) ((HB8.out.block _ (by have h1 := H6.out.2.2.1; omega)).trans H6.out.2.1) rfl, cell_heap (i := 4) ((HB8.out.block _ (by have h1 := H6.out.2.2.1; omega)).trans H6.out.2.1) rfl, cell_heap (i := 5) ((HB8.out.block _ (by have h1 := H6.out.2.2.1; omega)).trans H6.out.2.1) rfl⟩ (fun hHeld => ?_)
        clear hK K
        refine norm_ (a' := ?_) ?_ ?_
        rotate_left
        ·show Act.put _ (some 25) _ = _
         simp only [Act.put, pu_, pz_, ps_, i64_w, i32_w]
         rfl
        refine pure_ (i := 5) (N := some 26) (v := ?_) (a' := ?_) #[I,I,I,I,I,I,Z] rfl rfl (any_of HT_.out (by kernel_rfl)) (fun _ _ _ h => h) (Or.inl ⟨by rfl, ?_⟩) ?_ ?_
        rotate_left
        ·intro w'
         go_simp
         with_reducible rfl
        rotate_left
        ·simp only [Act.put, pu_, pz_, ps_, i64_w, i32_w]
         rfl
        refine last_ (i := 6) (N := none) #[I,I,I,I,I,I,I] rfl rfl (one_of HT_.out (by kernel_rfl)) (by decide) (fun K hK => ?_)
        refine skip_ (w1 := ?_) (by rfl) rfl ?_ ?_
        rotate_left
        ·go_simp
         rfl
        refine hK.out _ _ ?_
        clear hK K
        refine done_ (done_of HT_.out (by kernel_rfl)) ?_
        clear HT_ hHeld z0 z1 z2 z3 z4 z5 fz
        go_wp2
        go_roundg (kids.length - (j + 1))
        case measure => omega
        case rel => exact ⟨j + 1, _, congrArg (Value.int .i64) (by first | (push_cast; rfl) | (rw [w64_lit _ (by omega) (by have := HC.out.2.2.2.2.2.2; omega)]; push_cast; rfl)), by omega, Nat.le_refl _, ⟨HX8.out⟩⟩
     ·obtain rfl : j = kids.length := by omega
      have hlt' : ¬ (kids.length : Int) < (kids.length : Int) := by omega
      have c0 := cell_heap (i := 0) HTS.out.box rfl
      have c1 := cell_heap (i := 1) HTS.out.box rfl
      have c2 := cell_heap (i := 2) HTS.out.box rfl
      have c3 := cell_heap (i := 3) HTS.out.box rfl
      have c4 := cell_heap (i := 4) HTS.out.box rfl
      have c5 := cell_heap (i := 5) HTS.out.box rfl
      have hz4 := HTS.out.res
      have d0 := cell_heap (i := 0) hz4 rfl
      have d1 := cell_heap (i := 1) hz4 rfl
      have d2 := cell_heap (i := 2) hz4 rfl
      have d3 := cell_heap (i := 3) hz4 rfl
      have d4 := cell_heap (i := 4) hz4 rfl
      have d5 := cell_heap (i := 5) hz4 rfl
      have q0 : ∀ o, wr.frozen? ⟨w.heap.size + 1, o, none⟩ = false := fun o => by simp [World.frozen?, hz4]
      have HZ4 := Lib.hid hz4
      clear hz4
      go_wp2
      obtain ⟨WF, hWF⟩ : ∃ WF, WF = put6 wr (w.heap.size + 1) 0 (.int .i64 k) (.int .i64 m) (.int .i64 lo) (.int .i64 hi) (.slice A r.length c) (.slice (some ⟨g, 0, none⟩) kids.length gc) := ⟨_, rfl⟩
      have hzF : WF.heap[w.heap.size + 1]? = some (.cells #[.int .i64 k, .int .i64 m, .int .i64 lo, .int .i64 hi, .slice A r.length c, .slice (some ⟨g, 0, none⟩) kids.length gc] 43 (0, 0)) := by
       rw [hWF]; unfold put6
       exact set_row (set_row (set_row (set_row (set_row (set_row HZ4.out _ _) _ _) _ _) _ _) _ _) _ _
      have hsF : WF.heap.size = wr.heap.size := by rw [hWF, put6_size]
      have hmF : ∀ b, w.heap.size + 2 ≤ b → WF.heap[b]? = wr.heap[b]? := fun b hb => by
       rw [hWF, put6_other _ _ _ _ _ _ _ _ _ b (by omega)]
      have hbF : Below w.heap.size w WF := by rw [hWF]; exact put6_below HTS.out.bel (by omega) _ _ _ _ _ _ _
      change bodyPost Tryz.prog Tryz.f58 _ Exit.ret _ (put6 wr (w.heap.size + 1) 0 (.int .i64 k) (.int .i64 m) (.int .i64 lo) (.int .i64 hi) (.slice A r.length c) (.slice (some ⟨g, 0, none⟩) kids.length gc))
      rw [← hWF]
      have r0 := cell_heap (i := 0) hzF rfl
      have r1 := cell_heap (i := 1) hzF rfl
      have r2 := cell_heap (i := 2) hzF rfl
      have r3 := cell_heap (i := 3) hzF rfl
      have r4 := cell_heap (i := 4) hzF rfl
      have r5 := cell_heap (i := 5) hzF rfl
      refine bodyPost_ret (v := .agg #[.int .i64 k, .int .i64 m, .int .i64 lo, .int .i64 hi, .slice A r.length c, .slice (some ⟨g, 0, none⟩) kids.length gc]) (by simp [results, Tryz.results58, go_sem, r0, r1, r2, r3, r4, r5]) rfl ?_
      refine ⟨[.int .i64 k, .int .i64 m, .int .i64 lo, .int .i64 hi, .slice A r.length c, .slice (some ⟨g, 0, none⟩) kids.length gc], rfl, ?_, hbF⟩
      have hgl := HTS.out.gl
      exact NIn.mk k m lo hi r kids A (some ⟨g, 0, none⟩) c gc cj (C_move (P := fun b => w.heap.size + 2 ≤ b ∧ b < g) HTS.out.rng HTS.out.rngb (fun b hb => hmF b hb.1)) (fun ad e hne => by have := HTS.out.rngb ad e hne; rw [hsF]; omega) HRC.out HC.out.2.2.2.1 HC.out.2.2.2.2.1 HGC.out HC.out.2.2.2.2.2.2
       (fun j t ht => ((HTS.out.done j (List.getElem?_eq_some_iff.1 ht).1 t ht).move (fun b hb => hmF b (by omega))).mono (fun b hb => by rw [hsF]; omega))
       (fun j hj => ⟨⟨g, 0, none⟩, rfl, by rw [hsF]; simp only; omega, fun i u hu => by rw [add_plain]; rw [World.cell?_of_block (w := wr) (a := ⟨g, j * 6 + i, none⟩) (hmF g (by omega))]; exact HTS.out.row.cell hj hu⟩)
end Go.Proofs.YtamhkdlcoghdbaaGreatDoor.PCls
