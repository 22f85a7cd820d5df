/- Out of TCat (wip/tools/prune2.py): the declarations alone that the texts of the trees name. -/
import Derived.Test.YtamhkdlcoghdbaaGreatDoorVQTPut
namespace Go.Proofs.YtamhkdlcoghdbaaGreatDoor.PCls
open Go.RowKit Go.Proofs.YtamhkdlcoghdbaaGreatDoorW.PrintWords Go.Proofs.YtamhkdlcoghdbaaGreatDoorW.PrintLast Go.Proofs.YtamhkdlcoghdbaaGreatDoorW.PrintMore
set_option linter.unusedVariables false
set_option linter.unusedSimpArgs false
def catOne (t : NT) : List NT := if t.k = 5 then some6 t.kids else some6 [t]
def catOut (l : List NT) : List NT := l.flatMap catOne
def oneT (l : List NT) (kind : Int) (no : NT) : NT := match l with
 | [] => no
 | [x] => x
 | l => .mk kind 0 0 0 [] l
/-- Cat -/
def catT (l : List NT) : NT := oneT (catOut l) 5 (.mk 1 0 0 0 [] [])
theorem catOne_length (t : NT) : (catOne t).length ≤ t.nodes := by
 unfold catOne
 split
 ·obtain ⟨k, m, lo, hi, r, kids⟩ := t
  have h1 : (some6 kids).length ≤ kids.length := List.length_filter_le _ _
  have h2 := NT.nodesL_length kids
  simp only [NT.kids, NT.nodes]
  omega
 ·have h1 : (some6 [t]).length ≤ [t].length := List.length_filter_le _ _
  have h2 := t.nodes_pos
  simp only [List.length_cons, List.length_nil] at h1
  omega
theorem catOut_length : ∀ l : List NT, (catOut l).length ≤ NT.nodesL l
 | [] => by simp [catOut]
 | t :: l => by
  have h1 := catOne_length t
  have h2 := catOut_length l
  simp only [catOut, List.flatMap_cons, List.length_append, NT.nodesL] at *
  omega
theorem nodesL_take (l : List NT) (j : Nat) : NT.nodesL (l.take j) ≤ NT.nodesL l := by
 have := NT.nodesL_append (l.take j) (l.drop j)
 rw [List.take_append_drop] at this
 omega
/-- between two rounds of Cat's loop -/
structure CatSt (w wr : World) (v : Value) (out : List NT) : Prop where
 box : Boxed wr (w.heap.size + 1) 41 v
 trees : TreesAt wr (w.heap.size + 2) v out
 bel : Below w.heap.size w wr
 res : wr.heap[w.heap.size]? = some (.cells #[.int .i64 0, .int .i64 0, .int .i64 0, .int .i64 0, .slice none 0 0, .slice none 0 0] 43 (0, 0))
 sz : w.heap.size + 2 ≤ wr.heap.size
theorem CatSt.below {w A B : World} {v : Value} {out : List NT} (h : CatSt w A v out) (hb : Below A.heap.size A B) : CatSt w B v out :=
 ⟨boxed_keep h.box hb, h.trees.below hb, h.bel.trans (hb.mono h.bel.size), (hb.block _ (by have := h.sz; omega)).trans h.res, Nat.le_trans h.sz hb.size⟩
theorem CatSt.put {w A : World} {v : Value} {out : List NT} (h : CatSt w A v out) : PutSt A A (w.heap.size + 1) (w.heap.size + 2) v v out :=
 ⟨h.box, h.trees, fun _ _ _ _ => rfl, .inl rfl, Nat.le_refl _, rfl, rfl, rfl⟩
theorem CatSt.own {w A : World} {v : Value} {out : List NT} (h : CatSt w A v out) : ∀ k, v.ownBlock = some k → w.heap.size + 2 ≤ k ∧ k < A.heap.size := by
 obtain ⟨cs, _, h2, _⟩ := h.trees
 exact fun k hk => h2.lt k hk
theorem CatSt.next {w A B : World} {v v' : Value} {out out' : List NT} (h : CatSt w A v out) (hp : PutSt A B (w.heap.size + 1) (w.heap.size + 2) v v' out') : CatSt w B v' out' := by
 have hs := h.sz
 have hk : ∀ b, b < w.heap.size + 1 → B.heap[b]? = A.heap[b]? := fun b hb => hp.kept b (by omega) (by omega) (fun e => by have := (h.own b e.symm).1; omega)
 have hsz := hp.size
 exact ⟨hp.box, hp.trees, ⟨hp.os.trans h.bel.os, hp.tape.trans h.bel.tape, hp.output.trans h.bel.output, Nat.le_trans h.bel.size hp.size, fun b hb => (hk b (by omega)).trans (h.bel.block b hb)⟩, (hk _ (by omega)).trans h.res, by omega⟩
set_option maxHeartbeats 8000000 in
set_option maxRecDepth 100000 in
theorem cat_calls (A : Option Addr) (n c : Nat) (l : List NT) (w : World) (hl : l.length = n) (hlen : NT.nodesL l < 274877906944)
  (hA : ∀ j t, l[j]? = some t → ∃ ad cs, A = some ad ∧ ad.block < w.heap.size ∧ NIn w (· < w.heap.size) t cs ∧ ∀ i u, cs[i]? = some u → w.cell? (ad.add (j * 6 + i)) = some u) :
  Calls Tryz.prog 64 #[.slice A n c] w fun e w' => ∃ cs' : List Value, e = .returned (.agg cs'.toArray) ∧ NIn w' (fun b => w.heap.size ≤ b ∧ b < w'.heap.size) (catT l) cs' ∧ Below w.heap.size w w' := by
 have HA := Lib.hid hA
 have HL := Lib.hid hl
 have HLEN := Lib.hid hlen
 obtain ⟨W2, hW2⟩ : ∃ W2, W2 = (w.alloc (.cells #[.int .i64 0, .int .i64 0, .int .i64 0, .int .i64 0, .slice none 0 0, .slice none 0 0] 43)).alloc (.cells #[.slice none 0 0] 41) := ⟨_, rfl⟩
 have hst : CatSt w W2 (.slice none 0 0) [] := by
  have hb : Below w.heap.size w W2 := by rw [hW2]; exact ((Below.refl _ w).alloc (Nat.le_refl _) _).alloc (by simp) _
  have h1 : W2.heap[w.heap.size]? = some (.cells #[.int .i64 0, .int .i64 0, .int .i64 0, .int .i64 0, .slice none 0 0, .slice none 0 0] 43 (0, 0)) := by rw [hW2]; exact (Below.heap_alloc _ _ _ (by simp)).trans (World.alloc_heap_new w _)
  have h2 : W2.heap[w.heap.size + 1]? = some (.cells #[.slice none 0 0] 41 (0, 0)) := by
   have := World.alloc_heap_new (w.alloc (.cells #[.int .i64 0, .int .i64 0, .int .i64 0, .int .i64 0, .slice none 0 0, .slice none 0 0] 43)) (.cells #[.slice none 0 0] 41)
   rw [World.size_alloc] at this
   rw [hW2]; exact this
  exact ⟨h2, TreesAt.nil _ _, hb, h1, by rw [hW2]; simp⟩
 have HST := Lib.hid hst
 have HW2 := Lib.hid hW2
 clear hA hl hlen hst hW2
 go_enter Tryz.func64, Tryz.ntmps64
 go_wp2_with fail
 go_loopg [10] n (fun gg s10 wr => ∃ (j : Nat) (vj : Value), s10 = .int .i64 j ∧ j ≤ n ∧ n - j ≤ gg ∧ Aside0 (CatSt w wr vj (catOut (l.take j))))
 case atStart => exact ⟨0, .slice none 0 0, rfl, by omega, by omega, ⟨by have := HST.out; rw [HW2.out] at this; simpa [catOut] using this⟩⟩
 case round =>
  obtain ⟨j, vj, rfl, hj, hgg, HCj⟩ := hrel
  by_cases hlt : j < n
  ·obtain ⟨t, ht⟩ : ∃ t, l[j]? = some t := ⟨_, List.getElem?_eq_getElem (by have := HL.out; omega)⟩
   obtain ⟨ad, cs, rfl, b1, hN, hc⟩ := HA.out j t ht
   have hmv : ∀ b, b < w.heap.size → wr.heap[b]? = w.heap[b]? := fun b hb => HCj.out.bel.block b hb
   have hcr : ∀ i u, cs[i]? = some u → wr.cell? (ad.add (j * 6 + i)) = some u := fun i u hu => by
    rw [World.cell?_of_block (w := w) (a := ad.add (j * 6 + i)) (by rw [add_block]; exact hmv _ b1)]; exact hc i u hu
   have hNr := hN.move hmv
   have htk : catOut (l.take (j + 1)) = catOut (l.take j) ++ catOne t := by rw [List.take_add_one, ht]; simp [catOut]
   have hlt' : (j : Int) < (n : Int) := by omega
   have HNr := Lib.hid hNr
   have HTK := Lib.hid htk
   have HTM := Lib.hid (List.mem_of_getElem? ht)
   clear hN ht htk hmv hc b1
   cases hNr with
   | mk tk tm tlo thi tr tkids tar tak tcr tck tcsk _ _ _ _ _ _ _ _ _ =>
    rename_i q1 q2 q3 q4 q5 q6 q7 q8 q9
    have HKL := Lib.hid q7
    clear q1 q2 q3 q4 q5 q6 q7 q8 q9
    have x0 := hcr 0 _ rfl
    rw [Nat.add_zero] at x0
    have x1 := cell_at hcr 1 (by decide) rfl
    have x2 := cell_at hcr 2 (by decide) rfl
    have x3 := cell_at hcr 3 (by decide) rfl
    have x4 := cell_at hcr 4 (by decide) rfl
    have x5 := cell_at hcr 5 (by decide) rfl
    clear hcr
    have hbk := HCj.out.below ((Below.refl _ wr).alloc (Nat.le_refl _) (.cells #[.int .i64 tk, .int .i64 tm, .int .i64 tlo, .int .i64 thi, .slice tar tr.length tcr, .slice tak tkids.length tck] 43))
    have hol : (catOut (l.take j)).length ≤ NT.nodesL l := Nat.le_trans (catOut_length _) (nodesL_take l j)
    have hkn : tkids.length ≤ NT.nodesL l := by
     have h1 := NT.nodes_kid HTM.out
     have h2 := NT.nodesL_length tkids
     simp only [NT.nodes] at h1
     omega
    by_cases h5 : tk = 5
    ·subst h5
     have hb0 : Below wr.heap.size wr (wr.alloc (.cells #[.int .i64 5, .int .i64 tm, .int .i64 tlo, .int .i64 thi, .slice tar tr.length tcr, .slice tak tkids.length tck] 43)) := (Below.refl _ wr).alloc (Nat.le_refl _) _
     have hput := put_calls w.heap.size (w.heap.size + 1) (w.heap.size + 2) tak tkids.length tck tkids (catOut (l.take j)) _ vj (by omega) hbk.sz (by omega) hbk.put rfl (by have := HLEN.out; omega)
      (fun i t' ht' => by
       have hNx := HNr.out.move (w' := wr.alloc (.cells #[.int .i64 5, .int .i64 tm, .int .i64 tlo, .int .i64 thi, .slice tar tr.length tcr, .slice tak tkids.length tck] 43)) (fun b hb => hb0.block b (by have := HCj.out.sz; omega))
       obtain ⟨ad', cs', e, hP, h1, h2⟩ := hNx.kid ht'
       exact ⟨ad', cs', e, by have := hbk.sz; omega, by omega, fun e2 => by have := (hbk.own _ e2.symm).1; omega, h1, h2⟩)
     have HPUT := Lib.hid hput
     have HBK := Lib.hid hbk
     clear hput hbk hb0 hol hkn
     go_wp2_with fail
     refine HPUT.out.mono ?_
     rintro e w4 ⟨rfl, v4, hp4⟩
     have HC4 := Lib.hid (HBK.out.next hp4)
     clear hp4
     go_wp2
     go_roundg (n - (j + 1))
     case measure => omega
     case rel => exact ⟨j + 1, v4, congrArg (Value.int .i64) (by first | (push_cast; rfl) | (rw [w64_lit _ (by omega) (by have := HLEN.out; have := HL.out; have := NT.nodesL_length l; omega)]; push_cast; rfl)), by omega, Nat.le_refl _, ⟨by rw [HTK.out]; exact HC4.out⟩⟩
    ·have h52 : (tk == 5) = false := beq_eq_false_iff_ne.2 h5
     obtain ⟨X, hX⟩ : ∃ X, X = (wr.alloc (.cells #[.int .i64 tk, .int .i64 tm, .int .i64 tlo, .int .i64 thi, .slice tar tr.length tcr, .slice tak tkids.length tck] 43)).alloc (.cells #[.int .i64 tk, .int .i64 tm, .int .i64 tlo, .int .i64 thi, .slice tar tr.length tcr, .slice tak tkids.length tck] 43) := ⟨_, rfl⟩
     have hbX : Below wr.heap.size wr X := by rw [hX]; exact ((Below.refl _ wr).alloc (Nat.le_refl _) _).alloc (by simp) _
     have hcX : X.heap[wr.heap.size + 1]? = some (.cells #[.int .i64 tk, .int .i64 tm, .int .i64 tlo, .int .i64 thi, .slice tar tr.length tcr, .slice tak tkids.length tck] 43 (0, 0)) := by
      have := World.alloc_heap_new (wr.alloc (.cells #[.int .i64 tk, .int .i64 tm, .int .i64 tlo, .int .i64 thi, .slice tar tr.length tcr, .slice tak tkids.length tck] 43)) (.cells #[.int .i64 tk, .int .i64 tm, .int .i64 tlo, .int .i64 thi, .slice tar tr.length tcr, .slice tak tkids.length tck] 43)
      rw [World.size_alloc] at this
      rw [hX]; exact this
     have hsX : X.heap.size = wr.heap.size + 2 := by rw [hX]; simp
     have hCX := HCj.out.below hbX
     have hsj := HCj.out.sz
     have hown := HCj.out.own
     have hput := put_calls w.heap.size (w.heap.size + 1) (w.heap.size + 2) (some ⟨wr.heap.size + 1, 0, none⟩) 1 1 [.mk tk tm tlo thi tr tkids] (catOut (l.take j)) X vj (by omega) hCX.sz (by omega) hCX.put rfl (by have := HLEN.out; omega)
      (fun i t' ht' => by
       have hi : i = 0 := by have := (List.getElem?_eq_some_iff.1 ht').1; simp at this; omega
       subst hi
       simp at ht'
       subst ht'
       refine ⟨⟨wr.heap.size + 1, 0, none⟩, _, rfl, by simp only; omega, by simp only; omega, fun e2 => by have := (hown _ e2.symm).2; simp only at this; omega, HNr.out.move (fun b hb => hbX.block b (by omega)), fun i u hu => ?_⟩
       rw [add_plain]
       exact cell_heap hcX (by simpa using hu))
     rw [hX] at hput
     have HPUT := Lib.hid hput
     have HCX := Lib.hid hCX
     have HXX := Lib.hid hX
     have H5 := Lib.hid h5
     clear hput hbk hbX hcX hsX hCX hsj hown hX hol hkn h5
     go_wp2_with fail
     refine HPUT.out.mono ?_
     rintro e w4 ⟨rfl, v4, hp4⟩
     rw [← HXX.out] at hp4
     have HC4 := Lib.hid (HCX.out.next hp4)
     clear hp4
     go_wp2
     go_roundg (n - (j + 1))
     case measure => omega
     case rel => exact ⟨j + 1, v4, congrArg (Value.int .i64) (by first | (push_cast; rfl) | (rw [w64_lit _ (by omega) (by have := HLEN.out; have := HL.out; have := NT.nodesL_length l; omega)]; push_cast; rfl)), by omega, Nat.le_refl _, ⟨by rw [HTK.out, show catOne (.mk tk tm tlo thi tr tkids) = some6 [.mk tk tm tlo thi tr tkids] from if_neg H5.out]; exact HC4.out⟩⟩
  ·obtain rfl : j = n := by omega
   have hlt' : ¬ (j : Int) < (j : Int) := by omega
   obtain ⟨O, hO⟩ : ∃ O, O = catOut l := ⟨_, rfl⟩
   have hF := HCj.out
   rw [List.take_of_length_le (by have := HL.out; omega), ← hO] at hF
   have HF := Lib.hid hF
   have HO := Lib.hid hO
   have HOL := Lib.hid (show O.length < 274877906944 by rw [hO]; have := catOut_length l; have := HLEN.out; omega)
   obtain ⟨cs, c1, c2, c3⟩ := hF.trees
   have cb := hF.box.cell
   have hfl := flat6_at cs O.length c1
   clear hF hO
   rcases c2.2 with ⟨rfl, h0⟩ | ⟨g, cap, cur, rfl, hg, hh, hcap, _, hcs, htk⟩
   ·have hO0 : O = [] := List.length_eq_zero_iff.1 h0
    have HO0 := Lib.hid hO0
    have HONE := Lib.hid (fun w => one_none none 0 5 1 0 0 0 none none 0 0 0 0 w)
    clear c1 c2 c3 h0 hfl hO0
    go_wp2_with fail
    refine (HONE.out _).mono ?_
    rintro e w5 ⟨rfl, hB5⟩
    have hO0 := HO0.out
    have hz5 := (hB5.block _ (by have := HF.out.sz; omega)).trans HF.out.res
    have d0 := cell_heap (i := 0) hz5 rfl
    have d1 := cell_heap (i := 1) hz5 rfl
    have d2 := cell_heap (i := 2) hz5 rfl
    have d3 := cell_heap (i := 3) hz5 rfl
    have d4 := cell_heap (i := 4) hz5 rfl
    have d5 := cell_heap (i := 5) hz5 rfl
    have q0 : ∀ o, w5.frozen? ⟨w.heap.size, o, none⟩ = false := fun o => by simp [World.frozen?, hz5]
    have HZ5 := Lib.hid hz5
    have HB5 := Lib.hid hB5
    clear hz5 hB5
    go_wp2
    obtain ⟨WF, hWF⟩ : ∃ WF, WF = put6 w5 w.heap.size 0 (.int .i64 1) (.int .i64 0) (.int .i64 0) (.int .i64 0) (.slice none 0 0) (.slice none 0 0) := ⟨_, rfl⟩
    have hzF : WF.heap[w.heap.size]? = some (.cells #[.int .i64 1, .int .i64 0, .int .i64 0, .int .i64 0, .slice none 0 0, .slice none 0 0] 43 (0, 0)) := by
     rw [hWF]; unfold put6
     exact set_row (set_row (set_row (set_row (set_row (set_row HZ5.out _ _) _ _) _ _) _ _) _ _) _ _
    have hsF : WF.heap.size = w5.heap.size := by rw [hWF, put6_size]
    have hmF : ∀ b, w.heap.size + 2 ≤ b → WF.heap[b]? = w5.heap[b]? := fun b hb => by
     rw [hWF, put6_other _ _ _ _ _ _ _ _ _ b (by omega)]
    have hbF : Below w.heap.size w WF := by rw [hWF]; exact put6_below (HF.out.bel.trans (HB5.out.mono HF.out.bel.size)) (Nat.le_refl _) _ _ _ _ _ _ _
    change bodyPost Tryz.prog Tryz.f64 _ Exit.ret _ (put6 w5 w.heap.size 0 (.int .i64 1) (.int .i64 0) (.int .i64 0) (.int .i64 0) (.slice none 0 0) (.slice none 0 0))
    rw [← hWF]
    have r0 := cell_heap (i := 0) hzF rfl
    have r1 := cell_heap (i := 1) hzF rfl
    have r2 := cell_heap (i := 2) hzF rfl
    have r3 := cell_heap (i := 3) hzF rfl
    have r4 := cell_heap (i := 4) hzF rfl
    have r5 := cell_heap (i := 5) hzF rfl
    refine bodyPost_ret (v := .agg #[.int .i64 1, .int .i64 0, .int .i64 0, .int .i64 0, .slice none 0 0, .slice none 0 0]) (by simp [results, Tryz.results64, go_sem, r0, r1, r2, r3, r4, r5]) rfl ?_
    refine ⟨[.int .i64 1, .int .i64 0, .int .i64 0, .int .i64 0, .slice none 0 0, .slice none 0 0], rfl, ?_, hbF⟩
    have hs5 := HB5.out.size
    rw [show catT l = .mk 1 0 0 0 [] [] by unfold catT; rw [← HO.out, hO0]; rfl]
    exact NIn.mk 1 0 0 0 [] [] none none 0 0 (fun _ => []) ⟨rfl, by simp, fun h => by simp at h⟩ (fun ad e => by cases e) (by simp) (by simp) rfl (by simp) (by simp) (fun j t h => by simp at h) (fun j h => by simp at h)
   ·have hgl : w.heap.size + 2 ≤ g ∧ g < wr.heap.size := ⟨hg, (Array.getElem?_eq_some_iff.1 hh).1⟩
    have hrow : ∀ j, j < O.length → ∀ i u, (cs j)[i]? = some u → wr.cell? ⟨g, j * 6 + i, none⟩ = some u := fun j hj i u hu => by
     have hi : i < 6 := by have := (List.getElem?_eq_some_iff.1 hu).1; rw [c1 j hj] at this; exact this
     have h2 := hfl j hj i hi
     rw [hu, ← htk, List.getElem?_take] at h2
     split at h2
     ·exact cell_heap hh (by simpa using h2)
     ·simp at h2
    have HCS := Lib.hid (show _ ∧ (∀ (i : Nat) (t : NT), O[i]? = some t → NIn wr (fun b => w.heap.size + 2 ≤ b ∧ b < wr.heap.size ∧ some b ≠ (Value.slice (some ⟨g, 0, none⟩) O.length cap).ownBlock) t (cs i)) ∧ O.length ≤ cap ∧ (∀ j, j < O.length → ∀ i u, (cs j)[i]? = some u → wr.cell? ⟨g, j * 6 + i, none⟩ = some u) ∧ (w.heap.size + 2 ≤ g ∧ g < wr.heap.size) from ⟨(trivial : True), c3, hcap, hrow, hgl⟩)
    clear c1 c2 c3 hfl hg hh hcap hcs htk hgl hrow
    rcases Nat.lt_or_ge O.length 1 with h0 | h0
    ·have h00 : O.length = 0 := by omega
     have hO0 : O = [] := List.length_eq_zero_iff.1 h00
     have HO0 := Lib.hid hO0
     have HONE := Lib.hid (fun w => one_none (some ⟨g, 0, none⟩) cap 5 1 0 0 0 none none 0 0 0 0 w)
     rw [h00] at cb
     clear h0 h00 hO0
     go_wp2_with fail
     refine (HONE.out _).mono ?_
     rintro e w5 ⟨rfl, hB5⟩
     have hO0 := HO0.out
     have hz5 := (hB5.block _ (by have := HF.out.sz; omega)).trans HF.out.res
     have d0 := cell_heap (i := 0) hz5 rfl
     have d1 := cell_heap (i := 1) hz5 rfl
     have d2 := cell_heap (i := 2) hz5 rfl
     have d3 := cell_heap (i := 3) hz5 rfl
     have d4 := cell_heap (i := 4) hz5 rfl
     have d5 := cell_heap (i := 5) hz5 rfl
     have q0 : ∀ o, w5.frozen? ⟨w.heap.size, o, none⟩ = false := fun o => by simp [World.frozen?, hz5]
     have HZ5 := Lib.hid hz5
     have HB5 := Lib.hid hB5
     clear hz5 hB5
     go_wp2
     obtain ⟨WF, hWF⟩ : ∃ WF, WF = put6 w5 w.heap.size 0 (.int .i64 1) (.int .i64 0) (.int .i64 0) (.int .i64 0) (.slice none 0 0) (.slice none 0 0) := ⟨_, rfl⟩
     have hzF : WF.heap[w.heap.size]? = some (.cells #[.int .i64 1, .int .i64 0, .int .i64 0, .int .i64 0, .slice none 0 0, .slice none 0 0] 43 (0, 0)) := by
      rw [hWF]; unfold put6
      exact set_row (set_row (set_row (set_row (set_row (set_row HZ5.out _ _) _ _) _ _) _ _) _ _) _ _
     have hsF : WF.heap.size = w5.heap.size := by rw [hWF, put6_size]
     have hmF : ∀ b, w.heap.size + 2 ≤ b → WF.heap[b]? = w5.heap[b]? := fun b hb => by
      rw [hWF, put6_other _ _ _ _ _ _ _ _ _ b (by omega)]
     have hbF : Below w.heap.size w WF := by rw [hWF]; exact put6_below (HF.out.bel.trans (HB5.out.mono HF.out.bel.size)) (Nat.le_refl _) _ _ _ _ _ _ _
     change bodyPost Tryz.prog Tryz.f64 _ Exit.ret _ (put6 w5 w.heap.size 0 (.int .i64 1) (.int .i64 0) (.int .i64 0) (.int .i64 0) (.slice none 0 0) (.slice none 0 0))
     rw [← hWF]
     have r0 := cell_heap (i := 0) hzF rfl
     have r1 := cell_heap (i := 1) hzF rfl
     have r2 := cell_heap (i := 2) hzF rfl
     have r3 := cell_heap (i := 3) hzF rfl
     have r4 := cell_heap (i := 4) hzF rfl
     have r5 := cell_heap (i := 5) hzF rfl
     refine bodyPost_ret (v := .agg #[.int .i64 1, .int .i64 0, .int .i64 0, .int .i64 0, .slice none 0 0, .slice none 0 0]) (by simp [results, Tryz.results64, go_sem, r0, r1, r2, r3, r4, r5]) rfl ?_
     refine ⟨[.int .i64 1, .int .i64 0, .int .i64 0, .int .i64 0, .slice none 0 0, .slice none 0 0], rfl, ?_, hbF⟩
     have hs5 := HB5.out.size
     rw [show catT l = .mk 1 0 0 0 [] [] by unfold catT; rw [← HO.out, hO0]; rfl]
     exact NIn.mk 1 0 0 0 [] [] none none 0 0 (fun _ => []) ⟨rfl, by simp, fun h => by simp at h⟩ (fun ad e => by cases e) (by simp) (by simp) rfl (by simp) (by simp) (fun j t h => by simp at h) (fun j h => by simp at h)
    ·rcases Nat.lt_or_ge O.length 2 with h1 | h1
     ·have h11 : O.length = 1 := by omega
      obtain ⟨x, hx⟩ : ∃ x, O = [x] := List.length_eq_one_iff.1 h11
      have hNx := HCS.out.2.1 0 x (by rw [hx]; rfl)
      have hrx := HCS.out.2.2.2.1 0 (by omega)
      obtain ⟨c0, hc0⟩ : ∃ c0, c0 = cs 0 := ⟨_, rfl⟩
      rw [← hc0] at hNx hrx
      have HX := Lib.hid hNx
      have HX1 := Lib.hid hx
      rw [h11] at cb
      cases hNx with
      | mk tk tm tlo thi tr tkids tar tak tcr tck tcsk _ _ _ _ _ _ _ _ _ =>
       rename_i q1 q2 q3 q4 q5 q6 q7 q8 q9
       clear q1 q2 q3 q4 q5 q6 q7 q8 q9
       have y0 := hrx 0 _ rfl
       have y1 := hrx 1 _ rfl
       have y2 := hrx 2 _ rfl
       have y3 := hrx 3 _ rfl
       have y4 := hrx 4 _ rfl
       have y5 := hrx 5 _ rfl
       have HONE := Lib.hid (one_one g cap 5 1 0 0 0 none none 0 0 0 0 tk tm tlo thi tar tak tr.length tcr tkids.length tck wr ⟨by simpa using y0, by simpa using y1, by simpa using y2, by simpa using y3, by simpa using y4, by simpa using y5⟩)
       clear h0 h1 h11 hx hrx hc0 y0 y1 y2 y3 y4 y5
       go_wp2_with fail
       refine HONE.out.mono ?_
       rintro e w5 ⟨rfl, hB5⟩
       have hO1 := HX1.out
       have hz5 := (hB5.block _ (by have := HF.out.sz; omega)).trans HF.out.res
       have d0 := cell_heap (i := 0) hz5 rfl
       have d1 := cell_heap (i := 1) hz5 rfl
       have d2 := cell_heap (i := 2) hz5 rfl
       have d3 := cell_heap (i := 3) hz5 rfl
       have d4 := cell_heap (i := 4) hz5 rfl
       have d5 := cell_heap (i := 5) hz5 rfl
       have q0 : ∀ o, w5.frozen? ⟨w.heap.size, o, none⟩ = false := fun o => by simp [World.frozen?, hz5]
       have HZ5 := Lib.hid hz5
       have HB5 := Lib.hid hB5
       clear hz5 hB5
       go_wp2
       obtain ⟨WF, hWF⟩ : ∃ WF, WF = put6 w5 w.heap.size 0 (.int .i64 tk) (.int .i64 tm) (.int .i64 tlo) (.int .i64 thi) (.slice tar tr.length tcr) (.slice tak tkids.length tck) := ⟨_, rfl⟩
       have hzF : WF.heap[w.heap.size]? = some (.cells #[.int .i64 tk, .int .i64 tm, .int .i64 tlo, .int .i64 thi, .slice tar tr.length tcr, .slice tak tkids.length tck] 43 (0, 0)) := by
        rw [hWF]; unfold put6
        exact set_row (set_row (set_row (set_row (set_row (set_row HZ5.out _ _) _ _) _ _) _ _) _ _) _ _
       have hsF : WF.heap.size = w5.heap.size := by rw [hWF, put6_size]
       have hmF : ∀ b, w.heap.size + 2 ≤ b → WF.heap[b]? = w5.heap[b]? := fun b hb => by
        rw [hWF, put6_other _ _ _ _ _ _ _ _ _ b (by omega)]
       have hbF : Below w.heap.size w WF := by rw [hWF]; exact put6_below (HF.out.bel.trans (HB5.out.mono HF.out.bel.size)) (Nat.le_refl _) _ _ _ _ _ _ _
       change bodyPost Tryz.prog Tryz.f64 _ Exit.ret _ (put6 w5 w.heap.size 0 (.int .i64 tk) (.int .i64 tm) (.int .i64 tlo) (.int .i64 thi) (.slice tar tr.length tcr) (.slice tak tkids.length tck))
       rw [← hWF]
       have r0 := cell_heap (i := 0) hzF rfl
       have r1 := cell_heap (i := 1) hzF rfl
       have r2 := cell_heap (i := 2) hzF rfl
       have r3 := cell_heap (i := 3) hzF rfl
       have r4 := cell_heap (i := 4) hzF rfl
       have r5 := cell_heap (i := 5) hzF rfl
       refine bodyPost_ret (v := .agg #[.int .i64 tk, .int .i64 tm, .int .i64 tlo, .int .i64 thi, .slice tar tr.length tcr, .slice tak tkids.length tck]) (by simp [results, Tryz.results64, go_sem, r0, r1, r2, r3, r4, r5]) rfl ?_
       refine ⟨[.int .i64 tk, .int .i64 tm, .int .i64 tlo, .int .i64 thi, .slice tar tr.length tcr, .slice tak tkids.length tck], rfl, ?_, hbF⟩
       have hs5 := HB5.out.size
       rw [show catT l = .mk tk tm tlo thi tr tkids by unfold catT; rw [← HO.out, hO1]; rfl]
       exact (HX.out.move (fun b hb => (hmF b hb.1).trans (HB5.out.block b hb.2.1))).mono (fun b hb => by rw [hsF]; omega)
     ·have hO2 : ∃ a b l', O = a :: b :: l' := by
       match hm : O, h1 with
       | a :: b :: l', _ => exact ⟨a, b, l', rfl⟩
      have HO2 := Lib.hid hO2
      have HONE := Lib.hid (fun w => one_many (some ⟨g, 0, none⟩) O.length cap h1 5 1 0 0 0 none none 0 0 0 0 w)
      clear h0 h1 hO2
      go_wp2_with fail
      refine (HONE.out _).mono ?_
      rintro e w5 ⟨rfl, hB5⟩
      have hO2 := HO2.out
      have hz5 := (hB5.block _ (by have := HF.out.sz; omega)).trans HF.out.res
      have d0 := cell_heap (i := 0) hz5 rfl
      have d1 := cell_heap (i := 1) hz5 rfl
      have d2 := cell_heap (i := 2) hz5 rfl
      have d3 := cell_heap (i := 3) hz5 rfl
      have d4 := cell_heap (i := 4) hz5 rfl
      have d5 := cell_heap (i := 5) hz5 rfl
      have q0 : ∀ o, w5.frozen? ⟨w.heap.size, o, none⟩ = false := fun o => by simp [World.frozen?, hz5]
      have HZ5 := Lib.hid hz5
      have HB5 := Lib.hid hB5
      clear hz5 hB5
      go_wp2
      obtain ⟨WF, hWF⟩ : ∃ WF, WF = put6 w5 w.heap.size 0 (.int .i64 5) (.int .i64 0) (.int .i64 0) (.int .i64 0) (.slice none 0 0) (.slice (some ⟨g, 0, none⟩) O.length cap) := ⟨_, rfl⟩
      have hzF : WF.heap[w.heap.size]? = some (.cells #[.int .i64 5, .int .i64 0, .int .i64 0, .int .i64 0, .slice none 0 0, .slice (some ⟨g, 0, none⟩) O.length cap] 43 (0, 0)) := by
       rw [hWF]; unfold put6
       exact set_row (set_row (set_row (set_row (set_row (set_row HZ5.out _ _) _ _) _ _) _ _) _ _) _ _
      have hsF : WF.heap.size = w5.heap.size := by rw [hWF, put6_size]
      have hmF : ∀ b, w.heap.size + 2 ≤ b → WF.heap[b]? = w5.heap[b]? := fun b hb => by
       rw [hWF, put6_other _ _ _ _ _ _ _ _ _ b (by omega)]
      have hbF : Below w.heap.size w WF := by rw [hWF]; exact put6_below (HF.out.bel.trans (HB5.out.mono HF.out.bel.size)) (Nat.le_refl _) _ _ _ _ _ _ _
      change bodyPost Tryz.prog Tryz.f64 _ Exit.ret _ (put6 w5 w.heap.size 0 (.int .i64 5) (.int .i64 0) (.int .i64 0) (.int .i64 0) (.slice none 0 0) (.slice (some ⟨g, 0, none⟩) O.length cap))
      rw [← hWF]
      have r0 := cell_heap (i := 0) hzF rfl
      have r1 := cell_heap (i := 1) hzF rfl
      have r2 := cell_heap (i := 2) hzF rfl
      have r3 := cell_heap (i := 3) hzF rfl
      have r4 := cell_heap (i := 4) hzF rfl
      have r5 := cell_heap (i := 5) hzF rfl
      refine bodyPost_ret (v := .agg #[.int .i64 5, .int .i64 0, .int .i64 0, .int .i64 0, .slice none 0 0, .slice (some ⟨g, 0, none⟩) O.length cap]) (by simp [results, Tryz.results64, go_sem, r0, r1, r2, r3, r4, r5]) rfl ?_
      refine ⟨[.int .i64 5, .int .i64 0, .int .i64 0, .int .i64 0, .slice none 0 0, .slice (some ⟨g, 0, none⟩) O.length cap], rfl, ?_, hbF⟩
      have hs5 := HB5.out.size
      rw [show catT l = .mk 5 0 0 0 [] O by unfold catT; rw [← HO.out]; obtain ⟨a, b, l', e⟩ := hO2; rw [e]; rfl]
      exact NIn.mk 5 0 0 0 [] O none (some ⟨g, 0, none⟩) 0 cap cs ⟨rfl, by simp, fun h => by simp at h⟩ (fun ad e => by cases e) (by simp) (by simp) rfl HCS.out.2.2.1 (by have := HOL.out; omega)
       (fun j t ht => ((HCS.out.2.1 j t ht).move (fun b hb => (hmF b hb.1).trans (HB5.out.block b hb.2.1))).mono (fun b hb => by rw [hsF]; omega))
       (fun j hj => ⟨⟨g, 0, none⟩, rfl, by rw [hsF]; have := HCS.out.2.2.2.2; simp only; omega, fun i u hu => by
        rw [add_plain, World.cell?_of_block (w := wr) (a := ⟨g, j * 6 + i, none⟩) ((hmF g (by have := HCS.out.2.2.2.2; omega)).trans (HB5.out.block g (by have := HCS.out.2.2.2.2; omega)))]
        exact HCS.out.2.2.2.1 j hj i u hu⟩)
end Go.Proofs.YtamhkdlcoghdbaaGreatDoor.PCls
