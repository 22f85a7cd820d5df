/- Put together (wip/tools/pack.py): TSet, TAlt, TSame, THas. -/
import Derived.Test.YtamhkdlcoghdbaaDoorKTCat
/- Out of TSet (wip/tools/prune2.py): the declarations alone that the texts of the trees name. -/
namespace Go.Proofs.YtamhkdlcoghdbaaDoor.PCls
open Go.RowKit Go.Proofs.YtamhkdlcoghdbaaDoorW.PrintWords Go.Proofs.YtamhkdlcoghdbaaDoorW.PrintLast Go.Proofs.YtamhkdlcoghdbaaDoorW.PrintMore
set_option linter.unusedVariables false
set_option linter.unusedSimpArgs false
set_option maxHeartbeats 4000000 in
set_option maxRecDepth 100000 in
theorem rep_wrong (k m lo hi a b : Int) (ar ak : Option Addr) (lr cr lk ck : Nat) (E : Int) (hE : thing k = false ∧ E = 50 ∨ thing k = true ∧ bounds a b = false ∧ E = 1) (w : World) :
  Calls Tryd.prog 21 #[.agg #[.int .i64 k, .int .i64 m, .int .i64 lo, .int .i64 hi, .slice ar lr cr, .slice ak lk ck], .int .i64 a, .int .i64 b] w
   fun e w' => e = .returned (.tuple #[.agg #[.int .i64 0, .int .i64 0, .int .i64 0, .int .i64 0, .slice none 0 0, .slice none 0 0], .int .i64 E]) ∧ Below w.heap.size w w' := by
 have ht := fun w => thing_calls k w
 have hb := fun w => bounds_calls a b w
 rcases hE with ⟨h1, rfl⟩ | ⟨h1, h2, rfl⟩
 ·rw [h1] at ht
  have HT := Lib.hid ht
  clear ht hb h1
  go_enter Tryd.func21, Tryd.ntmps21
  go_wp2_with fail
  refine (HT.out _).mono ?_
  rintro e w2 ⟨rfl, rfl⟩
  go_wp2
  refine bodyPost_ret (v := .tuple #[.agg #[.int .i64 0, .int .i64 0, .int .i64 0, .int .i64 0, .slice none 0 0, .slice none 0 0], .int .i64 50]) (by simp [results, Tryd.results21, go_sem]) rfl ?_
  exact ⟨rfl, ((Below.refl _ w).alloc (Nat.le_refl _) _).alloc (by simp) _⟩
 ·rw [h1] at ht
  rw [h2] at hb
  have HT := Lib.hid ht
  have HB := Lib.hid hb
  clear ht hb h1 h2
  go_enter Tryd.func21, Tryd.ntmps21
  go_wp2_with fail
  refine (HT.out _).mono ?_
  rintro e w2 ⟨rfl, rfl⟩
  go_wp2_with fail
  refine (HB.out _).mono ?_
  rintro e w2 ⟨rfl, rfl⟩
  go_wp2
  refine bodyPost_ret (v := .tuple #[.agg #[.int .i64 0, .int .i64 0, .int .i64 0, .int .i64 0, .slice none 0 0, .slice none 0 0], .int .i64 1]) (by simp [results, Tryd.results21, go_sem]) rfl ?_
  exact ⟨rfl, ((Below.refl _ w).alloc (Nat.le_refl _) _).alloc (by simp) _⟩
set_option maxHeartbeats 4000000 in
set_option maxRecDepth 100000 in
theorem set_calls (x : Int) (hx : -9223372036854775808 ≤ x ∧ x ≤ 9223372036854775807) (w : World) :
  Calls Tryd.prog 22 #[.int .i64 x] w fun e w' => ∃ g, e = .returned (.agg #[.int .i64 2, .int .i64 0, .int .i64 0, .int .i64 0, .slice (some ⟨g, 0, none⟩) 1 1, .slice none 0 0]) ∧
   NIn w' (fun b => w.heap.size ≤ b ∧ b < w'.heap.size) (.mk 2 0 0 0 [⟨x, x⟩] []) [.int .i64 2, .int .i64 0, .int .i64 0, .int .i64 0, .slice (some ⟨g, 0, none⟩) 1 1, .slice none 0 0] ∧ Below w.heap.size w w' := by
 go_enter Tryd.func22, Tryd.ntmps22
 go_wp2
 obtain ⟨WF, hWF⟩ : ∃ WF, WF = (w.alloc (.cells #[.int .i64 2, .int .i64 0, .int .i64 0, .int .i64 0, .slice (some ⟨w.heap.size + 1, 0, none⟩) 1 1, .slice none 0 0] 28)).alloc (.cells #[.int .i64 x, .int .i64 x] 50) := ⟨_, rfl⟩
 have hzF : WF.heap[w.heap.size]? = some (.cells #[.int .i64 2, .int .i64 0, .int .i64 0, .int .i64 0, .slice (some ⟨w.heap.size + 1, 0, none⟩) 1 1, .slice none 0 0] 28 (0, 0)) := by rw [hWF]; exact (Below.heap_alloc _ _ _ (by simp)).trans (World.alloc_heap_new w _)
 have hrF : WF.heap[w.heap.size + 1]? = some (.cells #[.int .i64 x, .int .i64 x] 50 (0, 0)) := by
  have := World.alloc_heap_new (w.alloc (.cells #[.int .i64 2, .int .i64 0, .int .i64 0, .int .i64 0, .slice (some ⟨w.heap.size + 1, 0, none⟩) 1 1, .slice none 0 0] 28)) (.cells #[.int .i64 x, .int .i64 x] 50)
  rw [World.size_alloc] at this
  rw [hWF]; exact this
 have hsF : WF.heap.size = w.heap.size + 2 := by rw [hWF]; simp
 have hbF : Below w.heap.size w WF := by rw [hWF]; exact ((Below.refl _ w).alloc (Nat.le_refl _) _).alloc (by simp) _
 rw [← hWF]
 have r0 := cell_heap (i := 0) hzF rfl
 have r1 := cell_heap (i := 1) hzF rfl
 have r2 := cell_heap (i := 2) hzF rfl
 have r3 := cell_heap (i := 3) hzF rfl
 have r4 := cell_heap (i := 4) hzF rfl
 have r5 := cell_heap (i := 5) hzF rfl
 refine bodyPost_ret (v := .agg #[.int .i64 2, .int .i64 0, .int .i64 0, .int .i64 0, .slice (some ⟨w.heap.size + 1, 0, none⟩) 1 1, .slice none 0 0]) (by simp [results, Tryd.results22, go_sem, r0, r1, r2, r3, r4, r5]) rfl ?_
 refine ⟨w.heap.size + 1, rfl, ?_, hbF⟩
 refine NIn.mk 2 0 0 0 [⟨x, x⟩] [] (some ⟨w.heap.size + 1, 0, none⟩) none 1 0 (fun _ => []) ⟨rfl, by simp [maxLen], fun _ => ⟨_, rfl, fun j p hj => ?_⟩⟩ (fun ad e _ => by cases e; rw [hsF]; simp only; omega) (by simp) (by simp) ?_ (by simp) (by simp) (fun j t h => by simp at h) (fun j h => by simp at h)
 ·have hj0 : j = 0 := by have := (List.getElem?_eq_some_iff.1 hj).1; simp at this; omega
  subst hj0
  simp at hj
  subst hj
  refine ⟨enc2 ⟨x, x⟩, rfl, k64_mk _ _, fun i u hu => ?_⟩
  rw [add_plain]
  match i, hu with
  | 0, hu => simp [enc2] at hu; subst hu; exact cell_heap hrF rfl
  | 1, hu => simp [enc2] at hu; subst hu; exact cell_heap hrF rfl
  | i + 2, hu => simp [enc2] at hu
 ·simp [inR]; omega
end Go.Proofs.YtamhkdlcoghdbaaDoor.PCls
/- Out of TAlt (wip/tools/prune2.py): the declarations alone that the texts of the trees name. -/
namespace Go.Proofs.YtamhkdlcoghdbaaDoor.PCls
open Go.RowKit Go.Proofs.YtamhkdlcoghdbaaDoorW.PrintWords Go.Proofs.YtamhkdlcoghdbaaDoorW.PrintLast Go.Proofs.YtamhkdlcoghdbaaDoorW.PrintMore
set_option linter.unusedVariables false
set_option linter.unusedSimpArgs false
set_option maxHeartbeats 4000000 in
set_option maxRecDepth 100000 in
theorem alt_nil (w : World) : Calls Tryd.prog 23 #[.slice none 0 0] w fun e w' => e = .returned (.agg #[.int .i64 2, .int .i64 0, .int .i64 0, .int .i64 0, .slice none 0 0, .slice none 0 0]) ∧ Below w.heap.size w w' := by
 have HONE := Lib.hid (fun w => one_none none 0 6 2 0 0 0 none none 0 0 0 0 w)
 have hz := World.alloc_heap_new w (.cells #[.int .i64 0, .int .i64 0, .int .i64 0, .int .i64 0, .slice none 0 0, .slice none 0 0] 28)
 obtain ⟨W1, hW1⟩ : ∃ W1, W1 = w.alloc (.cells #[.int .i64 0, .int .i64 0, .int .i64 0, .int .i64 0, .slice none 0 0, .slice none 0 0] 28) := ⟨_, rfl⟩
 have hs : W1.heap.size = w.heap.size + 1 := by rw [hW1]; simp
 have hbb : Below w.heap.size w W1 := by rw [hW1]; exact (Below.refl _ w).alloc (Nat.le_refl _) _
 rw [← hW1] at hz
 have HZ := Lib.hid hz
 have HS := Lib.hid hs
 have HW1 := Lib.hid hW1
 have HB := Lib.hid hbb
 clear hs hbb hW1
 have HB0 := Lib.hid (show Below w.heap.size w (w.alloc (.cells #[.int .i64 0, .int .i64 0, .int .i64 0, .int .i64 0, .slice none 0 0, .slice none 0 0] 28)) from (Below.refl _ w).alloc (Nat.le_refl _) _)
 clear hz
 go_enter Tryd.func23, Tryd.ntmps23
 go_wp2_with fail
 go_loopg [3, 8] 0 (fun gg s3 s8 wr => s3 = .slice none 0 0 ∧ s8 = .int .i64 0 ∧ Aside0 (wr = W1))
 case atStart => exact ⟨rfl, rfl, ⟨HW1.out.symm⟩⟩
 case round =>
  obtain ⟨rfl, rfl, HQ⟩ := hrel
  obtain rfl := HQ.out
  clear HW1 HB0
  go_wp2_with fail
  refine (HONE.out _).mono ?_
  rintro e w5 ⟨rfl, hB5⟩
  have hz5 := (hB5.block _ (by have := HS.out; omega)).trans HZ.out
  have d0 := cell_heap (i := 0) hz5 rfl
  have d1 := cell_heap (i := 1) hz5 rfl
  have d2 := cell_heap (i := 2) hz5 rfl
  have d3 := cell_heap (i := 3) hz5 rfl
  have d4 := cell_heap (i := 4) hz5 rfl
  have d5 := cell_heap (i := 5) hz5 rfl
  have q0 : ∀ o, w5.frozen? ⟨w.heap.size, o, none⟩ = false := fun o => by simp [World.frozen?, hz5]
  have HZ5 := Lib.hid hz5
  have HB5 := Lib.hid hB5
  clear hz5 hB5
  go_wp2
  obtain ⟨WF, hWF⟩ : ∃ WF, WF = put6 w5 w.heap.size 0 (.int .i64 2) (.int .i64 0) (.int .i64 0) (.int .i64 0) (.slice none 0 0) (.slice none 0 0) := ⟨_, rfl⟩
  have hzF : WF.heap[w.heap.size]? = some (.cells #[.int .i64 2, .int .i64 0, .int .i64 0, .int .i64 0, .slice none 0 0, .slice none 0 0] 28 (0, 0)) := by
   rw [hWF]; unfold put6
   exact set_row (set_row (set_row (set_row (set_row (set_row HZ5.out _ _) _ _) _ _) _ _) _ _) _ _
  have hbF : Below w.heap.size w WF := by rw [hWF]; exact put6_below (HB.out.trans (HB5.out.mono HB.out.size)) (Nat.le_refl _) _ _ _ _ _ _ _
  change bodyPost Tryd.prog Tryd.f23 _ Exit.ret _ (put6 w5 w.heap.size 0 (.int .i64 2) (.int .i64 0) (.int .i64 0) (.int .i64 0) (.slice none 0 0) (.slice none 0 0))
  rw [← hWF]
  have r0 := cell_heap (i := 0) hzF rfl
  have r1 := cell_heap (i := 1) hzF rfl
  have r2 := cell_heap (i := 2) hzF rfl
  have r3 := cell_heap (i := 3) hzF rfl
  have r4 := cell_heap (i := 4) hzF rfl
  have r5 := cell_heap (i := 5) hzF rfl
  refine bodyPost_ret (v := .agg #[.int .i64 2, .int .i64 0, .int .i64 0, .int .i64 0, .slice none 0 0, .slice none 0 0]) (by simp [results, Tryd.results23, go_sem, r0, r1, r2, r3, r4, r5]) rfl ?_
  exact ⟨rfl, hbF⟩
end Go.Proofs.YtamhkdlcoghdbaaDoor.PCls
/- Out of TSame (wip/tools/prune2.py): the declarations alone that the texts of the trees name. -/
namespace Go.Proofs.YtamhkdlcoghdbaaDoor.PCls
open Go.RowKit Go.Proofs.YtamhkdlcoghdbaaDoorW.PrintWords Go.Proofs.YtamhkdlcoghdbaaDoorW.PrintLast Go.Proofs.YtamhkdlcoghdbaaDoorW.PrintMore
set_option linter.unusedVariables false
set_option linter.unusedSimpArgs false
theorem below_drawn3 {B : Nat} {w0 w w' : World} (h : Below B w0 w) (hd : Drawn0 w w') : Below B w0 w' := by
 obtain ⟨m, rfl⟩ := hd.out
 exact wN h m
theorem sameL_length : ∀ (l l' : List NT), NT.sameL l l' = true → l.length = l'.length
 | [], [], _ => rfl
 | [], _ :: _, h => by simp [NT.sameL] at h
 | _ :: _, [], h => by simp [NT.sameL] at h
 | a :: l, b :: l', h => by
  simp only [NT.sameL, Bool.and_eq_true] at h
  rw [List.length_cons, List.length_cons, sameL_length l l' h.2]
set_option maxHeartbeats 4000000 in
set_option maxRecDepth 100000 in
theorem equalFunc_calls (n0 : Nat) (w : World) (hw : n0 ≤ w.heap.size) (A B : Option Addr) (la ca lb cb : Nat) (l l' : List NT) (hla : l.length = la) (hlb : l'.length = lb) (hb : la < 1099511627776)
  (h1 : ∀ j t, l[j]? = some t → ∃ ad cs, A = some ad ∧ ad.block < n0 ∧ NIn w (· < n0) t cs ∧ ∀ i u, cs[i]? = some u → w.cell? (ad.add (j * 6 + i)) = some u)
  (h2 : ∀ j t, l'[j]? = some t → ∃ ad cs, B = some ad ∧ ad.block < n0 ∧ NIn w (· < n0) t cs ∧ ∀ i u, cs[i]? = some u → w.cell? (ad.add (j * 6 + i)) = some u)
  (ih : ∀ t, t ∈ l → ∀ (t' : NT) (cs ds : List Value) (W : World), n0 ≤ W.heap.size → NIn W (· < n0) t cs → NIn W (· < n0) t' ds → Calls Tryd.prog 37 #[.agg cs.toArray, .agg ds.toArray] W fun e w' => e = .returned (.bool (NT.same t t')) ∧ Below W.heap.size W w') :
  Calls Tryd.prog 62 #[.slice A la ca, .slice B lb cb, .func (.func 37) #[] #[]] w fun e w' => e = .returned (.bool (NT.sameL l l')) ∧ Below w.heap.size w w' := by
 obtain ⟨R, hR⟩ : ∃ R, R = NT.sameL l l' := ⟨_, rfl⟩
 have HR := Lib.hid hR
 have H1 := Lib.hid h1
 have H2 := Lib.hid h2
 have HI := Lib.hid ih
 have HLA := Lib.hid hla
 have HLB := Lib.hid hlb
 have HW := Lib.hid hw
 have HB := Lib.hid hb
 rw [← hR]
 clear hR h1 h2 ih hw hb
 by_cases hne : la = lb
 ·subst hne
  clear hla hlb
  go_enter Tryd.func62, Tryd.ntmps62
  go_wp2_with fail
  go_loopg [17] la (fun gg s17 wr => ∃ (j : Nat), s17 = .int .i64 j ∧ j ≤ la ∧ la - j ≤ gg ∧ Aside0 (Below w.heap.size w wr) ∧ Aside0 (NT.sameL (l.drop j) (l'.drop j) = R))
  case atStart => exact ⟨0, rfl, by omega, by omega, ⟨Below.refl _ _⟩, ⟨by rw [HR.out]; rfl⟩⟩
  case round =>
   obtain ⟨j, rfl, hj, hgg, HBj, HSj⟩ := hrel
   by_cases hlt : j < la
   ·obtain ⟨t, ht⟩ : ∃ t, l[j]? = some t := ⟨_, List.getElem?_eq_getElem (by have := HLA.out; omega)⟩
    obtain ⟨t', ht'⟩ : ∃ t', l'[j]? = some t' := ⟨_, List.getElem?_eq_getElem (by have := HLB.out; omega)⟩
    obtain ⟨ad, cs, rfl, hP, hN, hc⟩ := H1.out j t ht
    obtain ⟨bd, ds, rfl, hP', hN', hc'⟩ := H2.out j t' ht'
    have hmv : ∀ b, b < n0 → wr.heap[b]? = w.heap[b]? := fun b hb => HBj.out.block b (Nat.lt_of_lt_of_le hb HW.out)
    have hswr : n0 ≤ wr.heap.size := Nat.le_trans HW.out HBj.out.size
    have hNr := hN.move hmv
    have hNr' := hN'.move hmv
    have hcr : ∀ i u, cs[i]? = some u → wr.cell? (ad.add (j * 6 + i)) = some u := fun i u hu => by
     rw [World.cell?_of_block (w := w) (a := ad.add (j * 6 + i)) (by rw [add_block]; exact hmv _ hP)]; exact hc i u hu
    have hcr' : ∀ i u, ds[i]? = some u → wr.cell? (bd.add (j * 6 + i)) = some u := fun i u hu => by
     rw [World.cell?_of_block (w := w) (a := bd.add (j * 6 + i)) (by rw [add_block]; exact hmv _ hP')]; exact hc' i u hu
    have hdrop : NT.sameL (l.drop j) (l'.drop j) = (NT.same t t' && NT.sameL (l.drop (j + 1)) (l'.drop (j + 1))) := by
     obtain ⟨g1, e1⟩ := List.getElem?_eq_some_iff.1 ht
     obtain ⟨g2, e2⟩ := List.getElem?_eq_some_iff.1 ht'
     rw [List.drop_eq_getElem_cons g1, List.drop_eq_getElem_cons g2, e1, e2]
     rfl
    have hcall : ∀ W, Below wr.heap.size wr W → Calls Tryd.prog 37 #[.agg cs.toArray, .agg ds.toArray] W fun e w' => e = .returned (.bool (NT.same t t')) ∧ Below W.heap.size W w' := fun W hW =>
     HI.out t (List.mem_of_getElem? ht) t' cs ds W (Nat.le_trans hswr hW.size) (hNr.move fun b hb => hW.block b (Nat.lt_of_lt_of_le hb hswr)) (hNr'.move fun b hb => hW.block b (Nat.lt_of_lt_of_le hb hswr))
    cases hN with
    | mk k m lo hi r kids ar ak cr ck csk _ _ _ _ _ _ _ _ _ =>
     rename_i q1 q2 q3 q4 q5 q6 q7 q8 q9
     clear q1 q2 q3 q4 q5 q6 q7 q8 q9
     cases hN' with
     | mk k' m' lo' hi' r' kids' ar' ak' cr' ck' csk' _ _ _ _ _ _ _ _ _ =>
      rename_i q1 q2 q3 q4 q5 q6 q7 q8 q9
      clear q1 q2 q3 q4 q5 q6 q7 q8 q9
      have x0 := hcr 0 _ rfl
      rw [Nat.add_zero] at x0
      have x1 := cell_at hcr 1 (by decide) rfl
      have x2 := cell_at hcr 2 (by decide) rfl
      have x3 := cell_at hcr 3 (by decide) rfl
      have x4 := cell_at hcr 4 (by decide) rfl
      have x5 := cell_at hcr 5 (by decide) rfl
      have z0 := hcr' 0 _ rfl
      rw [Nat.add_zero] at z0
      have z1 := cell_at hcr' 1 (by decide) rfl
      have z2 := cell_at hcr' 2 (by decide) rfl
      have z3 := cell_at hcr' 3 (by decide) rfl
      have z4 := cell_at hcr' 4 (by decide) rfl
      have z5 := cell_at hcr' 5 (by decide) rfl
      have Z : ∀ o, (wr.alloc o).cell? (bd.add (j * 6)) = some (.int .i64 k') := fun o => Lib.cell?_alloc_some _ z0
      have Z1 : ∀ o, (wr.alloc o).cell? ⟨(bd.add (j * 6)).block, (bd.add (j * 6)).off + 1, none⟩ = some (.int .i64 m') := fun o => Lib.cell?_alloc_some _ z1
      have Z2 : ∀ o, (wr.alloc o).cell? ⟨(bd.add (j * 6)).block, (bd.add (j * 6)).off + 2, none⟩ = some (.int .i64 lo') := fun o => Lib.cell?_alloc_some _ z2
      have Z3 : ∀ o, (wr.alloc o).cell? ⟨(bd.add (j * 6)).block, (bd.add (j * 6)).off + 3, none⟩ = some (.int .i64 hi') := fun o => Lib.cell?_alloc_some _ z3
      have Z4 : ∀ o, (wr.alloc o).cell? ⟨(bd.add (j * 6)).block, (bd.add (j * 6)).off + 4, none⟩ = some (.slice ar' r'.length cr') := fun o => Lib.cell?_alloc_some _ z4
      have Z5 : ∀ o, (wr.alloc o).cell? ⟨(bd.add (j * 6)).block, (bd.add (j * 6)).off + 5, none⟩ = some (.slice ak' kids'.length ck') := fun o => Lib.cell?_alloc_some _ z5
      have hlt' : (j : Int) < (la : Int) := by omega
      have HCALL := Lib.hid hcall
      have HD := Lib.hid hdrop
      clear hcall hdrop hcr hcr' hc hc' hNr hNr' hmv ht ht' hP hP' z0 z1 z2 z3 z4 z5
      go_wp2_with fail
      refine (HCALL.out _ (((Below.refl _ wr).alloc (Nat.le_refl _) _).alloc (by simp) _)).mono ?_
      rintro e w4 ⟨rfl, hB4⟩
      have hB5 : Below w.heap.size w w4 := HBj.out.trans ((((Below.refl _ wr).alloc (Nat.le_refl _) _).alloc (by simp) _).trans (hB4.mono (by simp; omega)) |>.mono HBj.out.size)
      have HB5 := Lib.hid hB5
      clear hB4 hB5
      cases hs : NT.same (.mk k m lo hi r kids) (.mk k' m' lo' hi' r' kids')
      ·have HSS := Lib.hid hs
       clear hs
       go_wp2
       go_ret
       exact ⟨by rw [← HSj.out, HD.out, HSS.out]; rfl, HB5.out⟩
      ·have HSS := Lib.hid hs
       clear hs
       go_wp2
       go_roundg (la - (j + 1))
       case measure => omega
       case rel => exact ⟨j + 1, congrArg (Value.int .i64) (by first | (push_cast; rfl) | (rw [w64_lit _ (by omega) (by have := HB.out; omega)]; push_cast; rfl)), by omega, Nat.le_refl _, ⟨HB5.out⟩, ⟨by rw [← HSj.out, HD.out, HSS.out]; rfl⟩⟩
   ·obtain rfl : j = la := by omega
    have hlt' : ¬ (j : Int) < (j : Int) := by omega
    go_wp2
    go_ret
    refine ⟨?_, HBj.out⟩
    rw [← HSj.out, List.drop_eq_nil_of_le (by have := HLA.out; omega), List.drop_eq_nil_of_le (by have := HLB.out; omega)]
    rfl
 ·have hne' : ((la : Int) == (lb : Int)) = false := beq_eq_false_iff_ne.2 (by omega)
  have hr : R = false := by
   rw [HR.out]
   cases h : NT.sameL l l'
   ·rfl
   ·exact absurd (sameL_length l l' h) (by have := HLA.out; have := HLB.out; omega)
  rw [hr]
  clear hr hne hla hlb
  go_enter Tryd.func62, Tryd.ntmps62
  go_wp2
  go_ret
  exact ⟨rfl, Below.refl _ _⟩
set_option maxHeartbeats 4000000 in
set_option maxRecDepth 100000 in
theorem same_calls (n0 : Nat) : ∀ (N : Nat) (a b : NT) (cs ds : List Value) (w : World), a.nodes ≤ N → n0 ≤ w.heap.size → NIn w (· < n0) a cs → NIn w (· < n0) b ds →
  Calls Tryd.prog 37 #[.agg cs.toArray, .agg ds.toArray] w fun e w' => e = .returned (.bool (NT.same a b)) ∧ Below w.heap.size w w' := by
 intro N
 induction N with
 | zero => intro a b cs ds w h; have := a.nodes_pos; omega
 | succ N ih =>
  intro a b cs ds w hN hw hA hB
  have hA0 := hA
  have hB0 := hB
  obtain ⟨S, hS⟩ : ∃ S, S = NT.same a b := ⟨_, rfl⟩
  have HS := Lib.hid hS
  rw [← hS]
  clear hS
  cases hA with
  | mk k m lo hi r kids ar ak cr ck csk hr hrb hcr hrl hin hck hkl hk ha =>
   cases hB with
   | mk k' m' lo' hi' r' kids' ar' ak' cr' ck' csk' hr' hrb' hcr' hrl' hin' hck' hkl' hk' ha' =>
    have HA := Lib.hid hA0
    have HB := Lib.hid hB0
    have HN := Lib.hid hN
    have HW := Lib.hid hw
    have HI := Lib.hid ih
    have HC := Lib.hid (And.intro hr (And.intro hrb (And.intro hcr hrl)))
    have HD := Lib.hid (And.intro hr' (And.intro hrb' (And.intro hcr' hrl')))
    have HK := Lib.hid hkl
    clear hA0 hB0 hN hw ih hr hrb hcr hrl hin hck hkl hk ha hr' hrb' hcr' hrl' hin' hck' hkl' hk' ha'
    show Calls Tryd.prog 37 #[.agg #[.int .i64 k, .int .i64 m, .int .i64 lo, .int .i64 hi, .slice ar r.length cr, .slice ak kids.length ck], .agg #[.int .i64 k', .int .i64 m', .int .i64 lo', .int .i64 hi', .slice ar' r'.length cr', .slice ak' kids'.length ck']] w _
    by_cases h1 : k = k'
    ·subst h1
     by_cases h2 : m = m'
     ·subst h2
      by_cases h3 : lo = lo'
      ·subst h3
       by_cases h4 : hi = hi'
       ·subst h4
        obtain ⟨W2, hW2⟩ : ∃ W2, W2 = ((w.alloc (.cells #[.int .i64 k, .int .i64 m, .int .i64 lo, .int .i64 hi, .slice ar r.length cr, .slice ak kids.length ck] 28)).alloc (.cells #[.int .i64 k, .int .i64 m, .int .i64 lo, .int .i64 hi, .slice ar' r'.length cr', .slice ak' kids'.length ck'] 28)) := ⟨_, rfl⟩
        have hb2 : Below w.heap.size w W2 := by rw [hW2]; exact ((Below.refl _ w).alloc (Nat.le_refl _) _).alloc (by simp) _
        have hn1 : W2.heap[w.heap.size]? = some (.cells #[.int .i64 k, .int .i64 m, .int .i64 lo, .int .i64 hi, .slice ar r.length cr, .slice ak kids.length ck] 28 (0, 0)) := by rw [hW2]; exact (Below.heap_alloc _ _ _ (by simp)).trans (World.alloc_heap_new w _)
        have hn2 : W2.heap[w.heap.size + 1]? = some (.cells #[.int .i64 k, .int .i64 m, .int .i64 lo, .int .i64 hi, .slice ar' r'.length cr', .slice ak' kids'.length ck'] 28 (0, 0)) := by
         have := World.alloc_heap_new (w.alloc (.cells #[.int .i64 k, .int .i64 m, .int .i64 lo, .int .i64 hi, .slice ar r.length cr, .slice ak kids.length ck] 28)) (.cells #[.int .i64 k, .int .i64 m, .int .i64 lo, .int .i64 hi, .slice ar' r'.length cr', .slice ak' kids'.length ck'] 28)
         rw [World.size_alloc] at this
         rw [hW2]; exact this
        obtain ⟨kk, hkk⟩ := (equal_ends r r' (by have := HC.out.2.2.2; omega)).get
        have mv : ∀ b, b < n0 → W2.heap[b]? = w.heap[b]? := fun b hb => hb2.block b (Nat.lt_of_lt_of_le hb HW.out)
        have hcall := api_Range_77.calls kk ar cr r ar' cr' r' _ W2 (C_move (P := (· < n0)) HC.out.1 HC.out.2.1 mv) HC.out.2.2.1 (C_move (P := (· < n0)) HD.out.1 HD.out.2.1 mv) HD.out.2.2.1 hkk
        have HB2 := Lib.hid hb2
        have HN1 := Lib.hid hn1
        have HN2 := Lib.hid hn2
        have HCALL := Lib.hid hcall
        have HSZ := Lib.hid (show w.heap.size + 2 ≤ W2.heap.size by rw [hW2]; simp)
        clear hb2 hn1 hn2 hcall hkk mv
        rw [hW2] at HCALL
        by_cases h5 : r = r'
        ·subst h5
         rw [decide_eq_true rfl] at HCALL
         go_enter Tryd.func37, Tryd.ntmps37
         go_wp2_with fail
         refine HCALL.out.mono ?_
         rintro e w3 ⟨rfl, hD⟩
         rw [← hW2] at hD
         have hb3 := below_drawn3 (Below.refl W2.heap.size W2) hD
         have c5 := cell_heap (i := 5) ((hb3.block _ (by have := HSZ.out; omega)).trans HN1.out) rfl
         have d5 := cell_heap (i := 5) ((hb3.block _ (by have := HSZ.out; omega)).trans HN2.out) rfl
         have HB3 := Lib.hid hb3
         have hb4 : Below w.heap.size w w3 := HB2.out.trans (HB3.out.mono HB2.out.size)
         have mv : ∀ b, b < n0 → w3.heap[b]? = w.heap[b]? := fun b hb => hb4.block b (Nat.lt_of_lt_of_le hb HW.out)
         have hef := equalFunc_calls n0 w3 (Nat.le_trans HW.out hb4.size) ak ak' kids.length ck kids'.length ck' kids kids' rfl rfl HK.out (fun j t ht => (HA.out.move mv).kid ht) (fun j t ht => (HB.out.move mv).kid ht)
          (fun t ht t' cs ds W hW h1 h2 => HI.out t t' cs ds W (by have := NT.nodes_kid ht; have := HN.out; simp only [NT.nodes] at this; omega) hW h1 h2)
         have HB4 := Lib.hid hb4
         have HEF := Lib.hid hef
         clear hD hb3 hb4 hef mv hW2
         go_wp2_with fail
         refine HEF.out.mono ?_
         rintro e w5 ⟨rfl, hB5⟩
         have HB5 := Lib.hid hB5
         clear hB5
         go_wp2
         go_ret
         exact ⟨by rw [HS.out]; simp [NT.same], HB4.out.trans (HB5.out.mono HB4.out.size)⟩
        ·have hs : S = false := by rw [HS.out]; simp [NT.same, h5]
         rw [decide_eq_false h5] at HCALL
         rw [hs]
         clear hs h5
         go_enter Tryd.func37, Tryd.ntmps37
         go_wp2_with fail
         refine HCALL.out.mono ?_
         rintro e w3 ⟨rfl, hD⟩
         rw [← hW2] at hD
         have HB3 := Lib.hid (below_drawn3 (Below.refl W2.heap.size W2) hD)
         clear hD hW2
         go_wp2
         go_ret
         exact ⟨rfl, HB2.out.trans (HB3.out.mono HB2.out.size)⟩
       ·have hs : S = false := by rw [HS.out]; simp [NT.same, h4]
        have h42 : (hi == hi') = false := beq_eq_false_iff_ne.2 h4
        rw [hs]; clear hs h4
        go_enter Tryd.func37, Tryd.ntmps37
        go_wp2
        go_ret
        exact ⟨rfl, ((Below.refl _ w).alloc (Nat.le_refl _) _).alloc (by simp) _⟩
      ·have hs : S = false := by rw [HS.out]; simp [NT.same, h3]
       have h32 : (lo == lo') = false := beq_eq_false_iff_ne.2 h3
       rw [hs]; clear hs h3
       go_enter Tryd.func37, Tryd.ntmps37
       go_wp2
       go_ret
       exact ⟨rfl, ((Below.refl _ w).alloc (Nat.le_refl _) _).alloc (by simp) _⟩
     ·have hs : S = false := by rw [HS.out]; simp [NT.same, h2]
      have h22 : (m == m') = false := beq_eq_false_iff_ne.2 h2
      rw [hs]; clear hs h2
      go_enter Tryd.func37, Tryd.ntmps37
      go_wp2
      go_ret
      exact ⟨rfl, ((Below.refl _ w).alloc (Nat.le_refl _) _).alloc (by simp) _⟩
    ·have hs : S = false := by rw [HS.out]; simp [NT.same, h1]
     have h12 : (k == k') = false := beq_eq_false_iff_ne.2 h1
     rw [hs]; clear hs h1
     go_enter Tryd.func37, Tryd.ntmps37
     go_wp2
     go_ret
     exact ⟨rfl, ((Below.refl _ w).alloc (Nat.le_refl _) _).alloc (by simp) _⟩
/-- Same -/
def sameT (a b : NT) : Bool := decide (a.nodes ≤ 2000) && (decide (b.nodes ≤ 2000) && NT.same a b)
set_option maxHeartbeats 4000000 in
set_option maxRecDepth 100000 in
theorem Same_calls (n0 : Nat) (a b : NT) (cs ds : List Value) (w : World) (hw : n0 ≤ w.heap.size) (hA : NIn w (· < n0) a cs) (hB : NIn w (· < n0) b ds) (ha : a.nodes < 4611686018427387903) (hb : b.nodes < 4611686018427387903) :
  Calls Tryd.prog 12 #[.agg cs.toArray, .agg ds.toArray] w fun e w' => e = .returned (.bool (sameT a b)) ∧ Below w.heap.size w w' := by
 obtain ⟨ca, hca⟩ : ∃ ca, ca = countT a := ⟨_, rfl⟩
 obtain ⟨cb, hcb⟩ : ∃ cb, cb = countT b := ⟨_, rfl⟩
 have hmv : ∀ {W : World}, Below w.heap.size w W → (∀ b, b < n0 → W.heap[b]? = w.heap[b]?) := fun h b hb => h.block b (Nat.lt_of_lt_of_le hb hw)
 have HCA := Lib.hid (fun (W : World) (h : Below w.heap.size w W) => count_calls a cs W ((hA.move (hmv h)).mono (fun b hb => Nat.lt_of_lt_of_le hb (Nat.le_trans hw h.size))) ha)
 have HCB := Lib.hid (fun (W : World) (h : Below w.heap.size w W) => count_calls b ds W ((hB.move (hmv h)).mono (fun b hb => Nat.lt_of_lt_of_le hb (Nat.le_trans hw h.size))) hb)
 have HSC := Lib.hid (fun (W : World) (h : Below w.heap.size w W) => same_calls n0 a.nodes a b cs ds W (Nat.le_refl _) (Nat.le_trans hw h.size) (hA.move (hmv h)) (hB.move (hmv h)))
 rw [← hca] at HCA
 rw [← hcb] at HCB
 obtain ⟨S, hS⟩ : ∃ S, S = sameT a b := ⟨_, rfl⟩
 have HS := Lib.hid hS
 have HCA2 := Lib.hid hca
 have HCB2 := Lib.hid hcb
 rw [← hS]
 clear hca hcb hS ha hb
 cases hA with
 | mk k m lo hi r kids ar ak cr ck csk _ _ _ _ _ _ _ _ _ =>
  rename_i q1 q2 q3 q4 q5 q6 q7 q8 q9
  clear q1 q2 q3 q4 q5 q6 q7 q8 q9
  cases hB with
  | mk k' m' lo' hi' r' kids' ar' ak' cr' ck' csk' _ _ _ _ _ _ _ _ _ =>
   rename_i q1 q2 q3 q4 q5 q6 q7 q8 q9
   clear q1 q2 q3 q4 q5 q6 q7 q8 q9
   show Calls Tryd.prog 12 #[.agg #[.int .i64 k, .int .i64 m, .int .i64 lo, .int .i64 hi, .slice ar r.length cr, .slice ak kids.length ck], .agg #[.int .i64 k', .int .i64 m', .int .i64 lo', .int .i64 hi', .slice ar' r'.length cr', .slice ak' kids'.length ck']] w _
   obtain ⟨W2, hW2⟩ : ∃ W2, W2 = ((w.alloc (.cells #[.int .i64 k, .int .i64 m, .int .i64 lo, .int .i64 hi, .slice ar r.length cr, .slice ak kids.length ck] 28)).alloc (.cells #[.int .i64 k', .int .i64 m', .int .i64 lo', .int .i64 hi', .slice ar' r'.length cr', .slice ak' kids'.length ck'] 28)) := ⟨_, rfl⟩
   have hb2 : Below w.heap.size w W2 := by rw [hW2]; exact ((Below.refl _ w).alloc (Nat.le_refl _) _).alloc (by simp) _
   have hn1 : W2.heap[w.heap.size]? = some (.cells #[.int .i64 k, .int .i64 m, .int .i64 lo, .int .i64 hi, .slice ar r.length cr, .slice ak kids.length ck] 28 (0, 0)) := by rw [hW2]; exact (Below.heap_alloc _ _ _ (by simp)).trans (World.alloc_heap_new w _)
   have hn2 : W2.heap[w.heap.size + 1]? = some (.cells #[.int .i64 k', .int .i64 m', .int .i64 lo', .int .i64 hi', .slice ar' r'.length cr', .slice ak' kids'.length ck'] 28 (0, 0)) := by
    have := World.alloc_heap_new (w.alloc (.cells #[.int .i64 k, .int .i64 m, .int .i64 lo, .int .i64 hi, .slice ar r.length cr, .slice ak kids.length ck] 28)) (.cells #[.int .i64 k', .int .i64 m', .int .i64 lo', .int .i64 hi', .slice ar' r'.length cr', .slice ak' kids'.length ck'] 28)
    rw [World.size_alloc] at this
    rw [hW2]; exact this
   have HB2 := Lib.hid hb2
   have HN1 := Lib.hid hn1
   have HN2 := Lib.hid hn2
   have HSZ := Lib.hid (show w.heap.size + 2 ≤ W2.heap.size by rw [hW2]; simp)
   have hc1 := HCA.out W2 hb2
   rw [hW2] at hc1
   have HC1 := Lib.hid hc1
   clear hb2 hn1 hn2 hc1 hw hmv
   by_cases h1 : ca ≤ 2000
   ·go_enter Tryd.func12, Tryd.ntmps12
    go_wp2_with fail
    refine HC1.out.mono ?_
    rintro e w3 ⟨rfl, hB3⟩
    rw [← hW2] at hB3
    have HB3 := Lib.hid (HB2.out.trans (hB3.mono HB2.out.size))
    have hm2 := (hB3.block _ (by have := HSZ.out; omega)).trans HN2.out
    have hm1 := (hB3.block _ (by have := HSZ.out; omega)).trans HN1.out
    have HM1 := Lib.hid hm1
    have HM2 := Lib.hid hm2
    have d0 := cell_heap (i := 0) hm2 rfl
    have d1 := cell_heap (i := 1) hm2 rfl
    have d2 := cell_heap (i := 2) hm2 rfl
    have d3 := cell_heap (i := 3) hm2 rfl
    have d4 := cell_heap (i := 4) hm2 rfl
    have d5 := cell_heap (i := 5) hm2 rfl
    have HSZ3 := Lib.hid (Nat.le_trans HSZ.out hB3.size)
    clear hB3 hm1 hm2 hW2
    go_wp2_with fail
    refine (HCB.out w3 HB3.out).mono ?_
    rintro e w4 ⟨rfl, hB4⟩
    have HB4 := Lib.hid (HB3.out.trans (hB4.mono HB3.out.size))
    have hm1 := (hB4.block _ (by have := HSZ3.out; omega)).trans HM1.out
    have hm2 := (hB4.block _ (by have := HSZ3.out; omega)).trans HM2.out
    clear d0 d1 d2 d3 d4 d5 hB4
    by_cases h2 : cb ≤ 2000
    ·have c0 := cell_heap (i := 0) hm1 rfl
     have c1 := cell_heap (i := 1) hm1 rfl
     have c2 := cell_heap (i := 2) hm1 rfl
     have c3 := cell_heap (i := 3) hm1 rfl
     have c4 := cell_heap (i := 4) hm1 rfl
     have c5 := cell_heap (i := 5) hm1 rfl
     have d0 := cell_heap (i := 0) hm2 rfl
     have d1 := cell_heap (i := 1) hm2 rfl
     have d2 := cell_heap (i := 2) hm2 rfl
     have d3 := cell_heap (i := 3) hm2 rfl
     have d4 := cell_heap (i := 4) hm2 rfl
     have d5 := cell_heap (i := 5) hm2 rfl
     have HH := Lib.hid (And.intro h1 h2)
     have hh2 : ¬ 2000 < cb := by omega
     have hh1 : ¬ 2000 < ca := by omega
     clear hm1 hm2
     go_wp2_with fail
     refine (HSC.out w4 HB4.out).mono ?_
     rintro e w5 ⟨rfl, hB5⟩
     have HB5 := Lib.hid (HB4.out.trans (hB5.mono HB4.out.size))
     clear hB5
     go_wp2
     go_ret
     refine ⟨?_, HB5.out⟩
     rw [HS.out]
     have q1 : (NT.mk k m lo hi r kids).nodes ≤ 2000 := by have := HH.out.1; have := HCA2.out; unfold countT at this; omega
     have q2 : (NT.mk k' m' lo' hi' r' kids').nodes ≤ 2000 := by have := HH.out.2; have := HCB2.out; unfold countT at this; omega
     unfold sameT
     rw [decide_eq_true q1, decide_eq_true q2]
     rfl
    ·have HH := Lib.hid h2
     have hh2 : 2000 < cb := by omega
     clear hm1 hm2
     go_wp2
     go_ret
     refine ⟨?_, HB4.out⟩
     rw [HS.out]
     have q2 : ¬ (NT.mk k' m' lo' hi' r' kids').nodes ≤ 2000 := by have := HH.out; have := HCB2.out; unfold countT at this; omega
     unfold sameT
     rw [decide_eq_false q2]
     simp
   ·have HH := Lib.hid h1
    have hh1 : 2000 < ca := by omega
    go_enter Tryd.func12, Tryd.ntmps12
    go_wp2_with fail
    refine HC1.out.mono ?_
    rintro e w3 ⟨rfl, hB3⟩
    rw [← hW2] at hB3
    have HB3 := Lib.hid (HB2.out.trans (hB3.mono HB2.out.size))
    clear hB3 hW2
    go_wp2
    go_ret
    refine ⟨?_, HB3.out⟩
    rw [HS.out]
    have q1 : ¬ (NT.mk k m lo hi r kids).nodes ≤ 2000 := by have := HH.out; have := HCA2.out; unfold countT at this; omega
    unfold sameT
    rw [decide_eq_false q1]
    rfl
end Go.Proofs.YtamhkdlcoghdbaaDoor.PCls
/- Out of THas (wip/tools/prune2.py): the declarations alone that the texts of the trees name. -/
namespace Go.Proofs.YtamhkdlcoghdbaaDoor.PCls
open Go.RowKit Go.Proofs.YtamhkdlcoghdbaaDoorW.PrintWords Go.Proofs.YtamhkdlcoghdbaaDoorW.PrintLast Go.Proofs.YtamhkdlcoghdbaaDoorW.PrintMore
set_option linter.unusedVariables false
set_option linter.unusedSimpArgs false
set_option maxHeartbeats 2000000 in
set_option maxRecDepth 100000 in
theorem index_calls (g n c : Nat) (v : Int) (xs : List Int) (w : World) (hn : xs.length = n) (hb : n < 4611686018427387904) (hc : ∀ (j : Nat) (x : Int), xs[j]? = some x → w.cell? ⟨g, j, none⟩ = some (.int .i64 x)) :
  Calls Tryd.prog 61 #[.slice (some ⟨g, 0, none⟩) n c, .int .i64 v] w fun e w' => ∃ r : Int, e = .returned (.int .i64 r) ∧ (0 ≤ r ↔ v ∈ xs) ∧ w' = w := by
 have HC := Lib.hid hc
 clear hc
 go_enter Tryd.func61, Tryd.ntmps61
 go_wp2_with fail
 go_loopg [8] n (fun gg s8 wr => ∃ (j : Nat), s8 = .int .i64 j ∧ j ≤ n ∧ n - j ≤ gg ∧ Aside0 (wr = w) ∧ Aside0 (∀ i, i < j → xs[i]? ≠ some v))
 case atStart => exact ⟨0, rfl, by omega, by omega, ⟨rfl⟩, ⟨fun i h => by omega⟩⟩
 case round =>
  obtain ⟨j, rfl, hj, hgg, HW, HI⟩ := hrel
  obtain rfl := HW.out
  by_cases hlt : j < n
  ·obtain ⟨x, hx⟩ : ∃ x, xs[j]? = some x := ⟨_, List.getElem?_eq_getElem (by omega)⟩
   have hx0 := HC.out j x hx
   have HX := Lib.hid hx
   have hlt' : (j : Int) < (n : Int) := by omega
   clear hx
   by_cases he : v = x
   ·subst he
    go_wp2
    go_ret
    exact ⟨_, rfl, ⟨fun _ => List.mem_of_getElem? HX.out, fun _ => by omega⟩, rfl⟩
   ·have he' : (v == x) = false := beq_eq_false_iff_ne.2 he
    have HE := Lib.hid he
    clear he
    go_wp2
    go_roundg (n - (j + 1))
    case measure => omega
    case rel => exact ⟨j + 1, congrArg (Value.int .i64) (by push_cast; rfl), by omega, Nat.le_refl _, ⟨rfl⟩, ⟨fun i hi => by
     rcases Nat.lt_or_ge i j with h | h
     ·exact HI.out i h
     ·obtain rfl : i = j := by omega
      rw [HX.out]
      intro e
      exact HE.out (Option.some.inj e).symm⟩⟩
  ·obtain rfl : j = n := by omega
   have hlt' : ¬ (j : Int) < (j : Int) := by omega
   go_wp2
   go_ret
   refine ⟨_, rfl, ⟨fun h => by omega, fun h => ?_⟩, rfl⟩
   obtain ⟨i, hi⟩ := List.getElem?_of_mem h
   have := (List.getElem?_eq_some_iff.1 hi).1
   exact absurd hi (HI.out i (by omega))
set_option maxHeartbeats 1000000 in
theorem indexNil_calls (c : Nat) (v : Int) (w : World) : Calls Tryd.prog 61 #[.slice none 0 c, .int .i64 v] w fun e w' => e = .returned (.int .i64 (-1)) ∧ w' = w := by
 go_enter Tryd.func61, Tryd.ntmps61
 go_wp2_with fail
 go_loopg [8] 0 (fun gg s8 wr => s8 = .int .i64 0 ∧ Aside0 (wr = w))
 case atStart => exact ⟨rfl, ⟨rfl⟩⟩
 case round =>
  obtain ⟨rfl, HW⟩ := hrel
  obtain rfl := HW.out
  go_wp2
  go_ret
  exact ⟨rfl, rfl⟩
set_option maxHeartbeats 1000000 in
theorem contains_calls (s : Value) (v : Int) (B : Bool) (w : World) (h : ∀ w1, w1 = w → Calls Tryd.prog 61 #[s, .int .i64 v] w1 fun e w' => ∃ r : Int, e = .returned (.int .i64 r) ∧ (0 ≤ r ↔ B = true) ∧ w' = w1) :
  Calls Tryd.prog 35 #[s, .int .i64 v] w fun e w' => e = .returned (.bool B) ∧ w' = w := by
 have H := Lib.hid h
 clear h
 go_enter Tryd.func35, Tryd.ntmps35
 go_wp2_with fail
 refine (H.out _ rfl).mono ?_
 rintro e w' ⟨r, rfl, hr, rfl⟩
 have HR := Lib.hid hr
 clear hr
 go_wp2
 go_ret
 exact ⟨congrArg (fun x => Ending.returned (Value.bool x)) (by rw [Bool.eq_iff_iff, ← HR.out]; simp), rfl⟩
theorem contains_own {base : Nat} {v : Value} {xs : List Int} {w : World} (ho : w.ownsRow base 3 1 v xs.length (xs.map (Value.int .i64))) (hb : xs.length < 4611686018427387904) (y : Int) :
  Calls Tryd.prog 35 #[v, .int .i64 y] w fun e w' => e = .returned (.bool (xs.contains y)) ∧ w' = w := by
 refine contains_calls v y _ w ?_
 rintro w1 rfl
 rcases ho.2 with ⟨rfl, h0⟩ | ⟨g, cap, cur, rfl, _⟩
 ·rw [List.length_eq_zero_iff] at h0
  subst h0
  refine (indexNil_calls 0 y w1).mono ?_
  rintro e w' ⟨rfl, rfl⟩
  exact ⟨_, rfl, by simp, rfl⟩
 ·refine (index_calls g xs.length cap y xs w1 rfl hb (fun j x hx => ?_)).mono ?_
  ·have := ho.cells (g := g) rfl j (Value.int .i64 x) (by rw [List.getElem?_map, hx]; rfl)
   rwa [add_plain] at this
  ·rintro e w' ⟨r, rfl, hr, rfl⟩
   exact ⟨r, rfl, by rw [hr]; simp, rfl⟩
end Go.Proofs.YtamhkdlcoghdbaaDoor.PCls
