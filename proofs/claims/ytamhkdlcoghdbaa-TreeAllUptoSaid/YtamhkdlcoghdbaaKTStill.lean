/- Out of TStill (wip/tools/prune2.py): the declarations alone that the texts of the trees name. -/
import Derived.Test.YtamhkdlcoghdbaaKTCopied
import Derived.Test.YtamhkdlcoghdbaaKTRCount
import Derived.Test.YtamhkdlcoghdbaaKMYPClsx7
namespace Go.Proofs.Ytamhkdlcoghdbaa.PCls
open Go.RowKit Go.Shelf Go.Proofs.YtamhkdlcoghdbaaW.PrintWords Go.Proofs.YtamhkdlcoghdbaaW.PrintLast Go.Proofs.YtamhkdlcoghdbaaW.PrintMore
set_option linter.unusedVariables false
set_option linter.unusedSimpArgs false
attribute [local go_sem] Oper.semAt_some
theorem neq64 (W : World) : (binOp .neq 64 (.agg #[.int .i64 (-7), .int .i64 7]) (.agg #[.int .i64 (-7), .int .i64 7])).run Try.prog W = .ok (.bool false) W := by
 kernel_rfl
/-- two boxes -/
structure TwoSt (w wr : World) (c0 c1 : Array Value) : Prop where
 bel : Below w.heap.size w wr
 x : wr.heap[w.heap.size]? = some (.cells c0 44 (0, 0))
 n : wr.heap[w.heap.size + 1]? = some (.cells c1 44 (0, 0))
 sz : w.heap.size + 2 ≤ wr.heap.size
theorem TwoSt.start (w : World) (c0 c1 : Array Value) : TwoSt w ((w.alloc (.cells c0 44)).alloc (.cells c1 44)) c0 c1 := by
 refine ⟨((Below.refl _ w).alloc (Nat.le_refl _) _).alloc (by simp) _, (Below.heap_alloc _ _ _ (by simp)).trans (World.alloc_heap_new w _), ?_, by simp⟩
 have := World.alloc_heap_new (w.alloc (.cells c0 44)) (.cells c1 44)
 rw [World.size_alloc] at this
 exact this
theorem TwoSt.below {w A B : World} {c0 c1 : Array Value} (h : TwoSt w A c0 c1) (hb : Below A.heap.size A B) : TwoSt w B c0 c1 :=
 ⟨h.bel.trans (hb.mono h.bel.size), (hb.block _ (by have := h.sz; omega)).trans h.x, (hb.block _ (by have := h.sz; omega)).trans h.n, Nat.le_trans h.sz hb.size⟩
theorem below_drawn5 {B : Nat} {w0 w w' : World} (h : Below B w0 w) (hd : Drawn0 w w') : Below B w0 w' := by
 obtain ⟨m, rfl⟩ := hd; exact wN h m
/-- a kid of a copy -/
theorem CIn.kid {w : World} {P : Nat → Prop} {k m lo hi : Int} {r : List S64} {kids : List NT} {R K lr lk : Nat} {v0 v1 v2 v3 v4 : Value} {ck : Nat} (h : CIn w P (.mk k m lo hi r kids) [v0, v1, v2, v3, v4, .slice (some ⟨K, 0, none⟩) lk ck]) {j : Nat} {t : NT} (hj : kids[j]? = some t) :
  ∃ cs, P K ∧ CIn w P t cs ∧ ∀ i u, cs[i]? = some u → w.cell? ⟨K, j * 6 + i, none⟩ = some u := by
 cases h with
 | mk _ _ _ _ _ _ R K cs hr hrp hrl hin hr0 hr1 hkp hkl hk ha hx => exact ⟨cs j, hkp, hk j t hj, ha j (List.getElem?_eq_some_iff.1 hj).1⟩
theorem CIn.shape {w : World} {P : Nat → Prop} {k m lo hi : Int} {r : List S64} {kids : List NT} {cs : List Value} (h : CIn w P (.mk k m lo hi r kids) cs) :
  ∃ R K, cs = [.int .i64 k, .int .i64 m, .int .i64 lo, .int .i64 hi, .slice (some ⟨R, 0, none⟩) r.length (r.length + 1), .slice (some ⟨K, 0, none⟩) kids.length (kids.length + 1)] := by
 cases h; exact ⟨_, _, rfl⟩
set_option maxHeartbeats 8000000 in
set_option maxRecDepth 100000 in
theorem still_calls : ∀ (N : Nat) (t : NT) (xs cs : List Value) (w : World), t.nodes ≤ N → CIn w (· < w.heap.size) t xs → NIn w (· < w.heap.size) t cs →
  Calls Try.prog 98 #[.agg xs.toArray, .agg cs.toArray] w fun e w' => e = .returned (.bool true) ∧ Below w.heap.size w w' := by
 intro N
 induction N with
 | zero => intro t xs cs w h; have := t.nodes_pos; omega
 | succ N ih =>
  intro t xs cs w hN hX hT
  obtain ⟨k, m, lo, hi, r, kids⟩ := t
  obtain ⟨ar, ak, cr, ck, rfl⟩ := NIn.shape hT
  obtain ⟨R, K, rfl⟩ := CIn.shape hX
  have hX0 := hX
  have hT0 := hT
  obtain ⟨hr, hrl, hin, hr0, hr1, hx, hkl⟩ : Kd.C k64 w (some ⟨R, 0, none⟩) r.length r ∧ r.length < 2097152 ∧ inR r = true ∧ w.cell? ⟨R, r.length * 2, none⟩ = some (.int .i64 (-7)) ∧ w.cell? ⟨R, r.length * 2 + 1, none⟩ = some (.int .i64 7) ∧ w.cell? ⟨K, kids.length * 6, none⟩ = some (.int .i64 (-7)) ∧ kids.length < 1099511627776 := by
   cases hX0 with
   | mk _ _ _ _ _ _ _ _ cq hr hrp hrl hin hr0 hr1 hkp hkl hk ha hx => exact ⟨hr, hrl, hin, hr0, hr1, hx, hkl⟩
  obtain ⟨hRs, hKs⟩ : R < w.heap.size ∧ K < w.heap.size := by
   cases hX with
   | mk _ _ _ _ _ _ _ _ cq hr hrp hrl hin hr0 hr1 hkp hkl hk ha hx => exact ⟨hrp, hkp⟩
  obtain ⟨hcr2, hrc⟩ : Kd.C k64 w ar r.length r ∧ r.length ≤ cr := by
   cases hT0 with
   | mk _ _ _ _ _ _ _ _ _ _ cq hr hrb hcr hrl hin hck hkl hk ha => exact ⟨hr, hcr⟩
  obtain ⟨k3, f3⟩ := (alike_ends r r (by omega)).get
  rw [decide_eq_true rfl] at f3
  have HN := Lib.hid hN
  have HX := Lib.hid hX
  have HT := Lib.hid hT
  have HI := Lib.hid ih
  have HST := Lib.hid (TwoSt.start w #[.int .i64 k, .int .i64 m, .int .i64 lo, .int .i64 hi, .slice (some ⟨R, 0, none⟩) r.length (r.length + 1), .slice (some ⟨K, 0, none⟩) kids.length (kids.length + 1)] #[.int .i64 k, .int .i64 m, .int .i64 lo, .int .i64 hi, .slice ar r.length cr, .slice ak kids.length ck])
  have HRC := Lib.hid (And.intro hr (And.intro hcr2 hrc))
  have HAL := Lib.hid f3
  have HC := Lib.hid (And.intro hr0 (And.intro hr1 hx))
  have HRK := Lib.hid (And.intro hRs hKs)
  clear hX0 hT0 hX hT hN ih hr hin hr0 hr1 hx hcr2 hrc f3
  show Calls Try.prog 98 #[.agg #[.int .i64 k, .int .i64 m, .int .i64 lo, .int .i64 hi, .slice (some ⟨R, 0, none⟩) r.length (r.length + 1), .slice (some ⟨K, 0, none⟩) kids.length (kids.length + 1)], .agg #[.int .i64 k, .int .i64 m, .int .i64 lo, .int .i64 hi, .slice ar r.length cr, .slice ak kids.length ck]] w _
  obtain ⟨W2, hW2⟩ : ∃ W2, W2 = (w.alloc (.cells #[.int .i64 k, .int .i64 m, .int .i64 lo, .int .i64 hi, .slice (some ⟨R, 0, none⟩) r.length (r.length + 1), .slice (some ⟨K, 0, none⟩) kids.length (kids.length + 1)] 44)).alloc (.cells #[.int .i64 k, .int .i64 m, .int .i64 lo, .int .i64 hi, .slice ar r.length cr, .slice ak kids.length ck] 44) := ⟨_, rfl⟩
  have hst := HST.out
  rw [← hW2] at hst
  have HS2 := Lib.hid hst
  have HW2 := Lib.hid hW2
  clear hst hW2 HST
  go_enter Try.func98, Try.ntmps98
  go_wp2_with fail
  rw [← HW2.out]
  refine (dredgeref06_Alike.calls k3 _ _ r ar cr r true W2 (Kd.C_below HRC.out.1 HS2.out.bel) (by omega) (Kd.C_below HRC.out.2.1 HS2.out.bel) HRC.out.2.2 HAL.out).mono ?_
  rintro e w4 ⟨rfl, hD⟩
  have HS4 := Lib.hid (HS2.out.below (below_drawn5 (Below.refl W2.heap.size W2) hD))
  clear hD HW2 HS2
  have x0 := cell_heap (i := 0) HS4.out.x rfl
  have x1 := cell_heap (i := 1) HS4.out.x rfl
  have x2 := cell_heap (i := 2) HS4.out.x rfl
  have x3 := cell_heap (i := 3) HS4.out.x rfl
  have x4 := cell_heap (i := 4) HS4.out.x rfl
  have x5 := cell_heap (i := 5) HS4.out.x rfl
  have n0 := cell_heap (i := 0) HS4.out.n rfl
  have n1 := cell_heap (i := 1) HS4.out.n rfl
  have n2 := cell_heap (i := 2) HS4.out.n rfl
  have n3 := cell_heap (i := 3) HS4.out.n rfl
  have n4 := cell_heap (i := 4) HS4.out.n rfl
  have n5 := cell_heap (i := 5) HS4.out.n rfl
  have hmv : ∀ b o u, b < w.heap.size → w.cell? ⟨b, o, none⟩ = some u → w4.cell? ⟨b, o, none⟩ = some u := fun b o u hb hu => by rw [World.cell?_of_block (w := w) (a := ⟨b, o, none⟩) (HS4.out.bel.block b hb)]; exact hu
  have y0 := hmv _ _ _ HRK.out.1 HC.out.1
  have y1 := hmv _ _ _ HRK.out.1 HC.out.2.1
  have y2 := hmv _ _ _ HRK.out.2 HC.out.2.2
  clear hmv
  have hne := neq64
  have h1 : (r.length : Int) < (r.length : Int) + 1 := by omega
  have h2 : (kids.length : Int) < (kids.length : Int) + 1 := by omega
  go_wp2_with fail
  clear hne h1 h2 y0 y1 y2 x0 n0 x1 n1 x2 n2 x3 n3 x4 n4 x5 n5
  go_loopg [8] kids.length (fun gg s8 wr => ∃ j : Nat, s8 = .int .i64 j ∧ j ≤ kids.length ∧ kids.length - j ≤ gg ∧ Aside0 (TwoSt w wr #[.int .i64 k, .int .i64 m, .int .i64 lo, .int .i64 hi, .slice (some ⟨R, 0, none⟩) r.length (r.length + 1), .slice (some ⟨K, 0, none⟩) kids.length (kids.length + 1)] #[.int .i64 k, .int .i64 m, .int .i64 lo, .int .i64 hi, .slice ar r.length cr, .slice ak kids.length ck]))
  case atStart => exact ⟨0, rfl, by omega, by omega, ⟨HS4.out⟩⟩
  case round =>
   obtain ⟨j, rfl, hj, hgg, HS⟩ := hrel
   have c5 := cell_heap (i := 5) HS.out.n rfl
   by_cases hjn : j < kids.length
   ·have hjn1 : (j : Int) < (kids.length : Int) := by omega
    obtain ⟨t, ht⟩ : ∃ t, kids[j]? = some t := ⟨_, List.getElem?_eq_getElem hjn⟩
    obtain ⟨ad, kcs, rfl, hPk, hNk, hck⟩ := HT.out.kid ht
    obtain ⟨xcs, hPx, hXk, hxk⟩ := HX.out.kid (R := R) (lr := 0) ht
    obtain ⟨tk, tm, tlo, thi, tr, tkids⟩ := t
    obtain ⟨tar, tak, tcr, tck, rfl⟩ := NIn.shape hNk
    obtain ⟨R2, K2, rfl⟩ := CIn.shape hXk
    have hnk : (NT.mk tk tm tlo thi tr tkids).nodes ≤ NT.nodesL kids := NT.nodes_kid (List.mem_of_getElem? ht)
    have HQ := Lib.hid (show ∀ (i : Nat) (u : Value), ([.int .i64 tk, .int .i64 tm, .int .i64 tlo, .int .i64 thi, .slice tar tr.length tcr, .slice tak tkids.length tck] : List Value)[i]? = some u → wr.cell? (ad.add (j * 6 + i)) = some u from fun i u hu => (World.cell?_of_block (w := w) (a := ad.add (j * 6 + i)) (by rw [add_block]; exact HS.out.bel.block _ hPk)).trans (hck i u hu))
    have HQX := Lib.hid (show ∀ (i : Nat) (u : Value), ([.int .i64 tk, .int .i64 tm, .int .i64 tlo, .int .i64 thi, .slice (some ⟨R2, 0, none⟩) tr.length (tr.length + 1), .slice (some ⟨K2, 0, none⟩) tkids.length (tkids.length + 1)] : List Value)[i]? = some u → wr.cell? ⟨K, j * 6 + i, none⟩ = some u from fun i u hu => (World.cell?_of_block (w := w) (a := ⟨K, j * 6 + i, none⟩) (HS.out.bel.block _ hPx)).trans (hxk i u hu))
    have HPL := Lib.hid (show ad.block < wr.heap.size ∧ K < wr.heap.size by have := HS.out.sz; omega)
    have HSZ := Lib.hid HS.out.sz
    have HNK := Lib.hid hNk
    have HXK := Lib.hid hXk
    have HNL := Lib.hid hnk
    clear hPk hNk hck hPx hXk hxk hnk ht
    go_upto_region 11 with (fail)
    clear c5
    have HBa := Lib.hid (show Below wr.heap.size wr wr.drew from (Below.refl _ wr).drew)
    refine start_ (n := 12) (S := fun w' => Below wr.heap.size wr w') (ds := []) #[Z,Z,Z,Z,Z,Z,Z,Z,Z,Z,Z,Z] (by kernel_rfl) rfl rfl HBa.out (fun hHeld => ?_)
    refine with_self (fun HT_ => ?_)
    generalize wr.drew = w_d at HBa hHeld ⊢
    refine pure_ (i := 0) (N := some 93) (v := ?_) (a' := ?_) #[I,Z,Z,Z,Z,Z,Z,Z,Z,Z,Z,Z] rfl rfl (any_of HT_.out (by kernel_rfl)) (fun _ _ _ h => h) (Or.inl ⟨by rfl, ?_⟩) ?_ ?_
    rotate_left
    ·intro w'
     go_simp
     with_reducible rfl
    rotate_left
    ·simp only [Act.put, pu_, pz_, ps_, i64_w, i32_w]
     rfl
    refine take_ (i := 1) (N := some 94) (v := ?_) (a' := ?_) #[I,I,Z,Z,Z,Z,Z,Z,Z,Z,Z,Z] rfl rfl (take_of HT_.out (by kernel_rfl)) (fun _ _ _ h => h) (Or.inl ⟨by rfl, ?_⟩) hHeld ?_ ?_
    rotate_left
    ·intro w' hS
     have hz := (hS.block _ (by have := HSZ.out; omega)).trans HS.out.x
     have c5 := cell_heap (i := 5) hz rfl
     clear hz
     clear hS
     go_simp
     with_reducible rfl
    rotate_left
    ·simp only [Act.put, pu_, pz_, ps_, i64_w, i32_w]
     rfl
    refine pure_ (i := 2) (N := some 95) (v := ?_) (a' := ?_) #[I,I,I,Z,Z,Z,Z,Z,Z,Z,Z,Z] rfl rfl (any_of HT_.out (by kernel_rfl)) (fun _ _ _ h => h) (Or.inl ⟨by rfl, ?_⟩) ?_ ?_
    rotate_left
    ·intro w'
     go_simp
     with_reducible rfl
    rotate_left
    ·simp only [Act.put, pu_, pz_, ps_, i64_w, i32_w]
     rfl
    refine pure_ (i := 3) (N := some 96) (v := ?_) (a' := ?_) #[I,I,I,I,Z,Z,Z,Z,Z,Z,Z,Z] rfl rfl (any_of HT_.out (by kernel_rfl)) (fun _ _ _ h => h) (Or.inl ⟨by rfl, ?_⟩) ?_ ?_
    rotate_left
    ·intro w'
     go_simp
     with_reducible rfl
    rotate_left
    ·simp only [Act.put, pu_, pz_, ps_, i64_w, i32_w]
     rfl
    refine take_ (i := 4) (N := some 97) (v := ?_) (a' := ?_) #[I,I,I,I,I,Z,Z,Z,Z,Z,Z,Z] rfl rfl (take_of HT_.out (by kernel_rfl)) (fun _ _ _ h => h) (Or.inl ⟨by rfl, ?_⟩) hHeld ?_ ?_
    rotate_left
    ·intro w' hS
     have hq := fun (i : Nat) (u : Value) (hu : ([.int .i64 tk, .int .i64 tm, .int .i64 tlo, .int .i64 thi, .slice (some ⟨R2, 0, none⟩) tr.length (tr.length + 1), .slice (some ⟨K2, 0, none⟩) tkids.length (tkids.length + 1)] : List Value)[i]? = some u) => (show w'.cell? ⟨K, j * 6 + i, none⟩ = some u from (World.cell?_of_block (w := wr) (a := ⟨K, j * 6 + i, none⟩) (hS.block _ HPL.out.2)).trans (HQX.out i u hu))
     have x0 := hq 0 _ rfl
     rw [Nat.add_zero] at x0
     have x1 := hq 1 _ rfl
     have x2 := hq 2 _ rfl
     have x3 := hq 3 _ rfl
     have x4 := hq 4 _ rfl
     have x5 := hq 5 _ rfl
     clear hq
     clear hS
     go_simp
     with_reducible rfl
    rotate_left
    ·simp only [Act.put, pu_, pz_, ps_, i64_w, i32_w]
     rfl
    refine pure_ (i := 5) (N := some 98) (v := ?_) (a' := ?_) #[I,I,I,I,I,I,Z,Z,Z,Z,Z,Z] rfl rfl (any_of HT_.out (by kernel_rfl)) (fun _ _ _ h => h) (Or.inl ⟨by rfl, ?_⟩) ?_ ?_
    rotate_left
    ·intro w'
     go_simp
     with_reducible rfl
    rotate_left
    ·simp only [Act.put, pu_, pz_, ps_, i64_w, i32_w]
     rfl
    refine take_ (i := 6) (N := some 99) (v := ?_) (a' := ?_) #[I,I,I,I,I,I,I,Z,Z,Z,Z,Z] rfl rfl (take_of HT_.out (by kernel_rfl)) (fun _ _ _ h => h) (Or.inl ⟨by rfl, ?_⟩) hHeld ?_ ?_
    rotate_left
    ·intro w' hS
     have hz := (hS.block _ (by have := HSZ.out; omega)).trans HS.out.n
     have c5 := cell_heap (i := 5) hz rfl
     clear hz
     clear hS
     go_simp
     with_reducible rfl
    rotate_left
    ·simp only [Act.put, pu_, pz_, ps_, i64_w, i32_w]
     rfl
    refine pure_ (i := 7) (N := some 100) (v := ?_) (a' := ?_) #[I,I,I,I,I,I,I,I,Z,Z,Z,Z] rfl rfl (any_of HT_.out (by kernel_rfl)) (fun _ _ _ h => h) (Or.inl ⟨by rfl, ?_⟩) ?_ ?_
    rotate_left
    ·intro w'
     go_simp
     with_reducible rfl
    rotate_left
    ·simp only [Act.put, pu_, pz_, ps_, i64_w, i32_w]
     rfl
    refine pure_ (i := 8) (N := some 101) (v := ?_) (a' := ?_) #[I,I,I,I,I,I,I,I,I,Z,Z,Z] rfl rfl (any_of HT_.out (by kernel_rfl)) (fun _ _ _ h => h) (Or.inl ⟨by rfl, ?_⟩) ?_ ?_
    rotate_left
    ·intro w'
     go_simp
     with_reducible rfl
    rotate_left
    ·simp only [Act.put, pu_, pz_, ps_, i64_w, i32_w]
     rfl
    refine take_ (i := 9) (N := some 102) (v := ?_) (a' := ?_) #[I,I,I,I,I,I,I,I,I,I,Z,Z] rfl rfl (take_of HT_.out (by kernel_rfl)) (fun _ _ _ h => h) (Or.inl ⟨by rfl, ?_⟩) hHeld ?_ ?_
    rotate_left
    ·intro w' hS
     have hq := fun (i : Nat) (u : Value) (hu : ([.int .i64 tk, .int .i64 tm, .int .i64 tlo, .int .i64 thi, .slice tar tr.length tcr, .slice tak tkids.length tck] : List Value)[i]? = some u) => (show w'.cell? (ad.add (j * 6 + i)) = some u from (World.cell?_of_block (w := wr) (a := ad.add (j * 6 + i)) (by rw [add_block]; exact hS.block _ HPL.out.1)).trans (HQ.out i u hu))
     have x0 := hq 0 _ rfl
     rw [Nat.add_zero] at x0
     have x1 := cell_at hq 1 (by decide) rfl
     have x2 := cell_at hq 2 (by decide) rfl
     have x3 := cell_at hq 3 (by decide) rfl
     have x4 := cell_at hq 4 (by decide) rfl
     have x5 := cell_at hq 5 (by decide) rfl
     clear hq
     clear hS
     go_simp
     with_reducible rfl
    rotate_left
    ·simp only [Act.put, pu_, pz_, ps_, i64_w, i32_w]
     rfl
    refine one_ (i := 10) (N := some 103) #[I,I,I,I,I,I,I,I,I,I,I,Z] rfl rfl (one_of HT_.out (by kernel_rfl)) (by decide) (fun K hK => ?_)
    refine goes_ Try.func98 (by kernel_rfl) rfl #[.agg #[.int .i64 tk, .int .i64 tm, .int .i64 tlo, .int .i64 thi, .slice (some ⟨R2, 0, none⟩) tr.length (tr.length + 1), .slice (some ⟨K2, 0, none⟩) tkids.length (tkids.length + 1)], .agg #[.int .i64 tk, .int .i64 tm, .int .i64 tlo, .int .i64 thi, .slice tar tr.length tcr, .slice tak tkids.length tck]] (by rfl) rfl rfl (by (try simp only [List.map_toArray, List.map_cons, List.map_nil]); first | done | rfl) ?_
    refine (HI.out (.mk tk tm tlo thi tr tkids) _ _ w_d (by have h1 := HN.out; have h2 := HNL.out; simp only [NT.nodes] at h1 h2 ⊢; omega) ((HXK.out.move (fun b hb => (HBa.out.block b (Nat.lt_of_lt_of_le hb HS.out.bel.size)).trans (HS.out.bel.block b hb))).mono (fun b hb => Nat.lt_of_lt_of_le hb (Nat.le_trans HS.out.bel.size HBa.out.size))) ((HNK.out.move (fun b hb => (HBa.out.block b (Nat.lt_of_lt_of_le hb HS.out.bel.size)).trans (HS.out.bel.block b hb))).mono (fun b hb => Nat.lt_of_lt_of_le hb (Nat.le_trans HS.out.bel.size HBa.out.size)))).mono ?_
    rintro e w8 ⟨rfl, hB⟩
    have HB_w8 := Lib.hid (HBa.out.trans (hB.mono HBa.out.size))
    clear hB
    refine ⟨_, rfl, ?_⟩
    clear hHeld
    refine hK.out _ _ HB_w8.out (fun hHeld => ?_)
    clear hK K
    refine norm_ (a' := ?_) ?_ ?_
    rotate_left
    ·show Act.put _ (some 103) _ = _
     simp only [Act.put, pu_, pz_, ps_, i64_w, i32_w]
     rfl
    refine pure_ (i := 11) (N := some 9) (v := ?_) (a' := ?_) #[I,I,I,I,I,I,I,I,I,I,I,I] rfl rfl (any_of HT_.out (by kernel_rfl)) (fun _ _ _ h => h) (Or.inl ⟨by rfl, ?_⟩) ?_ ?_
    rotate_left
    ·intro w'
     go_simp
     with_reducible rfl
    rotate_left
    ·simp only [Act.put, pu_, pz_, ps_, i64_w, i32_w]
     rfl
    refine done_ (done_of HT_.out (by kernel_rfl)) ?_
    clear HT_ hHeld
    have HS8 := Lib.hid (HS.out.below HB_w8.out)
    clear HQ HQX HPL HSZ HNK HXK HNL
    go_wp2_with fail
    go_roundg (kids.length - (j + 1))
    case measure => omega
    case rel => exact ⟨j + 1, congrArg (Value.int .i64) (by first | (push_cast; rfl) | (rw [w64_lit _ (by omega) (by omega)]; push_cast; rfl)), by omega, Nat.le_refl _, ⟨HS8.out⟩⟩
   ·obtain rfl : j = kids.length := by omega
    have hjn1 : ¬ (kids.length : Int) < (kids.length : Int) := by omega
    go_wp2_with fail
    go_ret
    exact ⟨rfl, HS.out.bel⟩
section
variable (k m lo hi : Int) (r : List S64) (kids : List NT) (ar ak : Option Addr) (cr ck : Nat) (W : World) (hT : NIn W (· < W.heap.size) (.mk k m lo hi r kids) [.int .i64 k, .int .i64 m, .int .i64 lo, .int .i64 hi, .slice ar r.length cr, .slice ak kids.length ck]) (hn : (NT.mk k m lo hi r kids).nodes < 274877906944)
include hT hn
set_option maxHeartbeats 4000000 in
theorem large_calls : Calls Try.prog 96 #[.agg #[.int .i64 k, .int .i64 m, .int .i64 lo, .int .i64 hi, .slice ar r.length cr, .slice ak kids.length ck]] W fun e w' => e = .returned (.bool (decide (2000 < (NT.mk k m lo hi r kids).nodes))) ∧ Below W.heap.size W w' := by
 have hb : Below W.heap.size W (W.alloc (.cells #[.int .i64 k, .int .i64 m, .int .i64 lo, .int .i64 hi, .slice ar r.length cr, .slice ak kids.length ck] 44)) := (Below.refl _ W).alloc (Nat.le_refl _) _
 have HL := Lib.hid (refcountT_calls k m lo hi r kids ar ak cr ck _ ((hT.keep hb).mono (fun b h => Nat.lt_of_lt_of_le h hb.size)) hn)
 have HB := Lib.hid hb
 clear hT hn hb
 go_enter Try.func96, Try.ntmps96
 go_wp2_with fail
 refine HL.out.mono ?_
 rintro e w2 ⟨rfl, hb2⟩
 have HB2 := Lib.hid (HB.out.trans (hb2.mono HB.out.size))
 clear hb2
 go_wp2_with fail
 go_ret
 exact ⟨congrArg (fun x => Ending.returned (Value.bool x)) (by unfold countT; rw [Bool.eq_iff_iff, decide_eq_true_eq, decide_eq_true_eq]; omega), HB2.out⟩
/-- what lent gives: the tree itself, if it is large, else a copy -/
def LentPost (t : NT) (cs : List Value) (W : World) (e : Ending) (w' : World) : Prop := ∃ xs : List Value, e = .returned (.agg xs.toArray) ∧ Below W.heap.size W w' ∧ NIn w' (· < w'.heap.size) t xs ∧ (2000 < t.nodes ∨ CIn w' (· < w'.heap.size) t xs)
set_option maxHeartbeats 4000000 in
theorem lent_calls : Calls Try.prog 58 #[.agg #[.int .i64 k, .int .i64 m, .int .i64 lo, .int .i64 hi, .slice ar r.length cr, .slice ak kids.length ck]] W (LentPost (.mk k m lo hi r kids) [.int .i64 k, .int .i64 m, .int .i64 lo, .int .i64 hi, .slice ar r.length cr, .slice ak kids.length ck] W) := by
 obtain ⟨W2, hW2⟩ : ∃ W2, W2 = (W.alloc (.cells #[.int .i64 k, .int .i64 m, .int .i64 lo, .int .i64 hi, .slice ar r.length cr, .slice ak kids.length ck] 44)).alloc (.cells #[.int .i64 0, .int .i64 0, .int .i64 0, .int .i64 0, .slice none 0 0, .slice none 0 0] 44) := ⟨_, rfl⟩
 have hst : TwoSt W W2 #[.int .i64 k, .int .i64 m, .int .i64 lo, .int .i64 hi, .slice ar r.length cr, .slice ak kids.length ck] #[.int .i64 0, .int .i64 0, .int .i64 0, .int .i64 0, .slice none 0 0, .slice none 0 0] := by rw [hW2]; exact TwoSt.start W _ _
 have HL := Lib.hid (large_calls k m lo hi r kids ar ak cr ck W2 ((hT.keep hst.bel).mono (fun b h => Nat.lt_of_lt_of_le h hst.bel.size)) hn)
 have HST := Lib.hid hst
 have HW2 := Lib.hid hW2
 have HT := Lib.hid hT
 clear hT hn hst hW2
 have c0 := cell_heap (i := 0) HST.out.x rfl
 have c1 := cell_heap (i := 1) HST.out.x rfl
 have c2 := cell_heap (i := 2) HST.out.x rfl
 have c3 := cell_heap (i := 3) HST.out.x rfl
 have c4 := cell_heap (i := 4) HST.out.x rfl
 have c5 := cell_heap (i := 5) HST.out.x rfl
 go_enter Try.func58, Try.ntmps58
 go_wp2_with fail
 rw [← HW2.out]
 refine HL.out.mono ?_
 rintro e w4 ⟨rfl, hb4⟩
 have HS4 := Lib.hid (HST.out.below hb4)
 clear c0 c1 c2 c3 c4 c5 hb4 HST HL HW2
 have c0 := cell_heap (i := 0) HS4.out.x rfl
 have c1 := cell_heap (i := 1) HS4.out.x rfl
 have c2 := cell_heap (i := 2) HS4.out.x rfl
 have c3 := cell_heap (i := 3) HS4.out.x rfl
 have c4 := cell_heap (i := 4) HS4.out.x rfl
 have c5 := cell_heap (i := 5) HS4.out.x rfl
 by_cases hl : 2000 < (NT.mk k m lo hi r kids).nodes
 ·rw [decide_eq_true hl]
  have HLA := Lib.hid hl
  clear hl
  have d0 := cell_heap (i := 0) HS4.out.n rfl
  have d1 := cell_heap (i := 1) HS4.out.n rfl
  have d2 := cell_heap (i := 2) HS4.out.n rfl
  have d3 := cell_heap (i := 3) HS4.out.n rfl
  have d4 := cell_heap (i := 4) HS4.out.n rfl
  have d5 := cell_heap (i := 5) HS4.out.n rfl
  have q0 : ∀ o, w4.frozen? ⟨W.heap.size + 1, o, none⟩ = false := fun o => by simp [World.frozen?, HS4.out.n]
  go_wp2_with fail
  obtain ⟨WF, hWF⟩ : ∃ WF, WF = put6 w4 (W.heap.size + 1) 0 (.int .i64 k) (.int .i64 m) (.int .i64 lo) (.int .i64 hi) (.slice ar r.length cr) (.slice ak kids.length ck) := ⟨_, rfl⟩
  have hzF : WF.heap[W.heap.size + 1]? = some (.cells #[.int .i64 k, .int .i64 m, .int .i64 lo, .int .i64 hi, .slice ar r.length cr, .slice ak kids.length ck] 44 (0, 0)) := by
   rw [hWF]; unfold put6
   exact set_row (set_row (set_row (set_row (set_row (set_row HS4.out.n _ _) _ _) _ _) _ _) _ _) _ _
  have hbF : Below W.heap.size W WF := by rw [hWF]; exact put6_below HS4.out.bel (by omega) _ _ _ _ _ _ _
  change bodyPost Try.prog Try.f58 _ Exit.ret _ (put6 w4 (W.heap.size + 1) 0 (.int .i64 k) (.int .i64 m) (.int .i64 lo) (.int .i64 hi) (.slice ar r.length cr) (.slice ak kids.length ck))
  rw [← hWF]
  have r0 := cell_heap (i := 0) hzF rfl
  have r1 := cell_heap (i := 1) hzF rfl
  have r2 := cell_heap (i := 2) hzF rfl
  have r3 := cell_heap (i := 3) hzF rfl
  have r4 := cell_heap (i := 4) hzF rfl
  have r5 := cell_heap (i := 5) hzF rfl
  refine bodyPost_ret (v := .agg #[.int .i64 k, .int .i64 m, .int .i64 lo, .int .i64 hi, .slice ar r.length cr, .slice ak kids.length ck]) (by simp [results, Try.results58, go_sem, r0, r1, r2, r3, r4, r5]) rfl ?_
  exact ⟨[.int .i64 k, .int .i64 m, .int .i64 lo, .int .i64 hi, .slice ar r.length cr, .slice ak kids.length ck], rfl, hbF, (HT.out.move (fun b hb => hbF.block b hb)).mono (fun b hb => Nat.lt_of_lt_of_le hb hbF.size), .inl HLA.out⟩
 ·rw [decide_eq_false hl]
  clear hl
  have HCP := Lib.hid (copied_calls W.heap.size _ (.mk k m lo hi r kids) _ w4 (Nat.le_refl _) HS4.out.bel.size (HT.out.move (fun b hb => HS4.out.bel.block b hb)))
  go_wp2_with fail
  refine HCP.out.mono ?_
  rintro e w5 ⟨cs5, rfl, hC5, hB5⟩
  obtain ⟨R, K, rfl⟩ := CIn.shape hC5
  have HS5 := Lib.hid (HS4.out.below hB5)
  have HC5 := Lib.hid hC5
  have HB5 := Lib.hid hB5.size
  clear c0 c1 c2 c3 c4 c5 hC5 hB5 HCP
  have d0 := cell_heap (i := 0) HS5.out.n rfl
  have d1 := cell_heap (i := 1) HS5.out.n rfl
  have d2 := cell_heap (i := 2) HS5.out.n rfl
  have d3 := cell_heap (i := 3) HS5.out.n rfl
  have d4 := cell_heap (i := 4) HS5.out.n rfl
  have d5 := cell_heap (i := 5) HS5.out.n rfl
  have q0 : ∀ o, w5.frozen? ⟨W.heap.size + 1, o, none⟩ = false := fun o => by simp [World.frozen?, HS5.out.n]
  go_wp2_with fail
  obtain ⟨WF, hWF⟩ : ∃ WF, WF = put6 w5 (W.heap.size + 1) 0 (.int .i64 k) (.int .i64 m) (.int .i64 lo) (.int .i64 hi) (.slice (some ⟨R, 0, none⟩) r.length (r.length + 1)) (.slice (some ⟨K, 0, none⟩) kids.length (kids.length + 1)) := ⟨_, rfl⟩
  have hzF : WF.heap[W.heap.size + 1]? = some (.cells #[.int .i64 k, .int .i64 m, .int .i64 lo, .int .i64 hi, .slice (some ⟨R, 0, none⟩) r.length (r.length + 1), .slice (some ⟨K, 0, none⟩) kids.length (kids.length + 1)] 44 (0, 0)) := by
   rw [hWF]; unfold put6
   exact set_row (set_row (set_row (set_row (set_row (set_row HS5.out.n _ _) _ _) _ _) _ _) _ _) _ _
  have hbF : Below W.heap.size W WF := by rw [hWF]; exact put6_below HS5.out.bel (by omega) _ _ _ _ _ _ _
  have hmF : ∀ b, w4.heap.size ≤ b → WF.heap[b]? = w5.heap[b]? := fun b hb => by rw [hWF]; exact put6_other _ _ _ _ _ _ _ _ _ b (by have := HS4.out.sz; omega)
  have hsF : WF.heap.size = w5.heap.size := by rw [hWF]; exact put6_size _ _ _ _ _ _ _ _ _
  change bodyPost Try.prog Try.f58 _ Exit.ret _ (put6 w5 (W.heap.size + 1) 0 (.int .i64 k) (.int .i64 m) (.int .i64 lo) (.int .i64 hi) (.slice (some ⟨R, 0, none⟩) r.length (r.length + 1)) (.slice (some ⟨K, 0, none⟩) kids.length (kids.length + 1)))
  rw [← hWF]
  have r0 := cell_heap (i := 0) hzF rfl
  have r1 := cell_heap (i := 1) hzF rfl
  have r2 := cell_heap (i := 2) hzF rfl
  have r3 := cell_heap (i := 3) hzF rfl
  have r4 := cell_heap (i := 4) hzF rfl
  have r5 := cell_heap (i := 5) hzF rfl
  refine bodyPost_ret (v := .agg #[.int .i64 k, .int .i64 m, .int .i64 lo, .int .i64 hi, .slice (some ⟨R, 0, none⟩) r.length (r.length + 1), .slice (some ⟨K, 0, none⟩) kids.length (kids.length + 1)]) (by simp [results, Try.results58, go_sem, r0, r1, r2, r3, r4, r5]) rfl ?_
  have hCF : CIn WF (· < WF.heap.size) (.mk k m lo hi r kids) [.int .i64 k, .int .i64 m, .int .i64 lo, .int .i64 hi, .slice (some ⟨R, 0, none⟩) r.length (r.length + 1), .slice (some ⟨K, 0, none⟩) kids.length (kids.length + 1)] := (HC5.out.move (fun b hb => hmF b hb.1)).mono (fun b hb => by rw [hsF]; exact hb.2)
  exact ⟨[.int .i64 k, .int .i64 m, .int .i64 lo, .int .i64 hi, .slice (some ⟨R, 0, none⟩) r.length (r.length + 1), .slice (some ⟨K, 0, none⟩) kids.length (kids.length + 1)], rfl, hbF, hCF.nin, .inr hCF⟩
set_option maxHeartbeats 4000000 in
theorem kept_calls (xs : List Value) (hX : NIn W (· < W.heap.size) (.mk k m lo hi r kids) xs) (hC : 2000 < (NT.mk k m lo hi r kids).nodes ∨ CIn W (· < W.heap.size) (.mk k m lo hi r kids) xs) :
  Calls Try.prog 59 #[.agg xs.toArray, .agg #[.int .i64 k, .int .i64 m, .int .i64 lo, .int .i64 hi, .slice ar r.length cr, .slice ak kids.length ck]] W fun e w' => e = .returned (.bool true) ∧ Below W.heap.size W w' := by
 obtain ⟨xar, xak, xcr, xck, rfl⟩ := NIn.shape hX
 obtain ⟨W2, hW2⟩ : ∃ W2, W2 = (W.alloc (.cells #[.int .i64 k, .int .i64 m, .int .i64 lo, .int .i64 hi, .slice xar r.length xcr, .slice xak kids.length xck] 44)).alloc (.cells #[.int .i64 k, .int .i64 m, .int .i64 lo, .int .i64 hi, .slice ar r.length cr, .slice ak kids.length ck] 44) := ⟨_, rfl⟩
 have hst : TwoSt W W2 #[.int .i64 k, .int .i64 m, .int .i64 lo, .int .i64 hi, .slice xar r.length xcr, .slice xak kids.length xck] #[.int .i64 k, .int .i64 m, .int .i64 lo, .int .i64 hi, .slice ar r.length cr, .slice ak kids.length ck] := by rw [hW2]; exact TwoSt.start W _ _
 have HL := Lib.hid (large_calls k m lo hi r kids ar ak cr ck W2 ((hT.keep hst.bel).mono (fun b h => Nat.lt_of_lt_of_le h hst.bel.size)) hn)
 have HST := Lib.hid hst
 have HW2 := Lib.hid hW2
 have HT := Lib.hid hT
 have HC := Lib.hid hC
 clear hT hn hst hW2 hX hC
 show Calls Try.prog 59 #[.agg #[.int .i64 k, .int .i64 m, .int .i64 lo, .int .i64 hi, .slice xar r.length xcr, .slice xak kids.length xck], .agg #[.int .i64 k, .int .i64 m, .int .i64 lo, .int .i64 hi, .slice ar r.length cr, .slice ak kids.length ck]] W _
 have c0 := cell_heap (i := 0) HST.out.n rfl
 have c1 := cell_heap (i := 1) HST.out.n rfl
 have c2 := cell_heap (i := 2) HST.out.n rfl
 have c3 := cell_heap (i := 3) HST.out.n rfl
 have c4 := cell_heap (i := 4) HST.out.n rfl
 have c5 := cell_heap (i := 5) HST.out.n rfl
 go_enter Try.func59, Try.ntmps59
 go_wp2_with fail
 rw [← HW2.out]
 refine HL.out.mono ?_
 rintro e w4 ⟨rfl, hb4⟩
 have HS4 := Lib.hid (HST.out.below hb4)
 clear c0 c1 c2 c3 c4 c5 hb4 HST HL HW2
 by_cases hl : 2000 < (NT.mk k m lo hi r kids).nodes
 ·rw [decide_eq_true hl]
  clear hl
  go_wp2_with fail
  go_ret
  exact ⟨rfl, HS4.out.bel⟩
 ·rw [decide_eq_false hl]
  have HCX := Lib.hid (HC.out.resolve_left hl)
  clear hl HC
  have HSC := Lib.hid (still_calls _ (.mk k m lo hi r kids) _ _ w4 (Nat.le_refl _) ((HCX.out.move (fun b hb => HS4.out.bel.block b hb)).mono (fun b hb => Nat.lt_of_lt_of_le hb HS4.out.bel.size)) ((HT.out.move (fun b hb => HS4.out.bel.block b hb)).mono (fun b hb => Nat.lt_of_lt_of_le hb HS4.out.bel.size)))
  have c0 := cell_heap (i := 0) HS4.out.n rfl
  have c1 := cell_heap (i := 1) HS4.out.n rfl
  have c2 := cell_heap (i := 2) HS4.out.n rfl
  have c3 := cell_heap (i := 3) HS4.out.n rfl
  have c4 := cell_heap (i := 4) HS4.out.n rfl
  have c5 := cell_heap (i := 5) HS4.out.n rfl
  have d0 := cell_heap (i := 0) HS4.out.x rfl
  have d1 := cell_heap (i := 1) HS4.out.x rfl
  have d2 := cell_heap (i := 2) HS4.out.x rfl
  have d3 := cell_heap (i := 3) HS4.out.x rfl
  have d4 := cell_heap (i := 4) HS4.out.x rfl
  have d5 := cell_heap (i := 5) HS4.out.x rfl
  go_wp2_with fail
  refine HSC.out.mono ?_
  rintro e w5 ⟨rfl, hb5⟩
  have HS5 := Lib.hid (HS4.out.below hb5)
  clear c0 c1 c2 c3 c4 c5 d0 d1 d2 d3 d4 d5 hb5 HSC
  go_wp2_with fail
  go_ret
  exact ⟨rfl, HS5.out.bel⟩
end
end Go.Proofs.Ytamhkdlcoghdbaa.PCls
