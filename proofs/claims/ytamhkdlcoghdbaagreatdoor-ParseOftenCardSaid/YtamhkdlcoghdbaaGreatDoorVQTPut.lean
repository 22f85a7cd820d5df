/- Out of TPut (wip/tools/prune2.py): the declarations alone that the texts of the trees name. -/
import Derived.Test.YtamhkdlcoghdbaaGreatDoorVMQTOut
namespace Go.Proofs.YtamhkdlcoghdbaaGreatDoor.PCls
open Go.RowKit Go.Proofs.YtamhkdlcoghdbaaGreatDoorW.PrintWords Go.Proofs.YtamhkdlcoghdbaaGreatDoorW.PrintLast Go.Proofs.YtamhkdlcoghdbaaGreatDoorW.PrintMore
set_option linter.unusedVariables false
set_option linter.unusedSimpArgs false
/-- what is put: whatever is not empty -/
def some6 (l : List NT) : List NT := l.filter fun t => !decide (t.k = 1)
/-- an append of one zero node, and both stores: whatever the world in which it is done -/
theorem put_append {W0 X : World} {Bo base : Nat} {v0 v : Value} {l : List NT} (h : PutSt W0 X Bo base v0 v l) (hBo : Bo < base) (hbs : base ≤ W0.heap.size) (hlen : l.length < 549755813888) (ad : Addr) (hz : ∀ j u, zero6[j]? = some u → X.cell? (ad.add j) = some u)
  {t : NT} {u0 u1 u2 u3 u4 u5 : Value} (hN : NIn X (fun b => W0.heap.size ≤ b ∧ b < X.heap.size ∧ some b ≠ v.ownBlock) t [u0, u1, u2, u3, u4, u5]) :
  ∃ (g cap : Nat) (W : World), (Builtin.append_ #[41, 41] 41 #[v, .slice (some ad) 1 1]).run Tryz.prog X = .ok (.slice (some ⟨g, 0, none⟩) (l.length + 1) cap) W ∧ l.length + 1 ≤ cap ∧ X.heap.size ≤ W.heap.size ∧
   (∀ b, b < X.heap.size → some b ≠ v.ownBlock → W.heap[b]? = X.heap[b]?) ∧ Boxed W Bo 41 v ∧ (∀ o, W.frozen? ⟨g, o, none⟩ = false) ∧ (∀ q, q < 6 → ∃ u, W.cell? ⟨g, l.length * 6 + q, none⟩ = some u) ∧ g ≠ Bo ∧
   PutSt W0 ((put6 W g (l.length * 6) u0 u1 u2 u3 u4 u5).setCell ⟨Bo, 0, none⟩ (.slice (some ⟨g, 0, none⟩) (l.length + 1) cap)) Bo base v0 (.slice (some ⟨g, 0, none⟩) (l.length + 1) cap) (l ++ [t]) ∧
   PutSt W0 (put6 (W.setCell ⟨Bo, 0, none⟩ (.slice (some ⟨g, 0, none⟩) (l.length + 1) cap)) g (l.length * 6) u0 u1 u2 u3 u4 u5) Bo base v0 (.slice (some ⟨g, 0, none⟩) (l.length + 1) cap) (l ++ [t]) := by
 obtain ⟨i0, hi, hz0, hz1, hz2⟩ := info_parts info44
 obtain ⟨cs, h1, h2, h3⟩ := h.trees
 obtain ⟨v', W, hrun, hown, hgrow, hnil, hat⟩ := run_append_own_at X base 41 41 43 i0 _ 6 80 Tryz.underlying41 hi hz0 hz1 hz2 rfl (by decide) v l.length (flat6 cs l.length) h2 ad 1 1 zero6 rfl hz (by intro u hu; simp [zero6] at hu; rcases hu with rfl | rfl | rfl | rfl | rfl | rfl <;> rfl) (by unfold maxLen; omega) (by omega) (by have := h.size; omega)
 obtain ⟨g, cap, rfl⟩ := ownsRow_succ hown
 have hst := h.step hBo hbs (g := g) (cap := cap) (W := W) hN hgrow hat (fun xs hxs => by rw [own_unique hxs h2]; exact hown)
 have hgb := hown.lt g rfl
 rcases hown.2 with ⟨e, _⟩ | ⟨g', cap', cur, e, _, hh, hcl, _, hcs, _⟩
 ·cases e
 simp only [Value.slice.injEq, Option.some.injEq, Addr.mk.injEq, and_true, true_and] at e
 obtain ⟨rfl, rfl⟩ := e
 refine ⟨g, cap, W, hrun, hcl, hgrow.size, fun b hb hne => hgrow.block b hb hne, (hgrow.block Bo h.box.lt (fun e => by have := (h2.lt Bo e.symm).1; omega)).trans h.box, fun o => by simp [World.frozen?, hh], fun x hx => ?_, by omega, hst.1, hst.2⟩
 have hb : l.length * 6 + x < cur.size := by
  rw [hcs]
  have := Nat.mul_le_mul_right 6 hcl
  omega
 exact ⟨cur[l.length * 6 + x], cell_heap hh (by simp [hb])⟩
set_option maxHeartbeats 8000000 in
set_option maxRecDepth 100000 in
theorem put_calls (n0 Bo base : Nat) (A : Option Addr) (n c : Nat) (l outl : List NT) (W0 : World) (v0 : Value) (hBo : Bo < base) (hbs : base ≤ W0.heap.size) (hn0 : n0 ≤ Bo) (hst : PutSt W0 W0 Bo base v0 v0 outl) (hl : l.length = n) (hlen : outl.length + n < 549755813888)
  (hA : ∀ j t, l[j]? = some t → ∃ ad cs, A = some ad ∧ ad.block < W0.heap.size ∧ ad.block ≠ Bo ∧ some ad.block ≠ v0.ownBlock ∧ NIn W0 (· < n0) t cs ∧ ∀ i u, cs[i]? = some u → W0.cell? (ad.add (j * 6 + i)) = some u) :
  Calls Tryz.prog 121 #[.slice A n c, .pointer (some ⟨Bo, 0, none⟩)] W0 fun e w' => e = .returned (.tuple #[]) ∧ ∃ v, PutSt W0 w' Bo base v0 v (outl ++ some6 l) := by
 have HA := Lib.hid hA
 have HST := Lib.hid hst
 have HL := Lib.hid hl
 have HLEN := Lib.hid hlen
 have HB := Lib.hid (And.intro hBo (And.intro hbs hn0))
 have hv0 : ∀ k, v0.ownBlock = some k → base ≤ k := by
  obtain ⟨cs, _, h2, _⟩ := hst.trees
  exact fun k hk => (h2.lt k hk).1
 have HV0 := Lib.hid hv0
 clear hA hst hl hlen hBo hbs hn0 hv0
 go_enter Tryz.func121, Tryz.ntmps121
 go_wp2_with fail
 go_loopg [7] n (fun gg s7 wr => ∃ (j : Nat) (vj : Value), s7 = .int .i64 j ∧ j ≤ n ∧ n - j ≤ gg ∧ Aside0 (PutSt W0 wr Bo base v0 vj (outl ++ some6 (l.take j))))
 case atStart => exact ⟨0, v0, rfl, by omega, by omega, ⟨by simpa [some6] using HST.out⟩⟩
 case round =>
  obtain ⟨j, vj, rfl, hj, hgg, HPj⟩ := hrel
  by_cases hlt : j < n
  ·obtain ⟨t, ht⟩ : ∃ t, l[j]? = some t := ⟨_, List.getElem?_eq_getElem (by have := HL.out; omega)⟩
   obtain ⟨ad, cs, rfl, b1, b2, b3, hN, hc⟩ := HA.out j t ht
   have hmv : ∀ b, b < n0 → wr.heap[b]? = W0.heap[b]? := fun b hb => by
    have h1 := HB.out.1
    have h2 := HB.out.2.1
    have h3 := HB.out.2.2
    exact HPj.out.kept b (by omega) (by omega) (fun e => by have := HV0.out b e.symm; omega)
   have hcr : ∀ i u, cs[i]? = some u → wr.cell? (ad.add (j * 6 + i)) = some u := fun i u hu => by
    rw [World.cell?_of_block (w := W0) (a := ad.add (j * 6 + i)) (by rw [add_block]; exact HPj.out.kept _ b1 b2 b3)]; exact hc i u hu
   have hNr := hN.move hmv
   have htk : l.take (j + 1) = l.take j ++ [t] := by rw [List.take_add_one, ht]; rfl
   have hlt' : (j : Int) < (n : Int) := by omega
   have HT := Lib.hid ht
   have HNr := Lib.hid hNr
   have HTK := Lib.hid htk
   clear hN ht htk hmv hc b1 b2 b3
   cases hNr with
   | mk tk tm tlo thi tr tkids tar tak tcr tck tcsk _ _ _ _ _ _ _ _ _ =>
    rename_i q1 q2 q3 q4 q5 q6 q7 q8 q9
    clear q1 q2 q3 q4 q5 q6 q7 q8 q9
    have x0 := hcr 0 _ rfl
    rw [Nat.add_zero] at x0
    have x1 := cell_at hcr 1 (by decide) rfl
    have x2 := cell_at hcr 2 (by decide) rfl
    have x3 := cell_at hcr 3 (by decide) rfl
    have x4 := cell_at hcr 4 (by decide) rfl
    have x5 := cell_at hcr 5 (by decide) rfl
    clear hcr
    by_cases h1 : tk = 1
    ·subst h1
     go_wp2
     go_roundg (n - (j + 1))
     case measure => omega
     case rel =>
      refine ⟨j + 1, vj, congrArg (Value.int .i64) (by first | (push_cast; rfl) | (rw [w64_lit _ (by omega) (by have := HLEN.out; omega)]; push_cast; rfl)), by omega, Nat.le_refl _, ⟨?_⟩⟩
      have e : some6 (l.take (j + 1)) = some6 (l.take j) := by rw [HTK.out]; simp [some6, NT.k]
      rw [e]
      exact HPj.out.below ((Below.refl _ wr).alloc (Nat.le_refl _) _)
    ·have h12 : (tk == 1) = false := beq_eq_false_iff_ne.2 h1
     have H1 := Lib.hid h1
     clear h1
     go_upto_region 4 with (fail)
     obtain ⟨W6, hW6⟩ : ∃ W6, W6 = wr.alloc (.cells #[.int .i64 tk, .int .i64 tm, .int .i64 tlo, .int .i64 thi, .slice tar tr.length tcr, .slice tak tkids.length tck] 43) := ⟨_, rfl⟩
     have hb6 : Below wr.heap.size wr W6 := by rw [hW6]; exact (Below.refl _ wr).alloc (Nat.le_refl _) _
     have hk6 : W6.heap[wr.heap.size]? = some (.cells #[.int .i64 tk, .int .i64 tm, .int .i64 tlo, .int .i64 thi, .slice tar tr.length tcr, .slice tak tkids.length tck] 43 (0, 0)) := by rw [hW6]; exact World.alloc_heap_new wr _
     have hs6 : W6.heap.size = wr.heap.size + 1 := by rw [hW6]; simp
     rw [← hW6]
     obtain ⟨O, hO⟩ : ∃ O, O = outl ++ some6 (l.take j) := ⟨_, rfl⟩
     have hP6 := HPj.out.below hb6
     rw [← hO] at hP6
     obtain ⟨va, vc, rfl⟩ : ∃ va vc, vj = .slice va O.length vc := by
      obtain ⟨cs, _, h2, _⟩ := hP6.trees
      rcases h2.2 with ⟨e, e0⟩ | ⟨g, cap, cur, e, _⟩
      ·exact ⟨none, 0, by rw [e, e0]⟩
      ·exact ⟨_, _, e⟩
     have hOl : O.length < 549755813888 := by
      rw [hO, List.length_append]
      have h1 : (some6 (l.take j)).length ≤ (l.take j).length := List.length_filter_le _ _
      have h2 := List.length_take_le j l
      have h3 := HLEN.out
      omega
     have HP6 := Lib.hid hP6
     have H6 := Lib.hid (And.intro hk6 hs6)
     have HB6 := Lib.hid hb6
     have HO := Lib.hid (And.intro hO hOl)
     clear hb6 hk6 hs6 hW6 hP6 hO hOl x0 x1 x2 x3 x4 x5
     have HBa := Lib.hid (show Below W6.heap.size W6 W6.drew from (Below.refl _ W6).drew)
     refine start_ (n := 9) (S := fun w' => w'.cell? ⟨Bo, 0, none⟩ = some (.slice va O.length vc) ∧ w'.cell? ⟨wr.heap.size, 0, none⟩ = some (.int .i64 tk) ∧ w'.cell? ⟨wr.heap.size, 1, none⟩ = some (.int .i64 tm) ∧ w'.cell? ⟨wr.heap.size, 2, none⟩ = some (.int .i64 tlo) ∧ w'.cell? ⟨wr.heap.size, 3, none⟩ = some (.int .i64 thi) ∧ w'.cell? ⟨wr.heap.size, 4, none⟩ = some (.slice tar tr.length tcr) ∧ w'.cell? ⟨wr.heap.size, 5, none⟩ = some (.slice tak tkids.length tck)) (ds := [7, 8]) #[Z,Z,Z,Z,Z,Z,Z,Z,Z] (by kernel_rfl) rfl rfl ⟨(HP6.out.below HBa.out).box.cell, cell_heap (i := 0) ((HBa.out.block _ (by have := H6.out.2; omega)).trans H6.out.1) rfl, cell_heap (i := 1) ((HBa.out.block _ (by have := H6.out.2; omega)).trans H6.out.1) rfl, cell_heap (i := 2) ((HBa.out.block _ (by have := H6.out.2; omega)).trans H6.out.1) rfl, cell_heap (i := 3) ((HBa.out.block _ (by have := H6.out.2; omega)).trans H6.out.1) rfl, cell_heap (i := 4) ((HBa.out.block _ (by have := H6.out.2; omega)).trans H6.out.1) rfl, cell_heap (i := 5) ((HBa.out.block _ (by have := H6.out.2; omega)).trans H6.out.1) rfl⟩ (fun hHeld => ?_)
     refine with_self (fun HT_ => ?_)
     generalize W6.drew = w7 at HBa hHeld ⊢
     refine take_ (i := 0) (N := some 14) (v := ?_) (a' := ?_) #[I,Z,Z,Z,Z,Z,Z,Z,Z] rfl rfl (take_of HT_.out (by kernel_rfl)) (fun _ _ _ h => h) (Or.inl ⟨by rfl, ?_⟩) hHeld ?_ ?_
     rotate_left
     ·rintro w' ⟨s0, s1, s2, s3, s4, s5, s6⟩
      go_simp
      with_reducible rfl
     rotate_left
     ·simp only [Act.put, pu_, pz_, ps_, i64_w, i32_w]
      rfl
     refine take_ (i := 1) (N := some 15) (v := ?_) (a' := ?_) #[I,I,Z,Z,Z,Z,Z,Z,Z] rfl rfl (take_of HT_.out (by kernel_rfl)) (fun _ _ _ h => h) (Or.inl ⟨by rfl, ?_⟩) hHeld ?_ ?_
     rotate_left
     ·rintro w' ⟨s0, s1, s2, s3, s4, s5, s6⟩
      go_simp
      with_reducible rfl
     rotate_left
     ·simp only [Act.put, pu_, pz_, ps_, i64_w, i32_w]
      rfl
     refine pure_ (i := 3) (N := some 17) (v := ?_) (a' := ?_) #[I,I,Z,I,Z,Z,Z,Z,Z] rfl rfl (any_of HT_.out (by kernel_rfl)) (fun _ _ _ h => h) (Or.inl ⟨by rfl, ?_⟩) ?_ ?_
     rotate_left
     ·intro w'
      go_simp
      with_reducible rfl
     rotate_left
     ·simp only [Act.put, pu_, pz_, ps_, i64_w, i32_w]
      rfl
     refine two_ (i := 2) (j := 4) (Ni := some 16) (Nj := some 18) #[I,I,I,I,Z,Z,Z,Z,Z] #[I,I,Z,I,I,Z,Z,Z,Z] rfl rfl rfl rfl HT_.out (by kernel_rfl) (by decide) (by decide) (fun K hK => ?_) (fun K hK => ?_)
     ·skip
      refine goes_ Tryz.func58 (by kernel_rfl) rfl #[.agg #[.int .i64 tk, .int .i64 tm, .int .i64 tlo, .int .i64 thi, .slice tar tr.length tcr, .slice tak tkids.length tck]] (by rfl) rfl rfl (by (try simp only [List.map_toArray, List.map_cons, List.map_nil]); first | done | rfl) ?_
      have hbb : Below wr.heap.size wr w7 := HB6.out.trans (HBa.out.mono HB6.out.size)
      have hsz := hbb.size
      have hn0r : n0 ≤ wr.heap.size := by have h1 := HB.out.1; have h2 := HB.out.2.1; have h3 := HB.out.2.2; have h4 := HPj.out.size; omega
      refine (twin_calls n0 _ _ _ w7 (Nat.le_refl _) (by omega) (HNr.out.move (fun b hb => hbb.block b (Nat.lt_of_lt_of_le hb hn0r)))).mono ?_
      rintro e w8 ⟨cs', rfl, hNt, hBn⟩
      have HB_w8 := Lib.hid (HBa.out.trans (hBn.mono HBa.out.size))
      have HS_w8 := Lib.hid (And.intro HBa.out.size hBn.size)
      have HC_w8 := Lib.hid hBn
      have HN_w8 := Lib.hid hNt
      clear hbb hsz hn0r hBn
      cases hNt with
      | mk _ _ _ _ _ _ ar2 ak2 cr2 ck2 csk2 _ _ _ _ _ _ _ _ _ =>
       rename_i q1 q2 q3 q4 q5 q6 q7 q8 q9
       clear q1 q2 q3 q4 q5 q6 q7 q8 q9
       refine ⟨_, rfl, ?_⟩
       clear hHeld
       refine hK.out _ _ ⟨(HP6.out.below HB_w8.out).box.cell, cell_heap (i := 0) ((HB_w8.out.block _ (by have := H6.out.2; omega)).trans H6.out.1) rfl, cell_heap (i := 1) ((HB_w8.out.block _ (by have := H6.out.2; omega)).trans H6.out.1) rfl, cell_heap (i := 2) ((HB_w8.out.block _ (by have := H6.out.2; omega)).trans H6.out.1) rfl, cell_heap (i := 3) ((HB_w8.out.block _ (by have := H6.out.2; omega)).trans H6.out.1) rfl, cell_heap (i := 4) ((HB_w8.out.block _ (by have := H6.out.2; omega)).trans H6.out.1) rfl, cell_heap (i := 5) ((HB_w8.out.block _ (by have := H6.out.2; omega)).trans H6.out.1) rfl⟩ (fun hHeld => ?_)
       clear hK K
       refine norm_ (a' := ?_) ?_ ?_
       rotate_left
       ·show Act.put _ (some 16) _ = _
        simp only [Act.put, pu_, pz_, ps_, i64_w, i32_w]
        rfl
       refine one_ (i := 4) (N := some 18) #[I,I,I,I,I,Z,Z,Z,Z] rfl rfl (one_of HT_.out (by kernel_rfl)) (by decide) (fun K hK => ?_)
       refine value_ (v := .slice (some ⟨w8.heap.size, 0, none⟩) 1 1) (w1 := w8.alloc (.cells #[.int .i64 0, .int .i64 0, .int .i64 0, .int .i64 0, .slice none 0 0, .slice none 0 0] 43)) (by rfl) rfl (by go_simp; first | done | rfl) ?_
       obtain ⟨w9, hnw⟩ : ∃ x, x = w8.alloc (.cells #[.int .i64 0, .int .i64 0, .int .i64 0, .int .i64 0, .slice none 0 0, .slice none 0 0] 43) := ⟨_, rfl⟩
       rw [← hnw]
       have hBn : Below w8.heap.size w8 w9 := by rw [hnw]; exact (Below.refl _ w8).alloc (Nat.le_refl _) _
       have hzn : w9.heap[w8.heap.size]? = some (.cells #[.int .i64 0, .int .i64 0, .int .i64 0, .int .i64 0, .slice none 0 0, .slice none 0 0] 43 (0, 0)) := by rw [hnw]; exact World.alloc_heap_new w8 _
       have HB_w9 := Lib.hid (HB_w8.out.trans (hBn.mono HB_w8.out.size))
       have HS_w9 := Lib.hid (And.intro HB_w8.out.size hBn.size)
       have HC_w9 := Lib.hid hBn
       have HZ := Lib.hid hzn
       have HZlt := Lib.hid (Array.getElem?_eq_some_iff.1 hzn).1
       clear hBn hzn hnw
       clear hHeld
       refine hK.out _ _ ⟨(HP6.out.below HB_w9.out).box.cell, cell_heap (i := 0) ((HB_w9.out.block _ (by have := H6.out.2; omega)).trans H6.out.1) rfl, cell_heap (i := 1) ((HB_w9.out.block _ (by have := H6.out.2; omega)).trans H6.out.1) rfl, cell_heap (i := 2) ((HB_w9.out.block _ (by have := H6.out.2; omega)).trans H6.out.1) rfl, cell_heap (i := 3) ((HB_w9.out.block _ (by have := H6.out.2; omega)).trans H6.out.1) rfl, cell_heap (i := 4) ((HB_w9.out.block _ (by have := H6.out.2; omega)).trans H6.out.1) rfl, cell_heap (i := 5) ((HB_w9.out.block _ (by have := H6.out.2; omega)).trans H6.out.1) rfl⟩ (fun hHeld => ?_)
       clear hK K
       refine norm_ (a' := ?_) ?_ ?_
       rotate_left
       ·show Act.put _ (some 18) _ = _
        simp only [Act.put, pu_, pz_, ps_, i64_w, i32_w]
        rfl
       have hPX := HP6.out.below HB_w9.out
       have hown : ∀ k, (Value.slice va O.length vc).ownBlock = some k → k < W6.heap.size := fun k hk => by obtain ⟨cs, _, h2, _⟩ := HP6.out.trees; exact (h2.lt k hk).2
       have hzz : ∀ j u, zero6[j]? = some u → w9.cell? ((⟨w8.heap.size, 0, none⟩ : Addr).add j) = some u := fun j u hu => by
        rw [add_plain]
        exact cell_heap HZ.out (by simpa [zero6] using hu)
       obtain ⟨g, cap, WA, hrun, hcap, hsA, hkA, hbA, hfA, hcA, hgB, st1, st2⟩ := put_append hPX HB.out.1 HB.out.2.1 HO.out.2 ⟨w8.heap.size, 0, none⟩ hzz ((HN_w8.out.move (fun b hb => HC_w9.out.block b hb.2)).mono (fun b hb => by have h1 := HPj.out.size; have h2 := HB6.out.size; have h3 := HS_w8.out; have h4 := HS_w9.out; exact ⟨by omega, by omega, fun e => by have := hown b e.symm; omega⟩))
       refine one_ (i := 5) (N := some 19) #[I,I,I,I,I,I,Z,Z,Z] rfl rfl (one_of HT_.out (by kernel_rfl)) (by decide) (fun K hK => ?_)
       refine appended_ _ _ 41 rfl (by rfl) rfl rfl rfl hrun ?_
       have HRUN := Lib.hid hrun
       have hxA : WA.heap[wr.heap.size]? = some (.cells #[.int .i64 tk, .int .i64 tm, .int .i64 tlo, .int .i64 thi, .slice tar tr.length tcr, .slice tak tkids.length tck] 43 (0, 0)) := (hkA _ (by have h1 := H6.out.2; have h2 := HB_w9.out.size; omega) (fun e => by obtain ⟨cs, _, h2, _⟩ := HPj.out.trees; have := (h2.lt _ e.symm).2; omega)).trans ((HB_w9.out.block _ (by have := H6.out.2; omega)).trans H6.out.1)
       clear hHeld
       refine hK.out _ _ ⟨hbA.cell, cell_heap (i := 0) hxA rfl, cell_heap (i := 1) hxA rfl, cell_heap (i := 2) hxA rfl, cell_heap (i := 3) hxA rfl, cell_heap (i := 4) hxA rfl, cell_heap (i := 5) hxA rfl⟩ (fun hHeld => ?_)
       clear hK K
       refine norm_ (a' := ?_) ?_ ?_
       rotate_left
       ·show Act.put _ (some 19) _ = _
        simp only [Act.put, pu_, pz_, ps_, i64_w, i32_w]
        rfl
       have hix : (O.length : Int) < (O.length : Int) + 1 := by omega
       refine pure_ (i := 6) (N := some 20) (v := ?_) (a' := ?_) #[I,I,I,I,I,I,I,Z,Z] rfl rfl (any_of HT_.out (by kernel_rfl)) (fun _ _ _ h => h) (Or.inl ⟨by rfl, ?_⟩) ?_ ?_
       rotate_left
       ·intro w'
        go_simp
        try rw [if_pos hix]
        with_reducible rfl
       rotate_left
       ·simp only [Act.put, pu_, pz_, ps_, i64_w, i32_w]
        rfl
       obtain ⟨y0, z0⟩ := hcA 0 (by decide)
       obtain ⟨y1, z1⟩ := hcA 1 (by decide)
       obtain ⟨y2, z2⟩ := hcA 2 (by decide)
       obtain ⟨y3, z3⟩ := hcA 3 (by decide)
       obtain ⟨y4, z4⟩ := hcA 4 (by decide)
       obtain ⟨y5, z5⟩ := hcA 5 (by decide)
       rw [Nat.add_zero] at z0
       have cb := hbA.cell
       have fb := hbA.frozen
       have HBA := Lib.hid hbA
       have HST1 := Lib.hid st1
       have HST2 := Lib.hid st2
       clear st1 st2 hxA hPX hown hzz hkA hcA hrun hcap hsA hbA
       refine lasts_ (i := 7) (j := 8) (Ni := none) (Nj := none) #[I,I,I,I,I,I,I,I,Z] #[I,I,I,I,I,I,I,Z,I] rfl rfl rfl rfl HT_.out (by kernel_rfl) (by decide) (by decide) (fun K hK => ?_) (fun K hK => ?_)
       ·refine skip_ (w1 := ?_) (by rfl) rfl ?_ ?_
        rotate_left
        ·go_simp
         rfl
        refine hK.out _ _ ?_
        clear hK K
        have bY : Boxed (put6 WA g (O.length * 6) (.int .i64 tk) (.int .i64 tm) (.int .i64 tlo) (.int .i64 thi) (.slice ar2 tr.length cr2) (.slice ak2 tkids.length ck2)) Bo 41 (.slice va O.length vc) := (put6_other _ _ _ _ _ _ _ _ _ Bo (fun e => hgB e.symm)).trans HBA.out
        change wpAnyLast _ _ _ _ _ _ _ _ _ (put6 WA g (O.length * 6) (.int .i64 tk) (.int .i64 tm) (.int .i64 tlo) (.int .i64 thi) (.slice ar2 tr.length cr2) (.slice ak2 tkids.length ck2))
        have HS1 := HST1.out
        clear z0 z1 z2 z3 z4 z5 hfA cb fb
        generalize put6 WA g (O.length * 6) (.int .i64 tk) (.int .i64 tm) (.int .i64 tlo) (.int .i64 thi) (.slice ar2 tr.length cr2) (.slice ak2 tkids.length ck2) = WY at bY HS1 ⊢
        have cY := bY.cell
        have fY := bY.frozen
        have HSS := Lib.hid HS1
        clear bY HS1
        refine last_ (i := 8) (N := none) #[I,I,I,I,I,I,I,I,I] rfl rfl (one_of HT_.out (by kernel_rfl)) (by decide) (fun K hK => ?_)
        refine skip_ (w1 := ?_) (by rfl) rfl ?_ ?_
        rotate_left
        ·go_simp
         rfl
        refine hK.out _ _ ?_
        clear hK K
        refine done_ (done_of HT_.out (by kernel_rfl)) ?_
        clear HT_ cY fY
        go_wp2
        go_roundg (n - (j + 1))
        case measure => omega
        case rel =>
         refine ⟨j + 1, .slice (some ⟨g, 0, none⟩) (O.length + 1) cap, congrArg (Value.int .i64) (by first | (push_cast; rfl) | (rw [w64_lit _ (by omega) (by have := HLEN.out; omega)]; push_cast; rfl)), by omega, Nat.le_refl _, ⟨?_⟩⟩
         have e : outl ++ some6 (l.take (j + 1)) = O ++ [.mk tk tm tlo thi tr tkids] := by rw [HO.out.1, HTK.out]; simp [some6, NT.k, H1.out]
         rw [e]
         exact HSS.out
       ·refine skip_ (w1 := ?_) (by rfl) rfl ?_ ?_
        rotate_left
        ·go_simp
         rfl
        refine hK.out _ _ ?_
        clear hK K
        have gY : ∀ o u, WA.cell? ⟨g, o, none⟩ = some u → (WA.setCell ⟨Bo, 0, none⟩ (.slice (some ⟨g, 0, none⟩) (O.length + 1) cap)).cell? ⟨g, o, none⟩ = some u := fun o u hu => by rw [World.cell?_of_block (w := WA) (a := ⟨g, o, none⟩) (Below.heap_setCell _ _ _ _ hgB)]; exact hu
        have hY : ∀ o, (WA.setCell ⟨Bo, 0, none⟩ (.slice (some ⟨g, 0, none⟩) (O.length + 1) cap)).frozen? ⟨g, o, none⟩ = false := fun o => by rw [World.frozen?_of_block (w := WA) (a := ⟨g, o, none⟩) (Below.heap_setCell _ _ _ _ hgB)]; exact hfA o
        have t0 := gY _ _ z0
        have t1 := gY _ _ z1
        have t2 := gY _ _ z2
        have t3 := gY _ _ z3
        have t4 := gY _ _ z4
        have t5 := gY _ _ z5
        have HS1 := HST2.out
        clear z0 z1 z2 z3 z4 z5 hfA cb fb gY
        generalize WA.setCell ⟨Bo, 0, none⟩ (.slice (some ⟨g, 0, none⟩) (O.length + 1) cap) = WY at t0 t1 t2 t3 t4 t5 hY HS1 ⊢
        have HSS := Lib.hid HS1
        clear HS1
        refine last_ (i := 7) (N := none) #[I,I,I,I,I,I,I,I,I] rfl rfl (one_of HT_.out (by kernel_rfl)) (by decide) (fun K hK => ?_)
        refine skip_ (w1 := ?_) (by rfl) rfl ?_ ?_
        rotate_left
        ·go_simp
         rfl
        refine hK.out _ _ ?_
        clear hK K
        refine done_ (done_of HT_.out (by kernel_rfl)) ?_
        clear HT_ t0 t1 t2 t3 t4 t5 hY
        go_wp2
        go_roundg (n - (j + 1))
        case measure => omega
        case rel =>
         refine ⟨j + 1, .slice (some ⟨g, 0, none⟩) (O.length + 1) cap, congrArg (Value.int .i64) (by first | (push_cast; rfl) | (rw [w64_lit _ (by omega) (by have := HLEN.out; omega)]; push_cast; rfl)), by omega, Nat.le_refl _, ⟨?_⟩⟩
         have e : outl ++ some6 (l.take (j + 1)) = O ++ [.mk tk tm tlo thi tr tkids] := by rw [HO.out.1, HTK.out]; simp [some6, NT.k, H1.out]
         rw [e]
         exact HSS.out
     ·skip
      refine value_ (v := .slice (some ⟨w7.heap.size, 0, none⟩) 1 1) (w1 := w7.alloc (.cells #[.int .i64 0, .int .i64 0, .int .i64 0, .int .i64 0, .slice none 0 0, .slice none 0 0] 43)) (by rfl) rfl (by go_simp; first | done | rfl) ?_
      obtain ⟨w8, hnw⟩ : ∃ x, x = w7.alloc (.cells #[.int .i64 0, .int .i64 0, .int .i64 0, .int .i64 0, .slice none 0 0, .slice none 0 0] 43) := ⟨_, rfl⟩
      rw [← hnw]
      have hBn : Below w7.heap.size w7 w8 := by rw [hnw]; exact (Below.refl _ w7).alloc (Nat.le_refl _) _
      have hzn : w8.heap[w7.heap.size]? = some (.cells #[.int .i64 0, .int .i64 0, .int .i64 0, .int .i64 0, .slice none 0 0, .slice none 0 0] 43 (0, 0)) := by rw [hnw]; exact World.alloc_heap_new w7 _
      have HB_w8 := Lib.hid (HBa.out.trans (hBn.mono HBa.out.size))
      have HS_w8 := Lib.hid (And.intro HBa.out.size hBn.size)
      have HC_w8 := Lib.hid hBn
      have HZ := Lib.hid hzn
      have HZlt := Lib.hid (Array.getElem?_eq_some_iff.1 hzn).1
      clear hBn hzn hnw
      clear hHeld
      refine hK.out _ _ ⟨(HP6.out.below HB_w8.out).box.cell, cell_heap (i := 0) ((HB_w8.out.block _ (by have := H6.out.2; omega)).trans H6.out.1) rfl, cell_heap (i := 1) ((HB_w8.out.block _ (by have := H6.out.2; omega)).trans H6.out.1) rfl, cell_heap (i := 2) ((HB_w8.out.block _ (by have := H6.out.2; omega)).trans H6.out.1) rfl, cell_heap (i := 3) ((HB_w8.out.block _ (by have := H6.out.2; omega)).trans H6.out.1) rfl, cell_heap (i := 4) ((HB_w8.out.block _ (by have := H6.out.2; omega)).trans H6.out.1) rfl, cell_heap (i := 5) ((HB_w8.out.block _ (by have := H6.out.2; omega)).trans H6.out.1) rfl⟩ (fun hHeld => ?_)
      clear hK K
      refine norm_ (a' := ?_) ?_ ?_
      rotate_left
      ·show Act.put _ (some 18) _ = _
       simp only [Act.put, pu_, pz_, ps_, i64_w, i32_w]
       rfl
      refine one_ (i := 2) (N := some 16) #[I,I,I,I,I,Z,Z,Z,Z] rfl rfl (one_of HT_.out (by kernel_rfl)) (by decide) (fun K hK => ?_)
      refine goes_ Tryz.func58 (by kernel_rfl) rfl #[.agg #[.int .i64 tk, .int .i64 tm, .int .i64 tlo, .int .i64 thi, .slice tar tr.length tcr, .slice tak tkids.length tck]] (by rfl) rfl rfl (by (try simp only [List.map_toArray, List.map_cons, List.map_nil]); first | done | rfl) ?_
      have hbb : Below wr.heap.size wr w8 := HB6.out.trans (HB_w8.out.mono HB6.out.size)
      have hsz := hbb.size
      have hn0r : n0 ≤ wr.heap.size := by have h1 := HB.out.1; have h2 := HB.out.2.1; have h3 := HB.out.2.2; have h4 := HPj.out.size; omega
      refine (twin_calls n0 _ _ _ w8 (Nat.le_refl _) (by omega) (HNr.out.move (fun b hb => hbb.block b (Nat.lt_of_lt_of_le hb hn0r)))).mono ?_
      rintro e w9 ⟨cs', rfl, hNt, hBn⟩
      have HB_w9 := Lib.hid (HB_w8.out.trans (hBn.mono HB_w8.out.size))
      have HS_w9 := Lib.hid (And.intro HB_w8.out.size hBn.size)
      have HC_w9 := Lib.hid hBn
      have HN_w9 := Lib.hid hNt
      clear hbb hsz hn0r hBn
      cases hNt with
      | mk _ _ _ _ _ _ ar2 ak2 cr2 ck2 csk2 _ _ _ _ _ _ _ _ _ =>
       rename_i q1 q2 q3 q4 q5 q6 q7 q8 q9
       clear q1 q2 q3 q4 q5 q6 q7 q8 q9
       refine ⟨_, rfl, ?_⟩
       clear hHeld
       refine hK.out _ _ ⟨(HP6.out.below HB_w9.out).box.cell, cell_heap (i := 0) ((HB_w9.out.block _ (by have := H6.out.2; omega)).trans H6.out.1) rfl, cell_heap (i := 1) ((HB_w9.out.block _ (by have := H6.out.2; omega)).trans H6.out.1) rfl, cell_heap (i := 2) ((HB_w9.out.block _ (by have := H6.out.2; omega)).trans H6.out.1) rfl, cell_heap (i := 3) ((HB_w9.out.block _ (by have := H6.out.2; omega)).trans H6.out.1) rfl, cell_heap (i := 4) ((HB_w9.out.block _ (by have := H6.out.2; omega)).trans H6.out.1) rfl, cell_heap (i := 5) ((HB_w9.out.block _ (by have := H6.out.2; omega)).trans H6.out.1) rfl⟩ (fun hHeld => ?_)
       clear hK K
       refine norm_ (a' := ?_) ?_ ?_
       rotate_left
       ·show Act.put _ (some 16) _ = _
        simp only [Act.put, pu_, pz_, ps_, i64_w, i32_w]
        rfl
       have hPX := HP6.out.below HB_w9.out
       have hown : ∀ k, (Value.slice va O.length vc).ownBlock = some k → k < W6.heap.size := fun k hk => by obtain ⟨cs, _, h2, _⟩ := HP6.out.trees; exact (h2.lt k hk).2
       have hzz : ∀ j u, zero6[j]? = some u → w9.cell? ((⟨w7.heap.size, 0, none⟩ : Addr).add j) = some u := fun j u hu => by
        rw [add_plain]
        exact cell_heap ((HC_w9.out.block _ (by have := HZlt.out; omega)).trans HZ.out) (by simpa [zero6] using hu)
       obtain ⟨g, cap, WA, hrun, hcap, hsA, hkA, hbA, hfA, hcA, hgB, st1, st2⟩ := put_append hPX HB.out.1 HB.out.2.1 HO.out.2 ⟨w7.heap.size, 0, none⟩ hzz (HN_w9.out.mono (fun b hb => by have h1 := HPj.out.size; have h2 := HB6.out.size; have h3 := HS_w8.out; have h4 := HS_w9.out; exact ⟨by omega, by omega, fun e => by have := hown b e.symm; omega⟩))
       refine one_ (i := 5) (N := some 19) #[I,I,I,I,I,I,Z,Z,Z] rfl rfl (one_of HT_.out (by kernel_rfl)) (by decide) (fun K hK => ?_)
       refine appended_ _ _ 41 rfl (by rfl) rfl rfl rfl hrun ?_
       have HRUN := Lib.hid hrun
       have hxA : WA.heap[wr.heap.size]? = some (.cells #[.int .i64 tk, .int .i64 tm, .int .i64 tlo, .int .i64 thi, .slice tar tr.length tcr, .slice tak tkids.length tck] 43 (0, 0)) := (hkA _ (by have h1 := H6.out.2; have h2 := HB_w9.out.size; omega) (fun e => by obtain ⟨cs, _, h2, _⟩ := HPj.out.trees; have := (h2.lt _ e.symm).2; omega)).trans ((HB_w9.out.block _ (by have := H6.out.2; omega)).trans H6.out.1)
       clear hHeld
       refine hK.out _ _ ⟨hbA.cell, cell_heap (i := 0) hxA rfl, cell_heap (i := 1) hxA rfl, cell_heap (i := 2) hxA rfl, cell_heap (i := 3) hxA rfl, cell_heap (i := 4) hxA rfl, cell_heap (i := 5) hxA rfl⟩ (fun hHeld => ?_)
       clear hK K
       refine norm_ (a' := ?_) ?_ ?_
       rotate_left
       ·show Act.put _ (some 19) _ = _
        simp only [Act.put, pu_, pz_, ps_, i64_w, i32_w]
        rfl
       have hix : (O.length : Int) < (O.length : Int) + 1 := by omega
       refine pure_ (i := 6) (N := some 20) (v := ?_) (a' := ?_) #[I,I,I,I,I,I,I,Z,Z] rfl rfl (any_of HT_.out (by kernel_rfl)) (fun _ _ _ h => h) (Or.inl ⟨by rfl, ?_⟩) ?_ ?_
       rotate_left
       ·intro w'
        go_simp
        try rw [if_pos hix]
        with_reducible rfl
       rotate_left
       ·simp only [Act.put, pu_, pz_, ps_, i64_w, i32_w]
        rfl
       obtain ⟨y0, z0⟩ := hcA 0 (by decide)
       obtain ⟨y1, z1⟩ := hcA 1 (by decide)
       obtain ⟨y2, z2⟩ := hcA 2 (by decide)
       obtain ⟨y3, z3⟩ := hcA 3 (by decide)
       obtain ⟨y4, z4⟩ := hcA 4 (by decide)
       obtain ⟨y5, z5⟩ := hcA 5 (by decide)
       rw [Nat.add_zero] at z0
       have cb := hbA.cell
       have fb := hbA.frozen
       have HBA := Lib.hid hbA
       have HST1 := Lib.hid st1
       have HST2 := Lib.hid st2
       clear st1 st2 hxA hPX hown hzz hkA hcA hrun hcap hsA hbA
       refine lasts_ (i := 7) (j := 8) (Ni := none) (Nj := none) #[I,I,I,I,I,I,I,I,Z] #[I,I,I,I,I,I,I,Z,I] rfl rfl rfl rfl HT_.out (by kernel_rfl) (by decide) (by decide) (fun K hK => ?_) (fun K hK => ?_)
       ·refine skip_ (w1 := ?_) (by rfl) rfl ?_ ?_
        rotate_left
        ·go_simp
         rfl
        refine hK.out _ _ ?_
        clear hK K
        have bY : Boxed (put6 WA g (O.length * 6) (.int .i64 tk) (.int .i64 tm) (.int .i64 tlo) (.int .i64 thi) (.slice ar2 tr.length cr2) (.slice ak2 tkids.length ck2)) Bo 41 (.slice va O.length vc) := (put6_other _ _ _ _ _ _ _ _ _ Bo (fun e => hgB e.symm)).trans HBA.out
        change wpAnyLast _ _ _ _ _ _ _ _ _ (put6 WA g (O.length * 6) (.int .i64 tk) (.int .i64 tm) (.int .i64 tlo) (.int .i64 thi) (.slice ar2 tr.length cr2) (.slice ak2 tkids.length ck2))
        have HS1 := HST1.out
        clear z0 z1 z2 z3 z4 z5 hfA cb fb
        generalize put6 WA g (O.length * 6) (.int .i64 tk) (.int .i64 tm) (.int .i64 tlo) (.int .i64 thi) (.slice ar2 tr.length cr2) (.slice ak2 tkids.length ck2) = WY at bY HS1 ⊢
        have cY := bY.cell
        have fY := bY.frozen
        have HSS := Lib.hid HS1
        clear bY HS1
        refine last_ (i := 8) (N := none) #[I,I,I,I,I,I,I,I,I] rfl rfl (one_of HT_.out (by kernel_rfl)) (by decide) (fun K hK => ?_)
        refine skip_ (w1 := ?_) (by rfl) rfl ?_ ?_
        rotate_left
        ·go_simp
         rfl
        refine hK.out _ _ ?_
        clear hK K
        refine done_ (done_of HT_.out (by kernel_rfl)) ?_
        clear HT_ cY fY
        go_wp2
        go_roundg (n - (j + 1))
        case measure => omega
        case rel =>
         refine ⟨j + 1, .slice (some ⟨g, 0, none⟩) (O.length + 1) cap, congrArg (Value.int .i64) (by first | (push_cast; rfl) | (rw [w64_lit _ (by omega) (by have := HLEN.out; omega)]; push_cast; rfl)), by omega, Nat.le_refl _, ⟨?_⟩⟩
         have e : outl ++ some6 (l.take (j + 1)) = O ++ [.mk tk tm tlo thi tr tkids] := by rw [HO.out.1, HTK.out]; simp [some6, NT.k, H1.out]
         rw [e]
         exact HSS.out
       ·refine skip_ (w1 := ?_) (by rfl) rfl ?_ ?_
        rotate_left
        ·go_simp
         rfl
        refine hK.out _ _ ?_
        clear hK K
        have gY : ∀ o u, WA.cell? ⟨g, o, none⟩ = some u → (WA.setCell ⟨Bo, 0, none⟩ (.slice (some ⟨g, 0, none⟩) (O.length + 1) cap)).cell? ⟨g, o, none⟩ = some u := fun o u hu => by rw [World.cell?_of_block (w := WA) (a := ⟨g, o, none⟩) (Below.heap_setCell _ _ _ _ hgB)]; exact hu
        have hY : ∀ o, (WA.setCell ⟨Bo, 0, none⟩ (.slice (some ⟨g, 0, none⟩) (O.length + 1) cap)).frozen? ⟨g, o, none⟩ = false := fun o => by rw [World.frozen?_of_block (w := WA) (a := ⟨g, o, none⟩) (Below.heap_setCell _ _ _ _ hgB)]; exact hfA o
        have t0 := gY _ _ z0
        have t1 := gY _ _ z1
        have t2 := gY _ _ z2
        have t3 := gY _ _ z3
        have t4 := gY _ _ z4
        have t5 := gY _ _ z5
        have HS1 := HST2.out
        clear z0 z1 z2 z3 z4 z5 hfA cb fb gY
        generalize WA.setCell ⟨Bo, 0, none⟩ (.slice (some ⟨g, 0, none⟩) (O.length + 1) cap) = WY at t0 t1 t2 t3 t4 t5 hY HS1 ⊢
        have HSS := Lib.hid HS1
        clear HS1
        refine last_ (i := 7) (N := none) #[I,I,I,I,I,I,I,I,I] rfl rfl (one_of HT_.out (by kernel_rfl)) (by decide) (fun K hK => ?_)
        refine skip_ (w1 := ?_) (by rfl) rfl ?_ ?_
        rotate_left
        ·go_simp
         rfl
        refine hK.out _ _ ?_
        clear hK K
        refine done_ (done_of HT_.out (by kernel_rfl)) ?_
        clear HT_ t0 t1 t2 t3 t4 t5 hY
        go_wp2
        go_roundg (n - (j + 1))
        case measure => omega
        case rel =>
         refine ⟨j + 1, .slice (some ⟨g, 0, none⟩) (O.length + 1) cap, congrArg (Value.int .i64) (by first | (push_cast; rfl) | (rw [w64_lit _ (by omega) (by have := HLEN.out; omega)]; push_cast; rfl)), by omega, Nat.le_refl _, ⟨?_⟩⟩
         have e : outl ++ some6 (l.take (j + 1)) = O ++ [.mk tk tm tlo thi tr tkids] := by rw [HO.out.1, HTK.out]; simp [some6, NT.k, H1.out]
         rw [e]
         exact HSS.out
  ·obtain rfl : j = n := by omega
   have hlt' : ¬ (j : Int) < (j : Int) := by omega
   go_wp2
   go_end0
   exact ⟨rfl, vj, by have := HPj.out; rwa [List.take_of_length_le (by have := HL.out; omega)] at this⟩
end Go.Proofs.YtamhkdlcoghdbaaGreatDoor.PCls
