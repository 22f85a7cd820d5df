/- Put together (wip/tools/pack.py): KTOut, KTTwo, KTLay0. -/
import Derived.Test.YtamhkdlcoghdbaaKTTwin
/- Out of TOut (wip/tools/prune2.py): the declarations alone that the texts of the trees name. -/
namespace Go.Proofs.Ytamhkdlcoghdbaa.PCls
open Go.RowKit Go.Proofs.YtamhkdlcoghdbaaW.PrintWords Go.Proofs.YtamhkdlcoghdbaaW.PrintLast Go.Proofs.YtamhkdlcoghdbaaW.PrintMore
set_option linter.unusedVariables false
set_option linter.unusedSimpArgs false
/-- a slice that owns a row of trees; what is behind them lies from base on, in no row of the slice's -/
def TreesAt (W : World) (base : Nat) (v : Value) (l : List NT) : Prop :=
 ∃ cs : Nat → List Value, (∀ i, i < l.length → (cs i).length = 6) ∧ W.ownsRow base 44 6 v l.length (flat6 cs l.length) ∧ ∀ i t, l[i]? = some t → NIn W (fun b => base ≤ b ∧ b < W.heap.size ∧ some b ≠ v.ownBlock) t (cs i)
theorem TreesAt.nil (W : World) (base : Nat) : TreesAt W base (.slice none 0 0) [] := ⟨fun _ => [], fun i h => by simp at h, ⟨rfl, .inl ⟨rfl, rfl⟩⟩, fun i t h => by simp at h⟩
theorem TreesAt.below {A B : World} {base : Nat} {v : Value} {l : List NT} (h : TreesAt A base v l) (hb : Below A.heap.size A B) : TreesAt B base v l := by
 obtain ⟨cs, h1, h2, h3⟩ := h
 exact ⟨cs, h1, own_move h2 (fun k hk => hb.block k (h2.lt k hk).2), fun i t ht => ((h3 i t ht).move (fun b hb' => hb.block b hb'.2.1)).mono (fun b hb' => ⟨hb'.1, Nat.lt_of_lt_of_le hb'.2.1 hb.size, hb'.2.2⟩)⟩
/-- a block that is neither the row nor behind it may be written -/
theorem TreesAt.other {A : World} {base : Nat} {v : Value} {l : List NT} (h : TreesAt A base v l) {c : Nat} (hc : c < base) (u : Value) : TreesAt (A.setCell ⟨c, 0, none⟩ u) base v l := by
 obtain ⟨cs, h1, h2, h3⟩ := h
 exact ⟨cs, h1, own_move h2 (fun k hk => Below.heap_setCell A ⟨c, 0, none⟩ u k (by have := (h2.lt k hk).1; simp only; omega)), fun i t ht => ((h3 i t ht).move (fun b hb' => Below.heap_setCell A ⟨c, 0, none⟩ u b (by simp only; omega))).mono (fun b hb' => ⟨hb'.1, by simpa [World.setCell] using hb'.2.1, hb'.2.2⟩)⟩
def zero6 : List Value := [.int .i64 0, .int .i64 0, .int .i64 0, .int .i64 0, .slice none 0 0, .slice none 0 0]
theorem flat6_congr {cs cs' : Nat → List Value} : ∀ n, (∀ i, i < n → cs i = cs' i) → flat6 cs n = flat6 cs' n
 | 0, _ => rfl
 | n + 1, h => by
  simp only [flat6]
  rw [flat6_congr n (fun i hi => h i (by omega)), h n (by omega)]
theorem put6_take (cur : Array Value) (n : Nat) (F : List Value) (v0 v1 v2 v3 v4 v5 : Value) (hF : F.length = n * 6) (hs : (n + 1) * 6 ≤ cur.size) (h : cur.toList.take ((n + 1) * 6) = F ++ zero6) :
  ((((((cur.setIfInBounds (n * 6) v0).setIfInBounds (n * 6 + 1) v1).setIfInBounds (n * 6 + 2) v2).setIfInBounds (n * 6 + 3) v3).setIfInBounds (n * 6 + 4) v4).setIfInBounds (n * 6 + 5) v5).toList.take ((n + 1) * 6) = F ++ [v0, v1, v2, v3, v4, v5] := by
 apply List.ext_getElem?
 intro i
 have hi0 := congrArg (fun l : List Value => l[i]?) h
 simp only [List.getElem?_take, Array.getElem?_toList] at hi0 ⊢
 by_cases hi : i < (n + 1) * 6
 ·rw [if_pos hi] at hi0 ⊢
  simp only [Array.getElem?_setIfInBounds, Array.size_setIfInBounds]
  rcases Nat.lt_or_ge i (n * 6) with hlt | hge
  ·rw [if_neg (by omega), if_neg (by omega), if_neg (by omega), if_neg (by omega), if_neg (by omega), if_neg (by omega), hi0, List.getElem?_append_left (by omega), List.getElem?_append_left (by omega)]
  ·rw [List.getElem?_append_right (by omega), hF]
   obtain ⟨q, hq⟩ : ∃ q, i = n * 6 + q := ⟨i - n * 6, by omega⟩
   subst hq
   rw [show n * 6 + q - n * 6 = q by omega]
   match q, hi with
   | 0, _ => simp; omega
   | 1, _ => simp; omega
   | 2, _ => simp; omega
   | 3, _ => simp; omega
   | 4, _ => simp; omega
   | 5, _ => simp; omega
   | q + 6, hi => omega
 ·rw [if_neg hi, List.getElem?_eq_none (by simp [hF]; omega)]
def putAt (cs : Nat → List Value) (n : Nat) (c : List Value) : Nat → List Value := fun i => if i = n then c else cs i
theorem putAt_same (cs : Nat → List Value) (n : Nat) (c : List Value) : putAt cs n c n = c := if_pos rfl
theorem putAt_ne (cs : Nat → List Value) (c : List Value) {n i : Nat} (h : i ≠ n) : putAt cs n c i = cs i := if_neg h
/-- one tree more: behind the append the last place is zero; the tree's cells are stored there -/
theorem TreesAt.append {X W : World} {base : Nat} {v : Value} {l : List NT} {g cap : Nat} {t : NT} {v0 v1 v2 v3 v4 v5 : Value} {cs : Nat → List Value}
  (h1 : ∀ i, i < l.length → (cs i).length = 6) (h2 : X.ownsRow base 44 6 v l.length (flat6 cs l.length)) (h3 : ∀ i t, l[i]? = some t → NIn X (fun b => base ≤ b ∧ b < X.heap.size ∧ some b ≠ v.ownBlock) t (cs i))
  (hN : NIn X (fun b => base ≤ b ∧ b < X.heap.size ∧ some b ≠ v.ownBlock) t [v0, v1, v2, v3, v4, v5]) (hg : X.grownBy W v.ownBlock) (hnew : some g ≠ v.ownBlock → X.heap.size ≤ g)
  (ho : W.ownsRow base 44 6 (.slice (some ⟨g, 0, none⟩) (l.length + 1) cap) (l.length + 1) (flat6 cs l.length ++ zero6)) :
  TreesAt (put6 W g (l.length * 6) v0 v1 v2 v3 v4 v5) base (.slice (some ⟨g, 0, none⟩) (l.length + 1) cap) (l ++ [t]) := by
 have hfl := flat6_length cs l.length h1
 have hne : ∀ b, b < X.heap.size → some b ≠ v.ownBlock → b ≠ g := by
  intro b hb h e
  subst e
  have := hnew h
  omega
 have hmv : ∀ b, b < X.heap.size → some b ≠ v.ownBlock → (put6 W g (l.length * 6) v0 v1 v2 v3 v4 v5).heap[b]? = X.heap[b]? := fun b hb h => (put6_other _ _ _ _ _ _ _ _ _ b (hne b hb h)).trans (hg.block b hb h)
 have hsz := hg.size
 have hP : ∀ {t : NT} {c : List Value}, NIn X (fun b => base ≤ b ∧ b < X.heap.size ∧ some b ≠ v.ownBlock) t c → NIn (put6 W g (l.length * 6) v0 v1 v2 v3 v4 v5) (fun b => base ≤ b ∧ b < (put6 W g (l.length * 6) v0 v1 v2 v3 v4 v5).heap.size ∧ some b ≠ (Value.slice (some ⟨g, 0, none⟩) (l.length + 1) cap).ownBlock) t c := fun hn =>
  (hn.move (fun b hb => hmv b hb.2.1 hb.2.2)).mono (fun b hb => ⟨hb.1, by rw [put6_size]; omega, fun e => hne b hb.2.1 hb.2.2 (by simpa [Value.ownBlock] using e)⟩)
 rcases ho.2 with ⟨e, _⟩ | ⟨g', cap', cur, e, hgb, hh, hcl, hcm, hcs, htk⟩
 ·cases e
 simp only [Value.slice.injEq, Option.some.injEq, Addr.mk.injEq, and_true, true_and] at e
 obtain ⟨rfl, rfl⟩ := e
 have hl6 : ∀ i, i < (l ++ [t]).length → (putAt cs l.length [v0, v1, v2, v3, v4, v5] i).length = 6 := fun i hi => by
  by_cases hij : i = l.length
  ·rw [hij, putAt_same]; rfl
  ·rw [putAt_ne _ _ hij]
   simp at hi
   exact h1 i (by omega)
 refine ⟨putAt cs l.length [v0, v1, v2, v3, v4, v5], hl6, ⟨flat6_length _ _ hl6, .inr ⟨g, cap, _, by simp, hgb, set_row (set_row (set_row (set_row (set_row (set_row hh _ _) _ _) _ _) _ _) _ _) _ _, by simpa using hcl, hcm, by simpa using hcs, ?_⟩⟩, fun i t' ht' => ?_⟩
 ·have e1 : flat6 (putAt cs l.length [v0, v1, v2, v3, v4, v5]) (l ++ [t]).length = flat6 cs l.length ++ [v0, v1, v2, v3, v4, v5] := by
   rw [show (l ++ [t]).length = l.length + 1 by simp]
   simp only [flat6]
   rw [putAt_same, flat6_congr l.length (fun i hi => putAt_ne cs _ (by omega))]
  rw [e1, show (l ++ [t]).length = l.length + 1 by simp]
  exact put6_take cur l.length (flat6 cs l.length) v0 v1 v2 v3 v4 v5 hfl (by rw [hcs]; exact Nat.mul_le_mul_right 6 hcl) htk
 ·by_cases hij : i = l.length
  ·subst hij
   rw [putAt_same]
   simp at ht'
   subst ht'
   exact hP hN
  ·rw [putAt_ne _ _ hij]
   have hlt := (List.getElem?_eq_some_iff.1 ht').1
   simp at hlt
   rw [List.getElem?_append_left (by omega)] at ht'
   exact hP (h3 i t' ht')
theorem TreesAt.agree {A B : World} {base : Nat} {v : Value} {l : List NT} (h : TreesAt A base v l) (hb : ∀ b, base ≤ b → B.heap[b]? = A.heap[b]?) (hs : A.heap.size ≤ B.heap.size) : TreesAt B base v l := by
 obtain ⟨cs, h1, h2, h3⟩ := h
 exact ⟨cs, h1, own_move h2 (fun k hk => hb k (h2.lt k hk).1), fun i t ht => ((h3 i t ht).move (fun b hb' => hb b hb'.1)).mono (fun b hb' => ⟨hb'.1, Nat.lt_of_lt_of_le hb'.2.1 hs, hb'.2.2⟩)⟩
theorem put6_congr {A B : World} {g o : Nat} {v0 v1 v2 v3 v4 v5 : Value} (h : A.heap[g]? = B.heap[g]?) : (put6 A g o v0 v1 v2 v3 v4 v5).heap[g]? = (put6 B g o v0 v1 v2 v3 v4 v5).heap[g]? := by
 simp only [put6, World.setCell, Array.getElem?_modify, h]
theorem setCell_env (A : World) (p : Addr) (u : Value) : (A.setCell p u).os = A.os ∧ (A.setCell p u).tape = A.tape ∧ (A.setCell p u).output = A.output ∧ (A.setCell p u).heap.size = A.heap.size := ⟨rfl, rfl, rfl, by simp [World.setCell]⟩
theorem put6_env (A : World) (g o : Nat) (v0 v1 v2 v3 v4 v5 : Value) : (put6 A g o v0 v1 v2 v3 v4 v5).os = A.os ∧ (put6 A g o v0 v1 v2 v3 v4 v5).tape = A.tape ∧ (put6 A g o v0 v1 v2 v3 v4 v5).output = A.output := by
 unfold put6
 have h := fun (A : World) (p : Addr) (u : Value) => setCell_env A p u
 refine ⟨?_, ?_, ?_⟩
 ·rw [(h _ _ _).1, (h _ _ _).1, (h _ _ _).1, (h _ _ _).1, (h _ _ _).1, (h _ _ _).1]
 ·rw [(h _ _ _).2.1, (h _ _ _).2.1, (h _ _ _).2.1, (h _ _ _).2.1, (h _ _ _).2.1, (h _ _ _).2.1]
 ·rw [(h _ _ _).2.2.1, (h _ _ _).2.2.1, (h _ _ _).2.2.1, (h _ _ _).2.2.1, (h _ _ _).2.2.1, (h _ _ _).2.2.1]
/-- between two rounds of what puts trees into a box: the box Bo lies below base -/
structure PutSt (W0 wr : World) (Bo base : Nat) (v0 v : Value) (l : List NT) : Prop where
 box : Boxed wr Bo 42 v
 trees : TreesAt wr base v l
 kept : ∀ b, b < W0.heap.size → b ≠ Bo → some b ≠ v0.ownBlock → wr.heap[b]? = W0.heap[b]?
 own : v.ownBlock = v0.ownBlock ∨ ∀ k, v.ownBlock = some k → W0.heap.size ≤ k
 size : W0.heap.size ≤ wr.heap.size
 os : wr.os = W0.os
 tape : wr.tape = W0.tape
 output : wr.output = W0.output
theorem PutSt.below {W0 A B : World} {Bo base : Nat} {v0 v : Value} {l : List NT} (h : PutSt W0 A Bo base v0 v l) (hb : Below A.heap.size A B) : PutSt W0 B Bo base v0 v l :=
 ⟨boxed_keep h.box hb, h.trees.below hb, fun b h1 h2 h3 => (hb.block b (Nat.lt_of_lt_of_le h1 h.size)).trans (h.kept b h1 h2 h3), h.own, Nat.le_trans h.size hb.size, hb.os.trans h.os, hb.tape.trans h.tape, hb.output.trans h.output⟩
set_option maxHeartbeats 2000000 in
/-- an append, and the tree's cells and the box stored, in the one order or the other -/
theorem PutSt.step {W0 X W : World} {Bo base : Nat} {v0 v : Value} {l : List NT} {g cap : Nat} {t : NT} {u0 u1 u2 u3 u4 u5 : Value} (h : PutSt W0 X Bo base v0 v l) (hBo : Bo < base) (hbs : base ≤ W0.heap.size)
  (hN : NIn X (fun b => W0.heap.size ≤ b ∧ b < X.heap.size ∧ some b ≠ v.ownBlock) t [u0, u1, u2, u3, u4, u5]) (hg : X.grownBy W v.ownBlock) (hnew : (Value.slice (some ⟨g, 0, none⟩) (l.length + 1) cap).ownBlock = v.ownBlock ∨ (Value.slice (some ⟨g, 0, none⟩) (l.length + 1) cap).ownBlock = some X.heap.size)
  (ho : ∀ xs, X.ownsRow base 44 6 v l.length xs → W.ownsRow base 44 6 (.slice (some ⟨g, 0, none⟩) (l.length + 1) cap) (l.length + 1) (xs ++ zero6)) :
  PutSt W0 ((put6 W g (l.length * 6) u0 u1 u2 u3 u4 u5).setCell ⟨Bo, 0, none⟩ (.slice (some ⟨g, 0, none⟩) (l.length + 1) cap)) Bo base v0 (.slice (some ⟨g, 0, none⟩) (l.length + 1) cap) (l ++ [t]) ∧
  PutSt W0 (put6 (W.setCell ⟨Bo, 0, none⟩ (.slice (some ⟨g, 0, none⟩) (l.length + 1) cap)) g (l.length * 6) u0 u1 u2 u3 u4 u5) Bo base v0 (.slice (some ⟨g, 0, none⟩) (l.length + 1) cap) (l ++ [t]) := by
 obtain ⟨cs, h1, h2, h3⟩ := h.trees
 have hown := ho _ h2
 have hgb : base ≤ g ∧ g < W.heap.size := hown.lt g rfl
 have hX : W0.heap.size ≤ X.heap.size := h.size
 have hW : X.heap.size ≤ W.heap.size := hg.size
 have hg2 : some g = v.ownBlock ∨ g = X.heap.size := by
  rcases hnew with e | e
  ·exact .inl (by simpa [Value.ownBlock] using e)
  ·exact .inr (by simpa [Value.ownBlock] using e)
 have hT := TreesAt.append h1 h2 h3 (hN.mono (fun b hb => ⟨by omega, hb.2.1, hb.2.2⟩)) hg (fun hne => by rcases hg2 with e | e; exact absurd e hne; omega) hown
 have hboxX : some Bo ≠ v.ownBlock := fun e => by have := (h2.lt Bo e.symm).1; omega
 have hboxW : Boxed W Bo 42 v := (hg.block Bo h.box.lt hboxX).trans h.box
 have hgBo : Bo ≠ g := by omega
 have hkW : ∀ b, b < W0.heap.size → b ≠ Bo → some b ≠ v0.ownBlock → b ≠ g ∧ W.heap[b]? = W0.heap[b]? := fun b b1 b2 b3 => by
  have hbv : some b ≠ v.ownBlock := by
   rcases h.own with e | e
   ·rw [e]; exact b3
   ·intro e2
    have := e b e2.symm
    omega
  refine ⟨?_, (hg.block b (by omega) hbv).trans (h.kept b b1 b2 b3)⟩
  rintro rfl
  rcases hg2 with e | e
  ·exact hbv e
  ·omega
 have hown2 : (Value.slice (some ⟨g, 0, none⟩) (l.length + 1) cap).ownBlock = v0.ownBlock ∨ ∀ k, (Value.slice (some ⟨g, 0, none⟩) (l.length + 1) cap).ownBlock = some k → W0.heap.size ≤ k := by
  rcases hnew with e | e
  ·rw [e]; exact h.own
  ·refine .inr fun k hk => ?_
   rw [e] at hk
   cases hk
   omega
 obtain ⟨Y, hY⟩ : ∃ Y, Y = put6 W g (l.length * 6) u0 u1 u2 u3 u4 u5 := ⟨_, rfl⟩
 have eY := put6_env W g (l.length * 6) u0 u1 u2 u3 u4 u5
 have sY := put6_size W g (l.length * 6) u0 u1 u2 u3 u4 u5
 have oY := fun b hb => put6_other W g (l.length * 6) u0 u1 u2 u3 u4 u5 b hb
 obtain ⟨V, hV⟩ : ∃ V, V = W.setCell ⟨Bo, 0, none⟩ (.slice (some ⟨g, 0, none⟩) (l.length + 1) cap) := ⟨_, rfl⟩
 have eV := setCell_env W ⟨Bo, 0, none⟩ (.slice (some ⟨g, 0, none⟩) (l.length + 1) cap)
 have oV := fun b (hb : b ≠ Bo) => Below.heap_setCell W ⟨Bo, 0, none⟩ (.slice (some ⟨g, 0, none⟩) (l.length + 1) cap) b hb
 have bV : Boxed V Bo 42 (.slice (some ⟨g, 0, none⟩) (l.length + 1) cap) := by rw [hV]; exact hboxW.set _
 rw [← hY] at hT eY sY oY ⊢
 rw [← hV] at eV oV ⊢
 have bY : Boxed Y Bo 42 v := (oY Bo hgBo).trans hboxW
 constructor
 ·have eZ := setCell_env Y ⟨Bo, 0, none⟩ (.slice (some ⟨g, 0, none⟩) (l.length + 1) cap)
  have oZ := fun b (hb : b ≠ Bo) => Below.heap_setCell Y ⟨Bo, 0, none⟩ (.slice (some ⟨g, 0, none⟩) (l.length + 1) cap) b hb
  have bZ := bY.set (.slice (some ⟨g, 0, none⟩) (l.length + 1) cap)
  have tZ := hT.other hBo (.slice (some ⟨g, 0, none⟩) (l.length + 1) cap)
  generalize Y.setCell ⟨Bo, 0, none⟩ (.slice (some ⟨g, 0, none⟩) (l.length + 1) cap) = Z at eZ oZ bZ tZ ⊢
  exact { box := bZ, trees := tZ, kept := fun b b1 b2 b3 => (oZ b b2).trans ((oY b (hkW b b1 b2 b3).1).trans (hkW b b1 b2 b3).2), own := hown2, size := (by rw [eZ.2.2.2, sY]; omega), os := eZ.1.trans (eY.1.trans (hg.os.trans h.os)), tape := eZ.2.1.trans (eY.2.1.trans (hg.tape.trans h.tape)), output := eZ.2.2.1.trans (eY.2.2.trans (hg.output.trans h.output)) }
 ·have eZ := put6_env V g (l.length * 6) u0 u1 u2 u3 u4 u5
  have sZ := put6_size V g (l.length * 6) u0 u1 u2 u3 u4 u5
  have oZ := fun b hb => put6_other V g (l.length * 6) u0 u1 u2 u3 u4 u5 b hb
  have gZ : (put6 V g (l.length * 6) u0 u1 u2 u3 u4 u5).heap[g]? = Y.heap[g]? := by rw [hY]; exact put6_congr (oV g (fun e => hgBo e.symm))
  generalize put6 V g (l.length * 6) u0 u1 u2 u3 u4 u5 = Z at eZ sZ oZ gZ ⊢
  have tZ : TreesAt Z base (.slice (some ⟨g, 0, none⟩) (l.length + 1) cap) (l ++ [t]) := by
   refine hT.agree (fun b hb => ?_) (by rw [sZ, eV.2.2.2, sY]; exact Nat.le_refl _)
   by_cases hbg : b = g
   ·rw [hbg]; exact gZ
   ·rw [oZ b hbg, oY b hbg]; exact oV b (by omega)
  have zZ : W0.heap.size ≤ Z.heap.size := by rw [sZ, eV.2.2.2]; omega
  exact { box := (oZ Bo hgBo).trans bV, trees := tZ, kept := fun b b1 b2 b3 => (oZ b (hkW b b1 b2 b3).1).trans ((oV b b2).trans (hkW b b1 b2 b3).2), own := hown2, size := zZ, os := eZ.1.trans (eV.1.trans (hg.os.trans h.os)), tape := eZ.2.1.trans (eV.2.1.trans (hg.tape.trans h.tape)), output := eZ.2.2.trans (eV.2.2.1.trans (hg.output.trans h.output)) }
end Go.Proofs.Ytamhkdlcoghdbaa.PCls
/- Out of TTwo (wip/tools/prune2.py): the declarations alone that the texts of the trees name. -/
namespace Go.Proofs.Ytamhkdlcoghdbaa.PCls
open Go.RowKit Go.Proofs.YtamhkdlcoghdbaaW.PrintWords Go.Proofs.YtamhkdlcoghdbaaW.PrintLast Go.Proofs.YtamhkdlcoghdbaaW.PrintMore
set_option linter.unusedVariables false
set_option linter.unusedSimpArgs false
theorem own_unique {w : World} {base : Nat} {e : TypeId} {size n : Nat} {v : Value} {xs ys : List Value} (h : w.ownsRow base e size v n xs) (h' : w.ownsRow base e size v n ys) : xs = ys := by
 rcases h.2 with ⟨e1, h0⟩ | ⟨g, cap, cur, e1, _, hh, _, _, _, htk⟩
 ·have l1 := h.1
  have l2 := h'.1
  rw [h0, Nat.zero_mul] at l1 l2
  rw [List.length_eq_zero_iff.1 l1, List.length_eq_zero_iff.1 l2]
 ·rcases h'.2 with ⟨e2, _⟩ | ⟨g', cap', cur', e2, _, hh', _, _, _, htk'⟩
  ·rw [e1] at e2; cases e2
  ·rw [e1] at e2
   simp only [Value.slice.injEq, Option.some.injEq, Addr.mk.injEq, and_true, true_and] at e2
   obtain ⟨rfl, rfl⟩ := e2
   rw [hh] at hh'
   cases hh'
   rw [← htk, ← htk']
theorem appended_ {P : Program} {ops : Array Oper} {Q : Exit → Act → World → Prop} {oi : Oper} {N : Option Tmp} {a : Act} {w w1 : World} {v u v' : Value} {K : Act → World → Prop} (s x : Operand) (t : TypeId)
  (hop : oi.op = .call { callee := .builtin .append, args := #[s, x], argTypes := #[t, t] }) (hw : Region.wanted oi (yielded ops a.tmps) = true) (hN : oi.dst = N) (hs : a.eval s = v) (hx : a.eval x = u)
  (hr : (Builtin.append_ #[t, t] oi.type #[v, u]).run P w = .ok v' w1) (h : K (a.put N v') w1) : if Region.wanted oi (yielded ops a.tmps) = true then Oper.wp P oi a w K Q else K (a.put N undef) w := by
 refine value_ hw hN ?_ h
 unfold execOp
 simp only [hop, resolve, invoke, builtin, Sem.run_bind, Sem.run_pure, Result.andThen_ok, List.map_toArray, List.map_cons, List.map_nil, hs, hx, hr]
theorem two_ {P : Program} {md : Region.Mode} {ops : Array Oper} {Q : Exit → Act → World → Prop} {S : World → Prop} {ds : List Nat} {T : Bool × List (List Nat × List Nat)} {i j : Nat} {Ni Nj : Option Tmp} {oi oj : Oper} {fuel : Nat} {l : Array Bool} {a : Act} {w : World} (li lj : Array Bool)
  (hi : ops[i]? = some oi) (hj : ops[j]? = some oj) (hNi : oi.dst = Ni) (hNj : oj.dst = Nj) (hT : rtab md ops = T) (hc : (readyT T.2 l.toList == [i, j] && l.toList.set i true == li.toList && l.toList.set j true == lj.toList) = true) (hdi : i ∉ ds) (hdj : j ∉ ds)
  (h1 : ∀ K : Act → World → Prop, Shut (∀ a' w', S w' → (S w' → wpAnyLast P md ops Q S ds fuel li a' w') → K a' w') → if Region.wanted oi (yielded ops a.tmps) = true then Oper.wp P oi a w K Q else K (a.put Ni undef) w)
  (h2 : ∀ K : Act → World → Prop, Shut (∀ a' w', S w' → (S w' → wpAnyLast P md ops Q S ds fuel lj a' w') → K a' w') → if Region.wanted oj (yielded ops a.tmps) = true then Oper.wp P oj a w K Q else K (a.put Nj undef) w) :
  wpAnyLast P md ops Q S ds (fuel + 1) l a w := by
 subst hNi
 subst hNj
 simp only [Bool.and_eq_true] at hc
 obtain ⟨⟨c1, c2⟩, c3⟩ := hc
 have e2 := set_of c2
 have e3 := set_of c3
 rw [beq_iff_eq] at c1 e2 e3
 subst e2 e3
 subst hT
 have hr : Region.ready md ops l = [i, j] := by
  have := ready_eq (md := md) (ops := ops) (l := l)
  rw [this]
  exact c1
 exact wpAnyLast_ready hr (by simp) (AllReadyL.cons hi hdi (fun K hK => h1 K hK) (AllReadyL.cons hj hdj (fun K hK => h2 K hK) AllReadyL.nil))
theorem lasts_ {P : Program} {md : Region.Mode} {ops : Array Oper} {Q : Exit → Act → World → Prop} {S : World → Prop} {ds : List Nat} {T : Bool × List (List Nat × List Nat)} {i j : Nat} {Ni Nj : Option Tmp} {oi oj : Oper} {fuel : Nat} {l : Array Bool} {a : Act} {w : World} (li lj : Array Bool)
  (hi : ops[i]? = some oi) (hj : ops[j]? = some oj) (hNi : oi.dst = Ni) (hNj : oj.dst = Nj) (hT : rtab md ops = T) (hc : (readyT T.2 l.toList == [i, j] && l.toList.set i true == li.toList && l.toList.set j true == lj.toList) = true) (hdi : i ∈ ds) (hdj : j ∈ ds)
  (h1 : ∀ K : Act → World → Prop, Shut (∀ a' w', wpAnyLast P md ops Q S ds fuel li a' w' → K a' w') → if Region.wanted oi (yielded ops a.tmps) = true then Oper.wp P oi a w K Q else K (a.put Ni undef) w)
  (h2 : ∀ K : Act → World → Prop, Shut (∀ a' w', wpAnyLast P md ops Q S ds fuel lj a' w' → K a' w') → if Region.wanted oj (yielded ops a.tmps) = true then Oper.wp P oj a w K Q else K (a.put Nj undef) w) :
  wpAnyLast P md ops Q S ds (fuel + 1) l a w := by
 subst hNi
 subst hNj
 simp only [Bool.and_eq_true] at hc
 obtain ⟨⟨c1, c2⟩, c3⟩ := hc
 have e2 := set_of c2
 have e3 := set_of c3
 rw [beq_iff_eq] at c1 e2 e3
 subst e2 e3
 subst hT
 have hr : Region.ready md ops l = [i, j] := by
  have := ready_eq (md := md) (ops := ops) (l := l)
  rw [this]
  exact c1
 exact wpAnyLast_ready hr (by simp) (AllReadyL.cons_last hi hdi (fun K hK => h1 K hK) (AllReadyL.cons_last hj hdj (fun K hK => h2 K hK) AllReadyL.nil))
end Go.Proofs.Ytamhkdlcoghdbaa.PCls
/- Out of TLay0 (wip/tools/prune2.py): the declarations alone that the texts of the trees name. -/
namespace Go.Proofs.Ytamhkdlcoghdbaa.PCls
open Go.RowKit Go.Proofs.YtamhkdlcoghdbaaW.PrintWords Go.Proofs.YtamhkdlcoghdbaaW.PrintLast Go.Proofs.YtamhkdlcoghdbaaW.PrintMore
set_option linter.unusedVariables false
set_option linter.unusedSimpArgs false
mutual
/-- the places of a tree behind n places, as long as there are not more than most; with each, where what is within it ends -/
def layN (most : Nat) : NT → Int → Int → Bool → Bool → Bool → Nat → List (Step × Nat)
 | .mk k m lo hi r kids, d, a, f, l, b, n => if most ≤ n then [] else (⟨.mk k m lo hi r kids, d, a, f, l, b⟩, n + 1 + (layL most kids (d + 1) k kids.length 0 (branchOf k b) (n + 1)).length) :: layL most kids (d + 1) k kids.length 0 (branchOf k b) (n + 1)
def layL (most : Nat) : List NT → Int → Int → Nat → Nat → Bool → Nat → List (Step × Nat)
 | [], _, _, _, _, _, _ => []
 | t :: ts, d, a, c, i, b, n => layN most t d a (decide (i = 0)) (decide (i + 1 = c)) b n ++ layL most ts d a c (i + 1) b (n + (layN most t d a (decide (i = 0)) (decide (i + 1 = c)) b n).length)
end
def layS (most : Nat) (s : Step) (n : Nat) : List (Step × Nat) := layN most s.n s.deep s.around s.first s.last s.branch n
def layK (most : Nat) (s : Step) (i n : Nat) : List (Step × Nat) := layL most (s.n.kids.drop i) (s.deep + 1) s.n.k s.n.kids.length i (branchOf s.n.k s.branch) n
theorem layS_full (most : Nat) (s : Step) (n : Nat) (h : most ≤ n) : layS most s n = [] := by
 obtain ⟨⟨k, m, lo, hi, r, kids⟩, d, a, f, l, b⟩ := s
 simp only [layS, layN]; rw [if_pos h]
theorem layS_some (most : Nat) (s : Step) (n : Nat) (h : n < most) : layS most s n = (s, n + 1 + (layK most s 0 (n + 1)).length) :: layK most s 0 (n + 1) := by
 obtain ⟨⟨k, m, lo, hi, r, kids⟩, d, a, f, l, b⟩ := s
 simp only [layS, layN, layK, NT.k, NT.kids, List.drop_zero]; rw [if_neg (by omega)]
theorem layK_end (most : Nat) (s : Step) (i n : Nat) (h : s.n.kids.length ≤ i) : layK most s i n = [] := by
 unfold layK; rw [List.drop_eq_nil_of_le h]; rfl
theorem layK_next (most : Nat) (s : Step) (i n : Nat) (t : NT) (h : s.n.kids[i]? = some t) : layK most s i n = layS most (s.kid i t) n ++ layK most s (i + 1) (n + (layS most (s.kid i t) n).length) := by
 obtain ⟨hi, e⟩ := List.getElem?_eq_some_iff.1 h
 unfold layK
 rw [List.drop_eq_getElem_cons hi, e]
 rfl
theorem layK_full (most : Nat) (s : Step) (n : Nat) (h : most ≤ n) : ∀ (q i : Nat), s.n.kids.length = i + q → layK most s i n = [] := by
 intro q
 induction q with
 | zero => intro i hi; exact layK_end most s i n (by omega)
 | succ q ih =>
  intro i hi
  rw [layK_next most s i n _ (List.getElem?_eq_getElem (by omega)), layS_full most _ n h]
  simp only [List.length_nil, Nat.add_zero, List.nil_append]
  exact ih (i + 1) (by omega)
/-- the first places are the first comings -/
theorem layN_fst (most : Nat) : ∀ (t : NT) (d a : Int) (f l b : Bool) (n : Nat), (layN most t d a f l b n).map Prod.fst = (enters (evs t d a f l b)).take (most - n) := by
 have hL : ∀ ts : List NT, (∀ t, t ∈ ts → ∀ (d a : Int) (f l b : Bool) (n : Nat), (layN most t d a f l b n).map Prod.fst = (enters (evs t d a f l b)).take (most - n)) → ∀ (d a : Int) (c i : Nat) (b : Bool) (n : Nat), (layL most ts d a c i b n).map Prod.fst = (enters (evsL ts d a c i b)).take (most - n) := by
  intro ts
  induction ts with
  | nil => intro _ d a c i b n; simp [layL, evsL, enters]
  | cons x ts ih =>
   intro h d a c i b n
   have h1 := h x List.mem_cons_self d a (decide (i = 0)) (decide (i + 1 = c)) b n
   have hl := congrArg List.length h1
   simp only [List.length_map, List.length_take] at hl
   simp only [layL, evsL, enters_append, List.map_append]
   rw [h1, ih (fun t ht => h t (List.mem_cons_of_mem _ ht)), List.take_append, hl]
   congr 2
   omega
 refine fun t => NT.ind (P := fun t => ∀ (d a : Int) (f l b : Bool) (n : Nat), (layN most t d a f l b n).map Prod.fst = (enters (evs t d a f l b)).take (most - n)) (fun k m lo hi r kids ih d a f l b n => ?_) t
 simp only [layN, evs]
 by_cases h : most ≤ n
 ·rw [if_pos h, show most - n = 0 by omega]; simp
 ·rw [if_neg h]
  simp only [enters, enters_append, List.append_nil, List.map_cons]
  rw [hL kids ih, show most - n = (most - (n + 1)) + 1 by omega, List.take_succ_cons]
theorem layS_fst (most : Nat) (s : Step) (n : Nat) : (layS most s n).map Prod.fst = (enters s.evs).take (most - n) := layN_fst most _ _ _ _ _ _ n
theorem layS_length (most : Nat) (s : Step) (n : Nat) : (layS most s n).length = min (most - n) s.n.nodes := by
 have := congrArg List.length (layS_fst most s n)
 simp only [List.length_map, List.length_take, Step.evs, enters_length] at this
 exact this
/-- a place: the node on the walk, where what is within it ends, the node's cells -/
structure Pl where
 s : Step
 en : Nat
 cs : List Value
def Pl.two (p : Pl) : Step × Nat := (p.s, p.en)
def tailC (s : Step) (en : Nat) : List Value := [.int .i64 s.deep, .int .i64 s.around, .bool s.first, .bool s.last, .bool s.branch, .int .i64 en]
def Pl.cells (p : Pl) : List Value := p.cs ++ tailC p.s p.en
def rowP (L : List Pl) : List Value := L.flatMap Pl.cells
/-- a slice that owns a row of places; their nodes' kids and ranges lie below n0 -/
structure Plc (W : World) (base n0 : Nat) (v : Value) (L : List Pl) : Prop where
 own : W.ownsRow base 88 12 v L.length (rowP L)
 nin : ∀ p, p ∈ L → NIn W (· < n0) p.s.n p.cs
theorem Plc.len {W : World} {base n0 : Nat} {v : Value} {L : List Pl} (h : Plc W base n0 v L) (p : Pl) (hp : p ∈ L) : p.cells.length = 12 := by
 have := (h.nin p hp).len
 simp only [Pl.cells, List.length_append, this, tailC, List.length_cons, List.length_nil]
theorem rowP_length (L : List Pl) (h : ∀ p, p ∈ L → p.cells.length = 12) : (rowP L).length = L.length * 12 := by
 induction L with
 | nil => rfl
 | cons p L ih =>
  have h1 := h p List.mem_cons_self
  have h2 := ih (fun q hq => h q (List.mem_cons_of_mem _ hq))
  simp only [rowP, List.flatMap_cons, List.length_append, List.length_cons] at *
  omega
theorem rowP_append (A B : List Pl) : rowP (A ++ B) = rowP A ++ rowP B := by simp only [rowP, List.flatMap_append]
theorem rowP_at {L : List Pl} (h : ∀ p, p ∈ L → p.cells.length = 12) {j : Nat} {p : Pl} (hj : L[j]? = some p) {i : Nat} (hi : i < 12) : (rowP L)[j * 12 + i]? = p.cells[i]? := by
 induction L generalizing j with
 | nil => simp at hj
 | cons q L ih =>
  have hq := h q List.mem_cons_self
  have ih' := fun j hj => @ih (fun q hq => h q (List.mem_cons_of_mem _ hq)) j hj
  simp only [rowP, List.flatMap_cons]
  cases j with
  | zero =>
   simp only [List.getElem?_cons_zero, Option.some.injEq] at hj
   subst hj
   rw [Nat.zero_mul, Nat.zero_add, List.getElem?_append_left (by omega)]
  | succ j =>
   simp only [List.getElem?_cons_succ] at hj
   rw [List.getElem?_append_right (by omega), hq, show (j + 1) * 12 + i - 12 = j * 12 + i by omega]
   exact ih' _ hj
theorem Plc.nil (W : World) (base n0 : Nat) : Plc W base n0 (.slice none 0 0) [] := ⟨⟨rfl, .inl ⟨rfl, rfl⟩⟩, fun p h => by cases h⟩
theorem Plc.form {W : World} {base n0 : Nat} {v : Value} {L : List Pl} (h : Plc W base n0 v L) : ∃ a c, v = .slice a L.length c ∧ L.length ≤ c := by
 rcases h.own.2 with ⟨e, e0⟩ | ⟨g, cap, cur, e, _, _, hcl, _⟩
 ·exact ⟨none, 0, by rw [e, e0], by omega⟩
 ·exact ⟨_, _, e, hcl⟩
/-- what is written elsewhere -/
theorem Plc.kept {A B : World} {base n0 : Nat} {v : Value} {L : List Pl} (h : Plc A base n0 v L) (hb : ∀ b, (b < n0 ∨ v.ownBlock = some b) → B.heap[b]? = A.heap[b]?) : Plc B base n0 v L :=
 ⟨own_move h.own (fun k hk => hb k (.inr hk)), fun p hp => (h.nin p hp).move (fun b hb' => hb b (.inl hb'))⟩
theorem Plc.below {A B : World} {base n0 : Nat} {v : Value} {L : List Pl} (h : Plc A base n0 v L) (hn : n0 ≤ A.heap.size) (hb : Below A.heap.size A B) : Plc B base n0 v L :=
 h.kept (fun b hb' => hb.block b (by rcases hb' with h1 | h1; omega; exact (h.own.lt b h1).2))
theorem info88 : (Try.prog.info? 88).map (fun i => (i.zero, i.size, i.bytes)) = some (some (.agg #[.int .i64 0, .int .i64 0, .int .i64 0, .int .i64 0, .slice none 0 0, .slice none 0 0, .int .i64 0, .int .i64 0, .bool false, .bool false, .bool false, .int .i64 0]), 12, 112) := by kernel_rfl
/-- one place more -/
theorem Plc.append {X : World} {base n0 : Nat} {v : Value} {L : List Pl} (h : Plc X base n0 v L) (hn : n0 ≤ base) (hbase : base ≤ X.heap.size) (hlen : L.length < 549755813888) (ad : Addr) (c : Nat) (p : Pl) (hp : NIn X (· < n0) p.s.n p.cs)
  (hc : ∀ i u, p.cells[i]? = some u → X.cell? (ad.add i) = some u) :
  ∃ v' W, (Builtin.append_ #[59, 59] 59 #[v, .slice (some ad) 1 c]).run Try.prog X = .ok v' W ∧ Plc W base n0 v' (L ++ [p]) ∧ X.grownBy W v.ownBlock ∧ (v'.ownBlock = v.ownBlock ∨ v'.ownBlock = some X.heap.size) := by
 obtain ⟨i0, hi, hz0, hz1, hz2⟩ := info_parts info88
 have h12 : p.cells.length = 12 := by simp only [Pl.cells, List.length_append, hp.len, tailC, List.length_cons, List.length_nil]
 have hone : ∀ u, u ∈ p.cells → u.oneCell' = true := fun u hu => by
  simp only [Pl.cells, List.mem_append] at hu
  rcases hu with hu | hu
  ·exact hp.one u hu
  ·simp only [tailC, List.mem_cons, List.not_mem_nil, or_false] at hu
   rcases hu with rfl | rfl | rfl | rfl | rfl | rfl <;> rfl
 obtain ⟨v', W, hrun, hown, hgrow, hnil, hat⟩ := run_append_own_at X base 59 59 88 i0 _ 12 112 Try.underlying59 hi hz0 hz1 hz2 rfl (by decide) v L.length (rowP L) h.own ad 1 c p.cells (by omega) hc hone (by unfold maxLen; omega) (by omega) hbase
 have hmv : ∀ b, b < n0 → W.heap[b]? = X.heap[b]? := fun b hb => hgrow.block b (by omega) (fun e => by have := (h.own.lt b e.symm).1; omega)
 refine ⟨v', W, hrun, ⟨?_, fun q hq => ?_⟩, hgrow, hat⟩
 ·rw [rowP_append, List.length_append]
  simpa [rowP] using hown
 ·rcases List.mem_append.1 hq with hq | hq
  ·exact (h.nin q hq).move hmv
  ·simp only [List.mem_cons, List.not_mem_nil, or_false] at hq
   subst hq
   exact hp.move hmv
/-- where a place's end is told -/
theorem Plc.stored {W : World} {base n0 g cap : Nat} {A B : List Pl} {p : Pl} (hn : n0 ≤ base) (h : Plc W base n0 (.slice (some ⟨g, 0, none⟩) (A ++ p :: B).length cap) (A ++ p :: B)) (en : Nat) :
  Plc (W.setCell ⟨g, A.length * 12 + 11, none⟩ (.int .i64 en)) base n0 (.slice (some ⟨g, 0, none⟩) (A ++ p :: B).length cap) (A ++ ⟨p.s, en, p.cs⟩ :: B) := by
 have hst := (h.own.stored (A.length * 12 + 11) (.int .i64 en)).1
 have hl := rowP_length A (fun q hq => h.len q (by simp [hq]))
 have hgb := (h.own.lt g rfl).1
 have hc := (h.nin p (by simp)).len
 refine ⟨?_, fun q hq => ?_⟩
 ·have e : (rowP (A ++ p :: B)).set (A.length * 12 + 11) (.int .i64 en) = rowP (A ++ ⟨p.s, en, p.cs⟩ :: B) := by
   rw [rowP_append, rowP_append]
   simp only [rowP, List.flatMap_cons]
   rw [show A.flatMap Pl.cells = rowP A from rfl, List.set_append_right _ _ (by omega), hl, show A.length * 12 + 11 - A.length * 12 = 11 by omega]
   congr 1
   rw [List.set_append_left _ _ (by simp [Pl.cells, hc, tailC])]
   congr 1
   simp only [Pl.cells]
   rw [List.set_append_right _ _ (by omega), hc]
   rfl
  rw [e] at hst
  simpa using hst
 ·have hq' : ∃ q', q' ∈ A ++ p :: B ∧ q'.s = q.s ∧ q'.cs = q.cs := by
   rcases List.mem_append.1 hq with hq | hq
   ·exact ⟨q, by simp [hq], rfl, rfl⟩
   ·rcases List.mem_cons.1 hq with rfl | hq
    ·exact ⟨p, by simp, rfl, rfl⟩
    ·exact ⟨q, by simp [hq], rfl, rfl⟩
  obtain ⟨q', h1, h2, h3⟩ := hq'
  have := h.nin q' h1
  rw [h2, h3] at this
  exact this.move (fun b hb => Below.heap_setCell W ⟨g, A.length * 12 + 11, none⟩ _ b (by simp only; omega))
end Go.Proofs.Ytamhkdlcoghdbaa.PCls
