/- Put together (wip/tools/pack.py): QTOut, QTTwo. -/
import Derived.Test.YtamhkdlcoghdbaaGreatDoorVQTTwin
/- Out of TOut (wip/tools/prune2.py): the declarations alone that the texts of the trees name. -/
namespace Go.Proofs.YtamhkdlcoghdbaaGreatDoor.PCls
open Go.RowKit Go.Proofs.YtamhkdlcoghdbaaGreatDoorW.PrintWords Go.Proofs.YtamhkdlcoghdbaaGreatDoorW.PrintLast Go.Proofs.YtamhkdlcoghdbaaGreatDoorW.PrintMore
set_option linter.unusedVariables false
set_option linter.unusedSimpArgs false
/-- a slice that owns a row of trees; what is behind them lies from base on, in no row of the slice's -/
def TreesAt (W : World) (base : Nat) (v : Value) (l : List NT) : Prop :=
 ∃ cs : Nat → List Value, (∀ i, i < l.length → (cs i).length = 6) ∧ W.ownsRow base 43 6 v l.length (flat6 cs l.length) ∧ ∀ i t, l[i]? = some t → NIn W (fun b => base ≤ b ∧ b < W.heap.size ∧ some b ≠ v.ownBlock) t (cs i)
theorem TreesAt.nil (W : World) (base : Nat) : TreesAt W base (.slice none 0 0) [] := ⟨fun _ => [], fun i h => by simp at h, ⟨rfl, .inl ⟨rfl, rfl⟩⟩, fun i t h => by simp at h⟩
theorem TreesAt.below {A B : World} {base : Nat} {v : Value} {l : List NT} (h : TreesAt A base v l) (hb : Below A.heap.size A B) : TreesAt B base v l := by
 obtain ⟨cs, h1, h2, h3⟩ := h
 exact ⟨cs, h1, own_move h2 (fun k hk => hb.block k (h2.lt k hk).2), fun i t ht => ((h3 i t ht).move (fun b hb' => hb.block b hb'.2.1)).mono (fun b hb' => ⟨hb'.1, Nat.lt_of_lt_of_le hb'.2.1 hb.size, hb'.2.2⟩)⟩
/-- a block that is neither the row nor behind it may be written -/
theorem TreesAt.other {A : World} {base : Nat} {v : Value} {l : List NT} (h : TreesAt A base v l) {c : Nat} (hc : c < base) (u : Value) : TreesAt (A.setCell ⟨c, 0, none⟩ u) base v l := by
 obtain ⟨cs, h1, h2, h3⟩ := h
 exact ⟨cs, h1, own_move h2 (fun k hk => Below.heap_setCell A ⟨c, 0, none⟩ u k (by have := (h2.lt k hk).1; simp only; omega)), fun i t ht => ((h3 i t ht).move (fun b hb' => Below.heap_setCell A ⟨c, 0, none⟩ u b (by simp only; omega))).mono (fun b hb' => ⟨hb'.1, by simpa [World.setCell] using hb'.2.1, hb'.2.2⟩)⟩
def zero6 : List Value := [.int .i64 0, .int .i64 0, .int .i64 0, .int .i64 0, .slice none 0 0, .slice none 0 0]
theorem flat6_congr {cs cs' : Nat → List Value} : ∀ n, (∀ i, i < n → cs i = cs' i) → flat6 cs n = flat6 cs' n
 | 0, _ => rfl
 | n + 1, h => by
  simp only [flat6]
  rw [flat6_congr n (fun i hi => h i (by omega)), h n (by omega)]
theorem put6_take (cur : Array Value) (n : Nat) (F : List Value) (v0 v1 v2 v3 v4 v5 : Value) (hF : F.length = n * 6) (hs : (n + 1) * 6 ≤ cur.size) (h : cur.toList.take ((n + 1) * 6) = F ++ zero6) :
  ((((((cur.setIfInBounds (n * 6) v0).setIfInBounds (n * 6 + 1) v1).setIfInBounds (n * 6 + 2) v2).setIfInBounds (n * 6 + 3) v3).setIfInBounds (n * 6 + 4) v4).setIfInBounds (n * 6 + 5) v5).toList.take ((n + 1) * 6) = F ++ [v0, v1, v2, v3, v4, v5] := by
 apply List.ext_getElem?
 intro i
 have hi0 := congrArg (fun l : List Value => l[i]?) h
 simp only [List.getElem?_take, Array.getElem?_toList] at hi0 ⊢
 by_cases hi : i < (n + 1) * 6
 ·rw [if_pos hi] at hi0 ⊢
  simp only [Array.getElem?_setIfInBounds, Array.size_setIfInBounds]
  rcases Nat.lt_or_ge i (n * 6) with hlt | hge
  ·rw [if_neg (by omega), if_neg (by omega), if_neg (by omega), if_neg (by omega), if_neg (by omega), if_neg (by omega), hi0, List.getElem?_append_left (by omega), List.getElem?_append_left (by omega)]
  ·rw [List.getElem?_append_right (by omega), hF]
   obtain ⟨q, hq⟩ : ∃ q, i = n * 6 + q := ⟨i - n * 6, by omega⟩
   subst hq
   rw [show n * 6 + q - n * 6 = q by omega]
   match q, hi with
   | 0, _ => simp; omega
   | 1, _ => simp; omega
   | 2, _ => simp; omega
   | 3, _ => simp; omega
   | 4, _ => simp; omega
   | 5, _ => simp; omega
   | q + 6, hi => omega
 ·rw [if_neg hi, List.getElem?_eq_none (by simp [hF]; omega)]
def putAt (cs : Nat → List Value) (n : Nat) (c : List Value) : Nat → List Value := fun i => if i = n then c else cs i
theorem putAt_same (cs : Nat → List Value) (n : Nat) (c : List Value) : putAt cs n c n = c := if_pos rfl
theorem putAt_ne (cs : Nat → List Value) (c : List Value) {n i : Nat} (h : i ≠ n) : putAt cs n c i = cs i := if_neg h
/-- one tree more: behind the append the last place is zero; the tree's cells are stored there -/
theorem TreesAt.append {X W : World} {base : Nat} {v : Value} {l : List NT} {g cap : Nat} {t : NT} {v0 v1 v2 v3 v4 v5 : Value} {cs : Nat → List Value}
  (h1 : ∀ i, i < l.length → (cs i).length = 6) (h2 : X.ownsRow base 43 6 v l.length (flat6 cs l.length)) (h3 : ∀ i t, l[i]? = some t → NIn X (fun b => base ≤ b ∧ b < X.heap.size ∧ some b ≠ v.ownBlock) t (cs i))
  (hN : NIn X (fun b => base ≤ b ∧ b < X.heap.size ∧ some b ≠ v.ownBlock) t [v0, v1, v2, v3, v4, v5]) (hg : X.grownBy W v.ownBlock) (hnew : some g ≠ v.ownBlock → X.heap.size ≤ g)
  (ho : W.ownsRow base 43 6 (.slice (some ⟨g, 0, none⟩) (l.length + 1) cap) (l.length + 1) (flat6 cs l.length ++ zero6)) :
  TreesAt (put6 W g (l.length * 6) v0 v1 v2 v3 v4 v5) base (.slice (some ⟨g, 0, none⟩) (l.length + 1) cap) (l ++ [t]) := by
 have hfl := flat6_length cs l.length h1
 have hne : ∀ b, b < X.heap.size → some b ≠ v.ownBlock → b ≠ g := by
  intro b hb h e
  subst e
  have := hnew h
  omega
 have hmv : ∀ b, b < X.heap.size → some b ≠ v.ownBlock → (put6 W g (l.length * 6) v0 v1 v2 v3 v4 v5).heap[b]? = X.heap[b]? := fun b hb h => (put6_other _ _ _ _ _ _ _ _ _ b (hne b hb h)).trans (hg.block b hb h)
 have hsz := hg.size
 have hP : ∀ {t : NT} {c : List Value}, NIn X (fun b => base ≤ b ∧ b < X.heap.size ∧ some b ≠ v.ownBlock) t c → NIn (put6 W g (l.length * 6) v0 v1 v2 v3 v4 v5) (fun b => base ≤ b ∧ b < (put6 W g (l.length * 6) v0 v1 v2 v3 v4 v5).heap.size ∧ some b ≠ (Value.slice (some ⟨g, 0, none⟩) (l.length + 1) cap).ownBlock) t c := fun hn =>
  (hn.move (fun b hb => hmv b hb.2.1 hb.2.2)).mono (fun b hb => ⟨hb.1, by rw [put6_size]; omega, fun e => hne b hb.2.1 hb.2.2 (by simpa [Value.ownBlock] using e)⟩)
 rcases ho.2 with ⟨e, _⟩ | ⟨g', cap', cur, e, hgb, hh, hcl, hcm, hcs, htk⟩
 ·cases e
 simp only [Value.slice.injEq, Option.some.injEq, Addr.mk.injEq, and_true, true_and] at e
 obtain ⟨rfl, rfl⟩ := e
 have hl6 : ∀ i, i < (l ++ [t]).length → (putAt cs l.length [v0, v1, v2, v3, v4, v5] i).length = 6 := fun i hi => by
  by_cases hij : i = l.length
  ·rw [hij, putAt_same]; rfl
  ·rw [putAt_ne _ _ hij]
   simp at hi
   exact h1 i (by omega)
 refine ⟨putAt cs l.length [v0, v1, v2, v3, v4, v5], hl6, ⟨flat6_length _ _ hl6, .inr ⟨g, cap, _, by simp, hgb, set_row (set_row (set_row (set_row (set_row (set_row hh _ _) _ _) _ _) _ _) _ _) _ _, by simpa using hcl, hcm, by simpa using hcs, ?_⟩⟩, fun i t' ht' => ?_⟩
 ·have e1 : flat6 (putAt cs l.length [v0, v1, v2, v3, v4, v5]) (l ++ [t]).length = flat6 cs l.length ++ [v0, v1, v2, v3, v4, v5] := by
   rw [show (l ++ [t]).length = l.length + 1 by simp]
   simp only [flat6]
   rw [putAt_same, flat6_congr l.length (fun i hi => putAt_ne cs _ (by omega))]
  rw [e1, show (l ++ [t]).length = l.length + 1 by simp]
  exact put6_take cur l.length (flat6 cs l.length) v0 v1 v2 v3 v4 v5 hfl (by rw [hcs]; exact Nat.mul_le_mul_right 6 hcl) htk
 ·by_cases hij : i = l.length
  ·subst hij
   rw [putAt_same]
   simp at ht'
   subst ht'
   exact hP hN
  ·rw [putAt_ne _ _ hij]
   have hlt := (List.getElem?_eq_some_iff.1 ht').1
   simp at hlt
   rw [List.getElem?_append_left (by omega)] at ht'
   exact hP (h3 i t' ht')
theorem TreesAt.agree {A B : World} {base : Nat} {v : Value} {l : List NT} (h : TreesAt A base v l) (hb : ∀ b, base ≤ b → B.heap[b]? = A.heap[b]?) (hs : A.heap.size ≤ B.heap.size) : TreesAt B base v l := by
 obtain ⟨cs, h1, h2, h3⟩ := h
 exact ⟨cs, h1, own_move h2 (fun k hk => hb k (h2.lt k hk).1), fun i t ht => ((h3 i t ht).move (fun b hb' => hb b hb'.1)).mono (fun b hb' => ⟨hb'.1, Nat.lt_of_lt_of_le hb'.2.1 hs, hb'.2.2⟩)⟩
theorem put6_congr {A B : World} {g o : Nat} {v0 v1 v2 v3 v4 v5 : Value} (h : A.heap[g]? = B.heap[g]?) : (put6 A g o v0 v1 v2 v3 v4 v5).heap[g]? = (put6 B g o v0 v1 v2 v3 v4 v5).heap[g]? := by
 simp only [put6, World.setCell, Array.getElem?_modify, h]
theorem setCell_env (A : World) (p : Addr) (u : Value) : (A.setCell p u).os = A.os ∧ (A.setCell p u).tape = A.tape ∧ (A.setCell p u).output = A.output ∧ (A.setCell p u).heap.size = A.heap.size := ⟨rfl, rfl, rfl, by simp [World.setCell]⟩
theorem put6_env (A : World) (g o : Nat) (v0 v1 v2 v3 v4 v5 : Value) : (put6 A g o v0 v1 v2 v3 v4 v5).os = A.os ∧ (put6 A g o v0 v1 v2 v3 v4 v5).tape = A.tape ∧ (put6 A g o v0 v1 v2 v3 v4 v5).output = A.output := by
 unfold put6
 have h := fun (A : World) (p : Addr) (u : Value) => setCell_env A p u
 refine ⟨?_, ?_, ?_⟩
 ·rw [(h _ _ _).1, (h _ _ _).1, (h _ _ _).1, (h _ _ _).1, (h _ _ _).1, (h _ _ _).1]
 ·rw [(h _ _ _).2.1, (h _ _ _).2.1, (h _ _ _).2.1, (h _ _ _).2.1, (h _ _ _).2.1, (h _ _ _).2.1]
 ·rw [(h _ _ _).2.2.1, (h _ _ _).2.2.1, (h _ _ _).2.2.1, (h _ _ _).2.2.1, (h _ _ _).2.2.1, (h _ _ _).2.2.1]
/-- between two rounds of what puts trees into a box: the box Bo lies below base -/
structure PutSt (W0 wr : World) (Bo base : Nat) (v0 v : Value) (l : List NT) : Prop where
 box : Boxed wr Bo 41 v
 trees : TreesAt wr base v l
 kept : ∀ b, b < W0.heap.size → b ≠ Bo → some b ≠ v0.ownBlock → wr.heap[b]? = W0.heap[b]?
 own : v.ownBlock = v0.ownBlock ∨ ∀ k, v.ownBlock = some k → W0.heap.size ≤ k
 size : W0.heap.size ≤ wr.heap.size
 os : wr.os = W0.os
 tape : wr.tape = W0.tape
 output : wr.output = W0.output
theorem PutSt.below {W0 A B : World} {Bo base : Nat} {v0 v : Value} {l : List NT} (h : PutSt W0 A Bo base v0 v l) (hb : Below A.heap.size A B) : PutSt W0 B Bo base v0 v l :=
 ⟨boxed_keep h.box hb, h.trees.below hb, fun b h1 h2 h3 => (hb.block b (Nat.lt_of_lt_of_le h1 h.size)).trans (h.kept b h1 h2 h3), h.own, Nat.le_trans h.size hb.size, hb.os.trans h.os, hb.tape.trans h.tape, hb.output.trans h.output⟩
set_option maxHeartbeats 2000000 in
/-- an append, and the tree's cells and the box stored, in the one order or the other -/
theorem PutSt.step {W0 X W : World} {Bo base : Nat} {v0 v : Value} {l : List NT} {g cap : Nat} {t : NT} {u0 u1 u2 u3 u4 u5 : Value} (h : PutSt W0 X Bo base v0 v l) (hBo : Bo < base) (hbs : base ≤ W0.heap.size)
  (hN : NIn X (fun b => W0.heap.size ≤ b ∧ b < X.heap.size ∧ some b ≠ v.ownBlock) t [u0, u1, u2, u3, u4, u5]) (hg : X.grownBy W v.ownBlock) (hnew : (Value.slice (some ⟨g, 0, none⟩) (l.length + 1) cap).ownBlock = v.ownBlock ∨ (Value.slice (some ⟨g, 0, none⟩) (l.length + 1) cap).ownBlock = some X.heap.size)
  (ho : ∀ xs, X.ownsRow base 43 6 v l.length xs → W.ownsRow base 43 6 (.slice (some ⟨g, 0, none⟩) (l.length + 1) cap) (l.length + 1) (xs ++ zero6)) :
  PutSt W0 ((put6 W g (l.length * 6) u0 u1 u2 u3 u4 u5).setCell ⟨Bo, 0, none⟩ (.slice (some ⟨g, 0, none⟩) (l.length + 1) cap)) Bo base v0 (.slice (some ⟨g, 0, none⟩) (l.length + 1) cap) (l ++ [t]) ∧
  PutSt W0 (put6 (W.setCell ⟨Bo, 0, none⟩ (.slice (some ⟨g, 0, none⟩) (l.length + 1) cap)) g (l.length * 6) u0 u1 u2 u3 u4 u5) Bo base v0 (.slice (some ⟨g, 0, none⟩) (l.length + 1) cap) (l ++ [t]) := by
 obtain ⟨cs, h1, h2, h3⟩ := h.trees
 have hown := ho _ h2
 have hgb : base ≤ g ∧ g < W.heap.size := hown.lt g rfl
 have hX : W0.heap.size ≤ X.heap.size := h.size
 have hW : X.heap.size ≤ W.heap.size := hg.size
 have hg2 : some g = v.ownBlock ∨ g = X.heap.size := by
  rcases hnew with e | e
  ·exact .inl (by simpa [Value.ownBlock] using e)
  ·exact .inr (by simpa [Value.ownBlock] using e)
 have hT := TreesAt.append h1 h2 h3 (hN.mono (fun b hb => ⟨by omega, hb.2.1, hb.2.2⟩)) hg (fun hne => by rcases hg2 with e | e; exact absurd e hne; omega) hown
 have hboxX : some Bo ≠ v.ownBlock := fun e => by have := (h2.lt Bo e.symm).1; omega
 have hboxW : Boxed W Bo 41 v := (hg.block Bo h.box.lt hboxX).trans h.box
 have hgBo : Bo ≠ g := by omega
 have hkW : ∀ b, b < W0.heap.size → b ≠ Bo → some b ≠ v0.ownBlock → b ≠ g ∧ W.heap[b]? = W0.heap[b]? := fun b b1 b2 b3 => by
  have hbv : some b ≠ v.ownBlock := by
   rcases h.own with e | e
   ·rw [e]; exact b3
   ·intro e2
    have := e b e2.symm
    omega
  refine ⟨?_, (hg.block b (by omega) hbv).trans (h.kept b b1 b2 b3)⟩
  rintro rfl
  rcases hg2 with e | e
  ·exact hbv e
  ·omega
 have hown2 : (Value.slice (some ⟨g, 0, none⟩) (l.length + 1) cap).ownBlock = v0.ownBlock ∨ ∀ k, (Value.slice (some ⟨g, 0, none⟩) (l.length + 1) cap).ownBlock = some k → W0.heap.size ≤ k := by
  rcases hnew with e | e
  ·rw [e]; exact h.own
  ·refine .inr fun k hk => ?_
   rw [e] at hk
   cases hk
   omega
 obtain ⟨Y, hY⟩ : ∃ Y, Y = put6 W g (l.length * 6) u0 u1 u2 u3 u4 u5 := ⟨_, rfl⟩
 have eY := put6_env W g (l.length * 6) u0 u1 u2 u3 u4 u5
 have sY := put6_size W g (l.length * 6) u0 u1 u2 u3 u4 u5
 have oY := fun b hb => put6_other W g (l.length * 6) u0 u1 u2 u3 u4 u5 b hb
 obtain ⟨V, hV⟩ : ∃ V, V = W.setCell ⟨Bo, 0, none⟩ (.slice (some ⟨g, 0, none⟩) (l.length + 1) cap) := ⟨_, rfl⟩
 have eV := setCell_env W ⟨Bo, 0, none⟩ (.slice (some ⟨g, 0, none⟩) (l.length + 1) cap)
 have oV := fun b (hb : b ≠ Bo) => Below.heap_setCell W ⟨Bo, 0, none⟩ (.slice (some ⟨g, 0, none⟩) (l.length + 1) cap) b hb
 have bV : Boxed V Bo 41 (.slice (some ⟨g, 0, none⟩) (l.length + 1) cap) := by rw [hV]; exact hboxW.set _
 rw [← hY] at hT eY sY oY ⊢
 rw [← hV] at eV oV ⊢
 have bY : Boxed Y Bo 41 v := (oY Bo hgBo).trans hboxW
 constructor
 ·have eZ := setCell_env Y ⟨Bo, 0, none⟩ (.slice (some ⟨g, 0, none⟩) (l.length + 1) cap)
  have oZ := fun b (hb : b ≠ Bo) => Below.heap_setCell Y ⟨Bo, 0, none⟩ (.slice (some ⟨g, 0, none⟩) (l.length + 1) cap) b hb
  have bZ := bY.set (.slice (some ⟨g, 0, none⟩) (l.length + 1) cap)
  have tZ := hT.other hBo (.slice (some ⟨g, 0, none⟩) (l.length + 1) cap)
  generalize Y.setCell ⟨Bo, 0, none⟩ (.slice (some ⟨g, 0, none⟩) (l.length + 1) cap) = Z at eZ oZ bZ tZ ⊢
  exact { box := bZ, trees := tZ, kept := fun b b1 b2 b3 => (oZ b b2).trans ((oY b (hkW b b1 b2 b3).1).trans (hkW b b1 b2 b3).2), own := hown2, size := (by rw [eZ.2.2.2, sY]; omega), os := eZ.1.trans (eY.1.trans (hg.os.trans h.os)), tape := eZ.2.1.trans (eY.2.1.trans (hg.tape.trans h.tape)), output := eZ.2.2.1.trans (eY.2.2.trans (hg.output.trans h.output)) }
 ·have eZ := put6_env V g (l.length * 6) u0 u1 u2 u3 u4 u5
  have sZ := put6_size V g (l.length * 6) u0 u1 u2 u3 u4 u5
  have oZ := fun b hb => put6_other V g (l.length * 6) u0 u1 u2 u3 u4 u5 b hb
  have gZ : (put6 V g (l.length * 6) u0 u1 u2 u3 u4 u5).heap[g]? = Y.heap[g]? := by rw [hY]; exact put6_congr (oV g (fun e => hgBo e.symm))
  generalize put6 V g (l.length * 6) u0 u1 u2 u3 u4 u5 = Z at eZ sZ oZ gZ ⊢
  have tZ : TreesAt Z base (.slice (some ⟨g, 0, none⟩) (l.length + 1) cap) (l ++ [t]) := by
   refine hT.agree (fun b hb => ?_) (by rw [sZ, eV.2.2.2, sY]; exact Nat.le_refl _)
   by_cases hbg : b = g
   ·rw [hbg]; exact gZ
   ·rw [oZ b hbg, oY b hbg]; exact oV b (by omega)
  have zZ : W0.heap.size ≤ Z.heap.size := by rw [sZ, eV.2.2.2]; omega
  exact { box := (oZ Bo hgBo).trans bV, trees := tZ, kept := fun b b1 b2 b3 => (oZ b (hkW b b1 b2 b3).1).trans ((oV b b2).trans (hkW b b1 b2 b3).2), own := hown2, size := zZ, os := eZ.1.trans (eV.1.trans (hg.os.trans h.os)), tape := eZ.2.1.trans (eV.2.1.trans (hg.tape.trans h.tape)), output := eZ.2.2.trans (eV.2.2.1.trans (hg.output.trans h.output)) }
end Go.Proofs.YtamhkdlcoghdbaaGreatDoor.PCls
/- Out of TTwo (wip/tools/prune2.py): the declarations alone that the texts of the trees name. -/
namespace Go.Proofs.YtamhkdlcoghdbaaGreatDoor.PCls
open Go.RowKit Go.Proofs.YtamhkdlcoghdbaaGreatDoorW.PrintWords Go.Proofs.YtamhkdlcoghdbaaGreatDoorW.PrintLast Go.Proofs.YtamhkdlcoghdbaaGreatDoorW.PrintMore
set_option linter.unusedVariables false
set_option linter.unusedSimpArgs false
theorem own_unique {w : World} {base : Nat} {e : TypeId} {size n : Nat} {v : Value} {xs ys : List Value} (h : w.ownsRow base e size v n xs) (h' : w.ownsRow base e size v n ys) : xs = ys := by
 rcases h.2 with ⟨e1, h0⟩ | ⟨g, cap, cur, e1, _, hh, _, _, _, htk⟩
 ·have l1 := h.1
  have l2 := h'.1
  rw [h0, Nat.zero_mul] at l1 l2
  rw [List.length_eq_zero_iff.1 l1, List.length_eq_zero_iff.1 l2]
 ·rcases h'.2 with ⟨e2, _⟩ | ⟨g', cap', cur', e2, _, hh', _, _, _, htk'⟩
  ·rw [e1] at e2; cases e2
  ·rw [e1] at e2
   simp only [Value.slice.injEq, Option.some.injEq, Addr.mk.injEq, and_true, true_and] at e2
   obtain ⟨rfl, rfl⟩ := e2
   rw [hh] at hh'
   cases hh'
   rw [← htk, ← htk']
theorem appended_ {P : Program} {ops : Array Oper} {Q : Exit → Act → World → Prop} {oi : Oper} {N : Option Tmp} {a : Act} {w w1 : World} {v u v' : Value} {K : Act → World → Prop} (s x : Operand) (t : TypeId)
  (hop : oi.op = .call { callee := .builtin .append, args := #[s, x], argTypes := #[t, t] }) (hw : Region.wanted oi (yielded ops a.tmps) = true) (hN : oi.dst = N) (hs : a.eval s = v) (hx : a.eval x = u)
  (hr : (Builtin.append_ #[t, t] oi.type #[v, u]).run P w = .ok v' w1) (h : K (a.put N v') w1) : if Region.wanted oi (yielded ops a.tmps) = true then Oper.wp P oi a w K Q else K (a.put N undef) w := by
 refine value_ hw hN ?_ h
 unfold execOp
 simp only [hop, resolve, invoke, builtin, Sem.run_bind, Sem.run_pure, Result.andThen_ok, List.map_toArray, List.map_cons, List.map_nil, hs, hx, hr]
theorem two_ {P : Program} {md : Region.Mode} {ops : Array Oper} {Q : Exit → Act → World → Prop} {S : World → Prop} {ds : List Nat} {T : Bool × List (List Nat × List Nat)} {i j : Nat} {Ni Nj : Option Tmp} {oi oj : Oper} {fuel : Nat} {l : Array Bool} {a : Act} {w : World} (li lj : Array Bool)
  (hi : ops[i]? = some oi) (hj : ops[j]? = some oj) (hNi : oi.dst = Ni) (hNj : oj.dst = Nj) (hT : rtab md ops = T) (hc : (readyT T.2 l.toList == [i, j] && l.toList.set i true == li.toList && l.toList.set j true == lj.toList) = true) (hdi : i ∉ ds) (hdj : j ∉ ds)
  (h1 : ∀ K : Act → World → Prop, Shut (∀ a' w', S w' → (S w' → wpAnyLast P md ops Q S ds fuel li a' w') → K a' w') → if Region.wanted oi (yielded ops a.tmps) = true then Oper.wp P oi a w K Q else K (a.put Ni undef) w)
  (h2 : ∀ K : Act → World → Prop, Shut (∀ a' w', S w' → (S w' → wpAnyLast P md ops Q S ds fuel lj a' w') → K a' w') → if Region.wanted oj (yielded ops a.tmps) = true then Oper.wp P oj a w K Q else K (a.put Nj undef) w) :
  wpAnyLast P md ops Q S ds (fuel + 1) l a w := by
 subst hNi
 subst hNj
 simp only [Bool.and_eq_true] at hc
 obtain ⟨⟨c1, c2⟩, c3⟩ := hc
 have e2 := set_of c2
 have e3 := set_of c3
 rw [beq_iff_eq] at c1 e2 e3
 subst e2 e3
 subst hT
 have hr : Region.ready md ops l = [i, j] := by
  have := ready_eq (md := md) (ops := ops) (l := l)
  rw [this]
  exact c1
 exact wpAnyLast_ready hr (by simp) (AllReadyL.cons hi hdi (fun K hK => h1 K hK) (AllReadyL.cons hj hdj (fun K hK => h2 K hK) AllReadyL.nil))
theorem lasts_ {P : Program} {md : Region.Mode} {ops : Array Oper} {Q : Exit → Act → World → Prop} {S : World → Prop} {ds : List Nat} {T : Bool × List (List Nat × List Nat)} {i j : Nat} {Ni Nj : Option Tmp} {oi oj : Oper} {fuel : Nat} {l : Array Bool} {a : Act} {w : World} (li lj : Array Bool)
  (hi : ops[i]? = some oi) (hj : ops[j]? = some oj) (hNi : oi.dst = Ni) (hNj : oj.dst = Nj) (hT : rtab md ops = T) (hc : (readyT T.2 l.toList == [i, j] && l.toList.set i true == li.toList && l.toList.set j true == lj.toList) = true) (hdi : i ∈ ds) (hdj : j ∈ ds)
  (h1 : ∀ K : Act → World → Prop, Shut (∀ a' w', wpAnyLast P md ops Q S ds fuel li a' w' → K a' w') → if Region.wanted oi (yielded ops a.tmps) = true then Oper.wp P oi a w K Q else K (a.put Ni undef) w)
  (h2 : ∀ K : Act → World → Prop, Shut (∀ a' w', wpAnyLast P md ops Q S ds fuel lj a' w' → K a' w') → if Region.wanted oj (yielded ops a.tmps) = true then Oper.wp P oj a w K Q else K (a.put Nj undef) w) :
  wpAnyLast P md ops Q S ds (fuel + 1) l a w := by
 subst hNi
 subst hNj
 simp only [Bool.and_eq_true] at hc
 obtain ⟨⟨c1, c2⟩, c3⟩ := hc
 have e2 := set_of c2
 have e3 := set_of c3
 rw [beq_iff_eq] at c1 e2 e3
 subst e2 e3
 subst hT
 have hr : Region.ready md ops l = [i, j] := by
  have := ready_eq (md := md) (ops := ops) (l := l)
  rw [this]
  exact c1
 exact wpAnyLast_ready hr (by simp) (AllReadyL.cons_last hi hdi (fun K hK => h1 K hK) (AllReadyL.cons_last hj hdj (fun K hK => h2 K hK) AllReadyL.nil))
end Go.Proofs.YtamhkdlcoghdbaaGreatDoor.PCls
