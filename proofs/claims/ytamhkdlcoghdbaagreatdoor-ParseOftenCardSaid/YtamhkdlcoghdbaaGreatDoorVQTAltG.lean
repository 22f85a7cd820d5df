/- Out of TAltG (wip/tools/prune2.py): the declarations alone that the texts of the trees name. -/
import Derived.Test.YtamhkdlcoghdbaaGreatDoorVQTCat
import Derived.Test.YtamhkdlcoghdbaaGreatDoorVQTEx
namespace Go.Proofs.YtamhkdlcoghdbaaGreatDoor.PCls
open Go.RowKit Go.Proofs.YtamhkdlcoghdbaaGreatDoorW.PrintWords Go.Proofs.YtamhkdlcoghdbaaGreatDoorW.PrintLast Go.Proofs.YtamhkdlcoghdbaaGreatDoorW.PrintMore
set_option linter.unusedVariables false
set_option linter.unusedSimpArgs false
def altOne (t : NT) : List NT := if t.k = 6 then t.kids else [t]
def altOut (l : List NT) : List NT := l.flatMap altOne
/-- Alt -/
def altT (l : List NT) : NT := oneT (altOut l) 6 (.mk 2 0 0 0 [] [])
theorem altOne_length (t : NT) : (altOne t).length ≤ t.nodes := by
 unfold altOne
 split
 ·obtain ⟨k, m, lo, hi, r, kids⟩ := t
  have h2 := NT.nodesL_length kids
  simp only [NT.kids, NT.nodes]
  omega
 ·have h2 := t.nodes_pos
  simp only [List.length_cons, List.length_nil]
  omega
theorem altOut_length : ∀ l : List NT, (altOut l).length ≤ NT.nodesL l
 | [] => by simp [altOut]
 | t :: l => by
  have h1 := altOne_length t
  have h2 := altOut_length l
  simp only [altOut, List.flatMap_cons, List.length_append, NT.nodesL] at *
  omega
theorem run_append_nil42 (w : World) (ty : TypeId) (base : Option Addr) (n cap c : Nat) (h : n ≤ cap) : (Builtin.append_ #[41, 41] ty #[.slice base n cap, .slice none 0 c]).run Tryz.prog w = .ok (.slice base n cap) w := by
 obtain ⟨i, hi, hz0, hz1, hz2⟩ := info_parts info44
 cases base with
 | none => simp [Builtin.append_, run_underlying Tryz.underlying41, run_underlying Tryz.underlying43, Builtin.lenOf, Builtin.firstCells, sizeOf, typeInfo, hi, hz1, h, storeCells]
 | some a => simp [Builtin.append_, run_underlying Tryz.underlying41, run_underlying Tryz.underlying43, Builtin.lenOf, Builtin.firstCells, sizeOf, typeInfo, hi, hz1, h, storeCells]
theorem flat6_app (a b : Nat → List Value) (n : Nat) : ∀ m, flat6 (fun i => if i < n then a i else b (i - n)) (n + m) = flat6 a n ++ flat6 b m
 | 0 => by simp only [Nat.add_zero, flat6, List.append_nil]; exact flat6_congr n (fun i hi => if_pos hi)
 | m + 1 => by
  rw [show n + (m + 1) = (n + m) + 1 by omega]
  simp only [flat6]
  rw [flat6_app a b n m, if_neg (by omega), show n + m - n = m by omega, List.append_assoc]
/-- some trees more: their nodes' cells lie in a row elsewhere -/
theorem trees_append {X : World} {base : Nat} {v : Value} {l l2 : List NT} (h : TreesAt X base v l) (hbase : base ≤ X.heap.size) (hlen : l.length + l2.length < 549755813888) (ad : Addr) (c : Nat) (cs2 : Nat → List Value)
  (hN : ∀ i t, l2[i]? = some t → NIn X (fun b => base ≤ b ∧ b < X.heap.size ∧ some b ≠ v.ownBlock) t (cs2 i)) (hc : ∀ j, j < l2.length → ∀ i u, (cs2 j)[i]? = some u → X.cell? (ad.add (j * 6 + i)) = some u) :
  ∃ v' W, (Builtin.append_ #[41, 41] 41 #[v, .slice (some ad) l2.length c]).run Tryz.prog X = .ok v' W ∧ TreesAt W base v' (l ++ l2) ∧ Below base X W ∧ (∀ b, b < X.heap.size → some b ≠ v.ownBlock → W.heap[b]? = X.heap[b]?) := by
 obtain ⟨i0, hi, hz0, hz1, hz2⟩ := info_parts info44
 obtain ⟨cs, h1, h2, h3⟩ := h
 have h6 : ∀ i, i < l2.length → (cs2 i).length = 6 := fun i hi => (hN i l2[i] (List.getElem?_eq_getElem hi)).len
 have hl6 := flat6_length cs2 l2.length h6
 have hnews : ∀ j u, (flat6 cs2 l2.length)[j]? = some u → X.cell? (ad.add j) = some u := fun j u hj => by
  have hlt := (List.getElem?_eq_some_iff.1 hj).1
  rw [hl6] at hlt
  have e : j = j / 6 * 6 + j % 6 := by omega
  have hq : j / 6 < l2.length := by omega
  rw [e, flat6_at cs2 l2.length h6 (j / 6) hq (j % 6) (by omega)] at hj
  have := hc (j / 6) hq (j % 6) u hj
  rwa [← e] at this
 have hone : ∀ u, u ∈ flat6 cs2 l2.length → u.oneCell' = true := fun u hu => by
  obtain ⟨j, hj⟩ := List.getElem?_of_mem hu
  have hlt := (List.getElem?_eq_some_iff.1 hj).1
  rw [hl6] at hlt
  have e : j = j / 6 * 6 + j % 6 := by omega
  have hq : j / 6 < l2.length := by omega
  rw [e, flat6_at cs2 l2.length h6 (j / 6) hq (j % 6) (by omega)] at hj
  exact (hN (j / 6) l2[j / 6] (List.getElem?_eq_getElem hq)).one u (List.mem_of_getElem? hj)
 obtain ⟨v', W, hrun, hown, hgrow, hnil, hat⟩ := run_append_own_at X base 41 41 43 i0 _ 6 80 Tryz.underlying41 hi hz0 hz1 hz2 rfl (by decide) v l.length (flat6 cs l.length) h2 ad l2.length c (flat6 cs2 l2.length) hl6 hnews hone (by unfold maxLen; omega) (by omega) hbase
 have hmv : ∀ b, (base ≤ b ∧ b < X.heap.size ∧ some b ≠ v.ownBlock) → W.heap[b]? = X.heap[b]? := fun b hb => hgrow.block b hb.2.1 hb.2.2
 have hnb : ∀ b, (base ≤ b ∧ b < X.heap.size ∧ some b ≠ v.ownBlock) → (base ≤ b ∧ b < W.heap.size ∧ some b ≠ v'.ownBlock) := fun b hb => by
  refine ⟨hb.1, Nat.lt_of_lt_of_le hb.2.1 hgrow.size, ?_⟩
  rcases hat with e | e
  ·rw [e]; exact hb.2.2
  ·rw [e]; intro h; have := Option.some.inj h; omega
 refine ⟨v', W, hrun, ⟨fun i => if i < l.length then cs i else cs2 (i - l.length), fun i hi => ?_, ?_, fun i t ht => ?_⟩, ⟨hgrow.os, hgrow.tape, hgrow.output, hgrow.size, fun b hb => ?_⟩, fun b h1 h2 => hgrow.block b h1 h2⟩
 ·simp only
  rw [List.length_append] at hi
  split
  ·exact h1 i (by omega)
  ·exact h6 _ (by omega)
 ·rw [List.length_append, flat6_app]; exact hown
 ·simp only
  by_cases hil : i < l.length
  ·rw [if_pos hil]
   rw [List.getElem?_append_left hil] at ht
   exact ((h3 i t ht).move hmv).mono hnb
  ·rw [if_neg hil]
   rw [List.getElem?_append_right (by omega)] at ht
   exact ((hN _ t ht).move hmv).mono hnb
 ·refine hgrow.block b (by omega) (fun e => ?_)
  have := (h2.lt b e.symm).1
  omega
/-- between two rounds of Alt's loop -/
structure AltSt (w wr : World) (v : Value) (out : List NT) : Prop where
 trees : TreesAt wr (w.heap.size + 1) v out
 bel : Below w.heap.size w wr
 res : wr.heap[w.heap.size]? = some (.cells #[.int .i64 0, .int .i64 0, .int .i64 0, .int .i64 0, .slice none 0 0, .slice none 0 0] 43 (0, 0))
 sz : w.heap.size + 1 ≤ wr.heap.size
theorem AltSt.own {w A : World} {v : Value} {out : List NT} (h : AltSt w A v out) : ∀ k, v.ownBlock = some k → w.heap.size + 1 ≤ k ∧ k < A.heap.size := by
 obtain ⟨cs, _, h2, _⟩ := h.trees
 exact fun k hk => h2.lt k hk
theorem AltSt.below {w A B : World} {v : Value} {out : List NT} (h : AltSt w A v out) (hb : Below A.heap.size A B) : AltSt w B v out :=
 ⟨h.trees.below hb, h.bel.trans (hb.mono h.bel.size), (hb.block _ (by have := h.sz; omega)).trans h.res, Nat.le_trans h.sz hb.size⟩
set_option maxHeartbeats 8000000 in
set_option maxRecDepth 100000 in
theorem alt_calls (A : Option Addr) (n c : Nat) (l : List NT) (w : World) (hl : l.length = n) (hlen : NT.nodesL l < 274877906944)
  (hA : ∀ j t, l[j]? = some t → ∃ ad cs, A = some ad ∧ ad.block < w.heap.size ∧ NIn w (· < w.heap.size) t cs ∧ ∀ i u, cs[i]? = some u → w.cell? (ad.add (j * 6 + i)) = some u) :
  Calls Tryz.prog 26 #[.slice A n c] w fun e w' => ∃ cs' : List Value, e = .returned (.agg cs'.toArray) ∧ NIn w' (fun b => w.heap.size ≤ b ∧ b < w'.heap.size) (altT l) cs' ∧ Below w.heap.size w w' := by
 have HA := Lib.hid hA
 have HL := Lib.hid hl
 have HLEN := Lib.hid hlen
 obtain ⟨W1, hW1⟩ : ∃ W1, W1 = w.alloc (.cells #[.int .i64 0, .int .i64 0, .int .i64 0, .int .i64 0, .slice none 0 0, .slice none 0 0] 43) := ⟨_, rfl⟩
 have hst : AltSt w W1 (.slice none 0 0) [] := by
  rw [hW1]
  exact ⟨TreesAt.nil _ _, (Below.refl _ w).alloc (Nat.le_refl _) _, World.alloc_heap_new w _, by simp⟩
 have HST := Lib.hid hst
 have HW1 := Lib.hid hW1
 clear hA hl hlen hst hW1
 go_enter Tryz.func26, Tryz.ntmps26
 go_wp2_with fail
 go_loopg [3, 8] n (fun gg s3 s8 wr => ∃ (vj : Value) (j : Nat), vj = s3 ∧ s8 = .int .i64 j ∧ j ≤ n ∧ n - j ≤ gg ∧ Aside0 (AltSt w wr vj (altOut (l.take j))))
 case atStart => exact ⟨_, 0, rfl, rfl, by omega, by omega, ⟨by have := HST.out; rw [HW1.out] at this; simpa [altOut] using this⟩⟩
 case round =>
  obtain ⟨vj, j, rfl, rfl, hj, hgg, HCj⟩ := hrel
  by_cases hlt : j < n
  ·obtain ⟨t, ht⟩ : ∃ t, l[j]? = some t := ⟨_, List.getElem?_eq_getElem (by have := HL.out; omega)⟩
   obtain ⟨ad, cs, rfl, b1, hN, hc⟩ := HA.out j t ht
   have hmv : ∀ b, b < w.heap.size → wr.heap[b]? = w.heap[b]? := fun b hb => HCj.out.bel.block b hb
   have hcr : ∀ i u, cs[i]? = some u → wr.cell? (ad.add (j * 6 + i)) = some u := fun i u hu => by
    rw [World.cell?_of_block (w := w) (a := ad.add (j * 6 + i)) (by rw [add_block]; exact hmv _ b1)]; exact hc i u hu
   have hNr := hN.move hmv
   have htk : altOut (l.take (j + 1)) = altOut (l.take j) ++ altOne t := by rw [List.take_add_one, ht]; simp [altOut]
   have hlt' : (j : Int) < (n : Int) := by omega
   have HNr := Lib.hid hNr
   have HTK := Lib.hid htk
   have HTM := Lib.hid (List.mem_of_getElem? ht)
   clear hN ht htk hmv hc b1 hNr
   obtain ⟨tk, tm, tlo, thi, tr, tkids⟩ := t
   obtain ⟨tar, tak, tcr, tck, rfl⟩ := NIn.shape HNr.out
   have x0 := hcr 0 _ rfl
   rw [Nat.add_zero] at x0
   have x1 := cell_at hcr 1 (by decide) rfl
   have x2 := cell_at hcr 2 (by decide) rfl
   have x3 := cell_at hcr 3 (by decide) rfl
   have x4 := cell_at hcr 4 (by decide) rfl
   have x5 := cell_at hcr 5 (by decide) rfl
   clear hcr
   obtain ⟨X1, hX1⟩ : ∃ X1, X1 = wr.alloc (.cells #[.int .i64 tk, .int .i64 tm, .int .i64 tlo, .int .i64 thi, .slice tar tr.length tcr, .slice tak tkids.length tck] 43) := ⟨_, rfl⟩
   have hbX : Below wr.heap.size wr X1 := by rw [hX1]; exact (Below.refl _ wr).alloc (Nat.le_refl _) _
   have hcX : X1.heap[wr.heap.size]? = some (.cells #[.int .i64 tk, .int .i64 tm, .int .i64 tlo, .int .i64 thi, .slice tar tr.length tcr, .slice tak tkids.length tck] 43 (0, 0)) := by rw [hX1]; exact World.alloc_heap_new wr _
   have hsX : X1.heap.size = wr.heap.size + 1 := by rw [hX1]; simp
   have hTW := twin_calls w.heap.size _ (.mk tk tm tlo thi tr tkids) _ X1 (Nat.le_refl _) (by have := HCj.out.sz; omega) (HNr.out.move (fun b hb => hbX.block b (by have := HCj.out.sz; omega)))
   rw [hX1] at hTW
   have HTW := Lib.hid hTW
   have HX1 := Lib.hid hX1
   have HBX := Lib.hid hbX
   have HCX := Lib.hid hcX
   have HSX := Lib.hid hsX
   clear hTW hX1 hbX hcX hsX
   go_wp2_with fail
   refine HTW.out.mono ?_
   rintro e w4 ⟨cs4, rfl, hN4, hB4⟩
   rw [← HX1.out] at hN4 hB4
   clear x0 x1 x2 x3 x4 x5 HTW
   obtain ⟨ar2, ak2, cr2, ck2, rfl⟩ := NIn.shape hN4
   have hz4 := (hB4.block _ (by have := HSX.out; omega)).trans HCX.out
   have HB4 := Lib.hid (HBX.out.trans (hB4.mono HBX.out.size))
   have HN4 := Lib.hid hN4
   have HS4 := Lib.hid (show wr.heap.size + 1 ≤ w4.heap.size by have h1 := HSX.out; have h2 := hB4.size; omega)
   have d0 := cell_heap (i := 0) hz4 rfl
   have d1 := cell_heap (i := 1) hz4 rfl
   have d2 := cell_heap (i := 2) hz4 rfl
   have d3 := cell_heap (i := 3) hz4 rfl
   have d4 := cell_heap (i := 4) hz4 rfl
   have d5 := cell_heap (i := 5) hz4 rfl
   have q0 : ∀ o, w4.frozen? ⟨wr.heap.size, o, none⟩ = false := fun o => by simp [World.frozen?, hz4]
   have HZ4 := Lib.hid hz4
   clear hz4 hN4 hB4
   go_upto_region 6 with (fail)
   generalize hW5 : World.setCell _ _ _ = W5
   have hput : put6 w4 wr.heap.size 0 (.int .i64 tk) (.int .i64 tm) (.int .i64 tlo) (.int .i64 thi) (.slice ar2 tr.length cr2) (.slice ak2 tkids.length ck2) = W5 := hW5
   have hz5 : W5.heap[wr.heap.size]? = some (.cells #[.int .i64 tk, .int .i64 tm, .int .i64 tlo, .int .i64 thi, .slice ar2 tr.length cr2, .slice ak2 tkids.length ck2] 43 (0, 0)) := by
    rw [← hput]; unfold put6
    exact set_row (set_row (set_row (set_row (set_row (set_row HZ4.out _ _) _ _) _ _) _ _) _ _) _ _
   have hs5 : W5.heap.size = w4.heap.size := by rw [← hput, put6_size]
   have hm5 : ∀ b, b ≠ wr.heap.size → W5.heap[b]? = w4.heap[b]? := fun b hb => by rw [← hput, put6_other _ _ _ _ _ _ _ _ _ b hb]
   have hb5 : Below wr.heap.size wr W5 := by rw [← hput]; exact put6_below HB4.out (Nat.le_refl _) _ _ _ _ _ _ _
   have hN5 : NIn W5 (fun b => wr.heap.size + 1 ≤ b ∧ b < W5.heap.size) (.mk tk tm tlo thi tr tkids) [.int .i64 tk, .int .i64 tm, .int .i64 tlo, .int .i64 thi, .slice ar2 tr.length cr2, .slice ak2 tkids.length ck2] := by
    refine (HN4.out.move (fun b hb => hm5 b (by have := HSX.out; omega))).mono (fun b hb => ?_)
    have := HSX.out; rw [hs5]; omega
   have HC5 := Lib.hid (HCj.out.below hb5)
   have HZ5 := Lib.hid hz5
   have HN5 := Lib.hid hN5
   have HS5 := Lib.hid (show wr.heap.size + 1 ≤ W5.heap.size by rw [hs5]; exact HS4.out)
   have c0 := cell_heap (i := 0) hz5 rfl
   have c1 := cell_heap (i := 1) hz5 rfl
   have c2 := cell_heap (i := 2) hz5 rfl
   have c3 := cell_heap (i := 3) hz5 rfl
   have c4 := cell_heap (i := 4) hz5 rfl
   have c5 := cell_heap (i := 5) hz5 rfl
   clear hW5 hput hz5 hs5 hm5 hb5 hN5 d0 d1 d2 d3 d4 d5 q0 HZ4 HB4 HN4 HS4 HX1 HCX HSX HBX
   obtain ⟨O, hO⟩ : ∃ O, O = altOut (l.take j) := ⟨_, rfl⟩
   have hT5 := HC5.out.trees
   rw [← hO] at hT5
   have hol : O.length + (altOne (.mk tk tm tlo thi tr tkids)).length < 549755813888 := by
    have h1 : O.length ≤ NT.nodesL l := by rw [hO]; exact Nat.le_trans (altOut_length _) (nodesL_take l j)
    have h2 := altOne_length (.mk tk tm tlo thi tr tkids)
    have h3 := NT.nodes_kid HTM.out
    have h4 := HLEN.out
    omega
   obtain ⟨va, vc, rfl, hvc⟩ : ∃ va vc, vj = .slice va O.length vc ∧ O.length ≤ vc := by
    obtain ⟨cs, _, h2, _⟩ := hT5
    rcases h2.2 with ⟨e, e0⟩ | ⟨g, cap, cur, e, _, _, hcl, _⟩
    ·exact ⟨none, 0, by rw [e, e0], by omega⟩
    ·exact ⟨_, _, e, hcl⟩
   have HT5 := Lib.hid hT5
   have HO := Lib.hid hO
   have HOL := Lib.hid hol
   have HVC := Lib.hid hvc
   have HOWN := Lib.hid HCj.out.own
   clear hT5 hO hol hvc
   have HEND := Lib.hid (show ∀ (v' : Value) (W6 : World), TreesAt W6 (w.heap.size + 1) v' (O ++ altOne (.mk tk tm tlo thi tr tkids)) → Below (w.heap.size + 1) W5 W6 → AltSt w W6 v' (altOut (l.take (j + 1))) from fun v' W6 h1 h2 => by
    rw [HTK.out, ← HO.out]
    have hz := HC5.out.sz
    exact ⟨h1, HC5.out.bel.trans (h2.mono (by omega)), (h2.block _ (by omega)).trans HC5.out.res, Nat.le_trans hz h2.size⟩)
   by_cases h6 : tk = 6
   ·subst h6
    have hal : altOne (.mk 6 tm tlo thi tr tkids) = tkids := rfl
    rw [hal] at HEND HOL
    clear hal
    cases ak2 with
    | none =>
     have hk0 : tkids = [] := by
      rcases tkids with _ | ⟨y, ys⟩
      ·rfl
      ·obtain ⟨_, _, h, _⟩ := HN5.out.kid (j := 0) rfl
       cases h
     subst hk0
     have HRUN := Lib.hid (run_append_nil42 W5 42 va O.length vc ck2 HVC.out)
     have HTT := Lib.hid (HEND.out _ W5 (by rw [List.append_nil]; exact HT5.out) (Below.refl _ _))
     go_wp2_with (at_builtin; refine Lib.wpList_append_run _ rfl _ _ _ _ rfl _ _ rfl rfl _ _ HRUN.out ?_)
     go_roundg (n - (j + 1))
     case measure => omega
     case rel => exact ⟨_, j + 1, rfl, congrArg (Value.int .i64) (by first | (push_cast; rfl) | (rw [w64_lit _ (by omega) (by have := HLEN.out; have := HL.out; have := NT.nodesL_length l; omega)]; push_cast; rfl)), by omega, Nat.le_refl _, ⟨HTT.out⟩⟩
    | some ad2 =>
     obtain ⟨cs2, hcs2, hcc⟩ : ∃ cs2 : Nat → List Value, (∀ i t, tkids[i]? = some t → NIn W5 (fun b => wr.heap.size + 1 ≤ b ∧ b < W5.heap.size) t (cs2 i)) ∧ ∀ j, j < tkids.length → ∀ i u, (cs2 j)[i]? = some u → W5.cell? (ad2.add (j * 6 + i)) = some u := by
      have h := HN5.out
      cases h with
      | mk _ _ _ _ _ _ _ _ _ _ csq g1 g2 g3 g4 g5 g6 g7 g8 g9 =>
       refine ⟨csq, g8, fun j hj i u hu => ?_⟩
       obtain ⟨ad3, e, _, hc⟩ := g9 j hj
       cases e
       exact hc i u hu
     obtain ⟨v', W6, hrun, htr, hbel, _⟩ := trees_append (l2 := tkids) HT5.out HC5.out.sz HOL.out ad2 ck2 cs2 (fun i t ht => (hcs2 i t ht).mono (fun b hb => ⟨by have := HCj.out.sz; omega, hb.2, fun e => by have := (HOWN.out b e.symm).2; omega⟩)) hcc
     have HTT := Lib.hid (HEND.out v' W6 htr hbel)
     have HRUN := Lib.hid hrun
     clear hcs2 hcc htr hbel hrun
     go_wp2_with (at_builtin; refine Lib.wpList_append_run _ rfl _ _ _ _ rfl _ _ rfl rfl _ _ HRUN.out ?_)
     go_roundg (n - (j + 1))
     case measure => omega
     case rel => exact ⟨_, j + 1, rfl, congrArg (Value.int .i64) (by first | (push_cast; rfl) | (rw [w64_lit _ (by omega) (by have := HLEN.out; have := HL.out; have := NT.nodesL_length l; omega)]; push_cast; rfl)), by omega, Nat.le_refl _, ⟨HTT.out⟩⟩
   ·have h62 : (tk == 6) = false := beq_eq_false_iff_ne.2 h6
    have hal : altOne (.mk tk tm tlo thi tr tkids) = [.mk tk tm tlo thi tr tkids] := if_neg h6
    rw [hal] at HEND HOL
    have hbY : Below W5.heap.size W5 (W5.alloc (.cells #[.int .i64 tk, .int .i64 tm, .int .i64 tlo, .int .i64 thi, .slice ar2 tr.length cr2, .slice ak2 tkids.length ck2] 43)) := (Below.refl _ W5).alloc (Nat.le_refl _) _
    have hzY : (W5.alloc (.cells #[.int .i64 tk, .int .i64 tm, .int .i64 tlo, .int .i64 thi, .slice ar2 tr.length cr2, .slice ak2 tkids.length ck2] 43)).heap[W5.heap.size]? = some (.cells #[.int .i64 tk, .int .i64 tm, .int .i64 tlo, .int .i64 thi, .slice ar2 tr.length cr2, .slice ak2 tkids.length ck2] 43 (0, 0)) := World.alloc_heap_new W5 _
    obtain ⟨v', W6, hrun, htr, hbel, _⟩ := trees_append (X := W5.alloc (.cells #[.int .i64 tk, .int .i64 tm, .int .i64 tlo, .int .i64 thi, .slice ar2 tr.length cr2, .slice ak2 tkids.length ck2] 43)) (l2 := [.mk tk tm tlo thi tr tkids]) (HT5.out.below hbY) (Nat.le_trans HC5.out.sz hbY.size) HOL.out ⟨W5.heap.size, 0, none⟩ 1 (fun _ => [.int .i64 tk, .int .i64 tm, .int .i64 tlo, .int .i64 thi, .slice ar2 tr.length cr2, .slice ak2 tkids.length ck2])
     (fun i t ht => by
      have hi : i = 0 := by have := (List.getElem?_eq_some_iff.1 ht).1; simp at this; omega
      subst hi
      simp at ht
      subst ht
      exact (HN5.out.move (fun b hb => hbY.block b hb.2)).mono (fun b hb => ⟨by have := HCj.out.sz; omega, Nat.lt_of_lt_of_le hb.2 hbY.size, fun e => by have := (HOWN.out b e.symm).2; omega⟩))
     (fun j hj i u hu => by
      have hj0 : j = 0 := by simp at hj; omega
      subst hj0
      rw [add_plain]
      exact cell_heap hzY (by simpa using hu))
    have HTT := Lib.hid (HEND.out v' W6 htr ((hbY.mono HC5.out.sz).trans hbel))
    have HH6 := Lib.hid h6
    simp only [List.length_cons, List.length_nil, Nat.zero_add] at hrun
    have HRUN := Lib.hid hrun
    clear hbY hzY htr hbel h6 hal hrun
    go_wp2_with (at_builtin; refine Lib.wpList_append_run _ rfl _ _ _ _ rfl _ _ rfl rfl _ _ HRUN.out ?_)
    go_roundg (n - (j + 1))
    case measure => omega
    case rel => exact ⟨_, j + 1, rfl, congrArg (Value.int .i64) (by first | (push_cast; rfl) | (rw [w64_lit _ (by omega) (by have := HLEN.out; have := HL.out; have := NT.nodesL_length l; omega)]; push_cast; rfl)), by omega, Nat.le_refl _, ⟨HTT.out⟩⟩
  ·obtain rfl : j = n := by omega
   have hlt' : ¬ (j : Int) < (j : Int) := by omega
   obtain ⟨O, hO⟩ : ∃ O, O = altOut l := ⟨_, rfl⟩
   have hF := HCj.out
   rw [List.take_of_length_le (by have := HL.out; omega), ← hO] at hF
   have HF := Lib.hid hF
   have HO := Lib.hid hO
   have HOL := Lib.hid (show O.length < 274877906944 by rw [hO]; have := altOut_length l; have := HLEN.out; omega)
   obtain ⟨cs, c1, c2, c3⟩ := hF.trees
   have hfl := flat6_at cs O.length c1
   clear hF hO
   rcases c2.2 with ⟨rfl, h0⟩ | ⟨g, cap, cur, rfl, hg, hh, hcap, _, hcs, htk⟩
   ·have hO0 : O = [] := List.length_eq_zero_iff.1 h0
    have HO0 := Lib.hid hO0
    have HONE := Lib.hid (fun w => one_none none 0 6 2 0 0 0 none none 0 0 0 0 w)
    clear c1 c2 c3 h0 hfl hO0
    go_wp2_with fail
    refine (HONE.out _).mono ?_
    rintro e w5 ⟨rfl, hB5⟩
    have hO0 := HO0.out
    have hz5 := (hB5.block _ (by have := HF.out.sz; omega)).trans HF.out.res
    have d0 := cell_heap (i := 0) hz5 rfl
    have d1 := cell_heap (i := 1) hz5 rfl
    have d2 := cell_heap (i := 2) hz5 rfl
    have d3 := cell_heap (i := 3) hz5 rfl
    have d4 := cell_heap (i := 4) hz5 rfl
    have d5 := cell_heap (i := 5) hz5 rfl
    have q0 : ∀ o, w5.frozen? ⟨w.heap.size, o, none⟩ = false := fun o => by simp [World.frozen?, hz5]
    have HZ5 := Lib.hid hz5
    have HB5 := Lib.hid hB5
    clear hz5 hB5
    go_wp2
    obtain ⟨WF, hWF⟩ : ∃ WF, WF = put6 w5 w.heap.size 0 (.int .i64 2) (.int .i64 0) (.int .i64 0) (.int .i64 0) (.slice none 0 0) (.slice none 0 0) := ⟨_, rfl⟩
    have hzF : WF.heap[w.heap.size]? = some (.cells #[.int .i64 2, .int .i64 0, .int .i64 0, .int .i64 0, .slice none 0 0, .slice none 0 0] 43 (0, 0)) := by
     rw [hWF]; unfold put6
     exact set_row (set_row (set_row (set_row (set_row (set_row HZ5.out _ _) _ _) _ _) _ _) _ _) _ _
    have hsF : WF.heap.size = w5.heap.size := by rw [hWF, put6_size]
    have hmF : ∀ b, w.heap.size + 1 ≤ b → WF.heap[b]? = w5.heap[b]? := fun b hb => by
     rw [hWF, put6_other _ _ _ _ _ _ _ _ _ b (by omega)]
    have hbF : Below w.heap.size w WF := by rw [hWF]; exact put6_below (HF.out.bel.trans (HB5.out.mono HF.out.bel.size)) (Nat.le_refl _) _ _ _ _ _ _ _
    change bodyPost Tryz.prog Tryz.f26 _ Exit.ret _ (put6 w5 w.heap.size 0 (.int .i64 2) (.int .i64 0) (.int .i64 0) (.int .i64 0) (.slice none 0 0) (.slice none 0 0))
    rw [← hWF]
    have r0 := cell_heap (i := 0) hzF rfl
    have r1 := cell_heap (i := 1) hzF rfl
    have r2 := cell_heap (i := 2) hzF rfl
    have r3 := cell_heap (i := 3) hzF rfl
    have r4 := cell_heap (i := 4) hzF rfl
    have r5 := cell_heap (i := 5) hzF rfl
    refine bodyPost_ret (v := .agg #[.int .i64 2, .int .i64 0, .int .i64 0, .int .i64 0, .slice none 0 0, .slice none 0 0]) (by simp [results, Tryz.results26, go_sem, r0, r1, r2, r3, r4, r5]) rfl ?_
    refine ⟨[.int .i64 2, .int .i64 0, .int .i64 0, .int .i64 0, .slice none 0 0, .slice none 0 0], rfl, ?_, hbF⟩
    have hs5 := HB5.out.size
    rw [show altT l = .mk 2 0 0 0 [] [] by unfold altT; rw [← HO.out, hO0]; rfl]
    exact NIn.mk 2 0 0 0 [] [] none none 0 0 (fun _ => []) ⟨rfl, by simp, fun h => by simp at h⟩ (fun ad e => by cases e) (by simp) (by simp) rfl (by simp) (by simp) (fun j t h => by simp at h) (fun j h => by simp at h)
   ·have hgl : w.heap.size + 1 ≤ g ∧ g < wr.heap.size := ⟨hg, (Array.getElem?_eq_some_iff.1 hh).1⟩
    have hrow : ∀ j, j < O.length → ∀ i u, (cs j)[i]? = some u → wr.cell? ⟨g, j * 6 + i, none⟩ = some u := fun j hj i u hu => by
     have hi : i < 6 := by have := (List.getElem?_eq_some_iff.1 hu).1; rw [c1 j hj] at this; exact this
     have h2 := hfl j hj i hi
     rw [hu, ← htk, List.getElem?_take] at h2
     split at h2
     ·exact cell_heap hh (by simpa using h2)
     ·simp at h2
    have HCS := Lib.hid (show _ ∧ (∀ (i : Nat) (t : NT), O[i]? = some t → NIn wr (fun b => w.heap.size + 1 ≤ b ∧ b < wr.heap.size ∧ some b ≠ (Value.slice (some ⟨g, 0, none⟩) O.length cap).ownBlock) t (cs i)) ∧ O.length ≤ cap ∧ (∀ j, j < O.length → ∀ i u, (cs j)[i]? = some u → wr.cell? ⟨g, j * 6 + i, none⟩ = some u) ∧ (w.heap.size + 1 ≤ g ∧ g < wr.heap.size) from ⟨(trivial : True), c3, hcap, hrow, hgl⟩)
    clear c1 c2 c3 hfl hg hh hcap hcs htk hgl hrow
    rcases Nat.lt_or_ge O.length 1 with h0 | h0
    ·have h00 : O.length = 0 := by omega
     have hO0 : O = [] := List.length_eq_zero_iff.1 h00
     have HO0 := Lib.hid hO0
     have HONE := Lib.hid (fun w => one_none (some ⟨g, 0, none⟩) cap 6 2 0 0 0 none none 0 0 0 0 w)
     rw [h00]
     clear h0 h00 hO0
     go_wp2_with fail
     refine (HONE.out _).mono ?_
     rintro e w5 ⟨rfl, hB5⟩
     have hO0 := HO0.out
     have hz5 := (hB5.block _ (by have := HF.out.sz; omega)).trans HF.out.res
     have d0 := cell_heap (i := 0) hz5 rfl
     have d1 := cell_heap (i := 1) hz5 rfl
     have d2 := cell_heap (i := 2) hz5 rfl
     have d3 := cell_heap (i := 3) hz5 rfl
     have d4 := cell_heap (i := 4) hz5 rfl
     have d5 := cell_heap (i := 5) hz5 rfl
     have q0 : ∀ o, w5.frozen? ⟨w.heap.size, o, none⟩ = false := fun o => by simp [World.frozen?, hz5]
     have HZ5 := Lib.hid hz5
     have HB5 := Lib.hid hB5
     clear hz5 hB5
     go_wp2
     obtain ⟨WF, hWF⟩ : ∃ WF, WF = put6 w5 w.heap.size 0 (.int .i64 2) (.int .i64 0) (.int .i64 0) (.int .i64 0) (.slice none 0 0) (.slice none 0 0) := ⟨_, rfl⟩
     have hzF : WF.heap[w.heap.size]? = some (.cells #[.int .i64 2, .int .i64 0, .int .i64 0, .int .i64 0, .slice none 0 0, .slice none 0 0] 43 (0, 0)) := by
      rw [hWF]; unfold put6
      exact set_row (set_row (set_row (set_row (set_row (set_row HZ5.out _ _) _ _) _ _) _ _) _ _) _ _
     have hsF : WF.heap.size = w5.heap.size := by rw [hWF, put6_size]
     have hmF : ∀ b, w.heap.size + 1 ≤ b → WF.heap[b]? = w5.heap[b]? := fun b hb => by
      rw [hWF, put6_other _ _ _ _ _ _ _ _ _ b (by omega)]
     have hbF : Below w.heap.size w WF := by rw [hWF]; exact put6_below (HF.out.bel.trans (HB5.out.mono HF.out.bel.size)) (Nat.le_refl _) _ _ _ _ _ _ _
     change bodyPost Tryz.prog Tryz.f26 _ Exit.ret _ (put6 w5 w.heap.size 0 (.int .i64 2) (.int .i64 0) (.int .i64 0) (.int .i64 0) (.slice none 0 0) (.slice none 0 0))
     rw [← hWF]
     have r0 := cell_heap (i := 0) hzF rfl
     have r1 := cell_heap (i := 1) hzF rfl
     have r2 := cell_heap (i := 2) hzF rfl
     have r3 := cell_heap (i := 3) hzF rfl
     have r4 := cell_heap (i := 4) hzF rfl
     have r5 := cell_heap (i := 5) hzF rfl
     refine bodyPost_ret (v := .agg #[.int .i64 2, .int .i64 0, .int .i64 0, .int .i64 0, .slice none 0 0, .slice none 0 0]) (by simp [results, Tryz.results26, go_sem, r0, r1, r2, r3, r4, r5]) rfl ?_
     refine ⟨[.int .i64 2, .int .i64 0, .int .i64 0, .int .i64 0, .slice none 0 0, .slice none 0 0], rfl, ?_, hbF⟩
     have hs5 := HB5.out.size
     rw [show altT l = .mk 2 0 0 0 [] [] by unfold altT; rw [← HO.out, hO0]; rfl]
     exact NIn.mk 2 0 0 0 [] [] none none 0 0 (fun _ => []) ⟨rfl, by simp, fun h => by simp at h⟩ (fun ad e => by cases e) (by simp) (by simp) rfl (by simp) (by simp) (fun j t h => by simp at h) (fun j h => by simp at h)
    ·rcases Nat.lt_or_ge O.length 2 with h1 | h1
     ·have h11 : O.length = 1 := by omega
      obtain ⟨x, hx⟩ : ∃ x, O = [x] := List.length_eq_one_iff.1 h11
      have hNx := HCS.out.2.1 0 x (by rw [hx]; rfl)
      have hrx := HCS.out.2.2.2.1 0 (by omega)
      obtain ⟨c0, hc0⟩ : ∃ c0, c0 = cs 0 := ⟨_, rfl⟩
      rw [← hc0] at hNx hrx
      have HX := Lib.hid hNx
      have HX1 := Lib.hid hx
      rw [h11]
      cases hNx with
      | mk tk tm tlo thi tr tkids tar tak tcr tck tcsk _ _ _ _ _ _ _ _ _ =>
       rename_i q1 q2 q3 q4 q5 q6 q7 q8 q9
       clear q1 q2 q3 q4 q5 q6 q7 q8 q9
       have y0 := hrx 0 _ rfl
       have y1 := hrx 1 _ rfl
       have y2 := hrx 2 _ rfl
       have y3 := hrx 3 _ rfl
       have y4 := hrx 4 _ rfl
       have y5 := hrx 5 _ rfl
       have HONE := Lib.hid (one_one g cap 6 2 0 0 0 none none 0 0 0 0 tk tm tlo thi tar tak tr.length tcr tkids.length tck wr ⟨by simpa using y0, by simpa using y1, by simpa using y2, by simpa using y3, by simpa using y4, by simpa using y5⟩)
       clear h0 h1 h11 hx hrx hc0 y0 y1 y2 y3 y4 y5
       go_wp2_with fail
       refine HONE.out.mono ?_
       rintro e w5 ⟨rfl, hB5⟩
       have hO1 := HX1.out
       have hz5 := (hB5.block _ (by have := HF.out.sz; omega)).trans HF.out.res
       have d0 := cell_heap (i := 0) hz5 rfl
       have d1 := cell_heap (i := 1) hz5 rfl
       have d2 := cell_heap (i := 2) hz5 rfl
       have d3 := cell_heap (i := 3) hz5 rfl
       have d4 := cell_heap (i := 4) hz5 rfl
       have d5 := cell_heap (i := 5) hz5 rfl
       have q0 : ∀ o, w5.frozen? ⟨w.heap.size, o, none⟩ = false := fun o => by simp [World.frozen?, hz5]
       have HZ5 := Lib.hid hz5
       have HB5 := Lib.hid hB5
       clear hz5 hB5
       go_wp2
       obtain ⟨WF, hWF⟩ : ∃ WF, WF = put6 w5 w.heap.size 0 (.int .i64 tk) (.int .i64 tm) (.int .i64 tlo) (.int .i64 thi) (.slice tar tr.length tcr) (.slice tak tkids.length tck) := ⟨_, rfl⟩
       have hzF : WF.heap[w.heap.size]? = some (.cells #[.int .i64 tk, .int .i64 tm, .int .i64 tlo, .int .i64 thi, .slice tar tr.length tcr, .slice tak tkids.length tck] 43 (0, 0)) := by
        rw [hWF]; unfold put6
        exact set_row (set_row (set_row (set_row (set_row (set_row HZ5.out _ _) _ _) _ _) _ _) _ _) _ _
       have hsF : WF.heap.size = w5.heap.size := by rw [hWF, put6_size]
       have hmF : ∀ b, w.heap.size + 1 ≤ b → WF.heap[b]? = w5.heap[b]? := fun b hb => by
        rw [hWF, put6_other _ _ _ _ _ _ _ _ _ b (by omega)]
       have hbF : Below w.heap.size w WF := by rw [hWF]; exact put6_below (HF.out.bel.trans (HB5.out.mono HF.out.bel.size)) (Nat.le_refl _) _ _ _ _ _ _ _
       change bodyPost Tryz.prog Tryz.f26 _ Exit.ret _ (put6 w5 w.heap.size 0 (.int .i64 tk) (.int .i64 tm) (.int .i64 tlo) (.int .i64 thi) (.slice tar tr.length tcr) (.slice tak tkids.length tck))
       rw [← hWF]
       have r0 := cell_heap (i := 0) hzF rfl
       have r1 := cell_heap (i := 1) hzF rfl
       have r2 := cell_heap (i := 2) hzF rfl
       have r3 := cell_heap (i := 3) hzF rfl
       have r4 := cell_heap (i := 4) hzF rfl
       have r5 := cell_heap (i := 5) hzF rfl
       refine bodyPost_ret (v := .agg #[.int .i64 tk, .int .i64 tm, .int .i64 tlo, .int .i64 thi, .slice tar tr.length tcr, .slice tak tkids.length tck]) (by simp [results, Tryz.results26, go_sem, r0, r1, r2, r3, r4, r5]) rfl ?_
       refine ⟨[.int .i64 tk, .int .i64 tm, .int .i64 tlo, .int .i64 thi, .slice tar tr.length tcr, .slice tak tkids.length tck], rfl, ?_, hbF⟩
       have hs5 := HB5.out.size
       rw [show altT l = .mk tk tm tlo thi tr tkids by unfold altT; rw [← HO.out, hO1]; rfl]
       exact (HX.out.move (fun b hb => (hmF b hb.1).trans (HB5.out.block b hb.2.1))).mono (fun b hb => by rw [hsF]; omega)
     ·have hO2 : ∃ a b l', O = a :: b :: l' := by
       match hm : O, h1 with
       | a :: b :: l', _ => exact ⟨a, b, l', rfl⟩
      have HO2 := Lib.hid hO2
      have HONE := Lib.hid (fun w => one_many (some ⟨g, 0, none⟩) O.length cap h1 6 2 0 0 0 none none 0 0 0 0 w)
      clear h0 h1 hO2
      go_wp2_with fail
      refine (HONE.out _).mono ?_
      rintro e w5 ⟨rfl, hB5⟩
      have hO2 := HO2.out
      have hz5 := (hB5.block _ (by have := HF.out.sz; omega)).trans HF.out.res
      have d0 := cell_heap (i := 0) hz5 rfl
      have d1 := cell_heap (i := 1) hz5 rfl
      have d2 := cell_heap (i := 2) hz5 rfl
      have d3 := cell_heap (i := 3) hz5 rfl
      have d4 := cell_heap (i := 4) hz5 rfl
      have d5 := cell_heap (i := 5) hz5 rfl
      have q0 : ∀ o, w5.frozen? ⟨w.heap.size, o, none⟩ = false := fun o => by simp [World.frozen?, hz5]
      have HZ5 := Lib.hid hz5
      have HB5 := Lib.hid hB5
      clear hz5 hB5
      go_wp2
      obtain ⟨WF, hWF⟩ : ∃ WF, WF = put6 w5 w.heap.size 0 (.int .i64 6) (.int .i64 0) (.int .i64 0) (.int .i64 0) (.slice none 0 0) (.slice (some ⟨g, 0, none⟩) O.length cap) := ⟨_, rfl⟩
      have hzF : WF.heap[w.heap.size]? = some (.cells #[.int .i64 6, .int .i64 0, .int .i64 0, .int .i64 0, .slice none 0 0, .slice (some ⟨g, 0, none⟩) O.length cap] 43 (0, 0)) := by
       rw [hWF]; unfold put6
       exact set_row (set_row (set_row (set_row (set_row (set_row HZ5.out _ _) _ _) _ _) _ _) _ _) _ _
      have hsF : WF.heap.size = w5.heap.size := by rw [hWF, put6_size]
      have hmF : ∀ b, w.heap.size + 1 ≤ b → WF.heap[b]? = w5.heap[b]? := fun b hb => by
       rw [hWF, put6_other _ _ _ _ _ _ _ _ _ b (by omega)]
      have hbF : Below w.heap.size w WF := by rw [hWF]; exact put6_below (HF.out.bel.trans (HB5.out.mono HF.out.bel.size)) (Nat.le_refl _) _ _ _ _ _ _ _
      change bodyPost Tryz.prog Tryz.f26 _ Exit.ret _ (put6 w5 w.heap.size 0 (.int .i64 6) (.int .i64 0) (.int .i64 0) (.int .i64 0) (.slice none 0 0) (.slice (some ⟨g, 0, none⟩) O.length cap))
      rw [← hWF]
      have r0 := cell_heap (i := 0) hzF rfl
      have r1 := cell_heap (i := 1) hzF rfl
      have r2 := cell_heap (i := 2) hzF rfl
      have r3 := cell_heap (i := 3) hzF rfl
      have r4 := cell_heap (i := 4) hzF rfl
      have r5 := cell_heap (i := 5) hzF rfl
      refine bodyPost_ret (v := .agg #[.int .i64 6, .int .i64 0, .int .i64 0, .int .i64 0, .slice none 0 0, .slice (some ⟨g, 0, none⟩) O.length cap]) (by simp [results, Tryz.results26, go_sem, r0, r1, r2, r3, r4, r5]) rfl ?_
      refine ⟨[.int .i64 6, .int .i64 0, .int .i64 0, .int .i64 0, .slice none 0 0, .slice (some ⟨g, 0, none⟩) O.length cap], rfl, ?_, hbF⟩
      have hs5 := HB5.out.size
      rw [show altT l = .mk 6 0 0 0 [] O by unfold altT; rw [← HO.out]; obtain ⟨a, b, l', e⟩ := hO2; rw [e]; rfl]
      exact NIn.mk 6 0 0 0 [] O none (some ⟨g, 0, none⟩) 0 cap cs ⟨rfl, by simp, fun h => by simp at h⟩ (fun ad e => by cases e) (by simp) (by simp) rfl HCS.out.2.2.1 (by have := HOL.out; omega)
       (fun j t ht => ((HCS.out.2.1 j t ht).move (fun b hb => (hmF b hb.1).trans (HB5.out.block b hb.2.1))).mono (fun b hb => by rw [hsF]; omega))
       (fun j hj => ⟨⟨g, 0, none⟩, rfl, by rw [hsF]; have := HCS.out.2.2.2.2; simp only; omega, fun i u hu => by
        rw [add_plain, World.cell?_of_block (w := wr) (a := ⟨g, j * 6 + i, none⟩) ((hmF g (by have := HCS.out.2.2.2.2; omega)).trans (HB5.out.block g (by have := HCS.out.2.2.2.2; omega)))]
        exact HCS.out.2.2.2.1 j hj i u hu⟩)
end Go.Proofs.YtamhkdlcoghdbaaGreatDoor.PCls
