/- Out of Literal (wip/tools/prune2.py): the declarations alone that the texts of the trees name. -/
import Derived.Test.YtamhkdlcoghdbaaGreatDoorKMQPr
namespace Go.Proofs.YtamhkdlcoghdbaaGreatDoor.PCls
open Go.RowKit Go.Shelf Go.Proofs.YtamhkdlcoghdbaaGreatDoorW.PrintWords Go.Proofs.YtamhkdlcoghdbaaGreatDoorW.PrintLast Go.Proofs.YtamhkdlcoghdbaaGreatDoorW.PrintMore
set_option linter.unusedVariables false
set_option linter.unusedSimpArgs false
/-- between two rounds of Literal -/
structure LitSt (w Wb wr : World) (base : Nat) (chars fold : Bool) (v : Value) (out : List NT) : Prop where
 bel : Below w.heap.size w wr
 mode : wr.heap[w.heap.size]? = some (.cells #[.bool chars, .bool fold] 23 (0, 0))
 res : wr.heap[w.heap.size + 1]? = some (.cells #[.int .i64 0, .int .i64 0, .int .i64 0, .int .i64 0, .slice none 0 0, .slice none 0 0] 43 (0, 0))
 box : Boxed wr (w.heap.size + 2) 41 v
 trees : TreesAt wr base v out
 sz : base ≤ wr.heap.size
 bs : w.heap.size + 3 ≤ base
 kept : ∀ b, w.heap.size + 3 ≤ b → b < base → wr.heap[b]? = Wb.heap[b]?
theorem LitSt.put {w Wb wr : World} {base : Nat} {chars fold : Bool} {v : Value} {out : List NT} (h : LitSt w Wb wr base chars fold v out) : PutSt wr wr (w.heap.size + 2) base v v out :=
 ⟨h.box, h.trees, fun _ _ _ _ => rfl, .inl rfl, Nat.le_refl _, rfl, rfl, rfl⟩
theorem LitSt.next {w Wb A B : World} {base : Nat} {chars fold : Bool} {v v' : Value} {out out' : List NT} (h : LitSt w Wb A base chars fold v out) (hp : PutSt A B (w.heap.size + 2) base v v' out') : LitSt w Wb B base chars fold v' out' := by
 have hs := h.sz
 have hb := h.bs
 have hown : ∀ k, v.ownBlock = some k → base ≤ k := by
  obtain ⟨cs, _, h2, _⟩ := h.trees
  exact fun k hk => (h2.lt k hk).1
 have hk : ∀ b, b < base → b ≠ w.heap.size + 2 → B.heap[b]? = A.heap[b]? := fun b h1 h2 => hp.kept b (by omega) h2 (fun e => by have := hown b e.symm; omega)
 have hsz := hp.size
 exact ⟨⟨hp.os.trans h.bel.os, hp.tape.trans h.bel.tape, hp.output.trans h.bel.output, Nat.le_trans h.bel.size hp.size, fun b hb' => (hk b (by omega) (by omega)).trans (h.bel.block b hb')⟩,
  (hk _ (by omega) (by omega)).trans h.mode, (hk _ (by omega) (by omega)).trans h.res, hp.box, hp.trees, by omega, h.bs, fun b h1 h2 => (hk b h2 (by omega)).trans (h.kept b h1 h2)⟩
theorem LitSt.start (w Wb : World) (chars fold : Bool) (hb : Below (w.heap.size + 3) ((((w.alloc (.cells #[.bool chars, .bool fold] 23)).alloc (.cells #[.int .i64 0, .int .i64 0, .int .i64 0, .int .i64 0, .slice none 0 0, .slice none 0 0] 43)).alloc (.cells #[.slice none 0 0] 41))) Wb) : LitSt w Wb Wb Wb.heap.size chars fold (.slice none 0 0) [] := by
 have hat : ∀ (A : World) (o : Obj) (b : Nat), b = A.heap.size → (A.alloc o).heap[b]? = some o := fun A o b h => by rw [h]; exact World.alloc_heap_new A o
 have hup : ∀ (A : World) (o x : Obj) (b : Nat), A.heap[b]? = some x → (A.alloc o).heap[b]? = some x := fun A o x b h => (Below.heap_alloc A o b (Array.getElem?_eq_some_iff.1 h).1).trans h
 have hb0 : Below w.heap.size w ((((w.alloc (.cells #[.bool chars, .bool fold] 23)).alloc (.cells #[.int .i64 0, .int .i64 0, .int .i64 0, .int .i64 0, .slice none 0 0, .slice none 0 0] 43)).alloc (.cells #[.slice none 0 0] 41))) := (((Below.refl _ w).alloc (Nat.le_refl _) _).alloc (by simp) _).alloc (by simp; omega) _
 have hsz := hb.size
 simp only [World.size_alloc] at hsz
 refine ⟨hb0.trans (hb.mono (by omega)), ?_, ?_, ?_, TreesAt.nil _ _, Nat.le_refl _, by omega, fun _ _ _ => rfl⟩
 ·exact (hb.block _ (by omega)).trans (hup _ _ _ _ (hup _ _ _ _ (hat _ _ _ rfl)))
 ·exact (hb.block _ (by omega)).trans (hup _ _ _ _ (hat _ _ _ (by simp)))
 ·exact (hb.block _ (by omega)).trans (hat _ _ _ (by simp))
theorem nodesL_lit {α : Type} (fold : Bool) (q : α → Int) : ∀ l : List α, NT.nodesL (l.map fun c => litNT fold (q c)) = l.length
 | [] => rfl
 | x :: l => by
  simp only [List.map_cons, NT.nodesL, litNT, NT.nodes, List.length_cons]
  have := nodesL_lit fold q l
  simp only [litNT] at this
  omega
theorem runes_le (s : ByteArray) : ∀ k p x, x ∈ runesFrom s k p → x ≤ 1114111
 | 0, p, x, h => by simp [runesFrom] at h
 | k + 1, p, x, h => by
  simp only [runesFrom] at h
  split at h
  ·rcases List.mem_cons.1 h with rfl | h
   ·exact Lib.rune_le s p
   ·exact runes_le s k _ x h
  ·cases h
/-- trees in a row, as Cat asks for them -/
theorem TreesAt.arg {w : World} {base : Nat} {A : Option Addr} {n c : Nat} {l : List NT} (h : TreesAt w base (.slice A n c) l) (hn : l.length = n) :
  ∀ j t, l[j]? = some t → ∃ ad cs, A = some ad ∧ ad.block < w.heap.size ∧ NIn w (· < w.heap.size) t cs ∧ ∀ i u, cs[i]? = some u → w.cell? (ad.add (j * 6 + i)) = some u := by
 intro j t hj
 obtain ⟨cs, h1, h2, h3⟩ := h
 have hjl := (List.getElem?_eq_some_iff.1 hj).1
 have hN := h3 j t hj
 rcases h2.2 with ⟨_, e0⟩ | ⟨g, cap, cur, e, hb, hg, hcl, hcm, hcs, htk⟩
 ·omega
 ·simp only [Value.slice.injEq] at e
  obtain ⟨rfl, hn2, rfl⟩ := e
  refine ⟨⟨g, 0, none⟩, cs j, rfl, (Array.getElem?_eq_some_iff.1 hg).1, hN.mono (fun b hb => hb.2.1), fun i u hu => ?_⟩
  have hi : i < 6 := by have := (List.getElem?_eq_some_iff.1 hu).1; rw [h1 j hjl] at this; exact this
  rw [add_plain]
  have h4 := flat6_at cs l.length h1 j hjl i hi
  rw [hu, ← htk] at h4
  rw [List.getElem?_take] at h4
  split at h4
  ·exact cell_heap hg (by simpa using h4)
  ·cases h4
/-- the end of Literal: Cat, its value into the result -/
theorem bytes_below (w : World) (e : TypeId) (s : ByteArray) : Below w.heap.size w (Lib.bytesWorld w e s) :=
 ⟨rfl, rfl, rfl, by rw [Lib.bytesWorld_size]; omega, fun b hb => Lib.bytesWorld_at_old w e s b hb⟩
set_option maxHeartbeats 8000000 in
set_option maxRecDepth 100000 in
theorem literal_bytes (s : ByteArray) (fold : Bool) (w : World) (hs : s.size < 274877906) :
  Calls Tryz.prog 29 #[.string s, .agg #[.bool false, .bool fold]] w fun e w' => ∃ cs' : List Value, e = .returned (.tuple #[.agg cs'.toArray, .int .i64 0]) ∧ NIn w' (fun b => w.heap.size ≤ b ∧ b < w'.heap.size) (catT (s.data.toList.map fun c => litNT fold (c.toNat : Int))) cs' ∧ Below w.heap.size w w' := by
 obtain ⟨W3, hW3⟩ : ∃ W3, W3 = (((w.alloc (.cells #[.bool false, .bool fold] 23)).alloc (.cells #[.int .i64 0, .int .i64 0, .int .i64 0, .int .i64 0, .slice none 0 0, .slice none 0 0] 43)).alloc (.cells #[.slice none 0 0] 41)) := ⟨_, rfl⟩
 have hs3 : W3.heap.size = w.heap.size + 3 := by rw [hW3]; simp
 have hconv := Lib.run_convert_string_bytes (P := Tryz.prog) W3 9 115 5 s Tryz.underlying9 Tryz.underlying115 Tryz.underlying5
 obtain ⟨W4, hW4⟩ : ∃ W4, W4 = Lib.bytesWorld W3 5 s := ⟨_, rfl⟩
 obtain ⟨cap, hcap⟩ : ∃ cap, cap = grownCap W3 s.size 0 5 := ⟨_, rfl⟩
 rw [hs3, ← hW4, ← hcap] at hconv
 have hst : LitSt w W4 W4 W4.heap.size false fold (.slice none 0 0) [] := LitSt.start w W4 false fold (by rw [← hW3, hW4, ← hs3]; exact bytes_below W3 5 s)
 have hs4 : W4.heap.size = w.heap.size + 4 := by rw [hW4, Lib.bytesWorld_size, hs3]
 have hcl : ∀ j, j < s.size → W4.cell? ⟨w.heap.size + 3, j, none⟩ = some (.int .u8 (s.data.toList.getD j 0).toNat) := fun j hj => by rw [hW4, ← hs3]; exact Lib.bytesWorld_cell W3 5 s j hj
 have hsl : s.data.toList.length = s.size := (Lib.size_eq s).symm
 rw [hW3] at hconv
 have HST := Lib.hid hst
 have HS4 := Lib.hid hs4
 have HCL := Lib.hid hcl
 have HSL := Lib.hid hsl
 clear hW3 hs3 hW4 hcap hst hs4 hcl hsl
 go_enter Tryz.func29, Tryz.ntmps29
 go_wp2_with fail
 clear hconv
 simp only [Nat.add_assoc, Nat.reduceAdd]
 go_loopg [21] s.size (fun gg s21 wr => ∃ (j : Nat) (v : Value), s21 = .int .i64 j ∧ j ≤ s.size ∧ s.size - j ≤ gg ∧ Aside0 (LitSt w W4 wr W4.heap.size false fold v ((s.data.toList.take j).map fun c => litNT fold (c.toNat : Int))))
 case atStart => exact ⟨0, _, rfl, by omega, by omega, ⟨HST.out⟩⟩
 case round =>
  obtain ⟨j, v, rfl, hj, hgg, HQ⟩ := hrel
  by_cases hlt : j < s.size
  ·have hlt' : (j : Int) < (s.size : Int) := by omega
   obtain ⟨x, hx⟩ : ∃ x, s.data.toList[j]? = some x := ⟨_, List.getElem?_eq_getElem (by rw [HSL.out]; exact hlt)⟩
   have hcj := HCL.out j hlt
   rw [List.getD_eq_getElem?_getD, hx] at hcj
   obtain ⟨xn, hxn⟩ : ∃ xn : Nat, xn = x.toNat := ⟨_, rfl⟩
   have hxb : xn < 256 := by rw [hxn]; exact x.toNat_lt
   have c0 : wr.cell? ⟨w.heap.size + 3, j, none⟩ = some (.int .u8 (xn : Int)) := by
    rw [World.cell?_of_block (w := W4) (a := ⟨w.heap.size + 3, j, none⟩) (HQ.out.kept _ (Nat.le_refl _) (by rw [HS4.out]; show w.heap.size + 3 < w.heap.size + 4; omega)), hcj, hxn]; rfl
   have hwr : wrap64 (xn : Int) = (xn : Int) := w64_lit _ (by omega) (by omega)
   have hln : s.data.toList.length = s.size := HSL.out
   have htk : s.data.toList.take (j + 1) = s.data.toList.take j ++ [x] := by rw [List.take_add_one, hx]; rfl
   have HLC := Lib.hid (lit_calls (xn : Int) (by omega) false fold w.heap.size (w.heap.size + 2) W4.heap.size _ wr v (by have := HS4.out; omega) HQ.out.sz HQ.out.put (by rw [List.length_map]; have := List.length_take_le j s.data.toList; omega) HQ.out.mode)
   clear hln
   have HTK := Lib.hid (show (s.data.toList.take (j + 1)).map (fun c => litNT fold (c.toNat : Int)) = (s.data.toList.take j).map (fun c => litNT fold (c.toNat : Int)) ++ [litNT fold (xn : Int)] by rw [htk, List.map_append, hxn]; rfl)
   clear hx hcj hxn htk
   go_wp2_with fail
   refine HLC.out.mono ?_
   rintro e w5 ⟨rfl, v', hp⟩
   have HQ5 := Lib.hid (HQ.out.next hp)
   clear hp HLC c0
   go_wp2_with fail
   go_roundg (s.size - (j + 1))
   case measure => omega
   case rel => exact ⟨j + 1, v', congrArg (Value.int .i64) (by first | (push_cast; rfl) | (rw [w64_lit _ (by omega) (by omega)]; push_cast; rfl)), by omega, Nat.le_refl _, ⟨by rw [HTK.out]; exact HQ5.out⟩⟩
  ·obtain rfl : j = s.size := by omega
   have hlt' : ¬ (s.size : Int) < (s.size : Int) := by omega
   have hall : (s.data.toList.take s.size) = s.data.toList := List.take_of_length_le (by rw [HSL.out]; exact Nat.le_refl _)
   have hQ := HQ.out
   rw [hall] at hQ
   obtain ⟨O, hO⟩ : ∃ O, O = s.data.toList.map fun c => litNT fold (c.toNat : Int) := ⟨_, rfl⟩
   rw [← hO] at hQ
   have hOl : O.length = s.size := by rw [hO, List.length_map, HSL.out]
   have hOn : NT.nodesL O < 274877906944 := by rw [hO, nodesL_lit, HSL.out]; omega
   have HQQ := Lib.hid hQ
   have cb := hQ.box.cell
   obtain ⟨va, vc, rfl⟩ : ∃ va vc, v = .slice va O.length vc := by
    obtain ⟨cs, _, h2, _⟩ := hQ.trees
    rcases h2.2 with ⟨e, e0⟩ | ⟨g, cap, cur, e, _⟩
    ·exact ⟨none, 0, by rw [e, e0]⟩
    ·exact ⟨_, _, e⟩
   have HCAT := Lib.hid (cat_calls va O.length vc O wr rfl hOn (HQQ.out.trees.arg rfl))
   have HO := Lib.hid hO
   clear hQ hall hO hOl hOn
   go_wp2_with fail
   refine HCAT.out.mono ?_
   rintro e w5 ⟨cs', rfl, hN, hb⟩
   obtain ⟨T, hT⟩ : ∃ T, T = catT O := ⟨_, rfl⟩
   rw [← hT] at hN
   obtain ⟨k, m, lo, hi, r, kids⟩ := T
   obtain ⟨ar, ak, cr, ck, rfl⟩ := NIn.shape hN
   have hres := (hb.block _ (by have h1 := HQQ.out.sz; have h2 := HQQ.out.bs; omega)).trans HQQ.out.res
   have hbel := HQQ.out.bel.trans (hb.mono HQQ.out.bel.size)
   have hz5 : w.heap.size + 3 ≤ w5.heap.size := by have h1 := HQQ.out.sz; have h2 := HQQ.out.bs; have h3 := hb.size; omega
   have HRS := Lib.hid hres
   have HBL := Lib.hid hbel
   have HNN := Lib.hid hN
   have HTT := Lib.hid (hT.trans (by rw [HO.out]))
   have HZ5 := Lib.hid (And.intro hz5 (show w.heap.size + 3 ≤ wr.heap.size by have h1 := HQQ.out.sz; have h2 := HQQ.out.bs; omega))
   have d0 := cell_heap (i := 0) hres rfl
   have d1 := cell_heap (i := 1) hres rfl
   have d2 := cell_heap (i := 2) hres rfl
   have d3 := cell_heap (i := 3) hres rfl
   have d4 := cell_heap (i := 4) hres rfl
   have d5 := cell_heap (i := 5) hres rfl
   have q0 : ∀ o, w5.frozen? ⟨w.heap.size + 1, o, none⟩ = false := fun o => by simp [World.frozen?, hres]
   clear hres hbel hN hT hz5 hb cb HCAT
   go_wp2_with fail
   obtain ⟨WF, hWF⟩ : ∃ WF, WF = put6 w5 (w.heap.size + 1) 0 (.int .i64 k) (.int .i64 m) (.int .i64 lo) (.int .i64 hi) (.slice ar r.length cr) (.slice ak kids.length ck) := ⟨_, rfl⟩
   have hzF : WF.heap[w.heap.size + 1]? = some (.cells #[.int .i64 k, .int .i64 m, .int .i64 lo, .int .i64 hi, .slice ar r.length cr, .slice ak kids.length ck] 43 (0, 0)) := by
    rw [hWF]; unfold put6
    exact set_row (set_row (set_row (set_row (set_row (set_row HRS.out _ _) _ _) _ _) _ _) _ _) _ _
   have hbF : Below w.heap.size w WF := by rw [hWF]; exact put6_below HBL.out (by omega) _ _ _ _ _ _ _
   have hmF : ∀ b, wr.heap.size ≤ b → WF.heap[b]? = w5.heap[b]? := fun b hb => by rw [hWF]; exact put6_other _ _ _ _ _ _ _ _ _ b (by have := HZ5.out.2; omega)
   have hsF : WF.heap.size = w5.heap.size := by rw [hWF]; exact put6_size _ _ _ _ _ _ _ _ _
   change bodyPost Tryz.prog Tryz.f29 _ Exit.ret _ (put6 w5 (w.heap.size + 1) 0 (.int .i64 k) (.int .i64 m) (.int .i64 lo) (.int .i64 hi) (.slice ar r.length cr) (.slice ak kids.length ck))
   rw [← hWF]
   have r0 := cell_heap (i := 0) hzF rfl
   have r1 := cell_heap (i := 1) hzF rfl
   have r2 := cell_heap (i := 2) hzF rfl
   have r3 := cell_heap (i := 3) hzF rfl
   have r4 := cell_heap (i := 4) hzF rfl
   have r5 := cell_heap (i := 5) hzF rfl
   refine bodyPost_ret (v := .tuple #[.agg #[.int .i64 k, .int .i64 m, .int .i64 lo, .int .i64 hi, .slice ar r.length cr, .slice ak kids.length ck], .int .i64 0]) (by simp [results, Tryz.results29, go_sem, r0, r1, r2, r3, r4, r5]) rfl ?_
   refine ⟨[.int .i64 k, .int .i64 m, .int .i64 lo, .int .i64 hi, .slice ar r.length cr, .slice ak kids.length ck], rfl, ?_, hbF⟩
   rw [← HTT.out]
   exact (HNN.out.move (fun b hb => hmF b hb.1)).mono (fun b hb => ⟨by have := HZ5.out.2; omega, by rw [hsF]; exact hb.2⟩)
set_option maxHeartbeats 8000000 in
set_option maxRecDepth 100000 in
theorem literal_chars (s : ByteArray) (fold : Bool) (w : World) (hs : s.size < 274877906) (hT : Lib.Utf8Tabs 0 1 w) :
  Calls Tryz.prog 29 #[.string s, .agg #[.bool true, .bool fold]] w fun e w' => Below w.heap.size w w' ∧ if badFrom s (s.size + 1) 0 < s.size then e = .returned (.tuple #[.agg #[.int .i64 0, .int .i64 0, .int .i64 0, .int .i64 0, .slice none 0 0, .slice none 0 0], .int .i64 20]) else ∃ cs' : List Value, e = .returned (.tuple #[.agg cs'.toArray, .int .i64 0]) ∧ NIn w' (fun b => w.heap.size ≤ b ∧ b < w'.heap.size) (catT ((runesFrom s (s.size + 1) 0).map fun c : Nat => litNT fold (c : Int))) cs' := by
 obtain ⟨W3, hW3⟩ : ∃ W3, W3 = (((w.alloc (.cells #[.bool true, .bool fold] 23)).alloc (.cells #[.int .i64 0, .int .i64 0, .int .i64 0, .int .i64 0, .slice none 0 0, .slice none 0 0] 43)).alloc (.cells #[.slice none 0 0] 41)) := ⟨_, rfl⟩
 have hs3 : W3.heap.size = w.heap.size + 3 := by rw [hW3]; simp
 have hb3 : Below w.heap.size w W3 := by rw [hW3]; exact (((Below.refl _ w).alloc (Nat.le_refl _) _).alloc (by simp) _).alloc (by simp; omega) _
 have HD := Lib.hid (Decode_calls s W3 (tabs_below hT hb3) (by omega))
 have hrl := runesFrom_length s (s.size + 1) 0
 have hle : ∀ j x, (runesFrom s (s.size + 1) 0)[j]? = some x → x ≤ 1114111 := fun j x h => runes_le s _ _ _ (List.mem_of_getElem? h)
 obtain ⟨RT, hRT⟩ : ∃ RT, RT = runesFrom s (s.size + 1) 0 := ⟨_, rfl⟩
 unfold RunesPost at HD
 rw [← hRT] at hrl hle HD
 rw [← hRT]
 have HRL := Lib.hid (show RT.length ≤ s.size by omega)
 have HLE := Lib.hid hle
 have HS3 := Lib.hid (And.intro hs3 hW3)
 have m0 := cell_heap (i := 0) (show W3.heap[w.heap.size]? = some (.cells #[.bool true, .bool fold] 23 (0, 0)) by rw [hW3]; exact (Below.heap_alloc _ _ _ (by simp; omega)).trans ((Below.heap_alloc _ _ _ (by simp)).trans (World.alloc_heap_new w _))) rfl
 rw [hW3] at m0
 clear hW3 hs3 hb3 hT hrl hle hRT
 go_enter Tryz.func29, Tryz.ntmps29
 go_wp2_with fail
 simp only [Nat.add_assoc, Nat.reduceAdd]
 rw [← HS3.out.2]
 clear m0
 refine HD.out.mono ?_
 rintro e w4 ⟨hb4, hD⟩
 have hst : LitSt w w4 w4 w4.heap.size true fold (.slice none 0 0) [] := LitSt.start w w4 true fold (by rw [← HS3.out.2]; have := HS3.out.1; rw [this] at hb4; exact hb4)
 have HST := Lib.hid hst
 by_cases hbad : badFrom s (s.size + 1) 0 < s.size
 ·rw [if_pos hbad] at hD
  subst hD
  have HBAD := Lib.hid hbad
  have d0 := cell_heap (i := 0) HST.out.res rfl
  have d1 := cell_heap (i := 1) HST.out.res rfl
  have d2 := cell_heap (i := 2) HST.out.res rfl
  have d3 := cell_heap (i := 3) HST.out.res rfl
  have d4 := cell_heap (i := 4) HST.out.res rfl
  have d5 := cell_heap (i := 5) HST.out.res rfl
  have q0 : ∀ o, w4.frozen? ⟨w.heap.size + 1, o, none⟩ = false := fun o => by simp [World.frozen?, HST.out.res]
  clear hst hb4 hbad HD
  go_wp2_with fail
  obtain ⟨WF, hWF⟩ : ∃ WF, WF = put6 w4 (w.heap.size + 1) 0 (.int .i64 0) (.int .i64 0) (.int .i64 0) (.int .i64 0) (.slice none 0 0) (.slice none 0 0) := ⟨_, rfl⟩
  have hzF : WF.heap[w.heap.size + 1]? = some (.cells #[.int .i64 0, .int .i64 0, .int .i64 0, .int .i64 0, .slice none 0 0, .slice none 0 0] 43 (0, 0)) := by
   rw [hWF]; unfold put6
   exact set_row (set_row (set_row (set_row (set_row (set_row HST.out.res _ _) _ _) _ _) _ _) _ _) _ _
  have hbF : Below w.heap.size w WF := by rw [hWF]; exact put6_below HST.out.bel (by omega) _ _ _ _ _ _ _
  change bodyPost Tryz.prog Tryz.f29 _ Exit.ret _ (put6 w4 (w.heap.size + 1) 0 (.int .i64 0) (.int .i64 0) (.int .i64 0) (.int .i64 0) (.slice none 0 0) (.slice none 0 0))
  rw [← hWF]
  have r0 := cell_heap (i := 0) hzF rfl
  have r1 := cell_heap (i := 1) hzF rfl
  have r2 := cell_heap (i := 2) hzF rfl
  have r3 := cell_heap (i := 3) hzF rfl
  have r4 := cell_heap (i := 4) hzF rfl
  have r5 := cell_heap (i := 5) hzF rfl
  refine bodyPost_ret (v := .tuple #[.agg #[.int .i64 0, .int .i64 0, .int .i64 0, .int .i64 0, .slice none 0 0, .slice none 0 0], .int .i64 20]) (by simp [results, Tryz.results29, go_sem, r0, r1, r2, r3, r4, r5]) rfl ?_
  refine ⟨hbF, ?_⟩
  first | rfl | (rw [if_pos HBAD.out]; done) | (rw [if_pos HBAD.out])
 ·rw [if_neg hbad] at hD
  obtain ⟨v4, rfl, hown⟩ := hD
  have HBAD := Lib.hid hbad
  obtain ⟨vra, vrc, rfl, hrc⟩ : ∃ vra vrc, v4 = .slice vra RT.length vrc ∧ RT.length ≤ vrc := by
   rcases hown.2 with ⟨e, e0⟩ | ⟨g, cap, cur, e, _, _, hcl, _⟩
   ·exact ⟨none, 0, by rw [e, e0], by omega⟩
   ·exact ⟨_, _, e, hcl⟩
  have HOW := Lib.hid hown
  clear hst hb4 hbad HD hown
  go_wp2_with fail
  go_loopg [43] RT.length (fun gg s43 wr => ∃ (j : Nat) (v : Value), s43 = .int .i64 j ∧ j ≤ RT.length ∧ RT.length - j ≤ gg ∧ Aside0 (LitSt w w4 wr w4.heap.size true fold v ((RT.take j).map fun c : Nat => litNT fold (c : Int))))
  case atStart => exact ⟨0, _, rfl, by omega, by omega, ⟨HST.out⟩⟩
  case round =>
   obtain ⟨j, v, rfl, hj, hgg, HQ⟩ := hrel
   by_cases hlt : j < RT.length
   ·have hlt' : (j : Int) < (RT.length : Int) := by omega
    obtain ⟨xn, hx⟩ : ∃ xn, RT[j]? = some xn := ⟨_, List.getElem?_eq_getElem hlt⟩
    have hxb := HLE.out j xn hx
    obtain ⟨g, rfl⟩ : ∃ g, vra = some ⟨g, 0, none⟩ := by
     rcases HOW.out.2 with ⟨_, e0⟩ | ⟨g, cap, cur, e, _⟩
     ·omega
     ·simp only [Value.slice.injEq] at e; exact ⟨g, e.1⟩
    have hgl := HOW.out.lt g rfl
    have c0 : wr.cell? ⟨g, j, none⟩ = some (.int .i64 (xn : Int)) := by
     rw [World.cell?_of_block (w := w4) (a := ⟨g, j, none⟩) (HQ.out.kept _ (by have := HS3.out.1; simp only; omega) hgl.2), HOW.out.cellAt j (by omega), List.getElem?_map, hx]; rfl
    have hwr : wrap64 (xn : Int) = (xn : Int) := w64_lit _ (by omega) (by omega)
    have hbn : (-9223372036854775808 : Int) ≤ (xn : Int) ∧ (xn : Int) ≤ 9223372036854775807 := ⟨Int.le_trans (by decide) (Int.natCast_nonneg xn), Int.le_trans (Int.ofNat_le.2 hxb) (by decide)⟩
    have htk : RT.take (j + 1) = RT.take j ++ [xn] := by rw [List.take_add_one, hx]; rfl
    have HLC := Lib.hid (lit_calls (xn : Int) hbn true fold w.heap.size (w.heap.size + 2) w4.heap.size _ wr v (by have := HQ.out.bs; omega) HQ.out.sz HQ.out.put (by rw [List.length_map]; have h8 := List.length_take_le j RT; have h9 := HRL.out; omega) HQ.out.mode)
    have HTK := Lib.hid (show (RT.take (j + 1)).map (fun c : Nat => litNT fold (c : Int)) = (RT.take j).map (fun c : Nat => litNT fold (c : Int)) ++ [litNT fold (xn : Int)] by rw [htk, List.map_append]; rfl)
    clear hx hxb htk hgl hbn
    go_wp2_with fail
    refine HLC.out.mono ?_
    rintro e w5 ⟨rfl, v', hp⟩
    have HQ5 := Lib.hid (HQ.out.next hp)
    clear hp HLC c0
    go_wp2_with fail
    go_roundg (RT.length - (j + 1))
    case measure => omega
    case rel => exact ⟨j + 1, v', congrArg (Value.int .i64) (by first | (push_cast; rfl) | (rw [w64_lit _ (by omega) (by have := HRL.out; omega)]; push_cast; rfl)), by omega, Nat.le_refl _, ⟨by rw [HTK.out]; exact HQ5.out⟩⟩
   ·obtain rfl : j = RT.length := by omega
    have hlt' : ¬ (RT.length : Int) < (RT.length : Int) := by omega
    have hall : (RT.take RT.length) = RT := List.take_of_length_le (Nat.le_refl _)
    have hQ := HQ.out
    rw [hall] at hQ
    obtain ⟨O, hO⟩ : ∃ O, O = RT.map fun c : Nat => litNT fold (c : Int) := ⟨_, rfl⟩
    rw [← hO] at hQ
    have hOl : O.length = RT.length := by rw [hO, List.length_map]
    have hOn : NT.nodesL O < 274877906944 := by rw [hO, nodesL_lit]; have := HRL.out; omega
    have HQQ := Lib.hid hQ
    have cb := hQ.box.cell
    obtain ⟨va, vc, rfl⟩ : ∃ va vc, v = .slice va O.length vc := by
     obtain ⟨cs, _, h2, _⟩ := hQ.trees
     rcases h2.2 with ⟨e, e0⟩ | ⟨g, cap, cur, e, _⟩
     ·exact ⟨none, 0, by rw [e, e0]⟩
     ·exact ⟨_, _, e⟩
    have HCAT := Lib.hid (cat_calls va O.length vc O wr rfl hOn (HQQ.out.trees.arg rfl))
    have HO := Lib.hid hO
    clear hQ hall hO hOl hOn
    go_wp2_with fail
    refine HCAT.out.mono ?_
    rintro e w5 ⟨cs', rfl, hN, hb⟩
    obtain ⟨T, hT⟩ : ∃ T, T = catT O := ⟨_, rfl⟩
    rw [← hT] at hN
    obtain ⟨k, m, lo, hi, r, kids⟩ := T
    obtain ⟨ar, ak, cr, ck, rfl⟩ := NIn.shape hN
    have hres := (hb.block _ (by have h1 := HQQ.out.sz; have h2 := HQQ.out.bs; omega)).trans HQQ.out.res
    have hbel := HQQ.out.bel.trans (hb.mono HQQ.out.bel.size)
    have hz5 : w.heap.size + 3 ≤ w5.heap.size := by have h1 := HQQ.out.sz; have h2 := HQQ.out.bs; have h3 := hb.size; omega
    have HRS := Lib.hid hres
    have HBL := Lib.hid hbel
    have HNN := Lib.hid hN
    have HTT := Lib.hid (hT.trans (by rw [HO.out]))
    have HZ5 := Lib.hid (And.intro hz5 (show w.heap.size + 3 ≤ wr.heap.size by have h1 := HQQ.out.sz; have h2 := HQQ.out.bs; omega))
    have d0 := cell_heap (i := 0) hres rfl
    have d1 := cell_heap (i := 1) hres rfl
    have d2 := cell_heap (i := 2) hres rfl
    have d3 := cell_heap (i := 3) hres rfl
    have d4 := cell_heap (i := 4) hres rfl
    have d5 := cell_heap (i := 5) hres rfl
    have q0 : ∀ o, w5.frozen? ⟨w.heap.size + 1, o, none⟩ = false := fun o => by simp [World.frozen?, hres]
    clear hres hbel hN hT hz5 hb cb HCAT
    go_wp2_with fail
    obtain ⟨WF, hWF⟩ : ∃ WF, WF = put6 w5 (w.heap.size + 1) 0 (.int .i64 k) (.int .i64 m) (.int .i64 lo) (.int .i64 hi) (.slice ar r.length cr) (.slice ak kids.length ck) := ⟨_, rfl⟩
    have hzF : WF.heap[w.heap.size + 1]? = some (.cells #[.int .i64 k, .int .i64 m, .int .i64 lo, .int .i64 hi, .slice ar r.length cr, .slice ak kids.length ck] 43 (0, 0)) := by
     rw [hWF]; unfold put6
     exact set_row (set_row (set_row (set_row (set_row (set_row HRS.out _ _) _ _) _ _) _ _) _ _) _ _
    have hbF : Below w.heap.size w WF := by rw [hWF]; exact put6_below HBL.out (by omega) _ _ _ _ _ _ _
    have hmF : ∀ b, wr.heap.size ≤ b → WF.heap[b]? = w5.heap[b]? := fun b hb => by rw [hWF]; exact put6_other _ _ _ _ _ _ _ _ _ b (by have := HZ5.out.2; omega)
    have hsF : WF.heap.size = w5.heap.size := by rw [hWF]; exact put6_size _ _ _ _ _ _ _ _ _
    change bodyPost Tryz.prog Tryz.f29 _ Exit.ret _ (put6 w5 (w.heap.size + 1) 0 (.int .i64 k) (.int .i64 m) (.int .i64 lo) (.int .i64 hi) (.slice ar r.length cr) (.slice ak kids.length ck))
    rw [← hWF]
    have r0 := cell_heap (i := 0) hzF rfl
    have r1 := cell_heap (i := 1) hzF rfl
    have r2 := cell_heap (i := 2) hzF rfl
    have r3 := cell_heap (i := 3) hzF rfl
    have r4 := cell_heap (i := 4) hzF rfl
    have r5 := cell_heap (i := 5) hzF rfl
    refine bodyPost_ret (v := .tuple #[.agg #[.int .i64 k, .int .i64 m, .int .i64 lo, .int .i64 hi, .slice ar r.length cr, .slice ak kids.length ck], .int .i64 0]) (by simp [results, Tryz.results29, go_sem, r0, r1, r2, r3, r4, r5]) rfl ?_
    refine ⟨hbF, ?_⟩
    try rw [if_neg HBAD.out]
    refine ⟨[.int .i64 k, .int .i64 m, .int .i64 lo, .int .i64 hi, .slice ar r.length cr, .slice ak kids.length ck], rfl, ?_⟩
    rw [← HTT.out]
    exact (HNN.out.move (fun b hb => hmF b hb.1)).mono (fun b hb => ⟨by have := HZ5.out.2; omega, by rw [hsF]; exact hb.2⟩)
end Go.Proofs.YtamhkdlcoghdbaaGreatDoor.PCls
