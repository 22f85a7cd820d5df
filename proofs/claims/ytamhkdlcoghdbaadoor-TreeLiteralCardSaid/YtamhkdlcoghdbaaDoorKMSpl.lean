/- Put together (wip/tools/pack.py): Spl, Nd, Lx. -/
import Derived.Test.YtamhkdlcoghdbaaDoorKSpell3
import Derived.Test.YtamhkdlcoghdbaaDoorKLiteral
import Derived.WalkLawsBesides
import Derived.Lib.Strings
import Derived.Lib.Index
/- TreeSpells: the law. -/
namespace Go.Proofs.YtamhkdlcoghdbaaDoor.PCls
open Go.RowKit Go.Shelf Go.Proofs.YtamhkdlcoghdbaaDoorW.PrintWords Go.Proofs.YtamhkdlcoghdbaaDoorW.PrintLast Go.Proofs.YtamhkdlcoghdbaaDoorW.PrintMore
set_option linter.unusedVariables false
set_option linter.unusedSimpArgs false

/-- is a text one? -/
def okB (chars : Bool) (s : ByteArray) : Bool := !chars || !decide (badFrom s (s.size + 1) 0 < s.size)
/-- the sets of its units -/
def unitsT (chars fold : Bool) (s : ByteArray) : List NT := if chars = true then (runesFrom s (s.size + 1) 0).map fun c : Nat => litNT fold (c : Int) else s.data.toList.map fun c => litNT fold (c.toNat : Int)
theorem literal_any (s : ByteArray) (chars fold : Bool) (w : World) (hs : s.size < 274877906) (hT : Lib.Utf8Tabs 0 1 w) :
  Calls Tryd.prog 10 #[.string s, .agg #[.bool chars, .bool fold]] w fun e w' => Below w.heap.size w w' ∧ if okB chars s = true then ∃ cs' : List Value, e = .returned (.tuple #[.agg cs'.toArray, .int .i64 0]) ∧ NIn w' (fun b => w.heap.size ≤ b ∧ b < w'.heap.size) (catT (unitsT chars fold s)) cs' else e = .returned (.tuple #[.agg #[.int .i64 0, .int .i64 0, .int .i64 0, .int .i64 0, .slice none 0 0, .slice none 0 0], .int .i64 20]) := by
 cases chars with
 | false => exact (literal_bytes s fold w hs).mono fun e w' ⟨cs, h1, h2, h3⟩ => ⟨h3, cs, h1, h2⟩
 | true =>
  refine (literal_chars s fold w hs hT).mono fun e w' ⟨h1, h2⟩ => ⟨h1, ?_⟩
  by_cases h : badFrom s (s.size + 1) 0 < s.size
  ·rw [if_pos h] at h2
   rw [if_neg (by simp [okB, h])]; exact h2
  ·rw [if_neg h] at h2
   rw [if_pos (by simp [okB, h])]
   exact h2
theorem units_leaf (chars fold : Bool) (s : ByteArray) : ∀ t, t ∈ unitsT chars fold s → Leaf chars fold t := by
 intro t ht
 unfold unitsT at ht
 split at ht
 ·next h =>
  subst h
  obtain ⟨c, hc, rfl⟩ := List.mem_map.1 ht
  exact leaf_lit _ _ _ (runes_char s _ _ c hc)
 ·next h =>
  obtain ⟨c, hc, rfl⟩ := List.mem_map.1 ht
  refine leaf_lit _ _ _ ?_
  rw [all_mem, if_neg h]
  have := c.toNat_lt
  omega
theorem units_len (chars fold : Bool) (s : ByteArray) : (unitsT chars fold s).length ≤ s.size := by
 unfold unitsT
 split
 ·rw [List.length_map]; have := runesFrom_length s (s.size + 1) 0; omega
 ·rw [List.length_map, Lib.size_eq]; exact Nat.le_refl _
theorem leaves_nodes {chars fold : Bool} : ∀ l : List NT, (∀ t, t ∈ l → Leaf chars fold t) → NT.nodesL l = l.length
 | [], _ => rfl
 | t :: l, h => by
  obtain ⟨r, rfl, _⟩ := h t List.mem_cons_self
  have := leaves_nodes l (fun x hx => h x (List.mem_cons_of_mem _ hx))
  simp only [NT.nodesL, NT.nodes, List.length_cons]
  omega
theorem leaves_plain {chars fold : Bool} {l : List NT} (h : ∀ t, t ∈ l → Leaf chars fold t) : ∀ t, t ∈ l → t.k ≠ 1 ∧ t.k ≠ 5 := fun t ht => by obtain ⟨r, rfl, _⟩ := h t ht; simp [NT.k]
theorem units_two (chars fold : Bool) (a b : ByteArray) (ha : okB chars a = true) (hb : okB chars b = true) : unitsT chars fold (a ++ b) = unitsT chars fold a ++ unitsT chars fold b ∧ okB chars (a ++ b) = true := by
 cases chars with
 | false => exact ⟨by simp [unitsT], rfl⟩
 | true =>
  have h := runes_two a b (by simpa [okB] using ha) (by simpa [okB] using hb)
  exact ⟨by simp only [unitsT, if_true]; rw [h.1, List.map_append], by simpa [okB] using h.2⟩
/-- a tree in a block of its own -/
def HeldT (W : World) (B : Nat) (t : NT) (v0 v1 v2 v3 v4 v5 : Value) : Prop := W.heap[B]? = some (.cells #[v0, v1, v2, v3, v4, v5] 28 (0, 0)) ∧ NIn W (· < W.heap.size) t [v0, v1, v2, v3, v4, v5]
theorem HeldT.below {A B : World} {b : Nat} {t : NT} {v0 v1 v2 v3 v4 v5 : Value} (h : HeldT A b t v0 v1 v2 v3 v4 v5) (hb : Below A.heap.size A B) : HeldT B b t v0 v1 v2 v3 v4 v5 :=
 ⟨(hb.block b (Array.getElem?_eq_some_iff.1 h.1).1).trans h.1, (h.2.keep hb).mono (fun b hb' => Nat.lt_of_lt_of_le hb' hb.size)⟩
theorem HeldT.lt {A : World} {b : Nat} {t : NT} {v0 v1 v2 v3 v4 v5 : Value} (h : HeldT A b t v0 v1 v2 v3 v4 v5) : b < A.heap.size := (Array.getElem?_eq_some_iff.1 h.1).1
theorem HeldT.new {W : World} {t : NT} {v0 v1 v2 v3 v4 v5 : Value} (h : NIn W (· < W.heap.size) t [v0, v1, v2, v3, v4, v5]) : HeldT (W.alloc (.cells #[v0, v1, v2, v3, v4, v5] 28)) W.heap.size t v0 v1 v2 v3 v4 v5 :=
 ⟨World.alloc_heap_new W _, (h.move (fun b hb => Below.heap_alloc _ _ _ hb)).mono (fun b hb => by simp; omega)⟩
theorem six {W : World} {P : Nat → Prop} {t : NT} {cs : List Value} (h : NIn W P t cs) : ∃ (k m lo hi : Int) (ar ak : Option Addr) (lr cr lk ck : Nat), cs = [.int .i64 k, .int .i64 m, .int .i64 lo, .int .i64 hi, .slice ar lr cr, .slice ak lk ck] := by
 cases h; exact ⟨_, _, _, _, _, _, _, _, _, _, rfl⟩
set_option maxHeartbeats 4000000 in
set_option maxRecDepth 100000 in
theorem spells_many (a b : ByteArray) (chars fold : Bool) (w : World) (ha : a.size ≤ 140737488351232) (hb : b.size ≤ 140737488351232) (hm : 1900 < a.size + b.size) :
  Calls Tryd.prog 3 #[.string a, .string b, .agg #[.bool chars, .bool fold]] w fun e w' => e = .returned (.bool true) ∧ Below w.heap.size w w' := by
 have e1 : IntKind.i64.wrap ((a.size : Int) + (b.size : Int)) = (a.size : Int) + (b.size : Int) := IntWalk.i64_in _ (by omega)
 have hm' : (1900 : Int) < (a.size : Int) + (b.size : Int) := by omega
 clear hm
 go_enter Tryd.func3, Tryd.ntmps3
 go_wp2_with fail
 refine (examples_calls _).mono ?_
 rintro e w4 ⟨rfl, hb4⟩
 have HB := Lib.hid (((Below.refl _ w).alloc (Nat.le_refl _) (.cells #[.bool chars, .bool fold] 23)).trans (hb4.mono (by simp)))
 clear hb4
 go_wp2_with fail
 go_ret
 exact ⟨rfl, HB.out⟩
theorem Below.cells' {n : Nat} {A W : World} (h : Below n A W) : ∀ b o, b < n → W.cell? ⟨b, o, none⟩ = A.cell? ⟨b, o, none⟩ := fun b o hb => h.cell (p := ⟨b, o, none⟩) hb
theorem heapCell {w : World} {b i : Nat} {cs : Array Value} {t : TypeId} {v : Value} (h : w.heap[b]? = some (.cells cs t (0, 0))) (hi : cs[i]? = some v) : w.cell? ⟨b, i, none⟩ = some v := by
 simp [World.cell?, h, hi]
/-- Cat of two trees that are handed over in a row -/
theorem cat_two_calls (W : World) (B : Nat) (t0 t1 : NT) (x0 x1 x2 x3 x4 x5 y0 y1 y2 y3 y4 y5 : Value) (hB : W.heap[B]? = some (.cells #[x0, x1, x2, x3, x4, x5, y0, y1, y2, y3, y4, y5] 28 (0, 0))) (h0 : NIn W (· < W.heap.size) t0 [x0, x1, x2, x3, x4, x5]) (h1 : NIn W (· < W.heap.size) t1 [y0, y1, y2, y3, y4, y5]) (hn : t0.nodes + t1.nodes < 274877906944) :
  Calls Tryd.prog 13 #[.slice (some ⟨B, 0, none⟩) 2 2] W fun e w' => ∃ v0 v1 v2 v3 v4 v5 : Value, e = .returned (.agg #[v0, v1, v2, v3, v4, v5]) ∧ NIn w' (fun b => W.heap.size ≤ b ∧ b < w'.heap.size) (catT [t0, t1]) [v0, v1, v2, v3, v4, v5] ∧ Below W.heap.size W w' := by
 have hlt := (Array.getElem?_eq_some_iff.1 hB).1
 refine (cat_calls (some ⟨B, 0, none⟩) 2 2 [t0, t1] W rfl (by simp only [NT.nodesL]; omega) (fun j t ht => ?_)).mono ?_
 ·obtain ⟨cs, hn, hc⟩ := args_at (P := (· < W.heap.size)) (l := [t0, t1]) (css := [[x0, x1, x2, x3, x4, x5], [y0, y1, y2, y3, y4, y5]]) (by simpa using hB) rfl (fun j t cs g1 g2 => by
   match j with
   | 0 => simp only [List.getElem?_cons_zero, Option.some.injEq] at g1 g2; subst g1 g2; exact h0
   | 1 => simp only [List.getElem?_cons_succ, List.getElem?_cons_zero, Option.some.injEq] at g1 g2; subst g1 g2; exact h1
   | j + 2 => simp at g1) (fun c h => by simp at h; rcases h with rfl | rfl <;> rfl) j t ht
  exact ⟨_, cs, rfl, hlt, hn, hc⟩
 ·rintro e w' ⟨cs, rfl, hn, hb⟩
  obtain ⟨k, m, lo, hi, ar, ak, lr, cr, lk, ck, rfl⟩ := six hn
  exact ⟨_, _, _, _, _, _, rfl, hn, hb⟩
set_option maxHeartbeats 8000000 in
set_option maxRecDepth 100000 in
theorem spells_few (a b : ByteArray) (chars fold : Bool) (w : World) (hT : Lib.Utf8Tabs 0 1 w) (hm : a.size + b.size ≤ 1900) :
  Calls Tryd.prog 3 #[.string a, .string b, .agg #[.bool chars, .bool fold]] w fun e w' => e = .returned (.bool true) ∧ Below w.heap.size w w' := by
 have e1 : IntKind.i64.wrap ((a.size : Int) + (b.size : Int)) = (a.size : Int) + (b.size : Int) := IntWalk.i64_in _ (by omega)
 have hm' : ¬ (1900 : Int) < (a.size : Int) + (b.size : Int) := by omega
 have HM := Lib.hid hm
 have HT := Lib.hid hT
 clear hm hT
 obtain ⟨M, hM⟩ : ∃ M, M = w.heap.size := ⟨_, rfl⟩
 obtain ⟨W1, hW1⟩ : ∃ X, X = w.alloc (.cells #[.bool chars, .bool fold] 23) := ⟨_, rfl⟩
 have hb1 : Below w.heap.size w W1 := by rw [hW1]; exact (Below.refl _ w).alloc (Nat.le_refl _) _
 have hk1 : W1.heap[M]? = some (.cells #[.bool chars, .bool fold] 23 (0, 0)) := by rw [hW1, hM]; exact World.alloc_heap_new w _
 have H1 := Lib.hid (And.intro hb1 (And.intro hk1 (And.intro hM hW1)))
 clear hb1 hk1 hM hW1
 go_enter Tryd.func3, Tryd.ntmps3
 go_wp2_with fail
 rw [← H1.out.2.2.2, ← H1.out.2.2.1]
 refine (examples_calls _).mono ?_
 rintro e W2 ⟨rfl, hb2⟩
 have hB2 : Below w.heap.size w W2 := H1.out.1.trans (hb2.mono H1.out.1.size)
 have hk2 : W2.heap[M]? = some (.cells #[.bool chars, .bool fold] 23 (0, 0)) := (hb2.block M (Array.getElem?_eq_some_iff.1 H1.out.2.1).1).trans H1.out.2.1
 have HB2 := Lib.hid hB2
 have HK2 := Lib.hid hk2
 have m0 := heapCell (i := 0) hk2 rfl
 have m1 := heapCell (i := 1) hk2 rfl
 clear hb2 hB2 hk2
 have HL := Lib.hid (literal_any a chars fold W2 (by have := HM.out; omega) (tabs_below HT.out HB2.out))
 go_wp2_with fail
 refine HL.out.mono ?_
 rintro e W3 ⟨hb3, hL⟩
 clear HL m0 m1 e1 hm'
 have hB3 := HB2.out.trans (hb3.mono HB2.out.size)
 have hk3 : W3.heap[M]? = some (.cells #[.bool chars, .bool fold] 23 (0, 0)) := (hb3.block M (Array.getElem?_eq_some_iff.1 HK2.out).1).trans HK2.out
 have HB3 := Lib.hid hB3
 have HK3 := Lib.hid hk3
 have m0 := heapCell (i := 0) hk3 rfl
 have m1 := heapCell (i := 1) hk3 rfl
 have hl3 := (Array.getElem?_eq_some_iff.1 hk3).1
 clear hB3 hk3
 by_cases hoa : okB chars a = true
 ·rw [if_pos hoa] at hL
  obtain ⟨cs, rfl, hN⟩ := hL
  obtain ⟨k1, k2, k3, k4, k5, k6, k7, k8, k9, k10, rfl⟩ := six hN
  have HX3 := Lib.hid hN
  have HOA := Lib.hid hoa
  clear hN hoa
  go_wp2_with fail
  obtain ⟨X, hX⟩ : ∃ X, X = W3.heap.size := ⟨_, rfl⟩
  refine (literal_any b chars fold _ (by have := HM.out; omega) (tabs_below HT.out (HB3.out.alloc HB3.out.size _))).mono ?_
  rintro e W5 ⟨hb5, hL⟩
  have hB5 := (HB3.out.alloc HB3.out.size _).trans (hb5.mono (HB3.out.alloc HB3.out.size _).size)
  have HB5 := Lib.hid hB5
  have hb35 := ((Below.refl W3.heap.size W3).alloc (Nat.le_refl _) _).trans (hb5.mono (by simp))
  have hz5 : M < W5.heap.size := Nat.lt_of_lt_of_le hl3 hb35.size
  have n0 := (Below.cells' hb35 M 0 hl3).trans m0
  have n1 := (Below.cells' hb35 M 1 hl3).trans m1
  have HK5 := Lib.hid ((hb35.block M hl3).trans HK3.out)
  have hx5 := (HeldT.new (HX3.out.mono (fun b hb => hb.2))).below hb5
  rw [← hX] at hx5 ⊢
  have HX5 := Lib.hid hx5
  have hxz := hx5.lt
  have p0 := heapCell (i := 0) hx5.1 rfl
  have p1 := heapCell (i := 1) hx5.1 rfl
  have p2 := heapCell (i := 2) hx5.1 rfl
  have p3 := heapCell (i := 3) hx5.1 rfl
  have p4 := heapCell (i := 4) hx5.1 rfl
  have p5 := heapCell (i := 5) hx5.1 rfl
  clear m0 m1 hB5 hx5 hb35 hb5 hl3 hX
  by_cases hob : okB chars b = true
  ·rw [if_pos hob] at hL
   obtain ⟨cs, rfl, hN⟩ := hL
   obtain ⟨l1, l2, l3, l4, l5, l6, l7, l8, l9, l10, rfl⟩ := six hN
   have HY5 := Lib.hid hN
   have HOB := Lib.hid hob
   clear hN hob
   go_wp2_with fail
   obtain ⟨Y, hY⟩ : ∃ Y, Y = W5.heap.size := ⟨_, rfl⟩
   have hokz := (units_two chars fold a b HOA.out HOB.out)
   have HZT := Lib.hid hokz.1
   have HOZ := Lib.hid hokz.2
   clear hokz
   refine (literal_any (a ++ b) chars fold _ (by rw [size_append']; have := HM.out; omega) (tabs_below HT.out (HB5.out.alloc HB5.out.size _))).mono ?_
   rintro e W7 ⟨hb7, hL⟩
   rw [if_pos HOZ.out] at hL
   obtain ⟨cs, rfl, hN⟩ := hL
   obtain ⟨r1, r2, r3, r4, r5, r6, r7, r8, r9, r10, rfl⟩ := six hN
   have hB7 := (HB5.out.alloc HB5.out.size _).trans (hb7.mono (HB5.out.alloc HB5.out.size _).size)
   have hb57 := ((Below.refl W5.heap.size W5).alloc (Nat.le_refl _) _).trans (hb7.mono (by simp))
   have hy7 := (HeldT.new (HY5.out.mono (fun b hb => hb.2))).below hb7
   have hx7 := HX5.out.below hb57
   have hm7 : W7.heap[M]? = some (.cells #[.bool chars, .bool fold] 23 (0, 0)) := (hb57.block M hz5).trans HK5.out
   rw [← hY] at hy7 ⊢
   have HF := Lib.hid (And.intro hB7 (And.intro hx7 (And.intro hy7 (And.intro hm7 hN))))
   clear hb57 hb7 p0 p1 p2 p3 p4 p5 n0 n1 hxz hz5 hY HX5 HY5 hx7 hy7 hm7 hN hB7
   go_wp2_with fail
   obtain ⟨Z, hZ⟩ : ∃ Z, Z = W7.heap.size := ⟨_, rfl⟩
   obtain ⟨W8, hW8⟩ : ∃ W8, W8 = W7.alloc (.cells #[.int .i64 r1, .int .i64 r2, .int .i64 r3, .int .i64 r4, .slice r5 r7 r8, .slice r6 r9 r10] 28) := ⟨_, rfl⟩
   have hb78 : Below W7.heap.size W7 W8 := by rw [hW8]; exact (Below.refl _ W7).alloc (Nat.le_refl _) _
   have hz8 : HeldT W8 Z (catT (unitsT chars fold (a ++ b))) (.int .i64 r1) (.int .i64 r2) (.int .i64 r3) (.int .i64 r4) (.slice r5 r7 r8) (.slice r6 r9 r10) := by rw [hW8, hZ]; exact HeldT.new (HF.out.2.2.2.2.mono (fun b hb => hb.2))
   have hx8 := HF.out.2.1.below hb78
   have hy8 := HF.out.2.2.1.below hb78
   have hm8 := (hb78.block M (Array.getElem?_eq_some_iff.1 HF.out.2.2.2.1).1).trans HF.out.2.2.2.1
   have HB8 := Lib.hid (HF.out.1.trans (hb78.mono HF.out.1.size))
   rw [← hW8, ← hZ]
   clear hb78 hW8 hZ HF
   obtain ⟨UA, hUA⟩ : ∃ U, U = unitsT chars fold a := ⟨_, rfl⟩
   obtain ⟨UB, hUB⟩ : ∃ U, U = unitsT chars fold b := ⟨_, rfl⟩
   have hla : ∀ t, t ∈ UA → Leaf chars fold t := by rw [hUA]; exact units_leaf chars fold a
   have hlb : ∀ t, t ∈ UB → Leaf chars fold t := by rw [hUB]; exact units_leaf chars fold b
   have hna : UA.length ≤ a.size := by rw [hUA]; exact units_len chars fold a
   have hnb : UB.length ≤ b.size := by rw [hUB]; exact units_len chars fold b
   rw [HZT.out] at hz8
   rw [← hUA] at hx8 hz8
   rw [← hUB] at hy8 hz8
   have hm := HM.out
   have hlz : ∀ t, t ∈ UA ++ UB → Leaf chars fold t := fun t ht => by rcases List.mem_append.1 ht with h | h; exact hla t h; exact hlb t h
   have hza := leaves_nodes UA hla
   have hzb := leaves_nodes UB hlb
   have hzz := leaves_nodes (UA ++ UB) hlz
   have hca := catT_nodes UA
   have hcb := catT_nodes UB
   have hcz := catT_nodes (UA ++ UB)
   have hlen : (UA ++ UB).length = UA.length + UB.length := List.length_append
   have HP := Lib.hid (show rightT (catT UA) chars fold = 0 ∧ rightT (catT (UA ++ UB)) chars fold = 0 ∧ sameT (catT (UA ++ UB)) (catT [catT UA, catT UB]) = true ∧ (catT UA).nodes < 10000 ∧ (catT UB).nodes < 10000 ∧ (catT (UA ++ UB)).nodes < 10000 ∧ (catT [catT UA, catT UB]).nodes < 10000 from by
    have e := cat_both UA UB (leaves_plain hla) (leaves_plain hlb)
    rw [e]
    exact ⟨right_sets UA hla (by omega), right_sets _ hlz (by omega), same_self _ (by omega), by omega, by omega, by omega, by omega⟩)
   clear hUA hUB hla hlb hna hnb hm hlz hza hzb hzz hca hcb hcz hlen HZT HOA HOB HOZ
   have lx := hx8.lt
   have ly := hy8.lt
   have lz := hz8.lt
   have lm := (Array.getElem?_eq_some_iff.1 hm8).1
   have x0 := heapCell (i := 0) hx8.1 rfl
   have x1 := heapCell (i := 1) hx8.1 rfl
   have x2 := heapCell (i := 2) hx8.1 rfl
   have x3 := heapCell (i := 3) hx8.1 rfl
   have x4 := heapCell (i := 4) hx8.1 rfl
   have x5 := heapCell (i := 5) hx8.1 rfl
   have y0 := heapCell (i := 0) hy8.1 rfl
   have y1 := heapCell (i := 1) hy8.1 rfl
   have y2 := heapCell (i := 2) hy8.1 rfl
   have y3 := heapCell (i := 3) hy8.1 rfl
   have y4 := heapCell (i := 4) hy8.1 rfl
   have y5 := heapCell (i := 5) hy8.1 rfl
   have z0 := heapCell (i := 0) hz8.1 rfl
   have z1 := heapCell (i := 1) hz8.1 rfl
   have z2 := heapCell (i := 2) hz8.1 rfl
   have z3 := heapCell (i := 3) hz8.1 rfl
   have z4 := heapCell (i := 4) hz8.1 rfl
   have z5 := heapCell (i := 5) hz8.1 rfl
   have m0 := heapCell (i := 0) hm8 rfl
   have m1 := heapCell (i := 1) hm8 rfl
   have HX8 := Lib.hid hx8
   have HY8 := Lib.hid hy8
   have HZ8 := Lib.hid hz8
   clear hx8 hy8 hz8 hm8
   refine go_start (fun w' => Below W8.heap.size W8 w') [] [.p 0, .p 1, .p 2, .p 3, .p 4, .p 5, .t 6, .t 7, .o 8, .p 9, .p 10, .p 11, .t 12, .t 13, .o 14, .p 15, .p 16, .p 17, .t 18, .t 19, .t 20, .o 21, .o 22, .o 23, .p 24, .p 25] (by kernel_rfl) (by kernel_rfl) (fun c d v a w h => by cases d <;> exact h) ((Below.refl _ W8).drew) (fun w2 hS2 => ?_)
   repeat
    refine go_p (v := ?_) (b := ?_) rfl (.inl ⟨by rfl, ?_⟩) ?_ ?_
    rotate_left 2
    ·intro w'; go_simp; with_reducible rfl
    ·simp only [Act.put, List.setIfInBounds_toArray, List.set_cons_zero, List.set_cons_succ]; rfl
   repeat
    refine go_t (v := ?_) (b := ?_) rfl (.inl ⟨by rfl, ?_⟩) ?_ ?_
    rotate_left 2
    ·intro w' hS; have hc := Below.cells' hS; go_simp; with_reducible rfl
    ·simp only [Act.put, List.setIfInBounds_toArray, List.set_cons_zero, List.set_cons_succ]; rfl
   have gX := HX8.out.below hS2
   refine go_call rfl (by rfl) Tryd.func11 (by kernel_rfl) rfl (by simp only [List.map_toArray, List.map_cons, List.map_nil]; rfl) (right_calls (catT UA) [_, _, _, _, _, _] chars fold w2 gX.2 (by have := HP.out; omega)) ?_
   rintro e w3 ⟨rfl, hb⟩
   rw [HP.out.1]
   have hS3 : Below W8.heap.size W8 w3 := hS2.trans (hb.mono hS2.size)
   refine ⟨_, _, rfl, hS3, (by simp only [Act.put, List.setIfInBounds_toArray, List.set_cons_zero, List.set_cons_succ]; rfl), ?_⟩
   clear hb hS2 gX
   repeat
    refine go_p (v := ?_) (b := ?_) rfl (.inl ⟨by rfl, ?_⟩) ?_ ?_
    rotate_left 2
    ·intro w'; go_simp; with_reducible rfl
    ·simp only [Act.put, List.setIfInBounds_toArray, List.set_cons_zero, List.set_cons_succ]; rfl
   repeat
    refine go_t (v := ?_) (b := ?_) rfl (.inl ⟨by rfl, ?_⟩) ?_ ?_
    rotate_left 2
    ·intro w' hS; have hc := Below.cells' hS; go_simp; with_reducible rfl
    ·simp only [Act.put, List.setIfInBounds_toArray, List.set_cons_zero, List.set_cons_succ]; rfl
   have gZ := HZ8.out.below hS3
   refine go_call rfl (by rfl) Tryd.func11 (by kernel_rfl) rfl (by simp only [List.map_toArray, List.map_cons, List.map_nil]; rfl) (right_calls (catT (UA ++ UB)) [_, _, _, _, _, _] chars fold w3 gZ.2 (by have := HP.out; omega)) ?_
   rintro e w4 ⟨rfl, hb⟩
   rw [HP.out.2.1]
   have hS4 : Below W8.heap.size W8 w4 := hS3.trans (hb.mono hS3.size)
   refine ⟨_, _, rfl, hS4, (by simp only [Act.put, List.setIfInBounds_toArray, List.set_cons_zero, List.set_cons_succ]; rfl), ?_⟩
   clear hb hS3 gZ
   repeat
    refine go_p (v := ?_) (b := ?_) rfl (.inl ⟨by rfl, ?_⟩) ?_ ?_
    rotate_left 2
    ·intro w'; go_simp; with_reducible rfl
    ·simp only [Act.put, List.setIfInBounds_toArray, List.set_cons_zero, List.set_cons_succ]; rfl
   repeat
    refine go_t (v := ?_) (b := ?_) rfl (.inl ⟨by rfl, ?_⟩) ?_ ?_
    rotate_left 2
    ·intro w' hS; have hc := Below.cells' hS; go_simp; with_reducible rfl
    ·simp only [Act.put, List.setIfInBounds_toArray, List.set_cons_zero, List.set_cons_succ]; rfl
   refine go_val (v := .slice (some ⟨w4.heap.size, 0, none⟩) 2 2) (w1 := w4.alloc (.cells #[.int .i64 k1, .int .i64 k2, .int .i64 k3, .int .i64 k4, .slice k5 k7 k8, .slice k6 k9 k10, .int .i64 l1, .int .i64 l2, .int .i64 l3, .int .i64 l4, .slice l5 l7 l8, .slice l6 l9 l10] 28)) rfl (by rfl) (by go_simp; first | done | rfl) (by simp only [Act.put, List.setIfInBounds_toArray, List.set_cons_zero, List.set_cons_succ]; rfl) (hS4.alloc hS4.size _) ?_
   obtain ⟨w5, hw5⟩ : ∃ X, X = w4.alloc (.cells #[.int .i64 k1, .int .i64 k2, .int .i64 k3, .int .i64 k4, .slice k5 k7 k8, .slice k6 k9 k10, .int .i64 l1, .int .i64 l2, .int .i64 l3, .int .i64 l4, .slice l5 l7 l8, .slice l6 l9 l10] 28) := ⟨_, rfl⟩
   have hk5 : w5.heap[w4.heap.size]? = some (.cells #[.int .i64 k1, .int .i64 k2, .int .i64 k3, .int .i64 k4, .slice k5 k7 k8, .slice k6 k9 k10, .int .i64 l1, .int .i64 l2, .int .i64 l3, .int .i64 l4, .slice l5 l7 l8, .slice l6 l9 l10] 28 (0, 0)) := by rw [hw5]; exact World.alloc_heap_new w4 _
   have hS5 : Below W8.heap.size W8 w5 := by rw [hw5]; exact hS4.alloc hS4.size _
   rw [← hw5]
   clear hw5 hS4
   refine go_call rfl (by rfl) Tryd.func13 (by kernel_rfl) rfl (by simp only [List.map_toArray, List.map_cons, List.map_nil]; rfl) (cat_two_calls w5 _ (catT UA) (catT UB) _ _ _ _ _ _ _ _ _ _ _ _ hk5 (HX8.out.below hS5).2 (HY8.out.below hS5).2 (by have := HP.out; omega)) ?_
   rintro e w6 ⟨v0, v1, v2, v3, v4, v5, rfl, hN6, hb6⟩
   have hS6 : Below W8.heap.size W8 w6 := hS5.trans (hb6.mono hS5.size)
   refine ⟨_, _, rfl, hS6, (by simp only [Act.put, List.setIfInBounds_toArray, List.set_cons_zero, List.set_cons_succ]; rfl), ?_⟩
   clear hb6 hS5 hk5
   refine go_call rfl (by rfl) Tryd.func12 (by kernel_rfl) rfl (by simp only [List.map_toArray, List.map_cons, List.map_nil]; rfl) (Same_calls w6.heap.size (catT (UA ++ UB)) (catT [catT UA, catT UB]) [_, _, _, _, _, _] [_, _, _, _, _, _] w6 (Nat.le_refl _) (HZ8.out.below hS6).2 (hN6.mono (fun b hb => hb.2)) (by have := HP.out; omega) (by have := HP.out; omega)) ?_
   rintro e w7 ⟨rfl, hb7⟩
   have hS7 : Below W8.heap.size W8 w7 := hS6.trans (hb7.mono hS6.size)
   rw [HP.out.2.2.1]
   refine ⟨_, _, rfl, hS7, (by simp only [Act.put, List.setIfInBounds_toArray, List.set_cons_zero, List.set_cons_succ]; rfl), ?_⟩
   clear hb7 hS6 hN6
   repeat
    refine go_p (v := ?_) (b := ?_) rfl (.inl ⟨by rfl, ?_⟩) ?_ ?_
    rotate_left 2
    ·intro w'; go_simp; with_reducible rfl
    ·simp only [Act.put, List.setIfInBounds_toArray, List.set_cons_zero, List.set_cons_succ]; rfl
   refine go_done ?_
   clear x0 x1 x2 x3 x4 x5 y0 y1 y2 y3 y4 y5 z0 z1 z2 z3 z4 z5 m0 m1
   go_wp2_with fail
   go_ret
   exact ⟨rfl, HB8.out.trans (hS7.mono HB8.out.size)⟩
  ·rw [if_neg hob] at hL
   subst hL
   have hch : chars = true := by cases chars; simp [okB] at hob; rfl
   subst hch
   clear hob p0 p1 p2 p3 p4 p5
   go_wp2_with fail
   go_ret
   exact ⟨rfl, HB5.out.alloc HB5.out.size _⟩
 ·rw [if_neg hoa] at hL
  subst hL
  have hch : chars = true := by cases chars; simp [okB] at hoa; rfl
  subst hch
  clear hoa
  go_wp2_with fail
  refine (literal_any b true fold _ (by have := HM.out; omega) (tabs_below HT.out (HB3.out.alloc HB3.out.size _))).mono ?_
  rintro e W5 ⟨hb5, hL⟩
  have hB5 := (HB3.out.alloc HB3.out.size _).trans (hb5.mono (HB3.out.alloc HB3.out.size _).size)
  have HB5 := Lib.hid hB5
  have hb35 := ((Below.refl W3.heap.size W3).alloc (Nat.le_refl _) _).trans (hb5.mono (by simp))
  have hz5 : M < W5.heap.size := Nat.lt_of_lt_of_le hl3 hb35.size
  have n0 := (Below.cells' hb35 M 0 hl3).trans m0
  have n1 := (Below.cells' hb35 M 1 hl3).trans m1
  clear m0 m1 hB5 hb35 hb5
  by_cases hob : okB true b = true
  ·rw [if_pos hob] at hL
   obtain ⟨cs, rfl, hN⟩ := hL
   obtain ⟨l1, l2, l3, l4, l5, l6, l7, l8, l9, l10, rfl⟩ := six hN
   clear hN hob
   go_wp2_with fail
   go_ret
   exact ⟨rfl, HB5.out.alloc HB5.out.size _⟩
  ·rw [if_neg hob] at hL
   subst hL
   clear hob
   go_wp2_with fail
   go_ret
   exact ⟨rfl, HB5.out.alloc HB5.out.size _⟩
theorem spells_calls (a b : ByteArray) (chars fold : Bool) (w : World) (hT : Lib.Utf8Tabs 0 1 w) (ha : a.size ≤ 140737488351232) (hb : b.size ≤ 140737488351232) :
  Calls Tryd.prog 3 #[.string a, .string b, .agg #[.bool chars, .bool fold]] w fun e w' => e = .returned (.bool true) ∧ Below w.heap.size w w' := by
 by_cases hm : 1900 < a.size + b.size
 ·exact spells_many a b chars fold w ha hb hm
 ·exact spells_few a b chars fold w hT (by omega)
end Go.Proofs.YtamhkdlcoghdbaaDoor.PCls
/- The reference's Cat of nodes that are plain, walked. -/
namespace Go.Proofs.YtamhkdlcoghdbaaDoor.PCls
open Go.RowKit Go.Shelf Go.Proofs.YtamhkdlcoghdbaaDoorW.PrintWords Go.Proofs.YtamhkdlcoghdbaaDoorW.PrintLast Go.Proofs.YtamhkdlcoghdbaaDoorW.PrintMore
set_option linter.unusedVariables false
set_option linter.unusedSimpArgs false

theorem six' {W : World} {P : Nat → Prop} {t : NT} {cs : List Value} (h : NIn W P t cs) : ∃ (m lo hi : Int) (ar ak : Option Addr) (lr cr lk ck : Nat), cs = [.int .i64 t.k, .int .i64 m, .int .i64 lo, .int .i64 hi, .slice ar lr cr, .slice ak lk ck] := by
 cases h; exact ⟨_, _, _, _, _, _, _, _, _, rfl⟩
theorem put6_res {w : World} {g : Nat} {o0 o1 o2 o3 o4 o5 : Value} {t : TypeId} (h : w.heap[g]? = some (.cells #[o0, o1, o2, o3, o4, o5] t (0, 0))) (v0 v1 v2 v3 v4 v5 : Value) : (put6 w g 0 v0 v1 v2 v3 v4 v5).heap[g]? = some (.cells #[v0, v1, v2, v3, v4, v5] t (0, 0)) := by
 unfold put6
 exact set_row (set_row (set_row (set_row (set_row (set_row h _ _) _ _) _ _) _ _) _ _) _ _
/-- what is in the result's block, out of it -/
theorem ret6 {fn : Func} {tmps : Array Value} {w : World} {g : Nat} {v0 v1 v2 v3 v4 v5 : Value} {i : Nat} (hr : fn.results = #[.cell i 28]) (hi : tmps.getD i undef = .pointer (some ⟨g, 0, none⟩)) (h : w.heap[g]? = some (.cells #[v0, v1, v2, v3, v4, v5] 28 (0, 0))) :
  (results fn tmps).run Tryd.prog w = .ok (.agg #[v0, v1, v2, v3, v4, v5]) w := by
 have r0 := cell_heap (i := 0) h rfl
 have r1 := cell_heap (i := 1) h rfl
 have r2 := cell_heap (i := 2) h rfl
 have r3 := cell_heap (i := 3) h rfl
 have r4 := cell_heap (i := 4) h rfl
 have r5 := cell_heap (i := 5) h rfl
 have hi' : tmps[i]?.getD undef = .pointer (some ⟨g, 0, none⟩) := by simpa using hi
 simp only [results, hr]
 simp [hi', go_sem, r0, r1, r2, r3, r4, r5]
/-- between two rounds: what was handed in, and the row of what is kept -/
structure RcSt (W wr : World) (base : Nat) (v : Value) (out : List NT) : Prop where
 bel : Below W.heap.size W wr
 res : wr.heap[W.heap.size]? = some (.cells #[.int .i64 0, .int .i64 0, .int .i64 0, .int .i64 0, .slice none 0 0, .slice none 0 0] 28 (0, 0))
 sz : W.heap.size + 1 ≤ wr.heap.size
 trees : TreesP wr (W.heap.size + 1) (fun b => base ≤ b ∧ b < W.heap.size) v out
theorem RcSt.step {W wr W4 : World} {base : Nat} {v v' : Value} {out out' : List NT} {o : Obj} (h : RcSt W wr base v out) (ht : TreesP W4 (W.heap.size + 1) (fun b => base ≤ b ∧ b < W.heap.size) v' out') (hg : (wr.alloc o).grownBy W4 v.ownBlock) : RcSt W W4 base v' out' := by
 have hs := h.sz
 have hgs := hg.size
 have hz : (wr.alloc o).heap.size = wr.heap.size + 1 := by simp
 have hb : ∀ k, k < W.heap.size + 1 → W4.heap[k]? = wr.heap[k]? := fun k hk => (hg.block k (by omega) (fun e => by have := (h.trees.own k e.symm).1; omega)).trans (Below.heap_alloc wr o k (by omega))
 exact ⟨⟨hg.os.trans h.bel.os, hg.tape.trans h.bel.tape, hg.output.trans h.bel.output, by omega, fun k hk => (hb k (by omega)).trans (h.bel.block k hk)⟩, (hb _ (by omega)).trans h.res, by omega, ht⟩
/-- what Cat tells -/
def RcPost (W : World) (base : Nat) (l : List NT) (e : Ending) (w' : World) : Prop := ∃ v0 v1 v2 v3 v4 v5 : Value, e = .returned (.agg #[v0, v1, v2, v3, v4, v5]) ∧ NIn w' (fun b => base ≤ b ∧ b < w'.heap.size) (catT l) [v0, v1, v2, v3, v4, v5] ∧ Below W.heap.size W w'
theorem RcSt.end_ {W wr : World} {base : Nat} {v : Value} {l out : List NT} (h : RcSt W wr base v out) (tmps : Array Value) (v0 v1 v2 v3 v4 v5 : Value) (hi : tmps.getD 2 undef = .pointer (some ⟨W.heap.size, 0, none⟩)) (hN : NIn wr (fun b => base ≤ b ∧ b < wr.heap.size ∧ b ≠ W.heap.size) (catT l) [v0, v1, v2, v3, v4, v5]) :
  bodyPost Tryd.prog Tryd.f43 (RcPost W base l) .ret ⟨tmps, []⟩ (put6 wr W.heap.size 0 v0 v1 v2 v3 v4 v5) := by
 refine bodyPost_ret (v := .agg #[v0, v1, v2, v3, v4, v5]) (ret6 rfl hi (put6_res h.res v0 v1 v2 v3 v4 v5)) rfl ?_
 exact ⟨v0, v1, v2, v3, v4, v5, rfl, (hN.move (fun b hb => by rw [put6_other _ _ _ _ _ _ _ _ _ b hb.2.2])).mono (fun b hb => ⟨hb.1, by rw [put6_size]; exact hb.2.1⟩), put6_below h.bel (Nat.le_refl _) _ _ _ _ _ _ _⟩
set_option maxHeartbeats 4000000 in
set_option maxRecDepth 100000 in
theorem refcat_calls (l : List NT) (base : Nat) (A : Option Addr) (c : Nat) (W : World) (h : TreesP W base (base ≤ ·) (.slice A l.length c) l) (hbase : base ≤ W.heap.size) (hp : ∀ t, t ∈ l → t.k ≠ 1 ∧ t.k ≠ 5) (hlen : l.length < 100000000) :
  Calls Tryd.prog 43 #[.slice A l.length c] W (RcPost W base l) := by
 have HST := Lib.hid (show RcSt W (W.alloc (.cells #[.int .i64 0, .int .i64 0, .int .i64 0, .int .i64 0, .slice none 0 0, .slice none 0 0] 28)) base (.slice none 0 0) [] from ⟨(Below.refl W.heap.size W).alloc (Nat.le_refl _) _, World.alloc_heap_new W _, by simp, TreesP.nil _ _ _⟩)
 have HT := Lib.hid h
 have HP := Lib.hid hp
 have HB := Lib.hid hbase
 have HLN := Lib.hid hlen
 clear h hp hbase hlen
 go_enter Tryd.func43, Tryd.ntmps43
 go_wp2_with fail
 go_loopg [3, 4] (l.length) (fun gg a3 a4 wr => ∃ (i : Nat), i ≤ l.length ∧ a4 = .int .i64 i ∧ Aside0 (RcSt W wr base a3 (l.take i)) ∧ l.length - i ≤ gg)
 case atStart => exact ⟨0, Nat.zero_le _, rfl, ⟨HST.out⟩, by omega⟩
 case round =>
  obtain ⟨i, hi, rfl, HS, hgg⟩ := hrel
  obtain ⟨VA, Vc, eV⟩ := HS.out.trees.form
  subst eV
  by_cases hlt : i < l.length
  ·obtain ⟨t, ht⟩ : ∃ t, l[i]? = some t := ⟨_, List.getElem?_eq_getElem hlt⟩
   obtain ⟨g, cs, rfl, hg, hN0, hc0⟩ := HT.out.at rfl i t ht
   have hk := HP.out t (List.mem_of_getElem? ht)
   have hN := hN0.move (fun b hb => HS.out.bel.block b hb.2)
   obtain ⟨m, lo, hi', ar, ak, lr, cr, lk, ck, rfl⟩ := six' hN
   have hcc := fun i' u hu => (HS.out.bel.cell (p := ⟨g, i * 6 + i', none⟩) hg).trans (hc0 i' u hu)
   have c0 := hcc 0 _ rfl
   have c1 := hcc 1 _ rfl
   have c2 := hcc 2 _ rfl
   have c3 := hcc 3 _ rfl
   have c4 := hcc 4 _ rfl
   have c5 := hcc 5 _ rfl
   rw [Nat.add_zero] at c0
   have hti : (l.take i).length = i := by rw [List.length_take]; omega
   have hws := HS.out.sz
   obtain ⟨v', W4, hrun, htr, hgr, hat⟩ := HS.out.trees.snoc (X := wr.alloc (.cells #[.int .i64 t.k, .int .i64 m, .int .i64 lo, .int .i64 hi', .slice ar lr cr, .slice ak lk ck] 28)) ((Below.refl _ wr).alloc (Nat.le_refl _) _) hws (by have := HLN.out; omega) ⟨wr.heap.size, 0, none⟩ t _ (fun j u hj => by
    rw [show (⟨wr.heap.size, 0, none⟩ : Addr).add j = ⟨wr.heap.size, j, none⟩ by unfold Addr.add; split <;> simp_all]
    exact cell_heap (World.alloc_heap_new wr _) (by simpa using hj)) ((hN.move (fun b hb => Below.heap_alloc wr _ b (by omega))).mono (fun b hb => ⟨hb, by simp; omega, fun e => by have := (HS.out.trees.own b e.symm).1; omega⟩))
   have HS4 := Lib.hid (HS.out.step htr hgr)
   obtain ⟨A', c', rfl⟩ := htr.form
   have htk : l.take (i + 1) = l.take i ++ [t] := by rw [List.take_add_one, ht]; rfl
   have HTK := Lib.hid htk
   have hl1 : (l.take i ++ [t]).length = i + 1 := by rw [List.length_append, hti]; rfl
   have h1 : (i : Int) < (l.length : Int) := by omega
   have hi9 : i + 1 < 900000000000000 := by have := HLN.out; omega
   have k1 : ¬ t.k = 1 := hk.1
   have k5 : ¬ t.k = 5 := hk.2
   rw [hl1] at hrun HS4
   rw [hti] at hrun ⊢
   have HRUN := Lib.hid hrun
   clear hN hN0 hc0 hcc htr hgr hat htk hl1 hk ht HS hrun
   go_wp2_with (at_builtin; refine Lib.wpList_append_run _ rfl _ _ _ _ rfl _ _ rfl rfl _ _ HRUN.out ?_)
   go_roundg (l.length - (i + 1))
   case measure => omega
   case rel => exact ⟨i + 1, hlt, by go_num, ⟨by rw [HTK.out]; exact HS4.out⟩, Nat.le_refl _⟩
  ·obtain rfl : i = l.length := by omega
   rw [List.take_length] at HS ⊢
   have hres := HS.out.res
   have d0 := cell_heap (i := 0) hres rfl
   have d1 := cell_heap (i := 1) hres rfl
   have d2 := cell_heap (i := 2) hres rfl
   have d3 := cell_heap (i := 3) hres rfl
   have d4 := cell_heap (i := 4) hres rfl
   have d5 := cell_heap (i := 5) hres rfl
   have q0 : ∀ o, wr.frozen? ⟨W.heap.size, o, none⟩ = false := fun o => by simp [World.frozen?, hres]
   have HC := Lib.hid (show catT l = oneT l 5 (.mk 1 0 0 0 [] []) by unfold catT; rw [catOut_plain l HP.out])
   have h1 : ¬ (l.length : Int) < (l.length : Int) := by omega
   clear hres
   rcases l with _ | ⟨t, _ | ⟨t2, l'⟩⟩
   ·simp only [List.length_nil] at *
    go_wp2
    refine HS.out.end_ _ (.int .i64 1) (.int .i64 0) (.int .i64 0) (.int .i64 0) (.slice none 0 0) (.slice none 0 0) rfl ?_
    rw [HC.out]
    exact NIn.leaf _ _ 1 0 0 0
   ·obtain ⟨g, cs, rfl, hg, hN, hc⟩ := HS.out.trees.at rfl 0 t rfl
    obtain ⟨k, m, lo, hi', ar, ak, lr, cr, lk, ck, rfl⟩ := six hN
    have c0 := hc 0 _ rfl
    have c1 := hc 1 _ rfl
    have c2 := hc 2 _ rfl
    have c3 := hc 3 _ rfl
    have c4 := hc 4 _ rfl
    have c5 := hc 5 _ rfl
    have HN := Lib.hid hN
    simp only [List.length_cons, List.length_nil, Nat.zero_add, Nat.zero_mul] at *
    clear hN hc
    go_wp2
    refine HS.out.end_ _ (.int .i64 k) (.int .i64 m) (.int .i64 lo) (.int .i64 hi') (.slice ar lr cr) (.slice ak lk ck) rfl ?_
    rw [HC.out]
    exact HN.out.mono (fun b hb => ⟨hb.1.1, hb.2, by omega⟩)
   ·have HK := Lib.hid (HS.out.trees.kids (P' := fun b => base ≤ b ∧ b < wr.heap.size ∧ b ≠ W.heap.size) (fun b h1 h2 => ⟨h1.1, h2, by omega⟩) (fun b h1 h2 => by have := HB.out; omega) (by have := HLN.out; omega) 5 0 0 0)
    obtain ⟨n, hn⟩ : ∃ n, n = (t :: t2 :: l').length := ⟨_, rfl⟩
    have hn2 : 2 ≤ n := by rw [hn]; simp
    have g0 : ¬ n = 0 := by omega
    have g1 : ¬ n = 1 := by omega
    rw [← hn] at HK h1 ⊢
    have HS' := Lib.hid HS.out
    clear hn HS hi hgg hlt
    go_wp2
    refine HS'.out.end_ _ (.int .i64 5) (.int .i64 0) (.int .i64 0) (.int .i64 0) (.slice none 0 0) (.slice VA n Vc) rfl ?_
    rw [HC.out]
    exact HK.out
end Go.Proofs.YtamhkdlcoghdbaaDoor.PCls
/- The lexer in plain Lean: what its functions compute. -/
namespace Go.Proofs.YtamhkdlcoghdbaaDoor.PCls
set_option linter.unusedVariables false

/-- a token -/
structure Tok where
 kind : Int
 sat : Int
 fin : Int
 n : Int
 lo : Int
 hi : Int
 r : List S64
/-- an item of brackets -/
structure It where
 isEnd : Bool
 c : Int
 l : List S64
 sat : Int
 nx : Int
/-- what is wrong, and where -/
abbrev Er := Int × Int
/-- the operations on classes -/
structure CL where
 named : ByteArray → List S64 × Bool
 norm : List S64 → Bool → List S64
 fold : List S64 → List S64
 not_ : List S64 → Bool → List S64
namespace Lx
def byt (s : ByteArray) (p : Nat) : Nat := (s.data.toList.getD p 0).toNat
/-- does a text stand at a place? -/
def here (s : ByteArray) (p : Nat) (t : List UInt8) : Bool := decide (p ≤ s.size) && Lib.hasPrefix (s.data.toList.drop p) t
/-- the unit at a place -/
def unit (s : ByteArray) (chars : Bool) (p : Nat) : Int × Nat :=
 if p < s.size then (if chars = true then (if okAt s p = true then (((Utf8.decode s p).1 : Nat), (Utf8.decode s p).2) else (-1, 1)) else (byt s p, 1)) else (0, 0)
/-- a class by its name, or an element; x0: where the brackets begin -/
def named (C : CL) (s : ByteArray) (chars : Bool) (x0 p : Nat) (sign : UInt8) : Except Er It :=
 let b := p + 2 + (if sign = 58 then 0 else 1)
 let k := if b ≤ s.size then Lib.index (s.data.toList.drop b) [sign, 93] else -1
 if k < 0 then .error (33, x0)
 else
  let e := b + k.toNat
  if sign = 58 then
   (if (C.named (s.extract (p + 2) e)).2 = true then .ok ⟨false, 0, (C.named (s.extract (p + 2) e)).1, 0, (e + 2 : Nat)⟩ else .error (35, p))
  else
   let c := unit s chars (p + 2)
   if c.1 < 0 ∨ c.2 ≠ e - (p + 2) then .error (35, p) else .ok ⟨decide (sign = 46), c.1, [⟨c.1, c.1⟩], p, (e + 2 : Nat)⟩
/-- an item of brackets; any: also a minus is one -/
def item (C : CL) (s : ByteArray) (chars : Bool) (x0 p : Nat) (any : Bool) : Except Er It :=
 if here s p [91, 58] = true then named C s chars x0 p 58
 else if here s p [91, 61] = true then named C s chars x0 p 61
 else if here s p [91, 46] = true then named C s chars x0 p 46
 else
  let c := unit s chars p
  if c.2 = 0 then .error (33, x0)
  else if c.1 < 0 then .error (20, p)
  else if c.1 = 45 ∧ any = false ∧ here s p [45, 93] = false then (if p + 1 = s.size then .error (33, x0) else .error (34, p))
  else .ok ⟨true, c.1, [⟨c.1, c.1⟩], p, (p + c.2 : Nat)⟩
/-- a range, from an item to the one at a place -/
def span (C : CL) (s : ByteArray) (chars : Bool) (x0 : Nat) (a : It) (p : Nat) : Except Er It :=
 if here s p [91, 58] = true ∨ here s p [91, 61] = true then .error (34, a.sat)
 else match item C s chars x0 p true with
  | .error e => .error e
  | .ok b => if b.c < a.c then .error (34, a.sat) else .ok { b with l := [⟨a.c, b.c⟩] }
/-- an item, or a range -/
def part (C : CL) (s : ByteArray) (chars : Bool) (x0 p : Nat) (first : Bool) : Except Er It :=
 match item C s chars x0 p first with
 | .error e => .error e
 | .ok i => if i.isEnd = true ∧ here s i.nx.toNat [45] = true ∧ here s i.nx.toNat [45, 93] = false then span C s chars x0 i (i.nx.toNat + 1) else .ok i
/-- what stands in brackets: the ranges, and where they end -/
def parts (C : CL) (s : ByteArray) (chars : Bool) (x0 : Nat) : Nat → Nat → Bool → List S64 → Except Er (List S64 × Nat)
 | 0, _, _, _ => .error (0, 0)
 | k + 1, p, first, l =>
  if first = false ∧ here s p [93] = true then .ok (l, p)
  else match part C s chars x0 p first with
   | .error e => .error e
   | .ok i => parts C s chars x0 k i.nx.toNat false (l ++ i.l)
/-- the state of a scanner -/
structure St where
 sat : Nat
 out : List Tok
def put (x : St) (t : Tok) (e : Nat) : St := ⟨e, x.out ++ [{ t with sat := x.sat, fin := e }]⟩
def tok (kind : Int) : Tok := ⟨kind, 0, 0, 0, 0, 0, []⟩
def last (x : St) : Int := match x.out.getLast? with
 | none => 0
 | some t => t.kind
def opens (x : St) : Bool := decide (last x = 0) || decide (last x = 3) || decide (last x = 5)
def begins (x : St) : Bool := opens x || decide (last x = 7)
def oneR (C : CL) (fold : Bool) (c : Int) : List S64 := if fold = true then C.fold [⟨c, c⟩] else [⟨c, c⟩]
def char (C : CL) (fold : Bool) (x : St) (c : Int) (e : Nat) : St := put x { tok 1 with r := oneR C fold c } e
def close (C : CL) (chars fold not : Bool) (l : List S64) : List S64 :=
 let l1 := C.norm l chars
 let l2 := if fold = true then C.fold l1 else l1
 if not = true then C.not_ l2 chars else l2
def bracket (C : CL) (s : ByteArray) (chars fold : Bool) (x : St) : Except Er St :=
 let not := here s (x.sat + 1) [94]
 match parts C s chars x.sat (s.size + 2) (x.sat + 1 + (if not = true then 1 else 0)) true [] with
 | .error e => .error e
 | .ok (l, p) => .ok (put x { tok 1 with r := close C chars fold not l } (p + 1))
/-- the digits at a place, and where they end -/
def number (s : ByteArray) : Nat → Nat → Int → Int × Nat
 | 0, p, n => (n, p)
 | k + 1, p, n => if p < s.size ∧ 48 ≤ byt s p ∧ byt s p ≤ 57 then number s k (p + 1) (min (max n 0 * 10 + ((byt s p : Int) - 48)) 256) else (n, p)
def interval (s : ByteArray) (x0 p : Nat) : Except Er (Int × Int × Nat) :=
 let a := number s (s.size + 1) p (-1)
 let b := if 0 ≤ a.1 ∧ here s a.2 [44] = true then number s (s.size + 1) (a.2 + 1) (-1) else (a.1, a.2)
 if a.1 < 0 ∨ here s b.2 [92, 125] = false then .error (36, x0)
 else if 255 < a.1 ∨ 255 < b.1 ∨ (0 ≤ b.1 ∧ b.1 < a.1) then .error (37, x0)
 else .ok (a.1, b.1, b.2 + 2)
def often (s : ByteArray) (x : St) (c : Nat) (e : Nat) : Except Er St :=
 if begins x = true then .error (38, x.sat)
 else if c = 43 then .ok (put x { tok 2 with lo := 1, hi := -1 } e)
 else if c = 63 then .ok (put x { tok 2 with hi := 1 } e)
 else match interval s x.sat e with
  | .error e => .error e
  | .ok (a, b, e2) => .ok (put x { tok 2 with lo := a, hi := b } e2)
def escape (C : CL) (s : ByteArray) (fold : Bool) (x : St) : Except Er St :=
 if x.sat + 1 = s.size then .error (31, x.sat)
 else
  let c := byt s (x.sat + 1)
  let e := x.sat + 2
  if c = 40 then .ok (put x (tok 3) e)
  else if c = 41 then .ok (put x (tok 4) e)
  else if c = 124 then .ok (put x (tok 5) e)
  else if 49 ≤ c ∧ c ≤ 57 then .ok (put x { tok 6 with n := (c : Int) - 48 } e)
  else if c = 46 ∨ c = 91 ∨ c = 93 ∨ c = 42 ∨ c = 94 ∨ c = 36 ∨ c = 92 ∨ c = 47 then .ok (char C fold x c e)
  else if c = 43 ∨ c = 63 ∨ c = 123 then often s x c e
  else .error (32, x.sat)
def next (C : CL) (s : ByteArray) (chars fold : Bool) (x : St) : Except Er St :=
 let c := unit s chars x.sat
 let e := x.sat + c.2
 if c.1 < 0 then .error (20, x.sat)
 else if c.1 = 92 then escape C s fold x
 else if c.1 = 91 then bracket C s chars fold x
 else if c.1 = 46 then .ok (put x { tok 1 with r := C.not_ [] chars } e)
 else if c.1 = 42 ∧ begins x = false then .ok (put x { tok 2 with hi := -1 } e)
 else if c.1 = 94 ∧ opens x = true then .ok (put x (tok 7) e)
 else if c.1 = 36 ∧ (e = s.size ∨ here s e [92, 41] = true ∨ here s e [92, 124] = true) then .ok (put x (tok 8) e)
 else .ok (char C fold x c.1 e)
def run (C : CL) (s : ByteArray) (chars fold : Bool) : Nat → St → Except Er (List Tok)
 | 0, x => .ok x.out
 | k + 1, x => if x.sat < s.size then (match next C s chars fold x with
  | .error e => .error e
  | .ok y => run C s chars fold k y) else .ok x.out
def lex (C : CL) (s : ByteArray) (chars fold : Bool) : Except Er (List Tok) :=
 if 2000 < s.size then .error (30, 0) else run C s chars fold (s.size + 1) ⟨0, []⟩
end Lx
end Go.Proofs.YtamhkdlcoghdbaaDoor.PCls
