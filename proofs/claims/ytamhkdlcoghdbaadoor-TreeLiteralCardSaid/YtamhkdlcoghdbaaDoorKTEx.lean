/- Out of TEx (wip/tools/prune2.py): the declarations alone that the texts of the trees name. -/
import Derived.Test.YtamhkdlcoghdbaaDoorKMTDepth
namespace Go.Proofs.YtamhkdlcoghdbaaDoor.PCls
open Go.RowKit Go.Proofs.YtamhkdlcoghdbaaDoorW.PrintWords Go.Proofs.YtamhkdlcoghdbaaDoorW.PrintLast Go.Proofs.YtamhkdlcoghdbaaDoorW.PrintMore
set_option linter.unusedVariables false
set_option linter.unusedSimpArgs false
theorem NIn.leaf (w : World) (P : Nat → Prop) (k m lo hi : Int) : NIn w P (.mk k m lo hi [] []) [.int .i64 k, .int .i64 m, .int .i64 lo, .int .i64 hi, .slice none 0 0, .slice none 0 0] :=
 NIn.mk k m lo hi [] [] none none 0 0 (fun _ => []) ⟨rfl, by simp, fun h => by simp at h⟩ (fun ad e => by cases e) (by simp) (by simp) rfl (by simp) (by simp) (fun j t h => by simp at h) (fun j h => by simp at h)
theorem nodes_at : ∀ (css : List (List Value)) (j : Nat) (cs : List Value) (i : Nat) (u : Value), (∀ c, c ∈ css → c.length = 6) → css[j]? = some cs → cs[i]? = some u → css.flatten[j * 6 + i]? = some u
 | [], j, cs, i, u, _, h, _ => by simp at h
 | c :: css, 0, cs, i, u, h6, h, hu => by
  simp only [List.getElem?_cons_zero, Option.some.injEq] at h
  subst h
  simp only [List.flatten_cons, Nat.zero_mul, Nat.zero_add]
  rw [List.getElem?_append_left (List.getElem?_eq_some_iff.1 hu).1]; exact hu
 | c :: css, j + 1, cs, i, u, h6, h, hu => by
  have hc := h6 c List.mem_cons_self
  simp only [List.getElem?_cons_succ] at h
  simp only [List.flatten_cons]
  rw [List.getElem?_append_right (by omega), hc, show (j + 1) * 6 + i - 6 = j * 6 + i by omega]
  exact nodes_at css j cs i u (fun c hc => h6 c (List.mem_cons_of_mem _ hc)) h hu
/-- some trees, one behind the other in a block -/
theorem args_at {w : World} {P : Nat → Prop} {b : Nat} {l : List NT} {css : List (List Value)} {ty : Nat} (hb : w.heap[b]? = some (.cells css.flatten.toArray ty)) (hl : l.length = css.length)
  (hN : ∀ (j : Nat) t cs, l[j]? = some t → css[j]? = some cs → NIn w P t cs) (h6 : ∀ c, c ∈ css → c.length = 6) :
  ∀ (j : Nat) t, l[j]? = some t → ∃ cs, NIn w P t cs ∧ ∀ i u, cs[i]? = some u → w.cell? ((⟨b, 0, none⟩ : Addr).add (j * 6 + i)) = some u := by
 intro j t ht
 have hj : j < css.length := by rw [← hl]; exact (List.getElem?_eq_some_iff.1 ht).1
 obtain ⟨cs, hcs⟩ : ∃ cs, css[j]? = some cs := ⟨css[j], List.getElem?_eq_getElem hj⟩
 refine ⟨cs, hN j t cs ht hcs, fun i u hu => ?_⟩
 rw [add_plain]
 have := nodes_at css j cs i u h6 hcs hu
 exact cell_heap hb (by simpa using this)
theorem NIn.kidsAt {w : World} {P : Nat → Prop} {b : Nat} {l : List NT} {css : List (List Value)} {ty : Nat} (k m lo hi : Int) (hb : w.heap[b]? = some (.cells css.flatten.toArray ty)) (hP : P b) (hl : l.length = css.length)
  (hN : ∀ (j : Nat) t cs, l[j]? = some t → css[j]? = some cs → NIn w P t cs) (h6 : ∀ c, c ∈ css → c.length = 6) (hn : l.length < 1099511627776) (ck : Nat) (hck : l.length ≤ ck) :
  NIn w P (.mk k m lo hi [] l) [.int .i64 k, .int .i64 m, .int .i64 lo, .int .i64 hi, .slice none 0 0, .slice (some ⟨b, 0, none⟩) l.length ck] := by
 refine NIn.mk k m lo hi [] l none (some ⟨b, 0, none⟩) 0 ck (fun j => css.getD j []) ⟨rfl, by simp, fun h => by simp at h⟩ (fun ad e => by cases e) (by simp) (by simp) rfl hck hn ?_ ?_
 ·intro j t ht
  have hj : j < css.length := by rw [← hl]; exact (List.getElem?_eq_some_iff.1 ht).1
  have hcs : css[j]? = some css[j] := List.getElem?_eq_getElem hj
  rw [show css.getD j [] = css[j] by simp [List.getD_eq_getElem?_getD, hcs]]
  exact hN j t _ ht hcs
 ·intro j hj
  have hj' : j < css.length := by rw [← hl]; exact hj
  have hcs : css[j]? = some css[j] := List.getElem?_eq_getElem hj'
  refine ⟨⟨b, 0, none⟩, rfl, hP, fun i u hu => ?_⟩
  rw [show css.getD j [] = css[j] by simp [List.getD_eq_getElem?_getD, hcs]] at hu
  rw [add_plain]
  exact cell_heap hb (by simpa using nodes_at css j _ i u h6 hcs hu)
def exG : NT := .mk 7 1 0 0 [] [.mk 1 0 0 0 [] []]
def exB : NT := .mk 8 1 0 0 [] []
def exN : NT := .mk 5 0 0 0 [] [exG, exB]
def exM : NT := .mk 5 0 0 0 [] [exB, exG]
theorem tx_cat : catT [exG, exB] = exN := by rfl
theorem tx_cat2 : catT [exB, exG] = exM := by rfl
theorem tx_right : rightT exN false false = 0 := by decide +kernel
theorem tx_right2 : rightT exM false false = 41 := by decide +kernel
theorem tx_count : countT exN = 4 := by decide +kernel
theorem tx_depth : depthT exN = 3 := by decide +kernel
theorem tx_groups : groupsT exN = 1 := by decide +kernel
theorem tx_same : sameT exN exN = true := by decide +kernel
theorem tx_other : sameT exG exB = false := by decide +kernel
theorem tx_fold97 : Cls.fold [⟨97, 97⟩] = [⟨65, 65⟩, ⟨97, 97⟩] :=
 Cls.can_unique _ _ (Cls.fold_can _) (by simp [Cls.Can]) fun c => by rw [Cls.fold_mem]; simp [Cls.Mem]; omega
theorem tx_fold : rightT (.mk 2 0 0 0 [⟨97, 97⟩] []) false true = 50 := by
 have hs : setOk [⟨97, 97⟩] false true = false := by unfold setOk; rw [tx_fold97]; simp
 have hf : formed (.mk 2 0 0 0 [⟨97, 97⟩] []) false true = false := by simp [formed, NT.k, NT.r, hs]
 unfold rightT Step.evs Step.top
 simp only [evs]
 have hv : visR false true ⟨0, 0, 0, []⟩ ⟨.mk 2 0 0 0 [⟨97, 97⟩] [], 1, 0, true, true, true⟩ = (false, ⟨50, 1, 0, []⟩) := by simp [visR, hf]
 rw [run_stop (by rw [hv]), hv]
theorem NIn.shape {w : World} {P : Nat → Prop} {k m lo hi : Int} {r : List S64} {kids : List NT} {cs : List Value} (h : NIn w P (.mk k m lo hi r kids) cs) :
  ∃ ar ak cr ck, cs = [.int .i64 k, .int .i64 m, .int .i64 lo, .int .i64 hi, .slice ar r.length cr, .slice ak kids.length ck] := by
 cases h; exact ⟨_, _, _, _, rfl⟩
set_option maxHeartbeats 4000000 in
set_option maxRecDepth 100000 in
theorem examples_calls (w : World) : Calls Tryd.prog 9 #[] w fun e w' => e = .returned (.bool true) ∧ Below w.heap.size w w' := by
 obtain ⟨W4, hW4⟩ : ∃ W4, W4 = (((w.alloc (.cells #[.int .i64 1, .int .i64 0, .int .i64 0, .int .i64 0, .slice none 0 0, .slice none 0 0] 28)).alloc (.cells #[.int .i64 7, .int .i64 1, .int .i64 0, .int .i64 0, .slice none 0 0, .slice (some ⟨w.heap.size, 0, none⟩) 1 1] 28)).alloc (.cells #[.int .i64 8, .int .i64 1, .int .i64 0, .int .i64 0, .slice none 0 0, .slice none 0 0] 28)).alloc (.cells #[.int .i64 7, .int .i64 1, .int .i64 0, .int .i64 0, .slice none 0 0, .slice (some ⟨w.heap.size, 0, none⟩) 1 1, .int .i64 8, .int .i64 1, .int .i64 0, .int .i64 0, .slice none 0 0, .slice none 0 0] 28) := ⟨_, rfl⟩
 have hs4 : W4.heap.size = w.heap.size + 4 := by rw [hW4]; simp
 have hb4 : Below w.heap.size w W4 := by rw [hW4]; exact ((((Below.refl _ w).alloc (Nat.le_refl _) _).alloc (by simp) _).alloc (by simp; omega) _).alloc (by simp; omega) _
 have hat : ∀ (A : World) (o : Obj) (b : Nat), b = A.heap.size → (A.alloc o).heap[b]? = some o := fun A o b h => by rw [h]; exact World.alloc_heap_new A o
 have hup : ∀ (A : World) (o x : Obj) (b : Nat), A.heap[b]? = some x → (A.alloc o).heap[b]? = some x := fun A o x b h => (Below.heap_alloc A o b (Array.getElem?_eq_some_iff.1 h).1).trans h
 have h0 : W4.heap[w.heap.size]? = some (.cells #[.int .i64 1, .int .i64 0, .int .i64 0, .int .i64 0, .slice none 0 0, .slice none 0 0] 28) := by rw [hW4]; exact hup _ _ _ _ (hup _ _ _ _ (hup _ _ _ _ (hat _ _ _ rfl)))
 have h1 : W4.heap[w.heap.size + 1]? = some (.cells #[.int .i64 7, .int .i64 1, .int .i64 0, .int .i64 0, .slice none 0 0, .slice (some ⟨w.heap.size, 0, none⟩) 1 1] 28) := by rw [hW4]; exact hup _ _ _ _ (hup _ _ _ _ (hat _ _ _ (by simp)))
 have h2 : W4.heap[w.heap.size + 2]? = some (.cells #[.int .i64 8, .int .i64 1, .int .i64 0, .int .i64 0, .slice none 0 0, .slice none 0 0] 28) := by rw [hW4]; exact hup _ _ _ _ (hat _ _ _ (by simp))
 have h3 : W4.heap[w.heap.size + 3]? = some (.cells #[.int .i64 7, .int .i64 1, .int .i64 0, .int .i64 0, .slice none 0 0, .slice (some ⟨w.heap.size, 0, none⟩) 1 1, .int .i64 8, .int .i64 1, .int .i64 0, .int .i64 0, .slice none 0 0, .slice none 0 0] 28) := by rw [hW4]; exact hat _ _ _ (by simp)
 have hNG : NIn W4 (· < W4.heap.size) exG [.int .i64 7, .int .i64 1, .int .i64 0, .int .i64 0, .slice none 0 0, .slice (some ⟨w.heap.size, 0, none⟩) 1 1] := NIn.kidsAt (css := [[.int .i64 1, .int .i64 0, .int .i64 0, .int .i64 0, .slice none 0 0, .slice none 0 0]]) 7 1 0 0 h0 (by rw [hs4]; omega) rfl (fun j t cs h1 h2 => by
  match j with
  | 0 => simp only [List.getElem?_cons_zero, Option.some.injEq] at h1 h2; subst h1 h2; exact NIn.leaf _ _ _ _ _ _
  | j + 1 => simp at h1) (fun c h => by simp at h; subst h; rfl) (by simp) 1 (by simp)
 have hNB : NIn W4 (· < W4.heap.size) exB [.int .i64 8, .int .i64 1, .int .i64 0, .int .i64 0, .slice none 0 0, .slice none 0 0] := NIn.leaf _ _ _ _ _ _
 have hcat := cat_calls (some ⟨w.heap.size + 3, 0, none⟩) 2 2 [exG, exB] W4 rfl (by decide) (fun j t ht => by
  obtain ⟨cs, hn, hc⟩ := args_at (P := (· < W4.heap.size)) (l := [exG, exB]) (css := [[.int .i64 7, .int .i64 1, .int .i64 0, .int .i64 0, .slice none 0 0, .slice (some ⟨w.heap.size, 0, none⟩) 1 1], [.int .i64 8, .int .i64 1, .int .i64 0, .int .i64 0, .slice none 0 0, .slice none 0 0]]) h3 rfl (fun j t cs h1 h2 => by
   match j with
   | 0 => simp only [List.getElem?_cons_zero, Option.some.injEq] at h1 h2; subst h1 h2; exact hNG
   | 1 => simp only [List.getElem?_cons_succ, List.getElem?_cons_zero, Option.some.injEq] at h1 h2; subst h1 h2; exact hNB
   | j + 2 => simp at h1) (fun c h => by simp at h; rcases h with h | h <;> (subst h; rfl)) j t ht
  exact ⟨_, cs, rfl, by simp only; omega, hn, hc⟩)
 rw [tx_cat] at hcat
 have HCAT_ := Lib.hid hcat
 have HS4_ := Lib.hid hs4
 have HB4_ := Lib.hid hb4
 have H0_ := Lib.hid h0
 have H1_ := Lib.hid h1
 have H2_ := Lib.hid h2
 have H3_ := Lib.hid h3
 have HNG_ := Lib.hid hNG
 have HNB_ := Lib.hid hNB
 have HW4_ := Lib.hid hW4
 clear hcat hs4 hb4 h0 h1 h2 h3 hNG hNB hW4 hat hup
 go_enter Tryd.func9, Tryd.ntmps9
 go_wp2_with fail
 rw [← HW4_.out]
 refine HCAT_.out.mono ?_
 rintro e w5 ⟨cs5, rfl, hn5, hb5⟩
 obtain ⟨ar, ak, cr, ck, rfl⟩ := NIn.shape hn5
 have HN5 := Lib.hid hn5
 have HB5 := Lib.hid hb5
 clear hn5 hb5
 have HSET := Lib.hid (fun w => set_calls 97 (by omega) w)
 have HREP1 := Lib.hid (fun (ar ak : Option Addr) (lr cr lk ck : Nat) w => rep_wrong 2 0 0 0 2 1 ar ak lr cr lk ck 1 (Or.inr ⟨rfl, rfl, rfl⟩) w)
 have HREP2 := Lib.hid (fun (ar ak : Option Addr) (lr cr lk ck : Nat) w => rep_wrong 1 0 0 0 0 1 ar ak lr cr lk ck 50 (Or.inl ⟨rfl, rfl⟩) w)
 go_wp2_with fail
 generalize hW5 : w5.alloc _ = W5
 have HW5 := Lib.hid hW5
 clear hW5
 obtain ⟨bn, hbn⟩ : ∃ bn, bn = w5.heap.size := ⟨_, rfl⟩
 rw [← hbn]
 have HBN := Lib.hid hbn
 clear hbn
 refine (HSET.out _).mono ?_
 rintro e w6 ⟨g6, rfl, hn6, hb6⟩
 have HB6 := Lib.hid hb6
 clear hn6 hb6
 go_wp2_with fail
 refine (HREP1.out _ _ _ _ _ _ _).mono ?_
 rintro e w7 ⟨rfl, hb7⟩
 have HB7 := Lib.hid hb7
 clear hb7
 go_wp2_with fail
 generalize hW7 : w7.alloc _ = W7
 have HW7 := Lib.hid hW7
 clear hW7
 refine (HREP2.out _ _ _ _ _ _ _).mono ?_
 rintro e w8 ⟨rfl, hb8⟩
 have HB8 := Lib.hid hb8
 clear hb8
 go_wp2_with fail
 generalize hW8 : w8.alloc _ = W8
 have HW8 := Lib.hid hW8
 clear hW8
 refine (alt_nil _).mono ?_
 rintro e w9 ⟨rfl, hb9⟩
 obtain ⟨bm, hbm⟩ : ∃ bm, bm = w9.heap.size := ⟨_, rfl⟩
 obtain ⟨W9, hW9⟩ : ∃ W9, W9 = w9.alloc (.cells #[.int .i64 2, .int .i64 0, .int .i64 0, .int .i64 0, .slice none 0 0, .slice none 0 0] 28) := ⟨_, rfl⟩
 obtain ⟨S, hS⟩ : ∃ S, S = W9.heap.size := ⟨_, rfl⟩
 have hs9 : W9.heap.size = w9.heap.size + 1 := by rw [hW9]; simp
 have h59 : Below W5.heap.size W5 w9 := by
  have e7 := HW7.out
  have e8 := HW8.out
  have b6 := HB6.out
  have b7 := b6.trans (HB7.out.mono b6.size)
  have b7a : Below W5.heap.size W5 W7 := by rw [← e7]; exact b7.alloc b7.size _
  have b8 := b7a.trans (HB8.out.mono b7a.size)
  have b8a : Below W5.heap.size W5 W8 := by rw [← e8]; exact b8.alloc b8.size _
  exact b8a.trans (hb9.mono b8a.size)
 have h67 : Below W5.heap.size W5 W9 := by rw [hW9]; exact h59.alloc h59.size _
 have e5 := HW5.out
 have ebn := HBN.out
 have hs5 : W5.heap.size = w5.heap.size + 1 := by rw [← e5]; simp
 have h45 : Below W4.heap.size W4 W5 := by rw [← e5]; exact HB5.out.alloc HB5.out.size _
 have h49 : Below W4.heap.size W4 W9 := h45.trans (h67.mono h45.size)
 have hs4 := HS4_.out
 have hz4 := h45.size
 have hz5 := h67.size
 have hn9 : W9.heap[bn]? = some (.cells #[.int .i64 5, .int .i64 0, .int .i64 0, .int .i64 0, .slice ar 0 cr, .slice ak 2 ck] 28) := (h67.block _ (by rw [hs5, ebn]; omega)).trans (by rw [← e5, ebn]; exact World.alloc_heap_new w5 _)
 have hN9 : NIn W9 (· < W9.heap.size) exN [.int .i64 5, .int .i64 0, .int .i64 0, .int .i64 0, .slice ar 0 cr, .slice ak 2 ck] := by
  refine ((HN5.out.move (w' := W5) (fun b hb => by rw [← e5]; exact Below.heap_alloc _ _ _ hb.2)).move (w' := W9) (fun b hb => h67.block b (by omega))).mono (fun b hb => by omega)
 have hG9 : NIn W9 (· < W9.heap.size) exG [.int .i64 7, .int .i64 1, .int .i64 0, .int .i64 0, .slice none 0 0, .slice (some ⟨w.heap.size, 0, none⟩) 1 1] := (HNG_.out.move (fun b hb => h49.block b hb)).mono (fun b hb => by omega)
 have hB9 : NIn W9 (· < W9.heap.size) exB [.int .i64 8, .int .i64 1, .int .i64 0, .int .i64 0, .slice none 0 0, .slice none 0 0] := NIn.leaf _ _ _ _ _ _
 have hg9 := (h49.block _ (by omega)).trans H1_.out
 have hb9_ := (h49.block _ (by omega)).trans H2_.out
 have hm9 : W9.heap[bm]? = some (.cells #[.int .i64 2, .int .i64 0, .int .i64 0, .int .i64 0, .slice none 0 0, .slice none 0 0] 28) := by rw [hW9, hbm]; exact World.alloc_heap_new w9 _
 rw [← hS] at hN9 hG9 hB9
 have HN := Lib.hid hn9
 have HG := Lib.hid hg9
 have HB := Lib.hid hb9_
 have HM := Lib.hid hm9
 have HNL := Lib.hid (show bn < W9.heap.size by omega)
 have HGL := Lib.hid (show w.heap.size + 1 < W9.heap.size by omega)
 have HBL := Lib.hid (show w.heap.size + 2 < W9.heap.size by omega)
 have HML := Lib.hid (show bm < W9.heap.size by omega)
 rw [← hS] at HNL
 rw [← hS] at HGL
 rw [← hS] at HBL
 rw [← hS] at HML
 have HNT := Lib.hid hN9
 have HGT := Lib.hid hG9
 have HBT := Lib.hid hB9
 have HALL := Lib.hid (HB4_.out.trans (h49.mono (by omega)))
 have HSW := Lib.hid hS
 have HW9 := Lib.hid hW9
 have HBM := Lib.hid hbm
 have hRef : Below S W9 W9 := Below.refl _ _
 have hn9w := (h59.block _ (by rw [hs5, ebn]; omega)).trans (show W5.heap[bn]? = some (.cells #[.int .i64 5, .int .i64 0, .int .i64 0, .int .i64 0, .slice ar 0 cr, .slice ak 2 ck] 28) by rw [← e5, ebn]; exact World.alloc_heap_new w5 _)
 have n09 := cell_heap (i := 0) hn9w rfl
 have n19 := cell_heap (i := 1) hn9w rfl
 have n29 := cell_heap (i := 2) hn9w rfl
 have n39 := cell_heap (i := 3) hn9w rfl
 have n49 := cell_heap (i := 4) hn9w rfl
 have n59 := cell_heap (i := 5) hn9w rfl
 have hbn9 : bn < w9.heap.size := by rw [ebn]; have := h59.size; omega
 clear hn9w h59
 clear hN9 hG9 hB9 hg9 hb9_ hm9 hn9 h67 h49 h45 hz4 hz5 hs4 hs5 e5 ebn hs9 hb9 hS hW9 hbm HB5 HB6 HB7 HB8 HW5 HW7 HW8 HN5 HNG_ HNB_ HCAT_ HS4_ HB4_ H0_ H1_ H2_ H3_ HW4_ HBN
 go_wp2_with fail
 rw [← HW9.out]
 refine (right_calls exN _ false false W9 (by rw [← HSW.out]; exact HNT.out) (by decide)).mono ?_
 rw [tx_right]
 rintro e w10 ⟨rfl, h10⟩
 rw [← HSW.out] at h10
 have zgw10 := (h10.block _ HGL.out).trans HG.out
 have g0w10 := cell_heap (i := 0) zgw10 rfl
 have g1w10 := cell_heap (i := 1) zgw10 rfl
 have g2w10 := cell_heap (i := 2) zgw10 rfl
 have g3w10 := cell_heap (i := 3) zgw10 rfl
 have g4w10 := cell_heap (i := 4) zgw10 rfl
 have g5w10 := cell_heap (i := 5) zgw10 rfl
 clear zgw10
 have zbw10 := (h10.block _ HBL.out).trans HB.out
 have b0w10 := cell_heap (i := 0) zbw10 rfl
 have b1w10 := cell_heap (i := 1) zbw10 rfl
 have b2w10 := cell_heap (i := 2) zbw10 rfl
 have b3w10 := cell_heap (i := 3) zbw10 rfl
 have b4w10 := cell_heap (i := 4) zbw10 rfl
 have b5w10 := cell_heap (i := 5) zbw10 rfl
 clear zbw10
 have HG10 := Lib.hid h10.size
 have hg1 : w.heap.size + 1 < w10.heap.size := by have := HGL.out; have := HG10.out; have := HSW.out; omega
 have hg2 : w.heap.size + 1 + 1 < w10.heap.size := by have := HBL.out; have := HG10.out; have := HSW.out; omega
 have H10 := Lib.hid h10
 clear h10
 go_wp2_with fail
 obtain ⟨W10, hW10⟩ : ∃ W10, W10 = w10.alloc (.cells #[.int .i64 8, .int .i64 1, .int .i64 0, .int .i64 0, .slice none 0 0, .slice none 0 0, .int .i64 7, .int .i64 1, .int .i64 0, .int .i64 0, .slice none 0 0, .slice (some ⟨w.heap.size, 0, none⟩) 1 1] 28) := ⟨_, rfl⟩
 rw [← hW10]
 have hb10 : Below S W9 W10 := by rw [hW10]; exact H10.out.alloc (by have := HG10.out; have := HSW.out; omega) _
 have h3 : W10.heap[w10.heap.size]? = some (.cells #[.int .i64 8, .int .i64 1, .int .i64 0, .int .i64 0, .slice none 0 0, .slice none 0 0, .int .i64 7, .int .i64 1, .int .i64 0, .int .i64 0, .slice none 0 0, .slice (some ⟨w.heap.size, 0, none⟩) 1 1] 28) := by rw [hW10]; exact World.alloc_heap_new _ _
 have hs10 : W10.heap.size = w10.heap.size + 1 := by rw [hW10]; simp
 have hS10 : S ≤ W10.heap.size := by have := HG10.out; have := HSW.out; omega
 have hG10 := (HGT.out.move (w' := W10) (fun b hb => hb10.block b hb)).mono (P' := (· < W10.heap.size)) (fun b hb => Nat.lt_of_lt_of_le hb hS10)
 have hB10 := (HBT.out.move (w' := W10) (fun b hb => hb10.block b hb)).mono (P' := (· < W10.heap.size)) (fun b hb => Nat.lt_of_lt_of_le hb hS10)
 have hcat := cat_calls (some ⟨w10.heap.size, 0, none⟩) 2 2 [exB, exG] W10 rfl (by decide) (fun j t ht => by
  obtain ⟨cs, hn, hc⟩ := args_at (P := (· < W10.heap.size)) (l := [exB, exG]) (css := [[.int .i64 8, .int .i64 1, .int .i64 0, .int .i64 0, .slice none 0 0, .slice none 0 0], [.int .i64 7, .int .i64 1, .int .i64 0, .int .i64 0, .slice none 0 0, .slice (some ⟨w.heap.size, 0, none⟩) 1 1]]) h3 rfl (fun j t cs h1 h2 => by
   match j with
   | 0 => simp only [List.getElem?_cons_zero, Option.some.injEq] at h1 h2; subst h1 h2; exact hB10
   | 1 => simp only [List.getElem?_cons_succ, List.getElem?_cons_zero, Option.some.injEq] at h1 h2; subst h1 h2; exact hG10
   | j + 2 => simp at h1) (fun c h => by simp at h; rcases h with h | h <;> (subst h; rfl)) j t ht
  exact ⟨_, cs, rfl, by simp only; omega, hn, hc⟩)
 rw [tx_cat2] at hcat
 have HB10 := Lib.hid hb10
 have HS10 := Lib.hid hS10
 have HCAT := Lib.hid hcat
 clear hcat hb10 hG10 hB10 h3 hs10 hW10 hS10 HG10 H10 hg1 hg2
 clear g0w10 g1w10 g2w10 g3w10 g4w10 g5w10 b0w10 b1w10 b2w10 b3w10 b4w10 b5w10
 refine HCAT.out.mono ?_
 rintro e w11 ⟨cs11, rfl, hn11, hb11⟩
 have hr := right_calls exM cs11 false false w11 (hn11.mono (fun b hb => hb.2)) (by decide)
 rw [tx_right2] at hr
 have HR := Lib.hid hr
 have HSZ11 := Lib.hid (Nat.le_trans HS10.out hb11.size)
 have HB11 := Lib.hid (HB10.out.trans (hb11.mono HS10.out))
 clear hr hn11 hb11
 go_wp2_with fail
 refine HR.out.mono ?_
 rintro e w12 ⟨rfl, h12⟩
 have HSZ12 := Lib.hid (Nat.le_trans HSZ11.out h12.size)
 have hb12 := HB11.out.trans (h12.mono HSZ11.out)
 have zmw12 := (hb12.block _ HML.out).trans HM.out
 have m0w12 := cell_heap (i := 0) zmw12 rfl
 have m1w12 := cell_heap (i := 1) zmw12 rfl
 have m2w12 := cell_heap (i := 2) zmw12 rfl
 have m3w12 := cell_heap (i := 3) zmw12 rfl
 have m4w12 := cell_heap (i := 4) zmw12 rfl
 have m5w12 := cell_heap (i := 5) zmw12 rfl
 clear zmw12
 have znw12 := (hb12.block _ HNL.out).trans HN.out
 have n0w12 := cell_heap (i := 0) znw12 rfl
 have n1w12 := cell_heap (i := 1) znw12 rfl
 have n2w12 := cell_heap (i := 2) znw12 rfl
 have n3w12 := cell_heap (i := 3) znw12 rfl
 have n4w12 := cell_heap (i := 4) znw12 rfl
 have n5w12 := cell_heap (i := 5) znw12 rfl
 clear znw12
 have hm12 := m0w12
 rw [HBM.out] at hm12
 have HB12 := Lib.hid hb12
 clear hb12 h12
 go_wp2_with fail
 have h := count_calls exN _ w12 ((HNT.out.move (fun b hb => HB12.out.block b hb)).mono (fun b hb => Nat.lt_of_lt_of_le hb HSZ12.out)) (by decide)
 rw [tx_count] at h
 refine h.mono ?_
 clear hm12
 clear m0w12 m1w12 m2w12 m3w12 m4w12 m5w12 n0w12 n1w12 n2w12 n3w12 n4w12 n5w12
 rintro e w13 ⟨rfl, h13⟩
 clear h
 have HSZ13 := Lib.hid (Nat.le_trans HSZ12.out h13.size)
 have hb13 := HB12.out.trans (h13.mono HSZ12.out)
 have znw13 := (hb13.block _ HNL.out).trans HN.out
 have n0w13 := cell_heap (i := 0) znw13 rfl
 have n1w13 := cell_heap (i := 1) znw13 rfl
 have n2w13 := cell_heap (i := 2) znw13 rfl
 have n3w13 := cell_heap (i := 3) znw13 rfl
 have n4w13 := cell_heap (i := 4) znw13 rfl
 have n5w13 := cell_heap (i := 5) znw13 rfl
 clear znw13
 have HB13 := Lib.hid hb13
 clear hb13 h13
 go_wp2_with fail
 have h := depth_calls exN _ w13 ((HNT.out.move (fun b hb => HB13.out.block b hb)).mono (fun b hb => Nat.lt_of_lt_of_le hb HSZ13.out)) (by decide)
 rw [tx_depth] at h
 refine h.mono ?_
 clear n0w13 n1w13 n2w13 n3w13 n4w13 n5w13
 rintro e w14 ⟨rfl, h14⟩
 clear h
 have HSZ14 := Lib.hid (Nat.le_trans HSZ13.out h14.size)
 have hb14 := HB13.out.trans (h14.mono HSZ13.out)
 have znw14 := (hb14.block _ HNL.out).trans HN.out
 have n0w14 := cell_heap (i := 0) znw14 rfl
 have n1w14 := cell_heap (i := 1) znw14 rfl
 have n2w14 := cell_heap (i := 2) znw14 rfl
 have n3w14 := cell_heap (i := 3) znw14 rfl
 have n4w14 := cell_heap (i := 4) znw14 rfl
 have n5w14 := cell_heap (i := 5) znw14 rfl
 clear znw14
 have HB14 := Lib.hid hb14
 clear hb14 h14
 go_wp2_with fail
 have h := groups_calls exN _ w14 ((HNT.out.move (fun b hb => HB14.out.block b hb)).mono (fun b hb => Nat.lt_of_lt_of_le hb HSZ14.out)) (by decide)
 rw [tx_groups] at h
 refine h.mono ?_
 clear n0w14 n1w14 n2w14 n3w14 n4w14 n5w14
 rintro e w15 ⟨rfl, h15⟩
 clear h
 have HSZ15 := Lib.hid (Nat.le_trans HSZ14.out h15.size)
 have hb15 := HB14.out.trans (h15.mono HSZ14.out)
 have znw15 := (hb15.block _ HNL.out).trans HN.out
 have n0w15 := cell_heap (i := 0) znw15 rfl
 have n1w15 := cell_heap (i := 1) znw15 rfl
 have n2w15 := cell_heap (i := 2) znw15 rfl
 have n3w15 := cell_heap (i := 3) znw15 rfl
 have n4w15 := cell_heap (i := 4) znw15 rfl
 have n5w15 := cell_heap (i := 5) znw15 rfl
 clear znw15
 have HB15 := Lib.hid hb15
 clear hb15 h15
 go_wp2_with fail
 have h := Same_calls w15.heap.size exN exN _ _ w15 (Nat.le_refl _) ((HNT.out.move (fun b hb => HB15.out.block b hb)).mono (fun b hb => Nat.lt_of_lt_of_le hb HSZ15.out)) ((HNT.out.move (fun b hb => HB15.out.block b hb)).mono (fun b hb => Nat.lt_of_lt_of_le hb HSZ15.out)) (by decide) (by decide)
 rw [tx_same] at h
 refine h.mono ?_
 clear n0w15 n1w15 n2w15 n3w15 n4w15 n5w15
 rintro e w16 ⟨rfl, h16⟩
 clear h
 have HSZ16 := Lib.hid (Nat.le_trans HSZ15.out h16.size)
 have hb16 := HB15.out.trans (h16.mono HSZ15.out)
 have zgw16 := (hb16.block _ HGL.out).trans HG.out
 have g0w16 := cell_heap (i := 0) zgw16 rfl
 have g1w16 := cell_heap (i := 1) zgw16 rfl
 have g2w16 := cell_heap (i := 2) zgw16 rfl
 have g3w16 := cell_heap (i := 3) zgw16 rfl
 have g4w16 := cell_heap (i := 4) zgw16 rfl
 have g5w16 := cell_heap (i := 5) zgw16 rfl
 clear zgw16
 have zbw16 := (hb16.block _ HBL.out).trans HB.out
 have b0w16 := cell_heap (i := 0) zbw16 rfl
 have b1w16 := cell_heap (i := 1) zbw16 rfl
 have b2w16 := cell_heap (i := 2) zbw16 rfl
 have b3w16 := cell_heap (i := 3) zbw16 rfl
 have b4w16 := cell_heap (i := 4) zbw16 rfl
 have b5w16 := cell_heap (i := 5) zbw16 rfl
 clear zbw16
 have HB16 := Lib.hid hb16
 clear hb16 h16
 go_wp2_with fail
 have h := Same_calls w16.heap.size exG exB _ _ w16 (Nat.le_refl _) ((HGT.out.move (fun b hb => HB16.out.block b hb)).mono (fun b hb => Nat.lt_of_lt_of_le hb HSZ16.out)) ((HBT.out.move (fun b hb => HB16.out.block b hb)).mono (fun b hb => Nat.lt_of_lt_of_le hb HSZ16.out)) (by decide) (by decide)
 rw [tx_other] at h
 refine h.mono ?_
 clear g0w16 g1w16 g2w16 g3w16 g4w16 g5w16 b0w16 b1w16 b2w16 b3w16 b4w16 b5w16
 rintro e w17 ⟨rfl, h17⟩
 clear h
 have HSZ17 := Lib.hid (Nat.le_trans HSZ16.out h17.size)
 have hb17 := HB16.out.trans (h17.mono HSZ16.out)
 have HB17 := Lib.hid hb17
 clear hb17 h17
 go_wp2_with fail
 refine (HSET.out _).mono ?_
 rintro e w18 ⟨g18, rfl, hn18, h18⟩
 have HSZ18 := Lib.hid (Nat.le_trans HSZ17.out h18.size)
 have HB18 := Lib.hid (HB17.out.trans (h18.mono HSZ17.out))
 have hr := right_calls (.mk 2 0 0 0 [⟨97, 97⟩] []) _ false true w18 (hn18.mono (fun b hb => hb.2)) (by decide)
 rw [tx_fold] at hr
 have HR2 := Lib.hid hr
 clear hr hn18 h18
 go_wp2_with fail
 refine HR2.out.mono ?_
 rintro e w19 ⟨rfl, h19⟩
 have HB19 := Lib.hid (HB18.out.trans (h19.mono HSZ18.out))
 clear h19
 go_wp2_with fail
 go_ret
 exact ⟨rfl, HALL.out.trans (HB19.out.mono (by have := HGL.out; omega))⟩
end Go.Proofs.YtamhkdlcoghdbaaDoor.PCls
