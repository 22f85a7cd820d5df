/- Out of TCopied (wip/tools/prune2.py): the declarations alone that the texts of the trees name. -/
import Derived.Test.YtamhkdlcoghdbaaKTEx
namespace Go.Proofs.Ytamhkdlcoghdbaa.PCls
open Go.RowKit Go.Proofs.YtamhkdlcoghdbaaW.PrintWords Go.Proofs.YtamhkdlcoghdbaaW.PrintLast Go.Proofs.YtamhkdlcoghdbaaW.PrintMore
set_option linter.unusedVariables false
set_option linter.unusedSimpArgs false
/-- copy, of a row of ranges, onto the head of a row -/
theorem run_copy64 (w : World) (ty : TypeId) (g dLen dCap : Nat) (A : Option Addr) (c : Nat) (l : List S64) (cur : Array Value) (hg : w.heap[g]? = some (.cells cur 64 (0, 0))) (hC : Kd.C k64 w A l.length l) (hd : l.length ≤ dLen) (hs : l.length * 2 ≤ cur.size) :
  (Builtin.copy_ #[22, 22] ty #[.slice (some ⟨g, 0, none⟩) dLen dCap, .slice A l.length c]).run Try.prog w = .ok (goInt l.length) (w.setRow g (rowOf l ++ cur.toList.drop (l.length * 2)).toArray) := by
 obtain ⟨i, hi, hz0, hz1, hz2⟩ := info64'
 have hmin : Nat.min l.length dLen = l.length := Nat.min_eq_left hd
 cases A with
 | none =>
  obtain rfl := nil_of_C hC
  have e : (rowOf [] ++ cur.toList.drop (([] : List S64).length * 2)).toArray = cur := by simp [rowOf]
  rw [e, setRow_self w g cur 64 (0, 0) hg]
  simp [Builtin.copy_, run_underlying Try.underlying22, Builtin.lenOf, Builtin.firstCells, sizeOf, typeInfo, hi, storeCells]
 | some a =>
  have hl := run_loadCells_list (P := Try.prog) w a (rowOf l) (cells_of_C hC)
  have hst := run_storeCells_at Try.prog g 0 64 (rowOf l) 0 cur w hg (by rw [rowOf_length]; simpa using hs) (one_rowOf l)
  rw [rowOf_length] at hl hst
  simp only [Nat.zero_add, List.take_zero, List.nil_append] at hst
  simp [Builtin.copy_, run_underlying Try.underlying22, Builtin.lenOf, Builtin.firstCells, sizeOf, typeInfo, hi, hz1, hmin, hl, hst]
/-- a copy in memory: behind its ranges one more lies, behind its kids, too -/
inductive CIn (w : World) (P : Nat → Prop) : NT → List Value → Prop
 | mk (k m lo hi : Int) (r : List S64) (kids : List NT) (R K : Nat) (cs : Nat → List Value)
  (hr : Kd.C k64 w (some ⟨R, 0, none⟩) r.length r) (hrp : P R) (hrl : r.length < 2097152) (hin : inR r = true) (hr0 : w.cell? ⟨R, r.length * 2, none⟩ = some (.int .i64 (-7))) (hr1 : w.cell? ⟨R, r.length * 2 + 1, none⟩ = some (.int .i64 7))
  (hkp : P K) (hkl : kids.length < 1099511627776) (hk : ∀ j t, kids[j]? = some t → CIn w P t (cs j))
  (ha : ∀ j, j < kids.length → ∀ i u, (cs j)[i]? = some u → w.cell? ⟨K, j * 6 + i, none⟩ = some u) (hx : w.cell? ⟨K, kids.length * 6, none⟩ = some (.int .i64 (-7))) :
  CIn w P (.mk k m lo hi r kids) [.int .i64 k, .int .i64 m, .int .i64 lo, .int .i64 hi, .slice (some ⟨R, 0, none⟩) r.length (r.length + 1), .slice (some ⟨K, 0, none⟩) kids.length (kids.length + 1)]
theorem CIn.nin {w : World} {P : Nat → Prop} {t : NT} {cs : List Value} (h : CIn w P t cs) : NIn w P t cs := by
 induction h with
 | mk k m lo hi r kids R K cs hr hrp hrl hin hr0 hr1 hkp hkl hk ha hx ih =>
  exact .mk k m lo hi r kids _ _ _ _ cs hr (fun ad e _ => by cases e; exact hrp) (by omega) hrl hin (by omega) hkl ih (fun j hj => ⟨⟨K, 0, none⟩, rfl, hkp, fun i u hu => by rw [add_plain]; exact ha j hj i u hu⟩)
theorem CIn.move {w w' : World} {P : Nat → Prop} {t : NT} {cs : List Value} (h : CIn w P t cs) (hm : ∀ b, P b → w'.heap[b]? = w.heap[b]?) : CIn w' P t cs := by
 induction h with
 | mk k m lo hi r kids R K cs hr hrp hrl hin hr0 hr1 hkp hkl hk ha hx ih =>
  have hc : ∀ b o u, P b → w.cell? ⟨b, o, none⟩ = some u → w'.cell? ⟨b, o, none⟩ = some u := fun b o u hb hu => by rw [World.cell?_of_block (w := w) (a := ⟨b, o, none⟩) (hm b hb)]; exact hu
  exact .mk k m lo hi r kids R K cs (C_move hr (fun ad e _ => by cases e; exact hrp) hm) hrp hrl hin (hc _ _ _ hrp hr0) (hc _ _ _ hrp hr1) hkp hkl ih (fun j hj i u hu => hc _ _ _ hkp (ha j hj i u hu)) (hc _ _ _ hkp hx)
theorem CIn.mono {w : World} {P P' : Nat → Prop} {t : NT} {cs : List Value} (h : CIn w P t cs) (hp : ∀ b, P b → P' b) : CIn w P' t cs := by
 induction h with
 | mk k m lo hi r kids R K cs hr hrp hrl hin hr0 hr1 hkp hkl hk ha hx ih =>
  exact .mk k m lo hi r kids R K cs hr (hp _ hrp) hrl hin hr0 hr1 (hp _ hkp) hkl ih ha hx
/-- between two rounds of copied's loop -/
structure CopSt (w wr : World) (box : Array Value) (r : List S64) (kids : List NT) (K j : Nat) (cj : Nat → List Value) : Prop where
 bel : Below w.heap.size w wr
 box : wr.heap[w.heap.size]? = some (.cells box 44 (0, 0))
 res : wr.heap[w.heap.size + 1]? = some (.cells #[.int .i64 0, .int .i64 0, .int .i64 0, .int .i64 0, .slice none 0 0, .slice none 0 0] 44 (0, 0))
 rng : Kd.C k64 wr (some ⟨w.heap.size + 2, 0, none⟩) r.length r
 r0 : wr.cell? ⟨w.heap.size + 2, r.length * 2, none⟩ = some (.int .i64 (-7))
 r1 : wr.cell? ⟨w.heap.size + 2, r.length * 2 + 1, none⟩ = some (.int .i64 7)
 kl : w.heap.size + 2 < K ∧ K < wr.heap.size
 row : RowAt wr K (kids.length + 1) cj
 len : ∀ i, i < kids.length + 1 → (cj i).length = 6
 done : ∀ i, i < j → ∀ t, kids[i]? = some t → CIn wr (fun b => K < b ∧ b < wr.heap.size) t (cj i)
theorem CopSt.next {w wr w8 : World} {box : Array Value} {r : List S64} {kids : List NT} {K j : Nat} {cj : Nat → List Value} (h : CopSt w wr box r kids K j cj)
  (hj : j < kids.length) {t : NT} (ht : kids[j]? = some t) (hb : Below wr.heap.size wr w8) {v0 v1 v2 v3 v4 v5 : Value} (hN : CIn w8 (fun b => wr.heap.size ≤ b ∧ b < w8.heap.size) t [v0, v1, v2, v3, v4, v5]) :
  CopSt w (put6 w8 K (j * 6) v0 v1 v2 v3 v4 v5) box r kids K (j + 1) (fun i => if i = j then [v0, v1, v2, v3, v4, v5] else cj i) := by
 have hg := h.kl
 have hsz := hb.size
 have hmv : ∀ b, b ≠ K → b < wr.heap.size → (put6 w8 K (j * 6) v0 v1 v2 v3 v4 v5).heap[b]? = wr.heap[b]? := fun b h1 h2 => (put6_other _ _ _ _ _ _ _ _ _ b h1).trans (hb.block b h2)
 have hc : ∀ b o u, b ≠ K → b < wr.heap.size → wr.cell? ⟨b, o, none⟩ = some u → (put6 w8 K (j * 6) v0 v1 v2 v3 v4 v5).cell? ⟨b, o, none⟩ = some u := fun b o u h1 h2 hu => by rw [World.cell?_of_block (w := wr) (a := ⟨b, o, none⟩) (hmv b h1 h2)]; exact hu
 refine ⟨put6_below (h.bel.trans (hb.mono h.bel.size)) (by omega) _ _ _ _ _ _ _, (hmv _ (by omega) (by omega)).trans h.box, (hmv _ (by omega) (by omega)).trans h.res, ?_, hc _ _ _ (by omega) (by omega) h.r0, hc _ _ _ (by omega) (by omega) h.r1, ⟨hg.1, by rw [put6_size]; omega⟩, ?_, ?_, ?_⟩
 ·exact C_move (P := fun b => b = w.heap.size + 2) h.rng (fun ad e _ => by cases e; rfl) (fun b hb' => hmv b (by omega) (by omega))
 ·exact put6_row (h.row.keep (hb.block K hg.2)) (by omega) _ _ _ _ _ _ h.len
 ·intro i hi
  by_cases hij : i = j
  ·rw [if_pos hij]; rfl
  ·rw [if_neg hij]; exact h.len i hi
 ·intro i hi t' ht'
  by_cases hij : i = j
  ·rw [if_pos hij]
   subst hij
   rw [ht] at ht'
   cases ht'
   exact (hN.move (fun b hb' => put6_other _ _ _ _ _ _ _ _ _ b (by omega))).mono (fun b hb' => by rw [put6_size]; omega)
  ·rw [if_neg hij]
   exact ((h.done i (by omega) t' ht').move (fun b hb' => hmv b (by omega) hb'.2)).mono (fun b hb' => by rw [put6_size]; omega)
theorem made44 (W : World) (n : Nat) (hn : n < 1099511627776) : ∃ Z : Array Value, (Instr.makeSlice 42 (.int .i64 ((n : Int) + 1)) (.int .i64 ((n : Int) + 1))).run Try.prog W = .ok (.slice (some ⟨W.heap.size, 0, none⟩) (n + 1) (n + 1)) (W.alloc (.cells Z 44)) ∧ Z.size = (n + 1) * 6 ∧ ∀ i, i < n + 1 → ∀ q u, zero6[q]? = some u → Z[i * 6 + q]? = some u := by
 obtain ⟨i0, hi, hz0, hz1, hz2⟩ := info_parts info44
 have h := run_make W 42 44 i0 _ Try.underlying42 hi hz0 .i64 .i64 ((n : Int) + 1) ((n : Int) + 1) (by omega) (Int.le_refl _) (by rw [hz2]; omega) (by omega)
 refine ⟨madeCells (Value.agg #[.int .i64 0, .int .i64 0, .int .i64 0, .int .i64 0, .slice none 0 0, .slice none 0 0]).cells ((n + 1) * 6), ?_, size_madeCells _ _, fun i hi q u hu => ?_⟩
 ·rw [h, hz1]; rfl
 ·have hq : q < 6 := by have := (List.getElem?_eq_some_iff.1 hu).1; simpa [zero6] using this
  have hj : i * 6 + q < (n + 1) * 6 := by omega
  have e : zero6 = (Value.agg #[.int .i64 0, .int .i64 0, .int .i64 0, .int .i64 0, .slice none 0 0, .slice none 0 0]).cells.toList := rfl
  rw [e, Array.getElem?_toList] at hu
  rw [Array.getElem?_eq_getElem (by rw [size_madeCells]; exact hj)]
  rw [← hu]
  have hz : ((Value.agg #[.int .i64 0, .int .i64 0, .int .i64 0, .int .i64 0, .slice none 0 0, .slice none 0 0]).cells).size = 6 := rfl
  simp only [madeCells, Array.getElem_map, Array.getElem_range, hz]
  rw [show (i * 6 + q) % 6 = q by omega]
  rw [getElem!_pos _ q (by rw [hz]; exact hq), Array.getElem?_eq_getElem]
set_option maxHeartbeats 8000000 in
set_option maxRecDepth 100000 in
theorem copied_calls (n0 : Nat) : ∀ (N : Nat) (t : NT) (cs : List Value) (w : World), t.nodes ≤ N → n0 ≤ w.heap.size → NIn w (· < n0) t cs →
  Calls Try.prog 97 #[.agg cs.toArray] w fun e w' => ∃ cs' : List Value, e = .returned (.agg cs'.toArray) ∧ CIn w' (fun b => w.heap.size ≤ b ∧ b < w'.heap.size) t cs' ∧ Below w.heap.size w w' := by
 intro N
 induction N with
 | zero => intro t cs w h; have := t.nodes_pos; omega
 | succ N ih =>
  intro t cs w hN hw hT
  have hT0 := hT
  cases hT with
  | mk k m lo hi r kids ar ak cr ck csk hr hrb hcr hrl hin hck hkl hk ha =>
   show Calls Try.prog 97 #[.agg #[.int .i64 k, .int .i64 m, .int .i64 lo, .int .i64 hi, .slice ar r.length cr, .slice ak kids.length ck]] w _
   obtain ⟨i0, hi0, hz0, hz1, hz2⟩ := info64'
   obtain ⟨Z, hZ⟩ : ∃ Z, Z = madeCells (Value.agg #[.int .i64 0, .int .i64 0]).cells ((r.length + 1) * 2) := ⟨_, rfl⟩
   have hZs : Z.size = (r.length + 1) * 2 := by rw [hZ, size_madeCells]
   have hmk : ∀ W : World, (Instr.makeSlice 22 (.int .i64 ((r.length : Int) + 1)) (.int .i64 ((r.length : Int) + 1))).run Try.prog W = .ok (.slice (some ⟨W.heap.size, 0, none⟩) (r.length + 1) (r.length + 1)) (W.alloc (.cells Z 64)) := fun W => by
    have := run_make W 22 64 i0 _ Try.underlying22 hi0 hz0 .i64 .i64 ((r.length : Int) + 1) ((r.length : Int) + 1) (by omega) (Int.le_refl _) (by rw [hz2]; omega) (by omega)
    rw [this, hz1, hZ]
    rfl
   obtain ⟨A1, hA1⟩ : ∃ A1, A1 = (w.alloc (.cells #[.int .i64 k, .int .i64 m, .int .i64 lo, .int .i64 hi, .slice ar r.length cr, .slice ak kids.length ck] 44)).alloc (.cells #[.int .i64 0, .int .i64 0, .int .i64 0, .int .i64 0, .slice none 0 0, .slice none 0 0] 44) := ⟨_, rfl⟩
   have hbA : Below w.heap.size w A1 := by rw [hA1]; exact ((Below.refl _ w).alloc (Nat.le_refl _) _).alloc (by simp) _
   have hA0 : A1.heap[w.heap.size]? = some (.cells #[.int .i64 k, .int .i64 m, .int .i64 lo, .int .i64 hi, .slice ar r.length cr, .slice ak kids.length ck] 44 (0, 0)) := by rw [hA1]; exact (Below.heap_alloc _ _ _ (by simp)).trans (World.alloc_heap_new w _)
   have hAr : A1.heap[w.heap.size + 1]? = some (.cells #[.int .i64 0, .int .i64 0, .int .i64 0, .int .i64 0, .slice none 0 0, .slice none 0 0] 44 (0, 0)) := by
    have := World.alloc_heap_new (w.alloc (.cells #[.int .i64 k, .int .i64 m, .int .i64 lo, .int .i64 hi, .slice ar r.length cr, .slice ak kids.length ck] 44)) (.cells #[.int .i64 0, .int .i64 0, .int .i64 0, .int .i64 0, .slice none 0 0, .slice none 0 0] 44)
    rw [World.size_alloc] at this
    rw [hA1]; exact this
   have hAs : A1.heap.size = w.heap.size + 2 := by rw [hA1]; simp
   have hblk : (A1.alloc (.cells Z 64)).heap[w.heap.size + 2]? = some (.cells Z 64 (0, 0)) := by rw [← hAs]; exact World.alloc_heap_new A1 _
   have hbZ : Below A1.heap.size A1 (A1.alloc (.cells Z 64)) := (Below.refl _ A1).alloc (Nat.le_refl _) _
   have mvA : ∀ b, b < n0 → (A1.alloc (.cells Z 64)).heap[b]? = w.heap[b]? := fun b hb => (hbZ.block b (by omega)).trans (hbA.block b (by omega))
   have hcp := fun ty => run_copy64 (A1.alloc (.cells Z 64)) ty (w.heap.size + 2) (r.length + 1) (r.length + 1) ar cr r Z hblk (C_move (P := (· < n0)) hr hrb mvA) (by omega) (by omega)
   obtain ⟨Z2, hZ2⟩ : ∃ Z2, Z2 = (rowOf r ++ Z.toList.drop (r.length * 2)).toArray := ⟨_, rfl⟩
   have hZ2s : Z2.size = (r.length + 1) * 2 := by rw [hZ2]; simp [rowOf_length]; omega
   obtain ⟨w2, hw2⟩ : ∃ w2, w2 = (A1.alloc (.cells Z 64)).setRow (w.heap.size + 2) Z2 := ⟨_, rfl⟩
   have hblk2 : w2.heap[w.heap.size + 2]? = some (.cells Z2 64 (0, 0)) := by rw [hw2]; exact setRow_heap _ _ _ _ _ _ hblk
   have hk2 : ∀ b, b ≠ w.heap.size + 2 → b < A1.heap.size → w2.heap[b]? = A1.heap[b]? := fun b h1 h2 => by rw [hw2]; exact (setRow_other _ _ b Z2 h1).trans (hbZ.block b h2)
   have hs2 : w2.heap.size = w.heap.size + 3 := by rw [hw2]; simp [World.setRow, hAs]
   have hb2 : Below w.heap.size w w2 := by
    rw [hw2]
    exact (hbA.trans (hbZ.mono (by omega))).trans ⟨rfl, rfl, rfl, by simp [World.setRow], fun b hb => setRow_other _ _ b Z2 (by omega)⟩
   rw [← hZ2, ← hw2] at hcp
   have hb20 := (hk2 _ (by omega) (by omega)).trans hA0
   have hcA : w2.cell? ⟨w.heap.size + 2, r.length * 2, none⟩ = some Z2[r.length * 2]! := by
    rw [cell_of_row w2 _ _ Z2 64 (0, 0) hblk2, getElem!_pos Z2 _ (by omega), Array.getElem?_eq_getElem]
   have hcB : w2.cell? ⟨w.heap.size + 2, r.length * 2 + 1, none⟩ = some Z2[r.length * 2 + 1]! := by
    rw [cell_of_row w2 _ _ Z2 64 (0, 0) hblk2, getElem!_pos Z2 _ (by omega), Array.getElem?_eq_getElem]
   have hfA : ∀ o, w2.frozen? ⟨w.heap.size + 2, o, none⟩ = false := fun o => by simp [World.frozen?, hblk2]
   generalize Z2[r.length * 2]! = va at hcA
   generalize Z2[r.length * 2 + 1]! = vb at hcB
   -- the world behind the two stores
   obtain ⟨W3, hW3⟩ : ∃ W3, W3 = (w2.setCell ⟨w.heap.size + 2, r.length * 2, none⟩ (.int .i64 (-7))).setCell ⟨w.heap.size + 2, r.length * 2 + 1, none⟩ (.int .i64 7) := ⟨_, rfl⟩
   have hblk3 : W3.heap[w.heap.size + 2]? = some (.cells ((Z2.setIfInBounds (r.length * 2) (.int .i64 (-7))).setIfInBounds (r.length * 2 + 1) (.int .i64 7)) 64 (0, 0)) := by rw [hW3]; exact blk_set (blk_set hblk2 _ _) _ _
   have hk3 : ∀ b, b ≠ w.heap.size + 2 → W3.heap[b]? = w2.heap[b]? := fun b hb => by rw [hW3]; exact (Below.heap_setCell _ ⟨w.heap.size + 2, r.length * 2 + 1, none⟩ _ b hb).trans (Below.heap_setCell _ ⟨w.heap.size + 2, r.length * 2, none⟩ _ b hb)
   have hs3 : W3.heap.size = w.heap.size + 3 := by rw [hW3, ← hs2]; simp [World.setCell]
   have hb3 : Below w.heap.size w W3 := by rw [hW3]; exact (hb2.setCell (p := ⟨w.heap.size + 2, r.length * 2, none⟩) (by simp only; omega) _).setCell (p := ⟨w.heap.size + 2, r.length * 2 + 1, none⟩) (by simp only; omega) _
   have hb30 := (hk3 _ (by omega)).trans hb20
   have hb31 : W3.heap[w.heap.size + 1]? = some (.cells #[.int .i64 0, .int .i64 0, .int .i64 0, .int .i64 0, .slice none 0 0, .slice none 0 0] 44 (0, 0)) := (hk3 _ (by omega)).trans ((hk2 _ (by omega) (by omega)).trans hAr)
   have hl := rowOf_length r
   have hrow3 : ∀ o u, (rowOf r ++ ([.int .i64 (-7), .int .i64 7] : List Value))[o]? = some u → W3.cell? ⟨w.heap.size + 2, o, none⟩ = some u := by
    intro o u hu
    refine cell_heap hblk3 ?_
    obtain ⟨a, b, hab⟩ : ∃ a b, Z.toList.drop (r.length * 2) = [a, b] := by
     have h3 : (Z.toList.drop (r.length * 2)).length = 2 := by rw [List.length_drop, Array.length_toList]; omega
     match Z.toList.drop (r.length * 2), h3 with
     | [a, b], _ => exact ⟨a, b, rfl⟩
    rw [hZ2, hab]
    have : ((((rowOf r ++ [a, b]).toArray.setIfInBounds (r.length * 2) (.int .i64 (-7))).setIfInBounds (r.length * 2 + 1) (.int .i64 7))) = (rowOf r ++ ([.int .i64 (-7), .int .i64 7] : List Value)).toArray := by
     simp [List.set_append, hl]
    rw [this]
    simpa using hu
   have hrng3 : Kd.C k64 W3 (some ⟨w.heap.size + 2, 0, none⟩) r.length r := by
    refine ⟨rfl, by omega, fun _ => ⟨_, rfl, fun j p hj => ⟨enc2 p, rfl, k64_mk _ _, fun i u hu => ?_⟩⟩⟩
    rw [add_plain]
    refine hrow3 _ _ ?_
    have hlt := (List.getElem?_eq_some_iff.1 hu).1
    have hi2 : i < 2 := by simpa [enc2] using hlt
    have hjl := (List.getElem?_eq_some_iff.1 hj).1
    have h2 := rowOf_at r j p hj
    have hsz : k64.sz = 2 := rfl
    rw [hsz, List.getElem?_append_left (by omega)]
    match i, hi2, hu with
    | 0, _, hu => simp [enc2] at hu; subst hu; exact h2.1
    | 1, _, hu => simp [enc2] at hu; subst hu; exact h2.2
   have hr30 : W3.cell? ⟨w.heap.size + 2, r.length * 2, none⟩ = some (.int .i64 (-7)) := hrow3 _ _ (by rw [List.getElem?_append_right (by omega), hl]; simp)
   have hr31 : W3.cell? ⟨w.heap.size + 2, r.length * 2 + 1, none⟩ = some (.int .i64 7) := hrow3 _ _ (by rw [List.getElem?_append_right (by omega), hl]; simp)
   obtain ⟨ZK, hmkK, hZKs, hZKz⟩ := made44 W3 kids.length hkl
   have hst : CopSt w (W3.alloc (.cells ZK 44)) #[.int .i64 k, .int .i64 m, .int .i64 lo, .int .i64 hi, .slice ar r.length cr, .slice ak kids.length ck] r kids W3.heap.size 0 (fun _ => zero6) := by
    have hbK : Below W3.heap.size W3 (W3.alloc (.cells ZK 44)) := (Below.refl _ W3).alloc (Nat.le_refl _) _
    have hc : ∀ o u, W3.cell? ⟨w.heap.size + 2, o, none⟩ = some u → (W3.alloc (.cells ZK 44)).cell? ⟨w.heap.size + 2, o, none⟩ = some u := fun o u hu => by rw [World.cell?_of_block (w := W3) (a := ⟨w.heap.size + 2, o, none⟩) (hbK.block _ (by simp only; omega))]; exact hu
    exact ⟨hb3.trans (hbK.mono (by omega)), (hbK.block _ (by omega)).trans hb30, (hbK.block _ (by omega)).trans hb31, Kd.C_below hrng3 hbK, hc _ _ hr30, hc _ _ hr31, ⟨by omega, by simp⟩, ⟨ZK, World.alloc_heap_new W3 _, by rw [hZKs]; exact Nat.le_refl _, fun i hi q u hu => hZKz i hi q u hu⟩, fun i hi => rfl, fun i hi => by omega⟩
   have hfa := hfA (r.length * 2)
   have hfb := hfA (r.length * 2 + 1)
   rw [hA1] at hcp
   have e4 := cell_heap (i := 4) hb20 rfl
   have g4 := cell_heap (i := 4) hb30 rfl
   have g5 := cell_heap (i := 5) hb30 rfl
   have HT := Lib.hid hT0
   have HN := Lib.hid hN
   have HW := Lib.hid hw
   have HI := Lib.hid ih
   have HST := Lib.hid hst
   have HW3 := Lib.hid hW3
   have HKL := Lib.hid hkl
   have HCP := Lib.hid hcp
   have HMK := Lib.hid hmkK
   have hlr : (r.length : Int) < (r.length : Int) + 1 := by omega
   have hlk : (kids.length : Int) < (kids.length : Int) + 1 := by omega
   have HRL := Lib.hid (And.intro hrl hin)
   clear hi0 hz0 hz1 hz2 hZ hZs hbA hA0 hAr hAs hblk hbZ mvA hZ2 hZ2s hblk2 hk2 hs2 hb2 hb20 hfA hblk3 hk3 hs3 hb3 hb30 hb31 hl hrow3 hrng3 hr30 hr31 hZKs hZKz hst hT0 hN hw ih hr hrb hcr hin hck hk ha hW3 hA1 hw2 hcp hmkK
   have hcp := HCP.out
   go_enter Try.func97, Try.ntmps97
   go_upto_region 4 with (fail)
   rw [← HW3.out]
   have hmkK := HMK.out
   clear hcp hmk e4 hcA hcB hfa hfb
   go_wp2_with fail
   clear hmkK g4 g5
   go_loopg [5] kids.length (fun gg s5 wr => ∃ (j : Nat) (cj : Nat → List Value), s5 = .int .i64 j ∧ j ≤ kids.length ∧ kids.length - j ≤ gg ∧ Aside0 (CopSt w wr #[.int .i64 k, .int .i64 m, .int .i64 lo, .int .i64 hi, .slice ar r.length cr, .slice ak kids.length ck] r kids W3.heap.size j cj))
   case atStart => exact ⟨0, _, rfl, by omega, by omega, ⟨HST.out⟩⟩
   case round =>
    obtain ⟨j, cj, rfl, hj, hgg, HS⟩ := hrel
    have c5 := cell_heap (i := 5) HS.out.box rfl
    by_cases hjn : j < kids.length
    ·have hjn' : (j : Int) < (kids.length : Int) := by omega
     have hjn2 : (j : Int) < (kids.length : Int) + 1 := by omega
     obtain ⟨t, ht⟩ : ∃ t, kids[j]? = some t := ⟨_, List.getElem?_eq_getElem hjn⟩
     obtain ⟨ad, kcs, rfl, hPk, hNk, hck⟩ := HT.out.kid ht
     obtain ⟨tk, tm, tlo, thi, tr, tkids⟩ := t
     obtain ⟨tar, tak, tcr, tck, rfl⟩ := NIn.shape hNk
     have hnk : (NT.mk tk tm tlo thi tr tkids).nodes ≤ NT.nodesL kids := NT.nodes_kid (List.mem_of_getElem? ht)
     have hmv : ∀ b, b < n0 → wr.heap[b]? = w.heap[b]? := fun b hb => HS.out.bel.block b (Nat.lt_of_lt_of_le hb HW.out)
     have hcr : ∀ i u, ([.int .i64 tk, .int .i64 tm, .int .i64 tlo, .int .i64 thi, .slice tar tr.length tcr, .slice tak tkids.length tck] : List Value)[i]? = some u → wr.cell? (ad.add (j * 6 + i)) = some u := fun i u hu => (World.cell?_of_block (w := w) (a := ad.add (j * 6 + i)) (by rw [add_block]; exact hmv _ hPk)).trans (hck i u hu)
     have x0 := hcr 0 _ rfl
     rw [Nat.add_zero] at x0
     have x1 := cell_at hcr 1 (by decide) rfl
     have x2 := cell_at hcr 2 (by decide) rfl
     have x3 := cell_at hcr 3 (by decide) rfl
     have x4 := cell_at hcr 4 (by decide) rfl
     have x5 := cell_at hcr 5 (by decide) rfl
     have HC := Lib.hid (HI.out (.mk tk tm tlo thi tr tkids) _ wr (by have h1 := HN.out; simp only [NT.nodes] at h1 hnk ⊢; omega) (by have h1 := HS.out.bel.size; have h2 := HW.out; omega) (hNk.move hmv))
     have HTJ := Lib.hid ht
     clear hPk hNk hck hnk hmv hcr ht
     go_wp2_with fail
     refine HC.out.mono ?_
     rintro e w8 ⟨cs8, rfl, hC8, hB8⟩
     have hC80 := hC8
     cases hC8 with
     | mk _ _ _ _ _ _ R2 K2 cq _ _ _ _ _ _ _ _ _ _ _ =>
      rename_i q1 q2 q3 q4 q5 q6 q7 q8 q9 q10 q11
      clear q1 q2 q3 q4 q5 q6 q7 q8 q9 q10 q11
      have HX := Lib.hid (HS.out.next hjn HTJ.out hB8 hC80)
      have hrw := HS.out.row.keep (hB8.block _ HS.out.kl.2)
      have hfz := hrw.frozen
      have hce : ∀ q, q < 6 → ∃ u, w8.cell? ⟨W3.heap.size, j * 6 + q, none⟩ = some u := fun q hq => by
       have hl := HS.out.len j (by omega)
       exact ⟨(cj j)[q], hrw.cell (by omega) (List.getElem?_eq_getElem (by omega))⟩
      obtain ⟨y0, z0⟩ := hce 0 (by decide)
      obtain ⟨y1, z1⟩ := hce 1 (by decide)
      obtain ⟨y2, z2⟩ := hce 2 (by decide)
      obtain ⟨y3, z3⟩ := hce 3 (by decide)
      obtain ⟨y4, z4⟩ := hce 4 (by decide)
      obtain ⟨y5, z5⟩ := hce 5 (by decide)
      rw [Nat.add_zero] at z0
      clear hrw hce hC80 hB8 c5 x0 x1 x2 x3 x4 x5
      go_wp2_with fail
      go_roundg (kids.length - (j + 1))
      case measure => omega
      case rel => exact ⟨j + 1, _, congrArg (Value.int .i64) (by first | (push_cast; rfl) | (rw [w64_lit _ (by omega) (by have := HKL.out; omega)]; push_cast; rfl)), by omega, Nat.le_refl _, ⟨HX.out⟩⟩
    ·obtain rfl : j = kids.length := by omega
     have hjn' : ¬ (kids.length : Int) < (kids.length : Int) := by omega
     have hrw := HS.out.row
     have hfz := hrw.frozen
     have hce : ∀ q, q < 6 → ∃ u, wr.cell? ⟨W3.heap.size, kids.length * 6 + q, none⟩ = some u := fun q hq => by
      have hl := HS.out.len kids.length (by omega)
      exact ⟨(cj kids.length)[q], hrw.cell (by omega) (List.getElem?_eq_getElem (by omega))⟩
     obtain ⟨y0, z0⟩ := hce 0 (by decide)
     obtain ⟨y1, z1⟩ := hce 1 (by decide)
     obtain ⟨y2, z2⟩ := hce 2 (by decide)
     obtain ⟨y3, z3⟩ := hce 3 (by decide)
     obtain ⟨y4, z4⟩ := hce 4 (by decide)
     obtain ⟨y5, z5⟩ := hce 5 (by decide)
     rw [Nat.add_zero] at z0
     clear hrw hce
     go_upto_region 10 with (fail)
     generalize hW9 : World.setCell _ _ _ = W9
     have hput : put6 wr W3.heap.size (kids.length * 6) (.int .i64 (-7)) (.int .i64 0) (.int .i64 0) (.int .i64 0) (.slice none 0 0) (.slice none 0 0) = W9 := hW9
     have hrw9 : RowAt W9 W3.heap.size (kids.length + 1) (fun i => if i = kids.length then [.int .i64 (-7), .int .i64 0, .int .i64 0, .int .i64 0, .slice none 0 0, .slice none 0 0] else cj i) := by rw [← hput]; exact put6_row HS.out.row (by omega) _ _ _ _ _ _ HS.out.len
     have hk9 : ∀ b, b ≠ W3.heap.size → W9.heap[b]? = wr.heap[b]? := fun b hb => by rw [← hput]; exact put6_other _ _ _ _ _ _ _ _ _ b hb
     have hs9 : W9.heap.size = wr.heap.size := by rw [← hput]; exact put6_size _ _ _ _ _ _ _ _ _
     have hb9 : Below w.heap.size w W9 := by rw [← hput]; exact put6_below HS.out.bel (by have := HS.out.kl.1; omega) _ _ _ _ _ _ _
     have hkl := HS.out.kl
     have hbx9 := (hk9 _ (by omega)).trans HS.out.box
     have hre9 := (hk9 _ (by omega)).trans HS.out.res
     have HR9 := Lib.hid hrw9
     have HK9 := Lib.hid hk9
     have HS9 := Lib.hid hs9
     have HB9 := Lib.hid hb9
     have HX9 := Lib.hid hbx9
     have HE9 := Lib.hid hre9
     have c0 := cell_heap (i := 0) hbx9 rfl
     have c1 := cell_heap (i := 1) hbx9 rfl
     have c2 := cell_heap (i := 2) hbx9 rfl
     have c3 := cell_heap (i := 3) hbx9 rfl
     have c4 := cell_heap (i := 4) hbx9 rfl
     have c55 := cell_heap (i := 5) hbx9 rfl
     have f9 : ∀ o, W9.frozen? ⟨w.heap.size, o, none⟩ = false := fun o => by simp [World.frozen?, hbx9]
     clear hW9 hput hrw9 hk9 hs9 hb9 hbx9 hre9 z0 z1 z2 z3 z4 z5 hfz c5
     go_upto_region 11 with (fail)
     generalize hWa : World.setCell _ _ _ = Wa
     have hbxa : Wa.heap[w.heap.size]? = some (.cells #[.int .i64 k, .int .i64 m, .int .i64 lo, .int .i64 hi, .slice (some ⟨w.heap.size + 2, 0, none⟩) r.length (r.length + 1), .slice ak kids.length ck] 44 (0, 0)) := by rw [← hWa]; exact set_row HX9.out 4 _
     have hka : ∀ b, b ≠ w.heap.size → Wa.heap[b]? = W9.heap[b]? := fun b hb => by rw [← hWa]; exact Below.heap_setCell _ _ _ _ hb
     have hsa : Wa.heap.size = W9.heap.size := by rw [← hWa]; simp [World.setCell]
     have hba : Below w.heap.size w Wa := by rw [← hWa]; exact HB9.out.setCell (p := ⟨w.heap.size, 4, none⟩) (Nat.le_refl _) _
     have d5 := cell_heap (i := 5) hbxa rfl
     have fa : ∀ o, Wa.frozen? ⟨w.heap.size, o, none⟩ = false := fun o => by simp [World.frozen?, hbxa]
     have HXa := Lib.hid hbxa
     have HKa := Lib.hid hka
     have HSa := Lib.hid hsa
     have HBa := Lib.hid hba
     clear hWa hbxa hka hsa hba c0 c1 c2 c3 c4 c55 f9
     go_upto_region 12 with (fail)
     generalize hWb : World.setCell _ _ _ = Wb
     have hbxb : Wb.heap[w.heap.size]? = some (.cells #[.int .i64 k, .int .i64 m, .int .i64 lo, .int .i64 hi, .slice (some ⟨w.heap.size + 2, 0, none⟩) r.length (r.length + 1), .slice (some ⟨W3.heap.size, 0, none⟩) kids.length (kids.length + 1)] 44 (0, 0)) := by rw [← hWb]; exact set_row HXa.out 5 _
     have hkb : ∀ b, b ≠ w.heap.size → Wb.heap[b]? = Wa.heap[b]? := fun b hb => by rw [← hWb]; exact Below.heap_setCell _ _ _ _ hb
     have hsb : Wb.heap.size = Wa.heap.size := by rw [← hWb]; simp [World.setCell]
     have hbb : Below w.heap.size w Wb := by rw [← hWb]; exact HBa.out.setCell (p := ⟨w.heap.size, 5, none⟩) (Nat.le_refl _) _
     have hreb : Wb.heap[w.heap.size + 1]? = some (.cells #[.int .i64 0, .int .i64 0, .int .i64 0, .int .i64 0, .slice none 0 0, .slice none 0 0] 44 (0, 0)) := (hkb _ (by omega)).trans ((HKa.out _ (by omega)).trans HE9.out)
     have s0 := cell_heap (i := 0) hbxb rfl
     have s1 := cell_heap (i := 1) hbxb rfl
     have s2 := cell_heap (i := 2) hbxb rfl
     have s3 := cell_heap (i := 3) hbxb rfl
     have s4 := cell_heap (i := 4) hbxb rfl
     have s5 := cell_heap (i := 5) hbxb rfl
     have d0 := cell_heap (i := 0) hreb rfl
     have d1 := cell_heap (i := 1) hreb rfl
     have d2 := cell_heap (i := 2) hreb rfl
     have d3 := cell_heap (i := 3) hreb rfl
     have d4 := cell_heap (i := 4) hreb rfl
     have d6 := cell_heap (i := 5) hreb rfl
     have fb : ∀ o, Wb.frozen? ⟨w.heap.size + 1, o, none⟩ = false := fun o => by simp [World.frozen?, hreb]
     have HKb := Lib.hid hkb
     have HSb := Lib.hid hsb
     have HBb := Lib.hid hbb
     have HRb := Lib.hid hreb
     clear hWb hbxb hkb hsb hbb hreb d5 fa
     go_wp2_with fail
     obtain ⟨WF, hWF⟩ : ∃ WF, WF = put6 Wb (w.heap.size + 1) 0 (.int .i64 k) (.int .i64 m) (.int .i64 lo) (.int .i64 hi) (.slice (some ⟨w.heap.size + 2, 0, none⟩) r.length (r.length + 1)) (.slice (some ⟨W3.heap.size, 0, none⟩) kids.length (kids.length + 1)) := ⟨_, rfl⟩
     have hzF : WF.heap[w.heap.size + 1]? = some (.cells #[.int .i64 k, .int .i64 m, .int .i64 lo, .int .i64 hi, .slice (some ⟨w.heap.size + 2, 0, none⟩) r.length (r.length + 1), .slice (some ⟨W3.heap.size, 0, none⟩) kids.length (kids.length + 1)] 44 (0, 0)) := by
      rw [hWF]; unfold put6
      exact set_row (set_row (set_row (set_row (set_row (set_row HRb.out _ _) _ _) _ _) _ _) _ _) _ _
     have hsF : WF.heap.size = wr.heap.size := by rw [hWF, put6_size, HSb.out, HSa.out, HS9.out]
     have hmF : ∀ b, b ≠ w.heap.size → b ≠ w.heap.size + 1 → WF.heap[b]? = W9.heap[b]? := fun b h1 h2 => by rw [hWF, put6_other _ _ _ _ _ _ _ _ _ b h2, HKb.out b h1, HKa.out b h1]
     have hbF : Below w.heap.size w WF := by rw [hWF]; exact put6_below HBb.out (by omega) _ _ _ _ _ _ _
     change bodyPost Try.prog Try.f97 _ Exit.ret _ (put6 Wb (w.heap.size + 1) 0 (.int .i64 k) (.int .i64 m) (.int .i64 lo) (.int .i64 hi) (.slice (some ⟨w.heap.size + 2, 0, none⟩) r.length (r.length + 1)) (.slice (some ⟨W3.heap.size, 0, none⟩) kids.length (kids.length + 1)))
     rw [← hWF]
     have r0 := cell_heap (i := 0) hzF rfl
     have r1 := cell_heap (i := 1) hzF rfl
     have r2 := cell_heap (i := 2) hzF rfl
     have r3 := cell_heap (i := 3) hzF rfl
     have r4 := cell_heap (i := 4) hzF rfl
     have r5 := cell_heap (i := 5) hzF rfl
     refine bodyPost_ret (v := .agg #[.int .i64 k, .int .i64 m, .int .i64 lo, .int .i64 hi, .slice (some ⟨w.heap.size + 2, 0, none⟩) r.length (r.length + 1), .slice (some ⟨W3.heap.size, 0, none⟩) kids.length (kids.length + 1)]) (by simp [results, Try.results97, go_sem, r0, r1, r2, r3, r4, r5]) rfl ?_
     refine ⟨[.int .i64 k, .int .i64 m, .int .i64 lo, .int .i64 hi, .slice (some ⟨w.heap.size + 2, 0, none⟩) r.length (r.length + 1), .slice (some ⟨W3.heap.size, 0, none⟩) kids.length (kids.length + 1)], rfl, ?_, hbF⟩
     have hkF : ∀ b, w.heap.size + 2 ≤ b → b ≠ W3.heap.size → WF.heap[b]? = wr.heap[b]? := fun b h1 h2 => (hmF b (by omega) (by omega)).trans (HK9.out b h2)
     have hcF : ∀ o u, wr.cell? ⟨w.heap.size + 2, o, none⟩ = some u → WF.cell? ⟨w.heap.size + 2, o, none⟩ = some u := fun o u hu => by rw [World.cell?_of_block (w := wr) (a := ⟨w.heap.size + 2, o, none⟩) (hkF (w.heap.size + 2) (Nat.le_refl _) (by omega))]; exact hu
     have hrwF : RowAt WF W3.heap.size (kids.length + 1) (fun i => if i = kids.length then [.int .i64 (-7), .int .i64 0, .int .i64 0, .int .i64 0, .slice none 0 0, .slice none 0 0] else cj i) := HR9.out.keep (hmF _ (by omega) (by omega))
     refine CIn.mk k m lo hi r kids (w.heap.size + 2) W3.heap.size cj ?_ (by rw [hsF]; omega) HRL.out.1 HRL.out.2 (hcF _ _ HS.out.r0) (hcF _ _ HS.out.r1) (by rw [hsF]; omega) HKL.out ?_ ?_ ?_
     ·exact C_move (P := fun b => b = w.heap.size + 2) HS.out.rng (fun ad e _ => by cases e; rfl) (fun b hb => by rw [hb]; exact hkF _ (Nat.le_refl _) (by omega))
     ·intro j t ht
      have hjl := (List.getElem?_eq_some_iff.1 ht).1
      exact ((HS.out.done j hjl t ht).move (fun b hb => hkF b (by omega) (by omega))).mono (fun b hb => by rw [hsF]; omega)
     ·intro j hj i u hu
      refine hrwF.cell (i := j) (by omega) ?_
      rw [if_neg (by omega)]; exact hu
     ·have := hrwF.cell (i := kids.length) (q := 0) (u := .int .i64 (-7)) (by omega) (by rw [if_pos rfl]; rfl)
      simpa using this
end Go.Proofs.Ytamhkdlcoghdbaa.PCls
