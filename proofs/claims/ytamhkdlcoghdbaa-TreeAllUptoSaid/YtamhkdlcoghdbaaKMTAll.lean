/- Put together (wip/tools/pack.py): KTAll, KTGoes0, KTClone. -/
import Derived.Test.YtamhkdlcoghdbaaKMTCount
import Derived.OrdersIn
/- Out of TAll (wip/tools/prune2.py): the declarations alone that the texts of the trees name. -/
namespace Go.Proofs.Ytamhkdlcoghdbaa.PCls
open Go.RowKit Go.Shelf Go.Proofs.YtamhkdlcoghdbaaW.PrintWords Go.Proofs.YtamhkdlcoghdbaaW.PrintLast Go.Proofs.YtamhkdlcoghdbaaW.PrintMore
set_option linter.unusedVariables false
set_option linter.unusedSimpArgs false
attribute [local go_sem] Oper.semAt_some
/-- what has come, and whether it was said that no more is wanted -/
structure SA where
 pre : List Step
 out : Bool
def visA (go : List Step → Step → Bool) (st : SA) (s : Step) : Bool × SA := if st.pre.length = 2000 then (false, st) else (go st.pre s, ⟨st.pre ++ [s], !go st.pre s⟩)
theorem all_ok (go : List Step → Step → Bool) (xs : List Step) : ∀ (l : List Ev) (pre : List Step), pre.length ≤ 2000 → xs = pre ++ (enters l).take (2000 - pre.length) →
  runOk (visA go) lvN (fun st s => st.out = false ∧ st.pre.length ≤ 2000 ∧ (st.pre.length ≠ 2000 → st.pre ++ [s] <+: xs)) (fun _ _ => True) l ⟨pre, false⟩ ∧
   (((run (visA go) lvN l ⟨pre, false⟩).2.out = false ∧ (run (visA go) lvN l ⟨pre, false⟩).2.pre = xs) ∨ ((run (visA go) lvN l ⟨pre, false⟩).2.out = true ∧ (run (visA go) lvN l ⟨pre, false⟩).2.pre <+: xs)) := by
 intro l
 induction l with
 | nil => intro pre _ hx; exact ⟨trivial, .inl ⟨rfl, by rw [hx]; simp [run, enters]⟩⟩
 | cons x l ih =>
  intro pre hn hx
  cases x with
  | leave t => exact ⟨⟨trivial, (ih pre hn hx).1⟩, (ih pre hn hx).2⟩
  | enter t =>
   by_cases h : pre.length = 2000
   ·have hv : visA go ⟨pre, false⟩ t = (false, ⟨pre, false⟩) := by unfold visA; rw [if_pos h]
    refine ⟨⟨⟨rfl, hn, fun g => absurd h g⟩, fun g => by rw [hv] at g; simp at g⟩, .inl ?_⟩
    rw [run_stop (by rw [hv]), hv]
    exact ⟨rfl, by rw [hx, h]; simp⟩
   ·have hx2 : xs = (pre ++ [t]) ++ (enters l).take (2000 - (pre ++ [t]).length) := by
     rw [hx, List.length_append, List.length_singleton]
     obtain ⟨d, hd⟩ : ∃ d, 2000 - pre.length = d + 1 := ⟨2000 - pre.length - 1, by omega⟩
     rw [hd, show 2000 - (pre.length + 1) = d by omega]
     simp [enters]
    have hpre : pre ++ [t] <+: xs := ⟨_, hx2.symm⟩
    have hv : visA go ⟨pre, false⟩ t = (go pre t, ⟨pre ++ [t], !go pre t⟩) := by unfold visA; rw [if_neg h]
    cases hg : go pre t
    ·rw [hg] at hv
     refine ⟨⟨⟨rfl, hn, fun _ => hpre⟩, fun g => by rw [hv] at g; simp at g⟩, .inr ?_⟩
     rw [run_stop (by rw [hv]), hv]
     exact ⟨rfl, hpre⟩
    ·rw [hg] at hv
     have := ih (pre ++ [t]) (by simp; omega) hx2
     refine ⟨⟨⟨rfl, hn, fun _ => hpre⟩, fun _ => by rw [hv]; exact this.1⟩, ?_⟩
     rw [run_enter (by rw [hv]), hv]
     exact this.2
theorem boxed_other2 {A : World} {b c : Nat} {t : TypeId} {v u : Value} (h : Boxed A b t v) (hne : b ≠ c) : Boxed (A.setCell ⟨c, 0, none⟩ u) b t v := (Below.heap_setCell A ⟨c, 0, none⟩ u b hne).trans h
/-- what a round is handed of a node: how deep, and the node without its kids, its ranges in memory of their own -/
def EA (B1 : Nat) (s : Step) (W : World) (vs : Array Value) : Prop := ∃ (A : Option Addr) (c : Nat), vs = #[.int .i64 s.deep, .agg #[.int .i64 s.n.k, .int .i64 s.n.m, .int .i64 s.n.lo, .int .i64 s.n.hi, .slice A s.n.r.length c, .slice none 0 0]] ∧ Kd.R k64 64 W B1 (fun _ => True) (.slice A s.n.r.length c) s.n.r
set_option maxHeartbeats 4000000 in
set_option maxRecDepth 100000 in
theorem all_visit (lo B1 l : Nat) (J Jx : List Step → World → Prop) (W1 : World) (hB1 : B1 = W1.heap.size) (hlo : lo ≤ B1) (go : List Step → Step → Bool) (xs : List Step)
  (hJ : ∀ s A B, J s A → Below B1 A B → J s B)
  (hY : ∀ (m : Nat) (pre : List Step) (x : Step) (vs : Array Value) (A : World), pre ++ [x] <+: xs → J pre A → EA B1 x A vs → YieldAt Fence.wide m Try.prog l vs A fun e B =>
   e = .returned (.bool (go pre x)) ∧ (go pre x = true → J (pre ++ [x]) B ∧ KeptBut lo B1 A B) ∧ (go pre x = false → Jx (pre ++ [x]) B ∧ A.heap.size ≤ B.heap.size))
  (k m lo_ hi d a : Int) (r : List S64) (kids : List NT) (ar ak : Option Addr) (cr ck : Nat) (f la b : Bool) (pre : List Step) (w : World)
  (hr : Kd.C k64 w ar r.length r) (hrb : ∀ ad, ar = some ad → r ≠ [] → ad.block < lo) (hcr : r.length ≤ cr) (hrl : r.length < 2097152) (hpre : pre.length ≠ 2000 → pre ++ [⟨.mk k m lo_ hi r kids, d, a, f, la, b⟩] <+: xs) (hlen : pre.length ≤ 2000)
  (hj : J pre w) (hm : Boxed w (B1 + 1) 3 (.int .i64 pre.length)) (hy : Boxed w B1 83 (.func (.yield l) #[] #[])) :
  Calls Try.prog 88 #[.agg #[.int .i64 k, .int .i64 m, .int .i64 lo_, .int .i64 hi, .slice ar r.length cr, .slice ak kids.length ck, .int .i64 d, .int .i64 a, .bool f, .bool la, .bool b], .pointer (some ⟨B1 + 1, 0, none⟩), .pointer (some ⟨B1, 0, none⟩)] w
   fun e w' => (pre.length = 2000 ∧ e = .returned (.bool false) ∧ Below w.heap.size w w') ∨
    (pre.length ≠ 2000 ∧ e = .returned (.bool (go pre ⟨.mk k m lo_ hi r kids, d, a, f, la, b⟩)) ∧ (go pre ⟨.mk k m lo_ hi r kids, d, a, f, la, b⟩ = true → J (pre ++ [⟨.mk k m lo_ hi r kids, d, a, f, la, b⟩]) w' ∧ KeptBut lo (B1 + 2) w w' ∧ Boxed w' (B1 + 1) 3 (.int .i64 ((pre.length : Int) + 1)) ∧ Boxed w' B1 83 (.func (.yield l) #[] #[])) ∧
     (go pre ⟨.mk k m lo_ hi r kids, d, a, f, la, b⟩ = false → Jx (pre ++ [⟨.mk k m lo_ hi r kids, d, a, f, la, b⟩]) w' ∧ w.heap.size ≤ w'.heap.size)) := by
 have HM := Lib.hid hm
 have HY := Lib.hid hy
 have HJ := Lib.hid hJ
 have HYY := Lib.hid hY
 have HP := Lib.hid hpre
 have HB1 := Lib.hid hB1
 have HR := Lib.hid hr
 have HRB := Lib.hid hrb
 have HL := Lib.hid hrl
 have HC := Lib.hid hcr
 have HJJ := Lib.hid hj
 have HLO := Lib.hid hlo
 clear hJ hY hpre hB1 hr hrb hrl hcr hj hlo
 by_cases h : pre.length = 2000
 ·have cm := hm.cell
  have lm := hm.lt
  rw [h] at cm
  have H := Lib.hid h
  clear hm hy h hlen
  go_enter Try.func88, Try.ntmps88
  go_wp2
  go_ret
  exact .inl ⟨H.out, rfl, (Below.refl _ w).alloc (Nat.le_refl _) _⟩
 ·have cm := hm.cell
  have fm := hm.frozen
  have lm := hm.lt
  have cy := hy.cell
  have ly := hy.lt
  have hne : ((pre.length : Int) == 2000) = false := beq_eq_false_iff_ne.2 (by omega)
  have hwr : wrap64 ((pre.length : Int) + 1) = (pre.length : Int) + 1 := w64_lit _ (by omega) (by omega)
  have H := Lib.hid h
  clear hm hy h hlen
  refine (callsIn_wide (n := 9)).1 ?_
  refine callsIn_of_wp Try.func88 rfl trivial ?_ rfl
  simp only [Try.ntmps88, List.size_toArray, List.length_cons, List.length_nil, Nat.reduceAdd, Nat.reduceSub, Array.replicate_succ, Array.replicate_zero, List.push_toArray, List.append_toArray, List.nil_append, List.cons_append]
  gi_wp2_with fail
  obtain ⟨Wb, hWb⟩ : ∃ Wb, Wb = (w.setCell ⟨B1 + 1, 0, none⟩ (.int .i64 ((pre.length : Int) + 1))).alloc (.cells #[.int .i64 k, .int .i64 m, .int .i64 lo_, .int .i64 hi, .slice ar r.length cr, .slice none 0 0, .int .i64 d, .int .i64 a, .bool f, .bool la, .bool b] 78) := ⟨_, rfl⟩
  rw [← hWb]
  have hszb : Wb.heap.size = w.heap.size + 1 := by rw [hWb]; simp [World.setCell]
  have hbB : Below B1 w Wb := by rw [hWb]; exact ((Below.refl B1 w).setCell (p := ⟨B1 + 1, 0, none⟩) (by simp only; omega) _).alloc (by simp [World.setCell]; omega) _
  have hmb : Boxed Wb (B1 + 1) 3 (.int .i64 ((pre.length : Int) + 1)) := by rw [hWb]; exact (HM.out.set _).alloc _
  have hyb : Boxed Wb B1 83 (.func (.yield l) #[] #[]) := by rw [hWb]; exact (boxed_other2 HY.out (by omega)).alloc _
  have hsb : Wb.heap[w.heap.size]? = some (.cells #[.int .i64 k, .int .i64 m, .int .i64 lo_, .int .i64 hi, .slice ar r.length cr, .slice none 0 0, .int .i64 d, .int .i64 a, .bool f, .bool la, .bool b] 78 (0, 0)) := by
   have := World.alloc_heap_new (w.setCell ⟨B1 + 1, 0, none⟩ (.int .i64 ((pre.length : Int) + 1))) (.cells #[.int .i64 k, .int .i64 m, .int .i64 lo_, .int .i64 hi, .slice ar r.length cr, .slice none 0 0, .int .i64 d, .int .i64 a, .bool f, .bool la, .bool b] 78)
   rw [hWb]
   simpa [World.setCell] using this
  have hkb : KeptBut lo (B1 + 2) w Wb := by
   rw [hWb]
   exact ((KeptBut.refl lo (B1 + 2) w).setCell (p := ⟨B1 + 1, 0, none⟩) (by have := HLO.out; simp only; omega) (by simp only; omega) _).trans (KeptBut.of_below ((Below.refl _ _).alloc (Nat.le_refl _) _))
  have hcl := api_Range_89.calls ar cr r r Wb (C_move (P := (· < lo)) HR.out HRB.out (fun x hx => hbB.block x (by have := HLO.out; omega))) HC.out (by unfold api_Range_89.f; rw [if_pos (by have := HL.out; omega)])
  have HCL := Lib.hid hcl
  have HKB := Lib.hid hkb
  have HBB := Lib.hid hbB
  have HMB := Lib.hid hmb
  have HYB := Lib.hid hyb
  have HSB := Lib.hid hsb
  have HSZ := Lib.hid hszb
  have HWB := Lib.hid hWb
  have LY := Lib.hid ly
  clear hWb hszb hbB hmb hyb hsb hkb hcl cm fm lm cy ly hne hwr
  refine ⟨trivial, ?_⟩
  refine (callsIn_wide.2 HCL.out).mono ?_
  rintro e w2 ⟨v, rfl, hR, hB⟩
  obtain ⟨A, c, rfl⟩ := Kd.R_slice hR
  have hlt := R_lt hR
  obtain ⟨w3, hw3⟩ : ∃ w3, w3 = w2.setCell ⟨w.heap.size, 4, none⟩ (.slice A r.length c) := ⟨_, rfl⟩
  have hs2 := hB.size
  have hR3 : Kd.R k64 64 w3 B1 (fun _ => True) (.slice A r.length c) r := by
   rw [hw3]
   exact Kd.R_lower (R_same hR (fun x hx => Below.heap_setCell _ _ _ _ (by have := (hlt x hx).1; have := HSZ.out; simp only; omega))) (by have := HSZ.out; have := LY.out; omega)
  have hb3 : Below B1 w w3 := by rw [hw3]; exact (HBB.out.trans (hB.mono (by have := HSZ.out; have := LY.out; omega))).setCell (p := ⟨w.heap.size, 4, none⟩) (by have := LY.out; simp only; omega) _
  have hJ3 := HJ.out pre w w3 HJJ.out hb3
  have hm3 : Boxed w3 (B1 + 1) 3 (.int .i64 ((pre.length : Int) + 1)) := by rw [hw3]; exact (Below.heap_setCell _ _ _ _ (by have := HM.out.lt; simp only; omega)).trans (boxed_keep HMB.out hB)
  have hy3 : Boxed w3 B1 83 (.func (.yield l) #[] #[]) := by rw [hw3]; exact (Below.heap_setCell _ _ _ _ (by have := LY.out; simp only; omega)).trans (boxed_keep HYB.out hB)
  have hsc := (hB.block _ (by have := HSZ.out; omega)).trans HSB.out
  have hk3 : KeptBut lo (B1 + 2) w w3 := by
   have h2 := HKB.out.trans (KeptBut.of_below (lo := lo) (hi := B1 + 2) hB)
   rw [hw3]
   exact ⟨h2.os, h2.tape, h2.output, by have := h2.size; simpa [World.setCell] using this, fun x hx hb => (Below.heap_setCell w2 _ _ x (by simp only; omega)).trans (h2.block x hx hb)⟩
  have c0 := cell_heap (i := 0) hsc rfl
  have c1 := cell_heap (i := 1) hsc rfl
  have c2 := cell_heap (i := 2) hsc rfl
  have c3 := cell_heap (i := 3) hsc rfl
  have c4 := cell_heap (i := 4) hsc rfl
  have c5 := cell_heap (i := 5) hsc rfl
  have c6 := cell_heap (i := 6) hsc rfl
  have f4 : w2.frozen? ⟨w.heap.size, 4, none⟩ = false := by simp [World.frozen?, hsc]
  have cy2 := (boxed_keep HYB.out hB).cell
  have hB1w : B1 ≠ w.heap.size := by have := LY.out; omega
  obtain ⟨fn, tmps, assign, body, hyy, hRd⟩ := HYY.out 8 pre _ _ w3 (HP.out H.out) hJ3 ⟨A, c, rfl, hR3⟩
  simp only [NT.k, NT.m, NT.lo, NT.hi, NT.r] at hyy
  rw [hw3] at hyy hRd
  have HW3 := Lib.hid hw3
  have HK3 := Lib.hid hk3
  have HM3 := Lib.hid hm3
  have HY3 := Lib.hid hy3
  have HRD := Lib.hid hRd
  clear hw3 hk3 hm3 hy3 hRd hsc hJ3 hb3 hR3 hs2 hlt hR hB
  gi_wp2_with fail
  refine HRD.out.mono ?_
  rintro e w4 ⟨rfl, g1, g2⟩
  rw [← HW3.out] at g1
  have G1 := Lib.hid g1
  have G2 := Lib.hid g2
  clear g1 g2
  gi_wp2
  go_ret
  refine .inr ⟨H.out, rfl, fun hg => ?_, fun hg => ⟨(G2.out hg).1, by have h1 := (G2.out hg).2; rw [← HW3.out] at h1; exact Nat.le_trans HK3.out.size h1⟩⟩
  obtain ⟨j4, k4⟩ := G1.out hg
  have e3 : w3.heap[B1 + 1]? = some (.cells #[.int .i64 ((pre.length : Int) + 1)] 3 (0, 0)) := HM3.out
  have ey : w3.heap[B1]? = some (.cells #[.func (.yield l) #[] #[]] 83 (0, 0)) := HY3.out
  exact ⟨j4, HK3.out.trans (k4.wide (Nat.le_refl _) (by omega)), (k4.block _ HM3.out.lt (.inr ⟨by omega, fun cells fr => by rw [e3]; simp⟩)).trans e3, (k4.block _ HY3.out.lt (.inr ⟨Nat.le_refl _, fun cells fr => by rw [ey]; simp⟩)).trans ey⟩
/-- the state of the walk that All goes on -/
def IA (J Jx : List Step → World → Prop) (B1 l : Nat) (st : SA) (W : World) : Prop :=
 B1 + 2 ≤ W.heap.size ∧ (st.out = false → J st.pre W ∧ Boxed W (B1 + 1) 3 (.int .i64 st.pre.length) ∧ Boxed W B1 83 (.func (.yield l) #[] #[])) ∧ (st.out = true → Jx st.pre W)
theorem all_visits (lo B1 l : Nat) (J Jx : List Step → World → Prop) (W1 : World) (hB1 : B1 = W1.heap.size) (hlo : lo ≤ B1) (go : List Step → Step → Bool) (xs : List Step)
  (hJ : ∀ s A B, J s A → Below B1 A B → J s B) (hJx : ∀ s A B, Jx s A → Below B1 A B → Jx s B)
  (hY : ∀ (m : Nat) (pre : List Step) (x : Step) (vs : Array Value) (A : World), pre ++ [x] <+: xs → J pre A → EA B1 x A vs → YieldAt Fence.wide m Try.prog l vs A fun e B =>
   e = .returned (.bool (go pre x)) ∧ (go pre x = true → J (pre ++ [x]) B ∧ KeptBut lo B1 A B) ∧ (go pre x = false → Jx (pre ++ [x]) B ∧ A.heap.size ≤ B.heap.size)) :
  Visit (visA go) lvN (fun st s => st.out = false ∧ st.pre.length ≤ 2000 ∧ (st.pre.length ≠ 2000 → st.pre ++ [s] <+: xs)) (fun _ _ => True) (IA J Jx B1 l) (· < lo) (KeptBut lo (B1 + 2)) (B1 + 2) 88 90
   #[.pointer (some ⟨B1 + 1, 0, none⟩), .pointer (some ⟨B1, 0, none⟩)] #[] where
 trans := KeptBut.trans
 below := fun h _ => KeptBut.of_below h
 size := fun h => h.size
 tree := fun h hn b hb => h.block b (by omega) (.inl hb)
 box := fun h hn hc ht => h.block _ (Array.getElem?_eq_some_iff.1 hc).1 (.inr ⟨hn, fun cells fr => by
  rw [hc]
  intro e
  cases e
  rcases ht with h | h <;> exact absurd h (by decide)⟩)
 inv := fun h hb => ⟨Nat.le_trans h.1 hb.size, fun ho => ⟨hJ _ _ _ (h.2.1 ho).1 (hb.mono (by have := h.1; omega)), boxed_keep (h.2.1 ho).2.1 hb, boxed_keep (h.2.1 ho).2.2 hb⟩, fun ho => hJx _ _ _ (h.2.2 ho) (hb.mono (by have := h.1; omega))⟩
 low := fun b hb => by omega
 ev := fun args w => enters_ Try.func88 (by kernel_rfl) rfl args w
 el := fun args w => enters_ Try.func90 (by kernel_rfl) rfl args w
 hv := fun st s cs w hw hT hI hok => by
  obtain ⟨n, d, a, f, la, b⟩ := s
  obtain ⟨pre, out⟩ := st
  obtain ⟨ho, hlen, hpre⟩ := hok
  simp only at ho hlen hpre
  subst ho
  obtain ⟨hs, h1, _⟩ := hI
  obtain ⟨hj, hm, hy⟩ := h1 rfl
  cases hT with
  | mk k m lo_ hi r kids ar ak cr ck csk hr hrb hcr hrl hin hck hkl hk ha =>
   rw [show #[stepV [.int .i64 k, .int .i64 m, .int .i64 lo_, .int .i64 hi, .slice ar r.length cr, .slice ak kids.length ck] ⟨.mk k m lo_ hi r kids, d, a, f, la, b⟩] ++ #[Value.pointer (some ⟨B1 + 1, 0, none⟩), .pointer (some ⟨B1, 0, none⟩)] = #[.agg #[.int .i64 k, .int .i64 m, .int .i64 lo_, .int .i64 hi, .slice ar r.length cr, .slice ak kids.length ck, .int .i64 d, .int .i64 a, .bool f, .bool la, .bool b], .pointer (some ⟨B1 + 1, 0, none⟩), .pointer (some ⟨B1, 0, none⟩)] from rfl]
   refine (all_visit lo B1 l J Jx W1 hB1 hlo go xs hJ hY k m lo_ hi d a r kids ar ak cr ck f la b pre w hr hrb hcr hrl hpre hlen hj hm hy).mono fun e w' h => ?_
   rcases h with ⟨h2, rfl, hb⟩ | ⟨h2, rfl, g1, g2⟩
   ·have e : visA go ⟨pre, false⟩ ⟨.mk k m lo_ hi r kids, d, a, f, la, b⟩ = (false, ⟨pre, false⟩) := by unfold visA; rw [if_pos h2]
    rw [e]
    exact ⟨rfl, ⟨Nat.le_trans hs hb.size, fun _ => ⟨hJ _ _ _ hj (hb.mono (by omega)), boxed_keep hm hb, boxed_keep hy hb⟩, fun h => by cases h⟩, fun h => by cases h⟩
   ·have e : visA go ⟨pre, false⟩ ⟨.mk k m lo_ hi r kids, d, a, f, la, b⟩ = (go pre ⟨.mk k m lo_ hi r kids, d, a, f, la, b⟩, ⟨pre ++ [⟨.mk k m lo_ hi r kids, d, a, f, la, b⟩], !go pre ⟨.mk k m lo_ hi r kids, d, a, f, la, b⟩⟩) := by unfold visA; rw [if_neg h2]
    rw [e]
    cases hg : go pre ⟨.mk k m lo_ hi r kids, d, a, f, la, b⟩
    ·obtain ⟨q1, q2⟩ := g2 hg
     exact ⟨rfl, ⟨Nat.le_trans hs q2, (fun h => by cases h), fun _ => q1⟩, fun h => by cases h⟩
    ·obtain ⟨q1, q2, q3, q4⟩ := g1 hg
     exact ⟨rfl, ⟨Nat.le_trans hs q2.size, fun _ => ⟨q1, by simpa using q3, q4⟩, fun h => by cases h⟩, fun _ => q2⟩
 hl := fun st s cs w hw hT hI _ => by
  obtain ⟨n, d, a, f, la, b⟩ := s
  cases hT with
  | mk k m lo_ hi r kids ar ak cr ck csk hr hrb hcr hrl hin hck hkl hk ha =>
   rw [show #[stepV [.int .i64 k, .int .i64 m, .int .i64 lo_, .int .i64 hi, .slice ar r.length cr, .slice ak kids.length ck] ⟨.mk k m lo_ hi r kids, d, a, f, la, b⟩] ++ (#[] : Array Value) = #[.agg #[.int .i64 k, .int .i64 m, .int .i64 lo_, .int .i64 hi, .slice ar r.length cr, .slice ak kids.length ck, .int .i64 d, .int .i64 a, .bool f, .bool la, .bool b]] from rfl]
   refine (nothing_calls k m lo_ hi d a ar ak r.length cr kids.length ck f la b w).mono fun e w' h => ⟨h.1, ?_, KeptBut.of_below h.2⟩
   exact ⟨Nat.le_trans hI.1 h.2.size, fun ho => ⟨hJ _ _ _ (hI.2.1 ho).1 (h.2.mono (by omega)), boxed_keep (hI.2.1 ho).2.1 h.2, boxed_keep (hI.2.1 ho).2.2 h.2⟩, fun ho => hJx _ _ _ (hI.2.2 ho) (h.2.mono (by omega))⟩
set_option maxHeartbeats 4000000 in
set_option maxRecDepth 100000 in
/-- **what All hands back: an iterator over the first 2000 nodes** -/
theorem all_seq (t : NT) (cs : List Value) (lo Bn : Nat) (W1 : World) (go : List Step → Step → Bool) (hlo : lo ≤ W1.heap.size) (hT : NIn W1 (· < lo) t cs) (hn : W1.heap[Bn]? = some (.cells cs.toArray 44 (0, 0))) (hnn : t.nodes < 4611686018427387903) :
  SeqIn Try.prog 87 #[.pointer (some ⟨Bn, 0, none⟩)] go ((enters (Step.top t).evs).take 2000) (EA W1.heap.size) lo W1 := by
 intro l J Jx hJ hJx hY hJ0
 obtain ⟨B1, hB1⟩ : ∃ B1, B1 = W1.heap.size := ⟨_, rfl⟩
 rw [← hB1] at hJ hJx hY hlo
 have hok := all_ok go ((enters (Step.top t).evs).take 2000) (Step.top t).evs [] (by simp) (by simp)
 have V := all_visits lo B1 l J Jx W1 hB1 hlo go _ hJ hJx (fun m pre x vs A h1 h2 h3 => hY m pre x vs A h1 h2 h3)
 have hT0 := hT
 obtain ⟨T, hTe⟩ : ∃ T, T = t := ⟨_, rfl⟩
 cases hT with
 | mk k m lo_ hi r kids ar ak cr ck csk _ _ _ _ _ _ _ _ _ =>
  rename_i q1 q2 q3 q4 q5 q6 q7 q8 q9
  clear q1 q2 q3 q4 q5 q6 q7 q8 q9
  obtain ⟨W3, hW3⟩ : ∃ W3, W3 = (W1.alloc (.cells #[.func (.yield l) #[] #[]] 83)).alloc (.cells #[.int .i64 0] 3) := ⟨_, rfl⟩
  have hsz : W3.heap.size = B1 + 2 := by rw [hW3, hB1]; simp
  have hb3 : Below B1 W1 W3 := by rw [hW3, hB1]; exact ((Below.refl _ W1).alloc (Nat.le_refl _) _).alloc (by simp) _
  have hy3 : W3.heap[B1]? = some (.cells #[.func (.yield l) #[] #[]] 83 (0, 0)) := by rw [hW3, hB1]; exact (Below.heap_alloc _ _ _ (by simp)).trans (World.alloc_heap_new _ _)
  have hm3 : W3.heap[B1 + 1]? = some (.cells #[.int .i64 0] 3 (0, 0)) := by
   have := World.alloc_heap_new (W1.alloc (.cells #[.func (.yield l) #[] #[]] 83)) (.cells #[.int .i64 0] 3)
   rw [World.size_alloc] at this
   rw [hW3, hB1]; exact this
  have hw2 : ∀ w2 : World, Below W3.heap.size W3 w2 →
    Calls Try.prog 80 #[.agg #[.int .i64 k, .int .i64 m, .int .i64 lo_, .int .i64 hi, .slice ar r.length cr, .slice ak kids.length ck, .int .i64 1, .int .i64 0, .bool true, .bool true, .bool true],
     .func (.func 88) #[] #[.pointer (some ⟨B1 + 1, 0, none⟩), .pointer (some ⟨B1, 0, none⟩)], .func (.func 90) #[] #[]] w2
     fun e w' => (∃ b, e = .returned (.bool b)) ∧ (J ((enters (Step.top T).evs).take 2000) w' ∨ ∃ pre, pre <+: (enters (Step.top T).evs).take 2000 ∧ Jx pre w') := by
   intro w2 hb
   have hb2 : Below B1 W1 w2 := hb3.trans (hb.mono (by omega))
   have hc := walk_calls V (NT.mk k m lo_ hi r kids).nodes (Step.top (.mk k m lo_ hi r kids)) _ w2 ⟨[], false⟩ (Nat.le_refl _) (by have := hb.size; omega) (hT0.move (fun b h => hb2.block b (by omega)))
    ⟨by have := hb.size; omega, fun _ => ⟨hJ _ _ _ hJ0 hb2, (hb.block _ (by omega)).trans hm3, (hb.block _ (by omega)).trans hy3⟩, fun h => by cases h⟩ hok.1 (show (0 : Int) ≤ 1 by omega) (show (1 : Int) + _ < _ by simp only [Step.top]; omega)
   rw [show stepV [.int .i64 k, .int .i64 m, .int .i64 lo_, .int .i64 hi, .slice ar r.length cr, .slice ak kids.length ck] (Step.top (.mk k m lo_ hi r kids)) = .agg #[.int .i64 k, .int .i64 m, .int .i64 lo_, .int .i64 hi, .slice ar r.length cr, .slice ak kids.length ck, .int .i64 1, .int .i64 0, .bool true, .bool true, .bool true] from rfl] at hc
   refine hc.mono fun e w' h => ⟨⟨_, h.1⟩, ?_⟩
   rw [hTe]
   rcases hok.2 with ⟨h1, h2⟩ | ⟨h1, h2⟩
   ·exact .inl (by have := (h.2.1.2.1 h1).1; rwa [h2] at this)
   ·exact .inr ⟨_, h2, h.2.1.2.2 h1⟩
  have HW := Lib.hid hw2
  have hbc := fun w => from_calls k m lo_ hi ar ak r.length cr kids.length ck w
  have HF := Lib.hid hbc
  have HN := Lib.hid hn
  have HB := Lib.hid hB1
  have hlt := (Array.getElem?_eq_some_iff.1 hn).1
  have d0 := cell_heap (i := 0) hn rfl
  have d1 := cell_heap (i := 1) hn rfl
  have d2 := cell_heap (i := 2) hn rfl
  have d3 := cell_heap (i := 3) hn rfl
  have d4 := cell_heap (i := 4) hn rfl
  have d5 := cell_heap (i := 5) hn rfl
  rw [← hTe]
  clear hw2 hbc hT0 hsz hb3 hy3 hm3 hn hJ hJx hY hJ0 hok V hnn hlo hTe
  rw [hW3] at HW
  clear hW3
  subst hB1
  show Calls Try.prog 87 #[.func (.yield l) #[] #[], .pointer (some ⟨Bn, 0, none⟩)] W1 _
  go_enter Try.func87, Try.ntmps87
  go_wp2_with fail
  refine (HF.out _).mono ?_
  rintro e w2 ⟨rfl, hb2⟩
  have HB2 := Lib.hid hb2
  clear hb2
  go_wp2_with fail
  refine (HW.out _ HB2.out).mono ?_
  rintro e w3 ⟨⟨b, rfl⟩, hres⟩
  go_wp2
  go_end0
  exact ⟨⟨_, rfl⟩, hres⟩
end Go.Proofs.Ytamhkdlcoghdbaa.PCls
/- Out of TGoes0 (wip/tools/prune2.py): the declarations alone that the texts of the trees name. -/
namespace Go.Proofs.Ytamhkdlcoghdbaa.PCls
open Go.RowKit Go.Shelf Go.Proofs.YtamhkdlcoghdbaaW.PrintWords Go.Proofs.YtamhkdlcoghdbaaW.PrintLast Go.Proofs.YtamhkdlcoghdbaaW.PrintMore
set_option linter.unusedVariables false
set_option linter.unusedSimpArgs false
def onlyNormal_ (Q : Exit → Act → World → Prop) : Exit → Act → World → Prop
 | .normal, a, w => Q .normal a w
 | _, _, _ => False
def noDefer (ops : Array Oper) : Bool := ops.toList.all fun o => match o.op with | .defer _ => false | _ => true
theorem rows_round {l n : Nat} {P : Program} {row : String} {args : Array Value} {w : World} {R : Value → World → Prop} (h : Rows P row args w R) : RowsIn (Fence.wide.inRound l) n P row args w R := by
 intro c cs hr
 obtain ⟨v, w', r, s⟩ := h c cs
 exact ⟨v, w', r, stepsIn_wide.2 s⟩
theorem ops_round {l n : Nat} {P : Program} {ops : Array Oper} {Q : Exit → Act → World → Prop} (hd : noDefer ops = true) : ∀ (is : List Nat) (a : Act) (w : World), wpOps P ops (onlyNormal_ Q) is a w → wpOpsIn (Fence.wide.inRound l) n P ops (onlyNormal_ Q) is a w := by
 intro is
 induction is with
 | nil => intro a w h; exact h
 | cons i rest ih =>
  intro a w h
  simp only [wpOps] at h
  simp only [wpOpsIn]
  cases ho : ops[i]? with
  | none => simp only [ho] at h ⊢; exact ih _ _ h
  | some o =>
   simp only [ho] at h ⊢
   by_cases hw : Region.wanted o (yielded ops a.tmps) = true
   ·rw [if_pos hw] at h ⊢
    rcases h with h | ⟨_, _, _, h⟩
    ·have hmem : o ∈ ops.toList := by
      obtain ⟨hh, e⟩ := Array.getElem?_eq_some_iff.1 ho
      rw [← e]; exact Array.getElem_mem_toList hh
     have hnd : ∀ c, o.op ≠ .defer c := by
      intro c e
      have := List.all_eq_true.1 hd o hmem
      rw [e] at this
      exact absurd this (by simp)
     refine ⟨fun _ _ => trivial, ?_⟩
     rw [Fence.inRound_round, Oper.semAt_eq _ _ _ hnd]
     unfold Oper.wp at h
     cases hr : (execOp a.eval o).run P w with
     | ok x w' =>
      rw [hr] at h
      cases x with
      | value v => exact ih _ _ h
      | skip => exact ih _ _ h
      | defer d => exact ih _ _ h
      | enter f args =>
       refine ⟨fun hh => by simp [Fence.inRound_depth, Fence.wide] at hh, ?_⟩
       refine CallsIn.inRound l (callsIn_wide.2 (Calls.mono h ?_))
       intro e w'' he
       cases e with
       | returned v => exact ih _ _ he
       | panicked c => exact he
       | outgrown => exact he
      | row row args =>
       refine ⟨fun hh => by simp [Fence.inRound_depth, Fence.wide] at hh, ?_⟩
       exact rows_round (Rows.mono h fun v w'' hv => ih _ _ hv)
      | _ => exact False.elim h
     | halt hh w' =>
      rw [hr] at h
      cases hh with
      | panic v => exact h
      | _ => exact False.elim h
    ·exact False.elim h
   ·rw [if_neg hw] at h ⊢
    exact ⟨fun _ _ => trivial, ih _ _ h⟩
theorem startIn_ {l nn : Nat} {P : Program} {ops : Array Oper} {Q : Exit → Act → World → Prop} {S : World → Prop} {ds : List Nat} {id n : Nat} {a : Act} {w : World} (hd : noDefer ops = true) (ls : Array Bool) (hm : P.follows .mixedOrders = true) (hn : ops.size = n) (hl : Array.replicate n false = ls) (hS : S w.drew)
  (h : S w.drew → wpAnyLast P .any ops (onlyNormal_ Q) S ds n ls a w.drew) : (Code.region id ops true).wpIn (Fence.wide.inRound l) nn P Q a w := by
 subst hn
 subst hl
 refine wpIn_mono (Q := onlyNormal_ Q) (wpIn_region_draw fun t => ?_) (fun e a w h => by cases e <;> first | exact h | exact h.elim)
 simp only [Region.schedule, hm, Bool.true_or, if_true]
 exact ops_round hd _ _ _ (wpAny_sound _ t _ a _ (wpAny_of_last _ _ _ _ (h hS)))
/-- a round writes what it was handed -/
theorem KeptBut.setRow {lo hi : Nat} {W W' : World} (h : KeptBut lo hi W W') {p : Addr} {cells : Array Value} {fr : Nat × Nat} (h1 : lo ≤ hi) (h2 : hi ≤ p.block) (hb : W.heap[p.block]? = some (.cells cells 64 fr)) (u : Value) : KeptBut lo hi W (W'.setCell p u) := by
 refine ⟨h.os, h.tape, h.output, by simpa [World.setCell] using h.size, fun k hk hc => ?_⟩
 refine (Below.heap_setCell _ _ _ _ ?_).trans (h.block k hk hc)
 rintro rfl
 rcases hc with hc | hc
 ·omega
 ·exact hc.2 _ _ hb
end Go.Proofs.Ytamhkdlcoghdbaa.PCls
/- Out of TClone (wip/tools/prune2.py): the declarations alone that the texts of the trees name. -/
namespace Go.Proofs.Ytamhkdlcoghdbaa.PCls
open Go.RowKit Go.Proofs.YtamhkdlcoghdbaaW.PrintWords Go.Proofs.YtamhkdlcoghdbaaW.PrintLast Go.Proofs.YtamhkdlcoghdbaaW.PrintMore
set_option linter.unusedVariables false
set_option linter.unusedSimpArgs false
theorem info44 : (Try.prog.info? 44).map (fun i => (i.zero, i.size, i.bytes)) = some (some (.agg #[.int .i64 0, .int .i64 0, .int .i64 0, .int .i64 0, .slice none 0 0, .slice none 0 0]), 6, 80) := by kernel_rfl
theorem cell_block2 {w : World} {p : Addr} {v : Value} (h : w.cell? p = some v) : p.block < w.heap.size := by
 rcases Nat.lt_or_ge p.block w.heap.size with hl | hl
 ·exact hl
 ·unfold World.cell? at h
  rw [Array.getElem?_eq_none hl] at h
  cases h
/-- the cells of some nodes, one behind the other -/
def flat6 (cs : Nat → List Value) : Nat → List Value
 | 0 => []
 | n + 1 => flat6 cs n ++ cs n
theorem flat6_length (cs : Nat → List Value) : ∀ n, (∀ j, j < n → (cs j).length = 6) → (flat6 cs n).length = n * 6
 | 0, _ => rfl
 | n + 1, h => by
  simp only [flat6, List.length_append]
  rw [flat6_length cs n (fun j hj => h j (by omega)), h n (by omega)]
  omega
theorem flat6_at (cs : Nat → List Value) : ∀ n, (∀ j, j < n → (cs j).length = 6) → ∀ j, j < n → ∀ i, i < 6 → (flat6 cs n)[j * 6 + i]? = (cs j)[i]?
 | 0, _, j, hj, _, _ => by omega
 | n + 1, h, j, hj, i, hi => by
  have hl := flat6_length cs n (fun j hj => h j (by omega))
  simp only [flat6]
  rcases Nat.lt_or_ge j n with hjn | hjn
  ·rw [List.getElem?_append_left (by rw [hl]; omega)]
   exact flat6_at cs n (fun j hj => h j (by omega)) j hjn i hi
  ·obtain rfl : j = n := by omega
   rw [List.getElem?_append_right (by rw [hl]; omega), hl]
   congr 1
   omega
set_option maxHeartbeats 2000000 in
theorem clone_nil (c : Nat) (w : World) : Calls Try.prog 112 #[.slice none 0 c] w fun e w' => e = .returned (.slice none 0 0) ∧ w' = w := by
 have q42 : ∀ (w : World) (a : Option Addr) (n c n' c' : Nat), (binOp .eql 42 (.slice a n c) (.slice none n' c')).run Try.prog w = .ok (.bool a.isNone) w := fun w a n c n' c' => Lib.run_eql_slice_nil w _ _ a n c n' c' Try.underlying42
 go_enter Try.func112, Try.ntmps112
 go_wp2
 go_ret
 exact ⟨rfl, rfl⟩
set_option maxHeartbeats 4000000 in
theorem clone_calls (ad : Addr) (n c : Nat) (cs : Nat → List Value) (w : World) (hn : n < 1099511627776) (hl : ∀ j, j < n → (cs j).length = 6) (h1 : ∀ j, j < n → ∀ u, u ∈ cs j → u.oneCell' = true)
  (hc : ∀ j, j < n → ∀ i u, (cs j)[i]? = some u → w.cell? (ad.add (j * 6 + i)) = some u) :
  Calls Try.prog 112 #[.slice (some ad) n c] w fun e w' => ∃ v, e = .returned v ∧ w'.ownsRow w.heap.size 44 6 v n (flat6 cs n) ∧ Below w.heap.size w w' := by
 have q42 : ∀ (w : World) (a : Option Addr) (n c n' c' : Nat), (binOp .eql 42 (.slice a n c) (.slice none n' c')).run Try.prog w = .ok (.bool a.isNone) w := fun w a n c n' c' => Lib.run_eql_slice_nil w _ _ a n c n' c' Try.underlying42
 obtain ⟨i0, hi, hz0, hz1, hz2⟩ := info_parts info44
 have hlen := flat6_length cs n hl
 have hcell : ∀ j u, (flat6 cs n)[j]? = some u → w.cell? (ad.add j) = some u := fun j u hj => by
  have hj6 : j < n * 6 := by have := (List.getElem?_eq_some_iff.1 hj).1; omega
  have e : j = j / 6 * 6 + j % 6 := by omega
  rw [e] at hj
  rw [flat6_at cs n hl (j / 6) (by omega) (j % 6) (by omega)] at hj
  rw [e]
  exact hc (j / 6) (by omega) (j % 6) u hj
 have hone : ∀ u ∈ flat6 cs n, u.oneCell' = true := fun u hu => by
  obtain ⟨j, hj⟩ := List.getElem?_of_mem hu
  have hj6 : j < n * 6 := by have := (List.getElem?_eq_some_iff.1 hj).1; omega
  have e : j = j / 6 * 6 + j % 6 := by omega
  rw [e, flat6_at cs n hl (j / 6) (by omega) (j % 6) (by omega)] at hj
  exact h1 (j / 6) (by omega) u (List.mem_of_getElem? hj)
 generalize hI : flat6 cs n = inner at hcell hone hlen
 have A := Lib.hid hcell
 have B := Lib.hid hlen
 have C := Lib.hid hone
 have D := Lib.hid hn
 clear hcell hlen hone hc h1 hl hI hn
 go_enter Try.func112, Try.ntmps112
 go_wp2_with (at_builtin; refine wpList_append_own _ rfl _ _ 42 rfl w.heap.size 44 i0 _ 6 80 Try.underlying42 hi hz0 hz1 hz2 rfl (by decide) _ _ _ rfl (World.ownsRow_made w #[] 0 (Nat.le_refl _) (Nat.zero_le _) (by simp)) ad n c inner rfl ?qc1 ?qc2 ?qc3 ?qc4 ?qc5 ?qc6 ?_)
 case qc1 => exact B.out
 case qc2 => exact fun j u hj => Lib.cell?_alloc_some _ (A.out j u hj)
 case qc3 => exact C.out
 case qc4 => unfold maxLen; have := D.out; omega
 case qc5 => have := D.out; omega
 case qc6 => simp
 intro v' w1 hown hgrow hnil
 go_wp2
 go_ret
 refine ⟨v', rfl, by simpa using hown, ?_⟩
 exact ((Below.refl _ w).alloc (Nat.le_refl _) _).grown hgrow (by simp) (by intro k hk; simp [Value.ownBlock] at hk; omega)
set_option maxHeartbeats 2000000 in
/-- one, of none -/
theorem one_none (A : Option Addr) (c : Nat) (kind k m lo hi : Int) (ar ak : Option Addr) (lr cr lk ck : Nat) (w : World) :
  Calls Try.prog 94 #[.slice A 0 c, .int .i64 kind, .agg #[.int .i64 k, .int .i64 m, .int .i64 lo, .int .i64 hi, .slice ar lr cr, .slice ak lk ck]] w
   fun e w' => e = .returned (.agg #[.int .i64 k, .int .i64 m, .int .i64 lo, .int .i64 hi, .slice ar lr cr, .slice ak lk ck]) ∧ Below w.heap.size w w' := by
 go_enter Try.func94, Try.ntmps94
 go_wp2
 refine bodyPost_ret (v := .agg #[.int .i64 k, .int .i64 m, .int .i64 lo, .int .i64 hi, .slice ar lr cr, .slice ak lk ck]) (by simp [results, Try.results94, go_sem]) rfl ?_
 exact ⟨rfl, ((Below.refl _ w).alloc (Nat.le_refl _) _).alloc (by simp) _⟩
set_option maxHeartbeats 2000000 in
/-- one, of several -/
theorem one_many (A : Option Addr) (n c : Nat) (hn : 2 ≤ n) (kind k m lo hi : Int) (ar ak : Option Addr) (lr cr lk ck : Nat) (w : World) :
  Calls Try.prog 94 #[.slice A n c, .int .i64 kind, .agg #[.int .i64 k, .int .i64 m, .int .i64 lo, .int .i64 hi, .slice ar lr cr, .slice ak lk ck]] w
   fun e w' => e = .returned (.agg #[.int .i64 kind, .int .i64 0, .int .i64 0, .int .i64 0, .slice none 0 0, .slice A n c]) ∧ Below w.heap.size w w' := by
 have h0 : ((n : Int) == 0) = false := beq_eq_false_iff_ne.2 (by omega)
 have h1 : ((n : Int) == 1) = false := beq_eq_false_iff_ne.2 (by omega)
 have g0 : (n == 0) = false := beq_eq_false_iff_ne.2 (by omega)
 have g1 : (n == 1) = false := beq_eq_false_iff_ne.2 (by omega)
 have HN := Lib.hid hn
 clear hn
 go_enter Try.func94, Try.ntmps94
 go_wp2
 refine bodyPost_ret (v := .agg #[.int .i64 kind, .int .i64 0, .int .i64 0, .int .i64 0, .slice none 0 0, .slice A n c]) (by simp [results, Try.results94, go_sem]) rfl ?_
 exact ⟨rfl, ((Below.refl _ w).alloc (Nat.le_refl _) _).alloc (by simp) _⟩
set_option maxHeartbeats 2000000 in
/-- one, of one -/
theorem one_one (g c : Nat) (kind k m lo hi : Int) (ar ak : Option Addr) (lr cr lk ck : Nat) (k' m' lo' hi' : Int) (ar' ak' : Option Addr) (lr' cr' lk' ck' : Nat) (w : World)
  (h : w.cell? ⟨g, 0, none⟩ = some (.int .i64 k') ∧ w.cell? ⟨g, 1, none⟩ = some (.int .i64 m') ∧ w.cell? ⟨g, 2, none⟩ = some (.int .i64 lo') ∧ w.cell? ⟨g, 3, none⟩ = some (.int .i64 hi') ∧ w.cell? ⟨g, 4, none⟩ = some (.slice ar' lr' cr') ∧ w.cell? ⟨g, 5, none⟩ = some (.slice ak' lk' ck')) :
  Calls Try.prog 94 #[.slice (some ⟨g, 0, none⟩) 1 c, .int .i64 kind, .agg #[.int .i64 k, .int .i64 m, .int .i64 lo, .int .i64 hi, .slice ar lr cr, .slice ak lk ck]] w
   fun e w' => e = .returned (.agg #[.int .i64 k', .int .i64 m', .int .i64 lo', .int .i64 hi', .slice ar' lr' cr', .slice ak' lk' ck']) ∧ Below w.heap.size w w' := by
 obtain ⟨h0, h1, h2, h3, h4, h5⟩ := h
 have hg := cell_block2 h0
 go_enter Try.func94, Try.ntmps94
 go_wp2
 refine bodyPost_ret (v := .agg #[.int .i64 k', .int .i64 m', .int .i64 lo', .int .i64 hi', .slice ar' lr' cr', .slice ak' lk' ck']) (by simp [results, Try.results94, go_sem]) rfl ?_
 exact ⟨rfl, ((Below.refl _ w).alloc (Nat.le_refl _) _).alloc (by simp) _⟩
end Go.Proofs.Ytamhkdlcoghdbaa.PCls
