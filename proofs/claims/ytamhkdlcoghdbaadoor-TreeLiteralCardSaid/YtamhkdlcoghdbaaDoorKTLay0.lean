/- Out of TLay0 (wip/tools/prune2.py): the declarations alone that the texts of the trees name. -/
import Derived.Test.YtamhkdlcoghdbaaDoorKMTOut
namespace Go.Proofs.YtamhkdlcoghdbaaDoor.PCls
open Go.RowKit Go.Proofs.YtamhkdlcoghdbaaDoorW.PrintWords Go.Proofs.YtamhkdlcoghdbaaDoorW.PrintLast Go.Proofs.YtamhkdlcoghdbaaDoorW.PrintMore
set_option linter.unusedVariables false
set_option linter.unusedSimpArgs false
mutual
/-- the places of a tree behind n places, as long as there are not more than most; with each, where what is within it ends -/
def layN (most : Nat) : NT → Int → Int → Bool → Bool → Bool → Nat → List (Step × Nat)
 | .mk k m lo hi r kids, d, a, f, l, b, n => if most ≤ n then [] else (⟨.mk k m lo hi r kids, d, a, f, l, b⟩, n + 1 + (layL most kids (d + 1) k kids.length 0 (branchOf k b) (n + 1)).length) :: layL most kids (d + 1) k kids.length 0 (branchOf k b) (n + 1)
def layL (most : Nat) : List NT → Int → Int → Nat → Nat → Bool → Nat → List (Step × Nat)
 | [], _, _, _, _, _, _ => []
 | t :: ts, d, a, c, i, b, n => layN most t d a (decide (i = 0)) (decide (i + 1 = c)) b n ++ layL most ts d a c (i + 1) b (n + (layN most t d a (decide (i = 0)) (decide (i + 1 = c)) b n).length)
end
def layS (most : Nat) (s : Step) (n : Nat) : List (Step × Nat) := layN most s.n s.deep s.around s.first s.last s.branch n
def layK (most : Nat) (s : Step) (i n : Nat) : List (Step × Nat) := layL most (s.n.kids.drop i) (s.deep + 1) s.n.k s.n.kids.length i (branchOf s.n.k s.branch) n
theorem layS_full (most : Nat) (s : Step) (n : Nat) (h : most ≤ n) : layS most s n = [] := by
 obtain ⟨⟨k, m, lo, hi, r, kids⟩, d, a, f, l, b⟩ := s
 simp only [layS, layN]; rw [if_pos h]
theorem layS_some (most : Nat) (s : Step) (n : Nat) (h : n < most) : layS most s n = (s, n + 1 + (layK most s 0 (n + 1)).length) :: layK most s 0 (n + 1) := by
 obtain ⟨⟨k, m, lo, hi, r, kids⟩, d, a, f, l, b⟩ := s
 simp only [layS, layN, layK, NT.k, NT.kids, List.drop_zero]; rw [if_neg (by omega)]
theorem layK_end (most : Nat) (s : Step) (i n : Nat) (h : s.n.kids.length ≤ i) : layK most s i n = [] := by
 unfold layK; rw [List.drop_eq_nil_of_le h]; rfl
theorem layK_next (most : Nat) (s : Step) (i n : Nat) (t : NT) (h : s.n.kids[i]? = some t) : layK most s i n = layS most (s.kid i t) n ++ layK most s (i + 1) (n + (layS most (s.kid i t) n).length) := by
 obtain ⟨hi, e⟩ := List.getElem?_eq_some_iff.1 h
 unfold layK
 rw [List.drop_eq_getElem_cons hi, e]
 rfl
theorem layK_full (most : Nat) (s : Step) (n : Nat) (h : most ≤ n) : ∀ (q i : Nat), s.n.kids.length = i + q → layK most s i n = [] := by
 intro q
 induction q with
 | zero => intro i hi; exact layK_end most s i n (by omega)
 | succ q ih =>
  intro i hi
  rw [layK_next most s i n _ (List.getElem?_eq_getElem (by omega)), layS_full most _ n h]
  simp only [List.length_nil, Nat.add_zero, List.nil_append]
  exact ih (i + 1) (by omega)
/-- the first places are the first comings -/
theorem layN_fst (most : Nat) : ∀ (t : NT) (d a : Int) (f l b : Bool) (n : Nat), (layN most t d a f l b n).map Prod.fst = (enters (evs t d a f l b)).take (most - n) := by
 have hL : ∀ ts : List NT, (∀ t, t ∈ ts → ∀ (d a : Int) (f l b : Bool) (n : Nat), (layN most t d a f l b n).map Prod.fst = (enters (evs t d a f l b)).take (most - n)) → ∀ (d a : Int) (c i : Nat) (b : Bool) (n : Nat), (layL most ts d a c i b n).map Prod.fst = (enters (evsL ts d a c i b)).take (most - n) := by
  intro ts
  induction ts with
  | nil => intro _ d a c i b n; simp [layL, evsL, enters]
  | cons x ts ih =>
   intro h d a c i b n
   have h1 := h x List.mem_cons_self d a (decide (i = 0)) (decide (i + 1 = c)) b n
   have hl := congrArg List.length h1
   simp only [List.length_map, List.length_take] at hl
   simp only [layL, evsL, enters_append, List.map_append]
   rw [h1, ih (fun t ht => h t (List.mem_cons_of_mem _ ht)), List.take_append, hl]
   congr 2
   omega
 refine fun t => NT.ind (P := fun t => ∀ (d a : Int) (f l b : Bool) (n : Nat), (layN most t d a f l b n).map Prod.fst = (enters (evs t d a f l b)).take (most - n)) (fun k m lo hi r kids ih d a f l b n => ?_) t
 simp only [layN, evs]
 by_cases h : most ≤ n
 ·rw [if_pos h, show most - n = 0 by omega]; simp
 ·rw [if_neg h]
  simp only [enters, enters_append, List.append_nil, List.map_cons]
  rw [hL kids ih, show most - n = (most - (n + 1)) + 1 by omega, List.take_succ_cons]
theorem layS_fst (most : Nat) (s : Step) (n : Nat) : (layS most s n).map Prod.fst = (enters s.evs).take (most - n) := layN_fst most _ _ _ _ _ _ n
theorem layS_length (most : Nat) (s : Step) (n : Nat) : (layS most s n).length = min (most - n) s.n.nodes := by
 have := congrArg List.length (layS_fst most s n)
 simp only [List.length_map, List.length_take, Step.evs, enters_length] at this
 exact this
/-- a place: the node on the walk, where what is within it ends, the node's cells -/
structure Pl where
 s : Step
 en : Nat
 cs : List Value
def Pl.two (p : Pl) : Step × Nat := (p.s, p.en)
def tailC (s : Step) (en : Nat) : List Value := [.int .i64 s.deep, .int .i64 s.around, .bool s.first, .bool s.last, .bool s.branch, .int .i64 en]
def Pl.cells (p : Pl) : List Value := p.cs ++ tailC p.s p.en
def rowP (L : List Pl) : List Value := L.flatMap Pl.cells
/-- a slice that owns a row of places; their nodes' kids and ranges lie below n0 -/
structure Plc (W : World) (base n0 : Nat) (v : Value) (L : List Pl) : Prop where
 own : W.ownsRow base 79 12 v L.length (rowP L)
 nin : ∀ p, p ∈ L → NIn W (· < n0) p.s.n p.cs
theorem Plc.len {W : World} {base n0 : Nat} {v : Value} {L : List Pl} (h : Plc W base n0 v L) (p : Pl) (hp : p ∈ L) : p.cells.length = 12 := by
 have := (h.nin p hp).len
 simp only [Pl.cells, List.length_append, this, tailC, List.length_cons, List.length_nil]
theorem rowP_length (L : List Pl) (h : ∀ p, p ∈ L → p.cells.length = 12) : (rowP L).length = L.length * 12 := by
 induction L with
 | nil => rfl
 | cons p L ih =>
  have h1 := h p List.mem_cons_self
  have h2 := ih (fun q hq => h q (List.mem_cons_of_mem _ hq))
  simp only [rowP, List.flatMap_cons, List.length_append, List.length_cons] at *
  omega
theorem rowP_append (A B : List Pl) : rowP (A ++ B) = rowP A ++ rowP B := by simp only [rowP, List.flatMap_append]
theorem rowP_at {L : List Pl} (h : ∀ p, p ∈ L → p.cells.length = 12) {j : Nat} {p : Pl} (hj : L[j]? = some p) {i : Nat} (hi : i < 12) : (rowP L)[j * 12 + i]? = p.cells[i]? := by
 induction L generalizing j with
 | nil => simp at hj
 | cons q L ih =>
  have hq := h q List.mem_cons_self
  have ih' := fun j hj => @ih (fun q hq => h q (List.mem_cons_of_mem _ hq)) j hj
  simp only [rowP, List.flatMap_cons]
  cases j with
  | zero =>
   simp only [List.getElem?_cons_zero, Option.some.injEq] at hj
   subst hj
   rw [Nat.zero_mul, Nat.zero_add, List.getElem?_append_left (by omega)]
  | succ j =>
   simp only [List.getElem?_cons_succ] at hj
   rw [List.getElem?_append_right (by omega), hq, show (j + 1) * 12 + i - 12 = j * 12 + i by omega]
   exact ih' _ hj
theorem Plc.nil (W : World) (base n0 : Nat) : Plc W base n0 (.slice none 0 0) [] := ⟨⟨rfl, .inl ⟨rfl, rfl⟩⟩, fun p h => by cases h⟩
theorem Plc.form {W : World} {base n0 : Nat} {v : Value} {L : List Pl} (h : Plc W base n0 v L) : ∃ a c, v = .slice a L.length c ∧ L.length ≤ c := by
 rcases h.own.2 with ⟨e, e0⟩ | ⟨g, cap, cur, e, _, _, hcl, _⟩
 ·exact ⟨none, 0, by rw [e, e0], by omega⟩
 ·exact ⟨_, _, e, hcl⟩
/-- what is written elsewhere -/
theorem Plc.kept {A B : World} {base n0 : Nat} {v : Value} {L : List Pl} (h : Plc A base n0 v L) (hb : ∀ b, (b < n0 ∨ v.ownBlock = some b) → B.heap[b]? = A.heap[b]?) : Plc B base n0 v L :=
 ⟨own_move h.own (fun k hk => hb k (.inr hk)), fun p hp => (h.nin p hp).move (fun b hb' => hb b (.inl hb'))⟩
theorem Plc.below {A B : World} {base n0 : Nat} {v : Value} {L : List Pl} (h : Plc A base n0 v L) (hn : n0 ≤ A.heap.size) (hb : Below A.heap.size A B) : Plc B base n0 v L :=
 h.kept (fun b hb' => hb.block b (by rcases hb' with h1 | h1; omega; exact (h.own.lt b h1).2))
theorem info88 : (Tryd.prog.info? 79).map (fun i => (i.zero, i.size, i.bytes)) = some (some (.agg #[.int .i64 0, .int .i64 0, .int .i64 0, .int .i64 0, .slice none 0 0, .slice none 0 0, .int .i64 0, .int .i64 0, .bool false, .bool false, .bool false, .int .i64 0]), 12, 112) := by kernel_rfl
/-- one place more -/
theorem Plc.append {X : World} {base n0 : Nat} {v : Value} {L : List Pl} (h : Plc X base n0 v L) (hn : n0 ≤ base) (hbase : base ≤ X.heap.size) (hlen : L.length < 549755813888) (ad : Addr) (c : Nat) (p : Pl) (hp : NIn X (· < n0) p.s.n p.cs)
  (hc : ∀ i u, p.cells[i]? = some u → X.cell? (ad.add i) = some u) :
  ∃ v' W, (Builtin.append_ #[76, 76] 76 #[v, .slice (some ad) 1 c]).run Tryd.prog X = .ok v' W ∧ Plc W base n0 v' (L ++ [p]) ∧ X.grownBy W v.ownBlock ∧ (v'.ownBlock = v.ownBlock ∨ v'.ownBlock = some X.heap.size) := by
 obtain ⟨i0, hi, hz0, hz1, hz2⟩ := info_parts info88
 have h12 : p.cells.length = 12 := by simp only [Pl.cells, List.length_append, hp.len, tailC, List.length_cons, List.length_nil]
 have hone : ∀ u, u ∈ p.cells → u.oneCell' = true := fun u hu => by
  simp only [Pl.cells, List.mem_append] at hu
  rcases hu with hu | hu
  ·exact hp.one u hu
  ·simp only [tailC, List.mem_cons, List.not_mem_nil, or_false] at hu
   rcases hu with rfl | rfl | rfl | rfl | rfl | rfl <;> rfl
 obtain ⟨v', W, hrun, hown, hgrow, hnil, hat⟩ := run_append_own_at X base 76 76 79 i0 _ 12 112 Tryd.underlying76 hi hz0 hz1 hz2 rfl (by decide) v L.length (rowP L) h.own ad 1 c p.cells (by omega) hc hone (by unfold maxLen; omega) (by omega) hbase
 have hmv : ∀ b, b < n0 → W.heap[b]? = X.heap[b]? := fun b hb => hgrow.block b (by omega) (fun e => by have := (h.own.lt b e.symm).1; omega)
 refine ⟨v', W, hrun, ⟨?_, fun q hq => ?_⟩, hgrow, hat⟩
 ·rw [rowP_append, List.length_append]
  simpa [rowP] using hown
 ·rcases List.mem_append.1 hq with hq | hq
  ·exact (h.nin q hq).move hmv
  ·simp only [List.mem_cons, List.not_mem_nil, or_false] at hq
   subst hq
   exact hp.move hmv
/-- where a place's end is told -/
theorem Plc.stored {W : World} {base n0 g cap : Nat} {A B : List Pl} {p : Pl} (hn : n0 ≤ base) (h : Plc W base n0 (.slice (some ⟨g, 0, none⟩) (A ++ p :: B).length cap) (A ++ p :: B)) (en : Nat) :
  Plc (W.setCell ⟨g, A.length * 12 + 11, none⟩ (.int .i64 en)) base n0 (.slice (some ⟨g, 0, none⟩) (A ++ p :: B).length cap) (A ++ ⟨p.s, en, p.cs⟩ :: B) := by
 have hst := (h.own.stored (A.length * 12 + 11) (.int .i64 en)).1
 have hl := rowP_length A (fun q hq => h.len q (by simp [hq]))
 have hgb := (h.own.lt g rfl).1
 have hc := (h.nin p (by simp)).len
 refine ⟨?_, fun q hq => ?_⟩
 ·have e : (rowP (A ++ p :: B)).set (A.length * 12 + 11) (.int .i64 en) = rowP (A ++ ⟨p.s, en, p.cs⟩ :: B) := by
   rw [rowP_append, rowP_append]
   simp only [rowP, List.flatMap_cons]
   rw [show A.flatMap Pl.cells = rowP A from rfl, List.set_append_right _ _ (by omega), hl, show A.length * 12 + 11 - A.length * 12 = 11 by omega]
   congr 1
   rw [List.set_append_left _ _ (by simp [Pl.cells, hc, tailC])]
   congr 1
   simp only [Pl.cells]
   rw [List.set_append_right _ _ (by omega), hc]
   rfl
  rw [e] at hst
  simpa using hst
 ·have hq' : ∃ q', q' ∈ A ++ p :: B ∧ q'.s = q.s ∧ q'.cs = q.cs := by
   rcases List.mem_append.1 hq with hq | hq
   ·exact ⟨q, by simp [hq], rfl, rfl⟩
   ·rcases List.mem_cons.1 hq with rfl | hq
    ·exact ⟨p, by simp, rfl, rfl⟩
    ·exact ⟨q, by simp [hq], rfl, rfl⟩
  obtain ⟨q', h1, h2, h3⟩ := hq'
  have := h.nin q' h1
  rw [h2, h3] at this
  exact this.move (fun b hb => Below.heap_setCell W ⟨g, A.length * 12 + 11, none⟩ _ b (by simp only; omega))
end Go.Proofs.YtamhkdlcoghdbaaDoor.PCls
