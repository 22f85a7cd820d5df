/- Put together (wip/tools/pack.py): TAltG, LPJoin, Spell, Nc, Utf, Chars, Decode, Spell2. -/
import Derived.Test.YtamhkdlcoghdbaaDoorKTEx
import Derived.Shelf.Unicode.Decode
import Derived.Shelf.Unicode.DecodeSlow
import Derived.Shelf.Unicode.DecodeAny
import Derived.Ground.Names2Prog
import Derived.Lib.OthersKept
import Derived.Laws.RangeAny
import Derived.Lib.TrimU
import Derived.Lib.RuneCountTail
/- Out of TAltG (wip/tools/prune2.py): the declarations alone that the texts of the trees name. -/
namespace Go.Proofs.YtamhkdlcoghdbaaDoor.PCls
open Go.RowKit Go.Proofs.YtamhkdlcoghdbaaDoorW.PrintWords Go.Proofs.YtamhkdlcoghdbaaDoorW.PrintLast Go.Proofs.YtamhkdlcoghdbaaDoorW.PrintMore
set_option linter.unusedVariables false
set_option linter.unusedSimpArgs false
def altOne (t : NT) : List NT := if t.k = 6 then t.kids else [t]
def altOut (l : List NT) : List NT := l.flatMap altOne
/-- Alt -/
def altT (l : List NT) : NT := oneT (altOut l) 6 (.mk 2 0 0 0 [] [])
/-- between two rounds of Alt's loop -/
structure AltSt (w wr : World) (v : Value) (out : List NT) : Prop where
 trees : TreesAt wr (w.heap.size + 1) v out
 bel : Below w.heap.size w wr
 res : wr.heap[w.heap.size]? = some (.cells #[.int .i64 0, .int .i64 0, .int .i64 0, .int .i64 0, .slice none 0 0, .slice none 0 0] 28 (0, 0))
 sz : w.heap.size + 1 ≤ wr.heap.size
theorem AltSt.own {w A : World} {v : Value} {out : List NT} (h : AltSt w A v out) : ∀ k, v.ownBlock = some k → w.heap.size + 1 ≤ k ∧ k < A.heap.size := by
 obtain ⟨cs, _, h2, _⟩ := h.trees
 exact fun k hk => h2.lt k hk
theorem AltSt.below {w A B : World} {v : Value} {out : List NT} (h : AltSt w A v out) (hb : Below A.heap.size A B) : AltSt w B v out :=
 ⟨h.trees.below hb, h.bel.trans (hb.mono h.bel.size), (hb.block _ (by have := h.sz; omega)).trans h.res, Nat.le_trans h.sz hb.size⟩
end Go.Proofs.YtamhkdlcoghdbaaDoor.PCls
/- Out of LPJoin (wip/tools/prune2.py): the declarations alone that the texts of the trees name. -/
namespace Go.Proofs.YtamhkdlcoghdbaaDoor.PCls
open Go.RowKit
set_option linter.unusedVariables false
set_option linter.unusedSimpArgs false
theorem NT.nodesL_filter (p : NT → Bool) : ∀ l : List NT, NT.nodesL (l.filter p) ≤ NT.nodesL l
 | [] => by simp [NT.nodesL]
 | t :: l => by
  have ih := NT.nodesL_filter p l
  rw [List.filter_cons]
  split
  ·simp only [NT.nodesL]; omega
  ·simp only [NT.nodesL]; omega
theorem catOut_nodes : ∀ l : List NT, NT.nodesL (catOut l) ≤ NT.nodesL l
 | [] => by simp [catOut, NT.nodesL]
 | t :: l => by
  have ih := catOut_nodes l
  have h : NT.nodesL (catOne t) ≤ t.nodes := by
   unfold catOne
   split
   ·have := NT.nodesL_filter (fun t => !decide (t.k = 1)) t.kids
    obtain ⟨k, m, lo, hi, r, kids⟩ := t
    simp only [some6, NT.kids, NT.nodes] at *
    omega
   ·have := NT.nodesL_filter (fun t => !decide (t.k = 1)) [t]
    simp only [some6, NT.nodesL] at *
    omega
  simp only [catOut, List.flatMap_cons, NT.nodesL_append, NT.nodesL] at *
  omega
theorem altOut_nodes : ∀ l : List NT, NT.nodesL (altOut l) ≤ NT.nodesL l
 | [] => by simp [altOut, NT.nodesL]
 | t :: l => by
  have ih := altOut_nodes l
  have h : NT.nodesL (altOne t) ≤ t.nodes := by
   unfold altOne
   split
   ·obtain ⟨k, m, lo, hi, r, kids⟩ := t
    simp only [NT.kids, NT.nodes]
    omega
   ·simp only [NT.nodesL]; omega
  simp only [altOut, List.flatMap_cons, NT.nodesL_append, NT.nodesL] at *
  omega
theorem oneT_nodes (l : List NT) (kind : Int) (no : NT) (h : no.nodes = 1) : (oneT l kind no).nodes ≤ NT.nodesL l + 1 := by
 match l with
 | [] => simp only [oneT, NT.nodesL]; omega
 | [x] => simp only [oneT, NT.nodesL]; omega
 | x :: y :: l => simp only [oneT, NT.nodes, NT.nodesL]; omega
theorem catT_nodes (l : List NT) : (catT l).nodes ≤ NT.nodesL l + 1 := by
 have h1 := oneT_nodes (catOut l) 5 (.mk 1 0 0 0 [] []) rfl
 have h2 := catOut_nodes l
 unfold catT; omega
theorem altT_nodes (l : List NT) : (altT l).nodes ≤ NT.nodesL l + 1 := by
 have h1 := oneT_nodes (altOut l) 6 (.mk 2 0 0 0 [] []) rfl
 have h2 := altOut_nodes l
 unfold altT; omega
theorem few_nodes {a b c : NT} (h : ¬ 1900 < countT a + countT b + countT c) : a.nodes + b.nodes + c.nodes ≤ 1900 := by
 unfold countT at h
 omega
theorem catOne_plain (t : NT) (h1 : t.k ≠ 1) (h5 : t.k ≠ 5) : catOne t = [t] := by
 unfold catOne
 rw [if_neg h5]
 simp [some6, h1]
theorem catOne_cat (l : List NT) (h : ∀ t, t ∈ l → t.k ≠ 1) : catOne (.mk 5 0 0 0 [] l) = l := by
 unfold catOne
 rw [if_pos (show (NT.mk 5 0 0 0 [] l).k = 5 from rfl)]
 simp only [some6, NT.kids]
 exact List.filter_eq_self.2 (fun t ht => by simp [h t ht])
theorem altOne_plain (t : NT) (h6 : t.k ≠ 6) : altOne t = [t] := if_neg h6
theorem altOne_alt (l : List NT) : altOne (.mk 6 0 0 0 [] l) = l := if_pos rfl
section
variable (a b c : NT)
theorem cat_two (ha : a.k ≠ 1 ∧ a.k ≠ 5) (hb : b.k ≠ 1 ∧ b.k ≠ 5) : catT [a, b] = .mk 5 0 0 0 [] [a, b] := by
 unfold catT
 simp only [catOut, List.flatMap_cons, List.flatMap_nil, catOne_plain a ha.1 ha.2, catOne_plain b hb.1 hb.2, List.append_nil, List.cons_append, List.nil_append, oneT]
theorem cat_three (ha : a.k ≠ 1 ∧ a.k ≠ 5) (hb : b.k ≠ 1 ∧ b.k ≠ 5) (hc : c.k ≠ 1 ∧ c.k ≠ 5) : catT [a, b, c] = .mk 5 0 0 0 [] [a, b, c] := by
 unfold catT
 simp only [catOut, List.flatMap_cons, List.flatMap_nil, catOne_plain a ha.1 ha.2, catOne_plain b hb.1 hb.2, catOne_plain c hc.1 hc.2, List.append_nil, List.cons_append, List.nil_append, oneT]
theorem cat_left (ha : a.k ≠ 1 ∧ a.k ≠ 5) (hb : b.k ≠ 1 ∧ b.k ≠ 5) (hc : c.k ≠ 1 ∧ c.k ≠ 5) : catT [catT [a, b], c] = .mk 5 0 0 0 [] [a, b, c] := by
 rw [cat_two a b ha hb]
 unfold catT
 simp only [catOut, List.flatMap_cons, List.flatMap_nil, catOne_cat [a, b] (by intro t ht; simp at ht; rcases ht with rfl | rfl; exact ha.1; exact hb.1), catOne_plain c hc.1 hc.2, List.append_nil, List.cons_append, List.nil_append, oneT]
theorem cat_right (ha : a.k ≠ 1 ∧ a.k ≠ 5) (hb : b.k ≠ 1 ∧ b.k ≠ 5) (hc : c.k ≠ 1 ∧ c.k ≠ 5) : catT [a, catT [b, c]] = .mk 5 0 0 0 [] [a, b, c] := by
 rw [cat_two b c hb hc]
 unfold catT
 simp only [catOut, List.flatMap_cons, List.flatMap_nil, catOne_cat [b, c] (by intro t ht; simp at ht; rcases ht with rfl | rfl; exact hb.1; exact hc.1), catOne_plain a ha.1 ha.2, List.append_nil, List.cons_append, List.nil_append, oneT]
theorem alt_two (ha : a.k ≠ 6) (hb : b.k ≠ 6) : altT [a, b] = .mk 6 0 0 0 [] [a, b] := by
 unfold altT
 simp only [altOut, List.flatMap_cons, List.flatMap_nil, altOne_plain a ha, altOne_plain b hb, List.append_nil, List.cons_append, List.nil_append, oneT]
theorem alt_three (ha : a.k ≠ 6) (hb : b.k ≠ 6) (hc : c.k ≠ 6) : altT [a, b, c] = .mk 6 0 0 0 [] [a, b, c] := by
 unfold altT
 simp only [altOut, List.flatMap_cons, List.flatMap_nil, altOne_plain a ha, altOne_plain b hb, altOne_plain c hc, List.append_nil, List.cons_append, List.nil_append, oneT]
theorem alt_left (ha : a.k ≠ 6) (hb : b.k ≠ 6) (hc : c.k ≠ 6) : altT [altT [a, b], c] = .mk 6 0 0 0 [] [a, b, c] := by
 rw [alt_two a b ha hb]
 unfold altT
 simp only [altOut, List.flatMap_cons, List.flatMap_nil, altOne_alt [a, b], altOne_plain c hc, List.append_nil, List.cons_append, List.nil_append, oneT]
theorem alt_right (ha : a.k ≠ 6) (hb : b.k ≠ 6) (hc : c.k ≠ 6) : altT [a, altT [b, c]] = .mk 6 0 0 0 [] [a, b, c] := by
 rw [alt_two b c hb hc]
 unfold altT
 simp only [altOut, List.flatMap_cons, List.flatMap_nil, altOne_alt [b, c], altOne_plain a ha, List.append_nil, List.cons_append, List.nil_append, oneT]
theorem same_self (t : NT) (h : t.nodes ≤ 2000) : sameT t t = true := by
 unfold sameT
 rw [decide_eq_true h, (NT.same_iff t t).2 rfl]
 rfl
theorem three_nodes (k : Int) (h : a.nodes + b.nodes + c.nodes ≤ 1900) : (NT.mk k 0 0 0 [] [a, b, c]).nodes ≤ 2000 := by simp only [NT.nodes, NT.nodesL]; omega
theorem cat_same9 (h1 : a.k ≠ 1 ∧ b.k ≠ 1 ∧ c.k ≠ 1) (h5 : a.k ≠ 5 ∧ b.k ≠ 5 ∧ c.k ≠ 5) (h : a.nodes + b.nodes + c.nodes ≤ 1900) : sameT (catT [catT [a, b], c]) (catT [a, catT [b, c]]) = true := by
 rw [cat_left a b c ⟨h1.1, h5.1⟩ ⟨h1.2.1, h5.2.1⟩ ⟨h1.2.2, h5.2.2⟩, cat_right a b c ⟨h1.1, h5.1⟩ ⟨h1.2.1, h5.2.1⟩ ⟨h1.2.2, h5.2.2⟩]
 exact same_self _ (three_nodes a b c 5 h)
theorem cat_same10 (h1 : a.k ≠ 1 ∧ b.k ≠ 1 ∧ c.k ≠ 1) (h5 : a.k ≠ 5 ∧ b.k ≠ 5 ∧ c.k ≠ 5) (h : a.nodes + b.nodes + c.nodes ≤ 1900) : sameT (catT [catT [a, b], c]) (catT [a, b, c]) = true := by
 rw [cat_left a b c ⟨h1.1, h5.1⟩ ⟨h1.2.1, h5.2.1⟩ ⟨h1.2.2, h5.2.2⟩, cat_three a b c ⟨h1.1, h5.1⟩ ⟨h1.2.1, h5.2.1⟩ ⟨h1.2.2, h5.2.2⟩]
 exact same_self _ (three_nodes a b c 5 h)
theorem alt_same12 (h6 : a.k ≠ 6 ∧ b.k ≠ 6 ∧ c.k ≠ 6) (h : a.nodes + b.nodes + c.nodes ≤ 1900) : sameT (altT [altT [a, b], c]) (altT [a, altT [b, c]]) = true := by
 rw [alt_left a b c h6.1 h6.2.1 h6.2.2, alt_right a b c h6.1 h6.2.1 h6.2.2]
 exact same_self _ (three_nodes a b c 6 h)
theorem alt_same13 (h6 : a.k ≠ 6 ∧ b.k ≠ 6 ∧ c.k ≠ 6) (h : a.nodes + b.nodes + c.nodes ≤ 1900) : sameT (altT [altT [a, b], c]) (altT [a, b, c]) = true := by
 rw [alt_left a b c h6.1 h6.2.1 h6.2.2, alt_three a b c h6.1 h6.2.1 h6.2.2]
 exact same_self _ (three_nodes a b c 6 h)
end
end Go.Proofs.YtamhkdlcoghdbaaDoor.PCls
/- The plain law of TreeSpells: Cat of two texts' trees is the tree of both. -/
namespace Go.Proofs.YtamhkdlcoghdbaaDoor.PCls
set_option linter.unusedVariables false

theorem catOut_plain : ∀ A : List NT, (∀ t, t ∈ A → t.k ≠ 1 ∧ t.k ≠ 5) → catOut A = A
 | [], _ => rfl
 | x :: A, h => by
  have hx := h x List.mem_cons_self
  have ih := catOut_plain A (fun t ht => h t (List.mem_cons_of_mem _ ht))
  unfold catOut at ih ⊢
  rw [List.flatMap_cons, ih, catOne_plain x hx.1 hx.2]
  rfl
theorem catOne_catT (A : List NT) (h : ∀ t, t ∈ A → t.k ≠ 1 ∧ t.k ≠ 5) : catOne (catT A) = A := by
 unfold catT
 rw [catOut_plain A h]
 match A, h with
 | [], _ => simp [oneT, catOne, some6, NT.k]
 | [x], h => exact catOne_plain x (h x List.mem_cons_self).1 (h x List.mem_cons_self).2
 | x :: y :: A, h => exact catOne_cat _ (fun t ht => (h t ht).1)
theorem cat_both (A B : List NT) (hA : ∀ t, t ∈ A → t.k ≠ 1 ∧ t.k ≠ 5) (hB : ∀ t, t ∈ B → t.k ≠ 1 ∧ t.k ≠ 5) : catT [catT A, catT B] = catT (A ++ B) := by
 have e : catOut [catT A, catT B] = A ++ B := by
  unfold catOut
  rw [List.flatMap_cons, List.flatMap_cons, List.flatMap_nil, List.append_nil, catOne_catT A hA, catOne_catT B hB]
 have e2 : catOut (A ++ B) = A ++ B := catOut_plain _ (fun t ht => by rcases List.mem_append.1 ht with h | h; exact hA t h; exact hB t h)
 show oneT (catOut [catT A, catT B]) 5 _ = oneT (catOut (A ++ B)) 5 _
 rw [e, e2]
end Go.Proofs.YtamhkdlcoghdbaaDoor.PCls
/- A row of trees, one tree more. The reference's Cat of nodes that are plain, walked. -/
namespace Go.Proofs.YtamhkdlcoghdbaaDoor.PCls
open Go.RowKit Go.Shelf Go.Proofs.YtamhkdlcoghdbaaDoorW.PrintWords Go.Proofs.YtamhkdlcoghdbaaDoorW.PrintLast Go.Proofs.YtamhkdlcoghdbaaDoorW.PrintMore
set_option linter.unusedVariables false
set_option linter.unusedSimpArgs false

/-- a slice that owns a row of trees (from rb on); what is behind them lies in blocks of P, in no row of the slice's -/
def TreesP (W : World) (rb : Nat) (P : Nat → Prop) (v : Value) (l : List NT) : Prop :=
 ∃ cs : Nat → List Value, (∀ i, i < l.length → (cs i).length = 6) ∧ W.ownsRow rb 28 6 v l.length (flat6 cs l.length) ∧ ∀ i t, l[i]? = some t → NIn W (fun b => P b ∧ b < W.heap.size ∧ some b ≠ v.ownBlock) t (cs i)
theorem TreesAt.p {W : World} {base : Nat} {V : Value} {l : List NT} (h : TreesAt W base V l) : TreesP W base (base ≤ ·) V l := h
theorem TreesP.at_ {W : World} {base : Nat} {V : Value} {l : List NT} (h : TreesP W base (base ≤ ·) V l) : TreesAt W base V l := h
theorem TreesP.nil (W : World) (rb : Nat) (P : Nat → Prop) : TreesP W rb P (.slice none 0 0) [] := ⟨fun _ => [], fun i h => by simp at h, ⟨rfl, .inl ⟨rfl, rfl⟩⟩, fun i t h => by simp at h⟩
theorem TreesP.form {W : World} {rb : Nat} {P : Nat → Prop} {V : Value} {l : List NT} (h : TreesP W rb P V l) : ∃ A c, V = .slice A l.length c := by
 obtain ⟨cs, _, h2, _⟩ := h
 rcases h2.2 with ⟨e, e0⟩ | ⟨g, cap, cur, e, _⟩
 ·exact ⟨none, 0, by rw [e, e0]⟩
 ·exact ⟨_, _, e⟩
theorem TreesP.own {W : World} {rb : Nat} {P : Nat → Prop} {V : Value} {l : List NT} (h : TreesP W rb P V l) : ∀ k, V.ownBlock = some k → rb ≤ k ∧ k < W.heap.size := by
 obtain ⟨cs, _, h2, _⟩ := h
 exact fun k hk => h2.lt k hk
theorem TreesP.below {A B : World} {rb : Nat} {P : Nat → Prop} {v : Value} {l : List NT} (h : TreesP A rb P v l) (hb : Below A.heap.size A B) : TreesP B rb P v l := by
 obtain ⟨cs, h1, h2, h3⟩ := h
 exact ⟨cs, h1, own_move h2 (fun k hk => hb.block k (h2.lt k hk).2), fun i t ht => ((h3 i t ht).move (fun b hb' => hb.block b hb'.2.1)).mono (fun b hb' => ⟨hb'.1, Nat.lt_of_lt_of_le hb'.2.1 hb.size, hb'.2.2⟩)⟩
/-- the cells of a tree of a row -/
theorem TreesP.at {W : World} {rb : Nat} {P : Nat → Prop} {A : Option Addr} {n c : Nat} {l : List NT} (h : TreesP W rb P (.slice A n c) l) (hn : l.length = n) (j : Nat) (t : NT) (hj : l[j]? = some t) :
  ∃ g cs, A = some ⟨g, 0, none⟩ ∧ g < W.heap.size ∧ NIn W (fun b => P b ∧ b < W.heap.size) t cs ∧ ∀ i u, cs[i]? = some u → W.cell? ⟨g, j * 6 + i, none⟩ = some u := by
 obtain ⟨cs, h1, h2, h3⟩ := h
 have hjl := (List.getElem?_eq_some_iff.1 hj).1
 have hN := h3 j t hj
 rcases h2.2 with ⟨_, e0⟩ | ⟨g, cap, cur, e, hb, hg, hcl, hcm, hcs, htk⟩
 ·omega
 ·simp only [Value.slice.injEq] at e
  obtain ⟨rfl, hn2, rfl⟩ := e
  refine ⟨g, cs j, rfl, (Array.getElem?_eq_some_iff.1 hg).1, hN.mono (fun b hb => ⟨hb.1, hb.2.1⟩), fun i u hu => ?_⟩
  have hi : i < 6 := by have := (List.getElem?_eq_some_iff.1 hu).1; rw [h1 j hjl] at this; exact this
  have h4 := flat6_at cs l.length h1 j hjl i hi
  rw [hu, ← htk] at h4
  rw [List.getElem?_take] at h4
  split at h4
  ·exact cell_heap hg (by simpa using h4)
  ·cases h4
/-- the row as the Kids of a node -/
theorem TreesP.kids {W : World} {rb : Nat} {P P' : Nat → Prop} {A : Option Addr} {c : Nat} {l : List NT} (h : TreesP W rb P (.slice A l.length c) l) (hP : ∀ b, P b → b < W.heap.size → P' b) (hR : ∀ b, rb ≤ b → b < W.heap.size → P' b) (hl : l.length < 1099511627776) (k m lo hi : Int) :
  NIn W P' (.mk k m lo hi [] l) [.int .i64 k, .int .i64 m, .int .i64 lo, .int .i64 hi, .slice none 0 0, .slice A l.length c] := by
 obtain ⟨cs, h1, h2, h3⟩ := h
 rcases h2.2 with ⟨e, e0⟩ | ⟨g, cap, cur, e, hb, hg, hcl, hcm, hcs, htk⟩
 ·simp only [Value.slice.injEq] at e
  obtain ⟨rfl, _, rfl⟩ := e
  have : l = [] := List.length_eq_zero_iff.1 e0
  subst this
  exact NIn.mk k m lo hi [] [] none none 0 0 (fun _ => []) ⟨rfl, by simp, fun h => by simp at h⟩ (fun ad e => by cases e) (by simp) (by simp) rfl (by simp) (by simp) (fun j t h => by simp at h) (fun j h => by simp at h)
 ·simp only [Value.slice.injEq] at e
  obtain ⟨rfl, _, rfl⟩ := e
  have hgl := (Array.getElem?_eq_some_iff.1 hg).1
  refine NIn.mk k m lo hi [] l none (some ⟨g, 0, none⟩) 0 c cs ⟨rfl, by simp, fun h => by simp at h⟩ (fun ad e => by cases e) (by simp) (by simp) rfl hcl hl (fun j t ht => (h3 j t ht).mono (fun b hb => hP b hb.1 hb.2.1)) (fun j hj => ⟨⟨g, 0, none⟩, rfl, hR g hb hgl, fun i u hu => ?_⟩)
  have hi : i < 6 := by have := (List.getElem?_eq_some_iff.1 hu).1; rw [h1 j hj] at this; exact this
  have h4 := flat6_at cs l.length h1 j hj i hi
  rw [hu, ← htk] at h4
  rw [add_plain]
  rw [List.getElem?_take] at h4
  split at h4
  ·exact cell_heap hg (by simpa using h4)
  ·cases h4
/-- a tree more -/
theorem TreesP.snoc {W0 X : World} {rb : Nat} {P : Nat → Prop} {V : Value} {out : List NT} (h0 : TreesP W0 rb P V out) (hb0 : Below W0.heap.size W0 X) (hbase : rb ≤ W0.heap.size) (hlen : out.length < 1000000000) (ad : Addr) (t : NT) (c : List Value)
  (hz : ∀ j u, c[j]? = some u → X.cell? (ad.add j) = some u) (hN : NIn X (fun b => P b ∧ b < X.heap.size ∧ some b ≠ V.ownBlock) t c) :
  ∃ (v' : Value) (W : World), (Builtin.append_ #[26, 26] 26 #[V, .slice (some ad) 1 1]).run Tryd.prog X = .ok v' W ∧ TreesP W rb P v' (out ++ [t]) ∧ X.grownBy W V.ownBlock ∧ (v'.ownBlock = V.ownBlock ∨ v'.ownBlock = some X.heap.size) := by
 obtain ⟨i0, hi, hz0, hz1, hz2⟩ := info_parts info44
 obtain ⟨cs, h1, h2, h3⟩ := h0
 have h2X : X.ownsRow rb 28 6 V out.length (flat6 cs out.length) := own_move h2 (fun k hk => hb0.block k (h2.lt k hk).2)
 obtain ⟨v', W, hrun, hown, hgrow, hnil, hat⟩ := run_append_own_at X rb 26 26 28 i0 _ 6 80 Tryd.underlying26 hi hz0 hz1 hz2 rfl (by decide) V out.length (flat6 cs out.length) h2X ad 1 1 c hN.len hz hN.one (by unfold maxLen; omega) (by omega) (by have := hb0.size; omega)
 have hV : ∀ k, V.ownBlock = some k → k < W0.heap.size := fun k hk => (h2.lt k hk).2
 have hne : ∀ k, k < X.heap.size → some k ≠ V.ownBlock → some k ≠ v'.ownBlock := fun k hk hn e => by
  rcases hat with ha | ha
  ·rw [ha] at e; exact hn e
  ·rw [ha] at e; cases e; omega
 have hgs := hgrow.size
 refine ⟨v', W, hrun, ⟨fun j => if j = out.length then c else cs j, ?_, ?_, ?_⟩, hgrow, hat⟩
 ·intro j hj
  simp only
  split
  ·exact hN.len
  ·rw [List.length_append, List.length_singleton] at hj; exact h1 j (by omega)
 ·rw [List.length_append, List.length_singleton]
  show W.ownsRow rb 28 6 v' (out.length + 1) (flat6 _ out.length ++ _)
  rw [show (fun j => if j = out.length then c else cs j) out.length = c from if_pos rfl, flat6_congr (cs' := cs) out.length (fun i hi => if_neg (by omega))]
  exact hown
 ·intro j u hj
  rcases Nat.lt_or_ge j out.length with hlt | hge
  ·rw [List.getElem?_append_left hlt] at hj
   simp only
   rw [if_neg (by omega)]
   refine ((h3 j u hj).move (fun b hb => ?_)).mono (fun b hb => ⟨hb.1, ?_, hne b (Nat.lt_of_lt_of_le hb.2.1 hb0.size) hb.2.2⟩)
   ·exact (hgrow.block b (Nat.lt_of_lt_of_le hb.2.1 hb0.size) hb.2.2).trans (hb0.block b hb.2.1)
   ·have := hb0.size; have := hb.2.1; omega
  ·have hjl := (List.getElem?_eq_some_iff.1 hj).1
   rw [List.length_append, List.length_singleton] at hjl
   obtain rfl : j = out.length := by omega
   rw [List.getElem?_append_right (Nat.le_refl _), Nat.sub_self] at hj
   obtain rfl : t = u := by simpa using hj
   simp only [if_true]
   exact (hN.move (fun b hb => hgrow.block b hb.2.1 hb.2.2)).mono (fun b hb => ⟨hb.1, by have := hb.2.1; omega, hne b hb.2.1 hb.2.2⟩)
end Go.Proofs.YtamhkdlcoghdbaaDoor.PCls
/-
 DERIVED: THE SHELF's CONTRACTS AT THIS DUMP, IN PLAIN WORDS (tools/lay-plain.mjs out of 'YtamhkdlcoghdbaaDoorShelf.lean', which tools/lay-shelf.mjs wrote): THE SAME DECLARATIONS UNDER THE SAME NAMES: 'import', 'namespace', 'open', 'def', 'theorem' AND NOTHING ELSE: no command of the shelf's: FOR A HAND-IN. Each laying: the table of numbers ('.._ren') and one theorem, a field a fact of the dump's own or the kernel's comparison; each contract: ONE APPLICATION.
-/
namespace Go.Proofs
open Go.Shelf
def Tryd.lays197_ren : Go.Shelf.Ren := ⟨fun | 197 => 87 | 260 => 106 | n => n, fun | 9 => 9 | 21 => 21 | 3 => 3 | 4 => 4 | 5 => 5 | 105 => 118 | 119 => 149 | 0 => 0 | 46 => 132 | 139 => 152 | 138 => 151 | n => n, fun | 3 => 0 | 4 => 1 | n => n⟩
theorem Tryd.lays197 : Go.Proofs.Lays.n197 Tryd.prog Tryd.lays197_ren := {
 mixed := by kernel_rfl
 f197 := Tryd.func87.trans (congrArg some (by kernel_rfl))
 f260 := Tryd.func106.trans (congrArg some (by kernel_rfl))
 t0 := Tryd.underlying0
 a0 := Tryd.isAgg0
 z0 := Tryd.sizeOf0
 v0 := Tryd.zeroValue0
 t3 := Tryd.underlying3
 a3 := Tryd.isAgg3
 z3 := Tryd.sizeOf3
 v3 := Tryd.zeroValue3
 t4 := Tryd.underlying4
 a4 := Tryd.isAgg4
 z4 := Tryd.sizeOf4
 v4 := Tryd.zeroValue4
 t5 := Tryd.underlying5
 a5 := Tryd.isAgg5
 z5 := Tryd.sizeOf5
 v5 := Tryd.zeroValue5
 t9 := Tryd.underlying9
 a9 := Tryd.isAgg9
 z9 := Tryd.sizeOf9
 v9 := Tryd.zeroValue9
 t21 := Tryd.underlying21
 a21 := Tryd.isAgg21
 z21 := Tryd.sizeOf21
 v21 := Tryd.zeroValue21
 t46 := Tryd.underlying132
 a46 := Tryd.isAgg132
 z46 := Tryd.sizeOf132
 v46 := Tryd.zeroValue132
 t105 := Tryd.underlying118
 a105 := Tryd.isAgg118
 z105 := Tryd.sizeOf118
 v105 := Tryd.zeroValue118
 t119 := Tryd.underlying149
 a119 := Tryd.isAgg149
 z119 := Tryd.sizeOf149
 t138 := Tryd.underlying151
 a138 := Tryd.isAgg151
 z138 := Tryd.sizeOf151
 v138 := Tryd.zeroValue151
 t139 := Tryd.underlying152
 a139 := Tryd.isAgg152
 z139 := Tryd.sizeOf152
 v139 := Tryd.zeroValue152
 g3 := by kernel_rfl
 g4 := by kernel_rfl }
open Go.RowKit Go.Lib in
/-- unicode/utf8.DecodeRuneInString: "DecodeRuneInString is like DecodeRune but its input is a string.": ("DecodeRune unpacks the first UTF-8 encoding in p and returns the rune and its width in bytes."): WHERE s BEGINS WITH AN ASCII BYTE x: (x, 1). (LAID: no walk: one application.) -/
theorem Tryd.utf8_DecodeRuneInString_ascii (s : ByteArray) (x : UInt8) (w : World) (h0 : s.data.toList[0]? = some x) (hx : x.toNat < 128) :
  Calls Tryd.prog 87 #[.string s] w fun e w' => e = .returned (.tuple #[.int .i32 x.toNat, .int .i64 1]) ∧ w' = w := Any.utf8_DecodeRuneInString_ascii Tryd.lays197 s x w h0 hx
def Tryd.lays260_ren : Go.Shelf.Ren := ⟨fun | 260 => 106 | n => n, fun | 9 => 9 | 21 => 21 | 3 => 3 | 4 => 4 | 5 => 5 | 119 => 149 | 0 => 0 | 46 => 132 | 139 => 152 | 138 => 151 | n => n, fun | 3 => 0 | 4 => 1 | n => n⟩
theorem Tryd.lays260 : Go.Proofs.Lays.n260 Tryd.prog Tryd.lays260_ren := {
 mixed := by kernel_rfl
 f260 := Tryd.func106.trans (congrArg some (by kernel_rfl))
 t0 := Tryd.underlying0
 a0 := Tryd.isAgg0
 z0 := Tryd.sizeOf0
 v0 := Tryd.zeroValue0
 t3 := Tryd.underlying3
 a3 := Tryd.isAgg3
 z3 := Tryd.sizeOf3
 v3 := Tryd.zeroValue3
 t4 := Tryd.underlying4
 a4 := Tryd.isAgg4
 z4 := Tryd.sizeOf4
 v4 := Tryd.zeroValue4
 t5 := Tryd.underlying5
 a5 := Tryd.isAgg5
 z5 := Tryd.sizeOf5
 v5 := Tryd.zeroValue5
 t9 := Tryd.underlying9
 a9 := Tryd.isAgg9
 z9 := Tryd.sizeOf9
 v9 := Tryd.zeroValue9
 t21 := Tryd.underlying21
 a21 := Tryd.isAgg21
 z21 := Tryd.sizeOf21
 v21 := Tryd.zeroValue21
 t46 := Tryd.underlying132
 a46 := Tryd.isAgg132
 z46 := Tryd.sizeOf132
 v46 := Tryd.zeroValue132
 t119 := Tryd.underlying149
 a119 := Tryd.isAgg149
 z119 := Tryd.sizeOf149
 t138 := Tryd.underlying151
 a138 := Tryd.isAgg151
 z138 := Tryd.sizeOf151
 v138 := Tryd.zeroValue151
 t139 := Tryd.underlying152
 a139 := Tryd.isAgg152
 z139 := Tryd.sizeOf152
 v139 := Tryd.zeroValue152
 g3 := by kernel_rfl
 g4 := by kernel_rfl }
open Go.RowKit Go.Lib in
theorem Tryd.utf8_decodeRuneInStringSlow (s : ByteArray) (w : World) (hT : Lib.Utf8Tabs 0 1 w) :
  Calls Tryd.prog 106 #[.string s] w fun e w' => e = .returned (.tuple #[.int .i32 (Lib.decodeGo s).1, .int .i64 (Lib.decodeGo s).2]) ∧ Below w.heap.size w w' := Any.utf8_decodeRuneInStringSlow Tryd.lays260 s w hT
open Go.RowKit Go.Lib in
/-- **unicode/utf8.DecodeRuneInString AT EVERY STRING.** (LAID: no walk: one application.) -/
theorem Tryd.utf8_DecodeRuneInString (s : ByteArray) (w : World) (hT : Lib.Utf8Tabs 0 1 w) :
  Calls Tryd.prog 87 #[.string s] w fun e w' => e = .returned (.tuple #[.int .i32 (Lib.decodeGo s).1, .int .i64 (Lib.decodeGo s).2]) ∧ Below w.heap.size w w' := Any.utf8_DecodeRuneInString Tryd.lays197 s w hT
end Go.Proofs
/- chars: where a text is no text; its characters. -/
namespace Go.Proofs.YtamhkdlcoghdbaaDoor.PCls
open Go.RowKit Go.Shelf Go.Proofs.YtamhkdlcoghdbaaDoorW.PrintWords Go.Proofs.YtamhkdlcoghdbaaDoorW.PrintLast Go.Proofs.YtamhkdlcoghdbaaDoorW.PrintMore
set_option linter.unusedVariables false
set_option linter.unusedSimpArgs false

/-- is there a character at a place? -/
def okAt (s : ByteArray) (p : Nat) : Bool := decide ((Utf8.decode s p).1 ≠ 65533 ∨ 1 < (Utf8.decode s p).2)
/-- the first place from p on where there is none -/
def badFrom (s : ByteArray) : Nat → Nat → Nat
 | 0, _ => s.size
 | k + 1, p => if p < s.size then (if okAt s p then badFrom s k (p + (Utf8.decode s p).2) else p) else s.size
/-- the characters from p on -/
def runesFrom (s : ByteArray) : Nat → Nat → List Nat
 | 0, _ => []
 | k + 1, p => if p < s.size then (Utf8.decode s p).1 :: runesFrom s k (p + (Utf8.decode s p).2) else []
theorem go_tail (s : ByteArray) (p : Nat) (h : p < s.size) : Lib.decodeGo (s.extract p s.size) = Utf8.decode s p := by
 unfold Lib.decodeGo
 have hs : (s.extract p s.size).size = s.size - p := by simp
 rw [if_neg (by omega), Lib.tail_decode]
 rfl
theorem badFrom_end (s : ByteArray) (k p : Nat) (h : ¬ p < s.size) : badFrom s k p = s.size := by
 cases k with
 | zero => rfl
 | succ k => simp only [badFrom, if_neg h]
theorem tabs_below {w w' : World} (h : Lib.Utf8Tabs 0 1 w) (hb : Below w.heap.size w w') : Lib.Utf8Tabs 0 1 w' := by
 have mv : ∀ (b o : Nat) (u : Value), w.cell? ⟨b, o, none⟩ = some u → w'.cell? ⟨b, o, none⟩ = some u := fun b o u hu => by
  have hlt : b < w.heap.size := by
   unfold World.cell? at hu
   cases hc : w.heap[b]? with
   | none => simp [hc] at hu
   | some x => exact (Array.getElem?_eq_some_iff.1 hc).1
  rw [World.cell?_of_block (w := w) (a := ⟨b, o, none⟩) (hb.block b hlt)]; exact hu
 exact ⟨fun c hc => mv _ _ _ (h.1 c hc), fun i hi => ⟨mv _ _ _ (h.2 i hi).1, mv _ _ _ (h.2 i hi).2⟩⟩

set_option maxHeartbeats 2000000 in
theorem valid_calls (r : Int) (n : Int) (w : World) : Calls Tryd.prog 88 #[.int .i32 r, .int .i64 n] w fun e w' => e = .returned (.bool (decide (r ≠ 65533) || decide (1 < n))) ∧ w' = w := by
 by_cases h : r = 65533
 ·subst h
  by_cases h1 : 1 < n
  ·go_enter Tryd.func88, Tryd.ntmps88
   go_wp2
   go_ret
   exact ⟨by simp [h1], rfl⟩
  ·go_enter Tryd.func88, Tryd.ntmps88
   go_wp2
   go_ret
   exact ⟨by simp [h1], rfl⟩
 ·have hb : (r != 65533) = true := by rw [bne_iff_ne]; exact h
  have H := Lib.hid h
  clear h
  go_enter Tryd.func88, Tryd.ntmps88
  go_wp2
  go_ret
  exact ⟨by simp [H.out], rfl⟩

set_option maxHeartbeats 8000000 in
set_option maxRecDepth 100000 in
theorem Valid_calls (s : ByteArray) (w : World) (hT : Lib.Utf8Tabs 0 1 w) : Calls Tryd.prog 58 #[.string s] w fun e w' => e = .returned (.int .i64 (badFrom s (s.size + 1) 0)) ∧ Below w.heap.size w w' := by
 obtain ⟨R, hR⟩ : ∃ R, R = badFrom s (s.size + 1) 0 := ⟨_, rfl⟩
 rw [← hR]
 have HR := Lib.hid hR
 have HT := Lib.hid hT
 clear hR hT
 go_enter Tryd.func58, Tryd.ntmps58
 go_wp2_with fail
 go_loopg [3] (s.size + 1) (fun gg s3 wr => ∃ p k : Nat, s.size < p + k ∧ k ≤ gg ∧ Aside0 (badFrom s k p = R ∧ wr.heap[w.heap.size]? = some (.stringIter s p) ∧ Below w.heap.size w wr))
 case atStart => exact ⟨0, s.size + 1, by omega, Nat.le_refl _, ⟨HR.out.symm, World.iter_heap w s 0, (Below.refl _ w).alloc (Nat.le_refl _) _⟩⟩
 case round =>
  obtain ⟨p, k, hpk, hgg, HQ⟩ := hrel
  by_cases hp : p < s.size
  ·obtain ⟨k, rfl⟩ : ∃ j, k = j + 1 := ⟨k - 1, by omega⟩
   obtain ⟨W1, hW1⟩ : ∃ W1, W1 = wr.iterAt w.heap.size s (p + (Utf8.decode s p).2) := ⟨_, rfl⟩
   have hnext : ∀ ty, (Instr.next (.pointer (some ⟨w.heap.size, 0, none⟩)) true ty).run Tryd.prog wr = .ok (.tuple #[.bool true, .int .i64 p, .int .i32 (Utf8.decode s p).1]) W1 := fun ty => by rw [hW1]; exact Lib.run_next_any_at wr w.heap.size s p ty HQ.out.2.1 hp
   have hbW : Below w.heap.size w W1 := by rw [hW1]; exact Lib.below_iterAt HQ.out.2.2 (Nat.le_refl _) s _
   have hiW : W1.heap[w.heap.size]? = some (.stringIter s (p + (Utf8.decode s p).2)) := by rw [hW1]; exact Lib.iterAt_heap wr _ s p _ HQ.out.2.1
   have hwid := Lib.width_pos s p
   have hQ1 := HQ.out.1
   simp only [badFrom, if_pos hp] at hQ1
   have HQ1 := Lib.hid hQ1
   have HBW := Lib.hid hbW
   have HIW := Lib.hid hiW
   have HW := Lib.hid hwid
   have HDG := Lib.hid (go_tail s p hp)
   have hpi : (p : Int) ≤ (s.size : Int) := by omega
   clear hQ1 hbW hiW hwid hW1
   by_cases hr : (Utf8.decode s p).1 = 65533
   ·obtain ⟨ru, hru⟩ : ∃ ru : Nat, ru = (Utf8.decode s p).1 := ⟨_, rfl⟩
    obtain ⟨wi, hwi⟩ : ∃ wi : Nat, wi = (Utf8.decode s p).2 := ⟨_, rfl⟩
    have hdg := HDG.out
    have h1 : Lib.decodeGo (s.extract p s.size) = (65533, wi) := by rw [hdg, hwi, ← hr]
    have hcall := Tryd.utf8_DecodeRuneInString (s.extract p s.size) W1 (tabs_below HT.out HBW.out)
    rw [h1] at hcall
    have HCL := Lib.hid hcall
    rw [hr] at hnext
    have HRU := Lib.hid (And.intro hr hwi)
    clear hru hr hwi hdg h1 hcall ru
    go_wp2_with fail
    refine HCL.out.mono ?_
    rintro e w5 ⟨rfl, hb5⟩
    have HB5 := Lib.hid (HBW.out.trans (hb5.mono HBW.out.size))
    have HI5 := Lib.hid ((hb5.block _ (Array.getElem?_eq_some_iff.1 HIW.out).1).trans HIW.out)
    clear hb5 HCL
    go_wp2_with fail
    refine (valid_calls _ _ _).mono ?_
    rintro e w6 ⟨rfl, rfl⟩
    by_cases hw1 : 1 < wi
    ·have hd : (decide ((65533 : Int) ≠ 65533) || decide (1 < (wi : Int))) = true := by simp; omega
     have HOK := Lib.hid (show okAt s p = true by unfold okAt; exact decide_eq_true (.inr (by rw [← HRU.out.2]; exact hw1)))
     rw [hd]
     clear hd hw1
     go_wp2_with fail
     go_roundg k
     case measure => omega
     case rel => exact ⟨_, k, by have := HW.out; omega, Nat.le_refl _, ⟨by have h := HQ1.out; rw [if_pos HOK.out] at h; exact h, HI5.out, HB5.out⟩⟩
    ·have hd : (decide ((65533 : Int) ≠ 65533) || decide (1 < (wi : Int))) = false := by simp; omega
     have HX := Lib.hid (show (R : Int) = (p : Int) by rw [← HQ1.out, if_neg (by unfold okAt; rw [decide_eq_true_eq]; rintro (h | h); exact h HRU.out.1; rw [← HRU.out.2] at h; exact hw1 h)])
     rw [hd]
     clear hd hw1
     go_wp2_with fail
     go_ret
     exact ⟨congrArg (fun x : Int => Ending.returned (Value.int .i64 x)) HX.out.symm, HB5.out⟩
   ·have HOK := Lib.hid (show okAt s p = true by unfold okAt; exact decide_eq_true (.inl hr))
    obtain ⟨ru, hru⟩ : ∃ ru : Nat, ru = (Utf8.decode s p).1 := ⟨_, rfl⟩
    rw [← hru] at hnext hr
    have hb : ((ru : Int) == 65533) = false := by rw [beq_eq_false_iff_ne]; omega
    clear hr hru
    go_wp2_with fail
    go_roundg k
    case measure => omega
    case rel => exact ⟨_, k, by have := HW.out; omega, Nat.le_refl _, ⟨by have h := HQ1.out; rw [if_pos HOK.out] at h; exact h, HIW.out, HBW.out⟩⟩
  ·have hnext : ∀ ty, (Instr.next (.pointer (some ⟨w.heap.size, 0, none⟩)) true ty).run Tryd.prog wr = .ok (.tuple #[.bool false]) wr := fun ty => Lib.run_next_end_at wr w.heap.size s p ty HQ.out.2.1 hp
   have HX := Lib.hid (show (R : Int) = (s.size : Int) by rw [← HQ.out.1, badFrom_end s k p hp])
   clear hp
   go_wp2_with fail
   go_ret
   exact ⟨congrArg (fun x : Int => Ending.returned (Value.int .i64 x)) HX.out.symm, HQ.out.2.2⟩
end Go.Proofs.YtamhkdlcoghdbaaDoor.PCls
/- chars.Decode: a text's characters, or that it is none. -/
namespace Go.Proofs.YtamhkdlcoghdbaaDoor.PCls
open Go.RowKit Go.Shelf Go.Proofs.YtamhkdlcoghdbaaDoorW.PrintWords Go.Proofs.YtamhkdlcoghdbaaDoorW.PrintLast Go.Proofs.YtamhkdlcoghdbaaDoorW.PrintMore
set_option linter.unusedVariables false
set_option linter.unusedSimpArgs false

theorem info3d : (Tryd.prog.info? 3).map (fun i => (i.zero, i.size, i.bytes)) = some (some (.int .i64 0), 1, 8) := by kernel_rfl
/-- one number more behind a list of the call's own -/
theorem runes_append {X : World} {B0 : Nat} {v : Value} {xs : List Nat} (h : X.ownsRow B0 3 1 v xs.length (xs.map (fun n : Nat => Value.int .i64 (n : Int)))) (hb : B0 ≤ X.heap.size) (hl : xs.length < 549755813888) (ad : Addr) (c : Nat) (y : Nat) (hy : X.cell? (ad.add 0) = some (.int .i64 (y : Int))) :
  ∃ v' W, (Builtin.append_ #[59, 59] 59 #[v, .slice (some ad) 1 c]).run Tryd.prog X = .ok v' W ∧ W.ownsRow B0 3 1 v' (xs ++ [y]).length ((xs ++ [y]).map (fun n : Nat => Value.int .i64 (n : Int))) ∧ X.grownBy W v.ownBlock := by
 obtain ⟨i0, hi, hz0, hz1, hz2⟩ := info_parts info3d
 obtain ⟨v', W, hrun, hown, hgrow, hnil, hat⟩ := run_append_own_at X B0 59 59 3 i0 _ 1 8 Tryd.underlying59 hi hz0 hz1 hz2 rfl (by decide) v xs.length _ h ad 1 c [.int .i64 (y : Int)] rfl (fun j u hj => by
  match j, hj with
  | 0, hj => simp at hj; subst hj; exact hy) (by intro u hu; simp at hu; subst hu; rfl) (by unfold maxLen; omega) (by omega) hb
 exact ⟨v', W, hrun, by rw [List.map_append, List.length_append]; exact hown, hgrow⟩
theorem runesFrom_end (s : ByteArray) (k p : Nat) (h : ¬ p < s.size) : runesFrom s k p = [] := by
 cases k with
 | zero => rfl
 | succ k => simp only [runesFrom, if_neg h]
theorem runesFrom_length (s : ByteArray) : ∀ k p, (runesFrom s k p).length ≤ s.size - p
 | 0, p => by simp [runesFrom]
 | k + 1, p => by
  simp only [runesFrom]
  split
  ·have h1 := runesFrom_length s k (p + (Utf8.decode s p).2)
   have h2 := Lib.width_pos s p
   simp only [List.length_cons]; omega
  ·simp
theorem own_lower {w : World} {b b' : Nat} {e : TypeId} {sz : Nat} {v : Value} {n : Nat} {xs : List Value} (h : w.ownsRow b e sz v n xs) (hb : b' ≤ b) : w.ownsRow b' e sz v n xs := by
 refine ⟨h.1, ?_⟩
 rcases h.2 with h2 | ⟨g, cap, cur, h1, h2, h3⟩
 ·exact .inl h2
 ·exact .inr ⟨g, cap, cur, h1, by omega, h3⟩
/-- what Decode tells -/
def RunesPost (s : ByteArray) (w : World) (e : Ending) (w' : World) : Prop := Below w.heap.size w w' ∧
 if badFrom s (s.size + 1) 0 < s.size then e = .returned (.tuple #[.slice none 0 0, .int .i64 20])
 else ∃ v, e = .returned (.tuple #[v, .int .i64 0]) ∧ w'.ownsRow w.heap.size 3 1 v (runesFrom s (s.size + 1) 0).length ((runesFrom s (s.size + 1) 0).map (fun n : Nat => Value.int .i64 (n : Int)))
/-- between two rounds -/
structure RnSt (s : ByteArray) (w2 wr : World) (v : Value) (xs : List Nat) (p : Nat) : Prop where
 bel : Below w2.heap.size w2 wr
 it : wr.heap[w2.heap.size]? = some (.stringIter s p)
 own : wr.ownsRow (w2.heap.size + 1) 3 1 v xs.length (xs.map (fun n : Nat => Value.int .i64 (n : Int)))

set_option maxHeartbeats 8000000 in
set_option maxRecDepth 100000 in
theorem Decode_calls (s : ByteArray) (w : World) (hT : Lib.Utf8Tabs 0 1 w) (hs : s.size < 549755813888) : Calls Tryd.prog 29 #[.string s] w (RunesPost s w) := by
 have HV := Lib.hid (Valid_calls s w hT)
 have hlen := runesFrom_length s (s.size + 1) 0
 obtain ⟨RT, hRT⟩ : ∃ RT, RT = runesFrom s (s.size + 1) 0 := ⟨_, rfl⟩
 have hRl : RT.length < 549755813888 := by rw [hRT]; omega
 unfold RunesPost
 rw [← hRT]
 have HRT := Lib.hid hRT
 obtain ⟨B, hB⟩ : ∃ B, B = badFrom s (s.size + 1) 0 := ⟨_, rfl⟩
 rw [← hB] at HV
 rw [← hB]
 obtain ⟨BI, hBI⟩ : ∃ BI : Int, BI = (B : Int) := ⟨_, rfl⟩
 rw [← hBI] at HV
 have HRL := Lib.hid hRl
 clear hT hRT hB hlen hRl
 go_enter Tryd.func29, Tryd.ntmps29
 go_wp2_with fail
 refine HV.out.mono ?_
 rintro e w2 ⟨rfl, hb2⟩
 have HB2 := Lib.hid hb2
 clear hb2 HV
 by_cases hbad : B < s.size
 ·have hb1 : BI < (s.size : Int) := by omega
  have HBAD := Lib.hid hbad
  clear hbad hBI
  go_wp2_with fail
  go_ret2
  exact ⟨HB2.out, by first | rfl | (rw [if_pos HBAD.out]; rfl) | (simp [HBAD.out]; done)⟩
 ·have hb1 : ¬ BI < (s.size : Int) := by omega
  have HBAD := Lib.hid hbad
  clear hbad hBI
  go_wp2_with fail
  clear hb1
  go_loopg [4] (s.size + 1) (fun gg s4 wr => ∃ (v : Value) (xs : List Nat) (p k : Nat), v = s4 ∧ s.size < p + k ∧ k ≤ gg ∧ xs.length ≤ p ∧ Aside0 (RnSt s w2 wr v xs p ∧ xs ++ runesFrom s k p = RT))
  case atStart => exact ⟨_, [], 0, s.size + 1, rfl, by omega, Nat.le_refl _, Nat.le_refl _, ⟨⟨(Below.refl _ w2).alloc (Nat.le_refl _) _, World.iter_heap w2 s 0, ⟨rfl, .inl ⟨rfl, rfl⟩⟩⟩, HRT.out.symm⟩⟩
  case round =>
   obtain ⟨v, xs, p, k, rfl, hpk, hgg, hxp, HQ⟩ := hrel
   by_cases hp : p < s.size
   ·obtain ⟨k, rfl⟩ : ∃ j, k = j + 1 := ⟨k - 1, by omega⟩
    obtain ⟨W1, hW1⟩ : ∃ W1, W1 = wr.iterAt w2.heap.size s (p + (Utf8.decode s p).2) := ⟨_, rfl⟩
    have hnext : ∀ ty, (Instr.next (.pointer (some ⟨w2.heap.size, 0, none⟩)) true ty).run Tryd.prog wr = .ok (.tuple #[.bool true, .int .i64 p, .int .i32 (Utf8.decode s p).1]) W1 := fun ty => by rw [hW1]; exact Lib.run_next_any_at wr w2.heap.size s p ty HQ.out.1.it hp
    have hbW : Below w2.heap.size w2 W1 := by rw [hW1]; exact Lib.below_iterAt HQ.out.1.bel (Nat.le_refl _) s _
    have hiW : W1.heap[w2.heap.size]? = some (.stringIter s (p + (Utf8.decode s p).2)) := by rw [hW1]; exact Lib.iterAt_heap wr _ s p _ HQ.out.1.it
    have hoW : W1.ownsRow (w2.heap.size + 1) 3 1 v xs.length (xs.map (fun n : Nat => Value.int .i64 (n : Int))) := own_move HQ.out.1.own (fun b hb => by
     rw [hW1]; exact Lib.iterAt_other wr _ _ s _ (by have := (HQ.out.1.own.lt b hb).1; omega))
    have hsW : wr.heap.size = W1.heap.size := by rw [hW1, Lib.iterAt_size]
    have hwid := Lib.width_pos s p
    have hle := Lib.rune_le s p
    have hQ1 := HQ.out.2
    simp only [runesFrom, if_pos hp] at hQ1
    obtain ⟨ru, hru⟩ : ∃ ru : Nat, ru = (Utf8.decode s p).1 := ⟨_, rfl⟩
    rw [← hru] at hnext hle hQ1
    obtain ⟨Y, hY⟩ : ∃ Y, Y = W1.alloc (.cells #[.int .i64 (ru : Int)] 3) := ⟨_, rfl⟩
    have hbY : Below W1.heap.size W1 Y := by rw [hY]; exact (Below.refl _ W1).alloc (Nat.le_refl _) _
    have hyY : Y.heap[W1.heap.size]? = some (.cells #[.int .i64 (ru : Int)] 3 (0, 0)) := by rw [hY]; exact World.alloc_heap_new W1 _
    have hK0 : w2.heap.size < W1.heap.size := (Array.getElem?_eq_some_iff.1 hiW).1
    obtain ⟨v', W6, hrun, hown, hgr⟩ := runes_append (own_move hoW (fun b hb => hbY.block b (hoW.lt b hb).2)) (by have := hbY.size; omega) (by omega) ⟨W1.heap.size, 0, none⟩ 1 ru (by rw [add_plain]; exact cell_heap hyY rfl)
    have hself : ∀ b, b ≤ w2.heap.size → W6.heap[b]? = W1.heap[b]? := fun b hb => (hgr.block b (by have := hbY.size; omega) (fun e => by have := (hoW.lt b e.symm).1; omega)).trans (hbY.block b (by omega))
    have hst : RnSt s w2 W6 v' (xs ++ [ru]) (p + (Utf8.decode s p).2) := by
     refine ⟨⟨hgr.os.trans (hbY.os.trans hbW.os), hgr.tape.trans (hbY.tape.trans hbW.tape), hgr.output.trans (hbY.output.trans hbW.output), Nat.le_trans hbW.size (Nat.le_trans hbY.size hgr.size), fun b hb => (hself b (by omega)).trans (hbW.block b hb)⟩, (hself _ (Nat.le_refl _)).trans hiW, hown⟩
    rw [hY] at hrun
    have HRUN := Lib.hid hrun
    have HST := Lib.hid hst
    have HQ1 := Lib.hid hQ1
    have HW := Lib.hid hwid
    have hwr : wrap64 (ru : Int) = (ru : Int) := w64_lit _ (by omega) (by omega)
    have hpi : (p : Int) ≤ (s.size : Int) := by omega
    clear hrun hst hself hown hgr hY hbY hyY hK0 hoW hsW hiW hbW hW1 hQ1 hwid hle hru
    go_wp2_with (at_builtin; refine Lib.wpList_append_run _ rfl _ _ _ _ rfl _ _ rfl rfl _ _ HRUN.out ?_)
    go_roundg k
    case measure => omega
    case rel => exact ⟨_, xs ++ [ru], _, k, rfl, by have := HW.out; omega, Nat.le_refl _, by have := HW.out; rw [List.length_append]; simp; omega, ⟨HST.out, by rw [List.append_assoc]; exact HQ1.out⟩⟩
   ·have hnext : ∀ ty, (Instr.next (.pointer (some ⟨w2.heap.size, 0, none⟩)) true ty).run Tryd.prog wr = .ok (.tuple #[.bool false]) wr := fun ty => Lib.run_next_end_at wr w2.heap.size s p ty HQ.out.1.it hp
    have HX := Lib.hid (show xs = RT by have h := HQ.out.2; rw [runesFrom_end s k p hp, List.append_nil] at h; exact h)
    clear hp
    go_wp2_with fail
    go_ret2
    refine ⟨HB2.out.trans (HQ.out.1.bel.mono HB2.out.size), ?_⟩
    try rw [if_neg HBAD.out]
    refine ⟨v, rfl, ?_⟩
    rw [← HX.out]
    exact own_lower HQ.out.1.own (by have := HB2.out.size; omega)
end Go.Proofs.YtamhkdlcoghdbaaDoor.PCls
/- Plain laws on a text's characters: of two texts, one behind the other. -/
namespace Go.Proofs.YtamhkdlcoghdbaaDoor.PCls
set_option linter.unusedVariables false

/-- a bad place is one below the size -/
theorem badFrom_le (s : ByteArray) : ∀ k p, badFrom s k p ≤ s.size ∨ badFrom s k p < s.size
 | 0, p => .inl (Nat.le_refl _)
 | k + 1, p => by
  simp only [badFrom]
  split
  ·split
   ·exact badFrom_le s k _
   ·right; assumption
  ·exact .inl (Nat.le_refl _)
/-- the characters from a place on do not hang on the fuel -/
theorem runesFrom_fuel (s : ByteArray) : ∀ (k j p : Nat), s.size < p + k → s.size < p + j → runesFrom s k p = runesFrom s j p
 | 0, j, p, h1, h2 => by rw [runesFrom_end s j p (by omega)]; rfl
 | k + 1, 0, p, h1, h2 => by rw [runesFrom_end s (k + 1) p (by omega)]; rfl
 | k + 1, j + 1, p, h1, h2 => by
  simp only [runesFrom]
  split
  ·have hw := Lib.width_pos s p
   rw [runesFrom_fuel s k j _ (by omega) (by omega)]
  ·rfl
theorem badFrom_fuel (s : ByteArray) : ∀ (k j p : Nat), s.size < p + k → s.size < p + j → badFrom s k p = badFrom s j p
 | 0, j, p, h1, h2 => by rw [badFrom_end s j p (by omega)]; rfl
 | k + 1, 0, p, h1, h2 => by rw [badFrom_end s (k + 1) p (by omega)]; rfl
 | k + 1, j + 1, p, h1, h2 => by
  have hw := Lib.width_pos s p
  have ih := badFrom_fuel s k j (p + (Utf8.decode s p).2) (by omega) (by omega)
  simp only [badFrom, ih]
end Go.Proofs.YtamhkdlcoghdbaaDoor.PCls
