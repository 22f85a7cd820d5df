/- The plain laws of Cat and Alt: trees put together one way or another are the same. No program in it. -/
import Derived.Test.YtamhkdlcoghdbaaTAltG
namespace Go.Proofs.Ytamhkdlcoghdbaa.PCls
open Go.RowKit
set_option linter.unusedVariables false
set_option linter.unusedSimpArgs false

theorem NT.nodesL_filter (p : NT → Bool) : ∀ l : List NT, NT.nodesL (l.filter p) ≤ NT.nodesL l
  | [] => by simp [NT.nodesL]
  | t :: l => by
    have ih := NT.nodesL_filter p l
    rw [List.filter_cons]
    split
    · simp only [NT.nodesL]; omega
    · simp only [NT.nodesL]; omega
theorem catOut_nodes : ∀ l : List NT, NT.nodesL (catOut l) ≤ NT.nodesL l
  | [] => by simp [catOut, NT.nodesL]
  | t :: l => by
    have ih := catOut_nodes l
    have h : NT.nodesL (catOne t) ≤ t.nodes := by
      unfold catOne
      split
      · have := NT.nodesL_filter (fun t => !decide (t.k = 1)) t.kids
        obtain ⟨k, m, lo, hi, r, kids⟩ := t
        simp only [some6, NT.kids, NT.nodes] at *
        omega
      · have := NT.nodesL_filter (fun t => !decide (t.k = 1)) [t]
        simp only [some6, NT.nodesL] at *
        omega
    simp only [catOut, List.flatMap_cons, NT.nodesL_append, NT.nodesL] at *
    omega
theorem altOut_nodes : ∀ l : List NT, NT.nodesL (altOut l) ≤ NT.nodesL l
  | [] => by simp [altOut, NT.nodesL]
  | t :: l => by
    have ih := altOut_nodes l
    have h : NT.nodesL (altOne t) ≤ t.nodes := by
      unfold altOne
      split
      · obtain ⟨k, m, lo, hi, r, kids⟩ := t
        simp only [NT.kids, NT.nodes]
        omega
      · simp only [NT.nodesL]; omega
    simp only [altOut, List.flatMap_cons, NT.nodesL_append, NT.nodesL] at *
    omega
theorem oneT_nodes (l : List NT) (kind : Int) (no : NT) (h : no.nodes = 1) : (oneT l kind no).nodes ≤ NT.nodesL l + 1 := by
  match l with
  | [] => simp only [oneT, NT.nodesL]; omega
  | [x] => simp only [oneT, NT.nodesL]; omega
  | x :: y :: l => simp only [oneT, NT.nodes, NT.nodesL]; omega
theorem catT_nodes (l : List NT) : (catT l).nodes ≤ NT.nodesL l + 1 := by
  have h1 := oneT_nodes (catOut l) 5 (.mk 1 0 0 0 [] []) rfl
  have h2 := catOut_nodes l
  unfold catT; omega
theorem altT_nodes (l : List NT) : (altT l).nodes ≤ NT.nodesL l + 1 := by
  have h1 := oneT_nodes (altOut l) 6 (.mk 2 0 0 0 [] []) rfl
  have h2 := altOut_nodes l
  unfold altT; omega
theorem few_nodes {a b c : NT} (h : ¬ 1900 < countT a + countT b + countT c) : a.nodes + b.nodes + c.nodes ≤ 1900 := by
  unfold countT at h
  omega
theorem catOne_plain (t : NT) (h1 : t.k ≠ 1) (h5 : t.k ≠ 5) : catOne t = [t] := by
  unfold catOne
  rw [if_neg h5]
  simp [some6, h1]
theorem catOne_cat (l : List NT) (h : ∀ t, t ∈ l → t.k ≠ 1) : catOne (.mk 5 0 0 0 [] l) = l := by
  unfold catOne
  rw [if_pos (show (NT.mk 5 0 0 0 [] l).k = 5 from rfl)]
  simp only [some6, NT.kids]
  exact List.filter_eq_self.2 (fun t ht => by simp [h t ht])
theorem altOne_plain (t : NT) (h6 : t.k ≠ 6) : altOne t = [t] := if_neg h6
theorem altOne_alt (l : List NT) : altOne (.mk 6 0 0 0 [] l) = l := if_pos rfl
section
variable (a b c : NT)
theorem cat_two (ha : a.k ≠ 1 ∧ a.k ≠ 5) (hb : b.k ≠ 1 ∧ b.k ≠ 5) : catT [a, b] = .mk 5 0 0 0 [] [a, b] := by
  unfold catT
  simp only [catOut, List.flatMap_cons, List.flatMap_nil, catOne_plain a ha.1 ha.2, catOne_plain b hb.1 hb.2, List.append_nil, List.cons_append, List.nil_append, oneT]
theorem cat_three (ha : a.k ≠ 1 ∧ a.k ≠ 5) (hb : b.k ≠ 1 ∧ b.k ≠ 5) (hc : c.k ≠ 1 ∧ c.k ≠ 5) : catT [a, b, c] = .mk 5 0 0 0 [] [a, b, c] := by
  unfold catT
  simp only [catOut, List.flatMap_cons, List.flatMap_nil, catOne_plain a ha.1 ha.2, catOne_plain b hb.1 hb.2, catOne_plain c hc.1 hc.2, List.append_nil, List.cons_append, List.nil_append, oneT]
theorem cat_left (ha : a.k ≠ 1 ∧ a.k ≠ 5) (hb : b.k ≠ 1 ∧ b.k ≠ 5) (hc : c.k ≠ 1 ∧ c.k ≠ 5) : catT [catT [a, b], c] = .mk 5 0 0 0 [] [a, b, c] := by
  rw [cat_two a b ha hb]
  unfold catT
  simp only [catOut, List.flatMap_cons, List.flatMap_nil, catOne_cat [a, b] (by intro t ht; simp at ht; rcases ht with rfl | rfl; exact ha.1; exact hb.1), catOne_plain c hc.1 hc.2, List.append_nil, List.cons_append, List.nil_append, oneT]
theorem cat_right (ha : a.k ≠ 1 ∧ a.k ≠ 5) (hb : b.k ≠ 1 ∧ b.k ≠ 5) (hc : c.k ≠ 1 ∧ c.k ≠ 5) : catT [a, catT [b, c]] = .mk 5 0 0 0 [] [a, b, c] := by
  rw [cat_two b c hb hc]
  unfold catT
  simp only [catOut, List.flatMap_cons, List.flatMap_nil, catOne_cat [b, c] (by intro t ht; simp at ht; rcases ht with rfl | rfl; exact hb.1; exact hc.1), catOne_plain a ha.1 ha.2, List.append_nil, List.cons_append, List.nil_append, oneT]
theorem alt_two (ha : a.k ≠ 6) (hb : b.k ≠ 6) : altT [a, b] = .mk 6 0 0 0 [] [a, b] := by
  unfold altT
  simp only [altOut, List.flatMap_cons, List.flatMap_nil, altOne_plain a ha, altOne_plain b hb, List.append_nil, List.cons_append, List.nil_append, oneT]
theorem alt_three (ha : a.k ≠ 6) (hb : b.k ≠ 6) (hc : c.k ≠ 6) : altT [a, b, c] = .mk 6 0 0 0 [] [a, b, c] := by
  unfold altT
  simp only [altOut, List.flatMap_cons, List.flatMap_nil, altOne_plain a ha, altOne_plain b hb, altOne_plain c hc, List.append_nil, List.cons_append, List.nil_append, oneT]
theorem alt_left (ha : a.k ≠ 6) (hb : b.k ≠ 6) (hc : c.k ≠ 6) : altT [altT [a, b], c] = .mk 6 0 0 0 [] [a, b, c] := by
  rw [alt_two a b ha hb]
  unfold altT
  simp only [altOut, List.flatMap_cons, List.flatMap_nil, altOne_alt [a, b], altOne_plain c hc, List.append_nil, List.cons_append, List.nil_append, oneT]
theorem alt_right (ha : a.k ≠ 6) (hb : b.k ≠ 6) (hc : c.k ≠ 6) : altT [a, altT [b, c]] = .mk 6 0 0 0 [] [a, b, c] := by
  rw [alt_two b c hb hc]
  unfold altT
  simp only [altOut, List.flatMap_cons, List.flatMap_nil, altOne_alt [b, c], altOne_plain a ha, List.append_nil, List.cons_append, List.nil_append, oneT]
theorem same_self (t : NT) (h : t.nodes ≤ 2000) : sameT t t = true := by
  unfold sameT
  rw [decide_eq_true h, (NT.same_iff t t).2 rfl]
  rfl
theorem three_nodes (k : Int) (h : a.nodes + b.nodes + c.nodes ≤ 1900) : (NT.mk k 0 0 0 [] [a, b, c]).nodes ≤ 2000 := by simp only [NT.nodes, NT.nodesL]; omega
theorem cat_same9 (h1 : a.k ≠ 1 ∧ b.k ≠ 1 ∧ c.k ≠ 1) (h5 : a.k ≠ 5 ∧ b.k ≠ 5 ∧ c.k ≠ 5) (h : a.nodes + b.nodes + c.nodes ≤ 1900) : sameT (catT [catT [a, b], c]) (catT [a, catT [b, c]]) = true := by
  rw [cat_left a b c ⟨h1.1, h5.1⟩ ⟨h1.2.1, h5.2.1⟩ ⟨h1.2.2, h5.2.2⟩, cat_right a b c ⟨h1.1, h5.1⟩ ⟨h1.2.1, h5.2.1⟩ ⟨h1.2.2, h5.2.2⟩]
  exact same_self _ (three_nodes a b c 5 h)
theorem cat_same10 (h1 : a.k ≠ 1 ∧ b.k ≠ 1 ∧ c.k ≠ 1) (h5 : a.k ≠ 5 ∧ b.k ≠ 5 ∧ c.k ≠ 5) (h : a.nodes + b.nodes + c.nodes ≤ 1900) : sameT (catT [catT [a, b], c]) (catT [a, b, c]) = true := by
  rw [cat_left a b c ⟨h1.1, h5.1⟩ ⟨h1.2.1, h5.2.1⟩ ⟨h1.2.2, h5.2.2⟩, cat_three a b c ⟨h1.1, h5.1⟩ ⟨h1.2.1, h5.2.1⟩ ⟨h1.2.2, h5.2.2⟩]
  exact same_self _ (three_nodes a b c 5 h)
theorem alt_same12 (h6 : a.k ≠ 6 ∧ b.k ≠ 6 ∧ c.k ≠ 6) (h : a.nodes + b.nodes + c.nodes ≤ 1900) : sameT (altT [altT [a, b], c]) (altT [a, altT [b, c]]) = true := by
  rw [alt_left a b c h6.1 h6.2.1 h6.2.2, alt_right a b c h6.1 h6.2.1 h6.2.2]
  exact same_self _ (three_nodes a b c 6 h)
theorem alt_same13 (h6 : a.k ≠ 6 ∧ b.k ≠ 6 ∧ c.k ≠ 6) (h : a.nodes + b.nodes + c.nodes ≤ 1900) : sameT (altT [altT [a, b], c]) (altT [a, b, c]) = true := by
  rw [alt_left a b c h6.1 h6.2.1 h6.2.2, alt_three a b c h6.1 h6.2.1 h6.2.2]
  exact same_self _ (three_nodes a b c 6 h)
end
end Go.Proofs.Ytamhkdlcoghdbaa.PCls
