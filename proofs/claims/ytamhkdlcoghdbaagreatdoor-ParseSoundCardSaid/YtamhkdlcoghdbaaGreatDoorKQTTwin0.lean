/- Out of TTwin0 (wip/tools/prune2.py): the declarations alone that the texts of the trees name. -/
import Derived.Test.YtamhkdlcoghdbaaGreatDoorKQTFormed
namespace Go.Proofs.YtamhkdlcoghdbaaGreatDoor.PCls
open Go.RowKit Go.Proofs.YtamhkdlcoghdbaaGreatDoorW.PrintWords Go.Proofs.YtamhkdlcoghdbaaGreatDoorW.PrintLast Go.Proofs.YtamhkdlcoghdbaaGreatDoorW.PrintMore
set_option linter.unusedVariables false
set_option linter.unusedSimpArgs false
theorem set_row {W : World} {g : Nat} {t : TypeId} {cur : Array Value} (h : W.heap[g]? = some (.cells cur t (0, 0))) (o : Nat) (v : Value) : (W.setCell ⟨g, o, none⟩ v).heap[g]? = some (.cells (cur.setIfInBounds o v) t (0, 0)) := by
  simp only [World.setCell, Array.getElem?_modify]
  rw [h]
  simp
/-- a row of nodes' cells -/
def RowAt (W : World) (g n : Nat) (cs : Nat → List Value) : Prop := ∃ cur : Array Value, W.heap[g]? = some (.cells cur 43 (0, 0)) ∧ n * 6 ≤ cur.size ∧ ∀ i, i < n → ∀ q u, (cs i)[q]? = some u → cur[i * 6 + q]? = some u
theorem RowAt.cell {W : World} {g n : Nat} {cs : Nat → List Value} (h : RowAt W g n cs) {i q : Nat} {u : Value} (hi : i < n) (hu : (cs i)[q]? = some u) : W.cell? ⟨g, i * 6 + q, none⟩ = some u := by
  obtain ⟨cur, h1, _, h2⟩ := h
  exact cell_heap h1 (h2 i hi q u hu)
theorem RowAt.frozen {W : World} {g n : Nat} {cs : Nat → List Value} (h : RowAt W g n cs) (o : Nat) : W.frozen? ⟨g, o, none⟩ = false := by
  obtain ⟨cur, h1, _, _⟩ := h
  simp [World.frozen?, h1]
theorem RowAt.keep {A B : World} {g n : Nat} {cs : Nat → List Value} (h : RowAt A g n cs) (hb : B.heap[g]? = A.heap[g]?) : RowAt B g n cs := by
  obtain ⟨cur, h1, h2⟩ := h
  exact ⟨cur, hb.trans h1, h2⟩
def put6 (W : World) (g o : Nat) (v0 v1 v2 v3 v4 v5 : Value) : World := (((((W.setCell ⟨g, o, none⟩ v0).setCell ⟨g, o + 1, none⟩ v1).setCell ⟨g, o + 2, none⟩ v2).setCell ⟨g, o + 3, none⟩ v3).setCell ⟨g, o + 4, none⟩ v4).setCell ⟨g, o + 5, none⟩ v5
theorem put6_other (W : World) (g o : Nat) (v0 v1 v2 v3 v4 v5 : Value) (b : Nat) (hb : b ≠ g) : (put6 W g o v0 v1 v2 v3 v4 v5).heap[b]? = W.heap[b]? := by
  unfold put6
  rw [Below.heap_setCell _ _ _ _ hb, Below.heap_setCell _ _ _ _ hb, Below.heap_setCell _ _ _ _ hb, Below.heap_setCell _ _ _ _ hb, Below.heap_setCell _ _ _ _ hb, Below.heap_setCell _ _ _ _ hb]
theorem put6_size (W : World) (g o : Nat) (v0 v1 v2 v3 v4 v5 : Value) : (put6 W g o v0 v1 v2 v3 v4 v5).heap.size = W.heap.size := by simp [put6, World.setCell]
theorem put6_below {B : Nat} {w0 W : World} (h : Below B w0 W) {g : Nat} (hg : B ≤ g) (o : Nat) (v0 v1 v2 v3 v4 v5 : Value) : Below B w0 (put6 W g o v0 v1 v2 v3 v4 v5) := by
  unfold put6
  exact (((((h.setCell (p := ⟨g, o, none⟩) hg _).setCell (p := ⟨g, o + 1, none⟩) hg _).setCell (p := ⟨g, o + 2, none⟩) hg _).setCell (p := ⟨g, o + 3, none⟩) hg _).setCell (p := ⟨g, o + 4, none⟩) hg _).setCell (p := ⟨g, o + 5, none⟩) hg _
theorem put6_row {W : World} {g n : Nat} {cs : Nat → List Value} (h : RowAt W g n cs) {j : Nat} (hj : j < n) (v0 v1 v2 v3 v4 v5 : Value) (hl : ∀ i, i < n → (cs i).length = 6) :
    RowAt (put6 W g (j * 6) v0 v1 v2 v3 v4 v5) g n (fun i => if i = j then [v0, v1, v2, v3, v4, v5] else cs i) := by
  obtain ⟨cur, h1, h2, h3⟩ := h
  refine ⟨_, set_row (set_row (set_row (set_row (set_row (set_row h1 _ _) _ _) _ _) _ _) _ _) _ _, by simpa using h2, fun i hi q u hu => ?_⟩
  simp only [Array.getElem?_setIfInBounds, Array.size_setIfInBounds]
  by_cases hij : i = j
  · subst hij
    have hu2 : (if i = i then ([v0, v1, v2, v3, v4, v5] : List Value) else cs i)[q]? = some u := hu
    rw [if_pos rfl] at hu2
    clear hu
    have hu := hu2
    clear hu2
    match q, hu with
    | 0, hu => simp at hu; subst hu; simp; omega
    | 1, hu => simp at hu; subst hu; simp; omega
    | 2, hu => simp at hu; subst hu; simp; omega
    | 3, hu => simp at hu; subst hu; simp; omega
    | 4, hu => simp at hu; subst hu; simp; omega
    | 5, hu => simp at hu; subst hu; simp; omega
    | q + 6, hu => simp at hu
  · have hu2 : (if i = j then ([v0, v1, v2, v3, v4, v5] : List Value) else cs i)[q]? = some u := hu
    rw [if_neg hij] at hu2
    clear hu
    have hu := hu2
    have hq : q < 6 := by have := (List.getElem?_eq_some_iff.1 hu).1; rw [hl i hi] at this; exact this
    have := h3 i hi q u hu
    rw [if_neg (by omega), if_neg (by omega), if_neg (by omega), if_neg (by omega), if_neg (by omega), if_neg (by omega)]
    exact this
theorem NIn.one {w : World} {P : Nat → Prop} {t : NT} {cs : List Value} (h : NIn w P t cs) : ∀ u, u ∈ cs → u.oneCell' = true := by
  cases h
  intro u hu
  simp at hu
  rcases hu with rfl | rfl | rfl | rfl | rfl | rfl <;> rfl
/-- the clone of a node's kids -/
theorem clone_kids {w W : World} {n0 : Nat} {k m lo hi : Int} {r : List S64} {kids : List NT} {ak : Option Addr} {ck : Nat} {v0 v1 v2 v3 v4 : Value} (h : NIn W (· < n0) (.mk k m lo hi r kids) [v0, v1, v2, v3, v4, .slice ak kids.length ck]) :
    ∃ cs : Nat → List Value, (∀ j t, kids[j]? = some t → NIn W (· < n0) t (cs j)) ∧ (∀ j, j < kids.length → (cs j).length = 6) ∧
      ((kids = [] ∧ Calls Tryz.prog 117 #[.slice ak kids.length ck] W fun e w' => ∃ v, (v = .slice none 0 0 ∨ ∃ g c, v = .slice (some ⟨g, 0, none⟩) 0 c) ∧ e = .returned v ∧ Below W.heap.size W w') ∨
       (kids ≠ [] ∧ Calls Tryz.prog 117 #[.slice ak kids.length ck] W fun e w' => ∃ g c, e = .returned (.slice (some ⟨g, 0, none⟩) kids.length c) ∧ kids.length ≤ c ∧ W.heap.size ≤ g ∧ g < w'.heap.size ∧ RowAt w' g kids.length cs ∧ Below W.heap.size W w')) := by
  cases h with
  | mk _ _ _ _ _ _ ar _ cr _ cs hr hrb hcr hrl hin hck hkl hk ha =>
    have hl : ∀ j, j < kids.length → (cs j).length = 6 := fun j hj => (hk j _ (List.getElem?_eq_getElem hj)).len
    refine ⟨cs, hk, hl, ?_⟩
    rcases Nat.eq_zero_or_pos kids.length with h0 | h0
    · have hk0 : kids = [] := List.length_eq_zero_iff.1 h0
      refine .inl ⟨hk0, ?_⟩
      rw [h0]
      cases ak with
      | none => exact (clone_nil ck W).mono fun e w' ⟨he, hw⟩ => ⟨_, .inl rfl, he, by rw [hw]; exact Below.refl _ _⟩
      | some ad => exact (clone_calls ad 0 ck cs W (by omega) (by omega) (by omega) (by omega)).mono fun e w' ⟨v, he, ho, hb⟩ => ⟨v, by
          rcases ho.2 with ⟨hv, _⟩ | ⟨g, c, cur, hv, _⟩
          · exact .inl hv
          · exact .inr ⟨g, c, hv⟩, he, hb⟩
    · refine .inr ⟨fun e => by rw [e] at h0; simp at h0, ?_⟩
      obtain ⟨ad, rfl, _, _⟩ := ha 0 h0
      refine (clone_calls ad kids.length ck cs W hkl hl (fun j hj u hu => (hk j _ (List.getElem?_eq_getElem hj)).one u hu) (fun j hj i u hu => by
        obtain ⟨ad', e, _, hc⟩ := ha j hj
        cases e
        exact hc i u hu)).mono ?_
      rintro e w' ⟨v, rfl, ho, hb⟩
      have hl0 := ho.1
      rcases ho.2 with ⟨rfl, h1⟩ | ⟨g, c, cur, rfl, hg, hh, hcap, _, hs, htk⟩
      · omega
      · refine ⟨g, c, rfl, hcap, hg, (Array.getElem?_eq_some_iff.1 hh).1, ⟨cur, hh, by rw [hs]; exact Nat.mul_le_mul_right 6 hcap, fun i hi q u hu => ?_⟩, hb⟩
        have hq : q < 6 := by have := (List.getElem?_eq_some_iff.1 hu).1; rw [hl i hi] at this; exact this
        have h2 := flat6_at cs kids.length hl i hi q hq
        rw [hu, ← htk] at h2
        rw [List.getElem?_take] at h2
        split at h2
        · simpa using h2
        · simp at h2
end Go.Proofs.YtamhkdlcoghdbaaGreatDoor.PCls
