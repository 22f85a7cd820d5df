/- Count: how many nodes a tree has. -/
import Derived.Test.YtamhkdlcoghdbaaTSmall
import Derived.Test.YtamhkdlcoghdbaaTWalk
import Derived.Test.YtamhkdlcoghdbaaTRange
namespace Go.Proofs.Ytamhkdlcoghdbaa.PCls
open Go.RowKit Go.Proofs.YtamhkdlcoghdbaaW.PrintWords Go.Proofs.YtamhkdlcoghdbaaW.PrintLast Go.Proofs.YtamhkdlcoghdbaaW.PrintMore
set_option linter.unusedVariables false
set_option linter.unusedSimpArgs false

/-- what a visit may change: nothing of the tree, no box of a walk, and nothing that lay when all began -/
structure KeepsT (N0 : Nat) (A B : World) : Prop where
  os : B.os = A.os
  tape : B.tape = A.tape
  output : B.output = A.output
  size : A.heap.size ≤ B.heap.size
  low : ∀ (b : Nat), b < N0 → B.heap[b]? = A.heap[b]?
  box : ∀ (b : Nat) (cells : Array Value) (t : TypeId) (fr : Nat × Nat), A.heap[b]? = some (.cells cells t fr) → (t = 44 ∨ t = 78) → B.heap[b]? = A.heap[b]?
theorem KeepsT.trans {N0 : Nat} {A B C : World} (h : KeepsT N0 A B) (k : KeepsT N0 B C) : KeepsT N0 A C :=
  ⟨k.os.trans h.os, k.tape.trans h.tape, k.output.trans h.output, Nat.le_trans h.size k.size, fun b hb => (k.low b hb).trans (h.low b hb), fun b cells t fr hc ht => by
    have h1 := h.box b cells t fr hc ht
    exact (k.box b cells t fr (h1.trans hc) ht).trans h1⟩
theorem KeepsT.of_below {N0 : Nat} {A B : World} (h : Below A.heap.size A B) (hn : N0 ≤ A.heap.size) : KeepsT N0 A B :=
  ⟨h.os, h.tape, h.output, h.size, fun b hb => h.block b (by omega), fun b cells t fr hc _ => h.block b (Array.getElem?_eq_some_iff.1 hc).1⟩
theorem KeepsT.setCell {N0 : Nat} {A B : World} (h : KeepsT N0 A B) {p : Addr} {cells : Array Value} {t : TypeId} {fr : Nat × Nat} (hp : N0 ≤ p.block) (hb : B.heap[p.block]? = some (.cells cells t fr)) (ht : t ≠ 44 ∧ t ≠ 78) (u : Value) : KeepsT N0 A (B.setCell p u) :=
  h.trans ⟨rfl, rfl, rfl, by simp [World.setCell], fun b hb' => Below.heap_setCell _ _ _ _ (by omega), fun b cs t' fr' hc ht' => Below.heap_setCell _ _ _ _ (by
    rintro rfl
    rw [hb] at hc
    cases hc
    rcases ht' with h | h
    · exact ht.1 h
    · exact ht.2 h)⟩
theorem KeepsT.below {N0 : Nat} {A B : World} (h : KeepsT N0 A B) : Below N0 A B := ⟨h.os, h.tape, h.output, h.size, h.low⟩

theorem boxed_cell {w : World} {b : Nat} {t : TypeId} {v : Value} (h : Boxed w b t v) : w.cell? ⟨b, 0, none⟩ = some v ∧ w.frozen? ⟨b, 0, none⟩ = false := ⟨h.cell, h.frozen⟩
theorem boxed_keep {A B : World} {b : Nat} {t : TypeId} {v : Value} (h : Boxed A b t v) (hb : Below A.heap.size A B) : Boxed B b t v := (hb.block b h.lt).trans h

set_option maxHeartbeats 1000000 in
theorem count_visit (k m lo hi d a : Int) (ar ak : Option Addr) (lr cr lk ck : Nat) (f l b : Bool) (N0 B : Nat) (n : Int) (hn : 0 ≤ n ∧ n ≤ 2000) (w : World) (hN : N0 ≤ B) (h : Boxed w B 3 (.int .i64 n)) :
    Calls Try.prog 91 #[.agg #[.int .i64 k, .int .i64 m, .int .i64 lo, .int .i64 hi, .slice ar lr cr, .slice ak lk ck, .int .i64 d, .int .i64 a, .bool f, .bool l, .bool b], .pointer (some ⟨B, 0, none⟩)] w
      fun e w' => e = .returned (.bool (decide (n + 1 ≤ 2000))) ∧ Boxed w' B 3 (.int .i64 (n + 1)) ∧ KeepsT N0 w w' := by
  have hw : wrap64 (n + 1) = n + 1 := w64_lit _ (by omega) (by omega)
  have c0 := h.cell
  have f0 := h.frozen
  have HB := Lib.hid h
  have hlt := h.lt
  clear h
  go_enter Try.func91, Try.ntmps91
  go_wp2
  go_ret
  have h2 : Boxed (w.setCell ⟨B, 0, none⟩ (.int .i64 (n + 1))) B 3 (.int .i64 (n + 1)) := HB.out.set _
  refine ⟨rfl, h2.alloc _, ?_⟩
  have hk : KeepsT N0 w (w.setCell ⟨B, 0, none⟩ (.int .i64 (n + 1))) := (KeepsT.of_below (Below.refl _ w) (by omega)).setCell (p := ⟨B, 0, none⟩) hN HB.out (by decide) _
  exact hk.trans (KeepsT.of_below ((Below.refl _ _).alloc (Nat.le_refl _) _) (by have := hk.size; omega))

theorem count_ok : ∀ (l : List Ev) (n : Int), 0 ≤ n → n ≤ 2000 → runOk visC lvN (fun n _ => 0 ≤ n ∧ n ≤ 2000) (fun _ _ => True) l n := by
  intro l
  induction l with
  | nil => intro n _ _; trivial
  | cons x l ih =>
    intro n h0 h1
    cases x with
    | enter t => exact ⟨⟨h0, h1⟩, fun h => ih (n + 1) (by omega) (by simpa [visC] using h)⟩
    | leave t => exact ⟨trivial, ih n h0 h1⟩

theorem count_visits (w0 : World) (N0 B : Nat) (hN : N0 ≤ B) : Visit visC lvN (fun n _ => 0 ≤ n ∧ n ≤ 2000) (fun _ _ => True) (fun n W => Boxed W B 3 (.int .i64 n) ∧ Below N0 w0 W ∧ N0 ≤ W.heap.size) (· < N0) (KeepsT N0) N0 91 90 #[.pointer (some ⟨B, 0, none⟩)] #[] where
  trans := KeepsT.trans
  below := fun h hn => KeepsT.of_below h hn
  size := fun h => h.size
  tree := fun h _ b hb => h.low b hb
  box := fun h _ hc ht => h.box _ _ _ _ hc ht
  inv := fun h hb => ⟨boxed_keep h.1 hb, h.2.1.trans (hb.mono h.2.2), Nat.le_trans h.2.2 hb.size⟩
  low := fun b hb => hb
  ev := fun args w => enters_ Try.func91 (by kernel_rfl) rfl args w
  el := fun args w => enters_ Try.func90 (by kernel_rfl) rfl args w
  hv := fun st s cs w hw hT hI hok => by
    obtain ⟨n, d, a, f, l, b⟩ := s
    cases hT with
    | mk k m lo hi r kids ar ak cr ck csk _ _ _ _ _ _ _ _ _ =>
      rw [show #[stepV [.int .i64 k, .int .i64 m, .int .i64 lo, .int .i64 hi, .slice ar r.length cr, .slice ak kids.length ck] ⟨.mk k m lo hi r kids, d, a, f, l, b⟩] ++ #[Value.pointer (some ⟨B, 0, none⟩)] = #[.agg #[.int .i64 k, .int .i64 m, .int .i64 lo, .int .i64 hi, .slice ar r.length cr, .slice ak kids.length ck, .int .i64 d, .int .i64 a, .bool f, .bool l, .bool b], .pointer (some ⟨B, 0, none⟩)] from rfl]
      exact (count_visit k m lo hi d a ar ak r.length cr kids.length ck f l b N0 B st hok w hN hI.1).mono fun e w' h => ⟨h.1, ⟨h.2.1, hI.2.1.trans h.2.2.below, Nat.le_trans hI.2.2 h.2.2.size⟩, fun _ => h.2.2⟩
  hl := fun st s cs w hw hT hI _ => by
    obtain ⟨n, d, a, f, l, b⟩ := s
    cases hT with
    | mk k m lo hi r kids ar ak cr ck csk _ _ _ _ _ _ _ _ _ =>
      rw [show #[stepV [.int .i64 k, .int .i64 m, .int .i64 lo, .int .i64 hi, .slice ar r.length cr, .slice ak kids.length ck] ⟨.mk k m lo hi r kids, d, a, f, l, b⟩] ++ (#[] : Array Value) = #[.agg #[.int .i64 k, .int .i64 m, .int .i64 lo, .int .i64 hi, .slice ar r.length cr, .slice ak kids.length ck, .int .i64 d, .int .i64 a, .bool f, .bool l, .bool b]] from rfl]
      exact (nothing_calls k m lo hi d a ar ak r.length cr kids.length ck f l b w).mono fun e w' h => ⟨h.1, ⟨boxed_keep hI.1 h.2, hI.2.1.trans (h.2.mono hw), Nat.le_trans hI.2.2 h.2.size⟩, KeepsT.of_below h.2 hw⟩

set_option maxHeartbeats 2000000 in
set_option maxRecDepth 100000 in
theorem count_calls (t : NT) (cs : List Value) (w : World) (hT : NIn w (· < w.heap.size) t cs) (hn : t.nodes < 4611686018427387903) :
    Calls Try.prog 51 #[.agg cs.toArray] w fun e w' => e = .returned (.int .i64 (countT t)) ∧ Below w.heap.size w w' := by
  have hT0 := hT
  obtain ⟨T, hTe⟩ : ∃ T, T = t := ⟨_, rfl⟩
  cases hT with
  | mk k m lo hi r kids ar ak cr ck csk _ _ _ _ _ _ _ _ _ =>
    rename_i q1 q2 q3 q4 q5 q6 q7 q8 q9
    clear q1 q2 q3 q4 q5 q6 q7 q8 q9
    have V := count_visits w w.heap.size (w.heap.size + 1) (by omega)
    have hw2 : ∀ w2 : World, Below (w.heap.size + 2) ((w.alloc (.cells #[.int .i64 k, .int .i64 m, .int .i64 lo, .int .i64 hi, .slice ar r.length cr, .slice ak kids.length ck] 44)).alloc (.cells #[.int .i64 0] 3)) w2 →
        Calls Try.prog 80 #[.agg #[.int .i64 k, .int .i64 m, .int .i64 lo, .int .i64 hi, .slice ar r.length cr, .slice ak kids.length ck, .int .i64 1, .int .i64 0, .bool true, .bool true, .bool true], .func (.func 91) #[] #[.pointer (some ⟨w.heap.size + 1, 0, none⟩)], .func (.func 90) #[] #[]] w2
          fun e w' => (∃ b, e = .returned (.bool b)) ∧ Boxed w' (w.heap.size + 1) 3 (.int .i64 (countT T)) ∧ Below w.heap.size w w' := by
      intro w2 hb
      have hb0 : Below w.heap.size w w2 := (((Below.refl _ w).alloc (Nat.le_refl _) _).alloc (by simp) _).trans (hb.mono (by omega))
      have hbx : Boxed w2 (w.heap.size + 1) 3 (.int .i64 0) := (hb.block _ (by omega)).trans (by
        have := World.alloc_heap_new (w.alloc (.cells #[.int .i64 k, .int .i64 m, .int .i64 lo, .int .i64 hi, .slice ar r.length cr, .slice ak kids.length ck] 44)) (.cells #[.int .i64 0] 3)
        rwa [World.size_alloc] at this)
      have hc := walk_calls V (NT.mk k m lo hi r kids).nodes (Step.top (.mk k m lo hi r kids)) _ w2 0 (Nat.le_refl _) hb0.size (hT0.move fun b h => hb0.block b h) ⟨hbx, hb0, hb0.size⟩ (count_ok _ 0 (by omega) (by omega)) (show (0 : Int) ≤ 1 by omega) (show (1 : Int) + _ < _ by simp only [Step.top]; omega)
      rw [show stepV [.int .i64 k, .int .i64 m, .int .i64 lo, .int .i64 hi, .slice ar r.length cr, .slice ak kids.length ck] (Step.top (.mk k m lo hi r kids)) = .agg #[.int .i64 k, .int .i64 m, .int .i64 lo, .int .i64 hi, .slice ar r.length cr, .slice ak kids.length ck, .int .i64 1, .int .i64 0, .bool true, .bool true, .bool true] from rfl] at hc
      refine hc.mono fun e w' h => ⟨⟨_, h.1⟩, ?_, ?_⟩
      · rw [hTe]; rw [count_run] at h; exact h.2.1.1
      · exact h.2.1.2.1
    have HW := Lib.hid hw2
    have hbc := fun w => from_calls k m lo hi ar ak r.length cr kids.length ck w
    have HF := Lib.hid hbc
    clear hw2 hbc hT0 V
    rw [← hTe]
    clear hTe
    go_enter Try.func51, Try.ntmps51
    go_wp2_with fail
    refine (HF.out _).mono ?_
    rintro e w2 ⟨rfl, hb2⟩
    have HB2 := Lib.hid hb2
    clear hb2
    go_wp2_with fail
    refine (HW.out _ (by have := HB2.out; simpa using this)).mono ?_
    rintro e w3 ⟨⟨b, rfl⟩, hbx, hbel⟩
    have c0 := hbx.cell
    have HB3 := Lib.hid hbel
    clear hbx hbel
    go_wp2
    go_ret
    exact ⟨rfl, HB3.out⟩
end Go.Proofs.Ytamhkdlcoghdbaa.PCls
