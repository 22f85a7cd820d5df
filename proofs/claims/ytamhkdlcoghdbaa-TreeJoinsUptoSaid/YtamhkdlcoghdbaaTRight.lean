/- Right: what is wrong with a tree first. -/
import Derived.Test.YtamhkdlcoghdbaaTRight2
import Derived.Test.YtamhkdlcoghdbaaTLaw
namespace Go.Proofs.Ytamhkdlcoghdbaa.PCls
open Go.RowKit Go.Proofs.YtamhkdlcoghdbaaW.PrintWords Go.Proofs.YtamhkdlcoghdbaaW.PrintLast Go.Proofs.YtamhkdlcoghdbaaW.PrintMore
set_option linter.unusedVariables false
set_option linter.unusedSimpArgs false

theorem evs_length : ∀ (t : NT) (d a : Int) (f l b : Bool), (evs t d a f l b).length = 2 * t.nodes := by
  have hL : ∀ l : List NT, (∀ t, t ∈ l → ∀ d a f l b, (evs t d a f l b).length = 2 * t.nodes) → ∀ d a n i b, (evsL l d a n i b).length = 2 * NT.nodesL l := by
    intro l
    induction l with
    | nil => intro _ d a n i b; rfl
    | cons x l ih =>
      intro h d a n i b
      simp only [evsL, List.length_append, NT.nodesL]
      rw [h x List.mem_cons_self, ih (fun t ht => h t (List.mem_cons_of_mem _ ht))]
      omega
  refine fun t => NT.ind (P := fun t => ∀ (d a : Int) (f l b : Bool), (evs t d a f l b).length = 2 * t.nodes) (fun k m lo hi r kids ih d a f l b => ?_) t
  simp only [evs, List.length_cons, List.length_append, NT.nodes, hL kids ih, List.length_nil]
  omega
theorem right_runok (chars fold : Bool) (L : Nat) : ∀ (l : List Ev) (st : SR), st.wrong = 0 → 0 ≤ st.many → st.many ≤ 2000 → 0 ≤ st.groups → st.groups ≤ st.many → st.ended.length + l.length ≤ L →
    runOk (visR chars fold) lvR (fun st _ => st.wrong = 0 ∧ (0 ≤ st.many ∧ st.many ≤ 2000) ∧ (0 ≤ st.groups ∧ st.groups ≤ 2000) ∧ st.ended.length ≤ L) (fun st _ => st.ended.length ≤ L) l st := by
  intro l
  induction l with
  | nil => intro st _ _ _ _ _ _; trivial
  | cons x l ih =>
    intro st h0 h1 h2 h3 h4 h5
    rw [List.length_cons] at h5
    cases x with
    | enter t =>
      refine ⟨⟨h0, ⟨h1, h2⟩, ⟨h3, by omega⟩, by omega⟩, fun h => ?_⟩
      obtain ⟨e, _, g1, g2, g3, g4, g5, g6⟩ := visR_ok chars fold st t h
      rw [e]
      refine ih _ h0 (by simp only; omega) (by simp only; omega) ?_ ?_ (by simp only; omega)
      · simp only; split <;> omega
      · simp only; split <;> omega
    | leave t =>
      refine ⟨by omega, ih _ ?_ ?_ ?_ ?_ ?_ ?_⟩
      · rw [(lvR_same st t).1]; exact h0
      · rw [(lvR_same st t).2.1]; exact h1
      · rw [(lvR_same st t).2.1]; exact h2
      · rw [(lvR_same st t).2.2]; exact h3
      · rw [(lvR_same st t).2.2, (lvR_same st t).2.1]; exact h4
      · unfold lvR
        split
        · simp only [List.length_append, List.length_cons, List.length_nil]; omega
        · omega

theorem RK.start {N0 : Nat} {chars fold : Bool} {wrong many groups : Int} {ended : List Int} {w0 w A : World} (h : RK N0 chars fold wrong many groups ended w0 A) (hn : N0 ≤ A.heap.size) : RK N0 chars fold wrong many groups ended A A :=
  ⟨h.bw, h.bm, h.bg, h.be, h.bo, KeepsT.of_below (Below.refl _ A) hn, h.sz⟩
theorem right_visits (w0 : World) (N0 : Nat) (chars fold : Bool) (L : Nat) (hL : L < 1099511627776) :
    Visit (visR chars fold) lvR (fun st _ => st.wrong = 0 ∧ (0 ≤ st.many ∧ st.many ≤ 2000) ∧ (0 ≤ st.groups ∧ st.groups ≤ 2000) ∧ st.ended.length ≤ L) (fun st _ => st.ended.length ≤ L)
      (fun st W => RK N0 chars fold st.wrong st.many st.groups st.ended w0 W) (· < N0) (KeepsT N0) N0 82 86
      #[.pointer (some ⟨N0 + 3, 0, none⟩), .pointer (some ⟨N0 + 2, 0, none⟩), .pointer (some ⟨N0 + 1, 0, none⟩), .pointer (some ⟨N0 + 4, 0, none⟩), .pointer (some ⟨N0 + 5, 0, none⟩)] #[.pointer (some ⟨N0 + 5, 0, none⟩)] where
  trans := KeepsT.trans
  below := fun h hn => KeepsT.of_below h hn
  size := fun h => h.size
  tree := fun h _ b hb => h.low b hb
  box := fun h _ hc ht => h.box _ _ _ _ hc ht
  inv := fun h hb => h.below hb
  low := fun b hb => hb
  ev := fun args w => enters_ Try.func82 (by kernel_rfl) rfl args w
  el := fun args w => enters_ Try.func86 (by kernel_rfl) rfl args w
  hv := fun st s cs w hw hT hI hok => by
    obtain ⟨n, d, a, f, l, b⟩ := s
    obtain ⟨wrong, many, groups, ended⟩ := st
    have hT0 := hT
    cases hT with
    | mk k m lo hi r kids ar ak cr ck csk _ _ _ _ _ _ _ _ _ =>
      rw [show #[stepV [.int .i64 k, .int .i64 m, .int .i64 lo, .int .i64 hi, .slice ar r.length cr, .slice ak kids.length ck] ⟨.mk k m lo hi r kids, d, a, f, l, b⟩] ++ #[Value.pointer (some ⟨N0 + 3, 0, none⟩), .pointer (some ⟨N0 + 2, 0, none⟩), .pointer (some ⟨N0 + 1, 0, none⟩), .pointer (some ⟨N0 + 4, 0, none⟩), .pointer (some ⟨N0 + 5, 0, none⟩)] =
        #[.agg #[.int .i64 k, .int .i64 m, .int .i64 lo, .int .i64 hi, .slice ar r.length cr, .slice ak kids.length ck, .int .i64 d, .int .i64 a, .bool f, .bool l, .bool b], .pointer (some ⟨N0 + 3, 0, none⟩), .pointer (some ⟨N0 + 2, 0, none⟩), .pointer (some ⟨N0 + 1, 0, none⟩), .pointer (some ⟨N0 + 4, 0, none⟩), .pointer (some ⟨N0 + 5, 0, none⟩)] from rfl]
      have hI' : RK N0 chars fold wrong many groups ended w0 w := hI
      refine (right_visit N0 chars fold k m lo hi d a r kids ar ak cr ck f l b wrong many groups ended w w hT0 (RK.start (w := w) hI' hw) hok.1 hok.2.1 hok.2.2.1 (Nat.lt_of_le_of_lt hok.2.2.2 hL)).mono fun e w' h => ?_
      exact ⟨h.1, ⟨h.2.bw, h.2.bm, h.2.bg, h.2.be, h.2.bo, hI'.kp.trans h.2.kp, h.2.sz⟩, fun _ => h.2.kp⟩
  hl := fun st s cs w hw hT hI hok => by
    obtain ⟨n, d, a, f, l, b⟩ := s
    obtain ⟨wrong, many, groups, ended⟩ := st
    cases hT with
    | mk k m lo hi r kids ar ak cr ck csk _ _ _ _ _ _ _ _ _ =>
      rw [show #[stepV [.int .i64 k, .int .i64 m, .int .i64 lo, .int .i64 hi, .slice ar r.length cr, .slice ak kids.length ck] ⟨.mk k m lo hi r kids, d, a, f, l, b⟩] ++ #[Value.pointer (some ⟨N0 + 5, 0, none⟩)] = #[.agg #[.int .i64 k, .int .i64 m, .int .i64 lo, .int .i64 hi, .slice ar r.length cr, .slice ak kids.length ck, .int .i64 d, .int .i64 a, .bool f, .bool l, .bool b], .pointer (some ⟨N0 + 5, 0, none⟩)] from rfl]
      have hI' : RK N0 chars fold wrong many groups ended w0 w := hI
      refine (right_leave N0 chars fold k m lo hi d a ar ak r.length cr kids.length ck f l b wrong many groups ended w w (RK.start (w := w) hI' hw) (Nat.lt_of_le_of_lt hok hL)).mono fun e w' h => ?_
      have e : lvR ⟨wrong, many, groups, ended⟩ ⟨.mk k m lo hi r kids, d, a, f, l, b⟩ = ⟨wrong, many, groups, if k = 7 then ended ++ [m] else ended⟩ := by
        show (if k = 7 then (⟨wrong, many, groups, ended ++ [m]⟩ : SR) else ⟨wrong, many, groups, ended⟩) = _
        by_cases h7 : k = 7
        · rw [if_pos h7, if_pos h7]
        · rw [if_neg h7, if_neg h7]
      rw [e]
      exact ⟨h.1, ⟨h.2.bw, h.2.bm, h.2.bg, h.2.be, h.2.bo, hI'.kp.trans h.2.kp, h.2.sz⟩, h.2.kp⟩

set_option maxHeartbeats 4000000 in
set_option maxRecDepth 100000 in
theorem right_calls (t : NT) (cs : List Value) (chars fold : Bool) (w : World) (hT : NIn w (· < w.heap.size) t cs) (hn : t.nodes < 274877906944) :
    Calls Try.prog 49 #[.agg cs.toArray, .agg #[.bool chars, .bool fold]] w fun e w' => e = .returned (.int .i64 (rightT t chars fold)) ∧ Below w.heap.size w w' := by
  have hT0 := hT
  obtain ⟨T, hTe⟩ : ∃ T, T = t := ⟨_, rfl⟩
  cases hT with
  | mk k m lo hi r kids ar ak cr ck csk _ _ _ _ _ _ _ _ _ =>
    rename_i q1 q2 q3 q4 q5 q6 q7 q8 q9
    clear q1 q2 q3 q4 q5 q6 q7 q8 q9
    obtain ⟨N0, hN0⟩ : ∃ N0, N0 = w.heap.size := ⟨_, rfl⟩
    obtain ⟨W6, hW6⟩ : ∃ W6, W6 = (((((w.alloc (.cells #[.int .i64 k, .int .i64 m, .int .i64 lo, .int .i64 hi, .slice ar r.length cr, .slice ak kids.length ck] 44)).alloc (.cells #[.bool chars, .bool fold] 46)).alloc (.cells #[.int .i64 0] 47)).alloc (.cells #[.int .i64 0] 3)).alloc (.cells #[.int .i64 0] 3)).alloc (.cells #[.slice none 0 0] 75) := ⟨_, rfl⟩
    have hsz : W6.heap.size = N0 + 6 := by rw [hW6, hN0]; simp
    have hat : ∀ (A : World) (o : Obj) (b : Nat), b = A.heap.size → (A.alloc o).heap[b]? = some o := fun A o b h => by rw [h]; exact World.alloc_heap_new A o
    have hup : ∀ (A : World) (o x : Obj) (b : Nat), A.heap[b]? = some x → (A.alloc o).heap[b]? = some x := fun A o x b h => (Below.heap_alloc A o b (Array.getElem?_eq_some_iff.1 h).1).trans h
    have h1 : W6.heap[N0 + 1]? = some (.cells #[.bool chars, .bool fold] 46 (0, 0)) := by rw [hW6]; exact hup _ _ _ _ (hup _ _ _ _ (hup _ _ _ _ (hup _ _ _ _ (hat _ _ _ (by simp [hN0])))))
    have h2 : W6.heap[N0 + 2]? = some (.cells #[.int .i64 0] 47 (0, 0)) := by rw [hW6]; exact hup _ _ _ _ (hup _ _ _ _ (hup _ _ _ _ (hat _ _ _ (by simp [hN0]))))
    have h3 : W6.heap[N0 + 3]? = some (.cells #[.int .i64 0] 3 (0, 0)) := by rw [hW6]; exact hup _ _ _ _ (hup _ _ _ _ (hat _ _ _ (by simp [hN0])))
    have h4 : W6.heap[N0 + 4]? = some (.cells #[.int .i64 0] 3 (0, 0)) := by rw [hW6]; exact hup _ _ _ _ (hat _ _ _ (by simp [hN0]))
    have h5 : W6.heap[N0 + 5]? = some (.cells #[.slice none 0 0] 75 (0, 0)) := by rw [hW6]; exact hat _ _ _ (by simp [hN0])
    have hb6 : Below N0 w W6 := by
      rw [hW6, hN0]
      exact ((((((Below.refl _ w).alloc (Nat.le_refl _) _).alloc (by simp) _).alloc (by simp; omega) _).alloc (by simp; omega) _).alloc (by simp; omega) _).alloc (by simp; omega) _
    have hR6 : RK N0 chars fold 0 0 0 [] w W6 := ⟨h2, h3, h4, ⟨_, h5, rfl, .inl ⟨rfl, rfl⟩⟩, h1, ⟨hb6.os, hb6.tape, hb6.output, hb6.size, hb6.block, fun b cells ty fr hc _ => hb6.block b (by rw [hN0]; exact (Array.getElem?_eq_some_iff.1 hc).1)⟩, by omega⟩
    have hw2 : ∀ w2 : World, Below W6.heap.size W6 w2 →
        Calls Try.prog 80 #[.agg #[.int .i64 k, .int .i64 m, .int .i64 lo, .int .i64 hi, .slice ar r.length cr, .slice ak kids.length ck, .int .i64 1, .int .i64 0, .bool true, .bool true, .bool true],
          .func (.func 82) #[] #[.pointer (some ⟨N0 + 3, 0, none⟩), .pointer (some ⟨N0 + 2, 0, none⟩), .pointer (some ⟨N0 + 1, 0, none⟩), .pointer (some ⟨N0 + 4, 0, none⟩), .pointer (some ⟨N0 + 5, 0, none⟩)], .func (.func 86) #[] #[.pointer (some ⟨N0 + 5, 0, none⟩)]] w2
          fun e w' => (∃ b, e = .returned (.bool b)) ∧ Boxed w' (N0 + 2) 47 (.int .i64 (rightT T chars fold)) ∧ Below N0 w w' := by
      intro w2 hb
      have hR2 := hR6.below hb
      have hlen := evs_length (NT.mk k m lo hi r kids) 1 0 true true true
      have V := right_visits w N0 chars fold (2 * (NT.mk k m lo hi r kids).nodes) (by omega)
      have hc := walk_calls V (NT.mk k m lo hi r kids).nodes (Step.top (.mk k m lo hi r kids)) _ w2 ⟨0, 0, 0, []⟩ (Nat.le_refl _) (by have := hb.size; omega) (by rw [hN0]; exact hT0.move (fun b h => by rw [← hN0] at h; exact (hb.block b (by omega)).trans (hb6.block b h))) hR2
        (right_runok chars fold _ _ ⟨0, 0, 0, []⟩ rfl (by simp) (by simp) (by simp) (by simp) (by unfold Step.evs Step.top; simp only; rw [hlen]; simp)) (show (0 : Int) ≤ 1 by omega) (show (1 : Int) + _ < _ by simp only [Step.top]; omega)
      rw [show stepV [.int .i64 k, .int .i64 m, .int .i64 lo, .int .i64 hi, .slice ar r.length cr, .slice ak kids.length ck] (Step.top (.mk k m lo hi r kids)) = .agg #[.int .i64 k, .int .i64 m, .int .i64 lo, .int .i64 hi, .slice ar r.length cr, .slice ak kids.length ck, .int .i64 1, .int .i64 0, .bool true, .bool true, .bool true] from rfl] at hc
      refine hc.mono fun e w' h => ⟨⟨_, h.1⟩, ?_, h.2.1.kp.below⟩
      rw [hTe]
      exact h.2.1.bw
    have HW := Lib.hid hw2
    have hbc := fun w => from_calls k m lo hi ar ak r.length cr kids.length ck w
    have HF := Lib.hid hbc
    have HN := Lib.hid hN0
    rw [← hTe, ← hN0]
    clear hw2 hbc hT0 hsz hat hup h1 h2 h3 h4 h5 hb6 hR6 hTe
    rw [hW6, hN0] at HW
    clear hW6 hN0
    go_enter Try.func49, Try.ntmps49
    go_wp2_with fail
    refine (HF.out _).mono ?_
    rintro e w2 ⟨rfl, hb2⟩
    have HB2 := Lib.hid hb2
    clear hb2
    go_wp2_with fail
    refine (HW.out _ HB2.out).mono ?_
    rintro e w3 ⟨⟨b, rfl⟩, hbx, hbel⟩
    have c0 := hbx.cell
    have HB3 := Lib.hid hbel
    clear hbx hbel
    go_wp2
    go_ret
    exact ⟨rfl, by rw [HN.out]; exact HB3.out⟩
end Go.Proofs.Ytamhkdlcoghdbaa.PCls
