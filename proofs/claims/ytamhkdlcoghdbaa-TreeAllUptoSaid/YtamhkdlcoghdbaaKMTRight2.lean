/- Put together (wip/tools/pack.py): KTRight2, KTLaw, KTRight, KTDepth, KTGroups. -/
import Derived.Test.YtamhkdlcoghdbaaKTRight1
/- Out of TRight2 (wip/tools/prune2.py): the declarations alone that the texts of the trees name. -/
namespace Go.Proofs.Ytamhkdlcoghdbaa.PCls
open Go.RowKit Go.Proofs.YtamhkdlcoghdbaaW.PrintWords Go.Proofs.YtamhkdlcoghdbaaW.PrintLast Go.Proofs.YtamhkdlcoghdbaaW.PrintMore
set_option linter.unusedVariables false
set_option linter.unusedSimpArgs false
theorem info3' : (Try.prog.info? 3).map (fun i => (i.zero, i.size, i.bytes)) = some (some (.int .i64 0), 1, 8) := by kernel_rfl
theorem RK.appended {N0 : Nat} {chars fold : Bool} {wrong many groups : Int} {ended ended' : List Int} {w A B : World} {v v' : Value} {tmp : Obj} (h : RK N0 chars fold wrong many groups ended w A)
  (hv : Boxed A (N0 + 5) 75 v) (ho : A.ownsRow (N0 + 6) 3 1 v ended.length (ended.map (Value.int .i64))) (hg : (A.alloc tmp).grownBy B v.ownBlock) (ho' : B.ownsRow (N0 + 6) 3 1 v' ended'.length (ended'.map (Value.int .i64))) :
  RK N0 chars fold wrong many groups ended' w (B.setCell ⟨N0 + 5, 0, none⟩ v') ∧ Boxed B (N0 + 5) 75 v := by
 have hs := h.sz
 have hne : ∀ b, b < N0 + 6 → some b ≠ v.ownBlock := by
  intro b hb e
  have := ho.lt b e.symm
  omega
 have hb : ∀ b, b < N0 + 6 → B.heap[b]? = A.heap[b]? := fun b hb' => (hg.block b (by simp; omega) (hne b hb')).trans (Below.heap_alloc _ _ _ (by omega))
 have hsz : A.heap.size ≤ B.heap.size := by have := hg.size; simp at this; omega
 have hk : KeepsT N0 A B := ⟨hg.os, hg.tape, hg.output, hsz, fun b hb' => hb b (by omega), fun b cells t fr hc ht => by
  have hlt := (Array.getElem?_eq_some_iff.1 hc).1
  refine (hg.block b (by simp; omega) (fun e => ?_)).trans (Below.heap_alloc _ _ _ hlt)
  obtain ⟨cs, hcs⟩ := own_typed ho b e.symm
  rw [hc] at hcs
  cases hcs
  rcases ht with h | h <;> exact absurd h (by decide)⟩
 have hbox : Boxed B (N0 + 5) 75 v := (hb _ (by omega)).trans hv
 exact ⟨⟨boxed_other ((hb _ (by omega)).trans h.bw) (by omega), boxed_other ((hb _ (by omega)).trans h.bm) (by omega), boxed_other ((hb _ (by omega)).trans h.bg) (by omega), ⟨v', hbox.set v', own_other ho' (by omega)⟩,
  (Below.heap_setCell _ _ _ _ (by simp only; omega)).trans ((hb _ (by omega)).trans h.bo), (h.kp.trans hk).setCell (p := ⟨N0 + 5, 0, none⟩) (by simp only; omega) hbox (by decide) _, by simp [World.setCell]; omega⟩, hbox⟩
set_option maxHeartbeats 4000000 in
set_option maxRecDepth 100000 in
theorem right_leave (N0 : Nat) (chars fold : Bool) (k m lo hi d a : Int) (ar ak : Option Addr) (lr cr lk ck : Nat) (f l b : Bool) (wrong many groups : Int) (ended : List Int) (w0 w : World)
  (hI : RK N0 chars fold wrong many groups ended w0 w) (hel : ended.length < 1099511627776) :
  Calls Try.prog 86 #[.agg #[.int .i64 k, .int .i64 m, .int .i64 lo, .int .i64 hi, .slice ar lr cr, .slice ak lk ck, .int .i64 d, .int .i64 a, .bool f, .bool l, .bool b], .pointer (some ⟨N0 + 5, 0, none⟩)] w
   fun e w' => e = .returned (.tuple #[]) ∧ RK N0 chars fold wrong many groups (if k = 7 then ended ++ [m] else ended) w0 w' := by
 have HI := Lib.hid hI
 have HE := Lib.hid hel
 clear hI hel
 by_cases g7 : k = 7
 ·subst g7
  rw [if_pos rfl]
  obtain ⟨v, hv, ho⟩ := HI.out.be
  have HV := Lib.hid hv
  have HO := Lib.hid ho
  have ce := hv.cell
  have fe := hv.frozen
  have le := hv.lt
  obtain ⟨i0, hi0, hz0, hz1, hz2⟩ := info_parts info3'
  have HH := Lib.hid (And.intro hi0 (And.intro hz0 (And.intro hz1 hz2)))
  obtain ⟨va, vn, vc, rfl⟩ : ∃ va vn vc, v = .slice va vn vc := by rcases ho.2 with ⟨h, _⟩ | ⟨g, cap, cur, h, _⟩ <;> exact ⟨_, _, _, h⟩
  clear hv ho hi0 hz0 hz1 hz2
  go_enter Try.func86, Try.ntmps86
  go_wp2_with (at_builtin; refine wpList_append_own _ rfl _ _ 75 rfl (N0 + 6) 3 i0 _ 1 8 Try.underlying75 HH.out.1 HH.out.2.1 HH.out.2.2.1 HH.out.2.2.2 rfl (by decide) _ _ _ rfl ((HO.out.alloc _).alloc _) ⟨w.heap.size + 1, 0, none⟩ 1 1 [.int .i64 m] rfl ?qc1 ?qc2 ?qc3 ?qc4 ?qc5 ?qc6 ?_)
  case qc1 => rfl
  case qc2 =>
   intro j u hj
   match j, hj with
   | 0, hj =>
    simp at hj
    subst hj
    have := cell_heap (i := 0) (World.alloc_heap_new (w.alloc (.cells #[.int .i64 7, .int .i64 m, .int .i64 lo, .int .i64 hi, .slice ar lr cr, .slice ak lk ck, .int .i64 d, .int .i64 a, .bool f, .bool l, .bool b] 78)) (.cells #[.int .i64 m] 3)) rfl
    rw [World.size_alloc] at this
    exact this
  case qc3 => intro u hu; simp at hu; subst hu; rfl
  case qc4 => unfold maxLen; have := HE.out; omega
  case qc5 => have := HE.out; omega
  case qc6 => have := HI.out.sz; simp; omega
  intro v' w1 hown hgrow hnil
  obtain ⟨g', cap', rfl⟩ := ownsRow_succ hown
  obtain ⟨hR, hbx⟩ := RK.appended (ended' := ended ++ [m]) (HI.out.alloc (.cells #[.int .i64 7, .int .i64 m, .int .i64 lo, .int .i64 hi, .slice ar lr cr, .slice ak lk ck, .int .i64 d, .int .i64 a, .bool f, .bool l, .bool b] 78)) (HV.out.alloc _) (HO.out.alloc _) hgrow (by simpa using hown)
  have HRR := Lib.hid hR
  have c2 := hbx.cell
  have f2 := hbx.frozen
  clear hR hbx hown hgrow hnil
  go_wp2
  go_end0
  exact ⟨rfl, by simpa using HRR.out⟩
 ·have g72 : (k == 7) = false := beq_eq_false_iff_ne.2 g7
  rw [if_neg g7]
  go_enter Try.func86, Try.ntmps86
  go_wp2
  go_end0
  exact ⟨rfl, HI.out.alloc _⟩
end Go.Proofs.Ytamhkdlcoghdbaa.PCls
/- Out of TLaw (wip/tools/prune2.py): the declarations alone that the texts of the trees name. -/
namespace Go.Proofs.Ytamhkdlcoghdbaa.PCls
open Go.RowKit
set_option linter.unusedVariables false
set_option linter.unusedSimpArgs false
def groupsIn (l : List Step) : Nat := (l.filter fun s => decide (s.n.k = 7)).length
theorem visR_ok (chars fold : Bool) (st : SR) (s : Step) (h : (visR chars fold st s).1 = true) :
  (visR chars fold st s).2 = ⟨st.wrong, st.many + 1, if s.n.k = 7 then st.groups + 1 else st.groups, st.ended⟩ ∧ st.wrong = 0 ∧ st.many < 2000 ∧ s.deep ≤ 40 ∧ stands s = true ∧ formed s.n chars fold = true ∧
   (s.n.k = 7 → s.n.m = st.groups + 1 ∧ st.groups + 1 ≤ 30) ∧ (s.n.k = 8 → st.ended.contains s.n.m = true) := by
 unfold visR at h ⊢
 by_cases h1 : 2000 ≤ st.many
 ·rw [if_pos h1] at h; simp at h
 rw [if_neg h1] at h ⊢
 by_cases h2 : 40 < s.deep
 ·rw [if_pos h2] at h; simp at h
 rw [if_neg h2] at h ⊢
 by_cases h3 : (!stands s || !formed s.n chars fold) = true
 ·rw [if_pos h3] at h; simp at h
 rw [if_neg h3] at h ⊢
 simp only [Bool.or_eq_true, Bool.not_eq_true', not_or, Bool.not_eq_false] at h3
 by_cases h4 : s.n.k = 7
 ·rw [if_pos h4] at h ⊢
  by_cases h5 : s.n.m ≠ st.groups + 1
  ·rw [if_pos h5] at h; simp at h
  rw [if_neg h5] at h ⊢
  by_cases h6 : 30 < st.groups + 1
  ·rw [if_pos h6] at h; simp at h
  rw [if_neg h6] at h ⊢
  simp only [decide_eq_true_eq] at h
  refine ⟨by rw [if_pos h4], h, by omega, by omega, h3.1, h3.2, fun _ => ⟨by omega, by omega⟩, fun h8 => ?_⟩
  omega
 ·rw [if_neg h4] at h ⊢
  by_cases h5 : s.n.k = 8 ∧ st.ended.contains s.n.m = false
  ·rw [if_pos h5] at h; simp at h
  rw [if_neg h5] at h ⊢
  simp only [decide_eq_true_eq] at h
  refine ⟨by rw [if_neg h4], h, by omega, by omega, h3.1, h3.2, fun h7 => absurd h7 h4, fun h8 => ?_⟩
  cases hc : st.ended.contains s.n.m
  ·exact absurd ⟨h8, hc⟩ h5
  ·rfl
theorem lvR_same (st : SR) (s : Step) : (lvR st s).wrong = st.wrong ∧ (lvR st s).many = st.many ∧ (lvR st s).groups = st.groups := by
 unfold lvR
 split <;> exact ⟨rfl, rfl, rfl⟩
end Go.Proofs.Ytamhkdlcoghdbaa.PCls
/- Out of TRight (wip/tools/prune2.py): the declarations alone that the texts of the trees name. -/
namespace Go.Proofs.Ytamhkdlcoghdbaa.PCls
open Go.RowKit Go.Proofs.YtamhkdlcoghdbaaW.PrintWords Go.Proofs.YtamhkdlcoghdbaaW.PrintLast Go.Proofs.YtamhkdlcoghdbaaW.PrintMore
set_option linter.unusedVariables false
set_option linter.unusedSimpArgs false
theorem evs_length : ∀ (t : NT) (d a : Int) (f l b : Bool), (evs t d a f l b).length = 2 * t.nodes := by
 have hL : ∀ l : List NT, (∀ t, t ∈ l → ∀ d a f l b, (evs t d a f l b).length = 2 * t.nodes) → ∀ d a n i b, (evsL l d a n i b).length = 2 * NT.nodesL l := by
  intro l
  induction l with
  | nil => intro _ d a n i b; rfl
  | cons x l ih =>
   intro h d a n i b
   simp only [evsL, List.length_append, NT.nodesL]
   rw [h x List.mem_cons_self, ih (fun t ht => h t (List.mem_cons_of_mem _ ht))]
   omega
 refine fun t => NT.ind (P := fun t => ∀ (d a : Int) (f l b : Bool), (evs t d a f l b).length = 2 * t.nodes) (fun k m lo hi r kids ih d a f l b => ?_) t
 simp only [evs, List.length_cons, List.length_append, NT.nodes, hL kids ih, List.length_nil]
 omega
theorem right_runok (chars fold : Bool) (L : Nat) : ∀ (l : List Ev) (st : SR), st.wrong = 0 → 0 ≤ st.many → st.many ≤ 2000 → 0 ≤ st.groups → st.groups ≤ st.many → st.ended.length + l.length ≤ L →
  runOk (visR chars fold) lvR (fun st _ => st.wrong = 0 ∧ (0 ≤ st.many ∧ st.many ≤ 2000) ∧ (0 ≤ st.groups ∧ st.groups ≤ 2000) ∧ st.ended.length ≤ L) (fun st _ => st.ended.length ≤ L) l st := by
 intro l
 induction l with
 | nil => intro st _ _ _ _ _ _; trivial
 | cons x l ih =>
  intro st h0 h1 h2 h3 h4 h5
  rw [List.length_cons] at h5
  cases x with
  | enter t =>
   refine ⟨⟨h0, ⟨h1, h2⟩, ⟨h3, by omega⟩, by omega⟩, fun h => ?_⟩
   obtain ⟨e, _, g1, g2, g3, g4, g5, g6⟩ := visR_ok chars fold st t h
   rw [e]
   refine ih _ h0 (by simp only; omega) (by simp only; omega) ?_ ?_ (by simp only; omega)
   ·simp only; split <;> omega
   ·simp only; split <;> omega
  | leave t =>
   refine ⟨by omega, ih _ ?_ ?_ ?_ ?_ ?_ ?_⟩
   ·rw [(lvR_same st t).1]; exact h0
   ·rw [(lvR_same st t).2.1]; exact h1
   ·rw [(lvR_same st t).2.1]; exact h2
   ·rw [(lvR_same st t).2.2]; exact h3
   ·rw [(lvR_same st t).2.2, (lvR_same st t).2.1]; exact h4
   ·unfold lvR
    split
    ·simp only [List.length_append, List.length_cons, List.length_nil]; omega
    ·omega
theorem RK.start {N0 : Nat} {chars fold : Bool} {wrong many groups : Int} {ended : List Int} {w0 w A : World} (h : RK N0 chars fold wrong many groups ended w0 A) (hn : N0 ≤ A.heap.size) : RK N0 chars fold wrong many groups ended A A :=
 ⟨h.bw, h.bm, h.bg, h.be, h.bo, KeepsT.of_below (Below.refl _ A) hn, h.sz⟩
theorem right_visits (w0 : World) (N0 : Nat) (chars fold : Bool) (L : Nat) (hL : L < 1099511627776) :
  Visit (visR chars fold) lvR (fun st _ => st.wrong = 0 ∧ (0 ≤ st.many ∧ st.many ≤ 2000) ∧ (0 ≤ st.groups ∧ st.groups ≤ 2000) ∧ st.ended.length ≤ L) (fun st _ => st.ended.length ≤ L)
   (fun st W => RK N0 chars fold st.wrong st.many st.groups st.ended w0 W) (· < N0) (KeepsT N0) N0 82 86
   #[.pointer (some ⟨N0 + 3, 0, none⟩), .pointer (some ⟨N0 + 2, 0, none⟩), .pointer (some ⟨N0 + 1, 0, none⟩), .pointer (some ⟨N0 + 4, 0, none⟩), .pointer (some ⟨N0 + 5, 0, none⟩)] #[.pointer (some ⟨N0 + 5, 0, none⟩)] where
 trans := KeepsT.trans
 below := fun h hn => KeepsT.of_below h hn
 size := fun h => h.size
 tree := fun h _ b hb => h.low b hb
 box := fun h _ hc ht => h.box _ _ _ _ hc ht
 inv := fun h hb => h.below hb
 low := fun b hb => hb
 ev := fun args w => enters_ Try.func82 (by kernel_rfl) rfl args w
 el := fun args w => enters_ Try.func86 (by kernel_rfl) rfl args w
 hv := fun st s cs w hw hT hI hok => by
  obtain ⟨n, d, a, f, l, b⟩ := s
  obtain ⟨wrong, many, groups, ended⟩ := st
  have hT0 := hT
  cases hT with
  | mk k m lo hi r kids ar ak cr ck csk _ _ _ _ _ _ _ _ _ =>
   rw [show #[stepV [.int .i64 k, .int .i64 m, .int .i64 lo, .int .i64 hi, .slice ar r.length cr, .slice ak kids.length ck] ⟨.mk k m lo hi r kids, d, a, f, l, b⟩] ++ #[Value.pointer (some ⟨N0 + 3, 0, none⟩), .pointer (some ⟨N0 + 2, 0, none⟩), .pointer (some ⟨N0 + 1, 0, none⟩), .pointer (some ⟨N0 + 4, 0, none⟩), .pointer (some ⟨N0 + 5, 0, none⟩)] =
    #[.agg #[.int .i64 k, .int .i64 m, .int .i64 lo, .int .i64 hi, .slice ar r.length cr, .slice ak kids.length ck, .int .i64 d, .int .i64 a, .bool f, .bool l, .bool b], .pointer (some ⟨N0 + 3, 0, none⟩), .pointer (some ⟨N0 + 2, 0, none⟩), .pointer (some ⟨N0 + 1, 0, none⟩), .pointer (some ⟨N0 + 4, 0, none⟩), .pointer (some ⟨N0 + 5, 0, none⟩)] from rfl]
   have hI' : RK N0 chars fold wrong many groups ended w0 w := hI
   refine (right_visit N0 chars fold k m lo hi d a r kids ar ak cr ck f l b wrong many groups ended w w hT0 (RK.start (w := w) hI' hw) hok.1 hok.2.1 hok.2.2.1 (Nat.lt_of_le_of_lt hok.2.2.2 hL)).mono fun e w' h => ?_
   exact ⟨h.1, ⟨h.2.bw, h.2.bm, h.2.bg, h.2.be, h.2.bo, hI'.kp.trans h.2.kp, h.2.sz⟩, fun _ => h.2.kp⟩
 hl := fun st s cs w hw hT hI hok => by
  obtain ⟨n, d, a, f, l, b⟩ := s
  obtain ⟨wrong, many, groups, ended⟩ := st
  cases hT with
  | mk k m lo hi r kids ar ak cr ck csk _ _ _ _ _ _ _ _ _ =>
   rw [show #[stepV [.int .i64 k, .int .i64 m, .int .i64 lo, .int .i64 hi, .slice ar r.length cr, .slice ak kids.length ck] ⟨.mk k m lo hi r kids, d, a, f, l, b⟩] ++ #[Value.pointer (some ⟨N0 + 5, 0, none⟩)] = #[.agg #[.int .i64 k, .int .i64 m, .int .i64 lo, .int .i64 hi, .slice ar r.length cr, .slice ak kids.length ck, .int .i64 d, .int .i64 a, .bool f, .bool l, .bool b], .pointer (some ⟨N0 + 5, 0, none⟩)] from rfl]
   have hI' : RK N0 chars fold wrong many groups ended w0 w := hI
   refine (right_leave N0 chars fold k m lo hi d a ar ak r.length cr kids.length ck f l b wrong many groups ended w w (RK.start (w := w) hI' hw) (Nat.lt_of_le_of_lt hok hL)).mono fun e w' h => ?_
   have e : lvR ⟨wrong, many, groups, ended⟩ ⟨.mk k m lo hi r kids, d, a, f, l, b⟩ = ⟨wrong, many, groups, if k = 7 then ended ++ [m] else ended⟩ := by
    show (if k = 7 then (⟨wrong, many, groups, ended ++ [m]⟩ : SR) else ⟨wrong, many, groups, ended⟩) = _
    by_cases h7 : k = 7
    ·rw [if_pos h7, if_pos h7]
    ·rw [if_neg h7, if_neg h7]
   rw [e]
   exact ⟨h.1, ⟨h.2.bw, h.2.bm, h.2.bg, h.2.be, h.2.bo, hI'.kp.trans h.2.kp, h.2.sz⟩, h.2.kp⟩
set_option maxHeartbeats 4000000 in
set_option maxRecDepth 100000 in
theorem right_calls (t : NT) (cs : List Value) (chars fold : Bool) (w : World) (hT : NIn w (· < w.heap.size) t cs) (hn : t.nodes < 274877906944) :
  Calls Try.prog 49 #[.agg cs.toArray, .agg #[.bool chars, .bool fold]] w fun e w' => e = .returned (.int .i64 (rightT t chars fold)) ∧ Below w.heap.size w w' := by
 have hT0 := hT
 obtain ⟨T, hTe⟩ : ∃ T, T = t := ⟨_, rfl⟩
 cases hT with
 | mk k m lo hi r kids ar ak cr ck csk _ _ _ _ _ _ _ _ _ =>
  rename_i q1 q2 q3 q4 q5 q6 q7 q8 q9
  clear q1 q2 q3 q4 q5 q6 q7 q8 q9
  obtain ⟨N0, hN0⟩ : ∃ N0, N0 = w.heap.size := ⟨_, rfl⟩
  obtain ⟨W6, hW6⟩ : ∃ W6, W6 = (((((w.alloc (.cells #[.int .i64 k, .int .i64 m, .int .i64 lo, .int .i64 hi, .slice ar r.length cr, .slice ak kids.length ck] 44)).alloc (.cells #[.bool chars, .bool fold] 46)).alloc (.cells #[.int .i64 0] 47)).alloc (.cells #[.int .i64 0] 3)).alloc (.cells #[.int .i64 0] 3)).alloc (.cells #[.slice none 0 0] 75) := ⟨_, rfl⟩
  have hsz : W6.heap.size = N0 + 6 := by rw [hW6, hN0]; simp
  have hat : ∀ (A : World) (o : Obj) (b : Nat), b = A.heap.size → (A.alloc o).heap[b]? = some o := fun A o b h => by rw [h]; exact World.alloc_heap_new A o
  have hup : ∀ (A : World) (o x : Obj) (b : Nat), A.heap[b]? = some x → (A.alloc o).heap[b]? = some x := fun A o x b h => (Below.heap_alloc A o b (Array.getElem?_eq_some_iff.1 h).1).trans h
  have h1 : W6.heap[N0 + 1]? = some (.cells #[.bool chars, .bool fold] 46 (0, 0)) := by rw [hW6]; exact hup _ _ _ _ (hup _ _ _ _ (hup _ _ _ _ (hup _ _ _ _ (hat _ _ _ (by simp [hN0])))))
  have h2 : W6.heap[N0 + 2]? = some (.cells #[.int .i64 0] 47 (0, 0)) := by rw [hW6]; exact hup _ _ _ _ (hup _ _ _ _ (hup _ _ _ _ (hat _ _ _ (by simp [hN0]))))
  have h3 : W6.heap[N0 + 3]? = some (.cells #[.int .i64 0] 3 (0, 0)) := by rw [hW6]; exact hup _ _ _ _ (hup _ _ _ _ (hat _ _ _ (by simp [hN0])))
  have h4 : W6.heap[N0 + 4]? = some (.cells #[.int .i64 0] 3 (0, 0)) := by rw [hW6]; exact hup _ _ _ _ (hat _ _ _ (by simp [hN0]))
  have h5 : W6.heap[N0 + 5]? = some (.cells #[.slice none 0 0] 75 (0, 0)) := by rw [hW6]; exact hat _ _ _ (by simp [hN0])
  have hb6 : Below N0 w W6 := by
   rw [hW6, hN0]
   exact ((((((Below.refl _ w).alloc (Nat.le_refl _) _).alloc (by simp) _).alloc (by simp; omega) _).alloc (by simp; omega) _).alloc (by simp; omega) _).alloc (by simp; omega) _
  have hR6 : RK N0 chars fold 0 0 0 [] w W6 := ⟨h2, h3, h4, ⟨_, h5, rfl, .inl ⟨rfl, rfl⟩⟩, h1, ⟨hb6.os, hb6.tape, hb6.output, hb6.size, hb6.block, fun b cells ty fr hc _ => hb6.block b (by rw [hN0]; exact (Array.getElem?_eq_some_iff.1 hc).1)⟩, by omega⟩
  have hw2 : ∀ w2 : World, Below W6.heap.size W6 w2 →
    Calls Try.prog 80 #[.agg #[.int .i64 k, .int .i64 m, .int .i64 lo, .int .i64 hi, .slice ar r.length cr, .slice ak kids.length ck, .int .i64 1, .int .i64 0, .bool true, .bool true, .bool true],
     .func (.func 82) #[] #[.pointer (some ⟨N0 + 3, 0, none⟩), .pointer (some ⟨N0 + 2, 0, none⟩), .pointer (some ⟨N0 + 1, 0, none⟩), .pointer (some ⟨N0 + 4, 0, none⟩), .pointer (some ⟨N0 + 5, 0, none⟩)], .func (.func 86) #[] #[.pointer (some ⟨N0 + 5, 0, none⟩)]] w2
     fun e w' => (∃ b, e = .returned (.bool b)) ∧ Boxed w' (N0 + 2) 47 (.int .i64 (rightT T chars fold)) ∧ Below N0 w w' := by
   intro w2 hb
   have hR2 := hR6.below hb
   have hlen := evs_length (NT.mk k m lo hi r kids) 1 0 true true true
   have V := right_visits w N0 chars fold (2 * (NT.mk k m lo hi r kids).nodes) (by omega)
   have hc := walk_calls V (NT.mk k m lo hi r kids).nodes (Step.top (.mk k m lo hi r kids)) _ w2 ⟨0, 0, 0, []⟩ (Nat.le_refl _) (by have := hb.size; omega) (by rw [hN0]; exact hT0.move (fun b h => by rw [← hN0] at h; exact (hb.block b (by omega)).trans (hb6.block b h))) hR2
    (right_runok chars fold _ _ ⟨0, 0, 0, []⟩ rfl (by simp) (by simp) (by simp) (by simp) (by unfold Step.evs Step.top; simp only; rw [hlen]; simp)) (show (0 : Int) ≤ 1 by omega) (show (1 : Int) + _ < _ by simp only [Step.top]; omega)
   rw [show stepV [.int .i64 k, .int .i64 m, .int .i64 lo, .int .i64 hi, .slice ar r.length cr, .slice ak kids.length ck] (Step.top (.mk k m lo hi r kids)) = .agg #[.int .i64 k, .int .i64 m, .int .i64 lo, .int .i64 hi, .slice ar r.length cr, .slice ak kids.length ck, .int .i64 1, .int .i64 0, .bool true, .bool true, .bool true] from rfl] at hc
   refine hc.mono fun e w' h => ⟨⟨_, h.1⟩, ?_, h.2.1.kp.below⟩
   rw [hTe]
   exact h.2.1.bw
  have HW := Lib.hid hw2
  have hbc := fun w => from_calls k m lo hi ar ak r.length cr kids.length ck w
  have HF := Lib.hid hbc
  have HN := Lib.hid hN0
  rw [← hTe, ← hN0]
  clear hw2 hbc hT0 hsz hat hup h1 h2 h3 h4 h5 hb6 hR6 hTe
  rw [hW6, hN0] at HW
  clear hW6 hN0
  go_enter Try.func49, Try.ntmps49
  go_wp2_with fail
  refine (HF.out _).mono ?_
  rintro e w2 ⟨rfl, hb2⟩
  have HB2 := Lib.hid hb2
  clear hb2
  go_wp2_with fail
  refine (HW.out _ HB2.out).mono ?_
  rintro e w3 ⟨⟨b, rfl⟩, hbx, hbel⟩
  have c0 := hbx.cell
  have HB3 := Lib.hid hbel
  clear hbx hbel
  go_wp2
  go_ret
  exact ⟨rfl, by rw [HN.out]; exact HB3.out⟩
end Go.Proofs.Ytamhkdlcoghdbaa.PCls
/- Out of TDepth (wip/tools/prune2.py): the declarations alone that the texts of the trees name. -/
namespace Go.Proofs.Ytamhkdlcoghdbaa.PCls
open Go.RowKit Go.Shelf Go.Proofs.YtamhkdlcoghdbaaW.PrintWords Go.Proofs.YtamhkdlcoghdbaaW.PrintLast Go.Proofs.YtamhkdlcoghdbaaW.PrintMore
set_option linter.unusedVariables false
set_option linter.unusedSimpArgs false
attribute [local go_sem] Oper.semAt_some
set_option maxHeartbeats 2000000 in
theorem all_calls (k m lo hi : Int) (ar ak : Option Addr) (lr cr lk ck : Nat) (w : World) :
  Calls Try.prog 50 #[.agg #[.int .i64 k, .int .i64 m, .int .i64 lo, .int .i64 hi, .slice ar lr cr, .slice ak lk ck]] w fun e w' => e = .returned (.func (.func 87) #[] #[.pointer (some ⟨w.heap.size, 0, none⟩)]) ∧ w' = w.alloc (.cells #[.int .i64 k, .int .i64 m, .int .i64 lo, .int .i64 hi, .slice ar lr cr, .slice ak lk ck] 44) := by
 go_enter Try.func50, Try.ntmps50
 go_wp2
 go_ret
 exact ⟨rfl, rfl⟩
/-- the deepest of some nodes -/
def deepOf (l : List Step) : Int := l.foldl (fun d s => max d s.deep) 0
theorem deepOf_snoc (l : List Step) (x : Step) : deepOf (l ++ [x]) = max (deepOf l) x.deep := by unfold deepOf; rw [List.foldl_append]; rfl
def depthT (t : NT) : Int := if 2000 < t.nodes then 0 else deepOf (enters (Step.top t).evs)
set_option maxHeartbeats 4000000 in
set_option maxRecDepth 100000 in
theorem depth_calls (t : NT) (cs : List Value) (w : World) (hT : NIn w (· < w.heap.size) t cs) (hn : t.nodes < 4611686018427387903) :
  Calls Try.prog 52 #[.agg cs.toArray] w fun e w' => e = .returned (.int .i64 (depthT t)) ∧ Below w.heap.size w w' := by
 have hT0 := hT
 obtain ⟨T, hTe⟩ : ∃ T, T = t := ⟨_, rfl⟩
 cases hT with
 | mk k m lo hi r kids ar ak cr ck csk _ _ _ _ _ _ _ _ _ =>
  rename_i q1 q2 q3 q4 q5 q6 q7 q8 q9
  clear q1 q2 q3 q4 q5 q6 q7 q8 q9
  obtain ⟨C6, hC6⟩ : ∃ C6 : Array Value, C6 = #[.int .i64 k, .int .i64 m, .int .i64 lo, .int .i64 hi, .slice ar r.length cr, .slice ak kids.length ck] := ⟨_, rfl⟩
  have hb1 : Below w.heap.size w (w.alloc (.cells #[.int .i64 k, .int .i64 m, .int .i64 lo, .int .i64 hi, .slice ar r.length cr, .slice ak kids.length ck] 44)) := (Below.refl _ w).alloc (Nat.le_refl _) _
  have hcount := count_calls (.mk k m lo hi r kids) _ (w.alloc (.cells #[.int .i64 k, .int .i64 m, .int .i64 lo, .int .i64 hi, .slice ar r.length cr, .slice ak kids.length ck] 44)) ((hT0.move (fun b h => hb1.block b h)).mono (fun b h => by simp; omega)) hn
  have hnb := World.alloc_heap_new w (.cells #[.int .i64 k, .int .i64 m, .int .i64 lo, .int .i64 hi, .slice ar r.length cr, .slice ak kids.length ck] 44)
  have HC := Lib.hid hcount
  have HB1 := Lib.hid hb1
  have HT := Lib.hid hT0
  have HN := Lib.hid hn
  have HNB := Lib.hid hnb
  have HTE := Lib.hid hTe
  rw [← hTe]
  clear hcount hb1 hT0 hn hnb hTe hC6 C6
  by_cases hbig : 2000 < (NT.mk k m lo hi r kids).nodes
  ·have HBIG := Lib.hid hbig
   have hc1 : countT (.mk k m lo hi r kids) = 2001 := by unfold countT; omega
   rw [hc1] at HC
   clear hbig hc1
   go_enter Try.func52, Try.ntmps52
   go_wp2_with fail
   refine HC.out.mono ?_
   rintro e w2 ⟨rfl, hb2⟩
   have HB2 := Lib.hid hb2
   clear hb2
   go_wp2
   go_ret
   refine ⟨?_, HB1.out.trans (HB2.out.mono HB1.out.size)⟩
   unfold depthT
   rw [HTE.out, if_pos HBIG.out]
   rfl
  ·have HBIG := Lib.hid hbig
   have hc1 : countT (.mk k m lo hi r kids) = ((NT.mk k m lo hi r kids).nodes : Int) := by unfold countT; omega
   obtain ⟨cn, hcn⟩ : ∃ cn : Int, cn = ((NT.mk k m lo hi r kids).nodes : Int) := ⟨_, rfl⟩
   rw [hc1, ← hcn] at HC
   have hle : cn ≤ 2000 := by omega
   clear hbig hc1 hcn
   refine (callsIn_wide (n := 9)).1 ?_
   refine callsIn_of_wp_marks Try.func52 rfl trivial ?_ rfl
   simp only [Try.ntmps52, List.size_toArray, List.length_cons, List.length_nil, Nat.reduceAdd, Nat.reduceSub, Array.replicate_succ, Array.replicate_zero, List.push_toArray, List.append_toArray, List.nil_append, List.cons_append]
   gi_wp2_with fail
   refine ⟨trivial, ?_⟩
   refine (callsIn_wide.2 HC.out).mono ?_
   rintro e w2 ⟨rfl, hb2⟩
   have HB2 := Lib.hid hb2
   have hnb2 := (hb2.block _ (by simp)).trans HNB.out
   have c0 := cell_heap (i := 0) hnb2 rfl
   have c1 := cell_heap (i := 1) hnb2 rfl
   have c2 := cell_heap (i := 2) hnb2 rfl
   have c3 := cell_heap (i := 3) hnb2 rfl
   have c4 := cell_heap (i := 4) hnb2 rfl
   have c5 := cell_heap (i := 5) hnb2 rfl
   have hl2 : w.heap.size < w2.heap.size := by have := hb2.size; simp at this; omega
   have HL2 := Lib.hid hl2
   clear hb2 hnb2
   gi_wp2_with fail
   refine ⟨trivial, ?_⟩
   refine (callsIn_wide.2 (all_calls k m lo hi ar ak r.length cr kids.length ck _)).mono ?_
   rintro e w3 ⟨rfl, rfl⟩
   gi_wp2_with fail
   have HHN := Lib.hid (Below.heap_alloc (w2.alloc (.cells #[.int .i64 0] 3)) (.cells #[.int .i64 k, .int .i64 m, .int .i64 lo, .int .i64 hi, .slice ar r.length cr, .slice ak kids.length ck] 44) w2.heap.size (by simp))
   have hbd : Below w.heap.size w ((w2.alloc (.cells #[.int .i64 0] 3)).alloc (.cells #[.int .i64 k, .int .i64 m, .int .i64 lo, .int .i64 hi, .slice ar r.length cr, .slice ak kids.length ck] 44)) :=
    (((HB1.out.trans (HB2.out.mono HB1.out.size)).alloc (by omega) _).alloc (by simp; omega) _)
   have HBD := Lib.hid hbd
   have hdb : Boxed ((w2.alloc (.cells #[.int .i64 0] 3)).alloc (.cells #[.int .i64 k, .int .i64 m, .int .i64 lo, .int .i64 hi, .slice ar r.length cr, .slice ak kids.length ck] 44)) w2.heap.size 3 (.int .i64 0) := (Boxed.new w2 3 (.int .i64 0)).alloc _
   have hdn := World.alloc_heap_new (w2.alloc (.cells #[.int .i64 0] 3)) (.cells #[.int .i64 k, .int .i64 m, .int .i64 lo, .int .i64 hi, .slice ar r.length cr, .slice ak kids.length ck] 44)
   rw [World.size_alloc] at hdn
   have HDB := Lib.hid hdb
   have HDN := Lib.hid hdn
   clear hbd hdb hdn c0 c1 c2 c3 c4 c5 HC HNB
   have hszd : ((w2.alloc (.cells #[.int .i64 0] 3)).alloc (.cells #[.int .i64 k, .int .i64 m, .int .i64 lo, .int .i64 hi, .slice ar r.length cr, .slice ak kids.length ck] 44)).heap.size = w2.heap.size + 2 := by simp
   refine range_law (n := 9) (lb := #[.pointer (some ⟨w2.heap.size + 1, 0, none⟩)]) rfl (fun args w => enters_ Try.func87 (by kernel_rfl) rfl args w) (fun _ _ => true) w.heap.size ?hlo ((enters (Step.top (.mk k m lo hi r kids)).evs).take 2000) (EA (w2.heap.size + 4)) ?hEs
    (fun x vs a' W => ∃ (A : Option Addr) (c : Nat), a' = { tmps := #[Value.agg #[.int .i64 k, .int .i64 m, .int .i64 lo, .int .i64 hi, .slice ar r.length cr, .slice ak kids.length ck], .pointer (some ⟨w.heap.size, 0, none⟩), .int .i64 0, .pointer (some ⟨w2.heap.size, 0, none⟩), .int .i64 x.deep, Value.agg #[.int .i64 k, .int .i64 m, .int .i64 lo, .int .i64 hi, .slice ar r.length cr, .slice ak kids.length ck], .int .i64 cn, .bool (decide (2000 < cn)), Value.agg #[.int .i64 k, .int .i64 m, .int .i64 lo, .int .i64 hi, .slice ar r.length cr, .slice ak kids.length ck], .func (.func 87) #[] #[.pointer (some ⟨w2.heap.size + 1, 0, none⟩)], .int .i64 x.deep, .agg #[.int .i64 x.n.k, .int .i64 x.n.m, .int .i64 x.n.lo, .int .i64 x.n.hi, .slice A x.n.r.length c, .slice none 0 0], undef, undef, undef, undef], defers := [] }) ?hQ1
    (fun pre W => Boxed W w2.heap.size 3 (.int .i64 (deepOf pre)) ∧ Below w.heap.size w W) (fun _ _ _ => False) ?hI ?hIx ?h0 ?hseq ?hassign ?hbody ?hdone ?hstop
   case hlo => rw [hszd]; omega
   case hEs => rintro x W vs ⟨A, c, rfl, _⟩; rfl
   case hQ1 => intro x vs a' W W' h _; exact h
   case hI => intro s A B h hb; exact ⟨(hb.block _ (by rw [hszd]; omega)).trans h.1, h.2.trans (hb.mono (by rw [hszd]; omega))⟩
   case hIx => intro c s A B h; exact h.elim
   case h0 => exact ⟨HDB.out, HBD.out⟩
   case hseq =>
    intro W1 hb1 hs1
    rw [hszd] at hs1
    have := all_seq (.mk k m lo hi r kids) _ w.heap.size (w2.heap.size + 1) W1 (fun _ _ => true) (by omega) (HT.out.move (fun b h => (hb1.block b (by rw [hszd]; omega)).trans (HBD.out.block b h))) ((hb1.block _ (by rw [hszd]; omega)).trans HDN.out) HN.out
    rw [hs1] at this
    exact this
   case hassign =>
    rintro l pre x vs W K hpre hI ⟨A, c, rfl, hR⟩ hs hK
    gi_wp2
    exact hK _ _ (KeptBut.refl _ _ _) hI ⟨A, c, rfl⟩
   case hbody =>
    rintro l pre x vs a' W hpre ⟨hbx, hbel⟩ ⟨A, c, rfl⟩ hs
    have cd := hbx.cell
    have fd := hbx.frozen
    have HBX := Lib.hid hbx
    have HBE := Lib.hid hbel
    have HS := Lib.hid hs
    clear hbx hbel hs
    gi_wp2
    refine ⟨rfl, (KeptBut.refl _ _ W).setCell (p := ⟨w2.heap.size, 0, none⟩) (by simp only; omega) (by rw [hszd]; simp only; omega) _, ?_, HBE.out.setCell (p := ⟨w2.heap.size, 0, none⟩) (by simp only; omega) _⟩
    rw [deepOf_snoc]
    exact HBX.out.set _
   case hdone =>
    rintro W ⟨hbx, hbel⟩ hs hK
    have cd := hbx.cell
    have HBE := Lib.hid hbel
    have HKK := Lib.hid hK
    clear hbx hbel hK
    gi_wp2
    refine ⟨by simp, .inl ⟨_, _, rfl, run_takeDeferred HKK.out, ?_⟩⟩
    refine ⟨_, results_tmp rfl _ _ _, ?_, HBE.out.trans (below_putObj _ _ (by rw [hszd]; omega))⟩
    have hlen := enters_length (NT.mk k m lo hi r kids) 1 0 true true true
    have htk : List.take 2000 (enters (Step.top (NT.mk k m lo hi r kids)).evs) = enters (Step.top (NT.mk k m lo hi r kids)).evs := List.take_of_length_le (by unfold Step.evs Step.top; simp only; rw [hlen]; have := HBIG.out; omega)
    rw [htk]
    unfold depthT
    rw [HTE.out, if_neg HBIG.out]
    rfl
   case hstop => intro c pre W _ h; exact h.elim
end Go.Proofs.Ytamhkdlcoghdbaa.PCls
/- Out of TGroups (wip/tools/prune2.py): the declarations alone that the texts of the trees name. -/
namespace Go.Proofs.Ytamhkdlcoghdbaa.PCls
open Go.RowKit Go.Shelf Go.Proofs.YtamhkdlcoghdbaaW.PrintWords Go.Proofs.YtamhkdlcoghdbaaW.PrintLast Go.Proofs.YtamhkdlcoghdbaaW.PrintMore
set_option linter.unusedVariables false
set_option linter.unusedSimpArgs false
attribute [local go_sem] Oper.semAt_some
def groupsT (t : NT) : Int := if 2000 < t.nodes then 0 else (groupsIn (enters (Step.top t).evs) : Int)
theorem groupsIn_snoc (l : List Step) (x : Step) : groupsIn (l ++ [x]) = groupsIn l + (if x.n.k = 7 then 1 else 0) := by
 unfold groupsIn
 rw [List.filter_append, List.length_append]
 by_cases h : x.n.k = 7 <;> simp [h]
theorem groupsIn_le (l : List Step) : groupsIn l ≤ l.length := List.length_filter_le _ _
set_option maxHeartbeats 4000000 in
set_option maxRecDepth 100000 in
theorem groups_calls (t : NT) (cs : List Value) (w : World) (hT : NIn w (· < w.heap.size) t cs) (hn : t.nodes < 4611686018427387903) :
  Calls Try.prog 53 #[.agg cs.toArray] w fun e w' => e = .returned (.int .i64 (groupsT t)) ∧ Below w.heap.size w w' := by
 have hT0 := hT
 obtain ⟨T, hTe⟩ : ∃ T, T = t := ⟨_, rfl⟩
 cases hT with
 | mk k m lo hi r kids ar ak cr ck csk _ _ _ _ _ _ _ _ _ =>
  rename_i q1 q2 q3 q4 q5 q6 q7 q8 q9
  clear q1 q2 q3 q4 q5 q6 q7 q8 q9
  obtain ⟨C6, hC6⟩ : ∃ C6 : Array Value, C6 = #[.int .i64 k, .int .i64 m, .int .i64 lo, .int .i64 hi, .slice ar r.length cr, .slice ak kids.length ck] := ⟨_, rfl⟩
  have hb1 : Below w.heap.size w (w.alloc (.cells #[.int .i64 k, .int .i64 m, .int .i64 lo, .int .i64 hi, .slice ar r.length cr, .slice ak kids.length ck] 44)) := (Below.refl _ w).alloc (Nat.le_refl _) _
  have hcount := count_calls (.mk k m lo hi r kids) _ (w.alloc (.cells #[.int .i64 k, .int .i64 m, .int .i64 lo, .int .i64 hi, .slice ar r.length cr, .slice ak kids.length ck] 44)) ((hT0.move (fun b h => hb1.block b h)).mono (fun b h => by simp; omega)) hn
  have hnb := World.alloc_heap_new w (.cells #[.int .i64 k, .int .i64 m, .int .i64 lo, .int .i64 hi, .slice ar r.length cr, .slice ak kids.length ck] 44)
  have HC := Lib.hid hcount
  have HB1 := Lib.hid hb1
  have HT := Lib.hid hT0
  have HN := Lib.hid hn
  have HNB := Lib.hid hnb
  have HTE := Lib.hid hTe
  rw [← hTe]
  clear hcount hb1 hT0 hn hnb hTe hC6 C6
  by_cases hbig : 2000 < (NT.mk k m lo hi r kids).nodes
  ·have HBIG := Lib.hid hbig
   have hc1 : countT (.mk k m lo hi r kids) = 2001 := by unfold countT; omega
   rw [hc1] at HC
   clear hbig hc1
   go_enter Try.func53, Try.ntmps53
   go_wp2_with fail
   refine HC.out.mono ?_
   rintro e w2 ⟨rfl, hb2⟩
   have HB2 := Lib.hid hb2
   clear hb2
   go_wp2
   go_ret
   refine ⟨?_, HB1.out.trans (HB2.out.mono HB1.out.size)⟩
   unfold groupsT
   rw [HTE.out, if_pos HBIG.out]
   rfl
  ·have HBIG := Lib.hid hbig
   have hc1 : countT (.mk k m lo hi r kids) = ((NT.mk k m lo hi r kids).nodes : Int) := by unfold countT; omega
   obtain ⟨cn, hcn⟩ : ∃ cn : Int, cn = ((NT.mk k m lo hi r kids).nodes : Int) := ⟨_, rfl⟩
   rw [hc1, ← hcn] at HC
   have hle : cn ≤ 2000 := by omega
   clear hbig hc1 hcn
   refine (callsIn_wide (n := 9)).1 ?_
   refine callsIn_of_wp_marks Try.func53 rfl trivial ?_ rfl
   simp only [Try.ntmps53, List.size_toArray, List.length_cons, List.length_nil, Nat.reduceAdd, Nat.reduceSub, Array.replicate_succ, Array.replicate_zero, List.push_toArray, List.append_toArray, List.nil_append, List.cons_append]
   gi_wp2_with fail
   refine ⟨trivial, ?_⟩
   refine (callsIn_wide.2 HC.out).mono ?_
   rintro e w2 ⟨rfl, hb2⟩
   have HB2 := Lib.hid hb2
   have hnb2 := (hb2.block _ (by simp)).trans HNB.out
   have c0 := cell_heap (i := 0) hnb2 rfl
   have c1 := cell_heap (i := 1) hnb2 rfl
   have c2 := cell_heap (i := 2) hnb2 rfl
   have c3 := cell_heap (i := 3) hnb2 rfl
   have c4 := cell_heap (i := 4) hnb2 rfl
   have c5 := cell_heap (i := 5) hnb2 rfl
   have hl2 : w.heap.size < w2.heap.size := by have := hb2.size; simp at this; omega
   have HL2 := Lib.hid hl2
   clear hb2 hnb2
   gi_wp2_with fail
   refine ⟨trivial, ?_⟩
   refine (callsIn_wide.2 (all_calls k m lo hi ar ak r.length cr kids.length ck _)).mono ?_
   rintro e w3 ⟨rfl, rfl⟩
   gi_wp2_with fail
   have HHN := Lib.hid (Below.heap_alloc (w2.alloc (.cells #[.int .i64 0] 3)) (.cells #[.int .i64 k, .int .i64 m, .int .i64 lo, .int .i64 hi, .slice ar r.length cr, .slice ak kids.length ck] 44) w2.heap.size (by simp))
   have hbd : Below w.heap.size w ((w2.alloc (.cells #[.int .i64 0] 3)).alloc (.cells #[.int .i64 k, .int .i64 m, .int .i64 lo, .int .i64 hi, .slice ar r.length cr, .slice ak kids.length ck] 44)) :=
    (((HB1.out.trans (HB2.out.mono HB1.out.size)).alloc (by omega) _).alloc (by simp; omega) _)
   have HBD := Lib.hid hbd
   have hdb : Boxed ((w2.alloc (.cells #[.int .i64 0] 3)).alloc (.cells #[.int .i64 k, .int .i64 m, .int .i64 lo, .int .i64 hi, .slice ar r.length cr, .slice ak kids.length ck] 44)) w2.heap.size 3 (.int .i64 0) := (Boxed.new w2 3 (.int .i64 0)).alloc _
   have hdn := World.alloc_heap_new (w2.alloc (.cells #[.int .i64 0] 3)) (.cells #[.int .i64 k, .int .i64 m, .int .i64 lo, .int .i64 hi, .slice ar r.length cr, .slice ak kids.length ck] 44)
   rw [World.size_alloc] at hdn
   have HDB := Lib.hid hdb
   have HDN := Lib.hid hdn
   clear hbd hdb hdn c0 c1 c2 c3 c4 c5 HC HNB
   have hszd : ((w2.alloc (.cells #[.int .i64 0] 3)).alloc (.cells #[.int .i64 k, .int .i64 m, .int .i64 lo, .int .i64 hi, .slice ar r.length cr, .slice ak kids.length ck] 44)).heap.size = w2.heap.size + 2 := by simp
   refine range_law (n := 9) (lb := #[.pointer (some ⟨w2.heap.size + 1, 0, none⟩)]) rfl (fun args w => enters_ Try.func87 (by kernel_rfl) rfl args w) (fun _ _ => true) w.heap.size ?hlo ((enters (Step.top (.mk k m lo hi r kids)).evs).take 2000) (EA (w2.heap.size + 4)) ?hEs
    (fun x vs a' W => ∃ (A : Option Addr) (c Bx : Nat), w2.heap.size + 4 ≤ Bx ∧ W.heap[Bx]? = some (.cells #[.int .i64 x.n.k, .int .i64 x.n.m, .int .i64 x.n.lo, .int .i64 x.n.hi, .slice A x.n.r.length c, .slice none 0 0] 44 (0, 0)) ∧ a' = { tmps := #[Value.agg #[.int .i64 k, .int .i64 m, .int .i64 lo, .int .i64 hi, .slice ar r.length cr, .slice ak kids.length ck], .pointer (some ⟨w.heap.size, 0, none⟩), .int .i64 0, .pointer (some ⟨w2.heap.size, 0, none⟩), undef, .pointer (some ⟨Bx, 0, none⟩), Value.agg #[.int .i64 k, .int .i64 m, .int .i64 lo, .int .i64 hi, .slice ar r.length cr, .slice ak kids.length ck], .int .i64 cn, .bool (decide (2000 < cn)), Value.agg #[.int .i64 k, .int .i64 m, .int .i64 lo, .int .i64 hi, .slice ar r.length cr, .slice ak kids.length ck], .func (.func 87) #[] #[.pointer (some ⟨w2.heap.size + 1, 0, none⟩)], .int .i64 x.deep, .agg #[.int .i64 x.n.k, .int .i64 x.n.m, .int .i64 x.n.lo, .int .i64 x.n.hi, .slice A x.n.r.length c, .slice none 0 0], undef, undef, undef, undef, undef, undef], defers := [] }) ?hQ1
    (fun pre W => Boxed W w2.heap.size 3 (.int .i64 (groupsIn pre : Int)) ∧ Below w.heap.size w W) (fun _ _ _ => False) ?hI ?hIx ?h0 ?hseq ?hassign ?hbody ?hdone ?hstop
   case hlo => rw [hszd]; omega
   case hEs => rintro x W vs ⟨A, c, rfl, _⟩; rfl
   case hQ1 =>
    rintro x vs a' W W' ⟨A, c, Bx, h1, h2, h3⟩ hk
    exact ⟨A, c, Bx, h1, (hk _ (by rw [hszd]; omega)).trans h2, h3⟩
   case hI => intro s A B h hb; exact ⟨(hb.block _ (by rw [hszd]; omega)).trans h.1, h.2.trans (hb.mono (by rw [hszd]; omega))⟩
   case hIx => intro c s A B h; exact h.elim
   case h0 => exact ⟨HDB.out, HBD.out⟩
   case hseq =>
    intro W1 hb1 hs1
    rw [hszd] at hs1
    have := all_seq (.mk k m lo hi r kids) _ w.heap.size (w2.heap.size + 1) W1 (fun _ _ => true) (by omega) (HT.out.move (fun b h => (hb1.block b (by rw [hszd]; omega)).trans (HBD.out.block b h))) ((hb1.block _ (by rw [hszd]; omega)).trans HDN.out) HN.out
    rw [hs1] at this
    exact this
   case hassign =>
    rintro l pre x vs W K hpre ⟨hbx, hbel⟩ ⟨A, c, rfl, hR⟩ hs hK
    have hb : Below W.heap.size W (W.alloc (.cells #[.int .i64 x.n.k, .int .i64 x.n.m, .int .i64 x.n.lo, .int .i64 x.n.hi, .slice A x.n.r.length c, .slice none 0 0] 44)) := (Below.refl _ W).alloc (Nat.le_refl _) _
    have HK := Lib.hid hK
    have HH := Lib.hid (show _ from HK.out { tmps := #[Value.agg #[.int .i64 k, .int .i64 m, .int .i64 lo, .int .i64 hi, .slice ar r.length cr, .slice ak kids.length ck], .pointer (some ⟨w.heap.size, 0, none⟩), .int .i64 0, .pointer (some ⟨w2.heap.size, 0, none⟩), undef, .pointer (some ⟨W.heap.size, 0, none⟩), Value.agg #[.int .i64 k, .int .i64 m, .int .i64 lo, .int .i64 hi, .slice ar r.length cr, .slice ak kids.length ck], .int .i64 cn, .bool (decide (2000 < cn)), Value.agg #[.int .i64 k, .int .i64 m, .int .i64 lo, .int .i64 hi, .slice ar r.length cr, .slice ak kids.length ck], .func (.func 87) #[] #[.pointer (some ⟨w2.heap.size + 1, 0, none⟩)], .int .i64 x.deep, .agg #[.int .i64 x.n.k, .int .i64 x.n.m, .int .i64 x.n.lo, .int .i64 x.n.hi, .slice A x.n.r.length c, .slice none 0 0], undef, undef, undef, undef, undef, undef], defers := [] } _ (KeptBut.of_below hb) ⟨boxed_keep hbx hb, hbel.trans (hb.mono hbel.size)⟩ ⟨A, c, W.heap.size, by rw [hszd] at hs; omega, World.alloc_heap_new W _, rfl⟩)
    clear hK HK hb hbx hbel hR
    gi_wp2
    exact HH.out
   case hbody =>
    rintro l pre x vs a' W hpre ⟨hbx, hbel⟩ ⟨A, c, Bx, hBx, hxb, rfl⟩ hs
    have hl : pre.length < 2000 := by
     have := hpre.length_le
     simp only [List.length_append, List.length_cons, List.length_nil, List.length_take] at this
     omega
    have hg := groupsIn_le pre
    have hw : wrap64 ((groupsIn pre : Int) + 1) = (groupsIn pre : Int) + 1 := w64_lit _ (by omega) (by omega)
    have cd := hbx.cell
    have fd := hbx.frozen
    have cx := cell_heap (i := 0) hxb rfl
    have HBX := Lib.hid hbx
    have HBE := Lib.hid hbel
    have HS := Lib.hid hs
    clear hbx hbel hs hxb hl hg
    by_cases h7 : x.n.k = 7
    ·rw [h7] at cx
     have H7 := Lib.hid h7
     clear h7
     gi_wp2
     refine ⟨rfl, (KeptBut.refl _ _ W).setCell (p := ⟨w2.heap.size, 0, none⟩) (by simp only; omega) (by rw [hszd]; simp only; omega) _, ?_, HBE.out.setCell (p := ⟨w2.heap.size, 0, none⟩) (by simp only; omega) _⟩
     rw [groupsIn_snoc, if_pos H7.out]
     exact HBX.out.set _
    ·have h72 : (x.n.k == 7) = false := beq_eq_false_iff_ne.2 h7
     have H7 := Lib.hid h7
     clear h7
     gi_wp2
     refine ⟨rfl, KeptBut.refl _ _ W, ?_, HBE.out⟩
     rw [groupsIn_snoc, if_neg H7.out]
     exact HBX.out
   case hdone =>
    rintro W ⟨hbx, hbel⟩ hs hK
    have cd := hbx.cell
    have HBE := Lib.hid hbel
    have HKK := Lib.hid hK
    clear hbx hbel hK
    gi_wp2
    refine ⟨by simp, .inl ⟨_, _, rfl, run_takeDeferred HKK.out, ?_⟩⟩
    refine ⟨_, results_tmp rfl _ _ _, ?_, HBE.out.trans (below_putObj _ _ (by rw [hszd]; omega))⟩
    have hlen := enters_length (NT.mk k m lo hi r kids) 1 0 true true true
    have htk : List.take 2000 (enters (Step.top (NT.mk k m lo hi r kids)).evs) = enters (Step.top (NT.mk k m lo hi r kids)).evs := List.take_of_length_le (by unfold Step.evs Step.top; simp only; rw [hlen]; have := HBIG.out; omega)
    rw [htk]
    unfold groupsT
    rw [HTE.out, if_neg HBIG.out]
    rfl
   case hstop => intro c pre W _ h; exact h.elim
end Go.Proofs.Ytamhkdlcoghdbaa.PCls
