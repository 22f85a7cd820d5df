/- Put together (wip/tools/pack.py): TRight2, TLaw, TRight, TAll. -/
import Derived.Test.YtamhkdlcoghdbaaDoorKTRight1
/- Out of TRight2 (wip/tools/prune2.py): the declarations alone that the texts of the trees name. -/
namespace Go.Proofs.YtamhkdlcoghdbaaDoor.PCls
open Go.RowKit Go.Proofs.YtamhkdlcoghdbaaDoorW.PrintWords Go.Proofs.YtamhkdlcoghdbaaDoorW.PrintLast Go.Proofs.YtamhkdlcoghdbaaDoorW.PrintMore
set_option linter.unusedVariables false
set_option linter.unusedSimpArgs false
theorem info3' : (Tryd.prog.info? 3).map (fun i => (i.zero, i.size, i.bytes)) = some (some (.int .i64 0), 1, 8) := by kernel_rfl
theorem RK.appended {N0 : Nat} {chars fold : Bool} {wrong many groups : Int} {ended ended' : List Int} {w A B : World} {v v' : Value} {tmp : Obj} (h : RK N0 chars fold wrong many groups ended w A)
  (hv : Boxed A (N0 + 5) 59 v) (ho : A.ownsRow (N0 + 6) 3 1 v ended.length (ended.map (Value.int .i64))) (hg : (A.alloc tmp).grownBy B v.ownBlock) (ho' : B.ownsRow (N0 + 6) 3 1 v' ended'.length (ended'.map (Value.int .i64))) :
  RK N0 chars fold wrong many groups ended' w (B.setCell ⟨N0 + 5, 0, none⟩ v') ∧ Boxed B (N0 + 5) 59 v := by
 have hs := h.sz
 have hne : ∀ b, b < N0 + 6 → some b ≠ v.ownBlock := by
  intro b hb e
  have := ho.lt b e.symm
  omega
 have hb : ∀ b, b < N0 + 6 → B.heap[b]? = A.heap[b]? := fun b hb' => (hg.block b (by simp; omega) (hne b hb')).trans (Below.heap_alloc _ _ _ (by omega))
 have hsz : A.heap.size ≤ B.heap.size := by have := hg.size; simp at this; omega
 have hk : KeepsT N0 A B := ⟨hg.os, hg.tape, hg.output, hsz, fun b hb' => hb b (by omega), fun b cells t fr hc ht => by
  have hlt := (Array.getElem?_eq_some_iff.1 hc).1
  refine (hg.block b (by simp; omega) (fun e => ?_)).trans (Below.heap_alloc _ _ _ hlt)
  obtain ⟨cs, hcs⟩ := own_typed ho b e.symm
  rw [hc] at hcs
  cases hcs
  rcases ht with h | h <;> exact absurd h (by decide)⟩
 have hbox : Boxed B (N0 + 5) 59 v := (hb _ (by omega)).trans hv
 exact ⟨⟨boxed_other ((hb _ (by omega)).trans h.bw) (by omega), boxed_other ((hb _ (by omega)).trans h.bm) (by omega), boxed_other ((hb _ (by omega)).trans h.bg) (by omega), ⟨v', hbox.set v', own_other ho' (by omega)⟩,
  (Below.heap_setCell _ _ _ _ (by simp only; omega)).trans ((hb _ (by omega)).trans h.bo), (h.kp.trans hk).setCell (p := ⟨N0 + 5, 0, none⟩) (by simp only; omega) hbox (by decide) _, by simp [World.setCell]; omega⟩, hbox⟩
set_option maxHeartbeats 4000000 in
set_option maxRecDepth 100000 in
theorem right_leave (N0 : Nat) (chars fold : Bool) (k m lo hi d a : Int) (ar ak : Option Addr) (lr cr lk ck : Nat) (f l b : Bool) (wrong many groups : Int) (ended : List Int) (w0 w : World)
  (hI : RK N0 chars fold wrong many groups ended w0 w) (hel : ended.length < 1099511627776) :
  Calls Tryd.prog 36 #[.agg #[.int .i64 k, .int .i64 m, .int .i64 lo, .int .i64 hi, .slice ar lr cr, .slice ak lk ck, .int .i64 d, .int .i64 a, .bool f, .bool l, .bool b], .pointer (some ⟨N0 + 5, 0, none⟩)] w
   fun e w' => e = .returned (.tuple #[]) ∧ RK N0 chars fold wrong many groups (if k = 7 then ended ++ [m] else ended) w0 w' := by
 have HI := Lib.hid hI
 have HE := Lib.hid hel
 clear hI hel
 by_cases g7 : k = 7
 ·subst g7
  rw [if_pos rfl]
  obtain ⟨v, hv, ho⟩ := HI.out.be
  have HV := Lib.hid hv
  have HO := Lib.hid ho
  have ce := hv.cell
  have fe := hv.frozen
  have le := hv.lt
  obtain ⟨i0, hi0, hz0, hz1, hz2⟩ := info_parts info3'
  have HH := Lib.hid (And.intro hi0 (And.intro hz0 (And.intro hz1 hz2)))
  obtain ⟨va, vn, vc, rfl⟩ : ∃ va vn vc, v = .slice va vn vc := by rcases ho.2 with ⟨h, _⟩ | ⟨g, cap, cur, h, _⟩ <;> exact ⟨_, _, _, h⟩
  clear hv ho hi0 hz0 hz1 hz2
  go_enter Tryd.func36, Tryd.ntmps36
  go_wp2_with (at_builtin; refine wpList_append_own _ rfl _ _ 59 rfl (N0 + 6) 3 i0 _ 1 8 Tryd.underlying59 HH.out.1 HH.out.2.1 HH.out.2.2.1 HH.out.2.2.2 rfl (by decide) _ _ _ rfl ((HO.out.alloc _).alloc _) ⟨w.heap.size + 1, 0, none⟩ 1 1 [.int .i64 m] rfl ?qc1 ?qc2 ?qc3 ?qc4 ?qc5 ?qc6 ?_)
  case qc1 => rfl
  case qc2 =>
   intro j u hj
   match j, hj with
   | 0, hj =>
    simp at hj
    subst hj
    have := cell_heap (i := 0) (World.alloc_heap_new (w.alloc (.cells #[.int .i64 7, .int .i64 m, .int .i64 lo, .int .i64 hi, .slice ar lr cr, .slice ak lk ck, .int .i64 d, .int .i64 a, .bool f, .bool l, .bool b] 64)) (.cells #[.int .i64 m] 3)) rfl
    rw [World.size_alloc] at this
    exact this
  case qc3 => intro u hu; simp at hu; subst hu; rfl
  case qc4 => unfold maxLen; have := HE.out; omega
  case qc5 => have := HE.out; omega
  case qc6 => have := HI.out.sz; simp; omega
  intro v' w1 hown hgrow hnil
  obtain ⟨g', cap', rfl⟩ := ownsRow_succ hown
  obtain ⟨hR, hbx⟩ := RK.appended (ended' := ended ++ [m]) (HI.out.alloc (.cells #[.int .i64 7, .int .i64 m, .int .i64 lo, .int .i64 hi, .slice ar lr cr, .slice ak lk ck, .int .i64 d, .int .i64 a, .bool f, .bool l, .bool b] 64)) (HV.out.alloc _) (HO.out.alloc _) hgrow (by simpa using hown)
  have HRR := Lib.hid hR
  have c2 := hbx.cell
  have f2 := hbx.frozen
  clear hR hbx hown hgrow hnil
  go_wp2
  go_end0
  exact ⟨rfl, by simpa using HRR.out⟩
 ·have g72 : (k == 7) = false := beq_eq_false_iff_ne.2 g7
  rw [if_neg g7]
  go_enter Tryd.func36, Tryd.ntmps36
  go_wp2
  go_end0
  exact ⟨rfl, HI.out.alloc _⟩
end Go.Proofs.YtamhkdlcoghdbaaDoor.PCls
/- Out of TLaw (wip/tools/prune2.py): the declarations alone that the texts of the trees name. -/
namespace Go.Proofs.YtamhkdlcoghdbaaDoor.PCls
open Go.RowKit
set_option linter.unusedVariables false
set_option linter.unusedSimpArgs false
def groupsIn (l : List Step) : Nat := (l.filter fun s => decide (s.n.k = 7)).length
theorem visR_ok (chars fold : Bool) (st : SR) (s : Step) (h : (visR chars fold st s).1 = true) :
  (visR chars fold st s).2 = ⟨st.wrong, st.many + 1, if s.n.k = 7 then st.groups + 1 else st.groups, st.ended⟩ ∧ st.wrong = 0 ∧ st.many < 2000 ∧ s.deep ≤ 40 ∧ stands s = true ∧ formed s.n chars fold = true ∧
   (s.n.k = 7 → s.n.m = st.groups + 1 ∧ st.groups + 1 ≤ 30) ∧ (s.n.k = 8 → st.ended.contains s.n.m = true) := by
 unfold visR at h ⊢
 by_cases h1 : 2000 ≤ st.many
 ·rw [if_pos h1] at h; simp at h
 rw [if_neg h1] at h ⊢
 by_cases h2 : 40 < s.deep
 ·rw [if_pos h2] at h; simp at h
 rw [if_neg h2] at h ⊢
 by_cases h3 : (!stands s || !formed s.n chars fold) = true
 ·rw [if_pos h3] at h; simp at h
 rw [if_neg h3] at h ⊢
 simp only [Bool.or_eq_true, Bool.not_eq_true', not_or, Bool.not_eq_false] at h3
 by_cases h4 : s.n.k = 7
 ·rw [if_pos h4] at h ⊢
  by_cases h5 : s.n.m ≠ st.groups + 1
  ·rw [if_pos h5] at h; simp at h
  rw [if_neg h5] at h ⊢
  by_cases h6 : 30 < st.groups + 1
  ·rw [if_pos h6] at h; simp at h
  rw [if_neg h6] at h ⊢
  simp only [decide_eq_true_eq] at h
  refine ⟨by rw [if_pos h4], h, by omega, by omega, h3.1, h3.2, fun _ => ⟨by omega, by omega⟩, fun h8 => ?_⟩
  omega
 ·rw [if_neg h4] at h ⊢
  by_cases h5 : s.n.k = 8 ∧ st.ended.contains s.n.m = false
  ·rw [if_pos h5] at h; simp at h
  rw [if_neg h5] at h ⊢
  simp only [decide_eq_true_eq] at h
  refine ⟨by rw [if_neg h4], h, by omega, by omega, h3.1, h3.2, fun h7 => absurd h7 h4, fun h8 => ?_⟩
  cases hc : st.ended.contains s.n.m
  ·exact absurd ⟨h8, hc⟩ h5
  ·rfl
theorem lvR_same (st : SR) (s : Step) : (lvR st s).wrong = st.wrong ∧ (lvR st s).many = st.many ∧ (lvR st s).groups = st.groups := by
 unfold lvR
 split <;> exact ⟨rfl, rfl, rfl⟩
end Go.Proofs.YtamhkdlcoghdbaaDoor.PCls
/- Out of TRight (wip/tools/prune2.py): the declarations alone that the texts of the trees name. -/
namespace Go.Proofs.YtamhkdlcoghdbaaDoor.PCls
open Go.RowKit Go.Proofs.YtamhkdlcoghdbaaDoorW.PrintWords Go.Proofs.YtamhkdlcoghdbaaDoorW.PrintLast Go.Proofs.YtamhkdlcoghdbaaDoorW.PrintMore
set_option linter.unusedVariables false
set_option linter.unusedSimpArgs false
theorem evs_length : ∀ (t : NT) (d a : Int) (f l b : Bool), (evs t d a f l b).length = 2 * t.nodes := by
 have hL : ∀ l : List NT, (∀ t, t ∈ l → ∀ d a f l b, (evs t d a f l b).length = 2 * t.nodes) → ∀ d a n i b, (evsL l d a n i b).length = 2 * NT.nodesL l := by
  intro l
  induction l with
  | nil => intro _ d a n i b; rfl
  | cons x l ih =>
   intro h d a n i b
   simp only [evsL, List.length_append, NT.nodesL]
   rw [h x List.mem_cons_self, ih (fun t ht => h t (List.mem_cons_of_mem _ ht))]
   omega
 refine fun t => NT.ind (P := fun t => ∀ (d a : Int) (f l b : Bool), (evs t d a f l b).length = 2 * t.nodes) (fun k m lo hi r kids ih d a f l b => ?_) t
 simp only [evs, List.length_cons, List.length_append, NT.nodes, hL kids ih, List.length_nil]
 omega
theorem right_runok (chars fold : Bool) (L : Nat) : ∀ (l : List Ev) (st : SR), st.wrong = 0 → 0 ≤ st.many → st.many ≤ 2000 → 0 ≤ st.groups → st.groups ≤ st.many → st.ended.length + l.length ≤ L →
  runOk (visR chars fold) lvR (fun st _ => st.wrong = 0 ∧ (0 ≤ st.many ∧ st.many ≤ 2000) ∧ (0 ≤ st.groups ∧ st.groups ≤ 2000) ∧ st.ended.length ≤ L) (fun st _ => st.ended.length ≤ L) l st := by
 intro l
 induction l with
 | nil => intro st _ _ _ _ _ _; trivial
 | cons x l ih =>
  intro st h0 h1 h2 h3 h4 h5
  rw [List.length_cons] at h5
  cases x with
  | enter t =>
   refine ⟨⟨h0, ⟨h1, h2⟩, ⟨h3, by omega⟩, by omega⟩, fun h => ?_⟩
   obtain ⟨e, _, g1, g2, g3, g4, g5, g6⟩ := visR_ok chars fold st t h
   rw [e]
   refine ih _ h0 (by simp only; omega) (by simp only; omega) ?_ ?_ (by simp only; omega)
   ·simp only; split <;> omega
   ·simp only; split <;> omega
  | leave t =>
   refine ⟨by omega, ih _ ?_ ?_ ?_ ?_ ?_ ?_⟩
   ·rw [(lvR_same st t).1]; exact h0
   ·rw [(lvR_same st t).2.1]; exact h1
   ·rw [(lvR_same st t).2.1]; exact h2
   ·rw [(lvR_same st t).2.2]; exact h3
   ·rw [(lvR_same st t).2.2, (lvR_same st t).2.1]; exact h4
   ·unfold lvR
    split
    ·simp only [List.length_append, List.length_cons, List.length_nil]; omega
    ·omega
theorem RK.start {N0 : Nat} {chars fold : Bool} {wrong many groups : Int} {ended : List Int} {w0 w A : World} (h : RK N0 chars fold wrong many groups ended w0 A) (hn : N0 ≤ A.heap.size) : RK N0 chars fold wrong many groups ended A A :=
 ⟨h.bw, h.bm, h.bg, h.be, h.bo, KeepsT.of_below (Below.refl _ A) hn, h.sz⟩
theorem right_visits (w0 : World) (N0 : Nat) (chars fold : Bool) (L : Nat) (hL : L < 1099511627776) :
  Visit (visR chars fold) lvR (fun st _ => st.wrong = 0 ∧ (0 ≤ st.many ∧ st.many ≤ 2000) ∧ (0 ≤ st.groups ∧ st.groups ≤ 2000) ∧ st.ended.length ≤ L) (fun st _ => st.ended.length ≤ L)
   (fun st W => RK N0 chars fold st.wrong st.many st.groups st.ended w0 W) (· < N0) (KeepsT N0) N0 32 36
   #[.pointer (some ⟨N0 + 3, 0, none⟩), .pointer (some ⟨N0 + 2, 0, none⟩), .pointer (some ⟨N0 + 1, 0, none⟩), .pointer (some ⟨N0 + 4, 0, none⟩), .pointer (some ⟨N0 + 5, 0, none⟩)] #[.pointer (some ⟨N0 + 5, 0, none⟩)] where
 trans := KeepsT.trans
 below := fun h hn => KeepsT.of_below h hn
 size := fun h => h.size
 tree := fun h _ b hb => h.low b hb
 box := fun h _ hc ht => h.box _ _ _ _ hc ht
 inv := fun h hb => h.below hb
 low := fun b hb => hb
 ev := fun args w => enters_ Tryd.func32 (by kernel_rfl) rfl args w
 el := fun args w => enters_ Tryd.func36 (by kernel_rfl) rfl args w
 hv := fun st s cs w hw hT hI hok => by
  obtain ⟨n, d, a, f, l, b⟩ := s
  obtain ⟨wrong, many, groups, ended⟩ := st
  have hT0 := hT
  cases hT with
  | mk k m lo hi r kids ar ak cr ck csk _ _ _ _ _ _ _ _ _ =>
   rw [show #[stepV [.int .i64 k, .int .i64 m, .int .i64 lo, .int .i64 hi, .slice ar r.length cr, .slice ak kids.length ck] ⟨.mk k m lo hi r kids, d, a, f, l, b⟩] ++ #[Value.pointer (some ⟨N0 + 3, 0, none⟩), .pointer (some ⟨N0 + 2, 0, none⟩), .pointer (some ⟨N0 + 1, 0, none⟩), .pointer (some ⟨N0 + 4, 0, none⟩), .pointer (some ⟨N0 + 5, 0, none⟩)] =
    #[.agg #[.int .i64 k, .int .i64 m, .int .i64 lo, .int .i64 hi, .slice ar r.length cr, .slice ak kids.length ck, .int .i64 d, .int .i64 a, .bool f, .bool l, .bool b], .pointer (some ⟨N0 + 3, 0, none⟩), .pointer (some ⟨N0 + 2, 0, none⟩), .pointer (some ⟨N0 + 1, 0, none⟩), .pointer (some ⟨N0 + 4, 0, none⟩), .pointer (some ⟨N0 + 5, 0, none⟩)] from rfl]
   have hI' : RK N0 chars fold wrong many groups ended w0 w := hI
   refine (right_visit N0 chars fold k m lo hi d a r kids ar ak cr ck f l b wrong many groups ended w w hT0 (RK.start (w := w) hI' hw) hok.1 hok.2.1 hok.2.2.1 (Nat.lt_of_le_of_lt hok.2.2.2 hL)).mono fun e w' h => ?_
   exact ⟨h.1, ⟨h.2.bw, h.2.bm, h.2.bg, h.2.be, h.2.bo, hI'.kp.trans h.2.kp, h.2.sz⟩, fun _ => h.2.kp⟩
 hl := fun st s cs w hw hT hI hok => by
  obtain ⟨n, d, a, f, l, b⟩ := s
  obtain ⟨wrong, many, groups, ended⟩ := st
  cases hT with
  | mk k m lo hi r kids ar ak cr ck csk _ _ _ _ _ _ _ _ _ =>
   rw [show #[stepV [.int .i64 k, .int .i64 m, .int .i64 lo, .int .i64 hi, .slice ar r.length cr, .slice ak kids.length ck] ⟨.mk k m lo hi r kids, d, a, f, l, b⟩] ++ #[Value.pointer (some ⟨N0 + 5, 0, none⟩)] = #[.agg #[.int .i64 k, .int .i64 m, .int .i64 lo, .int .i64 hi, .slice ar r.length cr, .slice ak kids.length ck, .int .i64 d, .int .i64 a, .bool f, .bool l, .bool b], .pointer (some ⟨N0 + 5, 0, none⟩)] from rfl]
   have hI' : RK N0 chars fold wrong many groups ended w0 w := hI
   refine (right_leave N0 chars fold k m lo hi d a ar ak r.length cr kids.length ck f l b wrong many groups ended w w (RK.start (w := w) hI' hw) (Nat.lt_of_le_of_lt hok hL)).mono fun e w' h => ?_
   have e : lvR ⟨wrong, many, groups, ended⟩ ⟨.mk k m lo hi r kids, d, a, f, l, b⟩ = ⟨wrong, many, groups, if k = 7 then ended ++ [m] else ended⟩ := by
    show (if k = 7 then (⟨wrong, many, groups, ended ++ [m]⟩ : SR) else ⟨wrong, many, groups, ended⟩) = _
    by_cases h7 : k = 7
    ·rw [if_pos h7, if_pos h7]
    ·rw [if_neg h7, if_neg h7]
   rw [e]
   exact ⟨h.1, ⟨h.2.bw, h.2.bm, h.2.bg, h.2.be, h.2.bo, hI'.kp.trans h.2.kp, h.2.sz⟩, h.2.kp⟩
set_option maxHeartbeats 4000000 in
set_option maxRecDepth 100000 in
theorem right_calls (t : NT) (cs : List Value) (chars fold : Bool) (w : World) (hT : NIn w (· < w.heap.size) t cs) (hn : t.nodes < 274877906944) :
  Calls Tryd.prog 11 #[.agg cs.toArray, .agg #[.bool chars, .bool fold]] w fun e w' => e = .returned (.int .i64 (rightT t chars fold)) ∧ Below w.heap.size w w' := by
 have hT0 := hT
 obtain ⟨T, hTe⟩ : ∃ T, T = t := ⟨_, rfl⟩
 cases hT with
 | mk k m lo hi r kids ar ak cr ck csk _ _ _ _ _ _ _ _ _ =>
  rename_i q1 q2 q3 q4 q5 q6 q7 q8 q9
  clear q1 q2 q3 q4 q5 q6 q7 q8 q9
  obtain ⟨N0, hN0⟩ : ∃ N0, N0 = w.heap.size := ⟨_, rfl⟩
  obtain ⟨W6, hW6⟩ : ∃ W6, W6 = (((((w.alloc (.cells #[.int .i64 k, .int .i64 m, .int .i64 lo, .int .i64 hi, .slice ar r.length cr, .slice ak kids.length ck] 28)).alloc (.cells #[.bool chars, .bool fold] 23)).alloc (.cells #[.int .i64 0] 29)).alloc (.cells #[.int .i64 0] 3)).alloc (.cells #[.int .i64 0] 3)).alloc (.cells #[.slice none 0 0] 59) := ⟨_, rfl⟩
  have hsz : W6.heap.size = N0 + 6 := by rw [hW6, hN0]; simp
  have hat : ∀ (A : World) (o : Obj) (b : Nat), b = A.heap.size → (A.alloc o).heap[b]? = some o := fun A o b h => by rw [h]; exact World.alloc_heap_new A o
  have hup : ∀ (A : World) (o x : Obj) (b : Nat), A.heap[b]? = some x → (A.alloc o).heap[b]? = some x := fun A o x b h => (Below.heap_alloc A o b (Array.getElem?_eq_some_iff.1 h).1).trans h
  have h1 : W6.heap[N0 + 1]? = some (.cells #[.bool chars, .bool fold] 23 (0, 0)) := by rw [hW6]; exact hup _ _ _ _ (hup _ _ _ _ (hup _ _ _ _ (hup _ _ _ _ (hat _ _ _ (by simp [hN0])))))
  have h2 : W6.heap[N0 + 2]? = some (.cells #[.int .i64 0] 29 (0, 0)) := by rw [hW6]; exact hup _ _ _ _ (hup _ _ _ _ (hup _ _ _ _ (hat _ _ _ (by simp [hN0]))))
  have h3 : W6.heap[N0 + 3]? = some (.cells #[.int .i64 0] 3 (0, 0)) := by rw [hW6]; exact hup _ _ _ _ (hup _ _ _ _ (hat _ _ _ (by simp [hN0])))
  have h4 : W6.heap[N0 + 4]? = some (.cells #[.int .i64 0] 3 (0, 0)) := by rw [hW6]; exact hup _ _ _ _ (hat _ _ _ (by simp [hN0]))
  have h5 : W6.heap[N0 + 5]? = some (.cells #[.slice none 0 0] 59 (0, 0)) := by rw [hW6]; exact hat _ _ _ (by simp [hN0])
  have hb6 : Below N0 w W6 := by
   rw [hW6, hN0]
   exact ((((((Below.refl _ w).alloc (Nat.le_refl _) _).alloc (by simp) _).alloc (by simp; omega) _).alloc (by simp; omega) _).alloc (by simp; omega) _).alloc (by simp; omega) _
  have hR6 : RK N0 chars fold 0 0 0 [] w W6 := ⟨h2, h3, h4, ⟨_, h5, rfl, .inl ⟨rfl, rfl⟩⟩, h1, ⟨hb6.os, hb6.tape, hb6.output, hb6.size, hb6.block, fun b cells ty fr hc _ => hb6.block b (by rw [hN0]; exact (Array.getElem?_eq_some_iff.1 hc).1)⟩, by omega⟩
  have hw2 : ∀ w2 : World, Below W6.heap.size W6 w2 →
    Calls Tryd.prog 30 #[.agg #[.int .i64 k, .int .i64 m, .int .i64 lo, .int .i64 hi, .slice ar r.length cr, .slice ak kids.length ck, .int .i64 1, .int .i64 0, .bool true, .bool true, .bool true],
     .func (.func 32) #[] #[.pointer (some ⟨N0 + 3, 0, none⟩), .pointer (some ⟨N0 + 2, 0, none⟩), .pointer (some ⟨N0 + 1, 0, none⟩), .pointer (some ⟨N0 + 4, 0, none⟩), .pointer (some ⟨N0 + 5, 0, none⟩)], .func (.func 36) #[] #[.pointer (some ⟨N0 + 5, 0, none⟩)]] w2
     fun e w' => (∃ b, e = .returned (.bool b)) ∧ Boxed w' (N0 + 2) 29 (.int .i64 (rightT T chars fold)) ∧ Below N0 w w' := by
   intro w2 hb
   have hR2 := hR6.below hb
   have hlen := evs_length (NT.mk k m lo hi r kids) 1 0 true true true
   have V := right_visits w N0 chars fold (2 * (NT.mk k m lo hi r kids).nodes) (by omega)
   have hc := walk_calls V (NT.mk k m lo hi r kids).nodes (Step.top (.mk k m lo hi r kids)) _ w2 ⟨0, 0, 0, []⟩ (Nat.le_refl _) (by have := hb.size; omega) (by rw [hN0]; exact hT0.move (fun b h => by rw [← hN0] at h; exact (hb.block b (by omega)).trans (hb6.block b h))) hR2
    (right_runok chars fold _ _ ⟨0, 0, 0, []⟩ rfl (by simp) (by simp) (by simp) (by simp) (by unfold Step.evs Step.top; simp only; rw [hlen]; simp)) (show (0 : Int) ≤ 1 by omega) (show (1 : Int) + _ < _ by simp only [Step.top]; omega)
   rw [show stepV [.int .i64 k, .int .i64 m, .int .i64 lo, .int .i64 hi, .slice ar r.length cr, .slice ak kids.length ck] (Step.top (.mk k m lo hi r kids)) = .agg #[.int .i64 k, .int .i64 m, .int .i64 lo, .int .i64 hi, .slice ar r.length cr, .slice ak kids.length ck, .int .i64 1, .int .i64 0, .bool true, .bool true, .bool true] from rfl] at hc
   refine hc.mono fun e w' h => ⟨⟨_, h.1⟩, ?_, h.2.1.kp.below⟩
   rw [hTe]
   exact h.2.1.bw
  have HW := Lib.hid hw2
  have hbc := fun w => from_calls k m lo hi ar ak r.length cr kids.length ck w
  have HF := Lib.hid hbc
  have HN := Lib.hid hN0
  rw [← hTe, ← hN0]
  clear hw2 hbc hT0 hsz hat hup h1 h2 h3 h4 h5 hb6 hR6 hTe
  rw [hW6, hN0] at HW
  clear hW6 hN0
  go_enter Tryd.func11, Tryd.ntmps11
  go_wp2_with fail
  refine (HF.out _).mono ?_
  rintro e w2 ⟨rfl, hb2⟩
  have HB2 := Lib.hid hb2
  clear hb2
  go_wp2_with fail
  refine (HW.out _ HB2.out).mono ?_
  rintro e w3 ⟨⟨b, rfl⟩, hbx, hbel⟩
  have c0 := hbx.cell
  have HB3 := Lib.hid hbel
  clear hbx hbel
  go_wp2
  go_ret
  exact ⟨rfl, by rw [HN.out]; exact HB3.out⟩
end Go.Proofs.YtamhkdlcoghdbaaDoor.PCls
/- Out of TAll (wip/tools/prune2.py): the declarations alone that the texts of the trees name. -/
namespace Go.Proofs.YtamhkdlcoghdbaaDoor.PCls
open Go.RowKit Go.Shelf Go.Proofs.YtamhkdlcoghdbaaDoorW.PrintWords Go.Proofs.YtamhkdlcoghdbaaDoorW.PrintLast Go.Proofs.YtamhkdlcoghdbaaDoorW.PrintMore
set_option linter.unusedVariables false
set_option linter.unusedSimpArgs false
attribute [local go_sem] Oper.semAt_some
/-- what has come, and whether it was said that no more is wanted -/
structure SA where
 pre : List Step
 out : Bool
def visA (go : List Step → Step → Bool) (st : SA) (s : Step) : Bool × SA := if st.pre.length = 2000 then (false, st) else (go st.pre s, ⟨st.pre ++ [s], !go st.pre s⟩)
theorem all_ok (go : List Step → Step → Bool) (xs : List Step) : ∀ (l : List Ev) (pre : List Step), pre.length ≤ 2000 → xs = pre ++ (enters l).take (2000 - pre.length) →
  runOk (visA go) lvN (fun st s => st.out = false ∧ st.pre.length ≤ 2000 ∧ (st.pre.length ≠ 2000 → st.pre ++ [s] <+: xs)) (fun _ _ => True) l ⟨pre, false⟩ ∧
   (((run (visA go) lvN l ⟨pre, false⟩).2.out = false ∧ (run (visA go) lvN l ⟨pre, false⟩).2.pre = xs) ∨ ((run (visA go) lvN l ⟨pre, false⟩).2.out = true ∧ (run (visA go) lvN l ⟨pre, false⟩).2.pre <+: xs)) := by
 intro l
 induction l with
 | nil => intro pre _ hx; exact ⟨trivial, .inl ⟨rfl, by rw [hx]; simp [run, enters]⟩⟩
 | cons x l ih =>
  intro pre hn hx
  cases x with
  | leave t => exact ⟨⟨trivial, (ih pre hn hx).1⟩, (ih pre hn hx).2⟩
  | enter t =>
   by_cases h : pre.length = 2000
   ·have hv : visA go ⟨pre, false⟩ t = (false, ⟨pre, false⟩) := by unfold visA; rw [if_pos h]
    refine ⟨⟨⟨rfl, hn, fun g => absurd h g⟩, fun g => by rw [hv] at g; simp at g⟩, .inl ?_⟩
    rw [run_stop (by rw [hv]), hv]
    exact ⟨rfl, by rw [hx, h]; simp⟩
   ·have hx2 : xs = (pre ++ [t]) ++ (enters l).take (2000 - (pre ++ [t]).length) := by
     rw [hx, List.length_append, List.length_singleton]
     obtain ⟨d, hd⟩ : ∃ d, 2000 - pre.length = d + 1 := ⟨2000 - pre.length - 1, by omega⟩
     rw [hd, show 2000 - (pre.length + 1) = d by omega]
     simp [enters]
    have hpre : pre ++ [t] <+: xs := ⟨_, hx2.symm⟩
    have hv : visA go ⟨pre, false⟩ t = (go pre t, ⟨pre ++ [t], !go pre t⟩) := by unfold visA; rw [if_neg h]
    cases hg : go pre t
    ·rw [hg] at hv
     refine ⟨⟨⟨rfl, hn, fun _ => hpre⟩, fun g => by rw [hv] at g; simp at g⟩, .inr ?_⟩
     rw [run_stop (by rw [hv]), hv]
     exact ⟨rfl, hpre⟩
    ·rw [hg] at hv
     have := ih (pre ++ [t]) (by simp; omega) hx2
     refine ⟨⟨⟨rfl, hn, fun _ => hpre⟩, fun _ => by rw [hv]; exact this.1⟩, ?_⟩
     rw [run_enter (by rw [hv]), hv]
     exact this.2
theorem boxed_other2 {A : World} {b c : Nat} {t : TypeId} {v u : Value} (h : Boxed A b t v) (hne : b ≠ c) : Boxed (A.setCell ⟨c, 0, none⟩ u) b t v := (Below.heap_setCell A ⟨c, 0, none⟩ u b hne).trans h
/-- what a round is handed of a node: how deep, and the node without its kids, its ranges in memory of their own -/
def EA (B1 : Nat) (s : Step) (W : World) (vs : Array Value) : Prop := ∃ (A : Option Addr) (c : Nat), vs = #[.int .i64 s.deep, .agg #[.int .i64 s.n.k, .int .i64 s.n.m, .int .i64 s.n.lo, .int .i64 s.n.hi, .slice A s.n.r.length c, .slice none 0 0]] ∧ Kd.R k64 50 W B1 (fun _ => True) (.slice A s.n.r.length c) s.n.r
set_option maxHeartbeats 4000000 in
set_option maxRecDepth 100000 in
theorem all_visit (lo B1 l : Nat) (J Jx : List Step → World → Prop) (W1 : World) (hB1 : B1 = W1.heap.size) (hlo : lo ≤ B1) (go : List Step → Step → Bool) (xs : List Step)
  (hJ : ∀ s A B, J s A → Below B1 A B → J s B)
  (hY : ∀ (m : Nat) (pre : List Step) (x : Step) (vs : Array Value) (A : World), pre ++ [x] <+: xs → J pre A → EA B1 x A vs → YieldAt Fence.wide m Tryd.prog l vs A fun e B =>
   e = .returned (.bool (go pre x)) ∧ (go pre x = true → J (pre ++ [x]) B ∧ KeptBut lo B1 A B) ∧ (go pre x = false → Jx (pre ++ [x]) B ∧ A.heap.size ≤ B.heap.size))
  (k m lo_ hi d a : Int) (r : List S64) (kids : List NT) (ar ak : Option Addr) (cr ck : Nat) (f la b : Bool) (pre : List Step) (w : World)
  (hr : Kd.C k64 w ar r.length r) (hrb : ∀ ad, ar = some ad → r ≠ [] → ad.block < lo) (hcr : r.length ≤ cr) (hrl : r.length < 2097152) (hpre : pre.length ≠ 2000 → pre ++ [⟨.mk k m lo_ hi r kids, d, a, f, la, b⟩] <+: xs) (hlen : pre.length ≤ 2000)
  (hj : J pre w) (hm : Boxed w (B1 + 1) 3 (.int .i64 pre.length)) (hy : Boxed w B1 110 (.func (.yield l) #[] #[])) :
  Calls Tryd.prog 79 #[.agg #[.int .i64 k, .int .i64 m, .int .i64 lo_, .int .i64 hi, .slice ar r.length cr, .slice ak kids.length ck, .int .i64 d, .int .i64 a, .bool f, .bool la, .bool b], .pointer (some ⟨B1 + 1, 0, none⟩), .pointer (some ⟨B1, 0, none⟩)] w
   fun e w' => (pre.length = 2000 ∧ e = .returned (.bool false) ∧ Below w.heap.size w w') ∨
    (pre.length ≠ 2000 ∧ e = .returned (.bool (go pre ⟨.mk k m lo_ hi r kids, d, a, f, la, b⟩)) ∧ (go pre ⟨.mk k m lo_ hi r kids, d, a, f, la, b⟩ = true → J (pre ++ [⟨.mk k m lo_ hi r kids, d, a, f, la, b⟩]) w' ∧ KeptBut lo (B1 + 2) w w' ∧ Boxed w' (B1 + 1) 3 (.int .i64 ((pre.length : Int) + 1)) ∧ Boxed w' B1 110 (.func (.yield l) #[] #[])) ∧
     (go pre ⟨.mk k m lo_ hi r kids, d, a, f, la, b⟩ = false → Jx (pre ++ [⟨.mk k m lo_ hi r kids, d, a, f, la, b⟩]) w' ∧ w.heap.size ≤ w'.heap.size)) := by
 have HM := Lib.hid hm
 have HY := Lib.hid hy
 have HJ := Lib.hid hJ
 have HYY := Lib.hid hY
 have HP := Lib.hid hpre
 have HB1 := Lib.hid hB1
 have HR := Lib.hid hr
 have HRB := Lib.hid hrb
 have HL := Lib.hid hrl
 have HC := Lib.hid hcr
 have HJJ := Lib.hid hj
 have HLO := Lib.hid hlo
 clear hJ hY hpre hB1 hr hrb hrl hcr hj hlo
 by_cases h : pre.length = 2000
 ·have cm := hm.cell
  have lm := hm.lt
  rw [h] at cm
  have H := Lib.hid h
  clear hm hy h hlen
  go_enter Tryd.func79, Tryd.ntmps79
  go_wp2
  go_ret
  exact .inl ⟨H.out, rfl, (Below.refl _ w).alloc (Nat.le_refl _) _⟩
 ·have cm := hm.cell
  have fm := hm.frozen
  have lm := hm.lt
  have cy := hy.cell
  have ly := hy.lt
  have hne : ((pre.length : Int) == 2000) = false := beq_eq_false_iff_ne.2 (by omega)
  have hwr : wrap64 ((pre.length : Int) + 1) = (pre.length : Int) + 1 := w64_lit _ (by omega) (by omega)
  have H := Lib.hid h
  clear hm hy h hlen
  refine (callsIn_wide (n := 9)).1 ?_
  refine callsIn_of_wp Tryd.func79 rfl trivial ?_ rfl
  simp only [Tryd.ntmps79, List.size_toArray, List.length_cons, List.length_nil, Nat.reduceAdd, Nat.reduceSub, Array.replicate_succ, Array.replicate_zero, List.push_toArray, List.append_toArray, List.nil_append, List.cons_append]
  gi_wp2_with fail
  obtain ⟨Wb, hWb⟩ : ∃ Wb, Wb = (w.setCell ⟨B1 + 1, 0, none⟩ (.int .i64 ((pre.length : Int) + 1))).alloc (.cells #[.int .i64 k, .int .i64 m, .int .i64 lo_, .int .i64 hi, .slice ar r.length cr, .slice none 0 0, .int .i64 d, .int .i64 a, .bool f, .bool la, .bool b] 64) := ⟨_, rfl⟩
  rw [← hWb]
  have hszb : Wb.heap.size = w.heap.size + 1 := by rw [hWb]; simp [World.setCell]
  have hbB : Below B1 w Wb := by rw [hWb]; exact ((Below.refl B1 w).setCell (p := ⟨B1 + 1, 0, none⟩) (by simp only; omega) _).alloc (by simp [World.setCell]; omega) _
  have hmb : Boxed Wb (B1 + 1) 3 (.int .i64 ((pre.length : Int) + 1)) := by rw [hWb]; exact (HM.out.set _).alloc _
  have hyb : Boxed Wb B1 110 (.func (.yield l) #[] #[]) := by rw [hWb]; exact (boxed_other2 HY.out (by omega)).alloc _
  have hsb : Wb.heap[w.heap.size]? = some (.cells #[.int .i64 k, .int .i64 m, .int .i64 lo_, .int .i64 hi, .slice ar r.length cr, .slice none 0 0, .int .i64 d, .int .i64 a, .bool f, .bool la, .bool b] 64 (0, 0)) := by
   have := World.alloc_heap_new (w.setCell ⟨B1 + 1, 0, none⟩ (.int .i64 ((pre.length : Int) + 1))) (.cells #[.int .i64 k, .int .i64 m, .int .i64 lo_, .int .i64 hi, .slice ar r.length cr, .slice none 0 0, .int .i64 d, .int .i64 a, .bool f, .bool la, .bool b] 64)
   rw [hWb]
   simpa [World.setCell] using this
  have hkb : KeptBut lo (B1 + 2) w Wb := by
   rw [hWb]
   exact ((KeptBut.refl lo (B1 + 2) w).setCell (p := ⟨B1 + 1, 0, none⟩) (by have := HLO.out; simp only; omega) (by simp only; omega) _).trans (KeptBut.of_below ((Below.refl _ _).alloc (Nat.le_refl _) _))
  have hcl := api_Range_89.calls ar cr r r Wb (C_move (P := (· < lo)) HR.out HRB.out (fun x hx => hbB.block x (by have := HLO.out; omega))) HC.out (by unfold api_Range_89.f; rw [if_pos (by have := HL.out; omega)])
  have HCL := Lib.hid hcl
  have HKB := Lib.hid hkb
  have HBB := Lib.hid hbB
  have HMB := Lib.hid hmb
  have HYB := Lib.hid hyb
  have HSB := Lib.hid hsb
  have HSZ := Lib.hid hszb
  have HWB := Lib.hid hWb
  have LY := Lib.hid ly
  clear hWb hszb hbB hmb hyb hsb hkb hcl cm fm lm cy ly hne hwr
  refine ⟨trivial, ?_⟩
  refine (callsIn_wide.2 HCL.out).mono ?_
  rintro e w2 ⟨v, rfl, hR, hB⟩
  obtain ⟨A, c, rfl⟩ := Kd.R_slice hR
  have hlt := R_lt hR
  obtain ⟨w3, hw3⟩ : ∃ w3, w3 = w2.setCell ⟨w.heap.size, 4, none⟩ (.slice A r.length c) := ⟨_, rfl⟩
  have hs2 := hB.size
  have hR3 : Kd.R k64 50 w3 B1 (fun _ => True) (.slice A r.length c) r := by
   rw [hw3]
   exact Kd.R_lower (R_same hR (fun x hx => Below.heap_setCell _ _ _ _ (by have := (hlt x hx).1; have := HSZ.out; simp only; omega))) (by have := HSZ.out; have := LY.out; omega)
  have hb3 : Below B1 w w3 := by rw [hw3]; exact (HBB.out.trans (hB.mono (by have := HSZ.out; have := LY.out; omega))).setCell (p := ⟨w.heap.size, 4, none⟩) (by have := LY.out; simp only; omega) _
  have hJ3 := HJ.out pre w w3 HJJ.out hb3
  have hm3 : Boxed w3 (B1 + 1) 3 (.int .i64 ((pre.length : Int) + 1)) := by rw [hw3]; exact (Below.heap_setCell _ _ _ _ (by have := HM.out.lt; simp only; omega)).trans (boxed_keep HMB.out hB)
  have hy3 : Boxed w3 B1 110 (.func (.yield l) #[] #[]) := by rw [hw3]; exact (Below.heap_setCell _ _ _ _ (by have := LY.out; simp only; omega)).trans (boxed_keep HYB.out hB)
  have hsc := (hB.block _ (by have := HSZ.out; omega)).trans HSB.out
  have hk3 : KeptBut lo (B1 + 2) w w3 := by
   have h2 := HKB.out.trans (KeptBut.of_below (lo := lo) (hi := B1 + 2) hB)
   rw [hw3]
   exact ⟨h2.os, h2.tape, h2.output, by have := h2.size; simpa [World.setCell] using this, fun x hx hb => (Below.heap_setCell w2 _ _ x (by simp only; omega)).trans (h2.block x hx hb)⟩
  have c0 := cell_heap (i := 0) hsc rfl
  have c1 := cell_heap (i := 1) hsc rfl
  have c2 := cell_heap (i := 2) hsc rfl
  have c3 := cell_heap (i := 3) hsc rfl
  have c4 := cell_heap (i := 4) hsc rfl
  have c5 := cell_heap (i := 5) hsc rfl
  have c6 := cell_heap (i := 6) hsc rfl
  have f4 : w2.frozen? ⟨w.heap.size, 4, none⟩ = false := by simp [World.frozen?, hsc]
  have cy2 := (boxed_keep HYB.out hB).cell
  have hB1w : B1 ≠ w.heap.size := by have := LY.out; omega
  obtain ⟨fn, tmps, assign, body, hyy, hRd⟩ := HYY.out 8 pre _ _ w3 (HP.out H.out) hJ3 ⟨A, c, rfl, hR3⟩
  simp only [NT.k, NT.m, NT.lo, NT.hi, NT.r] at hyy
  rw [hw3] at hyy hRd
  have HW3 := Lib.hid hw3
  have HK3 := Lib.hid hk3
  have HM3 := Lib.hid hm3
  have HY3 := Lib.hid hy3
  have HRD := Lib.hid hRd
  clear hw3 hk3 hm3 hy3 hRd hsc hJ3 hb3 hR3 hs2 hlt hR hB
  gi_wp2_with fail
  refine HRD.out.mono ?_
  rintro e w4 ⟨rfl, g1, g2⟩
  rw [← HW3.out] at g1
  have G1 := Lib.hid g1
  have G2 := Lib.hid g2
  clear g1 g2
  gi_wp2
  go_ret
  refine .inr ⟨H.out, rfl, fun hg => ?_, fun hg => ⟨(G2.out hg).1, by have h1 := (G2.out hg).2; rw [← HW3.out] at h1; exact Nat.le_trans HK3.out.size h1⟩⟩
  obtain ⟨j4, k4⟩ := G1.out hg
  have e3 : w3.heap[B1 + 1]? = some (.cells #[.int .i64 ((pre.length : Int) + 1)] 3 (0, 0)) := HM3.out
  have ey : w3.heap[B1]? = some (.cells #[.func (.yield l) #[] #[]] 110 (0, 0)) := HY3.out
  exact ⟨j4, HK3.out.trans (k4.wide (Nat.le_refl _) (by omega)), (k4.block _ HM3.out.lt (.inr ⟨by omega, fun cells fr => by rw [e3]; simp⟩)).trans e3, (k4.block _ HY3.out.lt (.inr ⟨Nat.le_refl _, fun cells fr => by rw [ey]; simp⟩)).trans ey⟩
/-- the state of the walk that All goes on -/
def IA (J Jx : List Step → World → Prop) (B1 l : Nat) (st : SA) (W : World) : Prop :=
 B1 + 2 ≤ W.heap.size ∧ (st.out = false → J st.pre W ∧ Boxed W (B1 + 1) 3 (.int .i64 st.pre.length) ∧ Boxed W B1 110 (.func (.yield l) #[] #[])) ∧ (st.out = true → Jx st.pre W)
theorem all_visits (lo B1 l : Nat) (J Jx : List Step → World → Prop) (W1 : World) (hB1 : B1 = W1.heap.size) (hlo : lo ≤ B1) (go : List Step → Step → Bool) (xs : List Step)
  (hJ : ∀ s A B, J s A → Below B1 A B → J s B) (hJx : ∀ s A B, Jx s A → Below B1 A B → Jx s B)
  (hY : ∀ (m : Nat) (pre : List Step) (x : Step) (vs : Array Value) (A : World), pre ++ [x] <+: xs → J pre A → EA B1 x A vs → YieldAt Fence.wide m Tryd.prog l vs A fun e B =>
   e = .returned (.bool (go pre x)) ∧ (go pre x = true → J (pre ++ [x]) B ∧ KeptBut lo B1 A B) ∧ (go pre x = false → Jx (pre ++ [x]) B ∧ A.heap.size ≤ B.heap.size)) :
  Visit (visA go) lvN (fun st s => st.out = false ∧ st.pre.length ≤ 2000 ∧ (st.pre.length ≠ 2000 → st.pre ++ [s] <+: xs)) (fun _ _ => True) (IA J Jx B1 l) (· < lo) (KeptBut lo (B1 + 2)) (B1 + 2) 79 53
   #[.pointer (some ⟨B1 + 1, 0, none⟩), .pointer (some ⟨B1, 0, none⟩)] #[] where
 trans := KeptBut.trans
 below := fun h _ => KeptBut.of_below h
 size := fun h => h.size
 tree := fun h hn b hb => h.block b (by omega) (.inl hb)
 box := fun h hn hc ht => h.block _ (Array.getElem?_eq_some_iff.1 hc).1 (.inr ⟨hn, fun cells fr => by
  rw [hc]
  intro e
  cases e
  rcases ht with h | h <;> exact absurd h (by decide)⟩)
 inv := fun h hb => ⟨Nat.le_trans h.1 hb.size, fun ho => ⟨hJ _ _ _ (h.2.1 ho).1 (hb.mono (by have := h.1; omega)), boxed_keep (h.2.1 ho).2.1 hb, boxed_keep (h.2.1 ho).2.2 hb⟩, fun ho => hJx _ _ _ (h.2.2 ho) (hb.mono (by have := h.1; omega))⟩
 low := fun b hb => by omega
 ev := fun args w => enters_ Tryd.func79 (by kernel_rfl) rfl args w
 el := fun args w => enters_ Tryd.func53 (by kernel_rfl) rfl args w
 hv := fun st s cs w hw hT hI hok => by
  obtain ⟨n, d, a, f, la, b⟩ := s
  obtain ⟨pre, out⟩ := st
  obtain ⟨ho, hlen, hpre⟩ := hok
  simp only at ho hlen hpre
  subst ho
  obtain ⟨hs, h1, _⟩ := hI
  obtain ⟨hj, hm, hy⟩ := h1 rfl
  cases hT with
  | mk k m lo_ hi r kids ar ak cr ck csk hr hrb hcr hrl hin hck hkl hk ha =>
   rw [show #[stepV [.int .i64 k, .int .i64 m, .int .i64 lo_, .int .i64 hi, .slice ar r.length cr, .slice ak kids.length ck] ⟨.mk k m lo_ hi r kids, d, a, f, la, b⟩] ++ #[Value.pointer (some ⟨B1 + 1, 0, none⟩), .pointer (some ⟨B1, 0, none⟩)] = #[.agg #[.int .i64 k, .int .i64 m, .int .i64 lo_, .int .i64 hi, .slice ar r.length cr, .slice ak kids.length ck, .int .i64 d, .int .i64 a, .bool f, .bool la, .bool b], .pointer (some ⟨B1 + 1, 0, none⟩), .pointer (some ⟨B1, 0, none⟩)] from rfl]
   refine (all_visit lo B1 l J Jx W1 hB1 hlo go xs hJ hY k m lo_ hi d a r kids ar ak cr ck f la b pre w hr hrb hcr hrl hpre hlen hj hm hy).mono fun e w' h => ?_
   rcases h with ⟨h2, rfl, hb⟩ | ⟨h2, rfl, g1, g2⟩
   ·have e : visA go ⟨pre, false⟩ ⟨.mk k m lo_ hi r kids, d, a, f, la, b⟩ = (false, ⟨pre, false⟩) := by unfold visA; rw [if_pos h2]
    rw [e]
    exact ⟨rfl, ⟨Nat.le_trans hs hb.size, fun _ => ⟨hJ _ _ _ hj (hb.mono (by omega)), boxed_keep hm hb, boxed_keep hy hb⟩, fun h => by cases h⟩, fun h => by cases h⟩
   ·have e : visA go ⟨pre, false⟩ ⟨.mk k m lo_ hi r kids, d, a, f, la, b⟩ = (go pre ⟨.mk k m lo_ hi r kids, d, a, f, la, b⟩, ⟨pre ++ [⟨.mk k m lo_ hi r kids, d, a, f, la, b⟩], !go pre ⟨.mk k m lo_ hi r kids, d, a, f, la, b⟩⟩) := by unfold visA; rw [if_neg h2]
    rw [e]
    cases hg : go pre ⟨.mk k m lo_ hi r kids, d, a, f, la, b⟩
    ·obtain ⟨q1, q2⟩ := g2 hg
     exact ⟨rfl, ⟨Nat.le_trans hs q2, (fun h => by cases h), fun _ => q1⟩, fun h => by cases h⟩
    ·obtain ⟨q1, q2, q3, q4⟩ := g1 hg
     exact ⟨rfl, ⟨Nat.le_trans hs q2.size, fun _ => ⟨q1, by simpa using q3, q4⟩, fun h => by cases h⟩, fun _ => q2⟩
 hl := fun st s cs w hw hT hI _ => by
  obtain ⟨n, d, a, f, la, b⟩ := s
  cases hT with
  | mk k m lo_ hi r kids ar ak cr ck csk hr hrb hcr hrl hin hck hkl hk ha =>
   rw [show #[stepV [.int .i64 k, .int .i64 m, .int .i64 lo_, .int .i64 hi, .slice ar r.length cr, .slice ak kids.length ck] ⟨.mk k m lo_ hi r kids, d, a, f, la, b⟩] ++ (#[] : Array Value) = #[.agg #[.int .i64 k, .int .i64 m, .int .i64 lo_, .int .i64 hi, .slice ar r.length cr, .slice ak kids.length ck, .int .i64 d, .int .i64 a, .bool f, .bool la, .bool b]] from rfl]
   refine (nothing_calls k m lo_ hi d a ar ak r.length cr kids.length ck f la b w).mono fun e w' h => ⟨h.1, ?_, KeptBut.of_below h.2⟩
   exact ⟨Nat.le_trans hI.1 h.2.size, fun ho => ⟨hJ _ _ _ (hI.2.1 ho).1 (h.2.mono (by omega)), boxed_keep (hI.2.1 ho).2.1 h.2, boxed_keep (hI.2.1 ho).2.2 h.2⟩, fun ho => hJx _ _ _ (hI.2.2 ho) (h.2.mono (by omega))⟩
set_option maxHeartbeats 4000000 in
set_option maxRecDepth 100000 in
/-- **what All hands back: an iterator over the first 2000 nodes** -/
theorem all_seq (t : NT) (cs : List Value) (lo Bn : Nat) (W1 : World) (go : List Step → Step → Bool) (hlo : lo ≤ W1.heap.size) (hT : NIn W1 (· < lo) t cs) (hn : W1.heap[Bn]? = some (.cells cs.toArray 28 (0, 0))) (hnn : t.nodes < 4611686018427387903) :
  SeqIn Tryd.prog 78 #[.pointer (some ⟨Bn, 0, none⟩)] go ((enters (Step.top t).evs).take 2000) (EA W1.heap.size) lo W1 := by
 intro l J Jx hJ hJx hY hJ0
 obtain ⟨B1, hB1⟩ : ∃ B1, B1 = W1.heap.size := ⟨_, rfl⟩
 rw [← hB1] at hJ hJx hY hlo
 have hok := all_ok go ((enters (Step.top t).evs).take 2000) (Step.top t).evs [] (by simp) (by simp)
 have V := all_visits lo B1 l J Jx W1 hB1 hlo go _ hJ hJx (fun m pre x vs A h1 h2 h3 => hY m pre x vs A h1 h2 h3)
 have hT0 := hT
 obtain ⟨T, hTe⟩ : ∃ T, T = t := ⟨_, rfl⟩
 cases hT with
 | mk k m lo_ hi r kids ar ak cr ck csk _ _ _ _ _ _ _ _ _ =>
  rename_i q1 q2 q3 q4 q5 q6 q7 q8 q9
  clear q1 q2 q3 q4 q5 q6 q7 q8 q9
  obtain ⟨W3, hW3⟩ : ∃ W3, W3 = (W1.alloc (.cells #[.func (.yield l) #[] #[]] 110)).alloc (.cells #[.int .i64 0] 3) := ⟨_, rfl⟩
  have hsz : W3.heap.size = B1 + 2 := by rw [hW3, hB1]; simp
  have hb3 : Below B1 W1 W3 := by rw [hW3, hB1]; exact ((Below.refl _ W1).alloc (Nat.le_refl _) _).alloc (by simp) _
  have hy3 : W3.heap[B1]? = some (.cells #[.func (.yield l) #[] #[]] 110 (0, 0)) := by rw [hW3, hB1]; exact (Below.heap_alloc _ _ _ (by simp)).trans (World.alloc_heap_new _ _)
  have hm3 : W3.heap[B1 + 1]? = some (.cells #[.int .i64 0] 3 (0, 0)) := by
   have := World.alloc_heap_new (W1.alloc (.cells #[.func (.yield l) #[] #[]] 110)) (.cells #[.int .i64 0] 3)
   rw [World.size_alloc] at this
   rw [hW3, hB1]; exact this
  have hw2 : ∀ w2 : World, Below W3.heap.size W3 w2 →
    Calls Tryd.prog 30 #[.agg #[.int .i64 k, .int .i64 m, .int .i64 lo_, .int .i64 hi, .slice ar r.length cr, .slice ak kids.length ck, .int .i64 1, .int .i64 0, .bool true, .bool true, .bool true],
     .func (.func 79) #[] #[.pointer (some ⟨B1 + 1, 0, none⟩), .pointer (some ⟨B1, 0, none⟩)], .func (.func 53) #[] #[]] w2
     fun e w' => (∃ b, e = .returned (.bool b)) ∧ (J ((enters (Step.top T).evs).take 2000) w' ∨ ∃ pre, pre <+: (enters (Step.top T).evs).take 2000 ∧ Jx pre w') := by
   intro w2 hb
   have hb2 : Below B1 W1 w2 := hb3.trans (hb.mono (by omega))
   have hc := walk_calls V (NT.mk k m lo_ hi r kids).nodes (Step.top (.mk k m lo_ hi r kids)) _ w2 ⟨[], false⟩ (Nat.le_refl _) (by have := hb.size; omega) (hT0.move (fun b h => hb2.block b (by omega)))
    ⟨by have := hb.size; omega, fun _ => ⟨hJ _ _ _ hJ0 hb2, (hb.block _ (by omega)).trans hm3, (hb.block _ (by omega)).trans hy3⟩, fun h => by cases h⟩ hok.1 (show (0 : Int) ≤ 1 by omega) (show (1 : Int) + _ < _ by simp only [Step.top]; omega)
   rw [show stepV [.int .i64 k, .int .i64 m, .int .i64 lo_, .int .i64 hi, .slice ar r.length cr, .slice ak kids.length ck] (Step.top (.mk k m lo_ hi r kids)) = .agg #[.int .i64 k, .int .i64 m, .int .i64 lo_, .int .i64 hi, .slice ar r.length cr, .slice ak kids.length ck, .int .i64 1, .int .i64 0, .bool true, .bool true, .bool true] from rfl] at hc
   refine hc.mono fun e w' h => ⟨⟨_, h.1⟩, ?_⟩
   rw [hTe]
   rcases hok.2 with ⟨h1, h2⟩ | ⟨h1, h2⟩
   ·exact .inl (by have := (h.2.1.2.1 h1).1; rwa [h2] at this)
   ·exact .inr ⟨_, h2, h.2.1.2.2 h1⟩
  have HW := Lib.hid hw2
  have hbc := fun w => from_calls k m lo_ hi ar ak r.length cr kids.length ck w
  have HF := Lib.hid hbc
  have HN := Lib.hid hn
  have HB := Lib.hid hB1
  have hlt := (Array.getElem?_eq_some_iff.1 hn).1
  have d0 := cell_heap (i := 0) hn rfl
  have d1 := cell_heap (i := 1) hn rfl
  have d2 := cell_heap (i := 2) hn rfl
  have d3 := cell_heap (i := 3) hn rfl
  have d4 := cell_heap (i := 4) hn rfl
  have d5 := cell_heap (i := 5) hn rfl
  rw [← hTe]
  clear hw2 hbc hT0 hsz hb3 hy3 hm3 hn hJ hJx hY hJ0 hok V hnn hlo hTe
  rw [hW3] at HW
  clear hW3
  subst hB1
  show Calls Tryd.prog 78 #[.func (.yield l) #[] #[], .pointer (some ⟨Bn, 0, none⟩)] W1 _
  go_enter Tryd.func78, Tryd.ntmps78
  go_wp2_with fail
  refine (HF.out _).mono ?_
  rintro e w2 ⟨rfl, hb2⟩
  have HB2 := Lib.hid hb2
  clear hb2
  go_wp2_with fail
  refine (HW.out _ HB2.out).mono ?_
  rintro e w3 ⟨⟨b, rfl⟩, hres⟩
  go_wp2
  go_end0
  exact ⟨⟨_, rfl⟩, hres⟩
end Go.Proofs.YtamhkdlcoghdbaaDoor.PCls
