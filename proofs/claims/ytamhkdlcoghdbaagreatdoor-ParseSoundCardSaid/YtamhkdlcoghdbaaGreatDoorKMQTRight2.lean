/- Put together (wip/tools/pack.py): QTRight2, QTLaw, QTRight, QPx. -/
import Derived.Test.YtamhkdlcoghdbaaGreatDoorKQTRight1
/- Out of TRight2 (wip/tools/prune2.py): the declarations alone that the texts of the trees name. -/
namespace Go.Proofs.YtamhkdlcoghdbaaGreatDoor.PCls
open Go.RowKit Go.Proofs.YtamhkdlcoghdbaaGreatDoorW.PrintWords Go.Proofs.YtamhkdlcoghdbaaGreatDoorW.PrintLast Go.Proofs.YtamhkdlcoghdbaaGreatDoorW.PrintMore
set_option linter.unusedVariables false
set_option linter.unusedSimpArgs false
theorem info3' : (Tryz.prog.info? 3).map (fun i => (i.zero, i.size, i.bytes)) = some (some (.int .i64 0), 1, 8) := by kernel_rfl
theorem RK.appended {N0 : Nat} {chars fold : Bool} {wrong many groups : Int} {ended ended' : List Int} {w A B : World} {v v' : Value} {tmp : Obj} (h : RK N0 chars fold wrong many groups ended w A)
  (hv : Boxed A (N0 + 5) 116 v) (ho : A.ownsRow (N0 + 6) 3 1 v ended.length (ended.map (Value.int .i64))) (hg : (A.alloc tmp).grownBy B v.ownBlock) (ho' : B.ownsRow (N0 + 6) 3 1 v' ended'.length (ended'.map (Value.int .i64))) :
  RK N0 chars fold wrong many groups ended' w (B.setCell ⟨N0 + 5, 0, none⟩ v') ∧ Boxed B (N0 + 5) 116 v := by
 have hs := h.sz
 have hne : ∀ b, b < N0 + 6 → some b ≠ v.ownBlock := by
  intro b hb e
  have := ho.lt b e.symm
  omega
 have hb : ∀ b, b < N0 + 6 → B.heap[b]? = A.heap[b]? := fun b hb' => (hg.block b (by simp; omega) (hne b hb')).trans (Below.heap_alloc _ _ _ (by omega))
 have hsz : A.heap.size ≤ B.heap.size := by have := hg.size; simp at this; omega
 have hk : KeepsT N0 A B := ⟨hg.os, hg.tape, hg.output, hsz, fun b hb' => hb b (by omega), fun b cells t fr hc ht => by
  have hlt := (Array.getElem?_eq_some_iff.1 hc).1
  refine (hg.block b (by simp; omega) (fun e => ?_)).trans (Below.heap_alloc _ _ _ hlt)
  obtain ⟨cs, hcs⟩ := own_typed ho b e.symm
  rw [hc] at hcs
  cases hcs
  rcases ht with h | h <;> exact absurd h (by decide)⟩
 have hbox : Boxed B (N0 + 5) 116 v := (hb _ (by omega)).trans hv
 exact ⟨⟨boxed_other ((hb _ (by omega)).trans h.bw) (by omega), boxed_other ((hb _ (by omega)).trans h.bm) (by omega), boxed_other ((hb _ (by omega)).trans h.bg) (by omega), ⟨v', hbox.set v', own_other ho' (by omega)⟩,
  (Below.heap_setCell _ _ _ _ (by simp only; omega)).trans ((hb _ (by omega)).trans h.bo), (h.kp.trans hk).setCell (p := ⟨N0 + 5, 0, none⟩) (by simp only; omega) hbox (by decide) _, by simp [World.setCell]; omega⟩, hbox⟩
set_option maxHeartbeats 4000000 in
set_option maxRecDepth 100000 in
theorem right_leave (N0 : Nat) (chars fold : Bool) (k m lo hi d a : Int) (ar ak : Option Addr) (lr cr lk ck : Nat) (f l b : Bool) (wrong many groups : Int) (ended : List Int) (w0 w : World)
  (hI : RK N0 chars fold wrong many groups ended w0 w) (hel : ended.length < 1099511627776) :
  Calls Tryz.prog 72 #[.agg #[.int .i64 k, .int .i64 m, .int .i64 lo, .int .i64 hi, .slice ar lr cr, .slice ak lk ck, .int .i64 d, .int .i64 a, .bool f, .bool l, .bool b], .pointer (some ⟨N0 + 5, 0, none⟩)] w
   fun e w' => e = .returned (.tuple #[]) ∧ RK N0 chars fold wrong many groups (if k = 7 then ended ++ [m] else ended) w0 w' := by
 have HI := Lib.hid hI
 have HE := Lib.hid hel
 clear hI hel
 by_cases g7 : k = 7
 ·subst g7
  rw [if_pos rfl]
  obtain ⟨v, hv, ho⟩ := HI.out.be
  have HV := Lib.hid hv
  have HO := Lib.hid ho
  have ce := hv.cell
  have fe := hv.frozen
  have le := hv.lt
  obtain ⟨i0, hi0, hz0, hz1, hz2⟩ := info_parts info3'
  have HH := Lib.hid (And.intro hi0 (And.intro hz0 (And.intro hz1 hz2)))
  obtain ⟨va, vn, vc, rfl⟩ : ∃ va vn vc, v = .slice va vn vc := by rcases ho.2 with ⟨h, _⟩ | ⟨g, cap, cur, h, _⟩ <;> exact ⟨_, _, _, h⟩
  clear hv ho hi0 hz0 hz1 hz2
  go_enter Tryz.func72, Tryz.ntmps72
  go_wp2_with (at_builtin; refine wpList_append_own _ rfl _ _ 116 rfl (N0 + 6) 3 i0 _ 1 8 Tryz.underlying116 HH.out.1 HH.out.2.1 HH.out.2.2.1 HH.out.2.2.2 rfl (by decide) _ _ _ rfl ((HO.out.alloc _).alloc _) ⟨w.heap.size + 1, 0, none⟩ 1 1 [.int .i64 m] rfl ?qc1 ?qc2 ?qc3 ?qc4 ?qc5 ?qc6 ?_)
  case qc1 => rfl
  case qc2 =>
   intro j u hj
   match j, hj with
   | 0, hj =>
    simp at hj
    subst hj
    have := cell_heap (i := 0) (World.alloc_heap_new (w.alloc (.cells #[.int .i64 7, .int .i64 m, .int .i64 lo, .int .i64 hi, .slice ar lr cr, .slice ak lk ck, .int .i64 d, .int .i64 a, .bool f, .bool l, .bool b] 121)) (.cells #[.int .i64 m] 3)) rfl
    rw [World.size_alloc] at this
    exact this
  case qc3 => intro u hu; simp at hu; subst hu; rfl
  case qc4 => unfold maxLen; have := HE.out; omega
  case qc5 => have := HE.out; omega
  case qc6 => have := HI.out.sz; simp; omega
  intro v' w1 hown hgrow hnil
  obtain ⟨g', cap', rfl⟩ := ownsRow_succ hown
  obtain ⟨hR, hbx⟩ := RK.appended (ended' := ended ++ [m]) (HI.out.alloc (.cells #[.int .i64 7, .int .i64 m, .int .i64 lo, .int .i64 hi, .slice ar lr cr, .slice ak lk ck, .int .i64 d, .int .i64 a, .bool f, .bool l, .bool b] 121)) (HV.out.alloc _) (HO.out.alloc _) hgrow (by simpa using hown)
  have HRR := Lib.hid hR
  have c2 := hbx.cell
  have f2 := hbx.frozen
  clear hR hbx hown hgrow hnil
  go_wp2
  go_end0
  exact ⟨rfl, by simpa using HRR.out⟩
 ·have g72 : (k == 7) = false := beq_eq_false_iff_ne.2 g7
  rw [if_neg g7]
  go_enter Tryz.func72, Tryz.ntmps72
  go_wp2
  go_end0
  exact ⟨rfl, HI.out.alloc _⟩
end Go.Proofs.YtamhkdlcoghdbaaGreatDoor.PCls
/- Out of TLaw (wip/tools/prune2.py): the declarations alone that the texts of the trees name. -/
namespace Go.Proofs.YtamhkdlcoghdbaaGreatDoor.PCls
open Go.RowKit
set_option linter.unusedVariables false
set_option linter.unusedSimpArgs false
theorem visR_ok (chars fold : Bool) (st : SR) (s : Step) (h : (visR chars fold st s).1 = true) :
  (visR chars fold st s).2 = ⟨st.wrong, st.many + 1, if s.n.k = 7 then st.groups + 1 else st.groups, st.ended⟩ ∧ st.wrong = 0 ∧ st.many < 2000 ∧ s.deep ≤ 40 ∧ stands s = true ∧ formed s.n chars fold = true ∧
   (s.n.k = 7 → s.n.m = st.groups + 1 ∧ st.groups + 1 ≤ 30) ∧ (s.n.k = 8 → st.ended.contains s.n.m = true) := by
 unfold visR at h ⊢
 by_cases h1 : 2000 ≤ st.many
 ·rw [if_pos h1] at h; simp at h
 rw [if_neg h1] at h ⊢
 by_cases h2 : 40 < s.deep
 ·rw [if_pos h2] at h; simp at h
 rw [if_neg h2] at h ⊢
 by_cases h3 : (!stands s || !formed s.n chars fold) = true
 ·rw [if_pos h3] at h; simp at h
 rw [if_neg h3] at h ⊢
 simp only [Bool.or_eq_true, Bool.not_eq_true', not_or, Bool.not_eq_false] at h3
 by_cases h4 : s.n.k = 7
 ·rw [if_pos h4] at h ⊢
  by_cases h5 : s.n.m ≠ st.groups + 1
  ·rw [if_pos h5] at h; simp at h
  rw [if_neg h5] at h ⊢
  by_cases h6 : 30 < st.groups + 1
  ·rw [if_pos h6] at h; simp at h
  rw [if_neg h6] at h ⊢
  simp only [decide_eq_true_eq] at h
  refine ⟨by rw [if_pos h4], h, by omega, by omega, h3.1, h3.2, fun _ => ⟨by omega, by omega⟩, fun h8 => ?_⟩
  omega
 ·rw [if_neg h4] at h ⊢
  by_cases h5 : s.n.k = 8 ∧ st.ended.contains s.n.m = false
  ·rw [if_pos h5] at h; simp at h
  rw [if_neg h5] at h ⊢
  simp only [decide_eq_true_eq] at h
  refine ⟨by rw [if_neg h4], h, by omega, by omega, h3.1, h3.2, fun h7 => absurd h7 h4, fun h8 => ?_⟩
  cases hc : st.ended.contains s.n.m
  ·exact absurd ⟨h8, hc⟩ h5
  ·rfl
theorem lvR_same (st : SR) (s : Step) : (lvR st s).wrong = st.wrong ∧ (lvR st s).many = st.many ∧ (lvR st s).groups = st.groups := by
 unfold lvR
 split <;> exact ⟨rfl, rfl, rfl⟩
end Go.Proofs.YtamhkdlcoghdbaaGreatDoor.PCls
/- Out of TRight (wip/tools/prune2.py): the declarations alone that the texts of the trees name. -/
namespace Go.Proofs.YtamhkdlcoghdbaaGreatDoor.PCls
open Go.RowKit Go.Proofs.YtamhkdlcoghdbaaGreatDoorW.PrintWords Go.Proofs.YtamhkdlcoghdbaaGreatDoorW.PrintLast Go.Proofs.YtamhkdlcoghdbaaGreatDoorW.PrintMore
set_option linter.unusedVariables false
set_option linter.unusedSimpArgs false
theorem evs_length : ∀ (t : NT) (d a : Int) (f l b : Bool), (evs t d a f l b).length = 2 * t.nodes := by
 have hL : ∀ l : List NT, (∀ t, t ∈ l → ∀ d a f l b, (evs t d a f l b).length = 2 * t.nodes) → ∀ d a n i b, (evsL l d a n i b).length = 2 * NT.nodesL l := by
  intro l
  induction l with
  | nil => intro _ d a n i b; rfl
  | cons x l ih =>
   intro h d a n i b
   simp only [evsL, List.length_append, NT.nodesL]
   rw [h x List.mem_cons_self, ih (fun t ht => h t (List.mem_cons_of_mem _ ht))]
   omega
 refine fun t => NT.ind (P := fun t => ∀ (d a : Int) (f l b : Bool), (evs t d a f l b).length = 2 * t.nodes) (fun k m lo hi r kids ih d a f l b => ?_) t
 simp only [evs, List.length_cons, List.length_append, NT.nodes, hL kids ih, List.length_nil]
 omega
theorem right_runok (chars fold : Bool) (L : Nat) : ∀ (l : List Ev) (st : SR), st.wrong = 0 → 0 ≤ st.many → st.many ≤ 2000 → 0 ≤ st.groups → st.groups ≤ st.many → st.ended.length + l.length ≤ L →
  runOk (visR chars fold) lvR (fun st _ => st.wrong = 0 ∧ (0 ≤ st.many ∧ st.many ≤ 2000) ∧ (0 ≤ st.groups ∧ st.groups ≤ 2000) ∧ st.ended.length ≤ L) (fun st _ => st.ended.length ≤ L) l st := by
 intro l
 induction l with
 | nil => intro st _ _ _ _ _ _; trivial
 | cons x l ih =>
  intro st h0 h1 h2 h3 h4 h5
  rw [List.length_cons] at h5
  cases x with
  | enter t =>
   refine ⟨⟨h0, ⟨h1, h2⟩, ⟨h3, by omega⟩, by omega⟩, fun h => ?_⟩
   obtain ⟨e, _, g1, g2, g3, g4, g5, g6⟩ := visR_ok chars fold st t h
   rw [e]
   refine ih _ h0 (by simp only; omega) (by simp only; omega) ?_ ?_ (by simp only; omega)
   ·simp only; split <;> omega
   ·simp only; split <;> omega
  | leave t =>
   refine ⟨by omega, ih _ ?_ ?_ ?_ ?_ ?_ ?_⟩
   ·rw [(lvR_same st t).1]; exact h0
   ·rw [(lvR_same st t).2.1]; exact h1
   ·rw [(lvR_same st t).2.1]; exact h2
   ·rw [(lvR_same st t).2.2]; exact h3
   ·rw [(lvR_same st t).2.2, (lvR_same st t).2.1]; exact h4
   ·unfold lvR
    split
    ·simp only [List.length_append, List.length_cons, List.length_nil]; omega
    ·omega
theorem RK.start {N0 : Nat} {chars fold : Bool} {wrong many groups : Int} {ended : List Int} {w0 w A : World} (h : RK N0 chars fold wrong many groups ended w0 A) (hn : N0 ≤ A.heap.size) : RK N0 chars fold wrong many groups ended A A :=
 ⟨h.bw, h.bm, h.bg, h.be, h.bo, KeepsT.of_below (Below.refl _ A) hn, h.sz⟩
theorem right_visits (w0 : World) (N0 : Nat) (chars fold : Bool) (L : Nat) (hL : L < 1099511627776) :
  Visit (visR chars fold) lvR (fun st _ => st.wrong = 0 ∧ (0 ≤ st.many ∧ st.many ≤ 2000) ∧ (0 ≤ st.groups ∧ st.groups ≤ 2000) ∧ st.ended.length ≤ L) (fun st _ => st.ended.length ≤ L)
   (fun st W => RK N0 chars fold st.wrong st.many st.groups st.ended w0 W) (· < N0) (KeepsT N0) N0 68 72
   #[.pointer (some ⟨N0 + 3, 0, none⟩), .pointer (some ⟨N0 + 2, 0, none⟩), .pointer (some ⟨N0 + 1, 0, none⟩), .pointer (some ⟨N0 + 4, 0, none⟩), .pointer (some ⟨N0 + 5, 0, none⟩)] #[.pointer (some ⟨N0 + 5, 0, none⟩)] where
 trans := KeepsT.trans
 below := fun h hn => KeepsT.of_below h hn
 size := fun h => h.size
 tree := fun h _ b hb => h.low b hb
 box := fun h _ hc ht => h.box _ _ _ _ hc ht
 inv := fun h hb => h.below hb
 low := fun b hb => hb
 ev := fun args w => enters_ Tryz.func68 (by kernel_rfl) rfl args w
 el := fun args w => enters_ Tryz.func72 (by kernel_rfl) rfl args w
 hv := fun st s cs w hw hT hI hok => by
  obtain ⟨n, d, a, f, l, b⟩ := s
  obtain ⟨wrong, many, groups, ended⟩ := st
  have hT0 := hT
  cases hT with
  | mk k m lo hi r kids ar ak cr ck csk _ _ _ _ _ _ _ _ _ =>
   rw [show #[stepV [.int .i64 k, .int .i64 m, .int .i64 lo, .int .i64 hi, .slice ar r.length cr, .slice ak kids.length ck] ⟨.mk k m lo hi r kids, d, a, f, l, b⟩] ++ #[Value.pointer (some ⟨N0 + 3, 0, none⟩), .pointer (some ⟨N0 + 2, 0, none⟩), .pointer (some ⟨N0 + 1, 0, none⟩), .pointer (some ⟨N0 + 4, 0, none⟩), .pointer (some ⟨N0 + 5, 0, none⟩)] =
    #[.agg #[.int .i64 k, .int .i64 m, .int .i64 lo, .int .i64 hi, .slice ar r.length cr, .slice ak kids.length ck, .int .i64 d, .int .i64 a, .bool f, .bool l, .bool b], .pointer (some ⟨N0 + 3, 0, none⟩), .pointer (some ⟨N0 + 2, 0, none⟩), .pointer (some ⟨N0 + 1, 0, none⟩), .pointer (some ⟨N0 + 4, 0, none⟩), .pointer (some ⟨N0 + 5, 0, none⟩)] from rfl]
   have hI' : RK N0 chars fold wrong many groups ended w0 w := hI
   refine (right_visit N0 chars fold k m lo hi d a r kids ar ak cr ck f l b wrong many groups ended w w hT0 (RK.start (w := w) hI' hw) hok.1 hok.2.1 hok.2.2.1 (Nat.lt_of_le_of_lt hok.2.2.2 hL)).mono fun e w' h => ?_
   exact ⟨h.1, ⟨h.2.bw, h.2.bm, h.2.bg, h.2.be, h.2.bo, hI'.kp.trans h.2.kp, h.2.sz⟩, fun _ => h.2.kp⟩
 hl := fun st s cs w hw hT hI hok => by
  obtain ⟨n, d, a, f, l, b⟩ := s
  obtain ⟨wrong, many, groups, ended⟩ := st
  cases hT with
  | mk k m lo hi r kids ar ak cr ck csk _ _ _ _ _ _ _ _ _ =>
   rw [show #[stepV [.int .i64 k, .int .i64 m, .int .i64 lo, .int .i64 hi, .slice ar r.length cr, .slice ak kids.length ck] ⟨.mk k m lo hi r kids, d, a, f, l, b⟩] ++ #[Value.pointer (some ⟨N0 + 5, 0, none⟩)] = #[.agg #[.int .i64 k, .int .i64 m, .int .i64 lo, .int .i64 hi, .slice ar r.length cr, .slice ak kids.length ck, .int .i64 d, .int .i64 a, .bool f, .bool l, .bool b], .pointer (some ⟨N0 + 5, 0, none⟩)] from rfl]
   have hI' : RK N0 chars fold wrong many groups ended w0 w := hI
   refine (right_leave N0 chars fold k m lo hi d a ar ak r.length cr kids.length ck f l b wrong many groups ended w w (RK.start (w := w) hI' hw) (Nat.lt_of_le_of_lt hok hL)).mono fun e w' h => ?_
   have e : lvR ⟨wrong, many, groups, ended⟩ ⟨.mk k m lo hi r kids, d, a, f, l, b⟩ = ⟨wrong, many, groups, if k = 7 then ended ++ [m] else ended⟩ := by
    show (if k = 7 then (⟨wrong, many, groups, ended ++ [m]⟩ : SR) else ⟨wrong, many, groups, ended⟩) = _
    by_cases h7 : k = 7
    ·rw [if_pos h7, if_pos h7]
    ·rw [if_neg h7, if_neg h7]
   rw [e]
   exact ⟨h.1, ⟨h.2.bw, h.2.bm, h.2.bg, h.2.be, h.2.bo, hI'.kp.trans h.2.kp, h.2.sz⟩, h.2.kp⟩
set_option maxHeartbeats 4000000 in
set_option maxRecDepth 100000 in
theorem right_calls (t : NT) (cs : List Value) (chars fold : Bool) (w : World) (hT : NIn w (· < w.heap.size) t cs) (hn : t.nodes < 274877906944) :
  Calls Tryz.prog 30 #[.agg cs.toArray, .agg #[.bool chars, .bool fold]] w fun e w' => e = .returned (.int .i64 (rightT t chars fold)) ∧ Below w.heap.size w w' := by
 have hT0 := hT
 obtain ⟨T, hTe⟩ : ∃ T, T = t := ⟨_, rfl⟩
 cases hT with
 | mk k m lo hi r kids ar ak cr ck csk _ _ _ _ _ _ _ _ _ =>
  rename_i q1 q2 q3 q4 q5 q6 q7 q8 q9
  clear q1 q2 q3 q4 q5 q6 q7 q8 q9
  obtain ⟨N0, hN0⟩ : ∃ N0, N0 = w.heap.size := ⟨_, rfl⟩
  obtain ⟨W6, hW6⟩ : ∃ W6, W6 = (((((w.alloc (.cells #[.int .i64 k, .int .i64 m, .int .i64 lo, .int .i64 hi, .slice ar r.length cr, .slice ak kids.length ck] 43)).alloc (.cells #[.bool chars, .bool fold] 23)).alloc (.cells #[.int .i64 0] 54)).alloc (.cells #[.int .i64 0] 3)).alloc (.cells #[.int .i64 0] 3)).alloc (.cells #[.slice none 0 0] 116) := ⟨_, rfl⟩
  have hsz : W6.heap.size = N0 + 6 := by rw [hW6, hN0]; simp
  have hat : ∀ (A : World) (o : Obj) (b : Nat), b = A.heap.size → (A.alloc o).heap[b]? = some o := fun A o b h => by rw [h]; exact World.alloc_heap_new A o
  have hup : ∀ (A : World) (o x : Obj) (b : Nat), A.heap[b]? = some x → (A.alloc o).heap[b]? = some x := fun A o x b h => (Below.heap_alloc A o b (Array.getElem?_eq_some_iff.1 h).1).trans h
  have h1 : W6.heap[N0 + 1]? = some (.cells #[.bool chars, .bool fold] 23 (0, 0)) := by rw [hW6]; exact hup _ _ _ _ (hup _ _ _ _ (hup _ _ _ _ (hup _ _ _ _ (hat _ _ _ (by simp [hN0])))))
  have h2 : W6.heap[N0 + 2]? = some (.cells #[.int .i64 0] 54 (0, 0)) := by rw [hW6]; exact hup _ _ _ _ (hup _ _ _ _ (hup _ _ _ _ (hat _ _ _ (by simp [hN0]))))
  have h3 : W6.heap[N0 + 3]? = some (.cells #[.int .i64 0] 3 (0, 0)) := by rw [hW6]; exact hup _ _ _ _ (hup _ _ _ _ (hat _ _ _ (by simp [hN0])))
  have h4 : W6.heap[N0 + 4]? = some (.cells #[.int .i64 0] 3 (0, 0)) := by rw [hW6]; exact hup _ _ _ _ (hat _ _ _ (by simp [hN0]))
  have h5 : W6.heap[N0 + 5]? = some (.cells #[.slice none 0 0] 116 (0, 0)) := by rw [hW6]; exact hat _ _ _ (by simp [hN0])
  have hb6 : Below N0 w W6 := by
   rw [hW6, hN0]
   exact ((((((Below.refl _ w).alloc (Nat.le_refl _) _).alloc (by simp) _).alloc (by simp; omega) _).alloc (by simp; omega) _).alloc (by simp; omega) _).alloc (by simp; omega) _
  have hR6 : RK N0 chars fold 0 0 0 [] w W6 := ⟨h2, h3, h4, ⟨_, h5, rfl, .inl ⟨rfl, rfl⟩⟩, h1, ⟨hb6.os, hb6.tape, hb6.output, hb6.size, hb6.block, fun b cells ty fr hc _ => hb6.block b (by rw [hN0]; exact (Array.getElem?_eq_some_iff.1 hc).1)⟩, by omega⟩
  have hw2 : ∀ w2 : World, Below W6.heap.size W6 w2 →
    Calls Tryz.prog 66 #[.agg #[.int .i64 k, .int .i64 m, .int .i64 lo, .int .i64 hi, .slice ar r.length cr, .slice ak kids.length ck, .int .i64 1, .int .i64 0, .bool true, .bool true, .bool true],
     .func (.func 68) #[] #[.pointer (some ⟨N0 + 3, 0, none⟩), .pointer (some ⟨N0 + 2, 0, none⟩), .pointer (some ⟨N0 + 1, 0, none⟩), .pointer (some ⟨N0 + 4, 0, none⟩), .pointer (some ⟨N0 + 5, 0, none⟩)], .func (.func 72) #[] #[.pointer (some ⟨N0 + 5, 0, none⟩)]] w2
     fun e w' => (∃ b, e = .returned (.bool b)) ∧ Boxed w' (N0 + 2) 54 (.int .i64 (rightT T chars fold)) ∧ Below N0 w w' := by
   intro w2 hb
   have hR2 := hR6.below hb
   have hlen := evs_length (NT.mk k m lo hi r kids) 1 0 true true true
   have V := right_visits w N0 chars fold (2 * (NT.mk k m lo hi r kids).nodes) (by omega)
   have hc := walk_calls V (NT.mk k m lo hi r kids).nodes (Step.top (.mk k m lo hi r kids)) _ w2 ⟨0, 0, 0, []⟩ (Nat.le_refl _) (by have := hb.size; omega) (by rw [hN0]; exact hT0.move (fun b h => by rw [← hN0] at h; exact (hb.block b (by omega)).trans (hb6.block b h))) hR2
    (right_runok chars fold _ _ ⟨0, 0, 0, []⟩ rfl (by simp) (by simp) (by simp) (by simp) (by unfold Step.evs Step.top; simp only; rw [hlen]; simp)) (show (0 : Int) ≤ 1 by omega) (show (1 : Int) + _ < _ by simp only [Step.top]; omega)
   rw [show stepV [.int .i64 k, .int .i64 m, .int .i64 lo, .int .i64 hi, .slice ar r.length cr, .slice ak kids.length ck] (Step.top (.mk k m lo hi r kids)) = .agg #[.int .i64 k, .int .i64 m, .int .i64 lo, .int .i64 hi, .slice ar r.length cr, .slice ak kids.length ck, .int .i64 1, .int .i64 0, .bool true, .bool true, .bool true] from rfl] at hc
   refine hc.mono fun e w' h => ⟨⟨_, h.1⟩, ?_, h.2.1.kp.below⟩
   rw [hTe]
   exact h.2.1.bw
  have HW := Lib.hid hw2
  have hbc := fun w => from_calls k m lo hi ar ak r.length cr kids.length ck w
  have HF := Lib.hid hbc
  have HN := Lib.hid hN0
  rw [← hTe, ← hN0]
  clear hw2 hbc hT0 hsz hat hup h1 h2 h3 h4 h5 hb6 hR6 hTe
  rw [hW6, hN0] at HW
  clear hW6 hN0
  go_enter Tryz.func30, Tryz.ntmps30
  go_wp2_with fail
  refine (HF.out _).mono ?_
  rintro e w2 ⟨rfl, hb2⟩
  have HB2 := Lib.hid hb2
  clear hb2
  go_wp2_with fail
  refine (HW.out _ HB2.out).mono ?_
  rintro e w3 ⟨⟨b, rfl⟩, hbx, hbel⟩
  have c0 := hbx.cell
  have HB3 := Lib.hid hbel
  clear hbx hbel
  go_wp2
  go_ret
  exact ⟨rfl, by rw [HN.out]; exact HB3.out⟩
end Go.Proofs.YtamhkdlcoghdbaaGreatDoor.PCls
/- Out of Px (wip/tools/prune2.py): the declarations alone that the texts of the trees name. -/
namespace Go.Proofs.YtamhkdlcoghdbaaGreatDoor.PCls
open Go.RowKit Go.Shelf Go.Proofs.YtamhkdlcoghdbaaGreatDoorW.PrintWords Go.Proofs.YtamhkdlcoghdbaaGreatDoorW.PrintLast Go.Proofs.YtamhkdlcoghdbaaGreatDoorW.PrintMore
set_option linter.unusedVariables false
set_option linter.unusedSimpArgs false
/-- where the open groups stand -/
def PlB (N : Int) (m : MS) : Prop := ∀ g, g ∈ m.top :: m.below → 0 ≤ g.pl ∧ g.pl ≤ N
theorem PlB.step {N : Int} {m m' : MS} {t : Tok} (h : PlB N m) (ht : 0 ≤ t.sat ∧ t.sat ≤ N) (hm : m.tok t = .ok m') : PlB N m' := by
 have htop := h m.top List.mem_cons_self
 have hput : ∀ p, PlB N (m.put p) := fun p g hg => by
  rcases List.mem_cons.1 hg with rfl | hg
  ·exact htop
  ·exact h g (List.mem_cons_of_mem _ hg)
 unfold MS.tok at hm
 split at hm
 ·split at hm
  ·cases hm
  ·cases hm
   intro g hg
   rcases List.mem_cons.1 hg with rfl | hg
   ·exact ht
   ·exact h g hg
 split at hm
 ·split at hm
  ·cases hm
  ·rename_i g b hb
   cases hm
   intro g' hg
   rcases List.mem_cons.1 hg with rfl | hg
   ·exact h g (by rw [hb]; simp)
   ·exact h g' (by rw [hb]; simp [hg])
 split at hm
 ·cases hm
  intro g hg
  rcases List.mem_cons.1 hg with rfl | hg
  ·exact htop
  ·exact h g (List.mem_cons_of_mem _ hg)
 split at hm
 ·split at hm
  ·cases hm
  ·cases hm
   intro g hg
   rcases List.mem_cons.1 hg with rfl | hg
   ·exact htop
   ·exact h g (List.mem_cons_of_mem _ hg)
 split at hm
 ·split at hm
  ·cases hm; exact hput _
  ·cases hm
 split at hm
 ·cases hm; exact hput _
 split at hm
 ·cases hm; exact hput _
 ·cases hm; exact hput _
def EAt (N : Int) (e : Er) : Prop := e.1 ≠ 0 ∧ 0 ≤ e.2 ∧ e.2 ≤ N
theorem run_places (N : Int) : ∀ (l : List Tok) (q : Int) (m : MS), okSeq q l → 0 ≤ q ∧ q ≤ 8 → LastOk q m → (∀ t, t ∈ l → 0 ≤ t.sat ∧ t.sat ≤ N) → PlB N m → match MS.run l m with
  | .error e => EAt N e
  | .ok m' => PlB N m'
 | [], q, m, _, _, _, _, h => h
 | t :: l, q, m, hs, hq, hl, ht, h => by
  unfold MS.run
  cases hm : m.tok t with
  | error c => exact ⟨tok_err hl hs.1 hq hm, ht t List.mem_cons_self⟩
  | ok m' =>
   have h1 := hs.2.1
   have h2 := hs.2.2.1
   exact run_places N l t.kind m' hs.2.2.2 ⟨by omega, h2⟩ (LastOk.step ⟨h1, h2⟩ hm) (fun u hu => ht u (List.mem_cons_of_mem _ hu)) (h.step (ht t List.mem_cons_self) hm)
theorem second_in : ∀ (b : List GS) (t : GS), ∃ g, g ∈ t :: b ∧ MS.second t b = g.pl
 | [], t => ⟨t, by simp, rfl⟩
 | [g], t => ⟨t, by simp, rfl⟩
 | g :: g2 :: b, t => by
  obtain ⟨x, h1, h2⟩ := second_in (g2 :: b) g
  exact ⟨x, List.mem_cons_of_mem _ h1, h2⟩
theorem stands_sat : ∀ {l : List Tok} {p e : Nat}, Stands p l e → ∀ t, t ∈ l → 0 ≤ t.sat ∧ t.sat ≤ (e : Int)
 | [], _, _, _, t, h => by cases h
 | u :: l, p, e, hs, t, h => by
  obtain ⟨h0, f, h1, h2, _, _, h3⟩ := hs
  rcases List.mem_cons.1 h with rfl | h
  ·have := stands_end h3; omega
  ·exact stands_sat h3 t h
/-- what Parse's answers are -/
theorem parse_told (s : ByteArray) (chars fold : Bool) : match parseS s chars fold with
  | .error e => EAt s.size e
  | .ok t => rightT t chars fold = 0 ∧ t.nodes ≤ 2000 := by
 have hlt := lex_told s chars fold
 unfold parseS
 cases hlex : Lx.lex clC s chars fold with
 | error e =>
  rw [hlex] at hlt
  exact ⟨by have := hlt.2.2; omega, hlt.1, hlt.2.1⟩
 | ok out =>
  rw [hlex] at hlt
  have hs := (lex_seq hlex).both
  have hr := run_places s.size out 0 MS.start hs.1 ⟨by omega, by omega⟩ (fun h => by omega) (stands_sat hlt) (fun g hg => by simp [MS.start] at hg; subst hg; exact ⟨by simp, by simp⟩)
  show (match parseT out with
   | .error e => EAt s.size e
   | .ok t => rightT t chars fold = 0 ∧ t.nodes ≤ 2000)
  cases hp : parseT out with
  | ok t =>
   show rightT t chars fold = 0 ∧ t.nodes ≤ 2000
   refine ⟨parse_right hs.1 hs.2 hp, ?_⟩
   unfold parseT at hp
   split at hp
   ·cases hp
   ·unfold wholeT at hp
    split at hp
    ·cases hp
    split at hp
    ·cases hp
    ·cases hp
     rename_i h1 h2
     unfold countT at h2
     omega
  | error e =>
   show EAt s.size e
   unfold parseT partsT at hp
   cases hrun : MS.run out MS.start with
   | error e' =>
    rw [hrun] at hp hr
    cases hp
    exact hr
   | ok m =>
    rw [hrun] at hp hr
    simp only at hp
    split at hp
    ·rename_i e' he
     split at he
     ·cases he
     ·cases he
      cases hp
      obtain ⟨g, h1, h2⟩ := second_in m.below m.top
      exact ⟨(show (39 : Int) ≠ 0 by decide), by show 0 ≤ MS.second m.top m.below ∧ MS.second m.top m.below ≤ _; rw [h2]; exact hr g h1⟩
    ·unfold wholeT at hp
     split at hp
     ·cases hp; exact ⟨by decide, by simp, by simp⟩
     split at hp
     ·cases hp; exact ⟨by decide, by simp, by simp⟩
     ·cases hp
set_option maxHeartbeats 8000000 in
set_option maxRecDepth 100000 in
theorem sound_calls (s : ByteArray) (chars fold : Bool) (W : World) (m : Int) (hT : Lib.Utf8Tabs 0 1 W) (hm : W.cell? ⟨2, 0, none⟩ = some (.int .i64 m)) (h2 : 2 < W.heap.size) (hs : s.size ≤ 140737488351232) :
  Calls Tryz.prog 8 #[.string s, .agg #[.bool chars, .bool fold]] W fun e w' => e = .returned (.bool true) ∧ Below W.heap.size W w' := by
 have hb0 := (Below.refl W.heap.size W).alloc (Nat.le_refl _) (.cells #[.bool chars, .bool fold] 23)
 have hg0 := heap_alloc_new W (.cells #[.bool chars, .bool fold] 23)
 have HX := Lib.hid (pex_calls (W.alloc (.cells #[.bool chars, .bool fold] 23)) m ((hb0.cell (p := ⟨2, 0, none⟩) h2).trans hm) (Nat.lt_of_lt_of_le h2 hb0.size) (tabs_below hT hb0))
 have HL := Lib.hid (fun (w : World) (hb : Below W.heap.size W w) => parse_calls w s chars fold m hs ((hb.cell (p := ⟨2, 0, none⟩) h2).trans hm) (Nat.lt_of_lt_of_le h2 hb.size) (tabs_below hT hb))
 have HPT := Lib.hid (parse_told s chars fold)
 obtain ⟨r, hr⟩ : ∃ r, r = parseS s chars fold := ⟨_, rfl⟩
 rw [← hr] at HL HPT
 have HB0 := Lib.hid (And.intro hb0 hg0)
 clear hb0 hg0 hT hm h2 hr
 go_enter Tryz.func8, Tryz.ntmps8
 go_wp2_with fail
 refine HX.out.mono ?_
 rintro e w1 ⟨rfl, hb1⟩
 have hk1 := (hb1.block W.heap.size (by simp)).trans HB0.out.2
 have q0 := lk_cell (i := 0) hk1 rfl
 have q1 := lk_cell (i := 1) hk1 rfl
 have hl1 := blk_lt hk1
 have HB1 := Lib.hid (And.intro (HB0.out.1.trans (hb1.mono HB0.out.1.size)) hk1)
 clear hb1 hk1 HX HB0
 go_wp2_with fail
 refine (HL.out w1 HB1.out.1).mono ?_
 intro e w2 hpa
 clear HL
 cases r with
 | error x =>
  obtain ⟨hb2, g, rfl, hg, hgc⟩ := hpa
  obtain ⟨xc, xp⟩ := x
  have hx : EAt s.size (xc, xp) := HPT.out
  have hx0 : (xc == 0) = false := by rw [beq_eq_false_iff_ne]; exact hx.1
  have hx1 : 0 ≤ xp := hx.2.1
  have hx2 : xp ≤ (s.size : Int) := hx.2.2
  have hb3 := (Below.refl w2.heap.size w2).alloc (Nat.le_refl _) (.cells #[.int .i64 0, .int .i64 0, .int .i64 0, .int .i64 0, .slice none 0 0, .slice none 0 0] 43)
  have HT := Lib.hid (ptold_some (w2.alloc (.cells #[.int .i64 0, .int .i64 0, .int .i64 0, .int .i64 0, .slice none 0 0, .slice none 0 0] 43)) g xc xp ((hb3.block g (blk_lt hgc)).trans hgc))
  have HB2 := Lib.hid (HB1.out.1.trans ((hb2.trans (hb3.mono hb2.size)).mono HB1.out.1.size))
  clear hb2 hg hgc hx hb3 HPT
  go_wp2_with fail
  refine HT.out.mono ?_
  rintro e w3 ⟨rfl, hb⟩
  have hk := (hb.block w2.heap.size (by simp)).trans (heap_alloc_new w2 _)
  have c0 := lk_cell (i := 0) hk rfl
  have c5 := lk_cell (i := 5) hk rfl
  have hl := blk_lt hk
  have HB3 := Lib.hid (HB2.out.trans (hb.mono HB2.out.size))
  clear hb HT hk
  go_wp2_with fail
  go_ret
  exact ⟨rfl, HB3.out⟩
 | ok t =>
  obtain ⟨hb2, cs, rfl, hN⟩ := hpa
  have hx : rightT t chars fold = 0 ∧ t.nodes ≤ 2000 := HPT.out
  obtain ⟨kk, km, klo, khi, kar, kak, klr, kcr, klk, kck, rfl⟩ := nin_six hN
  have hb3 := (Below.refl w2.heap.size w2).alloc (Nat.le_refl _) (.cells #[.int .i64 kk, .int .i64 km, .int .i64 klo, .int .i64 khi, .slice kar klr kcr, .slice kak klk kck] 43)
  have HT := Lib.hid (ptold_nil (w2.alloc (.cells #[.int .i64 kk, .int .i64 km, .int .i64 klo, .int .i64 khi, .slice kar klr kcr, .slice kak klk kck] 43)))
  have HRT := Lib.hid (right_calls t _ chars fold (w2.alloc (.cells #[.int .i64 kk, .int .i64 km, .int .i64 klo, .int .i64 khi, .slice kar klr kcr, .slice kak klk kck] 43)) ((hN.move (fun b hb => hb3.block b hb.2)).mono (fun b hb => by simp; omega)) (by omega))
  rw [hx.1] at HRT
  have hbx := hb2.trans (hb3.mono hb2.size)
  have q0' := (hbx.cell (p := ⟨W.heap.size, 0, none⟩) hl1).trans q0
  have q1' := (hbx.cell (p := ⟨W.heap.size, 1, none⟩) hl1).trans q1
  have hl1' : W.heap.size < w2.heap.size := Nat.lt_of_lt_of_le hl1 hb2.size
  have HB2 := Lib.hid (HB1.out.1.trans (hbx.mono HB1.out.1.size))
  clear hb2 hN hb3 hbx HPT hx q0 q1
  go_wp2_with fail
  refine HT.out.mono ?_
  rintro e w3 ⟨rfl, hw⟩
  subst w3
  clear HT
  go_wp2_with fail
  refine HRT.out.mono ?_
  rintro e w4 ⟨rfl, hb⟩
  have HB3 := Lib.hid (HB2.out.trans (hb.mono HB2.out.size))
  clear hb HRT
  go_wp2_with fail
  go_ret
  exact ⟨rfl, HB3.out⟩
end Go.Proofs.YtamhkdlcoghdbaaGreatDoor.PCls
