/- Put together (wip/tools/pack.py): TDepth, TGroups. -/
import Derived.Test.YtamhkdlcoghdbaaDoorKMTRight2
/- Out of TDepth (wip/tools/prune2.py): the declarations alone that the texts of the trees name. -/
namespace Go.Proofs.YtamhkdlcoghdbaaDoor.PCls
open Go.RowKit Go.Shelf Go.Proofs.YtamhkdlcoghdbaaDoorW.PrintWords Go.Proofs.YtamhkdlcoghdbaaDoorW.PrintLast Go.Proofs.YtamhkdlcoghdbaaDoorW.PrintMore
set_option linter.unusedVariables false
set_option linter.unusedSimpArgs false
attribute [local go_sem] Oper.semAt_some
set_option maxHeartbeats 2000000 in
theorem all_calls (k m lo hi : Int) (ar ak : Option Addr) (lr cr lk ck : Nat) (w : World) :
  Calls Tryd.prog 54 #[.agg #[.int .i64 k, .int .i64 m, .int .i64 lo, .int .i64 hi, .slice ar lr cr, .slice ak lk ck]] w fun e w' => e = .returned (.func (.func 78) #[] #[.pointer (some ⟨w.heap.size, 0, none⟩)]) ∧ w' = w.alloc (.cells #[.int .i64 k, .int .i64 m, .int .i64 lo, .int .i64 hi, .slice ar lr cr, .slice ak lk ck] 28) := by
 go_enter Tryd.func54, Tryd.ntmps54
 go_wp2
 go_ret
 exact ⟨rfl, rfl⟩
/-- the deepest of some nodes -/
def deepOf (l : List Step) : Int := l.foldl (fun d s => max d s.deep) 0
theorem deepOf_snoc (l : List Step) (x : Step) : deepOf (l ++ [x]) = max (deepOf l) x.deep := by unfold deepOf; rw [List.foldl_append]; rfl
def depthT (t : NT) : Int := if 2000 < t.nodes then 0 else deepOf (enters (Step.top t).evs)
set_option maxHeartbeats 4000000 in
set_option maxRecDepth 100000 in
theorem depth_calls (t : NT) (cs : List Value) (w : World) (hT : NIn w (· < w.heap.size) t cs) (hn : t.nodes < 4611686018427387903) :
  Calls Tryd.prog 25 #[.agg cs.toArray] w fun e w' => e = .returned (.int .i64 (depthT t)) ∧ Below w.heap.size w w' := by
 have hT0 := hT
 obtain ⟨T, hTe⟩ : ∃ T, T = t := ⟨_, rfl⟩
 cases hT with
 | mk k m lo hi r kids ar ak cr ck csk _ _ _ _ _ _ _ _ _ =>
  rename_i q1 q2 q3 q4 q5 q6 q7 q8 q9
  clear q1 q2 q3 q4 q5 q6 q7 q8 q9
  obtain ⟨C6, hC6⟩ : ∃ C6 : Array Value, C6 = #[.int .i64 k, .int .i64 m, .int .i64 lo, .int .i64 hi, .slice ar r.length cr, .slice ak kids.length ck] := ⟨_, rfl⟩
  have hb1 : Below w.heap.size w (w.alloc (.cells #[.int .i64 k, .int .i64 m, .int .i64 lo, .int .i64 hi, .slice ar r.length cr, .slice ak kids.length ck] 28)) := (Below.refl _ w).alloc (Nat.le_refl _) _
  have hcount := count_calls (.mk k m lo hi r kids) _ (w.alloc (.cells #[.int .i64 k, .int .i64 m, .int .i64 lo, .int .i64 hi, .slice ar r.length cr, .slice ak kids.length ck] 28)) ((hT0.move (fun b h => hb1.block b h)).mono (fun b h => by simp; omega)) hn
  have hnb := World.alloc_heap_new w (.cells #[.int .i64 k, .int .i64 m, .int .i64 lo, .int .i64 hi, .slice ar r.length cr, .slice ak kids.length ck] 28)
  have HC := Lib.hid hcount
  have HB1 := Lib.hid hb1
  have HT := Lib.hid hT0
  have HN := Lib.hid hn
  have HNB := Lib.hid hnb
  have HTE := Lib.hid hTe
  rw [← hTe]
  clear hcount hb1 hT0 hn hnb hTe hC6 C6
  by_cases hbig : 2000 < (NT.mk k m lo hi r kids).nodes
  ·have HBIG := Lib.hid hbig
   have hc1 : countT (.mk k m lo hi r kids) = 2001 := by unfold countT; omega
   rw [hc1] at HC
   clear hbig hc1
   go_enter Tryd.func25, Tryd.ntmps25
   go_wp2_with fail
   refine HC.out.mono ?_
   rintro e w2 ⟨rfl, hb2⟩
   have HB2 := Lib.hid hb2
   clear hb2
   go_wp2
   go_ret
   refine ⟨?_, HB1.out.trans (HB2.out.mono HB1.out.size)⟩
   unfold depthT
   rw [HTE.out, if_pos HBIG.out]
   rfl
  ·have HBIG := Lib.hid hbig
   have hc1 : countT (.mk k m lo hi r kids) = ((NT.mk k m lo hi r kids).nodes : Int) := by unfold countT; omega
   obtain ⟨cn, hcn⟩ : ∃ cn : Int, cn = ((NT.mk k m lo hi r kids).nodes : Int) := ⟨_, rfl⟩
   rw [hc1, ← hcn] at HC
   have hle : cn ≤ 2000 := by omega
   clear hbig hc1 hcn
   refine (callsIn_wide (n := 9)).1 ?_
   refine callsIn_of_wp_marks Tryd.func25 rfl trivial ?_ rfl
   simp only [Tryd.ntmps25, List.size_toArray, List.length_cons, List.length_nil, Nat.reduceAdd, Nat.reduceSub, Array.replicate_succ, Array.replicate_zero, List.push_toArray, List.append_toArray, List.nil_append, List.cons_append]
   gi_wp2_with fail
   refine ⟨trivial, ?_⟩
   refine (callsIn_wide.2 HC.out).mono ?_
   rintro e w2 ⟨rfl, hb2⟩
   have HB2 := Lib.hid hb2
   have hnb2 := (hb2.block _ (by simp)).trans HNB.out
   have c0 := cell_heap (i := 0) hnb2 rfl
   have c1 := cell_heap (i := 1) hnb2 rfl
   have c2 := cell_heap (i := 2) hnb2 rfl
   have c3 := cell_heap (i := 3) hnb2 rfl
   have c4 := cell_heap (i := 4) hnb2 rfl
   have c5 := cell_heap (i := 5) hnb2 rfl
   have hl2 : w.heap.size < w2.heap.size := by have := hb2.size; simp at this; omega
   have HL2 := Lib.hid hl2
   clear hb2 hnb2
   gi_wp2_with fail
   refine ⟨trivial, ?_⟩
   refine (callsIn_wide.2 (all_calls k m lo hi ar ak r.length cr kids.length ck _)).mono ?_
   rintro e w3 ⟨rfl, rfl⟩
   gi_wp2_with fail
   have HHN := Lib.hid (Below.heap_alloc (w2.alloc (.cells #[.int .i64 0] 3)) (.cells #[.int .i64 k, .int .i64 m, .int .i64 lo, .int .i64 hi, .slice ar r.length cr, .slice ak kids.length ck] 28) w2.heap.size (by simp))
   have hbd : Below w.heap.size w ((w2.alloc (.cells #[.int .i64 0] 3)).alloc (.cells #[.int .i64 k, .int .i64 m, .int .i64 lo, .int .i64 hi, .slice ar r.length cr, .slice ak kids.length ck] 28)) :=
    (((HB1.out.trans (HB2.out.mono HB1.out.size)).alloc (by omega) _).alloc (by simp; omega) _)
   have HBD := Lib.hid hbd
   have hdb : Boxed ((w2.alloc (.cells #[.int .i64 0] 3)).alloc (.cells #[.int .i64 k, .int .i64 m, .int .i64 lo, .int .i64 hi, .slice ar r.length cr, .slice ak kids.length ck] 28)) w2.heap.size 3 (.int .i64 0) := (Boxed.new w2 3 (.int .i64 0)).alloc _
   have hdn := World.alloc_heap_new (w2.alloc (.cells #[.int .i64 0] 3)) (.cells #[.int .i64 k, .int .i64 m, .int .i64 lo, .int .i64 hi, .slice ar r.length cr, .slice ak kids.length ck] 28)
   rw [World.size_alloc] at hdn
   have HDB := Lib.hid hdb
   have HDN := Lib.hid hdn
   clear hbd hdb hdn c0 c1 c2 c3 c4 c5 HC HNB
   have hszd : ((w2.alloc (.cells #[.int .i64 0] 3)).alloc (.cells #[.int .i64 k, .int .i64 m, .int .i64 lo, .int .i64 hi, .slice ar r.length cr, .slice ak kids.length ck] 28)).heap.size = w2.heap.size + 2 := by simp
   refine range_law (n := 9) (lb := #[.pointer (some ⟨w2.heap.size + 1, 0, none⟩)]) rfl (fun args w => enters_ Tryd.func78 (by kernel_rfl) rfl args w) (fun _ _ => true) w.heap.size ?hlo ((enters (Step.top (.mk k m lo hi r kids)).evs).take 2000) (EA (w2.heap.size + 4)) ?hEs
    (fun x vs a' W => ∃ (A : Option Addr) (c : Nat), a' = { tmps := #[Value.agg #[.int .i64 k, .int .i64 m, .int .i64 lo, .int .i64 hi, .slice ar r.length cr, .slice ak kids.length ck], .pointer (some ⟨w.heap.size, 0, none⟩), .int .i64 0, .pointer (some ⟨w2.heap.size, 0, none⟩), .int .i64 x.deep, Value.agg #[.int .i64 k, .int .i64 m, .int .i64 lo, .int .i64 hi, .slice ar r.length cr, .slice ak kids.length ck], .int .i64 cn, .bool (decide (2000 < cn)), Value.agg #[.int .i64 k, .int .i64 m, .int .i64 lo, .int .i64 hi, .slice ar r.length cr, .slice ak kids.length ck], .func (.func 78) #[] #[.pointer (some ⟨w2.heap.size + 1, 0, none⟩)], .int .i64 x.deep, .agg #[.int .i64 x.n.k, .int .i64 x.n.m, .int .i64 x.n.lo, .int .i64 x.n.hi, .slice A x.n.r.length c, .slice none 0 0], undef, undef, undef, undef], defers := [] }) ?hQ1
    (fun pre W => Boxed W w2.heap.size 3 (.int .i64 (deepOf pre)) ∧ Below w.heap.size w W) (fun _ _ _ => False) ?hI ?hIx ?h0 ?hseq ?hassign ?hbody ?hdone ?hstop
   case hlo => rw [hszd]; omega
   case hEs => rintro x W vs ⟨A, c, rfl, _⟩; rfl
   case hQ1 => intro x vs a' W W' h _; exact h
   case hI => intro s A B h hb; exact ⟨(hb.block _ (by rw [hszd]; omega)).trans h.1, h.2.trans (hb.mono (by rw [hszd]; omega))⟩
   case hIx => intro c s A B h; exact h.elim
   case h0 => exact ⟨HDB.out, HBD.out⟩
   case hseq =>
    intro W1 hb1 hs1
    rw [hszd] at hs1
    have := all_seq (.mk k m lo hi r kids) _ w.heap.size (w2.heap.size + 1) W1 (fun _ _ => true) (by omega) (HT.out.move (fun b h => (hb1.block b (by rw [hszd]; omega)).trans (HBD.out.block b h))) ((hb1.block _ (by rw [hszd]; omega)).trans HDN.out) HN.out
    rw [hs1] at this
    exact this
   case hassign =>
    rintro l pre x vs W K hpre hI ⟨A, c, rfl, hR⟩ hs hK
    gi_wp2
    exact hK _ _ (KeptBut.refl _ _ _) hI ⟨A, c, rfl⟩
   case hbody =>
    rintro l pre x vs a' W hpre ⟨hbx, hbel⟩ ⟨A, c, rfl⟩ hs
    have cd := hbx.cell
    have fd := hbx.frozen
    have HBX := Lib.hid hbx
    have HBE := Lib.hid hbel
    have HS := Lib.hid hs
    clear hbx hbel hs
    gi_wp2
    refine ⟨rfl, (KeptBut.refl _ _ W).setCell (p := ⟨w2.heap.size, 0, none⟩) (by simp only; omega) (by rw [hszd]; simp only; omega) _, ?_, HBE.out.setCell (p := ⟨w2.heap.size, 0, none⟩) (by simp only; omega) _⟩
    rw [deepOf_snoc]
    exact HBX.out.set _
   case hdone =>
    rintro W ⟨hbx, hbel⟩ hs hK
    have cd := hbx.cell
    have HBE := Lib.hid hbel
    have HKK := Lib.hid hK
    clear hbx hbel hK
    gi_wp2
    refine ⟨by simp, .inl ⟨_, _, rfl, run_takeDeferred HKK.out, ?_⟩⟩
    refine ⟨_, results_tmp rfl _ _ _, ?_, HBE.out.trans (below_putObj _ _ (by rw [hszd]; omega))⟩
    have hlen := enters_length (NT.mk k m lo hi r kids) 1 0 true true true
    have htk : List.take 2000 (enters (Step.top (NT.mk k m lo hi r kids)).evs) = enters (Step.top (NT.mk k m lo hi r kids)).evs := List.take_of_length_le (by unfold Step.evs Step.top; simp only; rw [hlen]; have := HBIG.out; omega)
    rw [htk]
    unfold depthT
    rw [HTE.out, if_neg HBIG.out]
    rfl
   case hstop => intro c pre W _ h; exact h.elim
end Go.Proofs.YtamhkdlcoghdbaaDoor.PCls
/- Out of TGroups (wip/tools/prune2.py): the declarations alone that the texts of the trees name. -/
namespace Go.Proofs.YtamhkdlcoghdbaaDoor.PCls
open Go.RowKit Go.Shelf Go.Proofs.YtamhkdlcoghdbaaDoorW.PrintWords Go.Proofs.YtamhkdlcoghdbaaDoorW.PrintLast Go.Proofs.YtamhkdlcoghdbaaDoorW.PrintMore
set_option linter.unusedVariables false
set_option linter.unusedSimpArgs false
attribute [local go_sem] Oper.semAt_some
def groupsT (t : NT) : Int := if 2000 < t.nodes then 0 else (groupsIn (enters (Step.top t).evs) : Int)
theorem groupsIn_snoc (l : List Step) (x : Step) : groupsIn (l ++ [x]) = groupsIn l + (if x.n.k = 7 then 1 else 0) := by
 unfold groupsIn
 rw [List.filter_append, List.length_append]
 by_cases h : x.n.k = 7 <;> simp [h]
theorem groupsIn_le (l : List Step) : groupsIn l ≤ l.length := List.length_filter_le _ _
set_option maxHeartbeats 4000000 in
set_option maxRecDepth 100000 in
theorem groups_calls (t : NT) (cs : List Value) (w : World) (hT : NIn w (· < w.heap.size) t cs) (hn : t.nodes < 4611686018427387903) :
  Calls Tryd.prog 26 #[.agg cs.toArray] w fun e w' => e = .returned (.int .i64 (groupsT t)) ∧ Below w.heap.size w w' := by
 have hT0 := hT
 obtain ⟨T, hTe⟩ : ∃ T, T = t := ⟨_, rfl⟩
 cases hT with
 | mk k m lo hi r kids ar ak cr ck csk _ _ _ _ _ _ _ _ _ =>
  rename_i q1 q2 q3 q4 q5 q6 q7 q8 q9
  clear q1 q2 q3 q4 q5 q6 q7 q8 q9
  obtain ⟨C6, hC6⟩ : ∃ C6 : Array Value, C6 = #[.int .i64 k, .int .i64 m, .int .i64 lo, .int .i64 hi, .slice ar r.length cr, .slice ak kids.length ck] := ⟨_, rfl⟩
  have hb1 : Below w.heap.size w (w.alloc (.cells #[.int .i64 k, .int .i64 m, .int .i64 lo, .int .i64 hi, .slice ar r.length cr, .slice ak kids.length ck] 28)) := (Below.refl _ w).alloc (Nat.le_refl _) _
  have hcount := count_calls (.mk k m lo hi r kids) _ (w.alloc (.cells #[.int .i64 k, .int .i64 m, .int .i64 lo, .int .i64 hi, .slice ar r.length cr, .slice ak kids.length ck] 28)) ((hT0.move (fun b h => hb1.block b h)).mono (fun b h => by simp; omega)) hn
  have hnb := World.alloc_heap_new w (.cells #[.int .i64 k, .int .i64 m, .int .i64 lo, .int .i64 hi, .slice ar r.length cr, .slice ak kids.length ck] 28)
  have HC := Lib.hid hcount
  have HB1 := Lib.hid hb1
  have HT := Lib.hid hT0
  have HN := Lib.hid hn
  have HNB := Lib.hid hnb
  have HTE := Lib.hid hTe
  rw [← hTe]
  clear hcount hb1 hT0 hn hnb hTe hC6 C6
  by_cases hbig : 2000 < (NT.mk k m lo hi r kids).nodes
  ·have HBIG := Lib.hid hbig
   have hc1 : countT (.mk k m lo hi r kids) = 2001 := by unfold countT; omega
   rw [hc1] at HC
   clear hbig hc1
   go_enter Tryd.func26, Tryd.ntmps26
   go_wp2_with fail
   refine HC.out.mono ?_
   rintro e w2 ⟨rfl, hb2⟩
   have HB2 := Lib.hid hb2
   clear hb2
   go_wp2
   go_ret
   refine ⟨?_, HB1.out.trans (HB2.out.mono HB1.out.size)⟩
   unfold groupsT
   rw [HTE.out, if_pos HBIG.out]
   rfl
  ·have HBIG := Lib.hid hbig
   have hc1 : countT (.mk k m lo hi r kids) = ((NT.mk k m lo hi r kids).nodes : Int) := by unfold countT; omega
   obtain ⟨cn, hcn⟩ : ∃ cn : Int, cn = ((NT.mk k m lo hi r kids).nodes : Int) := ⟨_, rfl⟩
   rw [hc1, ← hcn] at HC
   have hle : cn ≤ 2000 := by omega
   clear hbig hc1 hcn
   refine (callsIn_wide (n := 9)).1 ?_
   refine callsIn_of_wp_marks Tryd.func26 rfl trivial ?_ rfl
   simp only [Tryd.ntmps26, List.size_toArray, List.length_cons, List.length_nil, Nat.reduceAdd, Nat.reduceSub, Array.replicate_succ, Array.replicate_zero, List.push_toArray, List.append_toArray, List.nil_append, List.cons_append]
   gi_wp2_with fail
   refine ⟨trivial, ?_⟩
   refine (callsIn_wide.2 HC.out).mono ?_
   rintro e w2 ⟨rfl, hb2⟩
   have HB2 := Lib.hid hb2
   have hnb2 := (hb2.block _ (by simp)).trans HNB.out
   have c0 := cell_heap (i := 0) hnb2 rfl
   have c1 := cell_heap (i := 1) hnb2 rfl
   have c2 := cell_heap (i := 2) hnb2 rfl
   have c3 := cell_heap (i := 3) hnb2 rfl
   have c4 := cell_heap (i := 4) hnb2 rfl
   have c5 := cell_heap (i := 5) hnb2 rfl
   have hl2 : w.heap.size < w2.heap.size := by have := hb2.size; simp at this; omega
   have HL2 := Lib.hid hl2
   clear hb2 hnb2
   gi_wp2_with fail
   refine ⟨trivial, ?_⟩
   refine (callsIn_wide.2 (all_calls k m lo hi ar ak r.length cr kids.length ck _)).mono ?_
   rintro e w3 ⟨rfl, rfl⟩
   gi_wp2_with fail
   have HHN := Lib.hid (Below.heap_alloc (w2.alloc (.cells #[.int .i64 0] 3)) (.cells #[.int .i64 k, .int .i64 m, .int .i64 lo, .int .i64 hi, .slice ar r.length cr, .slice ak kids.length ck] 28) w2.heap.size (by simp))
   have hbd : Below w.heap.size w ((w2.alloc (.cells #[.int .i64 0] 3)).alloc (.cells #[.int .i64 k, .int .i64 m, .int .i64 lo, .int .i64 hi, .slice ar r.length cr, .slice ak kids.length ck] 28)) :=
    (((HB1.out.trans (HB2.out.mono HB1.out.size)).alloc (by omega) _).alloc (by simp; omega) _)
   have HBD := Lib.hid hbd
   have hdb : Boxed ((w2.alloc (.cells #[.int .i64 0] 3)).alloc (.cells #[.int .i64 k, .int .i64 m, .int .i64 lo, .int .i64 hi, .slice ar r.length cr, .slice ak kids.length ck] 28)) w2.heap.size 3 (.int .i64 0) := (Boxed.new w2 3 (.int .i64 0)).alloc _
   have hdn := World.alloc_heap_new (w2.alloc (.cells #[.int .i64 0] 3)) (.cells #[.int .i64 k, .int .i64 m, .int .i64 lo, .int .i64 hi, .slice ar r.length cr, .slice ak kids.length ck] 28)
   rw [World.size_alloc] at hdn
   have HDB := Lib.hid hdb
   have HDN := Lib.hid hdn
   clear hbd hdb hdn c0 c1 c2 c3 c4 c5 HC HNB
   have hszd : ((w2.alloc (.cells #[.int .i64 0] 3)).alloc (.cells #[.int .i64 k, .int .i64 m, .int .i64 lo, .int .i64 hi, .slice ar r.length cr, .slice ak kids.length ck] 28)).heap.size = w2.heap.size + 2 := by simp
   refine range_law (n := 9) (lb := #[.pointer (some ⟨w2.heap.size + 1, 0, none⟩)]) rfl (fun args w => enters_ Tryd.func78 (by kernel_rfl) rfl args w) (fun _ _ => true) w.heap.size ?hlo ((enters (Step.top (.mk k m lo hi r kids)).evs).take 2000) (EA (w2.heap.size + 4)) ?hEs
    (fun x vs a' W => ∃ (A : Option Addr) (c Bx : Nat), w2.heap.size + 4 ≤ Bx ∧ W.heap[Bx]? = some (.cells #[.int .i64 x.n.k, .int .i64 x.n.m, .int .i64 x.n.lo, .int .i64 x.n.hi, .slice A x.n.r.length c, .slice none 0 0] 28 (0, 0)) ∧ a' = { tmps := #[Value.agg #[.int .i64 k, .int .i64 m, .int .i64 lo, .int .i64 hi, .slice ar r.length cr, .slice ak kids.length ck], .pointer (some ⟨w.heap.size, 0, none⟩), .int .i64 0, .pointer (some ⟨w2.heap.size, 0, none⟩), undef, .pointer (some ⟨Bx, 0, none⟩), Value.agg #[.int .i64 k, .int .i64 m, .int .i64 lo, .int .i64 hi, .slice ar r.length cr, .slice ak kids.length ck], .int .i64 cn, .bool (decide (2000 < cn)), Value.agg #[.int .i64 k, .int .i64 m, .int .i64 lo, .int .i64 hi, .slice ar r.length cr, .slice ak kids.length ck], .func (.func 78) #[] #[.pointer (some ⟨w2.heap.size + 1, 0, none⟩)], .int .i64 x.deep, .agg #[.int .i64 x.n.k, .int .i64 x.n.m, .int .i64 x.n.lo, .int .i64 x.n.hi, .slice A x.n.r.length c, .slice none 0 0], undef, undef, undef, undef, undef, undef], defers := [] }) ?hQ1
    (fun pre W => Boxed W w2.heap.size 3 (.int .i64 (groupsIn pre : Int)) ∧ Below w.heap.size w W) (fun _ _ _ => False) ?hI ?hIx ?h0 ?hseq ?hassign ?hbody ?hdone ?hstop
   case hlo => rw [hszd]; omega
   case hEs => rintro x W vs ⟨A, c, rfl, _⟩; rfl
   case hQ1 =>
    rintro x vs a' W W' ⟨A, c, Bx, h1, h2, h3⟩ hk
    exact ⟨A, c, Bx, h1, (hk _ (by rw [hszd]; omega)).trans h2, h3⟩
   case hI => intro s A B h hb; exact ⟨(hb.block _ (by rw [hszd]; omega)).trans h.1, h.2.trans (hb.mono (by rw [hszd]; omega))⟩
   case hIx => intro c s A B h; exact h.elim
   case h0 => exact ⟨HDB.out, HBD.out⟩
   case hseq =>
    intro W1 hb1 hs1
    rw [hszd] at hs1
    have := all_seq (.mk k m lo hi r kids) _ w.heap.size (w2.heap.size + 1) W1 (fun _ _ => true) (by omega) (HT.out.move (fun b h => (hb1.block b (by rw [hszd]; omega)).trans (HBD.out.block b h))) ((hb1.block _ (by rw [hszd]; omega)).trans HDN.out) HN.out
    rw [hs1] at this
    exact this
   case hassign =>
    rintro l pre x vs W K hpre ⟨hbx, hbel⟩ ⟨A, c, rfl, hR⟩ hs hK
    have hb : Below W.heap.size W (W.alloc (.cells #[.int .i64 x.n.k, .int .i64 x.n.m, .int .i64 x.n.lo, .int .i64 x.n.hi, .slice A x.n.r.length c, .slice none 0 0] 28)) := (Below.refl _ W).alloc (Nat.le_refl _) _
    have HK := Lib.hid hK
    have HH := Lib.hid (show _ from HK.out { tmps := #[Value.agg #[.int .i64 k, .int .i64 m, .int .i64 lo, .int .i64 hi, .slice ar r.length cr, .slice ak kids.length ck], .pointer (some ⟨w.heap.size, 0, none⟩), .int .i64 0, .pointer (some ⟨w2.heap.size, 0, none⟩), undef, .pointer (some ⟨W.heap.size, 0, none⟩), Value.agg #[.int .i64 k, .int .i64 m, .int .i64 lo, .int .i64 hi, .slice ar r.length cr, .slice ak kids.length ck], .int .i64 cn, .bool (decide (2000 < cn)), Value.agg #[.int .i64 k, .int .i64 m, .int .i64 lo, .int .i64 hi, .slice ar r.length cr, .slice ak kids.length ck], .func (.func 78) #[] #[.pointer (some ⟨w2.heap.size + 1, 0, none⟩)], .int .i64 x.deep, .agg #[.int .i64 x.n.k, .int .i64 x.n.m, .int .i64 x.n.lo, .int .i64 x.n.hi, .slice A x.n.r.length c, .slice none 0 0], undef, undef, undef, undef, undef, undef], defers := [] } _ (KeptBut.of_below hb) ⟨boxed_keep hbx hb, hbel.trans (hb.mono hbel.size)⟩ ⟨A, c, W.heap.size, by rw [hszd] at hs; omega, World.alloc_heap_new W _, rfl⟩)
    clear hK HK hb hbx hbel hR
    gi_wp2
    exact HH.out
   case hbody =>
    rintro l pre x vs a' W hpre ⟨hbx, hbel⟩ ⟨A, c, Bx, hBx, hxb, rfl⟩ hs
    have hl : pre.length < 2000 := by
     have := hpre.length_le
     simp only [List.length_append, List.length_cons, List.length_nil, List.length_take] at this
     omega
    have hg := groupsIn_le pre
    have hw : wrap64 ((groupsIn pre : Int) + 1) = (groupsIn pre : Int) + 1 := w64_lit _ (by omega) (by omega)
    have cd := hbx.cell
    have fd := hbx.frozen
    have cx := cell_heap (i := 0) hxb rfl
    have HBX := Lib.hid hbx
    have HBE := Lib.hid hbel
    have HS := Lib.hid hs
    clear hbx hbel hs hxb hl hg
    by_cases h7 : x.n.k = 7
    ·rw [h7] at cx
     have H7 := Lib.hid h7
     clear h7
     gi_wp2
     refine ⟨rfl, (KeptBut.refl _ _ W).setCell (p := ⟨w2.heap.size, 0, none⟩) (by simp only; omega) (by rw [hszd]; simp only; omega) _, ?_, HBE.out.setCell (p := ⟨w2.heap.size, 0, none⟩) (by simp only; omega) _⟩
     rw [groupsIn_snoc, if_pos H7.out]
     exact HBX.out.set _
    ·have h72 : (x.n.k == 7) = false := beq_eq_false_iff_ne.2 h7
     have H7 := Lib.hid h7
     clear h7
     gi_wp2
     refine ⟨rfl, KeptBut.refl _ _ W, ?_, HBE.out⟩
     rw [groupsIn_snoc, if_neg H7.out]
     exact HBX.out
   case hdone =>
    rintro W ⟨hbx, hbel⟩ hs hK
    have cd := hbx.cell
    have HBE := Lib.hid hbel
    have HKK := Lib.hid hK
    clear hbx hbel hK
    gi_wp2
    refine ⟨by simp, .inl ⟨_, _, rfl, run_takeDeferred HKK.out, ?_⟩⟩
    refine ⟨_, results_tmp rfl _ _ _, ?_, HBE.out.trans (below_putObj _ _ (by rw [hszd]; omega))⟩
    have hlen := enters_length (NT.mk k m lo hi r kids) 1 0 true true true
    have htk : List.take 2000 (enters (Step.top (NT.mk k m lo hi r kids)).evs) = enters (Step.top (NT.mk k m lo hi r kids)).evs := List.take_of_length_le (by unfold Step.evs Step.top; simp only; rw [hlen]; have := HBIG.out; omega)
    rw [htk]
    unfold groupsT
    rw [HTE.out, if_neg HBIG.out]
    rfl
   case hstop => intro c pre W _ h; exact h.elim
end Go.Proofs.YtamhkdlcoghdbaaDoor.PCls
