/- Put together (wip/tools/pack.py): QTDepth, QTGroups, QLd, QLq, QLr, QNx. -/
import Derived.Test.YtamhkdlcoghdbaaGreatDoorVMQPu
/- Out of TDepth (wip/tools/prune2.py): the declarations alone that the texts of the trees name. -/
namespace Go.Proofs.YtamhkdlcoghdbaaGreatDoor.PCls
open Go.RowKit Go.Shelf Go.Proofs.YtamhkdlcoghdbaaGreatDoorW.PrintWords Go.Proofs.YtamhkdlcoghdbaaGreatDoorW.PrintLast Go.Proofs.YtamhkdlcoghdbaaGreatDoorW.PrintMore
set_option linter.unusedVariables false
set_option linter.unusedSimpArgs false
attribute [local go_sem] Oper.semAt_some
set_option maxHeartbeats 2000000 in
theorem all_calls (k m lo hi : Int) (ar ak : Option Addr) (lr cr lk ck : Nat) (w : World) :
  Calls Tryz.prog 56 #[.agg #[.int .i64 k, .int .i64 m, .int .i64 lo, .int .i64 hi, .slice ar lr cr, .slice ak lk ck]] w fun e w' => e = .returned (.func (.func 112) #[] #[.pointer (some ⟨w.heap.size, 0, none⟩)]) ∧ w' = w.alloc (.cells #[.int .i64 k, .int .i64 m, .int .i64 lo, .int .i64 hi, .slice ar lr cr, .slice ak lk ck] 43) := by
 go_enter Tryz.func56, Tryz.ntmps56
 go_wp2
 go_ret
 exact ⟨rfl, rfl⟩
/-- the deepest of some nodes -/
def deepOf (l : List Step) : Int := l.foldl (fun d s => max d s.deep) 0
theorem deepOf_snoc (l : List Step) (x : Step) : deepOf (l ++ [x]) = max (deepOf l) x.deep := by unfold deepOf; rw [List.foldl_append]; rfl
def depthT (t : NT) : Int := if 2000 < t.nodes then 0 else deepOf (enters (Step.top t).evs)
set_option maxHeartbeats 4000000 in
set_option maxRecDepth 100000 in
theorem depth_calls (t : NT) (cs : List Value) (w : World) (hT : NIn w (· < w.heap.size) t cs) (hn : t.nodes < 4611686018427387903) :
  Calls Tryz.prog 24 #[.agg cs.toArray] w fun e w' => e = .returned (.int .i64 (depthT t)) ∧ Below w.heap.size w w' := by
 have hT0 := hT
 obtain ⟨T, hTe⟩ : ∃ T, T = t := ⟨_, rfl⟩
 cases hT with
 | mk k m lo hi r kids ar ak cr ck csk _ _ _ _ _ _ _ _ _ =>
  rename_i q1 q2 q3 q4 q5 q6 q7 q8 q9
  clear q1 q2 q3 q4 q5 q6 q7 q8 q9
  obtain ⟨C6, hC6⟩ : ∃ C6 : Array Value, C6 = #[.int .i64 k, .int .i64 m, .int .i64 lo, .int .i64 hi, .slice ar r.length cr, .slice ak kids.length ck] := ⟨_, rfl⟩
  have hb1 : Below w.heap.size w (w.alloc (.cells #[.int .i64 k, .int .i64 m, .int .i64 lo, .int .i64 hi, .slice ar r.length cr, .slice ak kids.length ck] 43)) := (Below.refl _ w).alloc (Nat.le_refl _) _
  have hcount := count_calls (.mk k m lo hi r kids) _ (w.alloc (.cells #[.int .i64 k, .int .i64 m, .int .i64 lo, .int .i64 hi, .slice ar r.length cr, .slice ak kids.length ck] 43)) ((hT0.move (fun b h => hb1.block b h)).mono (fun b h => by simp; omega)) hn
  have hnb := World.alloc_heap_new w (.cells #[.int .i64 k, .int .i64 m, .int .i64 lo, .int .i64 hi, .slice ar r.length cr, .slice ak kids.length ck] 43)
  have HC := Lib.hid hcount
  have HB1 := Lib.hid hb1
  have HT := Lib.hid hT0
  have HN := Lib.hid hn
  have HNB := Lib.hid hnb
  have HTE := Lib.hid hTe
  rw [← hTe]
  clear hcount hb1 hT0 hn hnb hTe hC6 C6
  by_cases hbig : 2000 < (NT.mk k m lo hi r kids).nodes
  ·have HBIG := Lib.hid hbig
   have hc1 : countT (.mk k m lo hi r kids) = 2001 := by unfold countT; omega
   rw [hc1] at HC
   clear hbig hc1
   go_enter Tryz.func24, Tryz.ntmps24
   go_wp2_with fail
   refine HC.out.mono ?_
   rintro e w2 ⟨rfl, hb2⟩
   have HB2 := Lib.hid hb2
   clear hb2
   go_wp2
   go_ret
   refine ⟨?_, HB1.out.trans (HB2.out.mono HB1.out.size)⟩
   unfold depthT
   rw [HTE.out, if_pos HBIG.out]
   rfl
  ·have HBIG := Lib.hid hbig
   have hc1 : countT (.mk k m lo hi r kids) = ((NT.mk k m lo hi r kids).nodes : Int) := by unfold countT; omega
   obtain ⟨cn, hcn⟩ : ∃ cn : Int, cn = ((NT.mk k m lo hi r kids).nodes : Int) := ⟨_, rfl⟩
   rw [hc1, ← hcn] at HC
   have hle : cn ≤ 2000 := by omega
   clear hbig hc1 hcn
   refine (callsIn_wide (n := 9)).1 ?_
   refine callsIn_of_wp_marks Tryz.func24 rfl trivial ?_ rfl
   simp only [Tryz.ntmps24, List.size_toArray, List.length_cons, List.length_nil, Nat.reduceAdd, Nat.reduceSub, Array.replicate_succ, Array.replicate_zero, List.push_toArray, List.append_toArray, List.nil_append, List.cons_append]
   gi_wp2_with fail
   refine ⟨trivial, ?_⟩
   refine (callsIn_wide.2 HC.out).mono ?_
   rintro e w2 ⟨rfl, hb2⟩
   have HB2 := Lib.hid hb2
   have hnb2 := (hb2.block _ (by simp)).trans HNB.out
   have c0 := cell_heap (i := 0) hnb2 rfl
   have c1 := cell_heap (i := 1) hnb2 rfl
   have c2 := cell_heap (i := 2) hnb2 rfl
   have c3 := cell_heap (i := 3) hnb2 rfl
   have c4 := cell_heap (i := 4) hnb2 rfl
   have c5 := cell_heap (i := 5) hnb2 rfl
   have hl2 : w.heap.size < w2.heap.size := by have := hb2.size; simp at this; omega
   have HL2 := Lib.hid hl2
   clear hb2 hnb2
   gi_wp2_with fail
   refine ⟨trivial, ?_⟩
   refine (callsIn_wide.2 (all_calls k m lo hi ar ak r.length cr kids.length ck _)).mono ?_
   rintro e w3 ⟨rfl, rfl⟩
   gi_wp2_with fail
   have HHN := Lib.hid (Below.heap_alloc (w2.alloc (.cells #[.int .i64 0] 3)) (.cells #[.int .i64 k, .int .i64 m, .int .i64 lo, .int .i64 hi, .slice ar r.length cr, .slice ak kids.length ck] 43) w2.heap.size (by simp))
   have hbd : Below w.heap.size w ((w2.alloc (.cells #[.int .i64 0] 3)).alloc (.cells #[.int .i64 k, .int .i64 m, .int .i64 lo, .int .i64 hi, .slice ar r.length cr, .slice ak kids.length ck] 43)) :=
    (((HB1.out.trans (HB2.out.mono HB1.out.size)).alloc (by omega) _).alloc (by simp; omega) _)
   have HBD := Lib.hid hbd
   have hdb : Boxed ((w2.alloc (.cells #[.int .i64 0] 3)).alloc (.cells #[.int .i64 k, .int .i64 m, .int .i64 lo, .int .i64 hi, .slice ar r.length cr, .slice ak kids.length ck] 43)) w2.heap.size 3 (.int .i64 0) := (Boxed.new w2 3 (.int .i64 0)).alloc _
   have hdn := World.alloc_heap_new (w2.alloc (.cells #[.int .i64 0] 3)) (.cells #[.int .i64 k, .int .i64 m, .int .i64 lo, .int .i64 hi, .slice ar r.length cr, .slice ak kids.length ck] 43)
   rw [World.size_alloc] at hdn
   have HDB := Lib.hid hdb
   have HDN := Lib.hid hdn
   clear hbd hdb hdn c0 c1 c2 c3 c4 c5 HC HNB
   have hszd : ((w2.alloc (.cells #[.int .i64 0] 3)).alloc (.cells #[.int .i64 k, .int .i64 m, .int .i64 lo, .int .i64 hi, .slice ar r.length cr, .slice ak kids.length ck] 43)).heap.size = w2.heap.size + 2 := by simp
   refine range_law (n := 9) (lb := #[.pointer (some ⟨w2.heap.size + 1, 0, none⟩)]) rfl (fun args w => enters_ Tryz.func112 (by kernel_rfl) rfl args w) (fun _ _ => true) w.heap.size ?hlo ((enters (Step.top (.mk k m lo hi r kids)).evs).take 2000) (EA (w2.heap.size + 4)) ?hEs
    (fun x vs a' W => ∃ (A : Option Addr) (c : Nat), a' = { tmps := #[Value.agg #[.int .i64 k, .int .i64 m, .int .i64 lo, .int .i64 hi, .slice ar r.length cr, .slice ak kids.length ck], .pointer (some ⟨w.heap.size, 0, none⟩), .int .i64 0, .pointer (some ⟨w2.heap.size, 0, none⟩), .int .i64 x.deep, Value.agg #[.int .i64 k, .int .i64 m, .int .i64 lo, .int .i64 hi, .slice ar r.length cr, .slice ak kids.length ck], .int .i64 cn, .bool (decide (2000 < cn)), Value.agg #[.int .i64 k, .int .i64 m, .int .i64 lo, .int .i64 hi, .slice ar r.length cr, .slice ak kids.length ck], .func (.func 112) #[] #[.pointer (some ⟨w2.heap.size + 1, 0, none⟩)], .int .i64 x.deep, .agg #[.int .i64 x.n.k, .int .i64 x.n.m, .int .i64 x.n.lo, .int .i64 x.n.hi, .slice A x.n.r.length c, .slice none 0 0], undef, undef, undef, undef], defers := [] }) ?hQ1
    (fun pre W => Boxed W w2.heap.size 3 (.int .i64 (deepOf pre)) ∧ Below w.heap.size w W) (fun _ _ _ => False) ?hI ?hIx ?h0 ?hseq ?hassign ?hbody ?hdone ?hstop
   case hlo => rw [hszd]; omega
   case hEs => rintro x W vs ⟨A, c, rfl, _⟩; rfl
   case hQ1 => intro x vs a' W W' h _; exact h
   case hI => intro s A B h hb; exact ⟨(hb.block _ (by rw [hszd]; omega)).trans h.1, h.2.trans (hb.mono (by rw [hszd]; omega))⟩
   case hIx => intro c s A B h; exact h.elim
   case h0 => exact ⟨HDB.out, HBD.out⟩
   case hseq =>
    intro W1 hb1 hs1
    rw [hszd] at hs1
    have := all_seq (.mk k m lo hi r kids) _ w.heap.size (w2.heap.size + 1) W1 (fun _ _ => true) (by omega) (HT.out.move (fun b h => (hb1.block b (by rw [hszd]; omega)).trans (HBD.out.block b h))) ((hb1.block _ (by rw [hszd]; omega)).trans HDN.out) HN.out
    rw [hs1] at this
    exact this
   case hassign =>
    rintro l pre x vs W K hpre hI ⟨A, c, rfl, hR⟩ hs hK
    gi_wp2
    exact hK _ _ (KeptBut.refl _ _ _) hI ⟨A, c, rfl⟩
   case hbody =>
    rintro l pre x vs a' W hpre ⟨hbx, hbel⟩ ⟨A, c, rfl⟩ hs
    have cd := hbx.cell
    have fd := hbx.frozen
    have HBX := Lib.hid hbx
    have HBE := Lib.hid hbel
    have HS := Lib.hid hs
    clear hbx hbel hs
    gi_wp2
    refine ⟨rfl, (KeptBut.refl _ _ W).setCell (p := ⟨w2.heap.size, 0, none⟩) (by simp only; omega) (by rw [hszd]; simp only; omega) _, ?_, HBE.out.setCell (p := ⟨w2.heap.size, 0, none⟩) (by simp only; omega) _⟩
    rw [deepOf_snoc]
    exact HBX.out.set _
   case hdone =>
    rintro W ⟨hbx, hbel⟩ hs hK
    have cd := hbx.cell
    have HBE := Lib.hid hbel
    have HKK := Lib.hid hK
    clear hbx hbel hK
    gi_wp2
    refine ⟨by simp, .inl ⟨_, _, rfl, run_takeDeferred HKK.out, ?_⟩⟩
    refine ⟨_, results_tmp rfl _ _ _, ?_, HBE.out.trans (below_putObj _ _ (by rw [hszd]; omega))⟩
    have hlen := enters_length (NT.mk k m lo hi r kids) 1 0 true true true
    have htk : List.take 2000 (enters (Step.top (NT.mk k m lo hi r kids)).evs) = enters (Step.top (NT.mk k m lo hi r kids)).evs := List.take_of_length_le (by unfold Step.evs Step.top; simp only; rw [hlen]; have := HBIG.out; omega)
    rw [htk]
    unfold depthT
    rw [HTE.out, if_neg HBIG.out]
    rfl
   case hstop => intro c pre W _ h; exact h.elim
end Go.Proofs.YtamhkdlcoghdbaaGreatDoor.PCls
/- Out of TGroups (wip/tools/prune2.py): the declarations alone that the texts of the trees name. -/
namespace Go.Proofs.YtamhkdlcoghdbaaGreatDoor.PCls
open Go.RowKit Go.Shelf Go.Proofs.YtamhkdlcoghdbaaGreatDoorW.PrintWords Go.Proofs.YtamhkdlcoghdbaaGreatDoorW.PrintLast Go.Proofs.YtamhkdlcoghdbaaGreatDoorW.PrintMore
set_option linter.unusedVariables false
set_option linter.unusedSimpArgs false
attribute [local go_sem] Oper.semAt_some
def groupsT (t : NT) : Int := if 2000 < t.nodes then 0 else (groupsIn (enters (Step.top t).evs) : Int)
theorem groupsIn_snoc (l : List Step) (x : Step) : groupsIn (l ++ [x]) = groupsIn l + (if x.n.k = 7 then 1 else 0) := by
 unfold groupsIn
 rw [List.filter_append, List.length_append]
 by_cases h : x.n.k = 7 <;> simp [h]
theorem groupsIn_le (l : List Step) : groupsIn l ≤ l.length := List.length_filter_le _ _
set_option maxHeartbeats 4000000 in
set_option maxRecDepth 100000 in
theorem groups_calls (t : NT) (cs : List Value) (w : World) (hT : NIn w (· < w.heap.size) t cs) (hn : t.nodes < 4611686018427387903) :
  Calls Tryz.prog 23 #[.agg cs.toArray] w fun e w' => e = .returned (.int .i64 (groupsT t)) ∧ Below w.heap.size w w' := by
 have hT0 := hT
 obtain ⟨T, hTe⟩ : ∃ T, T = t := ⟨_, rfl⟩
 cases hT with
 | mk k m lo hi r kids ar ak cr ck csk _ _ _ _ _ _ _ _ _ =>
  rename_i q1 q2 q3 q4 q5 q6 q7 q8 q9
  clear q1 q2 q3 q4 q5 q6 q7 q8 q9
  obtain ⟨C6, hC6⟩ : ∃ C6 : Array Value, C6 = #[.int .i64 k, .int .i64 m, .int .i64 lo, .int .i64 hi, .slice ar r.length cr, .slice ak kids.length ck] := ⟨_, rfl⟩
  have hb1 : Below w.heap.size w (w.alloc (.cells #[.int .i64 k, .int .i64 m, .int .i64 lo, .int .i64 hi, .slice ar r.length cr, .slice ak kids.length ck] 43)) := (Below.refl _ w).alloc (Nat.le_refl _) _
  have hcount := count_calls (.mk k m lo hi r kids) _ (w.alloc (.cells #[.int .i64 k, .int .i64 m, .int .i64 lo, .int .i64 hi, .slice ar r.length cr, .slice ak kids.length ck] 43)) ((hT0.move (fun b h => hb1.block b h)).mono (fun b h => by simp; omega)) hn
  have hnb := World.alloc_heap_new w (.cells #[.int .i64 k, .int .i64 m, .int .i64 lo, .int .i64 hi, .slice ar r.length cr, .slice ak kids.length ck] 43)
  have HC := Lib.hid hcount
  have HB1 := Lib.hid hb1
  have HT := Lib.hid hT0
  have HN := Lib.hid hn
  have HNB := Lib.hid hnb
  have HTE := Lib.hid hTe
  rw [← hTe]
  clear hcount hb1 hT0 hn hnb hTe hC6 C6
  by_cases hbig : 2000 < (NT.mk k m lo hi r kids).nodes
  ·have HBIG := Lib.hid hbig
   have hc1 : countT (.mk k m lo hi r kids) = 2001 := by unfold countT; omega
   rw [hc1] at HC
   clear hbig hc1
   go_enter Tryz.func23, Tryz.ntmps23
   go_wp2_with fail
   refine HC.out.mono ?_
   rintro e w2 ⟨rfl, hb2⟩
   have HB2 := Lib.hid hb2
   clear hb2
   go_wp2
   go_ret
   refine ⟨?_, HB1.out.trans (HB2.out.mono HB1.out.size)⟩
   unfold groupsT
   rw [HTE.out, if_pos HBIG.out]
   rfl
  ·have HBIG := Lib.hid hbig
   have hc1 : countT (.mk k m lo hi r kids) = ((NT.mk k m lo hi r kids).nodes : Int) := by unfold countT; omega
   obtain ⟨cn, hcn⟩ : ∃ cn : Int, cn = ((NT.mk k m lo hi r kids).nodes : Int) := ⟨_, rfl⟩
   rw [hc1, ← hcn] at HC
   have hle : cn ≤ 2000 := by omega
   clear hbig hc1 hcn
   refine (callsIn_wide (n := 9)).1 ?_
   refine callsIn_of_wp_marks Tryz.func23 rfl trivial ?_ rfl
   simp only [Tryz.ntmps23, List.size_toArray, List.length_cons, List.length_nil, Nat.reduceAdd, Nat.reduceSub, Array.replicate_succ, Array.replicate_zero, List.push_toArray, List.append_toArray, List.nil_append, List.cons_append]
   gi_wp2_with fail
   refine ⟨trivial, ?_⟩
   refine (callsIn_wide.2 HC.out).mono ?_
   rintro e w2 ⟨rfl, hb2⟩
   have HB2 := Lib.hid hb2
   have hnb2 := (hb2.block _ (by simp)).trans HNB.out
   have c0 := cell_heap (i := 0) hnb2 rfl
   have c1 := cell_heap (i := 1) hnb2 rfl
   have c2 := cell_heap (i := 2) hnb2 rfl
   have c3 := cell_heap (i := 3) hnb2 rfl
   have c4 := cell_heap (i := 4) hnb2 rfl
   have c5 := cell_heap (i := 5) hnb2 rfl
   have hl2 : w.heap.size < w2.heap.size := by have := hb2.size; simp at this; omega
   have HL2 := Lib.hid hl2
   clear hb2 hnb2
   gi_wp2_with fail
   refine ⟨trivial, ?_⟩
   refine (callsIn_wide.2 (all_calls k m lo hi ar ak r.length cr kids.length ck _)).mono ?_
   rintro e w3 ⟨rfl, rfl⟩
   gi_wp2_with fail
   have HHN := Lib.hid (Below.heap_alloc (w2.alloc (.cells #[.int .i64 0] 3)) (.cells #[.int .i64 k, .int .i64 m, .int .i64 lo, .int .i64 hi, .slice ar r.length cr, .slice ak kids.length ck] 43) w2.heap.size (by simp))
   have hbd : Below w.heap.size w ((w2.alloc (.cells #[.int .i64 0] 3)).alloc (.cells #[.int .i64 k, .int .i64 m, .int .i64 lo, .int .i64 hi, .slice ar r.length cr, .slice ak kids.length ck] 43)) :=
    (((HB1.out.trans (HB2.out.mono HB1.out.size)).alloc (by omega) _).alloc (by simp; omega) _)
   have HBD := Lib.hid hbd
   have hdb : Boxed ((w2.alloc (.cells #[.int .i64 0] 3)).alloc (.cells #[.int .i64 k, .int .i64 m, .int .i64 lo, .int .i64 hi, .slice ar r.length cr, .slice ak kids.length ck] 43)) w2.heap.size 3 (.int .i64 0) := (Boxed.new w2 3 (.int .i64 0)).alloc _
   have hdn := World.alloc_heap_new (w2.alloc (.cells #[.int .i64 0] 3)) (.cells #[.int .i64 k, .int .i64 m, .int .i64 lo, .int .i64 hi, .slice ar r.length cr, .slice ak kids.length ck] 43)
   rw [World.size_alloc] at hdn
   have HDB := Lib.hid hdb
   have HDN := Lib.hid hdn
   clear hbd hdb hdn c0 c1 c2 c3 c4 c5 HC HNB
   have hszd : ((w2.alloc (.cells #[.int .i64 0] 3)).alloc (.cells #[.int .i64 k, .int .i64 m, .int .i64 lo, .int .i64 hi, .slice ar r.length cr, .slice ak kids.length ck] 43)).heap.size = w2.heap.size + 2 := by simp
   refine range_law (n := 9) (lb := #[.pointer (some ⟨w2.heap.size + 1, 0, none⟩)]) rfl (fun args w => enters_ Tryz.func112 (by kernel_rfl) rfl args w) (fun _ _ => true) w.heap.size ?hlo ((enters (Step.top (.mk k m lo hi r kids)).evs).take 2000) (EA (w2.heap.size + 4)) ?hEs
    (fun x vs a' W => ∃ (A : Option Addr) (c Bx : Nat), w2.heap.size + 4 ≤ Bx ∧ W.heap[Bx]? = some (.cells #[.int .i64 x.n.k, .int .i64 x.n.m, .int .i64 x.n.lo, .int .i64 x.n.hi, .slice A x.n.r.length c, .slice none 0 0] 43 (0, 0)) ∧ a' = { tmps := #[Value.agg #[.int .i64 k, .int .i64 m, .int .i64 lo, .int .i64 hi, .slice ar r.length cr, .slice ak kids.length ck], .pointer (some ⟨w.heap.size, 0, none⟩), .int .i64 0, .pointer (some ⟨w2.heap.size, 0, none⟩), undef, .pointer (some ⟨Bx, 0, none⟩), Value.agg #[.int .i64 k, .int .i64 m, .int .i64 lo, .int .i64 hi, .slice ar r.length cr, .slice ak kids.length ck], .int .i64 cn, .bool (decide (2000 < cn)), Value.agg #[.int .i64 k, .int .i64 m, .int .i64 lo, .int .i64 hi, .slice ar r.length cr, .slice ak kids.length ck], .func (.func 112) #[] #[.pointer (some ⟨w2.heap.size + 1, 0, none⟩)], .int .i64 x.deep, .agg #[.int .i64 x.n.k, .int .i64 x.n.m, .int .i64 x.n.lo, .int .i64 x.n.hi, .slice A x.n.r.length c, .slice none 0 0], undef, undef, undef, undef, undef, undef], defers := [] }) ?hQ1
    (fun pre W => Boxed W w2.heap.size 3 (.int .i64 (groupsIn pre : Int)) ∧ Below w.heap.size w W) (fun _ _ _ => False) ?hI ?hIx ?h0 ?hseq ?hassign ?hbody ?hdone ?hstop
   case hlo => rw [hszd]; omega
   case hEs => rintro x W vs ⟨A, c, rfl, _⟩; rfl
   case hQ1 =>
    rintro x vs a' W W' ⟨A, c, Bx, h1, h2, h3⟩ hk
    exact ⟨A, c, Bx, h1, (hk _ (by rw [hszd]; omega)).trans h2, h3⟩
   case hI => intro s A B h hb; exact ⟨(hb.block _ (by rw [hszd]; omega)).trans h.1, h.2.trans (hb.mono (by rw [hszd]; omega))⟩
   case hIx => intro c s A B h; exact h.elim
   case h0 => exact ⟨HDB.out, HBD.out⟩
   case hseq =>
    intro W1 hb1 hs1
    rw [hszd] at hs1
    have := all_seq (.mk k m lo hi r kids) _ w.heap.size (w2.heap.size + 1) W1 (fun _ _ => true) (by omega) (HT.out.move (fun b h => (hb1.block b (by rw [hszd]; omega)).trans (HBD.out.block b h))) ((hb1.block _ (by rw [hszd]; omega)).trans HDN.out) HN.out
    rw [hs1] at this
    exact this
   case hassign =>
    rintro l pre x vs W K hpre ⟨hbx, hbel⟩ ⟨A, c, rfl, hR⟩ hs hK
    have hb : Below W.heap.size W (W.alloc (.cells #[.int .i64 x.n.k, .int .i64 x.n.m, .int .i64 x.n.lo, .int .i64 x.n.hi, .slice A x.n.r.length c, .slice none 0 0] 43)) := (Below.refl _ W).alloc (Nat.le_refl _) _
    have HK := Lib.hid hK
    have HH := Lib.hid (show _ from HK.out { tmps := #[Value.agg #[.int .i64 k, .int .i64 m, .int .i64 lo, .int .i64 hi, .slice ar r.length cr, .slice ak kids.length ck], .pointer (some ⟨w.heap.size, 0, none⟩), .int .i64 0, .pointer (some ⟨w2.heap.size, 0, none⟩), undef, .pointer (some ⟨W.heap.size, 0, none⟩), Value.agg #[.int .i64 k, .int .i64 m, .int .i64 lo, .int .i64 hi, .slice ar r.length cr, .slice ak kids.length ck], .int .i64 cn, .bool (decide (2000 < cn)), Value.agg #[.int .i64 k, .int .i64 m, .int .i64 lo, .int .i64 hi, .slice ar r.length cr, .slice ak kids.length ck], .func (.func 112) #[] #[.pointer (some ⟨w2.heap.size + 1, 0, none⟩)], .int .i64 x.deep, .agg #[.int .i64 x.n.k, .int .i64 x.n.m, .int .i64 x.n.lo, .int .i64 x.n.hi, .slice A x.n.r.length c, .slice none 0 0], undef, undef, undef, undef, undef, undef], defers := [] } _ (KeptBut.of_below hb) ⟨boxed_keep hbx hb, hbel.trans (hb.mono hbel.size)⟩ ⟨A, c, W.heap.size, by rw [hszd] at hs; omega, World.alloc_heap_new W _, rfl⟩)
    clear hK HK hb hbx hbel hR
    gi_wp2
    exact HH.out
   case hbody =>
    rintro l pre x vs a' W hpre ⟨hbx, hbel⟩ ⟨A, c, Bx, hBx, hxb, rfl⟩ hs
    have hl : pre.length < 2000 := by
     have := hpre.length_le
     simp only [List.length_append, List.length_cons, List.length_nil, List.length_take] at this
     omega
    have hg := groupsIn_le pre
    have hw : wrap64 ((groupsIn pre : Int) + 1) = (groupsIn pre : Int) + 1 := w64_lit _ (by omega) (by omega)
    have cd := hbx.cell
    have fd := hbx.frozen
    have cx := cell_heap (i := 0) hxb rfl
    have HBX := Lib.hid hbx
    have HBE := Lib.hid hbel
    have HS := Lib.hid hs
    clear hbx hbel hs hxb hl hg
    by_cases h7 : x.n.k = 7
    ·rw [h7] at cx
     have H7 := Lib.hid h7
     clear h7
     gi_wp2
     refine ⟨rfl, (KeptBut.refl _ _ W).setCell (p := ⟨w2.heap.size, 0, none⟩) (by simp only; omega) (by rw [hszd]; simp only; omega) _, ?_, HBE.out.setCell (p := ⟨w2.heap.size, 0, none⟩) (by simp only; omega) _⟩
     rw [groupsIn_snoc, if_pos H7.out]
     exact HBX.out.set _
    ·have h72 : (x.n.k == 7) = false := beq_eq_false_iff_ne.2 h7
     have H7 := Lib.hid h7
     clear h7
     gi_wp2
     refine ⟨rfl, KeptBut.refl _ _ W, ?_, HBE.out⟩
     rw [groupsIn_snoc, if_neg H7.out]
     exact HBX.out
   case hdone =>
    rintro W ⟨hbx, hbel⟩ hs hK
    have cd := hbx.cell
    have HBE := Lib.hid hbel
    have HKK := Lib.hid hK
    clear hbx hbel hK
    gi_wp2
    refine ⟨by simp, .inl ⟨_, _, rfl, run_takeDeferred HKK.out, ?_⟩⟩
    refine ⟨_, results_tmp rfl _ _ _, ?_, HBE.out.trans (below_putObj _ _ (by rw [hszd]; omega))⟩
    have hlen := enters_length (NT.mk k m lo hi r kids) 1 0 true true true
    have htk : List.take 2000 (enters (Step.top (NT.mk k m lo hi r kids)).evs) = enters (Step.top (NT.mk k m lo hi r kids)).evs := List.take_of_length_le (by unfold Step.evs Step.top; simp only; rw [hlen]; have := HBIG.out; omega)
    rw [htk]
    unfold groupsT
    rw [HTE.out, if_neg HBIG.out]
    rfl
   case hstop => intro c pre W _ h; exact h.elim
end Go.Proofs.YtamhkdlcoghdbaaGreatDoor.PCls
/- Out of Ld (wip/tools/prune2.py): the declarations alone that the texts of the trees name. -/
namespace Go.Proofs.YtamhkdlcoghdbaaGreatDoor.PCls
open Go.RowKit Go.Shelf Go.Proofs.YtamhkdlcoghdbaaGreatDoorW.PrintWords Go.Proofs.YtamhkdlcoghdbaaGreatDoorW.PrintLast Go.Proofs.YtamhkdlcoghdbaaGreatDoorW.PrintMore
set_option linter.unusedVariables false
set_option linter.unusedSimpArgs false
def ten : ByteArray := ⟨#[48, 49, 50, 51, 52, 53, 54, 55, 56, 57]⟩
/-- a number's digits, of at most k places -/
def dig : Nat → Nat → ByteArray
 | 0, n => ByteArray.empty
 | k + 1, n => if n < 10 then ten.extract n (n + 1) else dig k (n / 10) ++ ten.extract (n % 10) (n % 10 + 1)
theorem dig_succ (k n : Nat) : dig (k + 1) n = if n < 10 then ten.extract n (n + 1) else dig k (n / 10) ++ ten.extract (n % 10) (n % 10 + 1) := rfl
theorem dig_size : ∀ (k n : Nat), (dig k n).size ≤ k
 | 0, n => by simp [dig]
 | k + 1, n => by
  have ih := dig_size k (n / 10)
  unfold dig
  split
  ·rw [ByteArray.size_extract]; omega
  ·rw [ByteArray.size_append, ByteArray.size_extract]; omega
set_option maxHeartbeats 2000000 in
set_option maxRecDepth 100000 in
theorem digits_nat : ∀ (k n : Nat) (w : World), k ≤ 20 → n < 10 ^ k → n ≤ 9223372036854775807 → 0 < k → Calls Tryz.prog 27 #[.int .i64 n] w fun e w' => e = .returned (.string (dig k n)) ∧ Below w.heap.size w w' := by
 intro k
 induction k with
 | zero => intro n w hk hn h63 h0; omega
 | succ k ih =>
  intro n w hk hn h63 _
  have hi0 : (0 : Int) ≤ (n : Int) := by omega
  have hi9 : (n : Int) ≤ 9223372036854775807 := by omega
  by_cases h10 : n < 10
  ·have hX := Lib.hid (show dig (k + 1) n = ten.extract n (n + 1) by rw [dig_succ, if_pos h10])
   have h1 : (n : Int) < 10 := by omega
   have h2 : (n : Int) + 1 ≤ 10 := by omega
   have h3 : (n : Int) ≤ (n : Int) + 1 := by omega
   clear ih hn
   go_enter Tryz.func27, Tryz.ntmps27
   go_wp2_with fail
   go_ret
   exact ⟨by rw [hX.out]; rfl, Below.refl _ _⟩
  ·have hX := Lib.hid (show dig (k + 1) n = dig k (n / 10) ++ ten.extract (n % 10) (n % 10 + 1) by rw [dig_succ, if_neg h10])
   have hk0 : 0 < k := by
    rcases Nat.eq_zero_or_pos k with rfl | h
    ·simp at hn; omega
    ·exact h
   have hd : n / 10 < 10 ^ k := by
    have : n < 10 ^ k * 10 := by rw [← Nat.pow_succ]; exact hn
    omega
   have HI := Lib.hid (fun w => ih (n / 10) w (by omega) hd (by omega) hk0)
   have h1 : ¬ (n : Int) < 10 := by omega
   obtain ⟨q, hq⟩ : ∃ q, q = n / 10 := ⟨_, rfl⟩
   obtain ⟨r, hr⟩ : ∃ r, r = n % 10 := ⟨_, rfl⟩
   have hqv : wrap64 ((n : Int) / 10) = (q : Int) := (w64_in _ (by omega) (by omega)).trans (by omega)
   have hrv : (n : Int).tmod 10 = (r : Int) := by rw [Int.tmod_eq_emod_of_nonneg hi0]; omega
   have hrw : wrap64 ((r : Int) + 1) = (r : Int) + 1 := w64_in _ (by omega) (by omega)
   have r0 : (0 : Int) ≤ (r : Int) := by omega
   have r1 : (r : Int) ≤ (r : Int) + 1 := by omega
   have r2 : (r : Int) + 1 ≤ 10 := by omega
   rw [← hq, ← hr] at hX
   rw [← hq] at HI
   have hsz := dig_size k q
   clear ih hn hd hq hr
   go_enter Tryz.func27, Tryz.ntmps27
   go_wp2_with fail
   refine go_start (fun w' => Below w.heap.size w w') [] [.p 0, .p 1, .p 3, .p 4, .p 5, .p 6, .p 7, .p 8, .o 2, .p 9, .p 10] (by kernel_rfl) (by kernel_rfl) (fun c d v a w h => by cases d <;> exact h) ((Below.refl _ w).drew) (fun w2 hS2 => ?_)
   repeat
    refine go_p (v := ?_) (b := ?_) rfl (.inl ⟨by rfl, ?_⟩) ?_ ?_
    rotate_left 2
    ·intro w'; go_simp; with_reducible rfl
    ·simp only [Act.put, List.setIfInBounds_toArray, List.set_cons_zero, List.set_cons_succ, i64_w, i32_w, hqv, hrv, hrw]; rfl
   refine go_call rfl (by rfl) Tryz.func27 (by kernel_rfl) rfl (by simp only [List.map_toArray, List.map_cons, List.map_nil]; rfl) (HI.out w2) ?_
   rintro e w3 ⟨rfl, hb⟩
   have hS3 : Below w.heap.size w w3 := hS2.trans (hb.mono hS2.size)
   refine ⟨_, _, rfl, hS3, (by simp only [Act.put, List.setIfInBounds_toArray, List.set_cons_zero, List.set_cons_succ]; rfl), ?_⟩
   have hs1 : (9223372036854775807 < (dig k q).size + (min (r + 1) 10 - r)) = False := by rw [eq_iff_iff, iff_false]; omega
   repeat
    refine go_p (v := ?_) (b := ?_) rfl (.inl ⟨by rfl, ?_⟩) ?_ ?_
    rotate_left 2
    ·intro w'; go_simp; with_reducible rfl
    ·simp only [Act.put, List.setIfInBounds_toArray, List.set_cons_zero, List.set_cons_succ, i64_w, i32_w, hqv, hrv, hrw]; rfl
   refine go_done ?_
   have HS3 := Lib.hid hS3
   clear hS3 hS2 hb
   go_wp2_with fail
   go_ret
   exact ⟨by rw [hX.out]; rfl, HS3.out⟩
def digB (n : Int) : ByteArray := if n < 0 then ⟨#[45]⟩ ++ dig 20 (-(n + 1)).toNat else dig 20 n.toNat
theorem lt20 (n : Nat) (h : n ≤ 9223372036854775807) : n < 10 ^ 20 := Nat.lt_of_le_of_lt h (by decide)
end Go.Proofs.YtamhkdlcoghdbaaGreatDoor.PCls
/- Out of Lq (wip/tools/prune2.py): the declarations alone that the texts of the trees name. -/
namespace Go.Proofs.YtamhkdlcoghdbaaGreatDoor.PCls
set_option linter.unusedVariables false
set_option linter.unusedSimpArgs false
def digit (b : UInt8) : Prop := 48 ≤ b.toNat ∧ b.toNat ≤ 57
def numStep (n : Int) (b : UInt8) : Int := min (max n 0 * 10 + ((b.toNat : Int) - 48)) 256
theorem number_run {s : ByteArray} : ∀ (ds rest : List UInt8) (k p : Nat) (n : Int), s.data.toList.drop p = ds ++ rest → (∀ b ∈ ds, digit b) → (∀ b l, rest = b :: l → ¬ digit b) → ds.length < k → Lx.number s k p n = (ds.foldl numStep n, p + ds.length)
 | [], rest, k, p, n, h, hd, hr, hk => by
  refine number_stop s k p n ?_
  rintro ⟨h1, h2, h3⟩
  cases rest with
  | nil =>
   have hl := congrArg List.length h
   have h0 : s.data.toList.length = s.size := by simp
   rw [List.length_drop, h0] at hl
   simp at hl
   omega
  | cons b l =>
   have h4 := (byt_drop (s := s) (p := p) (b := b) (l := l) h).2.1
   exact hr b l rfl ⟨by omega, by omega⟩
 | b :: ds, rest, k, p, n, h, hd, hr, hk => by
  obtain ⟨k, rfl⟩ : ∃ j, k = j + 1 := ⟨k - 1, by omega⟩
  obtain ⟨h1, h2, h3⟩ := byt_drop (s := s) (p := p) (b := b) (l := ds ++ rest) h
  have hb := hd b (by simp)
  conv => lhs; unfold Lx.number
  rw [if_pos ⟨h1, by rw [h2]; exact hb.1, by rw [h2]; exact hb.2⟩, h2, number_run ds rest k (p + 1) _ h3 (fun c hc => hd c (by simp [hc])) hr (by simp at hk; omega)]
  simp only [List.foldl_cons, List.length_cons]
  refine Prod.ext rfl ?_
  simp only
  omega
theorem ten_at (r : Nat) (h : r < 10) : (ten.extract r (r + 1)).data.toList = [UInt8.ofNat (48 + r)] := by
 have : r = 0 ∨ r = 1 ∨ r = 2 ∨ r = 3 ∨ r = 4 ∨ r = 5 ∨ r = 6 ∨ r = 7 ∨ r = 8 ∨ r = 9 := by omega
 rcases this with rfl | rfl | rfl | rfl | rfl | rfl | rfl | rfl | rfl | rfl <;> decide
theorem ten_nat (r : Nat) (h : r < 10) : (UInt8.ofNat (48 + r)).toNat = 48 + r := by
 simp
 omega
theorem dig_digits : ∀ (k n : Nat), ∀ b ∈ (dig k n).data.toList, digit b
 | 0, n, b, hb => by simp [dig] at hb
 | k + 1, n, b, hb => by
  rw [dig_succ] at hb
  split at hb
  ·rename_i h
   rw [ten_at n h, List.mem_singleton] at hb
   subst hb
   unfold digit
   rw [ten_nat n h]
   omega
  ·rw [ByteArray.data_append, Array.toList_append, List.mem_append] at hb
   rcases hb with hb | hb
   ·exact dig_digits k _ b hb
   ·rw [ten_at _ (Nat.mod_lt _ (by decide)), List.mem_singleton] at hb
    subst hb
    unfold digit
    rw [ten_nat _ (Nat.mod_lt _ (by decide))]
    have := Nat.mod_lt n (show 0 < 10 by decide)
    omega
theorem dig_value : ∀ (k n : Nat) (a : Int), 0 < k → n < 10 ^ k → a ≤ 0 → (dig k n).data.toList.foldl numStep a = min (n : Int) 256
 | 0, n, a, h0, hn, ha => by omega
 | k + 1, n, a, _, hn, ha => by
  rw [dig_succ]
  split
  ·rename_i h
   rw [ten_at n h]
   simp only [List.foldl_cons, List.foldl_nil, numStep]
   rw [ten_nat n h]
   omega
  ·rename_i h
   have hk0 : 0 < k := by
    rcases Nat.eq_zero_or_pos k with rfl | h'
    ·simp at hn; omega
    ·exact h'
   have hd : n / 10 < 10 ^ k := by
    have : n < 10 ^ k * 10 := by rw [← Nat.pow_succ]; exact hn
    omega
   rw [ByteArray.data_append, Array.toList_append, List.foldl_append, dig_value k (n / 10) a hk0 hd ha, ten_at _ (Nat.mod_lt _ (by decide))]
   simp only [List.foldl_cons, List.foldl_nil, numStep]
   rw [ten_nat _ (Nat.mod_lt _ (by decide))]
   omega
theorem zeros_value : ∀ (z : Nat) (a : Int), a ≤ 0 → (List.replicate z (48 : UInt8)).foldl numStep a ≤ 0
 | 0, a, h => h
 | z + 1, a, h => by
  rw [List.replicate_succ, List.foldl_cons]
  refine zeros_value z _ ?_
  have : ((48 : UInt8).toNat : Int) = 48 := rfl
  unfold numStep
  rw [this]
  omega
end Go.Proofs.YtamhkdlcoghdbaaGreatDoor.PCls
/- Out of Lr (wip/tools/prune2.py): the declarations alone that the texts of the trees name. -/
namespace Go.Proofs.YtamhkdlcoghdbaaGreatDoor.PCls
set_option linter.unusedVariables false
set_option linter.unusedSimpArgs false
theorem here_drop {s : ByteArray} {p : Nat} {l t : List UInt8} (h : s.data.toList.drop p = l) (hp : p ≤ s.size) : Lx.here s p t = Lib.hasPrefix l t := by
 unfold Lx.here
 rw [h, decide_eq_true hp, Bool.true_and]
theorem drop_more {s : ByteArray} {p : Nat} {a l : List UInt8} (h : s.data.toList.drop p = a ++ l) (hp : p ≤ s.size) : s.data.toList.drop (p + a.length) = l ∧ p + a.length + l.length = s.size := by
 have h0 : s.data.toList.length = s.size := by simp
 have hl := congrArg List.length h
 rw [List.length_drop, h0, List.length_append] at hl
 refine ⟨?_, by omega⟩
 rw [← List.drop_drop, h, List.drop_left]
/-- what is said of an interval -/
theorem interval_law (s : ByteArray) (x0 p z : Nat) (m n : Int) (h0 : -9223372036854775808 ≤ m ∧ m ≤ 9223372036854775807) (h1 : -9223372036854775808 ≤ n ∧ n ≤ 9223372036854775807) (hp : p ≤ s.size)
  (h : s.data.toList.drop p = List.replicate z 48 ++ (digB m).data.toList ++ [44] ++ (digB n).data.toList ++ [92, 125]) :
  Lx.interval s x0 p = if m < 0 ∨ n < 0 then .error (36, (x0 : Int)) else if 255 < m ∨ 255 < n ∨ n < m then .error (37, (x0 : Int)) else .ok (m, n, s.size) := by
 have hz48 : ∀ b ∈ List.replicate z (48 : UInt8), digit b := fun b hb => by
  rw [(List.mem_replicate.1 hb).2]; exact ⟨by decide, by decide⟩
 have hlen := congrArg List.length h
 have hs0 : s.data.toList.length = s.size := by simp
 rw [List.length_drop, hs0] at hlen
 simp only [List.length_append, List.length_replicate, List.length_cons, List.length_nil] at hlen
 by_cases hm : m < 0
 ·have hM : (digB m).data.toList = 45 :: (dig 20 (-(m + 1)).toNat).data.toList := by
   unfold digB
   rw [if_pos hm, ByteArray.data_append, Array.toList_append]
   rfl
  rw [hM] at h hlen
  have h' : s.data.toList.drop p = List.replicate z 48 ++ (45 :: ((dig 20 (-(m + 1)).toNat).data.toList ++ [44] ++ (digB n).data.toList ++ [92, 125])) := by rw [h]; simp
  have ha := number_run (List.replicate z 48) _ (s.size + 1) p (-1) h' hz48 (fun b l e => by cases e; exact fun hd => by have := hd.1; revert this; decide) (by simp at hlen ⊢; omega)
  obtain ⟨hd, hsz⟩ := drop_more h' hp
  rw [List.length_replicate] at ha hd hsz
  have hv := zeros_value z (-1) (by decide)
  rw [if_pos (.inl hm)]
  rw [interval_eq (q := x0) (a1 := (List.replicate z (48 : UInt8)).foldl numStep (-1)) (a2 := p + z) (b1 := (List.replicate z (48 : UInt8)).foldl numStep (-1)) (b2 := p + z) ha.symm (by
   rw [if_neg (by rintro ⟨_, h2⟩; rw [here_drop hd (by omega)] at h2; simp [Lib.hasPrefix] at h2)])]
  rw [if_pos (.inr (by rw [here_drop hd (by omega)]; rfl))]
 ·obtain ⟨mN, rfl⟩ : ∃ k : Nat, m = k := ⟨m.toNat, by omega⟩
  have hM : (digB (mN : Int)) = dig 20 mN := by unfold digB; rw [if_neg hm, Int.toNat_natCast]
  rw [hM] at h hlen
  have h' : s.data.toList.drop p = (List.replicate z 48 ++ (dig 20 mN).data.toList) ++ (44 :: ((digB n).data.toList ++ [92, 125])) := by rw [h]; simp
  have ha := number_run (List.replicate z 48 ++ (dig 20 mN).data.toList) _ (s.size + 1) p (-1) h' (fun b hb => by
   rcases List.mem_append.1 hb with hb | hb
   ·exact hz48 b hb
   ·exact dig_digits 20 mN b hb) (fun b l e => by cases e; exact fun hd => by have := hd.1; revert this; decide) (by simp at hlen ⊢; omega)
  rw [List.foldl_append, dig_value 20 mN _ (by decide) (lt20 mN (by omega)) (zeros_value z (-1) (by decide))] at ha
  obtain ⟨hd, hsz⟩ := drop_more h' hp
  generalize p + (List.replicate z (48 : UInt8) ++ (dig 20 mN).data.toList).length = a2 at ha hd hsz
  simp only [List.length_cons, List.length_append, List.length_nil] at hsz
  have hcomma : Lx.here s a2 [44] = true := by rw [here_drop hd (by omega)]; rfl
  have hd1 : s.data.toList.drop (a2 + 1) = (digB n).data.toList ++ [92, 125] := by
   have := congrArg (List.drop 1) hd
   rwa [List.drop_drop] at this
  by_cases hn : n < 0
  ·have hN : (digB n).data.toList = 45 :: (dig 20 (-(n + 1)).toNat).data.toList := by
    unfold digB
    rw [if_pos hn, ByteArray.data_append, Array.toList_append]
    rfl
   rw [hN] at hd1 hsz
   have hb := number_run (s := s) [] _ (s.size + 1) (a2 + 1) (-1) hd1 (fun b hb => by cases hb) (fun b l e => by cases e; exact fun hd => by have := hd.1; revert this; decide) (by simp)
   rw [if_pos (.inr hn)]
   rw [interval_eq (q := x0) (a1 := min (mN : Int) 256) (a2 := a2) (b1 := -1) (b2 := a2 + 1) ha.symm (by rw [if_pos ⟨by omega, hcomma⟩]; exact hb)]
   rw [if_pos (.inr (by rw [here_drop hd1 (by simp at hsz; omega)]; rfl))]
  ·obtain ⟨nN, rfl⟩ : ∃ k : Nat, n = k := ⟨n.toNat, by omega⟩
   have hN : (digB (nN : Int)) = dig 20 nN := by unfold digB; rw [if_neg hn, Int.toNat_natCast]
   rw [hN] at hd1 hsz
   have hb := number_run (dig 20 nN).data.toList _ (s.size + 1) (a2 + 1) (-1) hd1 (fun b hb => dig_digits 20 nN b hb) (fun b l e => by cases e; exact fun hd => by have := hd.2; revert this; decide) (by omega)
   rw [dig_value 20 nN _ (by decide) (lt20 nN (by omega)) (by decide)] at hb
   obtain ⟨hd2, hsz2⟩ := drop_more hd1 (by omega)
   generalize a2 + 1 + (dig 20 nN).data.toList.length = b2 at hb hd2 hsz2
   simp only [List.length_cons, List.length_nil] at hsz2
   have hend : Lx.here s b2 [92, 125] = true := by rw [here_drop hd2 (by omega)]; rfl
   rw [interval_eq (q := x0) (a1 := min (mN : Int) 256) (a2 := a2) (b1 := min (nN : Int) 256) (b2 := b2) ha.symm (by rw [if_pos ⟨by omega, hcomma⟩]; exact hb)]
   have q1 : ¬ (min (mN : Int) 256 < 0 ∨ Lx.here s b2 [92, 125] = false) := fun h => by
    rcases h with h | h
    ·omega
    ·rw [hend] at h; cases h
   have q2 : ¬ ((mN : Int) < 0 ∨ (nN : Int) < 0) := by omega
   rw [if_neg q1, if_neg q2]
   by_cases hc : 255 < (mN : Int) ∨ 255 < (nN : Int) ∨ (nN : Int) < (mN : Int)
   ·rw [if_pos hc, if_pos (by omega)]
   ·rw [if_neg hc, if_neg (by omega)]
    have e1 : min (mN : Int) 256 = mN := by omega
    have e2 : min (nN : Int) 256 = nN := by omega
    rw [e1, e2, hsz2]
end Go.Proofs.YtamhkdlcoghdbaaGreatDoor.PCls
/- Out of Nx (wip/tools/prune2.py): the declarations alone that the texts of the trees name. -/
namespace Go.Proofs.YtamhkdlcoghdbaaGreatDoor.PCls
set_option linter.unusedVariables false
set_option linter.unusedSimpArgs false
theorem len_size (s : ByteArray) : s.data.toList.length = s.size := by simp
theorem get_byt (s : ByteArray) (i : Nat) : (s.get! i).toNat = Lx.byt s i := by
 unfold Lx.byt
 rw [List.getD_eq_getElem?_getD]
 by_cases h : i < s.size
 ·have h' : i < s.data.toList.length := by rw [len_size]; exact h
  rw [List.getElem?_eq_getElem h']
  simp [ByteArray.get!, h]
 ·rw [List.getElem?_eq_none (by rw [len_size]; omega)]
  have h2 : s.data.size ≤ i := by have : s.data.size = s.size := rfl; omega
  have h3 : ByteArray.get! s i = s.data[i]! := by cases s; rfl
  rw [h3, getElem!_neg _ _ (by omega)]
  rfl
def v2 (b0 b1 : Nat) : Nat := 64 * (b0 - 192) + (b1 - 128)
def v3 (b0 b1 b2 : Nat) : Nat := 64 * (64 * (b0 - 224) + (b1 - 128)) + (b2 - 128)
def v4 (b0 b1 b2 b3 : Nat) : Nat := 64 * (64 * (64 * (b0 - 240) + (b1 - 128)) + (b2 - 128)) + (b3 - 128)
end Go.Proofs.YtamhkdlcoghdbaaGreatDoor.PCls
