/- Put together (wip/tools/pack.py): TCount, ZGTwo, ZLSpoil, ZLawKit, TClone. -/
import Derived.Test.YtamhkdlcoghdbaaDoorKMTMem
import Derived.Lib.AppendZerosOnto
import Derived.Lib.AppendZeros
import Derived.Laws.CopyRow
/- Out of TCount (wip/tools/prune2.py): the declarations alone that the texts of the trees name. -/
namespace Go.Proofs.YtamhkdlcoghdbaaDoor.PCls
open Go.RowKit Go.Proofs.YtamhkdlcoghdbaaDoorW.PrintWords Go.Proofs.YtamhkdlcoghdbaaDoorW.PrintLast Go.Proofs.YtamhkdlcoghdbaaDoorW.PrintMore
set_option linter.unusedVariables false
set_option linter.unusedSimpArgs false
/-- what a visit may change: nothing of the tree, no box of a walk, and nothing that lay when all began -/
structure KeepsT (N0 : Nat) (A B : World) : Prop where
 os : B.os = A.os
 tape : B.tape = A.tape
 output : B.output = A.output
 size : A.heap.size ≤ B.heap.size
 low : ∀ (b : Nat), b < N0 → B.heap[b]? = A.heap[b]?
 box : ∀ (b : Nat) (cells : Array Value) (t : TypeId) (fr : Nat × Nat), A.heap[b]? = some (.cells cells t fr) → (t = 28 ∨ t = 64) → B.heap[b]? = A.heap[b]?
theorem KeepsT.trans {N0 : Nat} {A B C : World} (h : KeepsT N0 A B) (k : KeepsT N0 B C) : KeepsT N0 A C :=
 ⟨k.os.trans h.os, k.tape.trans h.tape, k.output.trans h.output, Nat.le_trans h.size k.size, fun b hb => (k.low b hb).trans (h.low b hb), fun b cells t fr hc ht => by
  have h1 := h.box b cells t fr hc ht
  exact (k.box b cells t fr (h1.trans hc) ht).trans h1⟩
theorem KeepsT.of_below {N0 : Nat} {A B : World} (h : Below A.heap.size A B) (hn : N0 ≤ A.heap.size) : KeepsT N0 A B :=
 ⟨h.os, h.tape, h.output, h.size, fun b hb => h.block b (by omega), fun b cells t fr hc _ => h.block b (Array.getElem?_eq_some_iff.1 hc).1⟩
theorem KeepsT.setCell {N0 : Nat} {A B : World} (h : KeepsT N0 A B) {p : Addr} {cells : Array Value} {t : TypeId} {fr : Nat × Nat} (hp : N0 ≤ p.block) (hb : B.heap[p.block]? = some (.cells cells t fr)) (ht : t ≠ 28 ∧ t ≠ 64) (u : Value) : KeepsT N0 A (B.setCell p u) :=
 h.trans ⟨rfl, rfl, rfl, by simp [World.setCell], fun b hb' => Below.heap_setCell _ _ _ _ (by omega), fun b cs t' fr' hc ht' => Below.heap_setCell _ _ _ _ (by
  rintro rfl
  rw [hb] at hc
  cases hc
  rcases ht' with h | h
  ·exact ht.1 h
  ·exact ht.2 h)⟩
theorem KeepsT.below {N0 : Nat} {A B : World} (h : KeepsT N0 A B) : Below N0 A B := ⟨h.os, h.tape, h.output, h.size, h.low⟩
theorem boxed_keep {A B : World} {b : Nat} {t : TypeId} {v : Value} (h : Boxed A b t v) (hb : Below A.heap.size A B) : Boxed B b t v := (hb.block b h.lt).trans h
set_option maxHeartbeats 1000000 in
theorem count_visit (k m lo hi d a : Int) (ar ak : Option Addr) (lr cr lk ck : Nat) (f l b : Bool) (N0 B : Nat) (n : Int) (hn : 0 ≤ n ∧ n ≤ 2000) (w : World) (hN : N0 ≤ B) (h : Boxed w B 3 (.int .i64 n)) :
  Calls Tryd.prog 52 #[.agg #[.int .i64 k, .int .i64 m, .int .i64 lo, .int .i64 hi, .slice ar lr cr, .slice ak lk ck, .int .i64 d, .int .i64 a, .bool f, .bool l, .bool b], .pointer (some ⟨B, 0, none⟩)] w
   fun e w' => e = .returned (.bool (decide (n + 1 ≤ 2000))) ∧ Boxed w' B 3 (.int .i64 (n + 1)) ∧ KeepsT N0 w w' := by
 have hw : wrap64 (n + 1) = n + 1 := w64_lit _ (by omega) (by omega)
 have c0 := h.cell
 have f0 := h.frozen
 have HB := Lib.hid h
 have hlt := h.lt
 clear h
 go_enter Tryd.func52, Tryd.ntmps52
 go_wp2
 go_ret
 have h2 : Boxed (w.setCell ⟨B, 0, none⟩ (.int .i64 (n + 1))) B 3 (.int .i64 (n + 1)) := HB.out.set _
 refine ⟨rfl, h2.alloc _, ?_⟩
 have hk : KeepsT N0 w (w.setCell ⟨B, 0, none⟩ (.int .i64 (n + 1))) := (KeepsT.of_below (Below.refl _ w) (by omega)).setCell (p := ⟨B, 0, none⟩) hN HB.out (by decide) _
 exact hk.trans (KeepsT.of_below ((Below.refl _ _).alloc (Nat.le_refl _) _) (by have := hk.size; omega))
theorem count_ok : ∀ (l : List Ev) (n : Int), 0 ≤ n → n ≤ 2000 → runOk visC lvN (fun n _ => 0 ≤ n ∧ n ≤ 2000) (fun _ _ => True) l n := by
 intro l
 induction l with
 | nil => intro n _ _; trivial
 | cons x l ih =>
  intro n h0 h1
  cases x with
  | enter t => exact ⟨⟨h0, h1⟩, fun h => ih (n + 1) (by omega) (by simpa [visC] using h)⟩
  | leave t => exact ⟨trivial, ih n h0 h1⟩
theorem count_visits (w0 : World) (N0 B : Nat) (hN : N0 ≤ B) : Visit visC lvN (fun n _ => 0 ≤ n ∧ n ≤ 2000) (fun _ _ => True) (fun n W => Boxed W B 3 (.int .i64 n) ∧ Below N0 w0 W ∧ N0 ≤ W.heap.size) (· < N0) (KeepsT N0) N0 52 53 #[.pointer (some ⟨B, 0, none⟩)] #[] where
 trans := KeepsT.trans
 below := fun h hn => KeepsT.of_below h hn
 size := fun h => h.size
 tree := fun h _ b hb => h.low b hb
 box := fun h _ hc ht => h.box _ _ _ _ hc ht
 inv := fun h hb => ⟨boxed_keep h.1 hb, h.2.1.trans (hb.mono h.2.2), Nat.le_trans h.2.2 hb.size⟩
 low := fun b hb => hb
 ev := fun args w => enters_ Tryd.func52 (by kernel_rfl) rfl args w
 el := fun args w => enters_ Tryd.func53 (by kernel_rfl) rfl args w
 hv := fun st s cs w hw hT hI hok => by
  obtain ⟨n, d, a, f, l, b⟩ := s
  cases hT with
  | mk k m lo hi r kids ar ak cr ck csk _ _ _ _ _ _ _ _ _ =>
   rw [show #[stepV [.int .i64 k, .int .i64 m, .int .i64 lo, .int .i64 hi, .slice ar r.length cr, .slice ak kids.length ck] ⟨.mk k m lo hi r kids, d, a, f, l, b⟩] ++ #[Value.pointer (some ⟨B, 0, none⟩)] = #[.agg #[.int .i64 k, .int .i64 m, .int .i64 lo, .int .i64 hi, .slice ar r.length cr, .slice ak kids.length ck, .int .i64 d, .int .i64 a, .bool f, .bool l, .bool b], .pointer (some ⟨B, 0, none⟩)] from rfl]
   exact (count_visit k m lo hi d a ar ak r.length cr kids.length ck f l b N0 B st hok w hN hI.1).mono fun e w' h => ⟨h.1, ⟨h.2.1, hI.2.1.trans h.2.2.below, Nat.le_trans hI.2.2 h.2.2.size⟩, fun _ => h.2.2⟩
 hl := fun st s cs w hw hT hI _ => by
  obtain ⟨n, d, a, f, l, b⟩ := s
  cases hT with
  | mk k m lo hi r kids ar ak cr ck csk _ _ _ _ _ _ _ _ _ =>
   rw [show #[stepV [.int .i64 k, .int .i64 m, .int .i64 lo, .int .i64 hi, .slice ar r.length cr, .slice ak kids.length ck] ⟨.mk k m lo hi r kids, d, a, f, l, b⟩] ++ (#[] : Array Value) = #[.agg #[.int .i64 k, .int .i64 m, .int .i64 lo, .int .i64 hi, .slice ar r.length cr, .slice ak kids.length ck, .int .i64 d, .int .i64 a, .bool f, .bool l, .bool b]] from rfl]
   exact (nothing_calls k m lo hi d a ar ak r.length cr kids.length ck f l b w).mono fun e w' h => ⟨h.1, ⟨boxed_keep hI.1 h.2, hI.2.1.trans (h.2.mono hw), Nat.le_trans hI.2.2 h.2.size⟩, KeepsT.of_below h.2 hw⟩
set_option maxHeartbeats 2000000 in
set_option maxRecDepth 100000 in
theorem count_calls (t : NT) (cs : List Value) (w : World) (hT : NIn w (· < w.heap.size) t cs) (hn : t.nodes < 4611686018427387903) :
  Calls Tryd.prog 24 #[.agg cs.toArray] w fun e w' => e = .returned (.int .i64 (countT t)) ∧ Below w.heap.size w w' := by
 have hT0 := hT
 obtain ⟨T, hTe⟩ : ∃ T, T = t := ⟨_, rfl⟩
 cases hT with
 | mk k m lo hi r kids ar ak cr ck csk _ _ _ _ _ _ _ _ _ =>
  rename_i q1 q2 q3 q4 q5 q6 q7 q8 q9
  clear q1 q2 q3 q4 q5 q6 q7 q8 q9
  have V := count_visits w w.heap.size (w.heap.size + 1) (by omega)
  have hw2 : ∀ w2 : World, Below (w.heap.size + 2) ((w.alloc (.cells #[.int .i64 k, .int .i64 m, .int .i64 lo, .int .i64 hi, .slice ar r.length cr, .slice ak kids.length ck] 28)).alloc (.cells #[.int .i64 0] 3)) w2 →
    Calls Tryd.prog 30 #[.agg #[.int .i64 k, .int .i64 m, .int .i64 lo, .int .i64 hi, .slice ar r.length cr, .slice ak kids.length ck, .int .i64 1, .int .i64 0, .bool true, .bool true, .bool true], .func (.func 52) #[] #[.pointer (some ⟨w.heap.size + 1, 0, none⟩)], .func (.func 53) #[] #[]] w2
     fun e w' => (∃ b, e = .returned (.bool b)) ∧ Boxed w' (w.heap.size + 1) 3 (.int .i64 (countT T)) ∧ Below w.heap.size w w' := by
   intro w2 hb
   have hb0 : Below w.heap.size w w2 := (((Below.refl _ w).alloc (Nat.le_refl _) _).alloc (by simp) _).trans (hb.mono (by omega))
   have hbx : Boxed w2 (w.heap.size + 1) 3 (.int .i64 0) := (hb.block _ (by omega)).trans (by
    have := World.alloc_heap_new (w.alloc (.cells #[.int .i64 k, .int .i64 m, .int .i64 lo, .int .i64 hi, .slice ar r.length cr, .slice ak kids.length ck] 28)) (.cells #[.int .i64 0] 3)
    rwa [World.size_alloc] at this)
   have hc := walk_calls V (NT.mk k m lo hi r kids).nodes (Step.top (.mk k m lo hi r kids)) _ w2 0 (Nat.le_refl _) hb0.size (hT0.move fun b h => hb0.block b h) ⟨hbx, hb0, hb0.size⟩ (count_ok _ 0 (by omega) (by omega)) (show (0 : Int) ≤ 1 by omega) (show (1 : Int) + _ < _ by simp only [Step.top]; omega)
   rw [show stepV [.int .i64 k, .int .i64 m, .int .i64 lo, .int .i64 hi, .slice ar r.length cr, .slice ak kids.length ck] (Step.top (.mk k m lo hi r kids)) = .agg #[.int .i64 k, .int .i64 m, .int .i64 lo, .int .i64 hi, .slice ar r.length cr, .slice ak kids.length ck, .int .i64 1, .int .i64 0, .bool true, .bool true, .bool true] from rfl] at hc
   refine hc.mono fun e w' h => ⟨⟨_, h.1⟩, ?_, ?_⟩
   ·rw [hTe]; rw [count_run] at h; exact h.2.1.1
   ·exact h.2.1.2.1
  have HW := Lib.hid hw2
  have hbc := fun w => from_calls k m lo hi ar ak r.length cr kids.length ck w
  have HF := Lib.hid hbc
  clear hw2 hbc hT0 V
  rw [← hTe]
  clear hTe
  go_enter Tryd.func24, Tryd.ntmps24
  go_wp2_with fail
  refine (HF.out _).mono ?_
  rintro e w2 ⟨rfl, hb2⟩
  have HB2 := Lib.hid hb2
  clear hb2
  go_wp2_with fail
  refine (HW.out _ (by have := HB2.out; simpa using this)).mono ?_
  rintro e w3 ⟨⟨b, rfl⟩, hbx, hbel⟩
  have c0 := hbx.cell
  have HB3 := Lib.hid hbel
  clear hbx hbel
  go_wp2
  go_ret
  exact ⟨rfl, HB3.out⟩
end Go.Proofs.YtamhkdlcoghdbaaDoor.PCls
/- Out of ZGTwo (wip/tools/prune2.py): the declarations alone that the texts of the trees name. -/
namespace Go.Proofs.YtamhkdlcoghdbaaDoor.PCls
open Go.RowKit Go.Proofs.YtamhkdlcoghdbaaDoorW.PrintWords Go.Proofs.YtamhkdlcoghdbaaDoorW.PrintLast Go.Proofs.YtamhkdlcoghdbaaDoorW.PrintMore
set_option linter.unusedVariables false
set_option linter.unusedSimpArgs false
theorem run_append_nil2 (w : World) (ty : TypeId) (base : Option Addr) (n cap c : Nat) (h : n ≤ cap) : (Builtin.append_ #[25, 25] ty #[.slice base n cap, .slice none 0 c]).run Tryd.prog w = .ok (.slice base n cap) w := by
 obtain ⟨i, hi, hz0, hz1, hz2⟩ := info64'
 cases base with
 | none => simp [Builtin.append_, run_underlying Tryd.underlying25, run_underlying Tryd.underlying50, Builtin.lenOf, Builtin.firstCells, sizeOf, typeInfo, hi, hz1, h, storeCells]
 | some a => simp [Builtin.append_, run_underlying Tryd.underlying25, run_underlying Tryd.underlying50, Builtin.lenOf, Builtin.firstCells, sizeOf, typeInfo, hi, hz1, h, storeCells]
set_option maxHeartbeats 1000000 in
theorem grow_nil (n : Nat) (w : World) (hn : n * 16 ≤ 140737488355328) :
  Calls Tryd.prog 85 #[.slice none 0 0, .int .i64 n] w fun e w' => ∃ v : Value, e = .returned v ∧ w'.ownsRow w.heap.size 50 2 v 0 [] ∧ Below w.heap.size w w' := by
 obtain ⟨i0, hi, hz0, hz1, hz2⟩ := info64'
 by_cases h0 : n = 0
 ·subst h0
  go_enter Tryd.func85, Tryd.ntmps85
  go_wp2
  go_ret
  exact ⟨_, rfl, World.ownsRow_nil _ _ _ _, Below.refl _ _⟩
 ·have hold : (Builtin.firstCells i0.size 0 (.slice none 0 0)).run Tryd.prog w.drew = .ok ([] : List Value).toArray w.drew := by rw [hz1]; exact run_firstCells_none w.drew 2 0 0 0
  have hrz : ∀ ty, (Builtin.append_ #[25, 3] ty #[.slice none 0 0, .int .i64 (n : Int)]).run Tryd.prog w = _ := fun ty => Lib.run_append_grow_zeros (P := Tryd.prog) w 25 3 ty 50 i0 _ .i64 .i64 Tryd.underlying25 Tryd.underlying3 hi hz0 none 0 0 [] hold n (by omega) (by rw [hz1]; decide) (by omega) (by omega) (by rw [hz2]; omega) (by rw [hz2]; simp [Builtin.nextslicecap]; split <;> omega)
  obtain ⟨G, hG⟩ : ∃ G, G = grownCap w (0 + n) 0 50 := ⟨_, rfl⟩
  have hG1 : 0 + n ≤ G := by rw [hG]; exact grownCap_ge w _ _ _
  have hG2 : G ≤ maxLen := by rw [hG]; exact grownCap_le_maxLen w (0 + n) 0 50 (by unfold maxLen; omega)
  obtain ⟨C, hC⟩ : ∃ C, C = (([] : List Value).toArray ++ Builtin.zeroCells (Value.agg #[.int .i64 0, .int .i64 0]).cells n ++ Builtin.zeroCells (Value.agg #[.int .i64 0, .int .i64 0]).cells (G - (0 + n))) := ⟨_, rfl⟩
  rw [← hG] at hrz
  rw [← hC] at hrz
  have hCs : C.size = G * 2 := by rw [hC]; simp [Builtin.zeroCells, Value.cells]; omega
  simp only [Nat.zero_add] at hrz
  have hG3 : G ≤ 9223372036854775807 := by unfold maxLen at hG2; exact hG2
  have hnz : (n : Int) > 0 := by omega
  have A := Lib.hid hCs
  have B := Lib.hid hG2
  clear hC hG hold hi hz0 hz1 hz2 h0 hCs hG2
  go_enter Tryd.func85, Tryd.ntmps85
  go_wp2_with (at_builtin; refine Lib.wpList_append_run _ rfl _ _ _ _ rfl _ _ rfl rfl _ _ (hrz _) ?_)
  go_ret
  exact ⟨_, rfl, World.ownsRow_made w.drew C G (Nat.le_refl _) B.out A.out, ((Below.refl _ w).drew).alloc (Nat.le_refl _) _⟩
/-- rows of ranges, as values: address, capacity, what is read -/
abbrev Rws := List (Option Addr × Nat × List S64)
def tot (R : Rws) (i : Nat) : Nat := ((R.take i).map fun x => x.2.2.length).sum
def cat (R : Rws) (i : Nat) : List S64 := (R.take i).flatMap fun x => x.2.2
theorem cat_length (R : Rws) (i : Nat) : (cat R i).length = tot R i := by
 unfold cat tot
 rw [List.length_flatMap]
theorem tot_succ (R : Rws) (i : Nat) (x) (h : R[i]? = some x) : tot R (i + 1) = tot R i + x.2.2.length := by
 obtain ⟨hi, rfl⟩ := List.getElem?_eq_some_iff.1 h
 unfold tot
 rw [List.take_succ_eq_append_getElem hi]
 simp only [List.map_append, List.sum_append, List.map_cons, List.map_nil, List.sum_cons, List.sum_nil, Nat.add_zero]
theorem cat_succ (R : Rws) (i : Nat) (x) (h : R[i]? = some x) : cat R (i + 1) = cat R i ++ x.2.2 := by
 obtain ⟨hi, rfl⟩ := List.getElem?_eq_some_iff.1 h
 unfold cat
 rw [List.take_succ_eq_append_getElem hi]
 simp only [List.flatMap_append, List.flatMap_cons, List.flatMap_nil, List.append_nil]
theorem tot_le (R : Rws) (i : Nat) : tot R i ≤ tot R R.length := by
 unfold tot
 rw [List.take_length]
 conv => rhs; rw [← List.take_append_drop i R]
 simp only [List.map_append, List.sum_append]
 omega
theorem rowOf_append (a b : List S64) : rowOf (a ++ b) = rowOf a ++ rowOf b := by simp only [rowOf, List.flatMap_append]
set_option maxHeartbeats 2000000 in
set_option maxRecDepth 100000 in
theorem concat_calls (R : Rws) (B c : Nat) (w : World) (hB : B < w.heap.size) (hm : R.length ≤ 100) (ht : tot R R.length * 16 ≤ 140737488355328)
  (hc : ∀ i x, R[i]? = some x → w.cell? ⟨B, i, none⟩ = some (.slice x.1 x.2.2.length x.2.1) ∧ Kd.C k64 w x.1 x.2.2.length x.2.2) :
  Calls Tryd.prog 56 #[.slice (some ⟨B, 0, none⟩) R.length c] w fun e w' => ∃ v : Value, e = .returned v ∧ Kd.R k64 50 w' w.heap.size (fun _ => True) v (cat R R.length) ∧ Below w.heap.size w w' := by
 obtain ⟨i0, hi, hz0, hz1, hz2⟩ := info64'
 have AC := Lib.hid hc
 have AT := Lib.hid ht
 clear hc
 go_enter Tryd.func56, Tryd.ntmps56
 go_wp2_with fail
 go_loop [3, 5, 11] (fun s3 _ s11 => ∃ i : Nat, i ≤ R.length ∧ s11 = .int .i64 i ∧ s3 = .int .i64 (tot R i : Nat)) (fun _ _ s11 => R.length - (intOf s11).toNat)
 case atStart => exact ⟨0, Nat.zero_le _, rfl, by simp [tot]⟩
 case round =>
  obtain ⟨i, hil, rfl, rfl⟩ := hrel
  by_cases hlt : i < R.length
  ·obtain ⟨x, hx⟩ : ∃ x, R[i]? = some x := ⟨_, List.getElem?_eq_getElem hlt⟩
   have hcell := (AC.out i x hx).1
   have hts := tot_succ R i x hx
   have htl := tot_le R (i + 1)
   have hltz : (i : Int) < (R.length : Int) := by omega
   have hb : tot R i + x.2.2.length ≤ 8796093022208 := by have := AT.out; omega
   have hs : ((tot R i : Nat) : Int) + ((x.2.2.length : Nat) : Int) = ((tot R (i + 1) : Nat) : Int) := by omega
   have AS := Lib.hid hs
   clear hts htl hs hx
   obtain ⟨xa, xc, xl⟩ := x
   simp only at *
   generalize xl.length = n at *
   generalize tot R i = t at *
   go_wp2_with fail
   all_goals (try go_round)
   case rel => exact ⟨i + 1, by omega, by go_num, by rw [← AS.out]⟩
   case measure => simp [intOf]; omega
  ·obtain rfl : i = R.length := by omega
   clear hil
   have hltz : ¬ (R.length : Int) < (R.length : Int) := by omega
   go_wp2_with (go_at_call 85; refine (grow_nil _ _ (by exact AT.out)).mono ?_; rintro e w1 ⟨v1, rfl, hown1, hb1⟩)
   have A1 := Lib.hid hown1
   have A2 := Lib.hid hb1
   clear hown1 hb1 hltz
   go_loopg [6, 8, 27] R.length (fun gg s6 _ s27 wr => ∃ i : Nat, i ≤ R.length ∧ R.length - i ≤ gg ∧ s27 = .int .i64 i ∧ Aside0 (wr.ownsRow w.heap.size 50 2 s6 (cat R i).length (rowOf (cat R i))) ∧ Aside0 (Below w.heap.size w wr))
   case atStart => exact ⟨0, Nat.zero_le _, by omega, rfl, ⟨A1.out⟩, ⟨A2.out⟩⟩
   case round =>
    rename_i s6
    obtain ⟨i, hil, hgg, rfl, HO, HBL⟩ := hrel
    clear A1 A2
    by_cases hlt : i < R.length
    ·obtain ⟨x, hx⟩ : ∃ x, R[i]? = some x := ⟨_, List.getElem?_eq_getElem hlt⟩
     have hcell0 := (AC.out i x hx).1
     have hcell := (HBL.out.cell (p := ⟨B, i, none⟩) hB).trans hcell0
     have hrd := Kd.C_below (AC.out i x hx).2 HBL.out
     have hcs := cat_succ R i x hx
     have hts := tot_succ R i x hx
     have htl := tot_le R (i + 1)
     have hcl := cat_length R i
     have hltz : (i : Int) < (R.length : Int) := by omega
     have hb : (cat R i).length + x.2.2.length ≤ 8796093022208 := by have := AT.out; omega
     have HR := Lib.hid hrd
     have HS := Lib.hid hcs
     clear hcell0 hrd hcs hts htl hcl hx
     obtain ⟨xa, xc, xl⟩ := x
     simp only at *
     obtain ⟨A, c6, rfl⟩ := own_slice HO.out
     have hle := own_le HO.out
     cases xa with
     | none =>
      have hxl := nil_of_C HR.out
      subst hxl
      have happ := fun ty => run_append_nil2 wr ty A (cat R i).length c6 xc hle
      go_wp2_with (at_builtin; refine Lib.wpList_append_run _ rfl _ _ _ _ rfl _ _ rfl rfl _ _ (happ _) ?_)
      go_roundg (R.length - (i + 1))
      case measure => omega
      case rel => exact ⟨i + 1, by omega, Nat.le_refl _, by go_num, ⟨by rw [HS.out, List.append_nil]; exact HO.out⟩, ⟨HBL.out⟩⟩
     | some ad =>
      have hnews := cells_of_C HR.out
      have hl2 := rowOf_length xl
      have h1 := one_rowOf xl
      generalize hI : rowOf xl = news at hnews hl2 h1
      have G1 := Lib.hid hnews
      have G2 := Lib.hid hl2
      have G3 := Lib.hid hI
      clear hnews hl2 hI
      go_wp2_with (at_builtin; refine wpList_append_own _ rfl _ _ 25 rfl w.heap.size 50 i0 _ 2 16 Tryd.underlying25 hi hz0 hz1 hz2 rfl (by decide) _ _ _ rfl HO.out ad xl.length xc news rfl ?qc1 ?qc2 ?qc3 ?qc4 ?qc5 ?qc6 ?_)
      case qc1 => exact G2.out
      case qc2 => exact G1.out
      case qc3 => exact h1
      case qc4 => unfold maxLen; omega
      case qc5 => omega
      case qc6 => exact HBL.out.size
      intro v' w1 hown hgrow hnil
      have K1 := Lib.hid hown
      have K2 := Lib.hid hgrow
      clear hown hgrow hnil h1
      go_wp2
      go_roundg (R.length - (i + 1))
      case measure => omega
      case rel =>
       refine ⟨i + 1, by omega, Nat.le_refl _, by go_num, ⟨?_⟩, ⟨HBL.out.grown K2.out HBL.out.size (fun k hk => (HO.out.lt k hk).1)⟩⟩
       rw [HS.out, rowOf_append, List.length_append, G3.out]
       exact K1.out
    ·obtain rfl : i = R.length := by omega
     have hltz : ¬ (R.length : Int) < (R.length : Int) := by omega
     clear hil
     go_wp2_with fail
     go_ret
     exact ⟨_, rfl, R_of_own HO.out (fun _ _ => trivial), HBL.out⟩
end Go.Proofs.YtamhkdlcoghdbaaDoor.PCls
namespace Go.Proofs.YtamhkdlcoghdbaaDoor.PCls
open Go.RowKit Go.Proofs.YtamhkdlcoghdbaaDoorW.PrintWords Go.Proofs.YtamhkdlcoghdbaaDoorW.PrintLast Go.Proofs.YtamhkdlcoghdbaaDoorW.PrintMore
set_option linter.unusedVariables false
set_option linter.unusedSimpArgs false
end Go.Proofs.YtamhkdlcoghdbaaDoor.PCls
namespace Go.Proofs.YtamhkdlcoghdbaaDoor.PCls
open Go.RowKit Go.Proofs.YtamhkdlcoghdbaaDoorW.PrintWords Go.Proofs.YtamhkdlcoghdbaaDoorW.PrintLast Go.Proofs.YtamhkdlcoghdbaaDoorW.PrintMore
set_option linter.unusedVariables false
set_option linter.unusedSimpArgs false
set_option maxHeartbeats 2000000 in
set_option maxRecDepth 100000 in
theorem classes_Fold.calls (A0 : Option Addr) (c0 : Nat) (l0 : List S64) (r : List S64) (w : World) (hr0 : Kd.C k64 w A0 l0.length l0) (hc0 : l0.length ≤ c0) (h : classes_Fold.f l0 = some r) :
  Calls Tryd.prog 28 #[.slice A0 l0.length c0] w fun e w' => ∃ v0_ : Value, e = .returned v0_ ∧ Kd.R k64 50 w' w.heap.size (fun _ => True) v0_ r ∧ Below w.heap.size w w' := by
 unfold classes_Fold.f at h
 split at h
 case isFalse => cases h
 rename_i hn
 split at h
 case isFalse => cases h
 rename_i hin
 obtain rfl := Option.some.inj h
 obtain ⟨k1, hk1⟩ := (moved_ends l0 65 90 32 (by omega) hin (by omega) (by omega) (by omega) (by omega)).get
 obtain ⟨k2, hk2⟩ := (moved_ends l0 97 122 (-32) (by omega) hin (by omega) (by omega) (by omega) (by omega)).get
 obtain ⟨k3, hk3⟩ := (joined_fold l0 hn hin).get
 have hlen := toFold_length l0
 unfold Cls.toFold at hk3 hlen
 generalize Cls.shift (Cls.inter (Cls.cls l0) [⟨65, 90⟩]) 32 = l1 at *
 generalize Cls.shift (Cls.inter (Cls.cls l0) [⟨97, 122⟩]) (-32) = l2 at *
 have K1 := Lib.hid hk1
 have K2 := Lib.hid hk2
 have K3 := Lib.hid hk3
 have HR0 := Lib.hid hr0
 have HC0 := Lib.hid hc0
 have HL := Lib.hid hlen
 have HN := Lib.hid hn
 clear h hk1 hk2 hk3 hr0 hc0 hlen hn hin
 go_enter Tryd.func28, Tryd.ntmps28
 go_wp2_with fail
 refine (classes_moved.calls k1 _ _ l0 65 90 32 l1 w HR0.out HC0.out K1.out).mono ?_
 rintro e w1 ⟨v1, rfl, hR1, hB1⟩
 obtain ⟨A1, c1, rfl⟩ := Kd.R_slice hR1
 have hle1 := (rR hR1).2.1
 have G1 := Lib.hid (rR hR1).2.2
 have B1 := Lib.hid hB1
 have HRb := Lib.hid (Kd.C_below HR0.out hB1)
 clear hR1 hB1
 go_wp2_with fail
 refine (classes_moved.calls k2 _ _ l0 97 122 (-32) l2 w1 HRb.out HC0.out K2.out).mono ?_
 rintro e w2 ⟨v2, rfl, hR2, hB2⟩
 obtain ⟨A2, c2, rfl⟩ := Kd.R_slice hR2
 have hle2 := (rR hR2).2.1
 have G2 := Lib.hid (rR hR2).2.2
 have G1b := Lib.hid (Kd.C_below G1.out hB2)
 have G0b := Lib.hid (Kd.C_below HRb.out hB2)
 have B2 := Lib.hid (B1.out.trans (hB2.mono B1.out.size))
 clear hR2 hB2
 have hb3 : Below w.heap.size w (w2.alloc (.cells #[.slice A0 l0.length c0, .slice A1 l1.length c1, .slice A2 l2.length c2] 25)) := B2.out.alloc B2.out.size _
 have hcon := concat_calls [(A0, c0, l0), (A1, c1, l1), (A2, c2, l2)] w2.heap.size 3 (w2.alloc (.cells #[.slice A0 l0.length c0, .slice A1 l1.length c1, .slice A2 l2.length c2] 25)) (by simp) (by simp) (by have h1 := HL.out; have h2 := HN.out; simp [tot] at h1 ⊢; omega) (fun i x hx => by
  match i, hx with
  | 0, hx => simp at hx; subst hx; exact ⟨by simp, Kd.C_alloc G0b.out _⟩
  | 1, hx => simp at hx; subst hx; exact ⟨by simp, Kd.C_alloc G1b.out _⟩
  | 2, hx => simp at hx; subst hx; exact ⟨by simp, Kd.C_alloc G2.out _⟩
  | i + 3, hx => simp at hx)
 have hcat : cat [(A0, c0, l0), (A1, c1, l1), (A2, c2, l2)] 3 = l0 ++ (l1 ++ l2) := by simp [cat]
 simp only [List.length_cons, List.length_nil, Nat.zero_add, Nat.reduceAdd] at hcon
 rw [hcat] at hcon
 have HB3 := Lib.hid hb3
 clear hb3 hcat
 go_wp2_with fail
 refine hcon.mono ?_
 rintro e w3 ⟨v3, rfl, hR, hb⟩
 have hb2 : Below w.heap.size w w3 := HB3.out.trans (hb.mono HB3.out.size)
 have hR2 : Kd.R k64 50 w3 w.heap.size (fun _ => True) v3 (l0 ++ (l1 ++ l2)) := Kd.R_lower hR HB3.out.size
 have hj := classes_joined.calls k3 (fun _ => True) v3 (l0 ++ (l1 ++ l2)) _ w w3 hb2 hR2 K3.out
 clear hb hR hb2 hR2 hcon
 go_wp2_with fail
 refine hj.mono ?_
 rintro e w4 ⟨v4, rfl, hR, hb, _⟩
 go_wp2
 go_ret
 exact ⟨_, rfl, Kd.R_mono hR (fun _ _ => trivial), hb⟩
end Go.Proofs.YtamhkdlcoghdbaaDoor.PCls
namespace Go.Proofs.YtamhkdlcoghdbaaDoor.PCls
open Go.RowKit Go.Proofs.YtamhkdlcoghdbaaDoorW.PrintWords Go.Proofs.YtamhkdlcoghdbaaDoorW.PrintLast Go.Proofs.YtamhkdlcoghdbaaDoorW.PrintMore
open Go.Shelf Go.Lib
set_option linter.unusedVariables false
set_option linter.unusedSimpArgs false
end Go.Proofs.YtamhkdlcoghdbaaDoor.PCls
namespace Go.Proofs.YtamhkdlcoghdbaaDoor.PCls
open Go.RowKit Go.Proofs.YtamhkdlcoghdbaaDoorW.PrintWords Go.Proofs.YtamhkdlcoghdbaaDoorW.PrintLast Go.Proofs.YtamhkdlcoghdbaaDoorW.PrintMore
set_option linter.unusedVariables false
set_option linter.unusedSimpArgs false
end Go.Proofs.YtamhkdlcoghdbaaDoor.PCls
/- Out of ZLSpoil (wip/tools/prune2.py): the declarations alone that the texts of the trees name. -/
namespace Go.Proofs.YtamhkdlcoghdbaaDoor.PCls
open Go.RowKit Go.Proofs.YtamhkdlcoghdbaaDoorW.PrintWords Go.Proofs.YtamhkdlcoghdbaaDoorW.PrintLast Go.Proofs.YtamhkdlcoghdbaaDoorW.PrintMore
set_option linter.unusedVariables false
set_option linter.unusedSimpArgs false
theorem Ends.next {α : Type} {f g : Nat → Option α} {r : α} (h : Ends g r) (hf : ∀ k, f (k + 1) = g k) : Ends f r := by
 obtain ⟨k, hk⟩ := h
 refine ⟨k + 1, fun k' h' => ?_⟩
 obtain ⟨m, rfl⟩ : ∃ m, k' = m + 1 := ⟨k' - 1, by omega⟩
 rw [hf]
 exact hk m (by omega)
end Go.Proofs.YtamhkdlcoghdbaaDoor.PCls
/- Out of ZLawKit (wip/tools/prune2.py): the declarations alone that the texts of the trees name. -/
namespace Go.Proofs.YtamhkdlcoghdbaaDoor.PCls
open Go.RowKit Go.Proofs.YtamhkdlcoghdbaaDoorW.PrintWords Go.Proofs.YtamhkdlcoghdbaaDoorW.PrintLast Go.Proofs.YtamhkdlcoghdbaaDoorW.PrintMore
set_option linter.unusedVariables false
set_option linter.unusedSimpArgs false
theorem own_same {w w' : World} {base : Nat} {v : Value} {n : Nat} {xs : List Value} (h : w.ownsRow base 50 2 v n xs) (hs : ∀ k, v.ownBlock = some k → w'.heap[k]? = w.heap[k]?) : w'.ownsRow base 50 2 v n xs := by
 refine ⟨h.1, ?_⟩
 rcases h.2 with hn | ⟨g, cap, cur, rfl, hb, hgg, rest⟩
 ·exact .inl hn
 ·exact .inr ⟨g, cap, cur, rfl, hb, by rw [hs g rfl]; exact hgg, rest⟩
theorem R_same {w w' : World} {base : Nat} {ok : Nat → Prop} {v : Value} {l : List S64} (h : Kd.R k64 50 w base ok v l) (hs : ∀ k, v.ownBlock = some k → w'.heap[k]? = w.heap[k]?) : Kd.R k64 50 w' base ok v l :=
 R_of_own (own_same (own_of_R h) hs) h.1
theorem R_lt {w : World} {base : Nat} {ok : Nat → Prop} {v : Value} {l : List S64} (h : Kd.R k64 50 w base ok v l) : ∀ k, v.ownBlock = some k → base ≤ k ∧ k < w.heap.size := (own_of_R h).lt
/-- a row stays where nothing below the world's size is written -/
theorem R_below {w w' : World} {base : Nat} {ok : Nat → Prop} {v : Value} {l : List S64} (h : Kd.R k64 50 w base ok v l) (hb : Below w.heap.size w w') : Kd.R k64 50 w' base ok v l :=
 R_same h fun k hk => hb.block k (R_lt h k hk).2
theorem fold_length (l : List S64) : (Cls.fold l).length ≤ l.length + 52 := by
 have h := cls_length (Cls.toFold l)
 have h2 := toFold_length l
 unfold Cls.toFold at h h2
 unfold Cls.fold
 omega
end Go.Proofs.YtamhkdlcoghdbaaDoor.PCls
/- Out of TClone (wip/tools/prune2.py): the declarations alone that the texts of the trees name. -/
namespace Go.Proofs.YtamhkdlcoghdbaaDoor.PCls
open Go.RowKit Go.Proofs.YtamhkdlcoghdbaaDoorW.PrintWords Go.Proofs.YtamhkdlcoghdbaaDoorW.PrintLast Go.Proofs.YtamhkdlcoghdbaaDoorW.PrintMore
set_option linter.unusedVariables false
set_option linter.unusedSimpArgs false
theorem info44 : (Tryd.prog.info? 28).map (fun i => (i.zero, i.size, i.bytes)) = some (some (.agg #[.int .i64 0, .int .i64 0, .int .i64 0, .int .i64 0, .slice none 0 0, .slice none 0 0]), 6, 80) := by kernel_rfl
theorem cell_block2 {w : World} {p : Addr} {v : Value} (h : w.cell? p = some v) : p.block < w.heap.size := by
 rcases Nat.lt_or_ge p.block w.heap.size with hl | hl
 ·exact hl
 ·unfold World.cell? at h
  rw [Array.getElem?_eq_none hl] at h
  cases h
/-- the cells of some nodes, one behind the other -/
def flat6 (cs : Nat → List Value) : Nat → List Value
 | 0 => []
 | n + 1 => flat6 cs n ++ cs n
theorem flat6_length (cs : Nat → List Value) : ∀ n, (∀ j, j < n → (cs j).length = 6) → (flat6 cs n).length = n * 6
 | 0, _ => rfl
 | n + 1, h => by
  simp only [flat6, List.length_append]
  rw [flat6_length cs n (fun j hj => h j (by omega)), h n (by omega)]
  omega
theorem flat6_at (cs : Nat → List Value) : ∀ n, (∀ j, j < n → (cs j).length = 6) → ∀ j, j < n → ∀ i, i < 6 → (flat6 cs n)[j * 6 + i]? = (cs j)[i]?
 | 0, _, j, hj, _, _ => by omega
 | n + 1, h, j, hj, i, hi => by
  have hl := flat6_length cs n (fun j hj => h j (by omega))
  simp only [flat6]
  rcases Nat.lt_or_ge j n with hjn | hjn
  ·rw [List.getElem?_append_left (by rw [hl]; omega)]
   exact flat6_at cs n (fun j hj => h j (by omega)) j hjn i hi
  ·obtain rfl : j = n := by omega
   rw [List.getElem?_append_right (by rw [hl]; omega), hl]
   congr 1
   omega
set_option maxHeartbeats 2000000 in
theorem clone_nil (c : Nat) (w : World) : Calls Tryd.prog 64 #[.slice none 0 c] w fun e w' => e = .returned (.slice none 0 0) ∧ w' = w := by
 have q42 : ∀ (w : World) (a : Option Addr) (n c n' c' : Nat), (binOp .eql 26 (.slice a n c) (.slice none n' c')).run Tryd.prog w = .ok (.bool a.isNone) w := fun w a n c n' c' => Lib.run_eql_slice_nil w _ _ a n c n' c' Tryd.underlying26
 go_enter Tryd.func64, Tryd.ntmps64
 go_wp2
 go_ret
 exact ⟨rfl, rfl⟩
set_option maxHeartbeats 4000000 in
theorem clone_calls (ad : Addr) (n c : Nat) (cs : Nat → List Value) (w : World) (hn : n < 1099511627776) (hl : ∀ j, j < n → (cs j).length = 6) (h1 : ∀ j, j < n → ∀ u, u ∈ cs j → u.oneCell' = true)
  (hc : ∀ j, j < n → ∀ i u, (cs j)[i]? = some u → w.cell? (ad.add (j * 6 + i)) = some u) :
  Calls Tryd.prog 64 #[.slice (some ad) n c] w fun e w' => ∃ v, e = .returned v ∧ w'.ownsRow w.heap.size 28 6 v n (flat6 cs n) ∧ Below w.heap.size w w' := by
 have q42 : ∀ (w : World) (a : Option Addr) (n c n' c' : Nat), (binOp .eql 26 (.slice a n c) (.slice none n' c')).run Tryd.prog w = .ok (.bool a.isNone) w := fun w a n c n' c' => Lib.run_eql_slice_nil w _ _ a n c n' c' Tryd.underlying26
 obtain ⟨i0, hi, hz0, hz1, hz2⟩ := info_parts info44
 have hlen := flat6_length cs n hl
 have hcell : ∀ j u, (flat6 cs n)[j]? = some u → w.cell? (ad.add j) = some u := fun j u hj => by
  have hj6 : j < n * 6 := by have := (List.getElem?_eq_some_iff.1 hj).1; omega
  have e : j = j / 6 * 6 + j % 6 := by omega
  rw [e] at hj
  rw [flat6_at cs n hl (j / 6) (by omega) (j % 6) (by omega)] at hj
  rw [e]
  exact hc (j / 6) (by omega) (j % 6) u hj
 have hone : ∀ u ∈ flat6 cs n, u.oneCell' = true := fun u hu => by
  obtain ⟨j, hj⟩ := List.getElem?_of_mem hu
  have hj6 : j < n * 6 := by have := (List.getElem?_eq_some_iff.1 hj).1; omega
  have e : j = j / 6 * 6 + j % 6 := by omega
  rw [e, flat6_at cs n hl (j / 6) (by omega) (j % 6) (by omega)] at hj
  exact h1 (j / 6) (by omega) u (List.mem_of_getElem? hj)
 generalize hI : flat6 cs n = inner at hcell hone hlen
 have A := Lib.hid hcell
 have B := Lib.hid hlen
 have C := Lib.hid hone
 have D := Lib.hid hn
 clear hcell hlen hone hc h1 hl hI hn
 go_enter Tryd.func64, Tryd.ntmps64
 go_wp2_with (at_builtin; refine wpList_append_own _ rfl _ _ 26 rfl w.heap.size 28 i0 _ 6 80 Tryd.underlying26 hi hz0 hz1 hz2 rfl (by decide) _ _ _ rfl (World.ownsRow_made w #[] 0 (Nat.le_refl _) (Nat.zero_le _) (by simp)) ad n c inner rfl ?qc1 ?qc2 ?qc3 ?qc4 ?qc5 ?qc6 ?_)
 case qc1 => exact B.out
 case qc2 => exact fun j u hj => Lib.cell?_alloc_some _ (A.out j u hj)
 case qc3 => exact C.out
 case qc4 => unfold maxLen; have := D.out; omega
 case qc5 => have := D.out; omega
 case qc6 => simp
 intro v' w1 hown hgrow hnil
 go_wp2
 go_ret
 refine ⟨v', rfl, by simpa using hown, ?_⟩
 exact ((Below.refl _ w).alloc (Nat.le_refl _) _).grown hgrow (by simp) (by intro k hk; simp [Value.ownBlock] at hk; omega)
set_option maxHeartbeats 2000000 in
/-- one, of none -/
theorem one_none (A : Option Addr) (c : Nat) (kind k m lo hi : Int) (ar ak : Option Addr) (lr cr lk ck : Nat) (w : World) :
  Calls Tryd.prog 40 #[.slice A 0 c, .int .i64 kind, .agg #[.int .i64 k, .int .i64 m, .int .i64 lo, .int .i64 hi, .slice ar lr cr, .slice ak lk ck]] w
   fun e w' => e = .returned (.agg #[.int .i64 k, .int .i64 m, .int .i64 lo, .int .i64 hi, .slice ar lr cr, .slice ak lk ck]) ∧ Below w.heap.size w w' := by
 go_enter Tryd.func40, Tryd.ntmps40
 go_wp2
 refine bodyPost_ret (v := .agg #[.int .i64 k, .int .i64 m, .int .i64 lo, .int .i64 hi, .slice ar lr cr, .slice ak lk ck]) (by simp [results, Tryd.results40, go_sem]) rfl ?_
 exact ⟨rfl, ((Below.refl _ w).alloc (Nat.le_refl _) _).alloc (by simp) _⟩
set_option maxHeartbeats 2000000 in
/-- one, of several -/
theorem one_many (A : Option Addr) (n c : Nat) (hn : 2 ≤ n) (kind k m lo hi : Int) (ar ak : Option Addr) (lr cr lk ck : Nat) (w : World) :
  Calls Tryd.prog 40 #[.slice A n c, .int .i64 kind, .agg #[.int .i64 k, .int .i64 m, .int .i64 lo, .int .i64 hi, .slice ar lr cr, .slice ak lk ck]] w
   fun e w' => e = .returned (.agg #[.int .i64 kind, .int .i64 0, .int .i64 0, .int .i64 0, .slice none 0 0, .slice A n c]) ∧ Below w.heap.size w w' := by
 have h0 : ((n : Int) == 0) = false := beq_eq_false_iff_ne.2 (by omega)
 have h1 : ((n : Int) == 1) = false := beq_eq_false_iff_ne.2 (by omega)
 have g0 : (n == 0) = false := beq_eq_false_iff_ne.2 (by omega)
 have g1 : (n == 1) = false := beq_eq_false_iff_ne.2 (by omega)
 have HN := Lib.hid hn
 clear hn
 go_enter Tryd.func40, Tryd.ntmps40
 go_wp2
 refine bodyPost_ret (v := .agg #[.int .i64 kind, .int .i64 0, .int .i64 0, .int .i64 0, .slice none 0 0, .slice A n c]) (by simp [results, Tryd.results40, go_sem]) rfl ?_
 exact ⟨rfl, ((Below.refl _ w).alloc (Nat.le_refl _) _).alloc (by simp) _⟩
set_option maxHeartbeats 2000000 in
/-- one, of one -/
theorem one_one (g c : Nat) (kind k m lo hi : Int) (ar ak : Option Addr) (lr cr lk ck : Nat) (k' m' lo' hi' : Int) (ar' ak' : Option Addr) (lr' cr' lk' ck' : Nat) (w : World)
  (h : w.cell? ⟨g, 0, none⟩ = some (.int .i64 k') ∧ w.cell? ⟨g, 1, none⟩ = some (.int .i64 m') ∧ w.cell? ⟨g, 2, none⟩ = some (.int .i64 lo') ∧ w.cell? ⟨g, 3, none⟩ = some (.int .i64 hi') ∧ w.cell? ⟨g, 4, none⟩ = some (.slice ar' lr' cr') ∧ w.cell? ⟨g, 5, none⟩ = some (.slice ak' lk' ck')) :
  Calls Tryd.prog 40 #[.slice (some ⟨g, 0, none⟩) 1 c, .int .i64 kind, .agg #[.int .i64 k, .int .i64 m, .int .i64 lo, .int .i64 hi, .slice ar lr cr, .slice ak lk ck]] w
   fun e w' => e = .returned (.agg #[.int .i64 k', .int .i64 m', .int .i64 lo', .int .i64 hi', .slice ar' lr' cr', .slice ak' lk' ck']) ∧ Below w.heap.size w w' := by
 obtain ⟨h0, h1, h2, h3, h4, h5⟩ := h
 have hg := cell_block2 h0
 go_enter Tryd.func40, Tryd.ntmps40
 go_wp2
 refine bodyPost_ret (v := .agg #[.int .i64 k', .int .i64 m', .int .i64 lo', .int .i64 hi', .slice ar' lr' cr', .slice ak' lk' ck']) (by simp [results, Tryd.results40, go_sem]) rfl ?_
 exact ⟨rfl, ((Below.refl _ w).alloc (Nat.le_refl _) _).alloc (by simp) _⟩
end Go.Proofs.YtamhkdlcoghdbaaDoor.PCls
