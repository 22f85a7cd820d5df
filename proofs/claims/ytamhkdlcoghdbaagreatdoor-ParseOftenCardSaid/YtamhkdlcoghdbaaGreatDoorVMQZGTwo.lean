/- Put together (wip/tools/pack.py): QZGTwo, QZLSpoil, QZLawKit, QTClone, QTFormed, QTTwin0. -/
import Derived.Lib.AppendZerosOnto
import Derived.Lib.AppendZeros
import Derived.Laws.CopyRow
import Derived.Test.YtamhkdlcoghdbaaGreatDoorVMQTWalk
/- Out of ZGTwo (wip/tools/prune2.py): the declarations alone that the texts of the trees name. -/
namespace Go.Proofs.YtamhkdlcoghdbaaGreatDoor.PCls
open Go.RowKit Go.Proofs.YtamhkdlcoghdbaaGreatDoorW.PrintWords Go.Proofs.YtamhkdlcoghdbaaGreatDoorW.PrintLast Go.Proofs.YtamhkdlcoghdbaaGreatDoorW.PrintMore
set_option linter.unusedVariables false
set_option linter.unusedSimpArgs false
theorem run_append_nil2 (w : World) (ty : TypeId) (base : Option Addr) (n cap c : Nat) (h : n ≤ cap) : (Builtin.append_ #[35, 35] ty #[.slice base n cap, .slice none 0 c]).run Tryz.prog w = .ok (.slice base n cap) w := by
 obtain ⟨i, hi, hz0, hz1, hz2⟩ := info64'
 cases base with
 | none => simp [Builtin.append_, run_underlying Tryz.underlying35, run_underlying Tryz.underlying39, Builtin.lenOf, Builtin.firstCells, sizeOf, typeInfo, hi, hz1, h, storeCells]
 | some a => simp [Builtin.append_, run_underlying Tryz.underlying35, run_underlying Tryz.underlying39, Builtin.lenOf, Builtin.firstCells, sizeOf, typeInfo, hi, hz1, h, storeCells]
set_option maxHeartbeats 1000000 in
theorem grow_nil (n : Nat) (w : World) (hn : n * 16 ≤ 140737488355328) :
  Calls Tryz.prog 160 #[.slice none 0 0, .int .i64 n] w fun e w' => ∃ v : Value, e = .returned v ∧ w'.ownsRow w.heap.size 39 2 v 0 [] ∧ Below w.heap.size w w' := by
 obtain ⟨i0, hi, hz0, hz1, hz2⟩ := info64'
 by_cases h0 : n = 0
 ·subst h0
  go_enter Tryz.func160, Tryz.ntmps160
  go_wp2
  go_ret
  exact ⟨_, rfl, World.ownsRow_nil _ _ _ _, Below.refl _ _⟩
 ·have hold : (Builtin.firstCells i0.size 0 (.slice none 0 0)).run Tryz.prog w.drew = .ok ([] : List Value).toArray w.drew := by rw [hz1]; exact run_firstCells_none w.drew 2 0 0 0
  have hrz : ∀ ty, (Builtin.append_ #[35, 3] ty #[.slice none 0 0, .int .i64 (n : Int)]).run Tryz.prog w = _ := fun ty => Lib.run_append_grow_zeros (P := Tryz.prog) w 35 3 ty 39 i0 _ .i64 .i64 Tryz.underlying35 Tryz.underlying3 hi hz0 none 0 0 [] hold n (by omega) (by rw [hz1]; decide) (by omega) (by omega) (by rw [hz2]; omega) (by rw [hz2]; simp [Builtin.nextslicecap]; split <;> omega)
  obtain ⟨G, hG⟩ : ∃ G, G = grownCap w (0 + n) 0 39 := ⟨_, rfl⟩
  have hG1 : 0 + n ≤ G := by rw [hG]; exact grownCap_ge w _ _ _
  have hG2 : G ≤ maxLen := by rw [hG]; exact grownCap_le_maxLen w (0 + n) 0 39 (by unfold maxLen; omega)
  obtain ⟨C, hC⟩ : ∃ C, C = (([] : List Value).toArray ++ Builtin.zeroCells (Value.agg #[.int .i64 0, .int .i64 0]).cells n ++ Builtin.zeroCells (Value.agg #[.int .i64 0, .int .i64 0]).cells (G - (0 + n))) := ⟨_, rfl⟩
  rw [← hG] at hrz
  rw [← hC] at hrz
  have hCs : C.size = G * 2 := by rw [hC]; simp [Builtin.zeroCells, Value.cells]; omega
  simp only [Nat.zero_add] at hrz
  have hG3 : G ≤ 9223372036854775807 := by unfold maxLen at hG2; exact hG2
  have hnz : (n : Int) > 0 := by omega
  have A := Lib.hid hCs
  have B := Lib.hid hG2
  clear hC hG hold hi hz0 hz1 hz2 h0 hCs hG2
  go_enter Tryz.func160, Tryz.ntmps160
  go_wp2_with (at_builtin; refine Lib.wpList_append_run _ rfl _ _ _ _ rfl _ _ rfl rfl _ _ (hrz _) ?_)
  go_ret
  exact ⟨_, rfl, World.ownsRow_made w.drew C G (Nat.le_refl _) B.out A.out, ((Below.refl _ w).drew).alloc (Nat.le_refl _) _⟩
/-- rows of ranges, as values: address, capacity, what is read -/
abbrev Rws := List (Option Addr × Nat × List S64)
def tot (R : Rws) (i : Nat) : Nat := ((R.take i).map fun x => x.2.2.length).sum
def cat (R : Rws) (i : Nat) : List S64 := (R.take i).flatMap fun x => x.2.2
theorem cat_length (R : Rws) (i : Nat) : (cat R i).length = tot R i := by
 unfold cat tot
 rw [List.length_flatMap]
theorem tot_succ (R : Rws) (i : Nat) (x) (h : R[i]? = some x) : tot R (i + 1) = tot R i + x.2.2.length := by
 obtain ⟨hi, rfl⟩ := List.getElem?_eq_some_iff.1 h
 unfold tot
 rw [List.take_succ_eq_append_getElem hi]
 simp only [List.map_append, List.sum_append, List.map_cons, List.map_nil, List.sum_cons, List.sum_nil, Nat.add_zero]
theorem cat_succ (R : Rws) (i : Nat) (x) (h : R[i]? = some x) : cat R (i + 1) = cat R i ++ x.2.2 := by
 obtain ⟨hi, rfl⟩ := List.getElem?_eq_some_iff.1 h
 unfold cat
 rw [List.take_succ_eq_append_getElem hi]
 simp only [List.flatMap_append, List.flatMap_cons, List.flatMap_nil, List.append_nil]
theorem tot_le (R : Rws) (i : Nat) : tot R i ≤ tot R R.length := by
 unfold tot
 rw [List.take_length]
 conv => rhs; rw [← List.take_append_drop i R]
 simp only [List.map_append, List.sum_append]
 omega
theorem rowOf_append (a b : List S64) : rowOf (a ++ b) = rowOf a ++ rowOf b := by simp only [rowOf, List.flatMap_append]
set_option maxHeartbeats 2000000 in
set_option maxRecDepth 100000 in
theorem concat_calls (R : Rws) (B c : Nat) (w : World) (hB : B < w.heap.size) (hm : R.length ≤ 100) (ht : tot R R.length * 16 ≤ 140737488355328)
  (hc : ∀ i x, R[i]? = some x → w.cell? ⟨B, i, none⟩ = some (.slice x.1 x.2.2.length x.2.1) ∧ Kd.C k64 w x.1 x.2.2.length x.2.2) :
  Calls Tryz.prog 119 #[.slice (some ⟨B, 0, none⟩) R.length c] w fun e w' => ∃ v : Value, e = .returned v ∧ Kd.R k64 39 w' w.heap.size (fun _ => True) v (cat R R.length) ∧ Below w.heap.size w w' := by
 obtain ⟨i0, hi, hz0, hz1, hz2⟩ := info64'
 have AC := Lib.hid hc
 have AT := Lib.hid ht
 clear hc
 go_enter Tryz.func119, Tryz.ntmps119
 go_wp2_with fail
 go_loop [3, 5, 11] (fun s3 _ s11 => ∃ i : Nat, i ≤ R.length ∧ s11 = .int .i64 i ∧ s3 = .int .i64 (tot R i : Nat)) (fun _ _ s11 => R.length - (intOf s11).toNat)
 case atStart => exact ⟨0, Nat.zero_le _, rfl, by simp [tot]⟩
 case round =>
  obtain ⟨i, hil, rfl, rfl⟩ := hrel
  by_cases hlt : i < R.length
  ·obtain ⟨x, hx⟩ : ∃ x, R[i]? = some x := ⟨_, List.getElem?_eq_getElem hlt⟩
   have hcell := (AC.out i x hx).1
   have hts := tot_succ R i x hx
   have htl := tot_le R (i + 1)
   have hltz : (i : Int) < (R.length : Int) := by omega
   have hb : tot R i + x.2.2.length ≤ 8796093022208 := by have := AT.out; omega
   have hs : ((tot R i : Nat) : Int) + ((x.2.2.length : Nat) : Int) = ((tot R (i + 1) : Nat) : Int) := by omega
   have AS := Lib.hid hs
   clear hts htl hs hx
   obtain ⟨xa, xc, xl⟩ := x
   simp only at *
   generalize xl.length = n at *
   generalize tot R i = t at *
   go_wp2_with fail
   all_goals (try go_round)
   case rel => exact ⟨i + 1, by omega, by go_num, by rw [← AS.out]⟩
   case measure => simp [intOf]; omega
  ·obtain rfl : i = R.length := by omega
   clear hil
   have hltz : ¬ (R.length : Int) < (R.length : Int) := by omega
   go_wp2_with (go_at_call 160; refine (grow_nil _ _ (by exact AT.out)).mono ?_; rintro e w1 ⟨v1, rfl, hown1, hb1⟩)
   have A1 := Lib.hid hown1
   have A2 := Lib.hid hb1
   clear hown1 hb1 hltz
   go_loopg [6, 8, 27] R.length (fun gg s6 _ s27 wr => ∃ i : Nat, i ≤ R.length ∧ R.length - i ≤ gg ∧ s27 = .int .i64 i ∧ Aside0 (wr.ownsRow w.heap.size 39 2 s6 (cat R i).length (rowOf (cat R i))) ∧ Aside0 (Below w.heap.size w wr))
   case atStart => exact ⟨0, Nat.zero_le _, by omega, rfl, ⟨A1.out⟩, ⟨A2.out⟩⟩
   case round =>
    rename_i s6
    obtain ⟨i, hil, hgg, rfl, HO, HBL⟩ := hrel
    clear A1 A2
    by_cases hlt : i < R.length
    ·obtain ⟨x, hx⟩ : ∃ x, R[i]? = some x := ⟨_, List.getElem?_eq_getElem hlt⟩
     have hcell0 := (AC.out i x hx).1
     have hcell := (HBL.out.cell (p := ⟨B, i, none⟩) hB).trans hcell0
     have hrd := Kd.C_below (AC.out i x hx).2 HBL.out
     have hcs := cat_succ R i x hx
     have hts := tot_succ R i x hx
     have htl := tot_le R (i + 1)
     have hcl := cat_length R i
     have hltz : (i : Int) < (R.length : Int) := by omega
     have hb : (cat R i).length + x.2.2.length ≤ 8796093022208 := by have := AT.out; omega
     have HR := Lib.hid hrd
     have HS := Lib.hid hcs
     clear hcell0 hrd hcs hts htl hcl hx
     obtain ⟨xa, xc, xl⟩ := x
     simp only at *
     obtain ⟨A, c6, rfl⟩ := own_slice HO.out
     have hle := own_le HO.out
     cases xa with
     | none =>
      have hxl := nil_of_C HR.out
      subst hxl
      have happ := fun ty => run_append_nil2 wr ty A (cat R i).length c6 xc hle
      go_wp2_with (at_builtin; refine Lib.wpList_append_run _ rfl _ _ _ _ rfl _ _ rfl rfl _ _ (happ _) ?_)
      go_roundg (R.length - (i + 1))
      case measure => omega
      case rel => exact ⟨i + 1, by omega, Nat.le_refl _, by go_num, ⟨by rw [HS.out, List.append_nil]; exact HO.out⟩, ⟨HBL.out⟩⟩
     | some ad =>
      have hnews := cells_of_C HR.out
      have hl2 := rowOf_length xl
      have h1 := one_rowOf xl
      generalize hI : rowOf xl = news at hnews hl2 h1
      have G1 := Lib.hid hnews
      have G2 := Lib.hid hl2
      have G3 := Lib.hid hI
      clear hnews hl2 hI
      go_wp2_with (at_builtin; refine wpList_append_own _ rfl _ _ 35 rfl w.heap.size 39 i0 _ 2 16 Tryz.underlying35 hi hz0 hz1 hz2 rfl (by decide) _ _ _ rfl HO.out ad xl.length xc news rfl ?qc1 ?qc2 ?qc3 ?qc4 ?qc5 ?qc6 ?_)
      case qc1 => exact G2.out
      case qc2 => exact G1.out
      case qc3 => exact h1
      case qc4 => unfold maxLen; omega
      case qc5 => omega
      case qc6 => exact HBL.out.size
      intro v' w1 hown hgrow hnil
      have K1 := Lib.hid hown
      have K2 := Lib.hid hgrow
      clear hown hgrow hnil h1
      go_wp2
      go_roundg (R.length - (i + 1))
      case measure => omega
      case rel =>
       refine ⟨i + 1, by omega, Nat.le_refl _, by go_num, ⟨?_⟩, ⟨HBL.out.grown K2.out HBL.out.size (fun k hk => (HO.out.lt k hk).1)⟩⟩
       rw [HS.out, rowOf_append, List.length_append, G3.out]
       exact K1.out
    ·obtain rfl : i = R.length := by omega
     have hltz : ¬ (R.length : Int) < (R.length : Int) := by omega
     clear hil
     go_wp2_with fail
     go_ret
     exact ⟨_, rfl, R_of_own HO.out (fun _ _ => trivial), HBL.out⟩
end Go.Proofs.YtamhkdlcoghdbaaGreatDoor.PCls
namespace Go.Proofs.YtamhkdlcoghdbaaGreatDoor.PCls
open Go.RowKit Go.Proofs.YtamhkdlcoghdbaaGreatDoorW.PrintWords Go.Proofs.YtamhkdlcoghdbaaGreatDoorW.PrintLast Go.Proofs.YtamhkdlcoghdbaaGreatDoorW.PrintMore
set_option linter.unusedVariables false
set_option linter.unusedSimpArgs false
end Go.Proofs.YtamhkdlcoghdbaaGreatDoor.PCls
namespace Go.Proofs.YtamhkdlcoghdbaaGreatDoor.PCls
open Go.RowKit Go.Proofs.YtamhkdlcoghdbaaGreatDoorW.PrintWords Go.Proofs.YtamhkdlcoghdbaaGreatDoorW.PrintLast Go.Proofs.YtamhkdlcoghdbaaGreatDoorW.PrintMore
set_option linter.unusedVariables false
set_option linter.unusedSimpArgs false
end Go.Proofs.YtamhkdlcoghdbaaGreatDoor.PCls
namespace Go.Proofs.YtamhkdlcoghdbaaGreatDoor.PCls
open Go.RowKit Go.Proofs.YtamhkdlcoghdbaaGreatDoorW.PrintWords Go.Proofs.YtamhkdlcoghdbaaGreatDoorW.PrintLast Go.Proofs.YtamhkdlcoghdbaaGreatDoorW.PrintMore
open Go.Shelf Go.Lib
set_option linter.unusedVariables false
set_option linter.unusedSimpArgs false
end Go.Proofs.YtamhkdlcoghdbaaGreatDoor.PCls
namespace Go.Proofs.YtamhkdlcoghdbaaGreatDoor.PCls
open Go.RowKit Go.Proofs.YtamhkdlcoghdbaaGreatDoorW.PrintWords Go.Proofs.YtamhkdlcoghdbaaGreatDoorW.PrintLast Go.Proofs.YtamhkdlcoghdbaaGreatDoorW.PrintMore
set_option linter.unusedVariables false
set_option linter.unusedSimpArgs false
end Go.Proofs.YtamhkdlcoghdbaaGreatDoor.PCls
/- Out of ZLSpoil (wip/tools/prune2.py): the declarations alone that the texts of the trees name. -/
namespace Go.Proofs.YtamhkdlcoghdbaaGreatDoor.PCls
open Go.RowKit Go.Proofs.YtamhkdlcoghdbaaGreatDoorW.PrintWords Go.Proofs.YtamhkdlcoghdbaaGreatDoorW.PrintLast Go.Proofs.YtamhkdlcoghdbaaGreatDoorW.PrintMore
set_option linter.unusedVariables false
set_option linter.unusedSimpArgs false
theorem Ends.next {α : Type} {f g : Nat → Option α} {r : α} (h : Ends g r) (hf : ∀ k, f (k + 1) = g k) : Ends f r := by
 obtain ⟨k, hk⟩ := h
 refine ⟨k + 1, fun k' h' => ?_⟩
 obtain ⟨m, rfl⟩ : ∃ m, k' = m + 1 := ⟨k' - 1, by omega⟩
 rw [hf]
 exact hk m (by omega)
end Go.Proofs.YtamhkdlcoghdbaaGreatDoor.PCls
/- Out of ZLawKit (wip/tools/prune2.py): the declarations alone that the texts of the trees name. -/
namespace Go.Proofs.YtamhkdlcoghdbaaGreatDoor.PCls
open Go.RowKit Go.Proofs.YtamhkdlcoghdbaaGreatDoorW.PrintWords Go.Proofs.YtamhkdlcoghdbaaGreatDoorW.PrintLast Go.Proofs.YtamhkdlcoghdbaaGreatDoorW.PrintMore
set_option linter.unusedVariables false
set_option linter.unusedSimpArgs false
theorem own_same {w w' : World} {base : Nat} {v : Value} {n : Nat} {xs : List Value} (h : w.ownsRow base 39 2 v n xs) (hs : ∀ k, v.ownBlock = some k → w'.heap[k]? = w.heap[k]?) : w'.ownsRow base 39 2 v n xs := by
 refine ⟨h.1, ?_⟩
 rcases h.2 with hn | ⟨g, cap, cur, rfl, hb, hgg, rest⟩
 ·exact .inl hn
 ·exact .inr ⟨g, cap, cur, rfl, hb, by rw [hs g rfl]; exact hgg, rest⟩
theorem R_same {w w' : World} {base : Nat} {ok : Nat → Prop} {v : Value} {l : List S64} (h : Kd.R k64 39 w base ok v l) (hs : ∀ k, v.ownBlock = some k → w'.heap[k]? = w.heap[k]?) : Kd.R k64 39 w' base ok v l :=
 R_of_own (own_same (own_of_R h) hs) h.1
theorem R_lt {w : World} {base : Nat} {ok : Nat → Prop} {v : Value} {l : List S64} (h : Kd.R k64 39 w base ok v l) : ∀ k, v.ownBlock = some k → base ≤ k ∧ k < w.heap.size := (own_of_R h).lt
/-- a row stays where nothing below the world's size is written -/
theorem R_below {w w' : World} {base : Nat} {ok : Nat → Prop} {v : Value} {l : List S64} (h : Kd.R k64 39 w base ok v l) (hb : Below w.heap.size w w') : Kd.R k64 39 w' base ok v l :=
 R_same h fun k hk => hb.block k (R_lt h k hk).2
theorem fold_length (l : List S64) : (Cls.fold l).length ≤ l.length + 52 := by
 have h := cls_length (Cls.toFold l)
 have h2 := toFold_length l
 unfold Cls.toFold at h h2
 unfold Cls.fold
 omega
end Go.Proofs.YtamhkdlcoghdbaaGreatDoor.PCls
/- Out of TClone (wip/tools/prune2.py): the declarations alone that the texts of the trees name. -/
namespace Go.Proofs.YtamhkdlcoghdbaaGreatDoor.PCls
open Go.RowKit Go.Proofs.YtamhkdlcoghdbaaGreatDoorW.PrintWords Go.Proofs.YtamhkdlcoghdbaaGreatDoorW.PrintLast Go.Proofs.YtamhkdlcoghdbaaGreatDoorW.PrintMore
set_option linter.unusedVariables false
set_option linter.unusedSimpArgs false
theorem info44 : (Tryz.prog.info? 43).map (fun i => (i.zero, i.size, i.bytes)) = some (some (.agg #[.int .i64 0, .int .i64 0, .int .i64 0, .int .i64 0, .slice none 0 0, .slice none 0 0]), 6, 80) := by kernel_rfl
theorem cell_block2 {w : World} {p : Addr} {v : Value} (h : w.cell? p = some v) : p.block < w.heap.size := by
 rcases Nat.lt_or_ge p.block w.heap.size with hl | hl
 ·exact hl
 ·unfold World.cell? at h
  rw [Array.getElem?_eq_none hl] at h
  cases h
/-- the cells of some nodes, one behind the other -/
def flat6 (cs : Nat → List Value) : Nat → List Value
 | 0 => []
 | n + 1 => flat6 cs n ++ cs n
theorem flat6_length (cs : Nat → List Value) : ∀ n, (∀ j, j < n → (cs j).length = 6) → (flat6 cs n).length = n * 6
 | 0, _ => rfl
 | n + 1, h => by
  simp only [flat6, List.length_append]
  rw [flat6_length cs n (fun j hj => h j (by omega)), h n (by omega)]
  omega
theorem flat6_at (cs : Nat → List Value) : ∀ n, (∀ j, j < n → (cs j).length = 6) → ∀ j, j < n → ∀ i, i < 6 → (flat6 cs n)[j * 6 + i]? = (cs j)[i]?
 | 0, _, j, hj, _, _ => by omega
 | n + 1, h, j, hj, i, hi => by
  have hl := flat6_length cs n (fun j hj => h j (by omega))
  simp only [flat6]
  rcases Nat.lt_or_ge j n with hjn | hjn
  ·rw [List.getElem?_append_left (by rw [hl]; omega)]
   exact flat6_at cs n (fun j hj => h j (by omega)) j hjn i hi
  ·obtain rfl : j = n := by omega
   rw [List.getElem?_append_right (by rw [hl]; omega), hl]
   congr 1
   omega
set_option maxHeartbeats 2000000 in
theorem clone_nil (c : Nat) (w : World) : Calls Tryz.prog 117 #[.slice none 0 c] w fun e w' => e = .returned (.slice none 0 0) ∧ w' = w := by
 have q42 : ∀ (w : World) (a : Option Addr) (n c n' c' : Nat), (binOp .eql 41 (.slice a n c) (.slice none n' c')).run Tryz.prog w = .ok (.bool a.isNone) w := fun w a n c n' c' => Lib.run_eql_slice_nil w _ _ a n c n' c' Tryz.underlying41
 go_enter Tryz.func117, Tryz.ntmps117
 go_wp2
 go_ret
 exact ⟨rfl, rfl⟩
set_option maxHeartbeats 4000000 in
theorem clone_calls (ad : Addr) (n c : Nat) (cs : Nat → List Value) (w : World) (hn : n < 1099511627776) (hl : ∀ j, j < n → (cs j).length = 6) (h1 : ∀ j, j < n → ∀ u, u ∈ cs j → u.oneCell' = true)
  (hc : ∀ j, j < n → ∀ i u, (cs j)[i]? = some u → w.cell? (ad.add (j * 6 + i)) = some u) :
  Calls Tryz.prog 117 #[.slice (some ad) n c] w fun e w' => ∃ v, e = .returned v ∧ w'.ownsRow w.heap.size 43 6 v n (flat6 cs n) ∧ Below w.heap.size w w' := by
 have q42 : ∀ (w : World) (a : Option Addr) (n c n' c' : Nat), (binOp .eql 41 (.slice a n c) (.slice none n' c')).run Tryz.prog w = .ok (.bool a.isNone) w := fun w a n c n' c' => Lib.run_eql_slice_nil w _ _ a n c n' c' Tryz.underlying41
 obtain ⟨i0, hi, hz0, hz1, hz2⟩ := info_parts info44
 have hlen := flat6_length cs n hl
 have hcell : ∀ j u, (flat6 cs n)[j]? = some u → w.cell? (ad.add j) = some u := fun j u hj => by
  have hj6 : j < n * 6 := by have := (List.getElem?_eq_some_iff.1 hj).1; omega
  have e : j = j / 6 * 6 + j % 6 := by omega
  rw [e] at hj
  rw [flat6_at cs n hl (j / 6) (by omega) (j % 6) (by omega)] at hj
  rw [e]
  exact hc (j / 6) (by omega) (j % 6) u hj
 have hone : ∀ u ∈ flat6 cs n, u.oneCell' = true := fun u hu => by
  obtain ⟨j, hj⟩ := List.getElem?_of_mem hu
  have hj6 : j < n * 6 := by have := (List.getElem?_eq_some_iff.1 hj).1; omega
  have e : j = j / 6 * 6 + j % 6 := by omega
  rw [e, flat6_at cs n hl (j / 6) (by omega) (j % 6) (by omega)] at hj
  exact h1 (j / 6) (by omega) u (List.mem_of_getElem? hj)
 generalize hI : flat6 cs n = inner at hcell hone hlen
 have A := Lib.hid hcell
 have B := Lib.hid hlen
 have C := Lib.hid hone
 have D := Lib.hid hn
 clear hcell hlen hone hc h1 hl hI hn
 go_enter Tryz.func117, Tryz.ntmps117
 go_wp2_with (at_builtin; refine wpList_append_own _ rfl _ _ 41 rfl w.heap.size 43 i0 _ 6 80 Tryz.underlying41 hi hz0 hz1 hz2 rfl (by decide) _ _ _ rfl (World.ownsRow_made w #[] 0 (Nat.le_refl _) (Nat.zero_le _) (by simp)) ad n c inner rfl ?qc1 ?qc2 ?qc3 ?qc4 ?qc5 ?qc6 ?_)
 case qc1 => exact B.out
 case qc2 => exact fun j u hj => Lib.cell?_alloc_some _ (A.out j u hj)
 case qc3 => exact C.out
 case qc4 => unfold maxLen; have := D.out; omega
 case qc5 => have := D.out; omega
 case qc6 => simp
 intro v' w1 hown hgrow hnil
 go_wp2
 go_ret
 refine ⟨v', rfl, by simpa using hown, ?_⟩
 exact ((Below.refl _ w).alloc (Nat.le_refl _) _).grown hgrow (by simp) (by intro k hk; simp [Value.ownBlock] at hk; omega)
set_option maxHeartbeats 2000000 in
/-- one, of none -/
theorem one_none (A : Option Addr) (c : Nat) (kind k m lo hi : Int) (ar ak : Option Addr) (lr cr lk ck : Nat) (w : World) :
  Calls Tryz.prog 59 #[.slice A 0 c, .int .i64 kind, .agg #[.int .i64 k, .int .i64 m, .int .i64 lo, .int .i64 hi, .slice ar lr cr, .slice ak lk ck]] w
   fun e w' => e = .returned (.agg #[.int .i64 k, .int .i64 m, .int .i64 lo, .int .i64 hi, .slice ar lr cr, .slice ak lk ck]) ∧ Below w.heap.size w w' := by
 go_enter Tryz.func59, Tryz.ntmps59
 go_wp2
 refine bodyPost_ret (v := .agg #[.int .i64 k, .int .i64 m, .int .i64 lo, .int .i64 hi, .slice ar lr cr, .slice ak lk ck]) (by simp [results, Tryz.results59, go_sem]) rfl ?_
 exact ⟨rfl, ((Below.refl _ w).alloc (Nat.le_refl _) _).alloc (by simp) _⟩
set_option maxHeartbeats 2000000 in
/-- one, of several -/
theorem one_many (A : Option Addr) (n c : Nat) (hn : 2 ≤ n) (kind k m lo hi : Int) (ar ak : Option Addr) (lr cr lk ck : Nat) (w : World) :
  Calls Tryz.prog 59 #[.slice A n c, .int .i64 kind, .agg #[.int .i64 k, .int .i64 m, .int .i64 lo, .int .i64 hi, .slice ar lr cr, .slice ak lk ck]] w
   fun e w' => e = .returned (.agg #[.int .i64 kind, .int .i64 0, .int .i64 0, .int .i64 0, .slice none 0 0, .slice A n c]) ∧ Below w.heap.size w w' := by
 have h0 : ((n : Int) == 0) = false := beq_eq_false_iff_ne.2 (by omega)
 have h1 : ((n : Int) == 1) = false := beq_eq_false_iff_ne.2 (by omega)
 have g0 : (n == 0) = false := beq_eq_false_iff_ne.2 (by omega)
 have g1 : (n == 1) = false := beq_eq_false_iff_ne.2 (by omega)
 have HN := Lib.hid hn
 clear hn
 go_enter Tryz.func59, Tryz.ntmps59
 go_wp2
 refine bodyPost_ret (v := .agg #[.int .i64 kind, .int .i64 0, .int .i64 0, .int .i64 0, .slice none 0 0, .slice A n c]) (by simp [results, Tryz.results59, go_sem]) rfl ?_
 exact ⟨rfl, ((Below.refl _ w).alloc (Nat.le_refl _) _).alloc (by simp) _⟩
set_option maxHeartbeats 2000000 in
/-- one, of one -/
theorem one_one (g c : Nat) (kind k m lo hi : Int) (ar ak : Option Addr) (lr cr lk ck : Nat) (k' m' lo' hi' : Int) (ar' ak' : Option Addr) (lr' cr' lk' ck' : Nat) (w : World)
  (h : w.cell? ⟨g, 0, none⟩ = some (.int .i64 k') ∧ w.cell? ⟨g, 1, none⟩ = some (.int .i64 m') ∧ w.cell? ⟨g, 2, none⟩ = some (.int .i64 lo') ∧ w.cell? ⟨g, 3, none⟩ = some (.int .i64 hi') ∧ w.cell? ⟨g, 4, none⟩ = some (.slice ar' lr' cr') ∧ w.cell? ⟨g, 5, none⟩ = some (.slice ak' lk' ck')) :
  Calls Tryz.prog 59 #[.slice (some ⟨g, 0, none⟩) 1 c, .int .i64 kind, .agg #[.int .i64 k, .int .i64 m, .int .i64 lo, .int .i64 hi, .slice ar lr cr, .slice ak lk ck]] w
   fun e w' => e = .returned (.agg #[.int .i64 k', .int .i64 m', .int .i64 lo', .int .i64 hi', .slice ar' lr' cr', .slice ak' lk' ck']) ∧ Below w.heap.size w w' := by
 obtain ⟨h0, h1, h2, h3, h4, h5⟩ := h
 have hg := cell_block2 h0
 go_enter Tryz.func59, Tryz.ntmps59
 go_wp2
 refine bodyPost_ret (v := .agg #[.int .i64 k', .int .i64 m', .int .i64 lo', .int .i64 hi', .slice ar' lr' cr', .slice ak' lk' ck']) (by simp [results, Tryz.results59, go_sem]) rfl ?_
 exact ⟨rfl, ((Below.refl _ w).alloc (Nat.le_refl _) _).alloc (by simp) _⟩
end Go.Proofs.YtamhkdlcoghdbaaGreatDoor.PCls
/- Out of TFormed (wip/tools/prune2.py): the declarations alone that the texts of the trees name. -/
namespace Go.Proofs.YtamhkdlcoghdbaaGreatDoor.PCls
open Go.RowKit Go.Proofs.YtamhkdlcoghdbaaGreatDoorW.PrintWords Go.Proofs.YtamhkdlcoghdbaaGreatDoorW.PrintLast Go.Proofs.YtamhkdlcoghdbaaGreatDoorW.PrintMore
set_option linter.unusedVariables false
set_option linter.unusedSimpArgs false
theorem with_self {P : Program} {md : Region.Mode} {ops : Array Oper} {Q : Exit → Act → World → Prop} {S : World → Prop} {ds : List Nat} {n : Nat} {l : Array Bool} {a : Act} {w : World} (h : Aside0 (rtab md ops = rtab md ops) → wpAnyLast P md ops Q S ds n l a w) : wpAnyLast P md ops Q S ds n l a w := h ⟨rfl⟩
end Go.Proofs.YtamhkdlcoghdbaaGreatDoor.PCls
/- Out of TTwin0 (wip/tools/prune2.py): the declarations alone that the texts of the trees name. -/
namespace Go.Proofs.YtamhkdlcoghdbaaGreatDoor.PCls
open Go.RowKit Go.Proofs.YtamhkdlcoghdbaaGreatDoorW.PrintWords Go.Proofs.YtamhkdlcoghdbaaGreatDoorW.PrintLast Go.Proofs.YtamhkdlcoghdbaaGreatDoorW.PrintMore
set_option linter.unusedVariables false
set_option linter.unusedSimpArgs false
theorem set_row {W : World} {g : Nat} {t : TypeId} {cur : Array Value} (h : W.heap[g]? = some (.cells cur t (0, 0))) (o : Nat) (v : Value) : (W.setCell ⟨g, o, none⟩ v).heap[g]? = some (.cells (cur.setIfInBounds o v) t (0, 0)) := by
  simp only [World.setCell, Array.getElem?_modify]
  rw [h]
  simp
/-- a row of nodes' cells -/
def RowAt (W : World) (g n : Nat) (cs : Nat → List Value) : Prop := ∃ cur : Array Value, W.heap[g]? = some (.cells cur 43 (0, 0)) ∧ n * 6 ≤ cur.size ∧ ∀ i, i < n → ∀ q u, (cs i)[q]? = some u → cur[i * 6 + q]? = some u
theorem RowAt.cell {W : World} {g n : Nat} {cs : Nat → List Value} (h : RowAt W g n cs) {i q : Nat} {u : Value} (hi : i < n) (hu : (cs i)[q]? = some u) : W.cell? ⟨g, i * 6 + q, none⟩ = some u := by
  obtain ⟨cur, h1, _, h2⟩ := h
  exact cell_heap h1 (h2 i hi q u hu)
theorem RowAt.frozen {W : World} {g n : Nat} {cs : Nat → List Value} (h : RowAt W g n cs) (o : Nat) : W.frozen? ⟨g, o, none⟩ = false := by
  obtain ⟨cur, h1, _, _⟩ := h
  simp [World.frozen?, h1]
theorem RowAt.keep {A B : World} {g n : Nat} {cs : Nat → List Value} (h : RowAt A g n cs) (hb : B.heap[g]? = A.heap[g]?) : RowAt B g n cs := by
  obtain ⟨cur, h1, h2⟩ := h
  exact ⟨cur, hb.trans h1, h2⟩
def put6 (W : World) (g o : Nat) (v0 v1 v2 v3 v4 v5 : Value) : World := (((((W.setCell ⟨g, o, none⟩ v0).setCell ⟨g, o + 1, none⟩ v1).setCell ⟨g, o + 2, none⟩ v2).setCell ⟨g, o + 3, none⟩ v3).setCell ⟨g, o + 4, none⟩ v4).setCell ⟨g, o + 5, none⟩ v5
theorem put6_other (W : World) (g o : Nat) (v0 v1 v2 v3 v4 v5 : Value) (b : Nat) (hb : b ≠ g) : (put6 W g o v0 v1 v2 v3 v4 v5).heap[b]? = W.heap[b]? := by
  unfold put6
  rw [Below.heap_setCell _ _ _ _ hb, Below.heap_setCell _ _ _ _ hb, Below.heap_setCell _ _ _ _ hb, Below.heap_setCell _ _ _ _ hb, Below.heap_setCell _ _ _ _ hb, Below.heap_setCell _ _ _ _ hb]
theorem put6_size (W : World) (g o : Nat) (v0 v1 v2 v3 v4 v5 : Value) : (put6 W g o v0 v1 v2 v3 v4 v5).heap.size = W.heap.size := by simp [put6, World.setCell]
theorem put6_below {B : Nat} {w0 W : World} (h : Below B w0 W) {g : Nat} (hg : B ≤ g) (o : Nat) (v0 v1 v2 v3 v4 v5 : Value) : Below B w0 (put6 W g o v0 v1 v2 v3 v4 v5) := by
  unfold put6
  exact (((((h.setCell (p := ⟨g, o, none⟩) hg _).setCell (p := ⟨g, o + 1, none⟩) hg _).setCell (p := ⟨g, o + 2, none⟩) hg _).setCell (p := ⟨g, o + 3, none⟩) hg _).setCell (p := ⟨g, o + 4, none⟩) hg _).setCell (p := ⟨g, o + 5, none⟩) hg _
theorem put6_row {W : World} {g n : Nat} {cs : Nat → List Value} (h : RowAt W g n cs) {j : Nat} (hj : j < n) (v0 v1 v2 v3 v4 v5 : Value) (hl : ∀ i, i < n → (cs i).length = 6) :
    RowAt (put6 W g (j * 6) v0 v1 v2 v3 v4 v5) g n (fun i => if i = j then [v0, v1, v2, v3, v4, v5] else cs i) := by
  obtain ⟨cur, h1, h2, h3⟩ := h
  refine ⟨_, set_row (set_row (set_row (set_row (set_row (set_row h1 _ _) _ _) _ _) _ _) _ _) _ _, by simpa using h2, fun i hi q u hu => ?_⟩
  simp only [Array.getElem?_setIfInBounds, Array.size_setIfInBounds]
  by_cases hij : i = j
  · subst hij
    have hu2 : (if i = i then ([v0, v1, v2, v3, v4, v5] : List Value) else cs i)[q]? = some u := hu
    rw [if_pos rfl] at hu2
    clear hu
    have hu := hu2
    clear hu2
    match q, hu with
    | 0, hu => simp at hu; subst hu; simp; omega
    | 1, hu => simp at hu; subst hu; simp; omega
    | 2, hu => simp at hu; subst hu; simp; omega
    | 3, hu => simp at hu; subst hu; simp; omega
    | 4, hu => simp at hu; subst hu; simp; omega
    | 5, hu => simp at hu; subst hu; simp; omega
    | q + 6, hu => simp at hu
  · have hu2 : (if i = j then ([v0, v1, v2, v3, v4, v5] : List Value) else cs i)[q]? = some u := hu
    rw [if_neg hij] at hu2
    clear hu
    have hu := hu2
    have hq : q < 6 := by have := (List.getElem?_eq_some_iff.1 hu).1; rw [hl i hi] at this; exact this
    have := h3 i hi q u hu
    rw [if_neg (by omega), if_neg (by omega), if_neg (by omega), if_neg (by omega), if_neg (by omega), if_neg (by omega)]
    exact this
theorem NIn.one {w : World} {P : Nat → Prop} {t : NT} {cs : List Value} (h : NIn w P t cs) : ∀ u, u ∈ cs → u.oneCell' = true := by
  cases h
  intro u hu
  simp at hu
  rcases hu with rfl | rfl | rfl | rfl | rfl | rfl <;> rfl
/-- the clone of a node's kids -/
theorem clone_kids {w W : World} {n0 : Nat} {k m lo hi : Int} {r : List S64} {kids : List NT} {ak : Option Addr} {ck : Nat} {v0 v1 v2 v3 v4 : Value} (h : NIn W (· < n0) (.mk k m lo hi r kids) [v0, v1, v2, v3, v4, .slice ak kids.length ck]) :
    ∃ cs : Nat → List Value, (∀ j t, kids[j]? = some t → NIn W (· < n0) t (cs j)) ∧ (∀ j, j < kids.length → (cs j).length = 6) ∧
      ((kids = [] ∧ Calls Tryz.prog 117 #[.slice ak kids.length ck] W fun e w' => ∃ v, (v = .slice none 0 0 ∨ ∃ g c, v = .slice (some ⟨g, 0, none⟩) 0 c) ∧ e = .returned v ∧ Below W.heap.size W w') ∨
       (kids ≠ [] ∧ Calls Tryz.prog 117 #[.slice ak kids.length ck] W fun e w' => ∃ g c, e = .returned (.slice (some ⟨g, 0, none⟩) kids.length c) ∧ kids.length ≤ c ∧ W.heap.size ≤ g ∧ g < w'.heap.size ∧ RowAt w' g kids.length cs ∧ Below W.heap.size W w')) := by
  cases h with
  | mk _ _ _ _ _ _ ar _ cr _ cs hr hrb hcr hrl hin hck hkl hk ha =>
    have hl : ∀ j, j < kids.length → (cs j).length = 6 := fun j hj => (hk j _ (List.getElem?_eq_getElem hj)).len
    refine ⟨cs, hk, hl, ?_⟩
    rcases Nat.eq_zero_or_pos kids.length with h0 | h0
    · have hk0 : kids = [] := List.length_eq_zero_iff.1 h0
      refine .inl ⟨hk0, ?_⟩
      rw [h0]
      cases ak with
      | none => exact (clone_nil ck W).mono fun e w' ⟨he, hw⟩ => ⟨_, .inl rfl, he, by rw [hw]; exact Below.refl _ _⟩
      | some ad => exact (clone_calls ad 0 ck cs W (by omega) (by omega) (by omega) (by omega)).mono fun e w' ⟨v, he, ho, hb⟩ => ⟨v, by
          rcases ho.2 with ⟨hv, _⟩ | ⟨g, c, cur, hv, _⟩
          · exact .inl hv
          · exact .inr ⟨g, c, hv⟩, he, hb⟩
    · refine .inr ⟨fun e => by rw [e] at h0; simp at h0, ?_⟩
      obtain ⟨ad, rfl, _, _⟩ := ha 0 h0
      refine (clone_calls ad kids.length ck cs W hkl hl (fun j hj u hu => (hk j _ (List.getElem?_eq_getElem hj)).one u hu) (fun j hj i u hu => by
        obtain ⟨ad', e, _, hc⟩ := ha j hj
        cases e
        exact hc i u hu)).mono ?_
      rintro e w' ⟨v, rfl, ho, hb⟩
      have hl0 := ho.1
      rcases ho.2 with ⟨rfl, h1⟩ | ⟨g, c, cur, rfl, hg, hh, hcap, _, hs, htk⟩
      · omega
      · refine ⟨g, c, rfl, hcap, hg, (Array.getElem?_eq_some_iff.1 hh).1, ⟨cur, hh, by rw [hs]; exact Nat.mul_le_mul_right 6 hcap, fun i hi q u hu => ?_⟩, hb⟩
        have hq : q < 6 := by have := (List.getElem?_eq_some_iff.1 hu).1; rw [hl i hi] at this; exact this
        have h2 := flat6_at cs kids.length hl i hi q hq
        rw [hu, ← htk] at h2
        rw [List.getElem?_take] at h2
        split at h2
        · simpa using h2
        · simp at h2
end Go.Proofs.YtamhkdlcoghdbaaGreatDoor.PCls
