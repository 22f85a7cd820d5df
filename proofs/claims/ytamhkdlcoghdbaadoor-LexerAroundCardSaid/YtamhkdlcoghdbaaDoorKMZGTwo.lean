/- Put together (wip/tools/pack.py): ZGTwo, ZLThree, ZLSpoil, ZLawKit, Lc, Lo. -/
import Derived.Lib.AppendZerosOnto
import Derived.Lib.AppendZeros
import Derived.Test.YtamhkdlcoghdbaaDoorKMZLOne
import Derived.Laws.CopyRow
import Derived.Lib.Bytes2
/- Out of ZGTwo (wip/tools/prune2.py): the declarations alone that the texts of the trees name. -/
namespace Go.Proofs.YtamhkdlcoghdbaaDoor.PCls
open Go.RowKit Go.Proofs.YtamhkdlcoghdbaaDoorW.PrintWords Go.Proofs.YtamhkdlcoghdbaaDoorW.PrintLast Go.Proofs.YtamhkdlcoghdbaaDoorW.PrintMore
set_option linter.unusedVariables false
set_option linter.unusedSimpArgs false
theorem run_append_nil2 (w : World) (ty : TypeId) (base : Option Addr) (n cap c : Nat) (h : n ≤ cap) : (Builtin.append_ #[25, 25] ty #[.slice base n cap, .slice none 0 c]).run Tryd.prog w = .ok (.slice base n cap) w := by
 obtain ⟨i, hi, hz0, hz1, hz2⟩ := info64'
 cases base with
 | none => simp [Builtin.append_, run_underlying Tryd.underlying25, run_underlying Tryd.underlying50, Builtin.lenOf, Builtin.firstCells, sizeOf, typeInfo, hi, hz1, h, storeCells]
 | some a => simp [Builtin.append_, run_underlying Tryd.underlying25, run_underlying Tryd.underlying50, Builtin.lenOf, Builtin.firstCells, sizeOf, typeInfo, hi, hz1, h, storeCells]
set_option maxHeartbeats 1000000 in
theorem grow_nil (n : Nat) (w : World) (hn : n * 16 ≤ 140737488355328) :
  Calls Tryd.prog 85 #[.slice none 0 0, .int .i64 n] w fun e w' => ∃ v : Value, e = .returned v ∧ w'.ownsRow w.heap.size 50 2 v 0 [] ∧ Below w.heap.size w w' := by
 obtain ⟨i0, hi, hz0, hz1, hz2⟩ := info64'
 by_cases h0 : n = 0
 ·subst h0
  go_enter Tryd.func85, Tryd.ntmps85
  go_wp2
  go_ret
  exact ⟨_, rfl, World.ownsRow_nil _ _ _ _, Below.refl _ _⟩
 ·have hold : (Builtin.firstCells i0.size 0 (.slice none 0 0)).run Tryd.prog w.drew = .ok ([] : List Value).toArray w.drew := by rw [hz1]; exact run_firstCells_none w.drew 2 0 0 0
  have hrz : ∀ ty, (Builtin.append_ #[25, 3] ty #[.slice none 0 0, .int .i64 (n : Int)]).run Tryd.prog w = _ := fun ty => Lib.run_append_grow_zeros (P := Tryd.prog) w 25 3 ty 50 i0 _ .i64 .i64 Tryd.underlying25 Tryd.underlying3 hi hz0 none 0 0 [] hold n (by omega) (by rw [hz1]; decide) (by omega) (by omega) (by rw [hz2]; omega) (by rw [hz2]; simp [Builtin.nextslicecap]; split <;> omega)
  obtain ⟨G, hG⟩ : ∃ G, G = grownCap w (0 + n) 0 50 := ⟨_, rfl⟩
  have hG1 : 0 + n ≤ G := by rw [hG]; exact grownCap_ge w _ _ _
  have hG2 : G ≤ maxLen := by rw [hG]; exact grownCap_le_maxLen w (0 + n) 0 50 (by unfold maxLen; omega)
  obtain ⟨C, hC⟩ : ∃ C, C = (([] : List Value).toArray ++ Builtin.zeroCells (Value.agg #[.int .i64 0, .int .i64 0]).cells n ++ Builtin.zeroCells (Value.agg #[.int .i64 0, .int .i64 0]).cells (G - (0 + n))) := ⟨_, rfl⟩
  rw [← hG] at hrz
  rw [← hC] at hrz
  have hCs : C.size = G * 2 := by rw [hC]; simp [Builtin.zeroCells, Value.cells]; omega
  simp only [Nat.zero_add] at hrz
  have hG3 : G ≤ 9223372036854775807 := by unfold maxLen at hG2; exact hG2
  have hnz : (n : Int) > 0 := by omega
  have A := Lib.hid hCs
  have B := Lib.hid hG2
  clear hC hG hold hi hz0 hz1 hz2 h0 hCs hG2
  go_enter Tryd.func85, Tryd.ntmps85
  go_wp2_with (at_builtin; refine Lib.wpList_append_run _ rfl _ _ _ _ rfl _ _ rfl rfl _ _ (hrz _) ?_)
  go_ret
  exact ⟨_, rfl, World.ownsRow_made w.drew C G (Nat.le_refl _) B.out A.out, ((Below.refl _ w).drew).alloc (Nat.le_refl _) _⟩
/-- rows of ranges, as values: address, capacity, what is read -/
abbrev Rws := List (Option Addr × Nat × List S64)
def tot (R : Rws) (i : Nat) : Nat := ((R.take i).map fun x => x.2.2.length).sum
def cat (R : Rws) (i : Nat) : List S64 := (R.take i).flatMap fun x => x.2.2
theorem cat_length (R : Rws) (i : Nat) : (cat R i).length = tot R i := by
 unfold cat tot
 rw [List.length_flatMap]
theorem tot_succ (R : Rws) (i : Nat) (x) (h : R[i]? = some x) : tot R (i + 1) = tot R i + x.2.2.length := by
 obtain ⟨hi, rfl⟩ := List.getElem?_eq_some_iff.1 h
 unfold tot
 rw [List.take_succ_eq_append_getElem hi]
 simp only [List.map_append, List.sum_append, List.map_cons, List.map_nil, List.sum_cons, List.sum_nil, Nat.add_zero]
theorem cat_succ (R : Rws) (i : Nat) (x) (h : R[i]? = some x) : cat R (i + 1) = cat R i ++ x.2.2 := by
 obtain ⟨hi, rfl⟩ := List.getElem?_eq_some_iff.1 h
 unfold cat
 rw [List.take_succ_eq_append_getElem hi]
 simp only [List.flatMap_append, List.flatMap_cons, List.flatMap_nil, List.append_nil]
theorem tot_le (R : Rws) (i : Nat) : tot R i ≤ tot R R.length := by
 unfold tot
 rw [List.take_length]
 conv => rhs; rw [← List.take_append_drop i R]
 simp only [List.map_append, List.sum_append]
 omega
theorem rowOf_append (a b : List S64) : rowOf (a ++ b) = rowOf a ++ rowOf b := by simp only [rowOf, List.flatMap_append]
set_option maxHeartbeats 2000000 in
set_option maxRecDepth 100000 in
theorem concat_calls (R : Rws) (B c : Nat) (w : World) (hB : B < w.heap.size) (hm : R.length ≤ 100) (ht : tot R R.length * 16 ≤ 140737488355328)
  (hc : ∀ i x, R[i]? = some x → w.cell? ⟨B, i, none⟩ = some (.slice x.1 x.2.2.length x.2.1) ∧ Kd.C k64 w x.1 x.2.2.length x.2.2) :
  Calls Tryd.prog 56 #[.slice (some ⟨B, 0, none⟩) R.length c] w fun e w' => ∃ v : Value, e = .returned v ∧ Kd.R k64 50 w' w.heap.size (fun _ => True) v (cat R R.length) ∧ Below w.heap.size w w' := by
 obtain ⟨i0, hi, hz0, hz1, hz2⟩ := info64'
 have AC := Lib.hid hc
 have AT := Lib.hid ht
 clear hc
 go_enter Tryd.func56, Tryd.ntmps56
 go_wp2_with fail
 go_loop [3, 5, 11] (fun s3 _ s11 => ∃ i : Nat, i ≤ R.length ∧ s11 = .int .i64 i ∧ s3 = .int .i64 (tot R i : Nat)) (fun _ _ s11 => R.length - (intOf s11).toNat)
 case atStart => exact ⟨0, Nat.zero_le _, rfl, by simp [tot]⟩
 case round =>
  obtain ⟨i, hil, rfl, rfl⟩ := hrel
  by_cases hlt : i < R.length
  ·obtain ⟨x, hx⟩ : ∃ x, R[i]? = some x := ⟨_, List.getElem?_eq_getElem hlt⟩
   have hcell := (AC.out i x hx).1
   have hts := tot_succ R i x hx
   have htl := tot_le R (i + 1)
   have hltz : (i : Int) < (R.length : Int) := by omega
   have hb : tot R i + x.2.2.length ≤ 8796093022208 := by have := AT.out; omega
   have hs : ((tot R i : Nat) : Int) + ((x.2.2.length : Nat) : Int) = ((tot R (i + 1) : Nat) : Int) := by omega
   have AS := Lib.hid hs
   clear hts htl hs hx
   obtain ⟨xa, xc, xl⟩ := x
   simp only at *
   generalize xl.length = n at *
   generalize tot R i = t at *
   go_wp2_with fail
   all_goals (try go_round)
   case rel => exact ⟨i + 1, by omega, by go_num, by rw [← AS.out]⟩
   case measure => simp [intOf]; omega
  ·obtain rfl : i = R.length := by omega
   clear hil
   have hltz : ¬ (R.length : Int) < (R.length : Int) := by omega
   go_wp2_with (go_at_call 85; refine (grow_nil _ _ (by exact AT.out)).mono ?_; rintro e w1 ⟨v1, rfl, hown1, hb1⟩)
   have A1 := Lib.hid hown1
   have A2 := Lib.hid hb1
   clear hown1 hb1 hltz
   go_loopg [6, 8, 27] R.length (fun gg s6 _ s27 wr => ∃ i : Nat, i ≤ R.length ∧ R.length - i ≤ gg ∧ s27 = .int .i64 i ∧ Aside0 (wr.ownsRow w.heap.size 50 2 s6 (cat R i).length (rowOf (cat R i))) ∧ Aside0 (Below w.heap.size w wr))
   case atStart => exact ⟨0, Nat.zero_le _, by omega, rfl, ⟨A1.out⟩, ⟨A2.out⟩⟩
   case round =>
    rename_i s6
    obtain ⟨i, hil, hgg, rfl, HO, HBL⟩ := hrel
    clear A1 A2
    by_cases hlt : i < R.length
    ·obtain ⟨x, hx⟩ : ∃ x, R[i]? = some x := ⟨_, List.getElem?_eq_getElem hlt⟩
     have hcell0 := (AC.out i x hx).1
     have hcell := (HBL.out.cell (p := ⟨B, i, none⟩) hB).trans hcell0
     have hrd := Kd.C_below (AC.out i x hx).2 HBL.out
     have hcs := cat_succ R i x hx
     have hts := tot_succ R i x hx
     have htl := tot_le R (i + 1)
     have hcl := cat_length R i
     have hltz : (i : Int) < (R.length : Int) := by omega
     have hb : (cat R i).length + x.2.2.length ≤ 8796093022208 := by have := AT.out; omega
     have HR := Lib.hid hrd
     have HS := Lib.hid hcs
     clear hcell0 hrd hcs hts htl hcl hx
     obtain ⟨xa, xc, xl⟩ := x
     simp only at *
     obtain ⟨A, c6, rfl⟩ := own_slice HO.out
     have hle := own_le HO.out
     cases xa with
     | none =>
      have hxl := nil_of_C HR.out
      subst hxl
      have happ := fun ty => run_append_nil2 wr ty A (cat R i).length c6 xc hle
      go_wp2_with (at_builtin; refine Lib.wpList_append_run _ rfl _ _ _ _ rfl _ _ rfl rfl _ _ (happ _) ?_)
      go_roundg (R.length - (i + 1))
      case measure => omega
      case rel => exact ⟨i + 1, by omega, Nat.le_refl _, by go_num, ⟨by rw [HS.out, List.append_nil]; exact HO.out⟩, ⟨HBL.out⟩⟩
     | some ad =>
      have hnews := cells_of_C HR.out
      have hl2 := rowOf_length xl
      have h1 := one_rowOf xl
      generalize hI : rowOf xl = news at hnews hl2 h1
      have G1 := Lib.hid hnews
      have G2 := Lib.hid hl2
      have G3 := Lib.hid hI
      clear hnews hl2 hI
      go_wp2_with (at_builtin; refine wpList_append_own _ rfl _ _ 25 rfl w.heap.size 50 i0 _ 2 16 Tryd.underlying25 hi hz0 hz1 hz2 rfl (by decide) _ _ _ rfl HO.out ad xl.length xc news rfl ?qc1 ?qc2 ?qc3 ?qc4 ?qc5 ?qc6 ?_)
      case qc1 => exact G2.out
      case qc2 => exact G1.out
      case qc3 => exact h1
      case qc4 => unfold maxLen; omega
      case qc5 => omega
      case qc6 => exact HBL.out.size
      intro v' w1 hown hgrow hnil
      have K1 := Lib.hid hown
      have K2 := Lib.hid hgrow
      clear hown hgrow hnil h1
      go_wp2
      go_roundg (R.length - (i + 1))
      case measure => omega
      case rel =>
       refine ⟨i + 1, by omega, Nat.le_refl _, by go_num, ⟨?_⟩, ⟨HBL.out.grown K2.out HBL.out.size (fun k hk => (HO.out.lt k hk).1)⟩⟩
       rw [HS.out, rowOf_append, List.length_append, G3.out]
       exact K1.out
    ·obtain rfl : i = R.length := by omega
     have hltz : ¬ (R.length : Int) < (R.length : Int) := by omega
     clear hil
     go_wp2_with fail
     go_ret
     exact ⟨_, rfl, R_of_own HO.out (fun _ _ => trivial), HBL.out⟩
end Go.Proofs.YtamhkdlcoghdbaaDoor.PCls
namespace Go.Proofs.YtamhkdlcoghdbaaDoor.PCls
open Go.RowKit Go.Proofs.YtamhkdlcoghdbaaDoorW.PrintWords Go.Proofs.YtamhkdlcoghdbaaDoorW.PrintLast Go.Proofs.YtamhkdlcoghdbaaDoorW.PrintMore
set_option linter.unusedVariables false
set_option linter.unusedSimpArgs false
end Go.Proofs.YtamhkdlcoghdbaaDoor.PCls
namespace Go.Proofs.YtamhkdlcoghdbaaDoor.PCls
open Go.RowKit Go.Proofs.YtamhkdlcoghdbaaDoorW.PrintWords Go.Proofs.YtamhkdlcoghdbaaDoorW.PrintLast Go.Proofs.YtamhkdlcoghdbaaDoorW.PrintMore
set_option linter.unusedVariables false
set_option linter.unusedSimpArgs false
set_option maxHeartbeats 2000000 in
set_option maxRecDepth 100000 in
theorem classes_Fold.calls (A0 : Option Addr) (c0 : Nat) (l0 : List S64) (r : List S64) (w : World) (hr0 : Kd.C k64 w A0 l0.length l0) (hc0 : l0.length ≤ c0) (h : classes_Fold.f l0 = some r) :
  Calls Tryd.prog 28 #[.slice A0 l0.length c0] w fun e w' => ∃ v0_ : Value, e = .returned v0_ ∧ Kd.R k64 50 w' w.heap.size (fun _ => True) v0_ r ∧ Below w.heap.size w w' := by
 unfold classes_Fold.f at h
 split at h
 case isFalse => cases h
 rename_i hn
 split at h
 case isFalse => cases h
 rename_i hin
 obtain rfl := Option.some.inj h
 obtain ⟨k1, hk1⟩ := (moved_ends l0 65 90 32 (by omega) hin (by omega) (by omega) (by omega) (by omega)).get
 obtain ⟨k2, hk2⟩ := (moved_ends l0 97 122 (-32) (by omega) hin (by omega) (by omega) (by omega) (by omega)).get
 obtain ⟨k3, hk3⟩ := (joined_fold l0 hn hin).get
 have hlen := toFold_length l0
 unfold Cls.toFold at hk3 hlen
 generalize Cls.shift (Cls.inter (Cls.cls l0) [⟨65, 90⟩]) 32 = l1 at *
 generalize Cls.shift (Cls.inter (Cls.cls l0) [⟨97, 122⟩]) (-32) = l2 at *
 have K1 := Lib.hid hk1
 have K2 := Lib.hid hk2
 have K3 := Lib.hid hk3
 have HR0 := Lib.hid hr0
 have HC0 := Lib.hid hc0
 have HL := Lib.hid hlen
 have HN := Lib.hid hn
 clear h hk1 hk2 hk3 hr0 hc0 hlen hn hin
 go_enter Tryd.func28, Tryd.ntmps28
 go_wp2_with fail
 refine (classes_moved.calls k1 _ _ l0 65 90 32 l1 w HR0.out HC0.out K1.out).mono ?_
 rintro e w1 ⟨v1, rfl, hR1, hB1⟩
 obtain ⟨A1, c1, rfl⟩ := Kd.R_slice hR1
 have hle1 := (rR hR1).2.1
 have G1 := Lib.hid (rR hR1).2.2
 have B1 := Lib.hid hB1
 have HRb := Lib.hid (Kd.C_below HR0.out hB1)
 clear hR1 hB1
 go_wp2_with fail
 refine (classes_moved.calls k2 _ _ l0 97 122 (-32) l2 w1 HRb.out HC0.out K2.out).mono ?_
 rintro e w2 ⟨v2, rfl, hR2, hB2⟩
 obtain ⟨A2, c2, rfl⟩ := Kd.R_slice hR2
 have hle2 := (rR hR2).2.1
 have G2 := Lib.hid (rR hR2).2.2
 have G1b := Lib.hid (Kd.C_below G1.out hB2)
 have G0b := Lib.hid (Kd.C_below HRb.out hB2)
 have B2 := Lib.hid (B1.out.trans (hB2.mono B1.out.size))
 clear hR2 hB2
 have hb3 : Below w.heap.size w (w2.alloc (.cells #[.slice A0 l0.length c0, .slice A1 l1.length c1, .slice A2 l2.length c2] 25)) := B2.out.alloc B2.out.size _
 have hcon := concat_calls [(A0, c0, l0), (A1, c1, l1), (A2, c2, l2)] w2.heap.size 3 (w2.alloc (.cells #[.slice A0 l0.length c0, .slice A1 l1.length c1, .slice A2 l2.length c2] 25)) (by simp) (by simp) (by have h1 := HL.out; have h2 := HN.out; simp [tot] at h1 ⊢; omega) (fun i x hx => by
  match i, hx with
  | 0, hx => simp at hx; subst hx; exact ⟨by simp, Kd.C_alloc G0b.out _⟩
  | 1, hx => simp at hx; subst hx; exact ⟨by simp, Kd.C_alloc G1b.out _⟩
  | 2, hx => simp at hx; subst hx; exact ⟨by simp, Kd.C_alloc G2.out _⟩
  | i + 3, hx => simp at hx)
 have hcat : cat [(A0, c0, l0), (A1, c1, l1), (A2, c2, l2)] 3 = l0 ++ (l1 ++ l2) := by simp [cat]
 simp only [List.length_cons, List.length_nil, Nat.zero_add, Nat.reduceAdd] at hcon
 rw [hcat] at hcon
 have HB3 := Lib.hid hb3
 clear hb3 hcat
 go_wp2_with fail
 refine hcon.mono ?_
 rintro e w3 ⟨v3, rfl, hR, hb⟩
 have hb2 : Below w.heap.size w w3 := HB3.out.trans (hb.mono HB3.out.size)
 have hR2 : Kd.R k64 50 w3 w.heap.size (fun _ => True) v3 (l0 ++ (l1 ++ l2)) := Kd.R_lower hR HB3.out.size
 have hj := classes_joined.calls k3 (fun _ => True) v3 (l0 ++ (l1 ++ l2)) _ w w3 hb2 hR2 K3.out
 clear hb hR hb2 hR2 hcon
 go_wp2_with fail
 refine hj.mono ?_
 rintro e w4 ⟨v4, rfl, hR, hb, _⟩
 go_wp2
 go_ret
 exact ⟨_, rfl, Kd.R_mono hR (fun _ _ => trivial), hb⟩
end Go.Proofs.YtamhkdlcoghdbaaDoor.PCls
namespace Go.Proofs.YtamhkdlcoghdbaaDoor.PCls
open Go.RowKit Go.Proofs.YtamhkdlcoghdbaaDoorW.PrintWords Go.Proofs.YtamhkdlcoghdbaaDoorW.PrintLast Go.Proofs.YtamhkdlcoghdbaaDoorW.PrintMore
open Go.Shelf Go.Lib
set_option linter.unusedVariables false
set_option linter.unusedSimpArgs false
end Go.Proofs.YtamhkdlcoghdbaaDoor.PCls
namespace Go.Proofs.YtamhkdlcoghdbaaDoor.PCls
open Go.RowKit Go.Proofs.YtamhkdlcoghdbaaDoorW.PrintWords Go.Proofs.YtamhkdlcoghdbaaDoorW.PrintLast Go.Proofs.YtamhkdlcoghdbaaDoorW.PrintMore
set_option linter.unusedVariables false
set_option linter.unusedSimpArgs false
end Go.Proofs.YtamhkdlcoghdbaaDoor.PCls
/- Out of ZLThree (wip/tools/prune2.py): the declarations alone that the texts of the trees name. -/
namespace Go.Proofs.YtamhkdlcoghdbaaDoor.PCls
open Go.RowKit Go.Proofs.YtamhkdlcoghdbaaDoorW.PrintWords Go.Proofs.YtamhkdlcoghdbaaDoorW.PrintLast Go.Proofs.YtamhkdlcoghdbaaDoorW.PrintMore
set_option linter.unusedVariables false
set_option linter.unusedSimpArgs false
theorem equal_loop (a : List S64) : ∀ (s p : List S64) (k : Nat), s.length < k → (p ++ s).length < 8796093022208 → p.length ≤ a.length → a = p ++ a.drop p.length → (p ++ s).length = a.length →
  api_Range_77.l0 k (p ++ s) a ((p ++ s).length : Int) (p.length : Int) = some (decide (s = a.drop p.length)) := by
 intro s
 induction s with
 | nil =>
  intro p k hk hl hp ha he
  obtain ⟨k, rfl⟩ : ∃ m, k = m + 1 := ⟨k - 1, by simp at hk; omega⟩
  simp only [api_Range_77.l0]
  rw [if_neg (by simp)]
  simp at he
  simp [he]
 | cons x s ih =>
  intro p k hk hl hp ha he
  obtain ⟨k, rfl⟩ : ∃ m, k = m + 1 := ⟨k - 1, by simp at hk; omega⟩
  have hl2 : (p.length : Int) < ((p ++ x :: s).length : Int) := by simp; omega
  have hpa : p.length < a.length := by rw [← he]; simp
  have hdrop : a.drop p.length = a[p.length] :: a.drop (p.length + 1) := List.drop_eq_getElem_cons hpa
  simp only [api_Range_77.l0]
  rw [if_pos hl2, if_pos (by omega), if_pos hl2, if_pos (by omega), rd_mid, rd_at a p.length hpa, hdrop]
  simp at hl hk
  rw [w64_lit ((p.length : Int) + 1) (by omega) (by omega)]
  by_cases hx : x = a[p.length]
  ·rw [if_neg (by rw [hx]; simp)]
   have h := ih (p ++ [x]) k (by omega) (by simp; omega) (by simp; omega) (by rw [List.length_append, List.length_singleton, List.append_assoc, hx, List.singleton_append, ← hdrop]; exact ha) (by simpa using he)
   simp only [List.append_assoc, List.singleton_append, List.length_append, List.length_singleton] at h
   rw [show ((p.length + 1 : Nat) : Int) = (p.length : Int) + 1 by omega] at h
   simp only [List.length_append]
   rw [h]
   simp only [hx, List.cons.injEq, true_and]
  ·rw [if_pos (by
    cases x with | mk x0 x1 =>
    cases hq : a[p.length] with | mk y0 y1 =>
    rw [hq] at hx
    simp at hx ⊢
    by_cases h0 : x0 = y0
    ·exact .inr (hx h0)
    ·exact .inl h0)]
   simp only [hx, List.cons.injEq, false_and, decide_false]
theorem equal_ends (a b : List S64) (hl : a.length < 8796093022208) : Ends (fun k => api_Range_77.f k a b) (decide (a = b)) := by
 refine ⟨a.length + 1, fun k hk => ?_⟩
 show api_Range_77.f k a b = _
 unfold api_Range_77.f
 by_cases h : a.length = b.length
 ·rw [if_pos (by omega)]
  have := equal_loop b a [] k (by omega) (by simpa using hl) (by simp) (by simp) (by simpa using h)
  simpa using this
 ·rw [if_neg (by omega)]
  rw [decide_eq_false (fun e => h (by rw [e]))]
theorem right_ends (l : List S64) (m : Bool) (h1 : l.length < 2097152) (h : inR l = true) : Ends (fun k => classes_Right.f k l m) (decide (l = Cls.norm l m)) := by
 unfold classes_Right.f
 exact Ends.bind (norm_ends l m (by omega) h) (Ends.bind (equal_ends _ _ (by omega)) (Ends.some_ _))
end Go.Proofs.YtamhkdlcoghdbaaDoor.PCls
/- Out of ZLSpoil (wip/tools/prune2.py): the declarations alone that the texts of the trees name. -/
namespace Go.Proofs.YtamhkdlcoghdbaaDoor.PCls
open Go.RowKit Go.Proofs.YtamhkdlcoghdbaaDoorW.PrintWords Go.Proofs.YtamhkdlcoghdbaaDoorW.PrintLast Go.Proofs.YtamhkdlcoghdbaaDoorW.PrintMore
set_option linter.unusedVariables false
set_option linter.unusedSimpArgs false
theorem Ends.next {α : Type} {f g : Nat → Option α} {r : α} (h : Ends g r) (hf : ∀ k, f (k + 1) = g k) : Ends f r := by
 obtain ⟨k, hk⟩ := h
 refine ⟨k + 1, fun k' h' => ?_⟩
 obtain ⟨m, rfl⟩ : ∃ m, k' = m + 1 := ⟨k' - 1, by omega⟩
 rw [hf]
 exact hk m (by omega)
end Go.Proofs.YtamhkdlcoghdbaaDoor.PCls
/- Out of ZLawKit (wip/tools/prune2.py): the declarations alone that the texts of the trees name. -/
namespace Go.Proofs.YtamhkdlcoghdbaaDoor.PCls
open Go.RowKit Go.Proofs.YtamhkdlcoghdbaaDoorW.PrintWords Go.Proofs.YtamhkdlcoghdbaaDoorW.PrintLast Go.Proofs.YtamhkdlcoghdbaaDoorW.PrintMore
set_option linter.unusedVariables false
set_option linter.unusedSimpArgs false
theorem own_same {w w' : World} {base : Nat} {v : Value} {n : Nat} {xs : List Value} (h : w.ownsRow base 50 2 v n xs) (hs : ∀ k, v.ownBlock = some k → w'.heap[k]? = w.heap[k]?) : w'.ownsRow base 50 2 v n xs := by
 refine ⟨h.1, ?_⟩
 rcases h.2 with hn | ⟨g, cap, cur, rfl, hb, hgg, rest⟩
 ·exact .inl hn
 ·exact .inr ⟨g, cap, cur, rfl, hb, by rw [hs g rfl]; exact hgg, rest⟩
theorem R_same {w w' : World} {base : Nat} {ok : Nat → Prop} {v : Value} {l : List S64} (h : Kd.R k64 50 w base ok v l) (hs : ∀ k, v.ownBlock = some k → w'.heap[k]? = w.heap[k]?) : Kd.R k64 50 w' base ok v l :=
 R_of_own (own_same (own_of_R h) hs) h.1
theorem R_lt {w : World} {base : Nat} {ok : Nat → Prop} {v : Value} {l : List S64} (h : Kd.R k64 50 w base ok v l) : ∀ k, v.ownBlock = some k → base ≤ k ∧ k < w.heap.size := (own_of_R h).lt
/-- a row stays where nothing below the world's size is written -/
theorem R_below {w w' : World} {base : Nat} {ok : Nat → Prop} {v : Value} {l : List S64} (h : Kd.R k64 50 w base ok v l) (hb : Below w.heap.size w w') : Kd.R k64 50 w' base ok v l :=
 R_same h fun k hk => hb.block k (R_lt h k hk).2
theorem fold_length (l : List S64) : (Cls.fold l).length ≤ l.length + 52 := by
 have h := cls_length (Cls.toFold l)
 have h2 := toFold_length l
 unfold Cls.toFold at h h2
 unfold Cls.fold
 omega
end Go.Proofs.YtamhkdlcoghdbaaDoor.PCls
/- The classes that the lexer asks for, in its words; a char as a token. -/
namespace Go.Proofs.YtamhkdlcoghdbaaDoor.PCls
open Go.RowKit Go.Shelf Go.Proofs.YtamhkdlcoghdbaaDoorW.PrintWords Go.Proofs.YtamhkdlcoghdbaaDoorW.PrintLast Go.Proofs.YtamhkdlcoghdbaaDoorW.PrintMore
set_option linter.unusedVariables false
set_option linter.unusedSimpArgs false

def clC : CL := ⟨fun n => ((Cls.named n.data.toList).getD [], (Cls.named n.data.toList).isSome), Cls.norm, Cls.fold, fun l m => Cls.less_ (Cls.all m) l⟩
/-- ranges in memory -/
def Row (W : World) (base : Nat) (v : Value) (r : List S64) : Prop := W.ownsRow base 50 2 v r.length (rowOf r) ∧ inR r = true ∧ r.length < 2000000
theorem Row.R {W : World} {base : Nat} {v : Value} {r : List S64} (h : Row W base v r) : Kd.R k64 50 W base (fun _ => True) v r := R_of_own h.1 (fun _ _ => trivial)
theorem Row.below {A W : World} {base : Nat} {v : Value} {r : List S64} (h : Row A base v r) (hb : Below A.heap.size A W) : Row W base v r := ⟨ownMove h.1 (fun k hk => hb.block k (ownLt h.1 k hk).2), h.2⟩
theorem Row.lower {W : World} {base b : Nat} {v : Value} {r : List S64} (h : Row W base v r) (hb : b ≤ base) : Row W b v r := ⟨own_weaken h.1 hb, h.2⟩
theorem Row.form {W : World} {base : Nat} {v : Value} {r : List S64} (h : Row W base v r) : ∃ A c, v = .slice A r.length c := Kd.R_slice h.R
theorem Row.nil (W : World) (base : Nat) : Row W base (.slice none 0 0) [] := ⟨⟨rfl, .inl ⟨rfl, rfl⟩⟩, rfl, by simp⟩
theorem Row.one (W : World) (c : Int) (h : -9223372036854775808 ≤ c ∧ c ≤ 9223372036854775807) : Row (W.alloc (.cells #[.int .i64 c, .int .i64 c] 50)) W.heap.size (.slice (some ⟨W.heap.size, 0, none⟩) 1 1) [⟨c, c⟩] :=
 ⟨⟨rfl, .inr ⟨W.heap.size, 1, _, rfl, Nat.le_refl _, heap_alloc_new W _, Nat.le_refl _, by decide, rfl, rfl⟩⟩, by simp [inR, h], by simp⟩
theorem fold_inR (l : List S64) (h : inR l = true) : inR (Cls.fold l) = true := inR_cls _ (toFold_inR _ h)
theorem all_lim (m : Bool) (c : Int) (h : Cls.Mem (Cls.all m) c) : 0 ≤ c ∧ c ≤ 1114111 := by
 cases m <;> simp [Cls.all, Cls.Mem] at h <;> omega
theorem norm_inR (l : List S64) (m : Bool) : inR (Cls.norm l m) = true := inR_of_mem _ (Cls.norm_can l m) fun c hc => by
 have := all_lim m c ((Cls.norm_mem l m c).1 hc).2
 omega
theorem norm_length (l : List S64) (m : Bool) : (Cls.norm l m).length ≤ 1114112 :=
 can_count 1114111 _ 0 (Cls.norm_can l m) fun c hc => all_lim m c ((Cls.norm_mem l m c).1 hc).2
theorem not_mem (l : List S64) (m : Bool) (c : Int) (h : Cls.Mem (Cls.less_ (Cls.all m) l) c) : 0 ≤ c ∧ c ≤ 1114111 :=
 all_lim m c ((Cls.cls_mem _ c).1 (((Cls.less_spec _ _ (Cls.cls_can _) (Cls.cls_can _)).2 c).1 h).1)
theorem not_inR (l : List S64) (m : Bool) : inR (Cls.less_ (Cls.all m) l) = true := inR_of_mem _ (Cls.less_can _ _) fun c hc => by
 have := not_mem l m c hc
 omega
theorem not_length (l : List S64) (m : Bool) : (Cls.less_ (Cls.all m) l).length ≤ 1114112 :=
 can_count 1114111 _ 0 (Cls.less_can _ _) fun c hc => not_mem l m c hc
theorem fold_row (w : World) (base : Nat) (v : Value) (l : List S64) (h : Row w base v l) (hl : l.length ≤ 1900000) : Calls Tryd.prog 28 #[v] w fun e w' => ∃ v', e = .returned v' ∧ Row w' w.heap.size v' (Cls.fold l) ∧ Below w.heap.size w w' := by
 obtain ⟨A, c, rfl, hc, hC⟩ := Kd.R_reads h.R
 refine (classes_Fold.calls A c l (Cls.fold l) w hC hc (by unfold classes_Fold.f; rw [if_pos (by omega), if_pos h.2.1])).mono ?_
 rintro e w' ⟨v', rfl, hR, hb⟩
 exact ⟨v', rfl, ⟨own_of_R hR, fold_inR l h.2.1, by have := fold_length l; omega⟩, hb⟩
theorem norm_row (w : World) (base : Nat) (v : Value) (l : List S64) (m : Bool) (h : Row w base v l) : Calls Tryd.prog 89 #[v, .bool m] w fun e w' => ∃ v', e = .returned v' ∧ Row w' w.heap.size v' (Cls.norm l m) ∧ Below w.heap.size w w' := by
 obtain ⟨A, c, rfl, hc, hC⟩ := Kd.R_reads h.R
 obtain ⟨k, hk⟩ := (norm_ends l m (by have := h.2.2; omega) h.2.1).get
 refine (classes_Norm.calls k A c l m _ w hC hc hk).mono ?_
 rintro e w' ⟨v', rfl, hR, hb⟩
 exact ⟨v', rfl, ⟨own_of_R hR, norm_inR l m, by have := norm_length l m; omega⟩, hb⟩
theorem not_row (w : World) (base : Nat) (v : Value) (l : List S64) (m : Bool) (h : Row w base v l) : Calls Tryd.prog 73 #[v, .bool m] w fun e w' => ∃ v', e = .returned v' ∧ Row w' w.heap.size v' (Cls.less_ (Cls.all m) l) ∧ Below w.heap.size w w' := by
 obtain ⟨A, c, rfl, hc, hC⟩ := Kd.R_reads h.R
 obtain ⟨k, hk⟩ := (not_ends l m (by have := h.2.2; omega) h.2.1).get
 refine (classes_Not.calls k A c l m _ w hC hc hk).mono ?_
 rintro e w' ⟨v', rfl, hR, hb⟩
 exact ⟨v', rfl, ⟨own_of_R hR, not_inR l m, by have := not_length l m; omega⟩, hb⟩
set_option maxHeartbeats 4000000 in
set_option maxRecDepth 100000 in
theorem char_calls (W : World) (B base : Nat) (s : ByteArray) (chars fold : Bool) (x : Lx.St) (V : Value) (hst : ScSt W B base s chars fold x V) (c : Int) (hc : -9223372036854775808 ≤ c ∧ c ≤ 9223372036854775807) (e : Nat) (he1 : x.sat < e) (he2 : e ≤ s.size) :
  Calls Tryd.prog 77 #[.pointer (some ⟨B, 0, none⟩), .int .i64 c, .int .i64 e] W fun e' w' => e' = .returned (.tuple #[]) ∧ ∃ V', ScSt w' B base s chars fold (Lx.char clC fold x c e) V' ∧ Stp W w' B base := by
 have c2 := hst.sc.c2
 obtain ⟨r, hr⟩ : ∃ r, r = Lx.oneR clC fold c := ⟨_, rfl⟩
 have HP := Lib.hid (fun (w : World) (rv : Value) (hb : Below W.heap.size W w) (h : Row w W.heap.size rv r) => put_calls W w B base s chars fold x V hst hb 1 0 0 0 r rv h.1 h.2.1 (by have := h.2.2; omega) e he1 he2)
 have HX := Lib.hid (show Lx.char clC fold x c e = Lx.put x ⟨1, 0, 0, 0, 0, 0, r⟩ e by rw [hr]; rfl)
 have HO := Lib.hid (Row.one W c hc)
 have HB := Lib.hid ((Below.refl W.heap.size W).alloc (Nat.le_refl _) (.cells #[.int .i64 c, .int .i64 c] 50))
 have c3 := (hst.sc.below HB.out).c2
 clear hst he1 he2 hc
 cases fold with
 | false =>
  have HR := Lib.hid (show r = [⟨c, c⟩] from hr)
  clear hr
  go_enter Tryd.func77, Tryd.ntmps77
  go_wp2_with fail
  refine (HP.out _ _ HB.out (by rw [HR.out]; exact HO.out)).mono ?_
  rintro e' w' ⟨rfl, V', h⟩
  go_wp2_with fail
  go_end0
  exact ⟨rfl, V', by rw [HX.out]; exact h⟩
 | true =>
  have HR := Lib.hid (show r = Cls.fold [⟨c, c⟩] from hr)
  clear hr
  go_enter Tryd.func77, Tryd.ntmps77
  go_wp2_with fail
  refine (fold_row _ _ _ _ HO.out (by simp)).mono ?_
  rintro e' w' ⟨v', rfl, h, hb⟩
  have HB2 := Lib.hid (HB.out.trans (hb.mono HB.out.size))
  have HW := Lib.hid (h.lower HB.out.size)
  obtain ⟨A', k', rfl⟩ := h.form
  clear h hb
  go_wp2_with fail
  refine (HP.out _ _ HB2.out (by rw [HR.out]; exact HW.out)).mono ?_
  rintro e' w' ⟨rfl, V', h⟩
  go_wp2_with fail
  go_end0
  exact ⟨rfl, V', by rw [HX.out]; exact h⟩
end Go.Proofs.YtamhkdlcoghdbaaDoor.PCls
/- The lexer: how often. -/
namespace Go.Proofs.YtamhkdlcoghdbaaDoor.PCls
open Go.RowKit Go.Shelf Go.Proofs.YtamhkdlcoghdbaaDoorW.PrintWords Go.Proofs.YtamhkdlcoghdbaaDoorW.PrintLast Go.Proofs.YtamhkdlcoghdbaaDoorW.PrintMore
set_option linter.unusedVariables false
set_option linter.unusedSimpArgs false

/-- what a step of the scanner tells -/
def Steps (W w' : World) (e : Ending) (B base : Nat) (s : ByteArray) (chars fold : Bool) (r : Except Er Lx.St) : Prop := match r with
 | .error x => Bad W.heap.size w' e x.1 x.2 ∧ Below W.heap.size W w'
 | .ok y => e = .returned (.tuple #[]) ∧ (∃ V', ScSt w' B base s chars fold y V') ∧ Stp W w' B base
theorem Steps.ok {W w' : World} {e : Ending} {B base : Nat} {s : ByteArray} {chars fold : Bool} {r : Except Er Lx.St} {y : Lx.St} (h : r = .ok y) (he : e = .returned (.tuple #[])) (hx : ∃ V', ScSt w' B base s chars fold y V' ∧ Stp W w' B base) : Steps W w' e B base s chars fold r := by
 obtain ⟨V', h1, h2⟩ := hx
 rw [h]; exact ⟨he, ⟨V', h1⟩, h2⟩
theorem Steps.err {W w' : World} {e : Ending} {B base : Nat} {s : ByteArray} {chars fold : Bool} {r : Except Er Lx.St} {x : Er} (h : r = .error x) (hx : Bad W.heap.size w' e x.1 x.2) (hb : Below W.heap.size W w') : Steps W w' e B base s chars fold r := by rw [h]; exact ⟨hx, hb⟩
theorem Bad.up {A W w' : World} {e : Ending} {c p : Int} (h : Bad W.heap.size w' e c p) (hb : Below A.heap.size A W) : Bad A.heap.size w' e c p := h.mono hb.size
theorem Below.up {A W w' : World} (hb : Below A.heap.size A W) (h : Below W.heap.size W w') : Below A.heap.size A w' := hb.trans (h.mono hb.size)
theorem here_le {s : ByteArray} {p : Nat} {t : List UInt8} (h : Lx.here s p t = true) : p + t.length ≤ s.size := by
 unfold Lx.here at h
 rw [Bool.and_eq_true, decide_eq_true_eq] at h
 obtain ⟨h0, h1⟩ := h
 have h2 := Lib.hasPrefix_le h1
 have h3 : s.data.toList.length = s.size := by simp
 rw [List.length_drop, h3] at h2
 omega
theorem interval_lim {s : ByteArray} {q p : Nat} {a b : Int} {e2 : Nat} (h : Lx.interval s q p = .ok (a, b, e2)) : p < e2 ∧ e2 ≤ s.size := by
 obtain ⟨a1, ha⟩ : ∃ a1, a1 = Lx.number s (s.size + 1) p (-1) := ⟨_, rfl⟩
 obtain ⟨b1, hb⟩ : ∃ b1, b1 = (if 0 ≤ a1.1 ∧ Lx.here s a1.2 [44] = true then Lx.number s (s.size + 1) (a1.2 + 1) (-1) else (a1.1, a1.2)) := ⟨_, rfl⟩
 rw [interval_eq (q := q) (a1 := a1.1) (a2 := a1.2) (b1 := b1.1) (b2 := b1.2) ha hb.symm] at h
 have hp := (number_le s (s.size + 1) p (-1) (by omega) (by omega)).1
 rw [← ha] at hp
 have hq : p ≤ b1.2 := by
  rw [hb]
  split
  ·have := (number_le s (s.size + 1) (a1.2 + 1) (-1) (by omega) (by omega)).1
   omega
  ·exact hp
 split at h
 ·cases h
 rename_i h1
 split at h
 ·cases h
 have h3 : Lx.here s b1.2 [92, 125] = true := by
  cases hh : Lx.here s b1.2 [92, 125] with
  | true => rfl
  | false => exact absurd (.inr hh) h1
 have h4 := here_le h3
 cases h
 simp at h4
 omega
set_option maxHeartbeats 8000000 in
set_option maxRecDepth 100000 in
theorem often_calls (W : World) (B base : Nat) (s : ByteArray) (chars fold : Bool) (x : Lx.St) (V : Value) (hst : ScSt W B base s chars fold x V) (c : Nat) (hc : c < 256) (e : Nat) (he1 : x.sat < e) (he2 : e ≤ s.size) :
  Calls Tryd.prog 94 #[.pointer (some ⟨B, 0, none⟩), .int .u8 c, .int .i64 e] W fun e' w' => Steps W w' e' B base s chars fold (Lx.often s x c e) := by
 have HG := Lib.hid (begins_calls W B base s chars fold x V hst)
 have HC := Lib.hid (fun (w2 : World) (hb : Below W.heap.size W w2) => (hst.sc.below hb).c3)
 have HP := Lib.hid (fun (w : World) (hb : Below W.heap.size W w) => put_calls W w B base s chars fold x V hst hb 2 0)
 by_cases hg : Lx.begins x = true
 ·have HX := Lib.hid (show Lx.often s x c e = .error (38, (x.sat : Int)) by unfold Lx.often; rw [if_pos hg])
  go_enter Tryd.func94, Tryd.ntmps94
  go_wp2_with fail
  refine HG.out.mono ?_
  rw [hg]
  rintro e' w2 ⟨rfl, hb⟩
  have c3 := HC.out w2 hb
  have HB := Lib.hid hb
  clear hb hst
  go_wp2_with fail
  refine (fail_calls _ _ _).mono ?_
  rintro e w3 ⟨⟨g, rfl, hg'⟩, hb⟩
  exact ⟨rfl, Steps.err HX.out (Bad.up ⟨g, rfl, hg'⟩ HB.out) (Below.up HB.out hb)⟩
 ·have hg' : Lx.begins x = false := by simpa using hg
  by_cases h43 : c = 43
  ·subst h43
   go_enter Tryd.func94, Tryd.ntmps94
   go_wp2_with fail
   refine HG.out.mono ?_
   rw [hg']
   rintro e' w2 ⟨rfl, hb⟩
   have HX := Lib.hid (show Lx.often s x 43 e = .ok (Lx.put x ⟨2, 0, 0, 0, 1, -1, []⟩ e) by unfold Lx.often; rw [if_neg hg, if_pos rfl]; rfl)
   have HB := Lib.hid (hb.alloc (Nat.le_trans hb.size (Nat.le_refl _)) (.cells #[.int .i64 2, .int .i64 0, .int .i64 0, .int .i64 0, .int .i64 1, .int .i64 (-1), .slice none 0 0] 47))
   clear hb hst hg hg'
   go_wp2_with fail
   refine (HP.out _ HB.out 1 (-1) [] _ (Row.nil _ _).1 rfl (by simp) e he1 he2).mono ?_
   rintro e' w' ⟨rfl, V', h⟩
   go_wp2_with fail
   go_end0
   exact Steps.ok HX.out rfl ⟨V', h⟩
  by_cases h63 : c = 63
  ·subst h63
   go_enter Tryd.func94, Tryd.ntmps94
   go_wp2_with fail
   refine HG.out.mono ?_
   rw [hg']
   rintro e' w2 ⟨rfl, hb⟩
   have HX := Lib.hid (show Lx.often s x 63 e = .ok (Lx.put x ⟨2, 0, 0, 0, 0, 1, []⟩ e) by unfold Lx.often; rw [if_neg hg, if_neg h43, if_pos rfl]; rfl)
   have HB := Lib.hid (hb.alloc (Nat.le_trans hb.size (Nat.le_refl _)) (.cells #[.int .i64 2, .int .i64 0, .int .i64 0, .int .i64 0, .int .i64 0, .int .i64 1, .slice none 0 0] 47))
   clear hb hst hg hg' h43
   go_wp2_with fail
   refine (HP.out _ HB.out 0 1 [] _ (Row.nil _ _).1 rfl (by simp) e he1 he2).mono ?_
   rintro e' w' ⟨rfl, V', h⟩
   go_wp2_with fail
   go_end0
   exact Steps.ok HX.out rfl ⟨V', h⟩
  have b43 : ((c : Int) == 43) = false := by rw [beq_eq_false_iff_ne]; omega
  have b63 : ((c : Int) == 63) = false := by rw [beq_eq_false_iff_ne]; omega
  have HE : Hid (Lx.often s x c e = match Lx.interval s x.sat e with
   | .error e => .error e
   | .ok (a, b, e2) => .ok (Lx.put x { Lx.tok 2 with lo := a, hi := b } e2)) := Lib.hid (by unfold Lx.often; rw [if_neg hg, if_neg h43, if_neg h63]; rfl)
  have hle : e ≤ 4000 := by have := hst.ss; omega
  have hss := hst.ss
  have HI := Lib.hid (fun (w : World) (hb : Below W.heap.size W w) => interval_calls w B e x.sat s chars fold V (hst.sc.below hb) hss hle)
  have HL := Lib.hid (fun a b e2 h => interval_lim (s := s) (q := x.sat) (p := e) (a := a) (b := b) (e2 := e2) h)
  clear h43 h63
  go_enter Tryd.func94, Tryd.ntmps94
  go_wp2_with fail
  refine HG.out.mono ?_
  rw [hg']
  rintro e' w2 ⟨rfl, hb⟩
  have HB := Lib.hid (hb.alloc (Nat.le_trans hb.size (Nat.le_refl _)) (.cells #[.int .i64 2, .int .i64 0, .int .i64 0, .int .i64 0, .int .i64 0, .int .i64 0, .slice none 0 0] 47))
  have HB2 := Lib.hid hb
  clear hb hst hg hg'
  go_wp2_with fail
  refine (HI.out _ HB.out).mono ?_
  rintro e' w3 ⟨hb3, ht⟩
  cases hI : Lx.interval s x.sat e with
  | error y =>
   rw [hI] at ht
   have HX := Lib.hid (show Lx.often s x c e = .error y by rw [HE.out, hI])
   obtain ⟨g, rfl, hg⟩ := ht
   exact ⟨rfl, Steps.err HX.out (Bad.up ⟨g, rfl, hg⟩ HB.out) (Below.up HB.out hb3)⟩
  | ok y =>
   rw [hI] at ht
   obtain ⟨a, b, e2⟩ := y
   obtain ⟨rfl, rfl⟩ := ht
   have HX := Lib.hid (show Lx.often s x c e = .ok (Lx.put x ⟨2, 0, 0, 0, a, b, []⟩ e2) by rw [HE.out, hI]; rfl)
   have hlim := HL.out a b e2 hI
   have HB3 := Lib.hid (HB2.out.alloc (Nat.le_trans HB2.out.size (Nat.le_refl _)) (.cells #[.int .i64 2, .int .i64 0, .int .i64 0, .int .i64 0, .int .i64 a, .int .i64 b, .slice none 0 0] 47))
   clear hb3 HE HI HL hI
   go_wp2_with fail
   refine (HP.out _ HB3.out a b [] _ (Row.nil _ _).1 rfl (by simp) e2 (by omega) (by omega)).mono ?_
   rintro e' w' ⟨rfl, V', h⟩
   go_wp2_with fail
   go_end0
   exact Steps.ok HX.out rfl ⟨V', h⟩
end Go.Proofs.YtamhkdlcoghdbaaDoor.PCls
