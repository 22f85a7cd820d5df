/- A list of nodes, cloned; the node of some. -/
import Derived.Test.YtamhkdlcoghdbaaTCount
import Derived.Test.YtamhkdlcoghdbaaZLawKit
namespace Go.Proofs.Ytamhkdlcoghdbaa.PCls
open Go.RowKit Go.Proofs.YtamhkdlcoghdbaaW.PrintWords Go.Proofs.YtamhkdlcoghdbaaW.PrintLast Go.Proofs.YtamhkdlcoghdbaaW.PrintMore
set_option linter.unusedVariables false
set_option linter.unusedSimpArgs false

theorem info44 : (Try.prog.info? 44).map (fun i => (i.zero, i.size, i.bytes)) = some (some (.agg #[.int .i64 0, .int .i64 0, .int .i64 0, .int .i64 0, .slice none 0 0, .slice none 0 0]), 6, 80) := by kernel_rfl
theorem cell_block2 {w : World} {p : Addr} {v : Value} (h : w.cell? p = some v) : p.block < w.heap.size := by
  rcases Nat.lt_or_ge p.block w.heap.size with hl | hl
  · exact hl
  · unfold World.cell? at h
    rw [Array.getElem?_eq_none hl] at h
    cases h
/-- the cells of some nodes, one behind the other -/
def flat6 (cs : Nat → List Value) : Nat → List Value
  | 0 => []
  | n + 1 => flat6 cs n ++ cs n
theorem flat6_length (cs : Nat → List Value) : ∀ n, (∀ j, j < n → (cs j).length = 6) → (flat6 cs n).length = n * 6
  | 0, _ => rfl
  | n + 1, h => by
    simp only [flat6, List.length_append]
    rw [flat6_length cs n (fun j hj => h j (by omega)), h n (by omega)]
    omega
theorem flat6_at (cs : Nat → List Value) : ∀ n, (∀ j, j < n → (cs j).length = 6) → ∀ j, j < n → ∀ i, i < 6 → (flat6 cs n)[j * 6 + i]? = (cs j)[i]?
  | 0, _, j, hj, _, _ => by omega
  | n + 1, h, j, hj, i, hi => by
    have hl := flat6_length cs n (fun j hj => h j (by omega))
    simp only [flat6]
    rcases Nat.lt_or_ge j n with hjn | hjn
    · rw [List.getElem?_append_left (by rw [hl]; omega)]
      exact flat6_at cs n (fun j hj => h j (by omega)) j hjn i hi
    · obtain rfl : j = n := by omega
      rw [List.getElem?_append_right (by rw [hl]; omega), hl]
      congr 1
      omega

set_option maxHeartbeats 2000000 in
theorem clone_nil (c : Nat) (w : World) : Calls Try.prog 112 #[.slice none 0 c] w fun e w' => e = .returned (.slice none 0 0) ∧ w' = w := by
  have q42 : ∀ (w : World) (a : Option Addr) (n c n' c' : Nat), (binOp .eql 42 (.slice a n c) (.slice none n' c')).run Try.prog w = .ok (.bool a.isNone) w := fun w a n c n' c' => Lib.run_eql_slice_nil w _ _ a n c n' c' Try.underlying42
  go_enter Try.func112, Try.ntmps112
  go_wp2
  go_ret
  exact ⟨rfl, rfl⟩
set_option maxHeartbeats 4000000 in
theorem clone_calls (ad : Addr) (n c : Nat) (cs : Nat → List Value) (w : World) (hn : n < 1099511627776) (hl : ∀ j, j < n → (cs j).length = 6) (h1 : ∀ j, j < n → ∀ u, u ∈ cs j → u.oneCell' = true)
    (hc : ∀ j, j < n → ∀ i u, (cs j)[i]? = some u → w.cell? (ad.add (j * 6 + i)) = some u) :
    Calls Try.prog 112 #[.slice (some ad) n c] w fun e w' => ∃ v, e = .returned v ∧ w'.ownsRow w.heap.size 44 6 v n (flat6 cs n) ∧ Below w.heap.size w w' := by
  have q42 : ∀ (w : World) (a : Option Addr) (n c n' c' : Nat), (binOp .eql 42 (.slice a n c) (.slice none n' c')).run Try.prog w = .ok (.bool a.isNone) w := fun w a n c n' c' => Lib.run_eql_slice_nil w _ _ a n c n' c' Try.underlying42
  obtain ⟨i0, hi, hz0, hz1, hz2⟩ := info_parts info44
  have hlen := flat6_length cs n hl
  have hcell : ∀ j u, (flat6 cs n)[j]? = some u → w.cell? (ad.add j) = some u := fun j u hj => by
    have hj6 : j < n * 6 := by have := (List.getElem?_eq_some_iff.1 hj).1; omega
    have e : j = j / 6 * 6 + j % 6 := by omega
    rw [e] at hj
    rw [flat6_at cs n hl (j / 6) (by omega) (j % 6) (by omega)] at hj
    rw [e]
    exact hc (j / 6) (by omega) (j % 6) u hj
  have hone : ∀ u ∈ flat6 cs n, u.oneCell' = true := fun u hu => by
    obtain ⟨j, hj⟩ := List.getElem?_of_mem hu
    have hj6 : j < n * 6 := by have := (List.getElem?_eq_some_iff.1 hj).1; omega
    have e : j = j / 6 * 6 + j % 6 := by omega
    rw [e, flat6_at cs n hl (j / 6) (by omega) (j % 6) (by omega)] at hj
    exact h1 (j / 6) (by omega) u (List.mem_of_getElem? hj)
  generalize hI : flat6 cs n = inner at hcell hone hlen
  have A := Lib.hid hcell
  have B := Lib.hid hlen
  have C := Lib.hid hone
  have D := Lib.hid hn
  clear hcell hlen hone hc h1 hl hI hn
  go_enter Try.func112, Try.ntmps112
  go_wp2_with (at_builtin; refine wpList_append_own _ rfl _ _ 42 rfl w.heap.size 44 i0 _ 6 80 Try.underlying42 hi hz0 hz1 hz2 rfl (by decide) _ _ _ rfl (World.ownsRow_made w #[] 0 (Nat.le_refl _) (Nat.zero_le _) (by simp)) ad n c inner rfl ?qc1 ?qc2 ?qc3 ?qc4 ?qc5 ?qc6 ?_)
  case qc1 => exact B.out
  case qc2 => exact fun j u hj => Lib.cell?_alloc_some _ (A.out j u hj)
  case qc3 => exact C.out
  case qc4 => unfold maxLen; have := D.out; omega
  case qc5 => have := D.out; omega
  case qc6 => simp
  intro v' w1 hown hgrow hnil
  go_wp2
  go_ret
  refine ⟨v', rfl, by simpa using hown, ?_⟩
  exact ((Below.refl _ w).alloc (Nat.le_refl _) _).grown hgrow (by simp) (by intro k hk; simp [Value.ownBlock] at hk; omega)

set_option maxHeartbeats 2000000 in
/-- one, of none -/
theorem one_none (A : Option Addr) (c : Nat) (kind k m lo hi : Int) (ar ak : Option Addr) (lr cr lk ck : Nat) (w : World) :
    Calls Try.prog 94 #[.slice A 0 c, .int .i64 kind, .agg #[.int .i64 k, .int .i64 m, .int .i64 lo, .int .i64 hi, .slice ar lr cr, .slice ak lk ck]] w
      fun e w' => e = .returned (.agg #[.int .i64 k, .int .i64 m, .int .i64 lo, .int .i64 hi, .slice ar lr cr, .slice ak lk ck]) ∧ Below w.heap.size w w' := by
  go_enter Try.func94, Try.ntmps94
  go_wp2
  refine bodyPost_ret (v := .agg #[.int .i64 k, .int .i64 m, .int .i64 lo, .int .i64 hi, .slice ar lr cr, .slice ak lk ck]) (by simp [results, Try.results94, go_sem]) rfl ?_
  exact ⟨rfl, ((Below.refl _ w).alloc (Nat.le_refl _) _).alloc (by simp) _⟩
set_option maxHeartbeats 2000000 in
/-- one, of several -/
theorem one_many (A : Option Addr) (n c : Nat) (hn : 2 ≤ n) (kind k m lo hi : Int) (ar ak : Option Addr) (lr cr lk ck : Nat) (w : World) :
    Calls Try.prog 94 #[.slice A n c, .int .i64 kind, .agg #[.int .i64 k, .int .i64 m, .int .i64 lo, .int .i64 hi, .slice ar lr cr, .slice ak lk ck]] w
      fun e w' => e = .returned (.agg #[.int .i64 kind, .int .i64 0, .int .i64 0, .int .i64 0, .slice none 0 0, .slice A n c]) ∧ Below w.heap.size w w' := by
  have h0 : ((n : Int) == 0) = false := beq_eq_false_iff_ne.2 (by omega)
  have h1 : ((n : Int) == 1) = false := beq_eq_false_iff_ne.2 (by omega)
  have g0 : (n == 0) = false := beq_eq_false_iff_ne.2 (by omega)
  have g1 : (n == 1) = false := beq_eq_false_iff_ne.2 (by omega)
  have HN := Lib.hid hn
  clear hn
  go_enter Try.func94, Try.ntmps94
  go_wp2
  refine bodyPost_ret (v := .agg #[.int .i64 kind, .int .i64 0, .int .i64 0, .int .i64 0, .slice none 0 0, .slice A n c]) (by simp [results, Try.results94, go_sem]) rfl ?_
  exact ⟨rfl, ((Below.refl _ w).alloc (Nat.le_refl _) _).alloc (by simp) _⟩
set_option maxHeartbeats 2000000 in
/-- one, of one -/
theorem one_one (g c : Nat) (kind k m lo hi : Int) (ar ak : Option Addr) (lr cr lk ck : Nat) (k' m' lo' hi' : Int) (ar' ak' : Option Addr) (lr' cr' lk' ck' : Nat) (w : World)
    (h : w.cell? ⟨g, 0, none⟩ = some (.int .i64 k') ∧ w.cell? ⟨g, 1, none⟩ = some (.int .i64 m') ∧ w.cell? ⟨g, 2, none⟩ = some (.int .i64 lo') ∧ w.cell? ⟨g, 3, none⟩ = some (.int .i64 hi') ∧ w.cell? ⟨g, 4, none⟩ = some (.slice ar' lr' cr') ∧ w.cell? ⟨g, 5, none⟩ = some (.slice ak' lk' ck')) :
    Calls Try.prog 94 #[.slice (some ⟨g, 0, none⟩) 1 c, .int .i64 kind, .agg #[.int .i64 k, .int .i64 m, .int .i64 lo, .int .i64 hi, .slice ar lr cr, .slice ak lk ck]] w
      fun e w' => e = .returned (.agg #[.int .i64 k', .int .i64 m', .int .i64 lo', .int .i64 hi', .slice ar' lr' cr', .slice ak' lk' ck']) ∧ Below w.heap.size w w' := by
  obtain ⟨h0, h1, h2, h3, h4, h5⟩ := h
  have hg := cell_block2 h0
  go_enter Try.func94, Try.ntmps94
  go_wp2
  refine bodyPost_ret (v := .agg #[.int .i64 k', .int .i64 m', .int .i64 lo', .int .i64 hi', .slice ar' lr' cr', .slice ak' lk' ck']) (by simp [results, Try.results94, go_sem]) rfl ?_
  exact ⟨rfl, ((Below.refl _ w).alloc (Nat.le_refl _) _).alloc (by simp) _⟩
end Go.Proofs.Ytamhkdlcoghdbaa.PCls
