/- Is a number one of some? The library's Contains and Index over numbers. -/
import Derived.Test.YtamhkdlcoghdbaaTCount
namespace Go.Proofs.Ytamhkdlcoghdbaa.PCls
open Go.RowKit Go.Proofs.YtamhkdlcoghdbaaW.PrintWords Go.Proofs.YtamhkdlcoghdbaaW.PrintLast Go.Proofs.YtamhkdlcoghdbaaW.PrintMore
set_option linter.unusedVariables false
set_option linter.unusedSimpArgs false

set_option maxHeartbeats 2000000 in
set_option maxRecDepth 100000 in
theorem index_calls (g n c : Nat) (v : Int) (xs : List Int) (w : World) (hn : xs.length = n) (hb : n < 4611686018427387904) (hc : ∀ (j : Nat) (x : Int), xs[j]? = some x → w.cell? ⟨g, j, none⟩ = some (.int .i64 x)) :
    Calls Try.prog 111 #[.slice (some ⟨g, 0, none⟩) n c, .int .i64 v] w fun e w' => ∃ r : Int, e = .returned (.int .i64 r) ∧ (0 ≤ r ↔ v ∈ xs) ∧ w' = w := by
  have HC := Lib.hid hc
  clear hc
  go_enter Try.func111, Try.ntmps111
  go_wp2_with fail
  go_loopg [8] n (fun gg s8 wr => ∃ (j : Nat), s8 = .int .i64 j ∧ j ≤ n ∧ n - j ≤ gg ∧ Aside0 (wr = w) ∧ Aside0 (∀ i, i < j → xs[i]? ≠ some v))
  case atStart => exact ⟨0, rfl, by omega, by omega, ⟨rfl⟩, ⟨fun i h => by omega⟩⟩
  case round =>
    obtain ⟨j, rfl, hj, hgg, HW, HI⟩ := hrel
    obtain rfl := HW.out
    by_cases hlt : j < n
    · obtain ⟨x, hx⟩ : ∃ x, xs[j]? = some x := ⟨_, List.getElem?_eq_getElem (by omega)⟩
      have hx0 := HC.out j x hx
      have HX := Lib.hid hx
      have hlt' : (j : Int) < (n : Int) := by omega
      clear hx
      by_cases he : v = x
      · subst he
        go_wp2
        go_ret
        exact ⟨_, rfl, ⟨fun _ => List.mem_of_getElem? HX.out, fun _ => by omega⟩, rfl⟩
      · have he' : (v == x) = false := beq_eq_false_iff_ne.2 he
        have HE := Lib.hid he
        clear he
        go_wp2
        go_roundg (n - (j + 1))
        case measure => omega
        case rel => exact ⟨j + 1, congrArg (Value.int .i64) (by push_cast; rfl), by omega, Nat.le_refl _, ⟨rfl⟩, ⟨fun i hi => by
          rcases Nat.lt_or_ge i j with h | h
          · exact HI.out i h
          · obtain rfl : i = j := by omega
            rw [HX.out]
            intro e
            exact HE.out (Option.some.inj e).symm⟩⟩
    · obtain rfl : j = n := by omega
      have hlt' : ¬ (j : Int) < (j : Int) := by omega
      go_wp2
      go_ret
      refine ⟨_, rfl, ⟨fun h => by omega, fun h => ?_⟩, rfl⟩
      obtain ⟨i, hi⟩ := List.getElem?_of_mem h
      have := (List.getElem?_eq_some_iff.1 hi).1
      exact absurd hi (HI.out i (by omega))
set_option maxHeartbeats 1000000 in
theorem indexNil_calls (c : Nat) (v : Int) (w : World) : Calls Try.prog 111 #[.slice none 0 c, .int .i64 v] w fun e w' => e = .returned (.int .i64 (-1)) ∧ w' = w := by
  go_enter Try.func111, Try.ntmps111
  go_wp2_with fail
  go_loopg [8] 0 (fun gg s8 wr => s8 = .int .i64 0 ∧ Aside0 (wr = w))
  case atStart => exact ⟨rfl, ⟨rfl⟩⟩
  case round =>
    obtain ⟨rfl, HW⟩ := hrel
    obtain rfl := HW.out
    go_wp2
    go_ret
    exact ⟨rfl, rfl⟩
set_option maxHeartbeats 1000000 in
theorem contains_calls (s : Value) (v : Int) (B : Bool) (w : World) (h : ∀ w1, w1 = w → Calls Try.prog 111 #[s, .int .i64 v] w1 fun e w' => ∃ r : Int, e = .returned (.int .i64 r) ∧ (0 ≤ r ↔ B = true) ∧ w' = w1) :
    Calls Try.prog 85 #[s, .int .i64 v] w fun e w' => e = .returned (.bool B) ∧ w' = w := by
  have H := Lib.hid h
  clear h
  go_enter Try.func85, Try.ntmps85
  go_wp2_with fail
  refine (H.out _ rfl).mono ?_
  rintro e w' ⟨r, rfl, hr, rfl⟩
  have HR := Lib.hid hr
  clear hr
  go_wp2
  go_ret
  exact ⟨congrArg (fun x => Ending.returned (Value.bool x)) (by rw [Bool.eq_iff_iff, ← HR.out]; simp), rfl⟩
theorem contains_own {base : Nat} {v : Value} {xs : List Int} {w : World} (ho : w.ownsRow base 3 1 v xs.length (xs.map (Value.int .i64))) (hb : xs.length < 4611686018427387904) (y : Int) :
    Calls Try.prog 85 #[v, .int .i64 y] w fun e w' => e = .returned (.bool (xs.contains y)) ∧ w' = w := by
  refine contains_calls v y _ w ?_
  rintro w1 rfl
  rcases ho.2 with ⟨rfl, h0⟩ | ⟨g, cap, cur, rfl, _⟩
  · rw [List.length_eq_zero_iff] at h0
    subst h0
    refine (indexNil_calls 0 y w1).mono ?_
    rintro e w' ⟨rfl, rfl⟩
    exact ⟨_, rfl, by simp, rfl⟩
  · refine (index_calls g xs.length cap y xs w1 rfl hb (fun j x hx => ?_)).mono ?_
    · have := ho.cells (g := g) rfl j (Value.int .i64 x) (by rw [List.getElem?_map, hx]; rfl)
      rwa [add_plain] at this
    · rintro e w' ⟨r, rfl, hr, rfl⟩
      exact ⟨r, rfl, by rw [hr]; simp, rfl⟩
end Go.Proofs.Ytamhkdlcoghdbaa.PCls
