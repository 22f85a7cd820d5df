/- LexerPlain: a plain byte. -/
import Derived.Test.YtamhkdlcoghdbaaDoorKLf
namespace Go.Proofs.YtamhkdlcoghdbaaDoor.PCls
open Go.RowKit Go.Shelf Go.Proofs.YtamhkdlcoghdbaaDoorW.PrintWords Go.Proofs.YtamhkdlcoghdbaaDoorW.PrintLast Go.Proofs.YtamhkdlcoghdbaaDoorW.PrintMore
set_option linter.unusedVariables false
set_option linter.unusedSimpArgs false

set_option maxHeartbeats 4000000 in
theorem plain_calls (b : Nat) (hb : b < 256) (w : World) : Calls Tryd.prog 19 #[.int .u8 b] w fun e w' => e = .returned (.bool (decide (b < 128) && decide (b ≠ 92) && decide (b ≠ 91) && decide (b ≠ 46) && decide (b ≠ 42) && decide (b ≠ 94) && decide (b ≠ 36))) ∧ w' = w := by
 have key : ∀ k : Nat, ((b : Int) != (k : Int)) = decide (b ≠ k) := fun k => by
  by_cases h : b = k
  ·subst h; simp
  ·simp [h]; omega
 obtain ⟨r, hr⟩ : ∃ r, r = (decide (b < 128) && decide (b ≠ 92) && decide (b ≠ 91) && decide (b ≠ 46) && decide (b ≠ 42) && decide (b ≠ 94) && decide (b ≠ 36)) := ⟨_, rfl⟩
 rw [← hr]
 by_cases h0 : b < 128
 ·by_cases h1 : b = 92
  ·subst h1; obtain rfl : r = false := hr; go_enter Tryd.func19, Tryd.ntmps19; go_wp2_with fail; go_ret; exact ⟨rfl, rfl⟩
  by_cases h2 : b = 91
  ·subst h2; obtain rfl : r = false := hr; go_enter Tryd.func19, Tryd.ntmps19; go_wp2_with fail; go_ret; exact ⟨rfl, rfl⟩
  by_cases h3 : b = 46
  ·subst h3; obtain rfl : r = false := hr; go_enter Tryd.func19, Tryd.ntmps19; go_wp2_with fail; go_ret; exact ⟨rfl, rfl⟩
  by_cases h4 : b = 42
  ·subst h4; obtain rfl : r = false := hr; go_enter Tryd.func19, Tryd.ntmps19; go_wp2_with fail; go_ret; exact ⟨rfl, rfl⟩
  by_cases h5 : b = 94
  ·subst h5; obtain rfl : r = false := hr; go_enter Tryd.func19, Tryd.ntmps19; go_wp2_with fail; go_ret; exact ⟨rfl, rfl⟩
  by_cases h6 : b = 36
  ·subst h6; obtain rfl : r = false := hr; go_enter Tryd.func19, Tryd.ntmps19; go_wp2_with fail; go_ret; exact ⟨rfl, rfl⟩
  have HX := Lib.hid (show r = true by rw [hr]; simp [h0, h1, h2, h3, h4, h5, h6])
  have b1 : ((b : Int) != 92) = true := by rw [bne_iff_ne]; omega
  have b2 : ((b : Int) != 91) = true := by rw [bne_iff_ne]; omega
  have b3 : ((b : Int) != 46) = true := by rw [bne_iff_ne]; omega
  have b4 : ((b : Int) != 42) = true := by rw [bne_iff_ne]; omega
  have b5 : ((b : Int) != 94) = true := by rw [bne_iff_ne]; omega
  have b6 : ((b : Int) != 36) = true := by rw [bne_iff_ne]; omega
  have b0 : (b : Int) < 128 := by omega
  clear hr key h0 h1 h2 h3 h4 h5 h6
  go_enter Tryd.func19, Tryd.ntmps19
  go_wp2_with fail
  go_ret
  exact ⟨by rw [HX.out]; rfl, rfl⟩
 ·have HX := Lib.hid (show r = false by rw [hr]; simp [h0])
  have b0 : ¬ (b : Int) < 128 := by omega
  clear hr key h0
  go_enter Tryd.func19, Tryd.ntmps19
  go_wp2_with fail
  go_ret
  exact ⟨by rw [HX.out]; rfl, rfl⟩
end Go.Proofs.YtamhkdlcoghdbaaDoor.PCls
