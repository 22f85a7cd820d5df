/- LexerNumbers: a number's digits. -/
import Derived.Test.YtamhkdlcoghdbaaDoorKLf
namespace Go.Proofs.YtamhkdlcoghdbaaDoor.PCls
open Go.RowKit Go.Shelf Go.Proofs.YtamhkdlcoghdbaaDoorW.PrintWords Go.Proofs.YtamhkdlcoghdbaaDoorW.PrintLast Go.Proofs.YtamhkdlcoghdbaaDoorW.PrintMore
set_option linter.unusedVariables false
set_option linter.unusedSimpArgs false

def ten : ByteArray := ⟨#[48, 49, 50, 51, 52, 53, 54, 55, 56, 57]⟩
/-- a number's digits, of at most k places -/
def dig : Nat → Nat → ByteArray
 | 0, n => ByteArray.empty
 | k + 1, n => if n < 10 then ten.extract n (n + 1) else dig k (n / 10) ++ ten.extract (n % 10) (n % 10 + 1)
theorem dig_succ (k n : Nat) : dig (k + 1) n = if n < 10 then ten.extract n (n + 1) else dig k (n / 10) ++ ten.extract (n % 10) (n % 10 + 1) := rfl
theorem dig_size : ∀ (k n : Nat), (dig k n).size ≤ k
 | 0, n => by simp [dig]
 | k + 1, n => by
  have ih := dig_size k (n / 10)
  unfold dig
  split
  ·rw [ByteArray.size_extract]; omega
  ·rw [ByteArray.size_append, ByteArray.size_extract]; omega
set_option maxHeartbeats 2000000 in
set_option maxRecDepth 100000 in
theorem digits_nat : ∀ (k n : Nat) (w : World), k ≤ 20 → n < 10 ^ k → n ≤ 9223372036854775807 → 0 < k → Calls Tryd.prog 20 #[.int .i64 n] w fun e w' => e = .returned (.string (dig k n)) ∧ Below w.heap.size w w' := by
 intro k
 induction k with
 | zero => intro n w hk hn h63 h0; omega
 | succ k ih =>
  intro n w hk hn h63 _
  have hi0 : (0 : Int) ≤ (n : Int) := by omega
  have hi9 : (n : Int) ≤ 9223372036854775807 := by omega
  by_cases h10 : n < 10
  ·have hX := Lib.hid (show dig (k + 1) n = ten.extract n (n + 1) by rw [dig_succ, if_pos h10])
   have h1 : (n : Int) < 10 := by omega
   have h2 : (n : Int) + 1 ≤ 10 := by omega
   have h3 : (n : Int) ≤ (n : Int) + 1 := by omega
   clear ih hn
   go_enter Tryd.func20, Tryd.ntmps20
   go_wp2_with fail
   go_ret
   exact ⟨by rw [hX.out]; rfl, Below.refl _ _⟩
  ·have hX := Lib.hid (show dig (k + 1) n = dig k (n / 10) ++ ten.extract (n % 10) (n % 10 + 1) by rw [dig_succ, if_neg h10])
   have hk0 : 0 < k := by
    rcases Nat.eq_zero_or_pos k with rfl | h
    ·simp at hn; omega
    ·exact h
   have hd : n / 10 < 10 ^ k := by
    have : n < 10 ^ k * 10 := by rw [← Nat.pow_succ]; exact hn
    omega
   have HI := Lib.hid (fun w => ih (n / 10) w (by omega) hd (by omega) hk0)
   have h1 : ¬ (n : Int) < 10 := by omega
   obtain ⟨q, hq⟩ : ∃ q, q = n / 10 := ⟨_, rfl⟩
   obtain ⟨r, hr⟩ : ∃ r, r = n % 10 := ⟨_, rfl⟩
   have hqv : wrap64 ((n : Int) / 10) = (q : Int) := (w64_in _ (by omega) (by omega)).trans (by omega)
   have hrv : (n : Int).tmod 10 = (r : Int) := by rw [Int.tmod_eq_emod_of_nonneg hi0]; omega
   have hrw : wrap64 ((r : Int) + 1) = (r : Int) + 1 := w64_in _ (by omega) (by omega)
   have r0 : (0 : Int) ≤ (r : Int) := by omega
   have r1 : (r : Int) ≤ (r : Int) + 1 := by omega
   have r2 : (r : Int) + 1 ≤ 10 := by omega
   rw [← hq, ← hr] at hX
   rw [← hq] at HI
   have hsz := dig_size k q
   clear ih hn hd hq hr
   go_enter Tryd.func20, Tryd.ntmps20
   go_wp2_with fail
   refine go_start (fun w' => Below w.heap.size w w') [] [.p 0, .p 1, .p 3, .p 4, .p 5, .p 6, .p 7, .p 8, .o 2, .p 9, .p 10] (by kernel_rfl) (by kernel_rfl) (fun c d v a w h => by cases d <;> exact h) ((Below.refl _ w).drew) (fun w2 hS2 => ?_)
   repeat
    refine go_p (v := ?_) (b := ?_) rfl (.inl ⟨by rfl, ?_⟩) ?_ ?_
    rotate_left 2
    ·intro w'; go_simp; with_reducible rfl
    ·simp only [Act.put, List.setIfInBounds_toArray, List.set_cons_zero, List.set_cons_succ, i64_w, i32_w, hqv, hrv, hrw]; rfl
   refine go_call rfl (by rfl) Tryd.func20 (by kernel_rfl) rfl (by simp only [List.map_toArray, List.map_cons, List.map_nil]; rfl) (HI.out w2) ?_
   rintro e w3 ⟨rfl, hb⟩
   have hS3 : Below w.heap.size w w3 := hS2.trans (hb.mono hS2.size)
   refine ⟨_, _, rfl, hS3, (by simp only [Act.put, List.setIfInBounds_toArray, List.set_cons_zero, List.set_cons_succ]; rfl), ?_⟩
   have hs1 : (9223372036854775807 < (dig k q).size + (min (r + 1) 10 - r)) = False := by rw [eq_iff_iff, iff_false]; omega
   repeat
    refine go_p (v := ?_) (b := ?_) rfl (.inl ⟨by rfl, ?_⟩) ?_ ?_
    rotate_left 2
    ·intro w'; go_simp; with_reducible rfl
    ·simp only [Act.put, List.setIfInBounds_toArray, List.set_cons_zero, List.set_cons_succ, i64_w, i32_w, hqv, hrv, hrw]; rfl
   refine go_done ?_
   have HS3 := Lib.hid hS3
   clear hS3 hS2 hb
   go_wp2_with fail
   go_ret
   exact ⟨by rw [hX.out]; rfl, HS3.out⟩
def digB (n : Int) : ByteArray := if n < 0 then ⟨#[45]⟩ ++ dig 20 (-(n + 1)).toNat else dig 20 n.toNat
theorem lt20 (n : Nat) (h : n ≤ 9223372036854775807) : n < 10 ^ 20 := Nat.lt_of_le_of_lt h (by decide)
set_option maxHeartbeats 400000 in
set_option maxRecDepth 100000 in
theorem digits_calls (n : Int) (h0 : -9223372036854775808 ≤ n) (h1 : n ≤ 9223372036854775807) (w : World) : Calls Tryd.prog 20 #[.int .i64 n] w fun e w' => e = .returned (.string (digB n)) ∧ Below w.heap.size w w' := by
 by_cases hn : n < 0
 ·obtain ⟨k, hk⟩ : ∃ k : Nat, (k : Int) = -(n + 1) := ⟨(-(n + 1)).toNat, by omega⟩
  have hX := Lib.hid (show digB n = ⟨#[45]⟩ ++ dig 20 k by unfold digB; rw [if_pos hn, ← hk, Int.toNat_natCast])
  have HD : Hid (∀ w : World, Calls Tryd.prog 20 #[.int .i64 (-(n + 1))] w fun e w' => e = .returned (.string (dig 20 k)) ∧ Below w.heap.size w w') := Lib.hid (fun w => by rw [← hk]; exact digits_nat 20 k w (Nat.le_refl _) (lt20 k (by omega)) (by omega) (by decide))
  have hw1 : wrap64 (n + 1) = n + 1 := w64_in _ (by omega) (by omega)
  have hw2 : wrap64 (-(n + 1)) = (k : Int) := (w64_in _ (by omega) (by omega)).trans hk.symm
  have hsz := dig_size 20 k
  clear hk
  go_enter Tryd.func20, Tryd.ntmps20
  go_wp2_with fail
  refine (HD.out _).mono ?_
  rintro e w1 ⟨rfl, hb⟩
  have HB := Lib.hid hb
  clear hb HD
  go_wp2_with fail
  go_ret
  exact ⟨by rw [hX.out]; rfl, HB.out⟩
 ·obtain ⟨k, rfl⟩ : ∃ k : Nat, n = k := ⟨n.toNat, by omega⟩
  have hX : digB (k : Int) = dig 20 k := by unfold digB; rw [if_neg hn, Int.toNat_natCast]
  rw [hX]
  exact digits_nat 20 k w (Nat.le_refl _) (lt20 k (by omega)) (by omega) (by decide)
end Go.Proofs.YtamhkdlcoghdbaaDoor.PCls
