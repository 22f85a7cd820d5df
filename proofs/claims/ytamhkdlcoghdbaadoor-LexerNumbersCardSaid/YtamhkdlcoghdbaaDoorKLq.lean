/- The lexer in plain Lean: digits read back. -/
import Derived.Test.YtamhkdlcoghdbaaDoorKLd
namespace Go.Proofs.YtamhkdlcoghdbaaDoor.PCls
set_option linter.unusedVariables false
set_option linter.unusedSimpArgs false

def digit (b : UInt8) : Prop := 48 ≤ b.toNat ∧ b.toNat ≤ 57
def numStep (n : Int) (b : UInt8) : Int := min (max n 0 * 10 + ((b.toNat : Int) - 48)) 256
theorem number_run {s : ByteArray} : ∀ (ds rest : List UInt8) (k p : Nat) (n : Int), s.data.toList.drop p = ds ++ rest → (∀ b ∈ ds, digit b) → (∀ b l, rest = b :: l → ¬ digit b) → ds.length < k → Lx.number s k p n = (ds.foldl numStep n, p + ds.length)
 | [], rest, k, p, n, h, hd, hr, hk => by
  refine number_stop s k p n ?_
  rintro ⟨h1, h2, h3⟩
  cases rest with
  | nil =>
   have hl := congrArg List.length h
   have h0 : s.data.toList.length = s.size := by simp
   rw [List.length_drop, h0] at hl
   simp at hl
   omega
  | cons b l =>
   have h4 := (byt_drop (s := s) (p := p) (b := b) (l := l) h).2.1
   exact hr b l rfl ⟨by omega, by omega⟩
 | b :: ds, rest, k, p, n, h, hd, hr, hk => by
  obtain ⟨k, rfl⟩ : ∃ j, k = j + 1 := ⟨k - 1, by omega⟩
  obtain ⟨h1, h2, h3⟩ := byt_drop (s := s) (p := p) (b := b) (l := ds ++ rest) h
  have hb := hd b (by simp)
  conv => lhs; unfold Lx.number
  rw [if_pos ⟨h1, by rw [h2]; exact hb.1, by rw [h2]; exact hb.2⟩, h2, number_run ds rest k (p + 1) _ h3 (fun c hc => hd c (by simp [hc])) hr (by simp at hk; omega)]
  simp only [List.foldl_cons, List.length_cons]
  refine Prod.ext rfl ?_
  simp only
  omega
theorem ten_at (r : Nat) (h : r < 10) : (ten.extract r (r + 1)).data.toList = [UInt8.ofNat (48 + r)] := by
 have : r = 0 ∨ r = 1 ∨ r = 2 ∨ r = 3 ∨ r = 4 ∨ r = 5 ∨ r = 6 ∨ r = 7 ∨ r = 8 ∨ r = 9 := by omega
 rcases this with rfl | rfl | rfl | rfl | rfl | rfl | rfl | rfl | rfl | rfl <;> decide
theorem ten_nat (r : Nat) (h : r < 10) : (UInt8.ofNat (48 + r)).toNat = 48 + r := by
 simp
 omega
theorem dig_digits : ∀ (k n : Nat), ∀ b ∈ (dig k n).data.toList, digit b
 | 0, n, b, hb => by simp [dig] at hb
 | k + 1, n, b, hb => by
  rw [dig_succ] at hb
  split at hb
  ·rename_i h
   rw [ten_at n h, List.mem_singleton] at hb
   subst hb
   unfold digit
   rw [ten_nat n h]
   omega
  ·rw [ByteArray.data_append, Array.toList_append, List.mem_append] at hb
   rcases hb with hb | hb
   ·exact dig_digits k _ b hb
   ·rw [ten_at _ (Nat.mod_lt _ (by decide)), List.mem_singleton] at hb
    subst hb
    unfold digit
    rw [ten_nat _ (Nat.mod_lt _ (by decide))]
    have := Nat.mod_lt n (show 0 < 10 by decide)
    omega
theorem dig_value : ∀ (k n : Nat) (a : Int), 0 < k → n < 10 ^ k → a ≤ 0 → (dig k n).data.toList.foldl numStep a = min (n : Int) 256
 | 0, n, a, h0, hn, ha => by omega
 | k + 1, n, a, _, hn, ha => by
  rw [dig_succ]
  split
  ·rename_i h
   rw [ten_at n h]
   simp only [List.foldl_cons, List.foldl_nil, numStep]
   rw [ten_nat n h]
   omega
  ·rename_i h
   have hk0 : 0 < k := by
    rcases Nat.eq_zero_or_pos k with rfl | h'
    ·simp at hn; omega
    ·exact h'
   have hd : n / 10 < 10 ^ k := by
    have : n < 10 ^ k * 10 := by rw [← Nat.pow_succ]; exact hn
    omega
   rw [ByteArray.data_append, Array.toList_append, List.foldl_append, dig_value k (n / 10) a hk0 hd ha, ten_at _ (Nat.mod_lt _ (by decide))]
   simp only [List.foldl_cons, List.foldl_nil, numStep]
   rw [ten_nat _ (Nat.mod_lt _ (by decide))]
   omega
theorem zeros_value : ∀ (z : Nat) (a : Int), a ≤ 0 → (List.replicate z (48 : UInt8)).foldl numStep a ≤ 0
 | 0, a, h => h
 | z + 1, a, h => by
  rw [List.replicate_succ, List.foldl_cons]
  refine zeros_value z _ ?_
  have : ((48 : UInt8).toNat : Int) = 48 := rfl
  unfold numStep
  rw [this]
  omega
end Go.Proofs.YtamhkdlcoghdbaaDoor.PCls
