/- Put together (wip/tools/pack.py): Ld, Lq, Lr, Nx. -/
import Derived.Test.YtamhkdlcoghdbaaDoorKMLw
/- LexerNumbers: a number's digits. -/
namespace Go.Proofs.YtamhkdlcoghdbaaDoor.PCls
open Go.RowKit Go.Shelf Go.Proofs.YtamhkdlcoghdbaaDoorW.PrintWords Go.Proofs.YtamhkdlcoghdbaaDoorW.PrintLast Go.Proofs.YtamhkdlcoghdbaaDoorW.PrintMore
set_option linter.unusedVariables false
set_option linter.unusedSimpArgs false

def ten : ByteArray := ⟨#[48, 49, 50, 51, 52, 53, 54, 55, 56, 57]⟩
/-- a number's digits, of at most k places -/
def dig : Nat → Nat → ByteArray
 | 0, n => ByteArray.empty
 | k + 1, n => if n < 10 then ten.extract n (n + 1) else dig k (n / 10) ++ ten.extract (n % 10) (n % 10 + 1)
theorem dig_succ (k n : Nat) : dig (k + 1) n = if n < 10 then ten.extract n (n + 1) else dig k (n / 10) ++ ten.extract (n % 10) (n % 10 + 1) := rfl
theorem dig_size : ∀ (k n : Nat), (dig k n).size ≤ k
 | 0, n => by simp [dig]
 | k + 1, n => by
  have ih := dig_size k (n / 10)
  unfold dig
  split
  ·rw [ByteArray.size_extract]; omega
  ·rw [ByteArray.size_append, ByteArray.size_extract]; omega
set_option maxHeartbeats 2000000 in
set_option maxRecDepth 100000 in
theorem digits_nat : ∀ (k n : Nat) (w : World), k ≤ 20 → n < 10 ^ k → n ≤ 9223372036854775807 → 0 < k → Calls Tryd.prog 20 #[.int .i64 n] w fun e w' => e = .returned (.string (dig k n)) ∧ Below w.heap.size w w' := by
 intro k
 induction k with
 | zero => intro n w hk hn h63 h0; omega
 | succ k ih =>
  intro n w hk hn h63 _
  have hi0 : (0 : Int) ≤ (n : Int) := by omega
  have hi9 : (n : Int) ≤ 9223372036854775807 := by omega
  by_cases h10 : n < 10
  ·have hX := Lib.hid (show dig (k + 1) n = ten.extract n (n + 1) by rw [dig_succ, if_pos h10])
   have h1 : (n : Int) < 10 := by omega
   have h2 : (n : Int) + 1 ≤ 10 := by omega
   have h3 : (n : Int) ≤ (n : Int) + 1 := by omega
   clear ih hn
   go_enter Tryd.func20, Tryd.ntmps20
   go_wp2_with fail
   go_ret
   exact ⟨by rw [hX.out]; rfl, Below.refl _ _⟩
  ·have hX := Lib.hid (show dig (k + 1) n = dig k (n / 10) ++ ten.extract (n % 10) (n % 10 + 1) by rw [dig_succ, if_neg h10])
   have hk0 : 0 < k := by
    rcases Nat.eq_zero_or_pos k with rfl | h
    ·simp at hn; omega
    ·exact h
   have hd : n / 10 < 10 ^ k := by
    have : n < 10 ^ k * 10 := by rw [← Nat.pow_succ]; exact hn
    omega
   have HI := Lib.hid (fun w => ih (n / 10) w (by omega) hd (by omega) hk0)
   have h1 : ¬ (n : Int) < 10 := by omega
   obtain ⟨q, hq⟩ : ∃ q, q = n / 10 := ⟨_, rfl⟩
   obtain ⟨r, hr⟩ : ∃ r, r = n % 10 := ⟨_, rfl⟩
   have hqv : wrap64 ((n : Int) / 10) = (q : Int) := (w64_in _ (by omega) (by omega)).trans (by omega)
   have hrv : (n : Int).tmod 10 = (r : Int) := by rw [Int.tmod_eq_emod_of_nonneg hi0]; omega
   have hrw : wrap64 ((r : Int) + 1) = (r : Int) + 1 := w64_in _ (by omega) (by omega)
   have r0 : (0 : Int) ≤ (r : Int) := by omega
   have r1 : (r : Int) ≤ (r : Int) + 1 := by omega
   have r2 : (r : Int) + 1 ≤ 10 := by omega
   rw [← hq, ← hr] at hX
   rw [← hq] at HI
   have hsz := dig_size k q
   clear ih hn hd hq hr
   go_enter Tryd.func20, Tryd.ntmps20
   go_wp2_with fail
   refine go_start (fun w' => Below w.heap.size w w') [] [.p 0, .p 1, .p 3, .p 4, .p 5, .p 6, .p 7, .p 8, .o 2, .p 9, .p 10] (by kernel_rfl) (by kernel_rfl) (fun c d v a w h => by cases d <;> exact h) ((Below.refl _ w).drew) (fun w2 hS2 => ?_)
   repeat
    refine go_p (v := ?_) (b := ?_) rfl (.inl ⟨by rfl, ?_⟩) ?_ ?_
    rotate_left 2
    ·intro w'; go_simp; with_reducible rfl
    ·simp only [Act.put, List.setIfInBounds_toArray, List.set_cons_zero, List.set_cons_succ, i64_w, i32_w, hqv, hrv, hrw]; rfl
   refine go_call rfl (by rfl) Tryd.func20 (by kernel_rfl) rfl (by simp only [List.map_toArray, List.map_cons, List.map_nil]; rfl) (HI.out w2) ?_
   rintro e w3 ⟨rfl, hb⟩
   have hS3 : Below w.heap.size w w3 := hS2.trans (hb.mono hS2.size)
   refine ⟨_, _, rfl, hS3, (by simp only [Act.put, List.setIfInBounds_toArray, List.set_cons_zero, List.set_cons_succ]; rfl), ?_⟩
   have hs1 : (9223372036854775807 < (dig k q).size + (min (r + 1) 10 - r)) = False := by rw [eq_iff_iff, iff_false]; omega
   repeat
    refine go_p (v := ?_) (b := ?_) rfl (.inl ⟨by rfl, ?_⟩) ?_ ?_
    rotate_left 2
    ·intro w'; go_simp; with_reducible rfl
    ·simp only [Act.put, List.setIfInBounds_toArray, List.set_cons_zero, List.set_cons_succ, i64_w, i32_w, hqv, hrv, hrw]; rfl
   refine go_done ?_
   have HS3 := Lib.hid hS3
   clear hS3 hS2 hb
   go_wp2_with fail
   go_ret
   exact ⟨by rw [hX.out]; rfl, HS3.out⟩
def digB (n : Int) : ByteArray := if n < 0 then ⟨#[45]⟩ ++ dig 20 (-(n + 1)).toNat else dig 20 n.toNat
theorem lt20 (n : Nat) (h : n ≤ 9223372036854775807) : n < 10 ^ 20 := Nat.lt_of_le_of_lt h (by decide)
set_option maxHeartbeats 400000 in
set_option maxRecDepth 100000 in
theorem digits_calls (n : Int) (h0 : -9223372036854775808 ≤ n) (h1 : n ≤ 9223372036854775807) (w : World) : Calls Tryd.prog 20 #[.int .i64 n] w fun e w' => e = .returned (.string (digB n)) ∧ Below w.heap.size w w' := by
 by_cases hn : n < 0
 ·obtain ⟨k, hk⟩ : ∃ k : Nat, (k : Int) = -(n + 1) := ⟨(-(n + 1)).toNat, by omega⟩
  have hX := Lib.hid (show digB n = ⟨#[45]⟩ ++ dig 20 k by unfold digB; rw [if_pos hn, ← hk, Int.toNat_natCast])
  have HD : Hid (∀ w : World, Calls Tryd.prog 20 #[.int .i64 (-(n + 1))] w fun e w' => e = .returned (.string (dig 20 k)) ∧ Below w.heap.size w w') := Lib.hid (fun w => by rw [← hk]; exact digits_nat 20 k w (Nat.le_refl _) (lt20 k (by omega)) (by omega) (by decide))
  have hw1 : wrap64 (n + 1) = n + 1 := w64_in _ (by omega) (by omega)
  have hw2 : wrap64 (-(n + 1)) = (k : Int) := (w64_in _ (by omega) (by omega)).trans hk.symm
  have hsz := dig_size 20 k
  clear hk
  go_enter Tryd.func20, Tryd.ntmps20
  go_wp2_with fail
  refine (HD.out _).mono ?_
  rintro e w1 ⟨rfl, hb⟩
  have HB := Lib.hid hb
  clear hb HD
  go_wp2_with fail
  go_ret
  exact ⟨by rw [hX.out]; rfl, HB.out⟩
 ·obtain ⟨k, rfl⟩ : ∃ k : Nat, n = k := ⟨n.toNat, by omega⟩
  have hX : digB (k : Int) = dig 20 k := by unfold digB; rw [if_neg hn, Int.toNat_natCast]
  rw [hX]
  exact digits_nat 20 k w (Nat.le_refl _) (lt20 k (by omega)) (by omega) (by decide)
end Go.Proofs.YtamhkdlcoghdbaaDoor.PCls
/- The lexer in plain Lean: digits read back. -/
namespace Go.Proofs.YtamhkdlcoghdbaaDoor.PCls
set_option linter.unusedVariables false
set_option linter.unusedSimpArgs false

def digit (b : UInt8) : Prop := 48 ≤ b.toNat ∧ b.toNat ≤ 57
def numStep (n : Int) (b : UInt8) : Int := min (max n 0 * 10 + ((b.toNat : Int) - 48)) 256
theorem number_run {s : ByteArray} : ∀ (ds rest : List UInt8) (k p : Nat) (n : Int), s.data.toList.drop p = ds ++ rest → (∀ b ∈ ds, digit b) → (∀ b l, rest = b :: l → ¬ digit b) → ds.length < k → Lx.number s k p n = (ds.foldl numStep n, p + ds.length)
 | [], rest, k, p, n, h, hd, hr, hk => by
  refine number_stop s k p n ?_
  rintro ⟨h1, h2, h3⟩
  cases rest with
  | nil =>
   have hl := congrArg List.length h
   have h0 : s.data.toList.length = s.size := by simp
   rw [List.length_drop, h0] at hl
   simp at hl
   omega
  | cons b l =>
   have h4 := (byt_drop (s := s) (p := p) (b := b) (l := l) h).2.1
   exact hr b l rfl ⟨by omega, by omega⟩
 | b :: ds, rest, k, p, n, h, hd, hr, hk => by
  obtain ⟨k, rfl⟩ : ∃ j, k = j + 1 := ⟨k - 1, by omega⟩
  obtain ⟨h1, h2, h3⟩ := byt_drop (s := s) (p := p) (b := b) (l := ds ++ rest) h
  have hb := hd b (by simp)
  conv => lhs; unfold Lx.number
  rw [if_pos ⟨h1, by rw [h2]; exact hb.1, by rw [h2]; exact hb.2⟩, h2, number_run ds rest k (p + 1) _ h3 (fun c hc => hd c (by simp [hc])) hr (by simp at hk; omega)]
  simp only [List.foldl_cons, List.length_cons]
  refine Prod.ext rfl ?_
  simp only
  omega
theorem ten_at (r : Nat) (h : r < 10) : (ten.extract r (r + 1)).data.toList = [UInt8.ofNat (48 + r)] := by
 have : r = 0 ∨ r = 1 ∨ r = 2 ∨ r = 3 ∨ r = 4 ∨ r = 5 ∨ r = 6 ∨ r = 7 ∨ r = 8 ∨ r = 9 := by omega
 rcases this with rfl | rfl | rfl | rfl | rfl | rfl | rfl | rfl | rfl | rfl <;> decide
theorem ten_nat (r : Nat) (h : r < 10) : (UInt8.ofNat (48 + r)).toNat = 48 + r := by
 simp
 omega
theorem dig_digits : ∀ (k n : Nat), ∀ b ∈ (dig k n).data.toList, digit b
 | 0, n, b, hb => by simp [dig] at hb
 | k + 1, n, b, hb => by
  rw [dig_succ] at hb
  split at hb
  ·rename_i h
   rw [ten_at n h, List.mem_singleton] at hb
   subst hb
   unfold digit
   rw [ten_nat n h]
   omega
  ·rw [ByteArray.data_append, Array.toList_append, List.mem_append] at hb
   rcases hb with hb | hb
   ·exact dig_digits k _ b hb
   ·rw [ten_at _ (Nat.mod_lt _ (by decide)), List.mem_singleton] at hb
    subst hb
    unfold digit
    rw [ten_nat _ (Nat.mod_lt _ (by decide))]
    have := Nat.mod_lt n (show 0 < 10 by decide)
    omega
theorem dig_value : ∀ (k n : Nat) (a : Int), 0 < k → n < 10 ^ k → a ≤ 0 → (dig k n).data.toList.foldl numStep a = min (n : Int) 256
 | 0, n, a, h0, hn, ha => by omega
 | k + 1, n, a, _, hn, ha => by
  rw [dig_succ]
  split
  ·rename_i h
   rw [ten_at n h]
   simp only [List.foldl_cons, List.foldl_nil, numStep]
   rw [ten_nat n h]
   omega
  ·rename_i h
   have hk0 : 0 < k := by
    rcases Nat.eq_zero_or_pos k with rfl | h'
    ·simp at hn; omega
    ·exact h'
   have hd : n / 10 < 10 ^ k := by
    have : n < 10 ^ k * 10 := by rw [← Nat.pow_succ]; exact hn
    omega
   rw [ByteArray.data_append, Array.toList_append, List.foldl_append, dig_value k (n / 10) a hk0 hd ha, ten_at _ (Nat.mod_lt _ (by decide))]
   simp only [List.foldl_cons, List.foldl_nil, numStep]
   rw [ten_nat _ (Nat.mod_lt _ (by decide))]
   omega
theorem zeros_value : ∀ (z : Nat) (a : Int), a ≤ 0 → (List.replicate z (48 : UInt8)).foldl numStep a ≤ 0
 | 0, a, h => h
 | z + 1, a, h => by
  rw [List.replicate_succ, List.foldl_cons]
  refine zeros_value z _ ?_
  have : ((48 : UInt8).toNat : Int) = 48 := rfl
  unfold numStep
  rw [this]
  omega
end Go.Proofs.YtamhkdlcoghdbaaDoor.PCls
/- The lexer in plain Lean: a text a\{..,..\}. -/
namespace Go.Proofs.YtamhkdlcoghdbaaDoor.PCls
set_option linter.unusedVariables false
set_option linter.unusedSimpArgs false

theorem here_drop {s : ByteArray} {p : Nat} {l t : List UInt8} (h : s.data.toList.drop p = l) (hp : p ≤ s.size) : Lx.here s p t = Lib.hasPrefix l t := by
 unfold Lx.here
 rw [h, decide_eq_true hp, Bool.true_and]
theorem drop_more {s : ByteArray} {p : Nat} {a l : List UInt8} (h : s.data.toList.drop p = a ++ l) (hp : p ≤ s.size) : s.data.toList.drop (p + a.length) = l ∧ p + a.length + l.length = s.size := by
 have h0 : s.data.toList.length = s.size := by simp
 have hl := congrArg List.length h
 rw [List.length_drop, h0, List.length_append] at hl
 refine ⟨?_, by omega⟩
 rw [← List.drop_drop, h, List.drop_left]
/-- what is said of an interval -/
theorem interval_law (s : ByteArray) (x0 p z : Nat) (m n : Int) (h0 : -9223372036854775808 ≤ m ∧ m ≤ 9223372036854775807) (h1 : -9223372036854775808 ≤ n ∧ n ≤ 9223372036854775807) (hp : p ≤ s.size)
  (h : s.data.toList.drop p = List.replicate z 48 ++ (digB m).data.toList ++ [44] ++ (digB n).data.toList ++ [92, 125]) :
  Lx.interval s x0 p = if m < 0 ∨ n < 0 then .error (36, (x0 : Int)) else if 255 < m ∨ 255 < n ∨ n < m then .error (37, (x0 : Int)) else .ok (m, n, s.size) := by
 have hz48 : ∀ b ∈ List.replicate z (48 : UInt8), digit b := fun b hb => by
  rw [(List.mem_replicate.1 hb).2]; exact ⟨by decide, by decide⟩
 have hlen := congrArg List.length h
 have hs0 : s.data.toList.length = s.size := by simp
 rw [List.length_drop, hs0] at hlen
 simp only [List.length_append, List.length_replicate, List.length_cons, List.length_nil] at hlen
 by_cases hm : m < 0
 ·have hM : (digB m).data.toList = 45 :: (dig 20 (-(m + 1)).toNat).data.toList := by
   unfold digB
   rw [if_pos hm, ByteArray.data_append, Array.toList_append]
   rfl
  rw [hM] at h hlen
  have h' : s.data.toList.drop p = List.replicate z 48 ++ (45 :: ((dig 20 (-(m + 1)).toNat).data.toList ++ [44] ++ (digB n).data.toList ++ [92, 125])) := by rw [h]; simp
  have ha := number_run (List.replicate z 48) _ (s.size + 1) p (-1) h' hz48 (fun b l e => by cases e; exact fun hd => by have := hd.1; revert this; decide) (by simp at hlen ⊢; omega)
  obtain ⟨hd, hsz⟩ := drop_more h' hp
  rw [List.length_replicate] at ha hd hsz
  have hv := zeros_value z (-1) (by decide)
  rw [if_pos (.inl hm)]
  rw [interval_eq (q := x0) (a1 := (List.replicate z (48 : UInt8)).foldl numStep (-1)) (a2 := p + z) (b1 := (List.replicate z (48 : UInt8)).foldl numStep (-1)) (b2 := p + z) ha.symm (by
   rw [if_neg (by rintro ⟨_, h2⟩; rw [here_drop hd (by omega)] at h2; simp [Lib.hasPrefix] at h2)])]
  rw [if_pos (.inr (by rw [here_drop hd (by omega)]; rfl))]
 ·obtain ⟨mN, rfl⟩ : ∃ k : Nat, m = k := ⟨m.toNat, by omega⟩
  have hM : (digB (mN : Int)) = dig 20 mN := by unfold digB; rw [if_neg hm, Int.toNat_natCast]
  rw [hM] at h hlen
  have h' : s.data.toList.drop p = (List.replicate z 48 ++ (dig 20 mN).data.toList) ++ (44 :: ((digB n).data.toList ++ [92, 125])) := by rw [h]; simp
  have ha := number_run (List.replicate z 48 ++ (dig 20 mN).data.toList) _ (s.size + 1) p (-1) h' (fun b hb => by
   rcases List.mem_append.1 hb with hb | hb
   ·exact hz48 b hb
   ·exact dig_digits 20 mN b hb) (fun b l e => by cases e; exact fun hd => by have := hd.1; revert this; decide) (by simp at hlen ⊢; omega)
  rw [List.foldl_append, dig_value 20 mN _ (by decide) (lt20 mN (by omega)) (zeros_value z (-1) (by decide))] at ha
  obtain ⟨hd, hsz⟩ := drop_more h' hp
  generalize p + (List.replicate z (48 : UInt8) ++ (dig 20 mN).data.toList).length = a2 at ha hd hsz
  simp only [List.length_cons, List.length_append, List.length_nil] at hsz
  have hcomma : Lx.here s a2 [44] = true := by rw [here_drop hd (by omega)]; rfl
  have hd1 : s.data.toList.drop (a2 + 1) = (digB n).data.toList ++ [92, 125] := by
   have := congrArg (List.drop 1) hd
   rwa [List.drop_drop] at this
  by_cases hn : n < 0
  ·have hN : (digB n).data.toList = 45 :: (dig 20 (-(n + 1)).toNat).data.toList := by
    unfold digB
    rw [if_pos hn, ByteArray.data_append, Array.toList_append]
    rfl
   rw [hN] at hd1 hsz
   have hb := number_run (s := s) [] _ (s.size + 1) (a2 + 1) (-1) hd1 (fun b hb => by cases hb) (fun b l e => by cases e; exact fun hd => by have := hd.1; revert this; decide) (by simp)
   rw [if_pos (.inr hn)]
   rw [interval_eq (q := x0) (a1 := min (mN : Int) 256) (a2 := a2) (b1 := -1) (b2 := a2 + 1) ha.symm (by rw [if_pos ⟨by omega, hcomma⟩]; exact hb)]
   rw [if_pos (.inr (by rw [here_drop hd1 (by simp at hsz; omega)]; rfl))]
  ·obtain ⟨nN, rfl⟩ : ∃ k : Nat, n = k := ⟨n.toNat, by omega⟩
   have hN : (digB (nN : Int)) = dig 20 nN := by unfold digB; rw [if_neg hn, Int.toNat_natCast]
   rw [hN] at hd1 hsz
   have hb := number_run (dig 20 nN).data.toList _ (s.size + 1) (a2 + 1) (-1) hd1 (fun b hb => dig_digits 20 nN b hb) (fun b l e => by cases e; exact fun hd => by have := hd.2; revert this; decide) (by omega)
   rw [dig_value 20 nN _ (by decide) (lt20 nN (by omega)) (by decide)] at hb
   obtain ⟨hd2, hsz2⟩ := drop_more hd1 (by omega)
   generalize a2 + 1 + (dig 20 nN).data.toList.length = b2 at hb hd2 hsz2
   simp only [List.length_cons, List.length_nil] at hsz2
   have hend : Lx.here s b2 [92, 125] = true := by rw [here_drop hd2 (by omega)]; rfl
   rw [interval_eq (q := x0) (a1 := min (mN : Int) 256) (a2 := a2) (b1 := min (nN : Int) 256) (b2 := b2) ha.symm (by rw [if_pos ⟨by omega, hcomma⟩]; exact hb)]
   have q1 : ¬ (min (mN : Int) 256 < 0 ∨ Lx.here s b2 [92, 125] = false) := fun h => by
    rcases h with h | h
    ·omega
    ·rw [hend] at h; cases h
   have q2 : ¬ ((mN : Int) < 0 ∨ (nN : Int) < 0) := by omega
   rw [if_neg q1, if_neg q2]
   by_cases hc : 255 < (mN : Int) ∨ 255 < (nN : Int) ∨ (nN : Int) < (mN : Int)
   ·rw [if_pos hc, if_pos (by omega)]
   ·rw [if_neg hc, if_neg (by omega)]
    have e1 : min (mN : Int) 256 = mN := by omega
    have e2 : min (nN : Int) 256 = nN := by omega
    rw [e1, e2, hsz2]
theorem lex_numbers (s : ByteArray) (z : Nat) (m n : Int) (h0 : -9223372036854775808 ≤ m ∧ m ≤ 9223372036854775807) (h1 : -9223372036854775808 ≤ n ∧ n ≤ 9223372036854775807) (hs : s.size ≤ 2000)
  (h : s.data.toList = 97 :: 92 :: 123 :: (List.replicate z 48 ++ (digB m).data.toList ++ [44] ++ (digB n).data.toList ++ [92, 125])) :
  Lx.lex clC s false false = if m < 0 ∨ n < 0 then .error (36, 1) else if 255 < m ∨ 255 < n ∨ n < m then .error (37, 1) else .ok [⟨1, 0, 1, 0, 0, 0, [⟨97, 97⟩]⟩, ⟨2, 1, s.size, 0, m, n, []⟩] := by
 have hs0 : s.data.toList.length = s.size := by simp
 have hl := congrArg List.length h
 rw [hs0] at hl
 simp only [List.length_cons] at hl
 rw [show Lx.lex clC s false false = Lx.run clC s false false (s.size + 1) ⟨0, []⟩ by unfold Lx.lex; rw [if_neg (by omega)]]
 obtain ⟨k, hk⟩ : ∃ k, s.size = k + 1 := ⟨s.size - 1, by omega⟩
 generalize hL : List.replicate z 48 ++ (digB m).data.toList ++ [44] ++ (digB n).data.toList ++ [92, 125] = L at h hl
 obtain ⟨n1, d1, z1⟩ := next_plain (s := s) (chars := false) (fold := false) (x := ⟨0, []⟩) (b := 97) (l := 92 :: 123 :: L) (by rw [List.drop_zero, h]; rfl) (by decide)
 rw [run_step z1, n1]
 simp only
 have d1' : s.data.toList.drop 1 = 92 :: 123 :: L := d1
 obtain ⟨e1, e2, d2⟩ := byt_drop d1'
 obtain ⟨e3, e4, d3⟩ := byt_drop d2
 generalize hx : Lx.char clC false ⟨0, []⟩ ((97 : UInt8).toNat : Int) (0 + (sp1 97).length) = x1
 have hx1 : x1 = ⟨1, [⟨1, 0, 1, 0, 0, 0, [⟨97, 97⟩]⟩]⟩ := by rw [← hx]; rfl
 subst hx1
 rw [hk]
 have hu := unit_ascii s false 1 e1 (by rw [e2]; decide)
 have hn2 : Lx.next clC s false false ⟨1, [⟨1, 0, 1, 0, 0, 0, [⟨97, 97⟩]⟩]⟩ = match Lx.interval s 1 3 with
   | .error e => .error e
   | .ok (a, b, e2) => .ok (Lx.put ⟨1, [⟨1, 0, 1, 0, 0, 0, [⟨97, 97⟩]⟩]⟩ { Lx.tok 2 with lo := a, hi := b } e2) := by
  rw [next_eq, hu, e2, if_neg (by decide), if_pos (by decide)]
  unfold Lx.escape
  rw [if_neg (by simp only; omega)]
  simp only [e4]
  rw [if_neg (by decide), if_neg (by decide), if_neg (by decide), if_neg (by decide), if_neg (by decide), if_pos (by decide)]
  unfold Lx.often
  rw [if_neg (by decide), if_neg (by decide), if_neg (by decide)]
  rfl
 rw [run_step e1, hn2, interval_law s 1 3 z m n h0 h1 (by omega) (by rw [hL]; exact d3)]
 by_cases c1 : m < 0 ∨ n < 0
 ·rw [if_pos c1, if_pos c1]; rfl
 ·rw [if_neg c1, if_neg c1]
  by_cases c2 : 255 < m ∨ 255 < n ∨ n < m
  ·rw [if_pos c2, if_pos c2]; rfl
  ·rw [if_neg c2, if_neg c2]
   simp only
   rw [run_stop (by simp [Lx.put])]
   rw [← hk]
   rfl
end Go.Proofs.YtamhkdlcoghdbaaDoor.PCls
/- The unit at a place, in plain Lean: as the reference reckons it. -/
namespace Go.Proofs.YtamhkdlcoghdbaaDoor.PCls
set_option linter.unusedVariables false
set_option linter.unusedSimpArgs false

theorem len_size (s : ByteArray) : s.data.toList.length = s.size := by simp
theorem get_byt (s : ByteArray) (i : Nat) : (s.get! i).toNat = Lx.byt s i := by
 unfold Lx.byt
 rw [List.getD_eq_getElem?_getD]
 by_cases h : i < s.size
 ·have h' : i < s.data.toList.length := by rw [len_size]; exact h
  rw [List.getElem?_eq_getElem h']
  simp [ByteArray.get!, h]
 ·rw [List.getElem?_eq_none (by rw [len_size]; omega)]
  have h2 : s.data.size ≤ i := by have : s.data.size = s.size := rfl; omega
  have h3 : ByteArray.get! s i = s.data[i]! := by cases s; rfl
  rw [h3, getElem!_neg _ _ (by omega)]
  rfl
def v2 (b0 b1 : Nat) : Nat := 64 * (b0 - 192) + (b1 - 128)
def v3 (b0 b1 b2 : Nat) : Nat := 64 * (64 * (b0 - 224) + (b1 - 128)) + (b2 - 128)
def v4 (b0 b1 b2 b3 : Nat) : Nat := 64 * (64 * (64 * (b0 - 240) + (b1 - 128)) + (b2 - 128)) + (b3 - 128)
set_option maxRecDepth 100000 in
set_option maxHeartbeats 2000000 in
theorem dN2 (n b0 b1 b2 b3 : Nat) (h0 : 192 ≤ b0 ∧ b0 < 224) : Lib.decodeN n b0 b1 b2 b3 = if 1 < n ∧ 128 ≤ b1 ∧ b1 ≤ 191 ∧ 128 ≤ v2 b0 b1 then (v2 b0 b1, 2) else (65533, 1) := by
 unfold Lib.decodeN v2
 repeat' split
 all_goals first | rfl | (exfalso; omega) | (apply Prod.ext <;> simp only <;> omega)
set_option maxRecDepth 100000 in
set_option maxHeartbeats 2000000 in
theorem dN3 (n b0 b1 b2 b3 : Nat) (h0 : 224 ≤ b0 ∧ b0 < 240) : Lib.decodeN n b0 b1 b2 b3 = if 2 < n ∧ 128 ≤ b1 ∧ b1 ≤ 191 ∧ 128 ≤ b2 ∧ b2 ≤ 191 ∧ 2048 ≤ v3 b0 b1 b2 ∧ (v3 b0 b1 b2 < 55296 ∨ 57343 < v3 b0 b1 b2) then (v3 b0 b1 b2, 3) else (65533, 1) := by
 unfold Lib.decodeN v3
 repeat' split
 all_goals first | rfl | (exfalso; omega) | (apply Prod.ext <;> simp only <;> omega)
set_option maxRecDepth 100000 in
set_option maxHeartbeats 2000000 in
theorem dN4 (n b0 b1 b2 b3 : Nat) (h0 : 240 ≤ b0 ∧ b0 < 248) : Lib.decodeN n b0 b1 b2 b3 = if 3 < n ∧ 128 ≤ b1 ∧ b1 ≤ 191 ∧ 128 ≤ b2 ∧ b2 ≤ 191 ∧ 128 ≤ b3 ∧ b3 ≤ 191 ∧ 65536 ≤ v4 b0 b1 b2 b3 ∧ v4 b0 b1 b2 b3 ≤ 1114111 then (v4 b0 b1 b2 b3, 4) else (65533, 1) := by
 unfold Lib.decodeN v4
 repeat' split
 all_goals first | rfl | (exfalso; omega) | (apply Prod.ext <;> simp only <;> omega)
theorem dNx (n b0 b1 b2 b3 : Nat) (h0 : (128 ≤ b0 ∧ b0 < 192) ∨ 248 ≤ b0) (h1 : b0 < 256) : Lib.decodeN n b0 b1 b2 b3 = (65533, 1) := by
 unfold Lib.decodeN
 repeat' split
 all_goals first | rfl | (exfalso; omega)
def dAt (s : ByteArray) (p : Nat) : Nat × Nat := Lib.decodeN (s.size - p) (Lx.byt s p) (Lx.byt s (p + 1)) (Lx.byt s (p + 2)) (Lx.byt s (p + 3))
theorem dAt_eq (s : ByteArray) (p : Nat) : Utf8.decode s p = dAt s p := by rw [Lib.decode_at]; simp only [get_byt]; rfl
theorem unit_bad {s : ByteArray} {p : Nat} (hp : p < s.size) (h : dAt s p = (65533, 1)) : Lx.unit s true p = (-1, 1) := by
 unfold Lx.unit
 rw [if_pos hp, if_pos rfl]
 rw [if_neg]
 unfold okAt
 rw [dAt_eq, h]
 decide
theorem unit_ok {s : ByteArray} {p v k : Nat} (hp : p < s.size) (h : dAt s p = (v, k)) (hk : 1 < k) : Lx.unit s true p = ((v : Int), k) := by
 unfold Lx.unit
 rw [if_pos hp, if_pos rfl, if_pos, dAt_eq, h]
 unfold okAt
 rw [dAt_eq, h]
 simp
 omega
/-- a character's bytes -/
def encB (c : Nat) : List UInt8 :=
 if c < 128 then [UInt8.ofNat c] else if c < 2048 then [UInt8.ofNat (192 + c / 64), UInt8.ofNat (128 + c % 64)]
 else if c < 65536 then [UInt8.ofNat (224 + c / 4096), UInt8.ofNat (128 + c / 64 % 64), UInt8.ofNat (128 + c % 64)]
 else [UInt8.ofNat (240 + c / 262144), UInt8.ofNat (128 + c / 4096 % 64), UInt8.ofNat (128 + c / 64 % 64), UInt8.ofNat (128 + c % 64)]
theorem byt_lt (s : ByteArray) (p : Nat) : Lx.byt s p < 256 := by unfold Lx.byt; exact UInt8.toNat_lt _
theorem ofNat_byt (s : ByteArray) (p : Nat) : UInt8.ofNat (Lx.byt s p) = s.data.toList.getD p 0 := by unfold Lx.byt; simp
def piece (s : ByteArray) (p n : Nat) : List UInt8 := (List.range n).map fun i => s.data.toList.getD (p + i) 0
theorem encB2 (s : ByteArray) (p : Nat) (h0 : 192 ≤ Lx.byt s p ∧ Lx.byt s p < 224) (h1 : 128 ≤ Lx.byt s (p + 1) ∧ Lx.byt s (p + 1) ≤ 191) : encB (v2 (Lx.byt s p) (Lx.byt s (p + 1))) = [s.data.toList.getD p 0, s.data.toList.getD (p + 1) 0] ↔ 128 ≤ v2 (Lx.byt s p) (Lx.byt s (p + 1)) := by
 have a := byt_lt s p
 have b := byt_lt s (p + 1)
 rw [← ofNat_byt, ← ofNat_byt]
 unfold encB
 generalize Lx.byt s p = x at *
 generalize Lx.byt s (p + 1) = y at *
 unfold v2
 split
 ·simp; omega
 ·rw [if_pos (by omega), show 192 + (64 * (x - 192) + (y - 128)) / 64 = x by omega, show 128 + (64 * (x - 192) + (y - 128)) % 64 = y by omega]
  simp; omega
theorem encB3 (s : ByteArray) (p : Nat) (h0 : 224 ≤ Lx.byt s p ∧ Lx.byt s p < 240) (h1 : 128 ≤ Lx.byt s (p + 1) ∧ Lx.byt s (p + 1) ≤ 191) (h2 : 128 ≤ Lx.byt s (p + 2) ∧ Lx.byt s (p + 2) ≤ 191) : encB (v3 (Lx.byt s p) (Lx.byt s (p + 1)) (Lx.byt s (p + 2))) = [s.data.toList.getD p 0, s.data.toList.getD (p + 1) 0, s.data.toList.getD (p + 2) 0] ↔ 2048 ≤ v3 (Lx.byt s p) (Lx.byt s (p + 1)) (Lx.byt s (p + 2)) := by
 rw [← ofNat_byt, ← ofNat_byt, ← ofNat_byt]
 unfold encB
 generalize Lx.byt s p = x at *
 generalize Lx.byt s (p + 1) = y at *
 generalize Lx.byt s (p + 2) = z at *
 unfold v3
 split
 ·simp; omega
 split
 ·simp; omega
 ·rw [if_pos (by omega), show 224 + (64 * (64 * (x - 224) + (y - 128)) + (z - 128)) / 4096 = x by omega, show 128 + (64 * (64 * (x - 224) + (y - 128)) + (z - 128)) / 64 % 64 = y by omega, show 128 + (64 * (64 * (x - 224) + (y - 128)) + (z - 128)) % 64 = z by omega]
  simp; omega
theorem encB4 (s : ByteArray) (p : Nat) (h0 : 240 ≤ Lx.byt s p ∧ Lx.byt s p < 248) (h1 : 128 ≤ Lx.byt s (p + 1) ∧ Lx.byt s (p + 1) ≤ 191) (h2 : 128 ≤ Lx.byt s (p + 2) ∧ Lx.byt s (p + 2) ≤ 191) (h3 : 128 ≤ Lx.byt s (p + 3) ∧ Lx.byt s (p + 3) ≤ 191) : encB (v4 (Lx.byt s p) (Lx.byt s (p + 1)) (Lx.byt s (p + 2)) (Lx.byt s (p + 3))) = [s.data.toList.getD p 0, s.data.toList.getD (p + 1) 0, s.data.toList.getD (p + 2) 0, s.data.toList.getD (p + 3) 0] ↔ 65536 ≤ v4 (Lx.byt s p) (Lx.byt s (p + 1)) (Lx.byt s (p + 2)) (Lx.byt s (p + 3)) := by
 rw [← ofNat_byt, ← ofNat_byt, ← ofNat_byt, ← ofNat_byt]
 unfold encB
 generalize Lx.byt s p = x at *
 generalize Lx.byt s (p + 1) = y at *
 generalize Lx.byt s (p + 2) = z at *
 generalize Lx.byt s (p + 3) = t at *
 unfold v4
 split
 ·simp; omega
 split
 ·simp; omega
 split
 ·simp; omega
 ·rw [show 240 + (64 * (64 * (64 * (x - 240) + (y - 128)) + (z - 128)) + (t - 128)) / 262144 = x by omega, show 128 + (64 * (64 * (64 * (x - 240) + (y - 128)) + (z - 128)) + (t - 128)) / 4096 % 64 = y by omega, show 128 + (64 * (64 * (64 * (x - 240) + (y - 128)) + (z - 128)) + (t - 128)) / 64 % 64 = z by omega, show 128 + (64 * (64 * (64 * (x - 240) + (y - 128)) + (z - 128)) + (t - 128)) % 64 = t by omega]
  simp; omega
end Go.Proofs.YtamhkdlcoghdbaaDoor.PCls
