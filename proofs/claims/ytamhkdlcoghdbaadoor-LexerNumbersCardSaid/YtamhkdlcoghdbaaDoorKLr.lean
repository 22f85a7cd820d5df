/- The lexer in plain Lean: a text a\{..,..\}. -/
import Derived.Test.YtamhkdlcoghdbaaDoorKLq
namespace Go.Proofs.YtamhkdlcoghdbaaDoor.PCls
set_option linter.unusedVariables false
set_option linter.unusedSimpArgs false

theorem here_drop {s : ByteArray} {p : Nat} {l t : List UInt8} (h : s.data.toList.drop p = l) (hp : p ≤ s.size) : Lx.here s p t = Lib.hasPrefix l t := by
 unfold Lx.here
 rw [h, decide_eq_true hp, Bool.true_and]
theorem drop_more {s : ByteArray} {p : Nat} {a l : List UInt8} (h : s.data.toList.drop p = a ++ l) (hp : p ≤ s.size) : s.data.toList.drop (p + a.length) = l ∧ p + a.length + l.length = s.size := by
 have h0 : s.data.toList.length = s.size := by simp
 have hl := congrArg List.length h
 rw [List.length_drop, h0, List.length_append] at hl
 refine ⟨?_, by omega⟩
 rw [← List.drop_drop, h, List.drop_left]
/-- what is said of an interval -/
theorem interval_law (s : ByteArray) (x0 p z : Nat) (m n : Int) (h0 : -9223372036854775808 ≤ m ∧ m ≤ 9223372036854775807) (h1 : -9223372036854775808 ≤ n ∧ n ≤ 9223372036854775807) (hp : p ≤ s.size)
  (h : s.data.toList.drop p = List.replicate z 48 ++ (digB m).data.toList ++ [44] ++ (digB n).data.toList ++ [92, 125]) :
  Lx.interval s x0 p = if m < 0 ∨ n < 0 then .error (36, (x0 : Int)) else if 255 < m ∨ 255 < n ∨ n < m then .error (37, (x0 : Int)) else .ok (m, n, s.size) := by
 have hz48 : ∀ b ∈ List.replicate z (48 : UInt8), digit b := fun b hb => by
  rw [(List.mem_replicate.1 hb).2]; exact ⟨by decide, by decide⟩
 have hlen := congrArg List.length h
 have hs0 : s.data.toList.length = s.size := by simp
 rw [List.length_drop, hs0] at hlen
 simp only [List.length_append, List.length_replicate, List.length_cons, List.length_nil] at hlen
 by_cases hm : m < 0
 ·have hM : (digB m).data.toList = 45 :: (dig 20 (-(m + 1)).toNat).data.toList := by
   unfold digB
   rw [if_pos hm, ByteArray.data_append, Array.toList_append]
   rfl
  rw [hM] at h hlen
  have h' : s.data.toList.drop p = List.replicate z 48 ++ (45 :: ((dig 20 (-(m + 1)).toNat).data.toList ++ [44] ++ (digB n).data.toList ++ [92, 125])) := by rw [h]; simp
  have ha := number_run (List.replicate z 48) _ (s.size + 1) p (-1) h' hz48 (fun b l e => by cases e; exact fun hd => by have := hd.1; revert this; decide) (by simp at hlen ⊢; omega)
  obtain ⟨hd, hsz⟩ := drop_more h' hp
  rw [List.length_replicate] at ha hd hsz
  have hv := zeros_value z (-1) (by decide)
  rw [if_pos (.inl hm)]
  rw [interval_eq (q := x0) (a1 := (List.replicate z (48 : UInt8)).foldl numStep (-1)) (a2 := p + z) (b1 := (List.replicate z (48 : UInt8)).foldl numStep (-1)) (b2 := p + z) ha.symm (by
   rw [if_neg (by rintro ⟨_, h2⟩; rw [here_drop hd (by omega)] at h2; simp [Lib.hasPrefix] at h2)])]
  rw [if_pos (.inr (by rw [here_drop hd (by omega)]; rfl))]
 ·obtain ⟨mN, rfl⟩ : ∃ k : Nat, m = k := ⟨m.toNat, by omega⟩
  have hM : (digB (mN : Int)) = dig 20 mN := by unfold digB; rw [if_neg hm, Int.toNat_natCast]
  rw [hM] at h hlen
  have h' : s.data.toList.drop p = (List.replicate z 48 ++ (dig 20 mN).data.toList) ++ (44 :: ((digB n).data.toList ++ [92, 125])) := by rw [h]; simp
  have ha := number_run (List.replicate z 48 ++ (dig 20 mN).data.toList) _ (s.size + 1) p (-1) h' (fun b hb => by
   rcases List.mem_append.1 hb with hb | hb
   ·exact hz48 b hb
   ·exact dig_digits 20 mN b hb) (fun b l e => by cases e; exact fun hd => by have := hd.1; revert this; decide) (by simp at hlen ⊢; omega)
  rw [List.foldl_append, dig_value 20 mN _ (by decide) (lt20 mN (by omega)) (zeros_value z (-1) (by decide))] at ha
  obtain ⟨hd, hsz⟩ := drop_more h' hp
  generalize p + (List.replicate z (48 : UInt8) ++ (dig 20 mN).data.toList).length = a2 at ha hd hsz
  simp only [List.length_cons, List.length_append, List.length_nil] at hsz
  have hcomma : Lx.here s a2 [44] = true := by rw [here_drop hd (by omega)]; rfl
  have hd1 : s.data.toList.drop (a2 + 1) = (digB n).data.toList ++ [92, 125] := by
   have := congrArg (List.drop 1) hd
   rwa [List.drop_drop] at this
  by_cases hn : n < 0
  ·have hN : (digB n).data.toList = 45 :: (dig 20 (-(n + 1)).toNat).data.toList := by
    unfold digB
    rw [if_pos hn, ByteArray.data_append, Array.toList_append]
    rfl
   rw [hN] at hd1 hsz
   have hb := number_run (s := s) [] _ (s.size + 1) (a2 + 1) (-1) hd1 (fun b hb => by cases hb) (fun b l e => by cases e; exact fun hd => by have := hd.1; revert this; decide) (by simp)
   rw [if_pos (.inr hn)]
   rw [interval_eq (q := x0) (a1 := min (mN : Int) 256) (a2 := a2) (b1 := -1) (b2 := a2 + 1) ha.symm (by rw [if_pos ⟨by omega, hcomma⟩]; exact hb)]
   rw [if_pos (.inr (by rw [here_drop hd1 (by simp at hsz; omega)]; rfl))]
  ·obtain ⟨nN, rfl⟩ : ∃ k : Nat, n = k := ⟨n.toNat, by omega⟩
   have hN : (digB (nN : Int)) = dig 20 nN := by unfold digB; rw [if_neg hn, Int.toNat_natCast]
   rw [hN] at hd1 hsz
   have hb := number_run (dig 20 nN).data.toList _ (s.size + 1) (a2 + 1) (-1) hd1 (fun b hb => dig_digits 20 nN b hb) (fun b l e => by cases e; exact fun hd => by have := hd.2; revert this; decide) (by omega)
   rw [dig_value 20 nN _ (by decide) (lt20 nN (by omega)) (by decide)] at hb
   obtain ⟨hd2, hsz2⟩ := drop_more hd1 (by omega)
   generalize a2 + 1 + (dig 20 nN).data.toList.length = b2 at hb hd2 hsz2
   simp only [List.length_cons, List.length_nil] at hsz2
   have hend : Lx.here s b2 [92, 125] = true := by rw [here_drop hd2 (by omega)]; rfl
   rw [interval_eq (q := x0) (a1 := min (mN : Int) 256) (a2 := a2) (b1 := min (nN : Int) 256) (b2 := b2) ha.symm (by rw [if_pos ⟨by omega, hcomma⟩]; exact hb)]
   have q1 : ¬ (min (mN : Int) 256 < 0 ∨ Lx.here s b2 [92, 125] = false) := fun h => by
    rcases h with h | h
    ·omega
    ·rw [hend] at h; cases h
   have q2 : ¬ ((mN : Int) < 0 ∨ (nN : Int) < 0) := by omega
   rw [if_neg q1, if_neg q2]
   by_cases hc : 255 < (mN : Int) ∨ 255 < (nN : Int) ∨ (nN : Int) < (mN : Int)
   ·rw [if_pos hc, if_pos (by omega)]
   ·rw [if_neg hc, if_neg (by omega)]
    have e1 : min (mN : Int) 256 = mN := by omega
    have e2 : min (nN : Int) 256 = nN := by omega
    rw [e1, e2, hsz2]
theorem lex_numbers (s : ByteArray) (z : Nat) (m n : Int) (h0 : -9223372036854775808 ≤ m ∧ m ≤ 9223372036854775807) (h1 : -9223372036854775808 ≤ n ∧ n ≤ 9223372036854775807) (hs : s.size ≤ 2000)
  (h : s.data.toList = 97 :: 92 :: 123 :: (List.replicate z 48 ++ (digB m).data.toList ++ [44] ++ (digB n).data.toList ++ [92, 125])) :
  Lx.lex clC s false false = if m < 0 ∨ n < 0 then .error (36, 1) else if 255 < m ∨ 255 < n ∨ n < m then .error (37, 1) else .ok [⟨1, 0, 1, 0, 0, 0, [⟨97, 97⟩]⟩, ⟨2, 1, s.size, 0, m, n, []⟩] := by
 have hs0 : s.data.toList.length = s.size := by simp
 have hl := congrArg List.length h
 rw [hs0] at hl
 simp only [List.length_cons] at hl
 rw [show Lx.lex clC s false false = Lx.run clC s false false (s.size + 1) ⟨0, []⟩ by unfold Lx.lex; rw [if_neg (by omega)]]
 obtain ⟨k, hk⟩ : ∃ k, s.size = k + 1 := ⟨s.size - 1, by omega⟩
 generalize hL : List.replicate z 48 ++ (digB m).data.toList ++ [44] ++ (digB n).data.toList ++ [92, 125] = L at h hl
 obtain ⟨n1, d1, z1⟩ := next_plain (s := s) (chars := false) (fold := false) (x := ⟨0, []⟩) (b := 97) (l := 92 :: 123 :: L) (by rw [List.drop_zero, h]; rfl) (by decide)
 rw [run_step z1, n1]
 simp only
 have d1' : s.data.toList.drop 1 = 92 :: 123 :: L := d1
 obtain ⟨e1, e2, d2⟩ := byt_drop d1'
 obtain ⟨e3, e4, d3⟩ := byt_drop d2
 generalize hx : Lx.char clC false ⟨0, []⟩ ((97 : UInt8).toNat : Int) (0 + (sp1 97).length) = x1
 have hx1 : x1 = ⟨1, [⟨1, 0, 1, 0, 0, 0, [⟨97, 97⟩]⟩]⟩ := by rw [← hx]; rfl
 subst hx1
 rw [hk]
 have hu := unit_ascii s false 1 e1 (by rw [e2]; decide)
 have hn2 : Lx.next clC s false false ⟨1, [⟨1, 0, 1, 0, 0, 0, [⟨97, 97⟩]⟩]⟩ = match Lx.interval s 1 3 with
   | .error e => .error e
   | .ok (a, b, e2) => .ok (Lx.put ⟨1, [⟨1, 0, 1, 0, 0, 0, [⟨97, 97⟩]⟩]⟩ { Lx.tok 2 with lo := a, hi := b } e2) := by
  rw [next_eq, hu, e2, if_neg (by decide), if_pos (by decide)]
  unfold Lx.escape
  rw [if_neg (by simp only; omega)]
  simp only [e4]
  rw [if_neg (by decide), if_neg (by decide), if_neg (by decide), if_neg (by decide), if_neg (by decide), if_pos (by decide)]
  unfold Lx.often
  rw [if_neg (by decide), if_neg (by decide), if_neg (by decide)]
  rfl
 rw [run_step e1, hn2, interval_law s 1 3 z m n h0 h1 (by omega) (by rw [hL]; exact d3)]
 by_cases c1 : m < 0 ∨ n < 0
 ·rw [if_pos c1, if_pos c1]; rfl
 ·rw [if_neg c1, if_neg c1]
  by_cases c2 : 255 < m ∨ 255 < n ∨ n < m
  ·rw [if_pos c2, if_pos c2]; rfl
  ·rw [if_neg c2, if_neg c2]
   simp only
   rw [run_stop (by simp [Lx.put])]
   rw [← hk]
   rfl
end Go.Proofs.YtamhkdlcoghdbaaDoor.PCls
