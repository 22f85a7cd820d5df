/- Out of Lh (wip/tools/prune2.py): the declarations alone that the texts of the trees name. -/
import Derived.Test.YtamhkdlcoghdbaaGreatDoorVMQTDepth
namespace Go.Proofs.YtamhkdlcoghdbaaGreatDoor.PCls
set_option linter.unusedVariables false
set_option linter.unusedSimpArgs false
/-- a text within a group -/
def Grp (s z : ByteArray) : Prop := z.data.toList = 92 :: 40 :: (s.data.toList ++ [92, 41])
theorem Grp.size {s z : ByteArray} (h : Grp s z) : z.size = s.size + 4 := by
 have h1 := congrArg List.length h
 rw [len_size] at h1
 simp only [List.length_cons, List.length_append, List.length_nil, len_size] at h1
 omega
theorem Grp.drop {s z : ByteArray} (h : Grp s z) (p : Nat) (hp : p ≤ s.size) : z.data.toList.drop (p + 2) = s.data.toList.drop p ++ [92, 41] := by
 rw [h]
 simp only [List.drop_succ_cons]
 rw [List.drop_append_of_le_length (by rw [len_size]; exact hp)]
theorem Grp.byt {s z : ByteArray} (h : Grp s z) (p : Nat) (hp : p < s.size) : Lx.byt z (p + 2) = Lx.byt s p := by
 have h1 : z.data.toList[p + 2]? = s.data.toList[p]? := by
  rw [h]
  simp only [List.getElem?_cons_succ]
  rw [List.getElem?_append_left (by rw [len_size]; exact hp)]
 unfold Lx.byt
 rw [List.getD_eq_getElem?_getD, List.getD_eq_getElem?_getD, h1]
theorem Grp.here1 {s z : ByteArray} (h : Grp s z) (p : Nat) (hp : p ≤ s.size) (a : UInt8) (ha : a ≠ 92) : Lx.here z (p + 2) [a] = Lx.here s p [a] := by
 unfold Lx.here
 rw [h.drop p hp, decide_eq_true hp, decide_eq_true (by rw [h.size]; omega : p + 2 ≤ z.size)]
 cases s.data.toList.drop p with
 | nil => simp [Lib.hasPrefix, List.isPrefixOf, ha]
 | cons x l => simp [Lib.hasPrefix, List.isPrefixOf]
theorem Grp.here2 {s z : ByteArray} (h : Grp s z) (p : Nat) (hp : p ≤ s.size) (a b : UInt8) (hb : b ≠ 92) (hab : b ≠ 41) : Lx.here z (p + 2) [a, b] = Lx.here s p [a, b] := by
 unfold Lx.here
 rw [h.drop p hp, decide_eq_true hp, decide_eq_true (by rw [h.size]; omega : p + 2 ≤ z.size)]
 cases s.data.toList.drop p with
 | nil => simp [Lib.hasPrefix, List.isPrefixOf, hab]
 | cons x l => cases l with
  | nil => simp [Lib.hasPrefix, List.isPrefixOf, hb]
  | cons y l => simp [Lib.hasPrefix, List.isPrefixOf]
theorem Grp.hereC {s z : ByteArray} (h : Grp s z) (p : Nat) (hp : p ≤ s.size) : Lx.here z (p + 2) [92, 41] = true ↔ (p = s.size ∨ Lx.here s p [92, 41] = true) := by
 have hl : (s.data.toList.drop p).length = s.size - p := by rw [List.length_drop, len_size]
 unfold Lx.here
 rw [h.drop p hp, decide_eq_true hp, decide_eq_true (by rw [h.size]; omega : p + 2 ≤ z.size)]
 revert hl
 cases s.data.toList.drop p with
 | nil => intro hl; simp at hl; simp [Lib.hasPrefix, List.isPrefixOf]; omega
 | cons x l => cases l with
  | nil => intro hl; simp at hl; simp [Lib.hasPrefix, List.isPrefixOf]; omega
  | cons y l => intro hl; simp at hl; simp [Lib.hasPrefix, List.isPrefixOf]; omega
theorem decodeN_pad (n b0 b1 b2 b3 c1 c2 c3 : Nat) (h1 : 1 < n → c1 = b1) (g1 : n ≤ 1 → c1 / 64 ≠ 2) (h2 : 2 < n → c2 = b2) (g2 : n ≤ 2 → c2 / 64 ≠ 2) (h3 : 3 < n → c3 = b3) (g3 : n ≤ 3 → c3 / 64 ≠ 2) :
  Lib.decodeN (n + 2) b0 c1 c2 c3 = Lib.decodeN n b0 b1 b2 b3 := by
 rcases Nat.lt_or_ge 1 n with a1 | a1
 ·rw [h1 a1]
  rcases Nat.lt_or_ge 2 n with a2 | a2
  ·rw [h2 a2]
   rcases Nat.lt_or_ge 3 n with a3 | a3
   ·rw [h3 a3]
    simp only [Lib.decodeN, show (1 < n + 2) = True from eq_true (by omega), show (2 < n + 2) = True from eq_true (by omega), show (3 < n + 2) = True from eq_true (by omega), eq_true a1, eq_true a2, eq_true a3]
   ·simp only [Lib.decodeN, show (1 < n + 2) = True from eq_true (by omega), show (2 < n + 2) = True from eq_true (by omega), eq_true a1, eq_true a2, eq_false (g3 a3), eq_false (show ¬ 3 < n by omega), and_false, false_and, if_false]
  ·simp only [Lib.decodeN, show (1 < n + 2) = True from eq_true (by omega), eq_true a1, eq_false (g2 a2), eq_false (show ¬ 2 < n by omega), and_false, false_and, if_false]
 ·simp only [Lib.decodeN, eq_false (g1 a1), eq_false (show ¬ 1 < n by omega), and_false, false_and, if_false]
theorem Grp.tail {s z : ByteArray} (h : Grp s z) (i : Nat) (hi : s.size ≤ i) : Lx.byt z (i + 2) / 64 ≠ 2 := by
 have h1 : z.data.toList[i + 2]? = [92, 41][i - s.size]? := by
  rw [h]
  simp only [List.getElem?_cons_succ]
  rw [List.getElem?_append_right (by rw [len_size]; exact hi), len_size]
 unfold Lx.byt
 rw [List.getD_eq_getElem?_getD, h1]
 rcases Nat.lt_or_ge (i - s.size) 2 with a | a
 ·have : i - s.size = 0 ∨ i - s.size = 1 := by omega
  rcases this with e | e <;> rw [e] <;> decide
 ·rw [List.getElem?_eq_none (by simpa using a)]; decide
theorem Grp.decode {s z : ByteArray} (h : Grp s z) (p : Nat) (hp : p < s.size) : Utf8.decode z (p + 2) = Utf8.decode s p := by
 rw [Lib.decode_at, Lib.decode_at, h.size, show s.size + 4 - (p + 2) = (s.size - p) + 2 by omega]
 simp only [get_byt]
 rw [h.byt p hp, show p + 2 + 1 = (p + 1) + 2 by omega, show p + 2 + 2 = (p + 2) + 2 from rfl, show p + 2 + 3 = (p + 3) + 2 by omega]
 exact decodeN_pad _ _ _ _ _ _ _ _ (fun a => h.byt _ (by omega)) (fun a => h.tail _ (by omega)) (fun a => h.byt _ (by omega)) (fun a => h.tail _ (by omega)) (fun a => h.byt _ (by omega)) (fun a => h.tail _ (by omega))
theorem Grp.unit {s z : ByteArray} (h : Grp s z) (chars : Bool) (p : Nat) (hp : p < s.size) : Lx.unit z chars (p + 2) = Lx.unit s chars p := by
 have h2 : okAt z (p + 2) = okAt s p := by unfold okAt; rw [h.decode p hp]
 unfold Lx.unit
 rw [if_pos hp, if_pos (by rw [h.size]; omega), h2, h.decode p hp, h.byt p hp]
theorem index_room (a b : UInt8) : ∀ l : List UInt8, Lib.index l [a, b] + 2 ≤ (l.length : Int) ∨ Lib.index l [a, b] = -1
 | [] => .inr (by simp [Lib.index])
 | x :: l => by
  have ih := index_room a b l
  unfold Lib.index
  split
  ·rename_i h
   cases l with
   | nil => simp [List.isPrefixOf] at h
   | cons y l => left; simp only [List.length_cons]; omega
  ·split
   ·exact .inr rfl
   ·rename_i h1
    rcases ih with ih | ih
    ·left; simp only [List.length_cons]; omega
    ·rw [ih] at h1; exact absurd rfl h1
theorem Grp.extract {s z : ByteArray} (h : Grp s z) (p e : Nat) (hp : p ≤ e) (he : e ≤ s.size) : z.extract (p + 2) (e + 2) = s.extract p e := by
 apply ByteArray.ext
 apply Array.ext'
 simp only [ByteArray.data_extract, Array.toList_extract, List.extract_eq_take_drop]
 rw [h.drop p (by omega), show e + 2 - (p + 2) = e - p by omega, List.take_append_of_le_length (by rw [List.length_drop, len_size]; omega)]
section
variable {s z : ByteArray} (h : Grp s z)
theorem named_nx {chars : Bool} {x0 p : Nat} {sign : UInt8} {i : It} (hr : Lx.named clC s chars x0 p sign = .ok i) (hp : p + 2 ≤ s.size) : ∃ x : Nat, i.nx = x ∧ x ≤ s.size := by
 by_cases h58 : sign = 58
 ·subst h58
  rw [named58_eq clC s chars x0 p hp] at hr
  have h1 := index_room 58 93 (s.data.toList.drop (p + 2))
  rw [List.length_drop, len_size] at h1
  split at hr
  ·cases hr
  ·split at hr
   ·cases hr; exact ⟨_, rfl, by omega⟩
   ·cases hr
 ·rw [named_el_eq clC s chars x0 p sign h58] at hr
  have h1 := index_room sign 93 (s.data.toList.drop (p + 3))
  rw [List.length_drop, len_size] at h1
  split at hr
  ·cases hr
  rename_i hk
  have h3 : p + 3 ≤ s.size := by
   rcases Nat.lt_or_ge s.size (p + 3) with h | h
   ·exact absurd (show elk s p sign < 0 by unfold elk; rw [if_neg (by omega)]; decide) hk
   ·exact h
  have h4 : elk s p sign = Lib.index (s.data.toList.drop (p + 3)) [sign, 93] := by unfold elk; rw [if_pos h3]
  split at hr
  ·cases hr
  ·cases hr
   rename_i hu
   rw [h4] at hk
   exact ⟨_, rfl, by rw [h4]; omega⟩
omit h in
theorem item_nx {chars any : Bool} {x0 p : Nat} {i : It} (hr : Lx.item clC s chars x0 p any = .ok i) : ∃ x : Nat, i.nx = x ∧ x ≤ s.size := by
 rw [item_eq] at hr
 split at hr
 ·rename_i h1; exact named_nx hr (here_le h1)
 split at hr
 ·rename_i h1; exact named_nx hr (here_le h1)
 split at hr
 ·rename_i h1; exact named_nx hr (here_le h1)
 unfold itemC at hr
 by_cases hp : p < s.size
 ·have h3 := unit_lim s chars p hp
  split at hr
  ·cases hr
  split at hr
  ·cases hr
  split at hr
  ·split at hr <;> cases hr
  ·cases hr; exact ⟨_, rfl, by omega⟩
 ·rw [unit_none s chars p hp, if_pos rfl] at hr
  cases hr
omit h in
theorem span_nx {chars : Bool} {x0 p : Nat} {a i : It} (hr : Lx.span clC s chars x0 a p = .ok i) : ∃ x : Nat, i.nx = x ∧ x ≤ s.size := by
 rw [span_eq] at hr
 split at hr
 ·cases hr
 split at hr
 ·cases hr
 cases hi : Lx.item clC s chars x0 p true with
 | error y => rw [hi] at hr; cases hr
 | ok b =>
  rw [hi] at hr
  simp only at hr
  split at hr
  ·cases hr
  ·obtain ⟨x, h1, h2⟩ := item_nx hi
   cases hr; exact ⟨x, h1, h2⟩
omit h in
theorem part_nx {chars any : Bool} {x0 p : Nat} {i : It} (hr : Lx.part clC s chars x0 p any = .ok i) : ∃ x : Nat, i.nx = x ∧ x ≤ s.size := by
 rw [part_eq] at hr
 cases hi : Lx.item clC s chars x0 p any with
 | error y => rw [hi] at hr; cases hr
 | ok b =>
  rw [hi] at hr
  simp only at hr
  split at hr
  ·exact span_nx hr
  ·cases hr; exact item_nx hi
theorem number_hi (k p : Nat) (n : Int) (hp : p ≤ s.size) (hn : -1 ≤ n) (hn2 : n ≤ 256) : (Lx.number s k p n).2 ≤ s.size := by
 have h1 := (number_le s k p n hn hn2).2.1
 omega
end
end Go.Proofs.YtamhkdlcoghdbaaGreatDoor.PCls
