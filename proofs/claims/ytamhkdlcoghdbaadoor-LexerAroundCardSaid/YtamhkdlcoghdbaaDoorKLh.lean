/- The lexer in plain Lean: what stands within a group is read as it is alone. -/
import Derived.Test.YtamhkdlcoghdbaaDoorKMLd
namespace Go.Proofs.YtamhkdlcoghdbaaDoor.PCls
set_option linter.unusedVariables false
set_option linter.unusedSimpArgs false

/-- a text within a group -/
def Grp (s z : ByteArray) : Prop := z.data.toList = 92 :: 40 :: (s.data.toList ++ [92, 41])
theorem Grp.size {s z : ByteArray} (h : Grp s z) : z.size = s.size + 4 := by
 have h1 := congrArg List.length h
 rw [len_size] at h1
 simp only [List.length_cons, List.length_append, List.length_nil, len_size] at h1
 omega
theorem Grp.drop {s z : ByteArray} (h : Grp s z) (p : Nat) (hp : p ≤ s.size) : z.data.toList.drop (p + 2) = s.data.toList.drop p ++ [92, 41] := by
 rw [h]
 simp only [List.drop_succ_cons]
 rw [List.drop_append_of_le_length (by rw [len_size]; exact hp)]
theorem Grp.byt {s z : ByteArray} (h : Grp s z) (p : Nat) (hp : p < s.size) : Lx.byt z (p + 2) = Lx.byt s p := by
 have h1 : z.data.toList[p + 2]? = s.data.toList[p]? := by
  rw [h]
  simp only [List.getElem?_cons_succ]
  rw [List.getElem?_append_left (by rw [len_size]; exact hp)]
 unfold Lx.byt
 rw [List.getD_eq_getElem?_getD, List.getD_eq_getElem?_getD, h1]
theorem Grp.here1 {s z : ByteArray} (h : Grp s z) (p : Nat) (hp : p ≤ s.size) (a : UInt8) (ha : a ≠ 92) : Lx.here z (p + 2) [a] = Lx.here s p [a] := by
 unfold Lx.here
 rw [h.drop p hp, decide_eq_true hp, decide_eq_true (by rw [h.size]; omega : p + 2 ≤ z.size)]
 cases s.data.toList.drop p with
 | nil => simp [Lib.hasPrefix, List.isPrefixOf, ha]
 | cons x l => simp [Lib.hasPrefix, List.isPrefixOf]
theorem Grp.here2 {s z : ByteArray} (h : Grp s z) (p : Nat) (hp : p ≤ s.size) (a b : UInt8) (hb : b ≠ 92) (hab : b ≠ 41) : Lx.here z (p + 2) [a, b] = Lx.here s p [a, b] := by
 unfold Lx.here
 rw [h.drop p hp, decide_eq_true hp, decide_eq_true (by rw [h.size]; omega : p + 2 ≤ z.size)]
 cases s.data.toList.drop p with
 | nil => simp [Lib.hasPrefix, List.isPrefixOf, hab]
 | cons x l => cases l with
  | nil => simp [Lib.hasPrefix, List.isPrefixOf, hb]
  | cons y l => simp [Lib.hasPrefix, List.isPrefixOf]
theorem Grp.hereC {s z : ByteArray} (h : Grp s z) (p : Nat) (hp : p ≤ s.size) : Lx.here z (p + 2) [92, 41] = true ↔ (p = s.size ∨ Lx.here s p [92, 41] = true) := by
 have hl : (s.data.toList.drop p).length = s.size - p := by rw [List.length_drop, len_size]
 unfold Lx.here
 rw [h.drop p hp, decide_eq_true hp, decide_eq_true (by rw [h.size]; omega : p + 2 ≤ z.size)]
 revert hl
 cases s.data.toList.drop p with
 | nil => intro hl; simp at hl; simp [Lib.hasPrefix, List.isPrefixOf]; omega
 | cons x l => cases l with
  | nil => intro hl; simp at hl; simp [Lib.hasPrefix, List.isPrefixOf]; omega
  | cons y l => intro hl; simp at hl; simp [Lib.hasPrefix, List.isPrefixOf]; omega
theorem decodeN_pad (n b0 b1 b2 b3 c1 c2 c3 : Nat) (h1 : 1 < n → c1 = b1) (g1 : n ≤ 1 → c1 / 64 ≠ 2) (h2 : 2 < n → c2 = b2) (g2 : n ≤ 2 → c2 / 64 ≠ 2) (h3 : 3 < n → c3 = b3) (g3 : n ≤ 3 → c3 / 64 ≠ 2) :
  Lib.decodeN (n + 2) b0 c1 c2 c3 = Lib.decodeN n b0 b1 b2 b3 := by
 rcases Nat.lt_or_ge 1 n with a1 | a1
 ·rw [h1 a1]
  rcases Nat.lt_or_ge 2 n with a2 | a2
  ·rw [h2 a2]
   rcases Nat.lt_or_ge 3 n with a3 | a3
   ·rw [h3 a3]
    simp only [Lib.decodeN, show (1 < n + 2) = True from eq_true (by omega), show (2 < n + 2) = True from eq_true (by omega), show (3 < n + 2) = True from eq_true (by omega), eq_true a1, eq_true a2, eq_true a3]
   ·simp only [Lib.decodeN, show (1 < n + 2) = True from eq_true (by omega), show (2 < n + 2) = True from eq_true (by omega), eq_true a1, eq_true a2, eq_false (g3 a3), eq_false (show ¬ 3 < n by omega), and_false, false_and, if_false]
  ·simp only [Lib.decodeN, show (1 < n + 2) = True from eq_true (by omega), eq_true a1, eq_false (g2 a2), eq_false (show ¬ 2 < n by omega), and_false, false_and, if_false]
 ·simp only [Lib.decodeN, eq_false (g1 a1), eq_false (show ¬ 1 < n by omega), and_false, false_and, if_false]
theorem Grp.tail {s z : ByteArray} (h : Grp s z) (i : Nat) (hi : s.size ≤ i) : Lx.byt z (i + 2) / 64 ≠ 2 := by
 have h1 : z.data.toList[i + 2]? = [92, 41][i - s.size]? := by
  rw [h]
  simp only [List.getElem?_cons_succ]
  rw [List.getElem?_append_right (by rw [len_size]; exact hi), len_size]
 unfold Lx.byt
 rw [List.getD_eq_getElem?_getD, h1]
 rcases Nat.lt_or_ge (i - s.size) 2 with a | a
 ·have : i - s.size = 0 ∨ i - s.size = 1 := by omega
  rcases this with e | e <;> rw [e] <;> decide
 ·rw [List.getElem?_eq_none (by simpa using a)]; decide
theorem Grp.decode {s z : ByteArray} (h : Grp s z) (p : Nat) (hp : p < s.size) : Utf8.decode z (p + 2) = Utf8.decode s p := by
 rw [Lib.decode_at, Lib.decode_at, h.size, show s.size + 4 - (p + 2) = (s.size - p) + 2 by omega]
 simp only [get_byt]
 rw [h.byt p hp, show p + 2 + 1 = (p + 1) + 2 by omega, show p + 2 + 2 = (p + 2) + 2 from rfl, show p + 2 + 3 = (p + 3) + 2 by omega]
 exact decodeN_pad _ _ _ _ _ _ _ _ (fun a => h.byt _ (by omega)) (fun a => h.tail _ (by omega)) (fun a => h.byt _ (by omega)) (fun a => h.tail _ (by omega)) (fun a => h.byt _ (by omega)) (fun a => h.tail _ (by omega))
theorem Grp.unit {s z : ByteArray} (h : Grp s z) (chars : Bool) (p : Nat) (hp : p < s.size) : Lx.unit z chars (p + 2) = Lx.unit s chars p := by
 have h2 : okAt z (p + 2) = okAt s p := by unfold okAt; rw [h.decode p hp]
 unfold Lx.unit
 rw [if_pos hp, if_pos (by rw [h.size]; omega), h2, h.decode p hp, h.byt p hp]
theorem index_pad (a : UInt8) : ∀ l : List UInt8, Lib.index (l ++ [92, 41]) [a, 93] = Lib.index l [a, 93]
 | [] => by simp [Lib.index, List.isPrefixOf]
 | b :: l => by
  have ih := index_pad a l
  have hp : [a, 93].isPrefixOf (b :: (l ++ [92, 41])) = [a, 93].isPrefixOf (b :: l) := by
   cases l with
   | nil => simp [List.isPrefixOf]
   | cons c l => simp [List.isPrefixOf]
  rw [List.cons_append]
  unfold Lib.index
  rw [hp, ih]
theorem index_room (a b : UInt8) : ∀ l : List UInt8, Lib.index l [a, b] + 2 ≤ (l.length : Int) ∨ Lib.index l [a, b] = -1
 | [] => .inr (by simp [Lib.index])
 | x :: l => by
  have ih := index_room a b l
  unfold Lib.index
  split
  ·rename_i h
   cases l with
   | nil => simp [List.isPrefixOf] at h
   | cons y l => left; simp only [List.length_cons]; omega
  ·split
   ·exact .inr rfl
   ·rename_i h1
    rcases ih with ih | ih
    ·left; simp only [List.length_cons]; omega
    ·rw [ih] at h1; exact absurd rfl h1
theorem Grp.extract {s z : ByteArray} (h : Grp s z) (p e : Nat) (hp : p ≤ e) (he : e ≤ s.size) : z.extract (p + 2) (e + 2) = s.extract p e := by
 apply ByteArray.ext
 apply Array.ext'
 simp only [ByteArray.data_extract, Array.toList_extract, List.extract_eq_take_drop]
 rw [h.drop p (by omega), show e + 2 - (p + 2) = e - p by omega, List.take_append_of_le_length (by rw [List.length_drop, len_size]; omega)]
/-- a result, so many bytes further on -/
def Sh {α : Type} (P : α → α → Prop) (r r' : Except Er α) : Prop := match r with
 | .error e => e.1 = 31 ∨ e.1 = 33 ∨ e.1 = 36 ∨ r' = .error (e.1, e.2 + 2)
 | .ok a => ∃ b, r' = .ok b ∧ P a b
theorem Sh.err {α : Type} {P : α → α → Prop} (c p : Int) {q : Int} (hq : q = p + 2) : Sh P (.error (c, p)) (.error (c, q)) := by subst hq; exact .inr (.inr (.inr rfl))
def ItSh (i j : It) : Prop := j.isEnd = i.isEnd ∧ j.c = i.c ∧ j.l = i.l ∧ j.nx = i.nx + 2 ∧ (i.isEnd = true → j.sat = i.sat + 2)
section
variable {s z : ByteArray} (h : Grp s z)
include h
theorem named_sh (chars : Bool) (x0 p : Nat) (sign : UInt8) (hp : p + 2 ≤ s.size) : Sh ItSh (Lx.named clC s chars x0 p sign) (Lx.named clC z chars (x0 + 2) (p + 2) sign) := by
 have hz := h.size
 by_cases h58 : sign = 58
 ·subst h58
  have h1 := Lib.index_le (s.data.toList.drop (p + 2)) [58, 93]
  rw [List.length_drop, len_size] at h1
  rw [named58_eq clC s chars x0 p hp, named58_eq clC z chars (x0 + 2) (p + 2) (by omega), h.drop (p + 2) hp, index_pad]
  generalize Lib.index (s.data.toList.drop (p + 2)) [58, 93] = k at h1 ⊢
  by_cases hk : k < 0
  ·rw [if_pos hk]; exact .inr (.inl rfl)
  ·rw [if_neg hk, if_neg hk, show p + 2 + 2 + k.toNat = (p + 2 + k.toNat) + 2 by omega, h.extract (p + 2) (p + 2 + k.toNat) (by omega) (by omega)]
   by_cases hn : (clC.named (s.extract (p + 2) (p + 2 + k.toNat))).2 = true
   ·rw [if_pos hn, if_pos hn]; exact ⟨_, rfl, rfl, rfl, rfl, by simp only; omega, fun h => by cases h⟩
   ·rw [if_neg hn, if_neg hn]; exact Sh.err _ _ (by omega)
 ·rw [named_el_eq clC s chars x0 p sign h58, named_el_eq clC z chars (x0 + 2) (p + 2) sign h58]
  by_cases hp3 : p + 3 ≤ s.size
  ·have he : elk z (p + 2) sign = elk s p sign := by
    unfold elk
    rw [if_pos hp3, if_pos (by omega), show p + 2 + 3 = (p + 3) + 2 by omega, h.drop (p + 3) hp3, index_pad]
   rw [he, h.unit chars (p + 2) (by omega)]
   generalize elk s p sign = k
   by_cases hk : k < 0
   ·rw [if_pos hk]; exact .inr (.inl rfl)
   ·rw [if_neg hk, if_neg hk]
    by_cases hu : (Lx.unit s chars (p + 2)).1 < 0 ∨ (Lx.unit s chars (p + 2)).2 ≠ 1 + k.toNat
    ·rw [if_pos hu, if_pos hu]; exact Sh.err _ _ (by omega)
    ·rw [if_neg hu, if_neg hu]; exact ⟨_, rfl, rfl, rfl, rfl, by simp only; omega, fun _ => by simp only; omega⟩
  ·rw [if_pos (show elk s p sign < 0 by unfold elk; rw [if_neg hp3]; decide)]
   exact .inr (.inl rfl)
theorem item_sh (chars : Bool) (x0 p : Nat) (any : Bool) (hp : p ≤ s.size) : Sh ItSh (Lx.item clC s chars x0 p any) (Lx.item clC z chars (x0 + 2) (p + 2) any) := by
 have hz := h.size
 rw [item_eq, item_eq, h.here2 p hp 91 58 (by decide) (by decide), h.here2 p hp 91 61 (by decide) (by decide), h.here2 p hp 91 46 (by decide) (by decide), h.here2 p hp 45 93 (by decide) (by decide)]
 by_cases h1 : Lx.here s p [91, 58] = true
 ·rw [if_pos h1, if_pos h1]; exact named_sh h chars x0 p 58 (here_le h1)
 rw [if_neg h1, if_neg h1]
 by_cases h2 : Lx.here s p [91, 61] = true
 ·rw [if_pos h2, if_pos h2]; exact named_sh h chars x0 p 61 (here_le h2)
 rw [if_neg h2, if_neg h2]
 by_cases h3 : Lx.here s p [91, 46] = true
 ·rw [if_pos h3, if_pos h3]; exact named_sh h chars x0 p 46 (here_le h3)
 rw [if_neg h3, if_neg h3]
 unfold itemC
 by_cases hlt : p < s.size
 ·have h4 := unit_lim s chars p hlt
  rw [h.unit chars p hlt]
  have hn0 : ¬ (Lx.unit s chars p).2 = 0 := by omega
  rw [if_neg hn0, if_neg hn0]
  by_cases h5 : (Lx.unit s chars p).1 < 0
  ·rw [if_pos h5, if_pos h5]; exact Sh.err _ _ (by omega)
  rw [if_neg h5, if_neg h5]
  by_cases h6 : (Lx.unit s chars p).1 = 45 ∧ any = false ∧ Lx.here s p [45, 93] = false
  ·rw [if_pos h6, if_pos h6]
   by_cases h7 : p + 1 = s.size
   ·rw [if_pos h7]; exact .inr (.inl rfl)
   ·rw [if_neg h7, if_neg (by omega)]; exact Sh.err _ _ (by omega)
  ·rw [if_neg h6, if_neg h6]; exact ⟨_, rfl, rfl, rfl, rfl, by simp only; omega, fun _ => by simp only; omega⟩
 ·rw [unit_none s chars p hlt, if_pos rfl]; exact .inr (.inl rfl)
theorem span_sh (chars : Bool) (x0 p : Nat) (a b : It) (hab : ItSh a b) (ha : a.isEnd = true) (hp : p ≤ s.size) : Sh ItSh (Lx.span clC s chars x0 a p) (Lx.span clC z chars (x0 + 2) b (p + 2)) := by
 obtain ⟨e1, e2, e3, e4, e5⟩ := hab
 rw [span_eq, span_eq, h.here2 p hp 91 58 (by decide) (by decide), h.here2 p hp 91 61 (by decide) (by decide), e2, e5 ha]
 by_cases h1 : Lx.here s p [91, 58] = true
 ·rw [if_pos h1, if_pos h1]; exact Sh.err _ _ rfl
 rw [if_neg h1, if_neg h1]
 by_cases h2 : Lx.here s p [91, 61] = true
 ·rw [if_pos h2, if_pos h2]; exact Sh.err _ _ rfl
 rw [if_neg h2, if_neg h2]
 have hi := item_sh h chars x0 p true hp
 cases hr : Lx.item clC s chars x0 p true with
 | error e =>
  rw [hr] at hi
  rcases hi with hi | hi | hi | hi
  ·exact .inl hi
  ·exact .inr (.inl hi)
  ·exact .inr (.inr (.inl hi))
  ·rw [hi]; exact .inr (.inr (.inr rfl))
 | ok i =>
  rw [hr] at hi
  obtain ⟨j, hj, f1, f2, f3, f4, f5⟩ := hi
  rw [hj]
  simp only
  rw [f2]
  by_cases h3 : i.c < a.c
  ·rw [if_pos h3, if_pos h3]; exact Sh.err _ _ rfl
  ·rw [if_neg h3, if_neg h3]; exact ⟨_, rfl, f1, rfl, rfl, f4, f5⟩
omit h in
theorem named_nx {chars : Bool} {x0 p : Nat} {sign : UInt8} {i : It} (hr : Lx.named clC s chars x0 p sign = .ok i) (hp : p + 2 ≤ s.size) : ∃ x : Nat, i.nx = x ∧ x ≤ s.size := by
 by_cases h58 : sign = 58
 ·subst h58
  rw [named58_eq clC s chars x0 p hp] at hr
  have h1 := index_room 58 93 (s.data.toList.drop (p + 2))
  rw [List.length_drop, len_size] at h1
  split at hr
  ·cases hr
  ·split at hr
   ·cases hr; exact ⟨_, rfl, by omega⟩
   ·cases hr
 ·rw [named_el_eq clC s chars x0 p sign h58] at hr
  have h1 := index_room sign 93 (s.data.toList.drop (p + 3))
  rw [List.length_drop, len_size] at h1
  split at hr
  ·cases hr
  rename_i hk
  have h3 : p + 3 ≤ s.size := by
   rcases Nat.lt_or_ge s.size (p + 3) with h | h
   ·exact absurd (show elk s p sign < 0 by unfold elk; rw [if_neg (by omega)]; decide) hk
   ·exact h
  have h4 : elk s p sign = Lib.index (s.data.toList.drop (p + 3)) [sign, 93] := by unfold elk; rw [if_pos h3]
  split at hr
  ·cases hr
  ·cases hr
   rename_i hu
   rw [h4] at hk
   exact ⟨_, rfl, by rw [h4]; omega⟩
omit h in
theorem item_nx {chars any : Bool} {x0 p : Nat} {i : It} (hr : Lx.item clC s chars x0 p any = .ok i) : ∃ x : Nat, i.nx = x ∧ x ≤ s.size := by
 rw [item_eq] at hr
 split at hr
 ·rename_i h1; exact named_nx hr (here_le h1)
 split at hr
 ·rename_i h1; exact named_nx hr (here_le h1)
 split at hr
 ·rename_i h1; exact named_nx hr (here_le h1)
 unfold itemC at hr
 by_cases hp : p < s.size
 ·have h3 := unit_lim s chars p hp
  split at hr
  ·cases hr
  split at hr
  ·cases hr
  split at hr
  ·split at hr <;> cases hr
  ·cases hr; exact ⟨_, rfl, by omega⟩
 ·rw [unit_none s chars p hp, if_pos rfl] at hr
  cases hr
omit h in
theorem span_nx {chars : Bool} {x0 p : Nat} {a i : It} (hr : Lx.span clC s chars x0 a p = .ok i) : ∃ x : Nat, i.nx = x ∧ x ≤ s.size := by
 rw [span_eq] at hr
 split at hr
 ·cases hr
 split at hr
 ·cases hr
 cases hi : Lx.item clC s chars x0 p true with
 | error y => rw [hi] at hr; cases hr
 | ok b =>
  rw [hi] at hr
  simp only at hr
  split at hr
  ·cases hr
  ·obtain ⟨x, h1, h2⟩ := item_nx hi
   cases hr; exact ⟨x, h1, h2⟩
omit h in
theorem part_nx {chars any : Bool} {x0 p : Nat} {i : It} (hr : Lx.part clC s chars x0 p any = .ok i) : ∃ x : Nat, i.nx = x ∧ x ≤ s.size := by
 rw [part_eq] at hr
 cases hi : Lx.item clC s chars x0 p any with
 | error y => rw [hi] at hr; cases hr
 | ok b =>
  rw [hi] at hr
  simp only at hr
  split at hr
  ·exact span_nx hr
  ·cases hr; exact item_nx hi
theorem part_sh (chars : Bool) (x0 p : Nat) (any : Bool) (hp : p ≤ s.size) : Sh ItSh (Lx.part clC s chars x0 p any) (Lx.part clC z chars (x0 + 2) (p + 2) any) := by
 rw [part_eq, part_eq]
 have hi := item_sh h chars x0 p any hp
 cases hr : Lx.item clC s chars x0 p any with
 | error e =>
  rw [hr] at hi
  rcases hi with hi | hi | hi | hi
  ·exact .inl hi
  ·exact .inr (.inl hi)
  ·exact .inr (.inr (.inl hi))
  ·rw [hi]; exact .inr (.inr (.inr rfl))
 | ok i =>
  rw [hr] at hi
  obtain ⟨j, hj, hij⟩ := hi
  obtain ⟨x, hx, hxs⟩ := item_nx hr
  rw [hj]
  simp only
  have hjx : j.nx.toNat = x + 2 := by rw [hij.2.2.2.1, hx]; omega
  rw [hij.1, hjx, show i.nx.toNat = x by rw [hx]; omega, h.here1 x hxs 45 (by decide), h.here2 x hxs 45 93 (by decide) (by decide)]
  by_cases hc : i.isEnd = true ∧ Lx.here s x [45] = true ∧ Lx.here s x [45, 93] = false
  ·rw [if_pos hc, if_pos hc]
   have := here_le hc.2.1
   exact span_sh h chars x0 (x + 1) i j hij hc.1 (by simpa using this)
  ·rw [if_neg hc, if_neg hc]; exact ⟨j, rfl, hij⟩
theorem parts_sh (chars : Bool) (x0 : Nat) : ∀ (k d p : Nat) (b : Bool) (l : List S64), s.size + 3 ≤ p + k → p ≤ s.size → Sh (fun a c => c = (a.1, a.2 + 2) ∧ a.2 ≤ s.size) (Lx.parts clC s chars x0 k p b l) (Lx.parts clC z chars (x0 + 2) (k + d) (p + 2) b l)
 | 0, d, p, b, l, hk, hp => by omega
 | k + 1, d, p, b, l, hk, hp => by
  rw [show k + 1 + d = (k + d) + 1 by omega, parts_eq, parts_eq, h.here1 p hp 93 (by decide)]
  by_cases hc : b = false ∧ Lx.here s p [93] = true
  ·rw [if_pos hc, if_pos hc]; exact ⟨_, rfl, rfl, hp⟩
  rw [if_neg hc, if_neg hc]
  have hi := part_sh h chars x0 p b hp
  cases hr : Lx.part clC s chars x0 p b with
  | error e =>
   rw [hr] at hi
   rcases hi with hi | hi | hi | hi
   ·exact .inl hi
   ·exact .inr (.inl hi)
   ·exact .inr (.inr (.inl hi))
   ·rw [hi]; exact .inr (.inr (.inr rfl))
  | ok i =>
   rw [hr] at hi
   obtain ⟨j, hj, f1, f2, f3, f4, f5⟩ := hi
   obtain ⟨x, hx, hxs⟩ := part_nx hr
   obtain ⟨y, hy, hpy, _⟩ := part_ok hr
   have hxy : x = y := by rw [hx] at hy; exact Int.ofNat.inj hy
   rw [hj]
   simp only
   rw [f3, show j.nx.toNat = x + 2 by rw [f4, hx]; omega, show i.nx.toNat = x by rw [hx]; omega]
   exact parts_sh chars x0 k d x false _ (by omega) hxs
/-- a state of the scanner, two bytes further on, behind the group's token -/
def tokSh (t : Tok) : Tok := { t with sat := t.sat + 2, fin := t.fin + 2 }
def openT : Tok := { Lx.tok 3 with sat := 0, fin := 2 }
def stSh (x : Lx.St) : Lx.St := ⟨x.sat + 2, openT :: x.out.map tokSh⟩
omit h in
theorem put_sh (x : Lx.St) (t : Tok) (e : Nat) : Lx.put (stSh x) t (e + 2) = stSh (Lx.put x t e) := by
 simp [Lx.put, stSh, tokSh]
omit h in
theorem last_sh (x : Lx.St) : Lx.last (stSh x) = if x.out = [] then 3 else Lx.last x := by
 rcases List.eq_nil_or_concat x.out with e | ⟨l, t, e⟩
 ·simp [Lx.last, stSh, e, openT, Lx.tok]
 ·simp [Lx.last, stSh, e, tokSh]
  rw [← List.cons_append, List.getLast?_concat]
omit h in
theorem opens_sh (x : Lx.St) : Lx.opens (stSh x) = Lx.opens x := by
 unfold Lx.opens
 rw [last_sh]
 by_cases e : x.out = []
 ·rw [if_pos e, show Lx.last x = 0 by simp [Lx.last, e]]; rfl
 ·rw [if_neg e]
omit h in
theorem begins_sh (x : Lx.St) : Lx.begins (stSh x) = Lx.begins x := by
 unfold Lx.begins
 rw [opens_sh, last_sh]
 by_cases e : x.out = []
 ·rw [if_pos e, show Lx.opens x = true by simp [Lx.opens, Lx.last, e]]; rfl
 ·rw [if_neg e]
def StSh (x y : Lx.St) : Prop := y = stSh x
theorem bracket_sh (chars fold : Bool) (x : Lx.St) (hx : x.sat < s.size) : Sh StSh (Lx.bracket clC s chars fold x) (Lx.bracket clC z chars fold (stSh x)) := by
 unfold Lx.bracket
 simp only
 rw [show (stSh x).sat = x.sat + 2 from rfl, show x.sat + 2 + 1 = (x.sat + 1) + 2 by omega, h.here1 (x.sat + 1) (by omega) 94 (by decide), h.size]
 have hb : Lx.here s (x.sat + 1) [94] = true → x.sat + 2 ≤ s.size := fun e => by have := here_le e; simpa using this
 have hpl : x.sat + 1 + (if Lx.here s (x.sat + 1) [94] = true then 1 else 0) ≤ s.size := by
  by_cases e : Lx.here s (x.sat + 1) [94] = true
  ·rw [if_pos e]; have := hb e; omega
  ·rw [if_neg e]; omega
 have hi := parts_sh h chars x.sat (s.size + 2) 4 (x.sat + 1 + if Lx.here s (x.sat + 1) [94] = true then 1 else 0) true [] (by omega) hpl
 clear hpl hb
 rw [show x.sat + 1 + 2 + (if Lx.here s (x.sat + 1) [94] = true then 1 else 0) = x.sat + 1 + (if Lx.here s (x.sat + 1) [94] = true then 1 else 0) + 2 by omega, show s.size + 4 + 2 = s.size + 2 + 4 by omega]
 generalize Lx.here s (x.sat + 1) [94] = not at hi ⊢
 cases hr : Lx.parts clC s chars x.sat (s.size + 2) (x.sat + 1 + if not = true then 1 else 0) true [] with
 | error e =>
  rw [hr] at hi
  rcases hi with hi | hi | hi | hi
  ·exact .inl hi
  ·exact .inr (.inl hi)
  ·exact .inr (.inr (.inl hi))
  ·rw [hi]; exact .inr (.inr (.inr rfl))
 | ok v =>
  rw [hr] at hi
  obtain ⟨w, hw, e1, e2⟩ := hi
  obtain ⟨l, q⟩ := v
  rw [hw, e1]
  exact ⟨_, rfl, by simp only; rw [show q + 2 + 1 = (q + 1) + 2 by omega, put_sh]; rfl⟩
theorem number_sh : ∀ (k d p : Nat) (n : Int), s.size + 1 ≤ p + k → p ≤ s.size → Lx.number z (k + d) (p + 2) n = ((Lx.number s k p n).1, (Lx.number s k p n).2 + 2)
 | 0, d, p, n, hk, hp => by omega
 | k + 1, d, p, n, hk, hp => by
  have hz := h.size
  by_cases hc : p < s.size ∧ 48 ≤ Lx.byt s p ∧ Lx.byt s p ≤ 57
  ·rw [show k + 1 + d = (k + d) + 1 by omega]
   unfold Lx.number
   rw [if_pos hc, h.byt p hc.1, if_pos ⟨by omega, hc.2⟩]
   exact number_sh k d (p + 1) _ (by omega) hc.1
  ·rw [number_stop s (k + 1) p n hc]
   refine number_stop z (k + 1 + d) (p + 2) n fun hd => hc ?_
   by_cases hlt : p < s.size
   ·rw [h.byt p hlt] at hd; exact ⟨hlt, hd.2⟩
   ·have hps : p = s.size := by omega
    have h1 : z.data.toList.drop (p + 2) = 92 :: [41] := by rw [h.drop p hp, List.drop_eq_nil_of_le (by rw [len_size]; omega)]; rfl
    have h2 := (byt_drop h1).2.1
    rw [h2] at hd
    exact absurd hd.2.2 (by decide)
omit h in
theorem number_hi (k p : Nat) (n : Int) (hp : p ≤ s.size) (hn : -1 ≤ n) (hn2 : n ≤ 256) : (Lx.number s k p n).2 ≤ s.size := by
 have h1 := (number_le s k p n hn hn2).2.1
 omega
theorem interval_sh (x0 p : Nat) (hp : p ≤ s.size) : Sh (fun a b => b = (a.1, a.2.1, a.2.2 + 2)) (Lx.interval s x0 p) (Lx.interval z (x0 + 2) (p + 2)) := by
 have hz := h.size
 have n1 := number_sh h (s.size + 1) 4 p (-1) (by omega) hp
 have l1 := number_hi (s := s) (s.size + 1) p (-1) hp (by decide) (by decide)
 rw [show s.size + 1 + 4 = z.size + 1 by omega] at n1
 obtain ⟨a, ha⟩ : ∃ a, a = Lx.number s (s.size + 1) p (-1) := ⟨_, rfl⟩
 rw [← ha] at n1 l1
 obtain ⟨b, hb⟩ : ∃ b, b = (if 0 ≤ a.1 ∧ Lx.here s a.2 [44] = true then Lx.number s (s.size + 1) (a.2 + 1) (-1) else (a.1, a.2)) := ⟨_, rfl⟩
 have l2 : b.2 ≤ s.size := by
  rw [hb]
  split
  ·rename_i hc
   have := here_le hc.2
   exact number_hi _ _ _ (by simpa using this) (by decide) (by decide)
  ·exact l1
 have n2 : (if 0 ≤ a.1 ∧ Lx.here z (a.2 + 2) [44] = true then Lx.number z (z.size + 1) (a.2 + 2 + 1) (-1) else (a.1, a.2 + 2)) = (b.1, b.2 + 2) := by
  rw [h.here1 a.2 l1 44 (by decide), hb]
  by_cases hc : 0 ≤ a.1 ∧ Lx.here s a.2 [44] = true
  ·have hle := here_le hc.2
   have n3 := number_sh h (s.size + 1) 4 (a.2 + 1) (-1) (by omega) (by simpa using hle)
   rw [show s.size + 1 + 4 = z.size + 1 by omega] at n3
   rw [if_pos hc, if_pos hc, show a.2 + 2 + 1 = (a.2 + 1) + 2 by omega, n3]
  ·rw [if_neg hc, if_neg hc]
 rw [interval_eq (q := x0) (a1 := a.1) (a2 := a.2) (b1 := b.1) (b2 := b.2) ha hb.symm, interval_eq (q := x0 + 2) (a1 := a.1) (a2 := a.2 + 2) (b1 := b.1) (b2 := b.2 + 2) n1.symm n2, h.here2 b.2 l2 92 125 (by decide) (by decide)]
 by_cases c1 : a.1 < 0 ∨ Lx.here s b.2 [92, 125] = false
 ·rw [if_pos c1]; exact .inr (.inr (.inl rfl))
 ·rw [if_neg c1, if_neg c1]
  by_cases c2 : 255 < a.1 ∨ 255 < b.1 ∨ (0 ≤ b.1 ∧ b.1 < a.1)
  ·rw [if_pos c2, if_pos c2]; exact Sh.err _ _ (by omega)
  ·rw [if_neg c2, if_neg c2]; exact ⟨_, rfl, rfl⟩
omit h in
theorem put_ok (x : Lx.St) (t : Tok) (e : Nat) {f : Nat} (hf : f = e + 2) : Sh StSh (.ok (Lx.put x t e)) (.ok (Lx.put (stSh x) t f)) := ⟨_, rfl, by subst hf; exact put_sh x t e⟩
theorem often_sh (x : Lx.St) (c e : Nat) (he : e ≤ s.size) : Sh StSh (Lx.often s x c e) (Lx.often z (stSh x) c (e + 2)) := by
 unfold Lx.often
 rw [begins_sh]
 by_cases h1 : Lx.begins x = true
 ·rw [if_pos h1, if_pos h1]; exact Sh.err _ _ (by simp [stSh])
 rw [if_neg h1, if_neg h1]
 by_cases h2 : c = 43
 ·rw [if_pos h2, if_pos h2]; exact put_ok _ _ _ rfl
 rw [if_neg h2, if_neg h2]
 by_cases h3 : c = 63
 ·rw [if_pos h3, if_pos h3]; exact put_ok _ _ _ rfl
 rw [if_neg h3, if_neg h3]
 have hi := interval_sh h x.sat e he
 rw [show (stSh x).sat = x.sat + 2 from rfl]
 cases hr : Lx.interval s x.sat e with
 | error e =>
  rw [hr] at hi
  rcases hi with hi | hi | hi | hi
  ·exact .inl hi
  ·exact .inr (.inl hi)
  ·exact .inr (.inr (.inl hi))
  ·rw [hi]; exact .inr (.inr (.inr rfl))
 | ok v =>
  rw [hr] at hi
  obtain ⟨a, b, c⟩ := v
  obtain ⟨w, hw, e1⟩ := hi
  rw [hw, e1]
  exact put_ok _ _ _ rfl
theorem escape_sh (fold : Bool) (x : Lx.St) (hx : x.sat < s.size) : Sh StSh (Lx.escape clC s fold x) (Lx.escape clC z fold (stSh x)) := by
 have hz := h.size
 unfold Lx.escape
 rw [show (stSh x).sat = x.sat + 2 from rfl]
 by_cases h0 : x.sat + 1 = s.size
 ·rw [if_pos h0]; exact .inl rfl
 rw [if_neg h0, if_neg (show ¬ x.sat + 2 + 1 = z.size by omega)]
 simp only
 rw [show x.sat + 2 + 1 = (x.sat + 1) + 2 by omega, h.byt (x.sat + 1) (by omega)]
 generalize Lx.byt s (x.sat + 1) = c
 by_cases h1 : c = 40
 ·rw [if_pos h1, if_pos h1]; exact put_ok _ _ _ rfl
 rw [if_neg h1, if_neg h1]
 by_cases h2 : c = 41
 ·rw [if_pos h2, if_pos h2]; exact put_ok _ _ _ rfl
 rw [if_neg h2, if_neg h2]
 by_cases h3 : c = 124
 ·rw [if_pos h3, if_pos h3]; exact put_ok _ _ _ rfl
 rw [if_neg h3, if_neg h3]
 by_cases h4 : 49 ≤ c ∧ c ≤ 57
 ·rw [if_pos h4, if_pos h4]; exact put_ok _ _ _ rfl
 rw [if_neg h4, if_neg h4]
 by_cases h5 : c = 46 ∨ c = 91 ∨ c = 93 ∨ c = 42 ∨ c = 94 ∨ c = 36 ∨ c = 92 ∨ c = 47
 ·rw [if_pos h5, if_pos h5]; exact put_ok _ _ _ rfl
 rw [if_neg h5, if_neg h5]
 by_cases h6 : c = 43 ∨ c = 63 ∨ c = 123
 ·rw [if_pos h6, if_pos h6]; exact often_sh h x c (x.sat + 2) (by omega)
 rw [if_neg h6, if_neg h6]
 exact Sh.err _ _ (by omega)
theorem next_sh (chars fold : Bool) (x : Lx.St) (hx : x.sat < s.size) : Sh StSh (Lx.next clC s chars fold x) (Lx.next clC z chars fold (stSh x)) := by
 have hz := h.size
 have hl := unit_lim s chars x.sat hx
 rw [next_eq, next_eq, show (stSh x).sat = x.sat + 2 from rfl, h.unit chars x.sat hx, begins_sh, opens_sh]
 by_cases h1 : (Lx.unit s chars x.sat).1 < 0
 ·rw [if_pos h1, if_pos h1]; exact Sh.err _ _ (by omega)
 rw [if_neg h1, if_neg h1]
 by_cases h2 : (Lx.unit s chars x.sat).1 = 92
 ·rw [if_pos h2, if_pos h2]; exact escape_sh h fold x hx
 rw [if_neg h2, if_neg h2]
 by_cases h3 : (Lx.unit s chars x.sat).1 = 91
 ·rw [if_pos h3, if_pos h3]; exact bracket_sh h chars fold x hx
 rw [if_neg h3, if_neg h3]
 by_cases h4 : (Lx.unit s chars x.sat).1 = 46
 ·rw [if_pos h4, if_pos h4]; exact put_ok _ _ _ (by omega)
 rw [if_neg h4, if_neg h4]
 by_cases h5 : (Lx.unit s chars x.sat).1 = 42 ∧ Lx.begins x = false
 ·rw [if_pos h5, if_pos h5]; exact put_ok _ _ _ (by omega)
 rw [if_neg h5, if_neg h5]
 by_cases h6 : (Lx.unit s chars x.sat).1 = 94 ∧ Lx.opens x = true
 ·rw [if_pos h6, if_pos h6]; exact put_ok _ _ _ (by omega)
 rw [if_neg h6, if_neg h6]
 obtain ⟨e, he⟩ : ∃ e, e = x.sat + (Lx.unit s chars x.sat).2 := ⟨_, rfl⟩
 rw [show x.sat + 2 + (Lx.unit s chars x.sat).2 = e + 2 by omega, ← he]
 have hiff : (e + 2 = z.size ∨ Lx.here z (e + 2) [92, 41] = true ∨ Lx.here z (e + 2) [92, 124] = true) ↔ (e = s.size ∨ Lx.here s e [92, 41] = true ∨ Lx.here s e [92, 124] = true) := by
  rw [h.hereC e (by omega), h.here2 e (by omega) 92 124 (by decide) (by decide)]
  constructor
  ·rintro (a | (a | a) | a)
   ·omega
   ·exact .inl a
   ·exact .inr (.inl a)
   ·exact .inr (.inr a)
  ·rintro (a | a | a)
   ·exact .inr (.inl (.inl a))
   ·exact .inr (.inl (.inr a))
   ·exact .inr (.inr a)
 by_cases h7 : (Lx.unit s chars x.sat).1 = 36 ∧ (e = s.size ∨ Lx.here s e [92, 41] = true ∨ Lx.here s e [92, 124] = true)
 ·rw [if_pos h7, if_pos ⟨h7.1, hiff.2 h7.2⟩]; exact put_ok _ _ _ rfl
 rw [if_neg h7, if_neg (fun a => h7 ⟨a.1, hiff.1 a.2⟩)]
 exact put_ok _ _ _ rfl
def closeT (n : Nat) : Tok := { Lx.tok 4 with sat := ((n + 2 : Nat) : Int), fin := ((n + 4 : Nat) : Int) }
theorem run_sh (chars fold : Bool) : ∀ (k d : Nat) (x : Lx.St), s.size + 1 ≤ x.out.length + k → x.out.length ≤ x.sat → x.sat ≤ s.size → Sh (fun a b => b = openT :: a.map tokSh ++ [closeT s.size]) (Lx.run clC s chars fold k x) (Lx.run clC z chars fold (k + (d + 1)) (stSh x))
 | 0, d, x, hk, h1, h2 => by omega
 | k + 1, d, x, hk, h1, h2 => by
  have hz := h.size
  by_cases hx : x.sat < s.size
  ·rw [run_step hx, show k + 1 + (d + 1) = (k + (d + 1)) + 1 by omega, run_step (show (stSh x).sat < z.size by show x.sat + 2 < z.size; omega)]
   have hi := next_sh h chars fold x hx
   have hs := next_step (chars := chars) (fold := fold) hx
   cases hr : Lx.next clC s chars fold x with
   | error e =>
    rw [hr] at hi
    rcases hi with hi | hi | hi | hi
    ·exact .inl hi
    ·exact .inr (.inl hi)
    ·exact .inr (.inr (.inl hi))
    ·rw [hi]; exact .inr (.inr (.inr rfl))
   | ok y =>
    rw [hr] at hi hs
    obtain ⟨y', hy', hyy⟩ := hi
    obtain ⟨t, e, he, a, b, _, _⟩ := hs
    rw [hy', show y' = stSh y from hyy]
    have ho : y.out.length = x.out.length + 1 := by rw [he]; simp [Lx.put]
    have hsat : y.sat = e := by rw [he]; rfl
    exact run_sh chars fold k d y (by omega) (by omega) (by omega)
  ·have hxs : x.sat = s.size := by omega
   rw [run_stop hx, show k + 1 + (d + 1) = (k + 1 + d) + 1 by omega, run_step (show (stSh x).sat < z.size by show x.sat + 2 < z.size; omega)]
   have d1 : z.data.toList.drop (x.sat + 2) = 92 :: [41] := by rw [h.drop _ h2, List.drop_eq_nil_of_le (by rw [len_size]; omega)]; rfl
   obtain ⟨e1, e2, e3⟩ := byt_drop d1
   obtain ⟨e4, e5, e6⟩ := byt_drop e3
   have hu := unit_ascii z chars (x.sat + 2) e1 (by rw [e2]; decide)
   have hn : Lx.next clC z chars fold (stSh x) = .ok (Lx.put (stSh x) (Lx.tok 4) (x.sat + 4)) := by
    rw [next_eq, show (stSh x).sat = x.sat + 2 from rfl, hu, e2, if_neg (by decide), if_pos (by decide)]
    unfold Lx.escape
    rw [show (stSh x).sat = x.sat + 2 from rfl, if_neg (by omega)]
    simp only [e5]
    rw [if_neg (by decide), if_pos (by decide)]
   rw [hn]
   simp only
   rw [run_stop (by show ¬ x.sat + 4 < z.size; omega)]
   exact ⟨_, rfl, by simp [Lx.put, stSh, closeT, hxs]⟩
/-- a text within a group is lexed as it is alone -/
theorem lex_sh (chars fold : Bool) (hs : s.size ≤ 1900) : Sh (fun a b => b = openT :: a.map tokSh ++ [closeT s.size]) (Lx.lex clC s chars fold) (Lx.lex clC z chars fold) := by
 have hz := h.size
 rw [show Lx.lex clC s chars fold = Lx.run clC s chars fold (s.size + 1) ⟨0, []⟩ by unfold Lx.lex; rw [if_neg (by omega)],
  show Lx.lex clC z chars fold = Lx.run clC z chars fold (z.size + 1) ⟨0, []⟩ by unfold Lx.lex; rw [if_neg (by omega)]]
 have d0 : z.data.toList.drop 0 = 92 :: 40 :: (s.data.toList ++ [92, 41]) := h
 obtain ⟨e1, e2, e3⟩ := byt_drop d0
 obtain ⟨e4, e5, e6⟩ := byt_drop e3
 have hu := unit_ascii z chars 0 e1 (by rw [e2]; decide)
 have hn : Lx.next clC z chars fold ⟨0, []⟩ = .ok (stSh ⟨0, []⟩) := by
  rw [next_eq, hu, e2, if_neg (by decide), if_pos (by decide)]
  unfold Lx.escape
  rw [if_neg (by simp only; omega)]
  simp only [e5]
  rw [if_pos (by decide)]
  rfl
 rw [run_step (show (⟨0, []⟩ : Lx.St).sat < z.size from e1), hn]
 simp only
 rw [show z.size = s.size + 1 + (2 + 1) by omega]
 exact run_sh h chars fold (s.size + 1) 2 ⟨0, []⟩ (by simp) (by simp) (Nat.zero_le _)
end
end Go.Proofs.YtamhkdlcoghdbaaDoor.PCls
