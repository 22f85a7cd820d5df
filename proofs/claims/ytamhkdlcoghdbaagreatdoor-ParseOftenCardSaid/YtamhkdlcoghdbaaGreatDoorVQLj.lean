/- Out of Lj (wip/tools/prune2.py): the declarations alone that the texts of the trees name. -/
import Derived.Test.YtamhkdlcoghdbaaGreatDoorVQLh
namespace Go.Proofs.YtamhkdlcoghdbaaGreatDoor.PCls
set_option linter.unusedVariables false
set_option linter.unusedSimpArgs false
/-- a text s within a longer one, z: d bytes ahead, tl behind -/
structure Ext (s z : ByteArray) (d : Nat) (tl : List UInt8) : Prop where
 eq : ∃ pre : List UInt8, pre.length = d ∧ z.data.toList = pre ++ (s.data.toList ++ tl)
 tl : tl = [] ∨ ∃ c r, tl = c :: r ∧ (c = 92 ∨ c = 42)
/-- what follows ends a branch -/
def EndsB (tl : List UInt8) : Prop := tl = [] ∨ ∃ c r, tl = 92 :: c :: r ∧ (c = 41 ∨ c = 124)
/-- a result that is told is told in the longer text -/
def OkX {α : Type} (P : α → α → Prop) (r r' : Except Er α) : Prop := ∀ a, r = .ok a → ∃ b, r' = .ok b ∧ P a b
theorem OkX.err {α : Type} {P : α → α → Prop} (e : Er) (r : Except Er α) : OkX P (.error e) r := fun a h => by cases h
def ItX (d : Nat) (i j : It) : Prop := j.isEnd = i.isEnd ∧ j.c = i.c ∧ j.l = i.l ∧ j.nx = i.nx + d
theorem index_more (a b : UInt8) (t : List UInt8) : ∀ l : List UInt8, 0 ≤ Lib.index l [a, b] → Lib.index (l ++ t) [a, b] = Lib.index l [a, b]
 | [], h => by simp [Lib.index] at h
 | [x], h => by simp [Lib.index] at h
 | x :: y :: l, h => by
  have hp : [a, b].isPrefixOf (x :: ((y :: l) ++ t)) = [a, b].isPrefixOf (x :: y :: l) := by simp [List.isPrefixOf]
  have ih := index_more a b t (y :: l)
  have hg := Lib.index_ge (y :: l) [a, b]
  rw [List.cons_append]
  rw [Lib.index] at h ⊢
  conv => rhs; rw [Lib.index]
  rw [hp]
  split
  ·rfl
  ·rename_i h1
   rw [if_neg h1] at h
   by_cases h2 : Lib.index (y :: l) [a, b] = -1
   ·rw [if_pos (by rw [h2]; rfl)] at h; omega
   ·rw [ih (by omega)]
theorem unit_36 (s : ByteArray) (chars : Bool) (p : Nat) (hp : p < s.size) (h : (Lx.unit s chars p).1 = 36) : (Lx.unit s chars p).2 = 1 := by
 by_cases hb : Lx.byt s p < 128
 ·rw [unit_ascii s chars p hp hb]
 ·exfalso
  unfold Lx.unit at h
  rw [if_pos hp] at h
  cases chars with
  | false => simp only [Bool.false_eq_true, if_false] at h; omega
  | true =>
   rw [if_pos rfl] at h
   split at h
   ·rw [Lib.decode_at] at h
    unfold Lib.decodeN at h
    rw [get_byt, if_neg hb] at h
    simp only at h
    repeat' split at h
    all_goals (simp only at h; omega)
   ·simp at h
section
variable {s z : ByteArray} {d : Nat} {tl : List UInt8} (h : Ext s z d tl)
include h
theorem Ext.size : z.size = d + s.size + tl.length := by
 obtain ⟨pre, e, h1⟩ := h.eq
 have h2 := congrArg List.length h1
 rw [len_size, List.length_append, List.length_append, len_size] at h2
 omega
theorem Ext.drop (p : Nat) (hp : p ≤ s.size) : z.data.toList.drop (p + d) = s.data.toList.drop p ++ tl := by
 obtain ⟨pre, e, h1⟩ := h.eq
 rw [h1, List.drop_append, List.drop_eq_nil_of_le (by omega), List.nil_append, show p + d - pre.length = p by omega, List.drop_append_of_le_length (by rw [len_size]; exact hp)]
theorem Ext.byt (p : Nat) (hp : p < s.size) : Lx.byt z (p + d) = Lx.byt s p := by
 obtain ⟨pre, e, h1⟩ := h.eq
 have h2 : z.data.toList[p + d]? = s.data.toList[p]? := by
  rw [h1, List.getElem?_append_right (by omega), show p + d - pre.length = p by omega, List.getElem?_append_left (by rw [len_size]; exact hp)]
 unfold Lx.byt
 rw [List.getD_eq_getElem?_getD, List.getD_eq_getElem?_getD, h2]
theorem Ext.here (p : Nat) (t : List UInt8) (hp : p + t.length ≤ s.size) : Lx.here z (p + d) t = Lx.here s p t := by
 unfold Lx.here
 rw [h.drop p (by omega), decide_eq_true (by omega : p ≤ s.size), decide_eq_true (by rw [h.size]; omega : p + d ≤ z.size)]
 have hl : t.length ≤ (s.data.toList.drop p).length := by rw [List.length_drop, len_size]; omega
 simp only [Bool.true_and]
 unfold Lib.hasPrefix
 rw [Bool.eq_iff_iff, List.isPrefixOf_iff_prefix, List.isPrefixOf_iff_prefix]
 exact ⟨fun a => List.prefix_of_prefix_length_le a (List.prefix_append _ _) hl, fun a => a.trans (List.prefix_append _ _)⟩
theorem Ext.here_of {p : Nat} {t : List UInt8} (hp : Lx.here s p t = true) : Lx.here z (p + d) t = true := by
 rw [h.here p t (here_le hp)]; exact hp
theorem Ext.here1 (p : Nat) (hp : p ≤ s.size) (a : UInt8) (ha : a ≠ 92) (hb : a ≠ 42) : Lx.here z (p + d) [a] = Lx.here s p [a] := by
 unfold Lx.here
 rw [h.drop p hp, decide_eq_true hp, decide_eq_true (by rw [h.size]; omega : p + d ≤ z.size)]
 cases s.data.toList.drop p with
 | nil => rcases h.tl with e | ⟨c, r, e, hc | hc⟩ <;> subst e <;> simp [Lib.hasPrefix, List.isPrefixOf] <;> subst hc <;> assumption
 | cons x l => simp [Lib.hasPrefix, List.isPrefixOf]
theorem Ext.here2 (p : Nat) (hp : p ≤ s.size) (a b : UInt8) (ha : a ≠ 92 ∧ a ≠ 42) (hb : b ≠ 92 ∧ b ≠ 42) : Lx.here z (p + d) [a, b] = Lx.here s p [a, b] := by
 unfold Lx.here
 rw [h.drop p hp, decide_eq_true hp, decide_eq_true (by rw [h.size]; omega : p + d ≤ z.size)]
 cases s.data.toList.drop p with
 | nil => rcases h.tl with e | ⟨c, r, e, hc | hc⟩ <;> subst e <;> simp [Lib.hasPrefix, List.isPrefixOf] <;> subst hc <;> intro hh <;> simp_all
 | cons x l => cases l with
  | nil => rcases h.tl with e | ⟨c, r, e, hc | hc⟩ <;> subst e <;> simp [Lib.hasPrefix, List.isPrefixOf] <;> subst hc <;> intro hh <;> simp_all
  | cons y l => simp [Lib.hasPrefix, List.isPrefixOf]
/-- what ends a branch -/
theorem Ext.hereC (p : Nat) (hp : p ≤ s.size) (he : EndsB tl ∨ p < s.size) : (p + d = z.size ∨ Lx.here z (p + d) [92, 41] = true ∨ Lx.here z (p + d) [92, 124] = true) ↔ (p = s.size ∨ Lx.here s p [92, 41] = true ∨ Lx.here s p [92, 124] = true) := by
 have hl : (s.data.toList.drop p).length = s.size - p := by rw [List.length_drop, len_size]
 have hz := h.size
 unfold Lx.here
 rw [h.drop p hp, decide_eq_true hp, decide_eq_true (by omega : p + d ≤ z.size)]
 revert hl
 cases s.data.toList.drop p with
 | nil =>
  intro hl
  have hps : p = s.size := by simp at hl; omega
  rcases he with (rfl | ⟨c, r, rfl, hc | hc⟩) | he
  ·simp at hz; simp [Lib.hasPrefix, List.isPrefixOf]; omega
  ·subst hc; simp [Lib.hasPrefix, List.isPrefixOf, hps]
  ·subst hc; simp [Lib.hasPrefix, List.isPrefixOf, hps]
  ·omega
 | cons x l =>
  intro hl
  have hne : ¬ p = s.size := by simp at hl; omega
  have hne2 : ¬ p + d = z.size := by omega
  cases l with
  | nil =>
   rcases h.tl with rfl | ⟨c, r, rfl, hc | hc⟩
   ·simp [Lib.hasPrefix, List.isPrefixOf, hne, hne2]
   ·subst hc; simp [Lib.hasPrefix, List.isPrefixOf, hne, hne2]
   ·subst hc; simp [Lib.hasPrefix, List.isPrefixOf, hne, hne2]
  | cons y l => simp [Lib.hasPrefix, List.isPrefixOf, hne, hne2]
omit h in
theorem decodeN_more (n m b0 b1 b2 b3 c1 c2 c3 : Nat) (h1 : 1 < n → c1 = b1) (g1 : n ≤ 1 → c1 / 64 ≠ 2) (h2 : 2 < n → c2 = b2) (g2 : n = 2 → c2 / 64 ≠ 2) (h3 : 3 < n → c3 = b3) (g3 : n = 3 → c3 / 64 ≠ 2) :
  Lib.decodeN (n + m) b0 c1 c2 c3 = Lib.decodeN n b0 b1 b2 b3 := by
 rcases Nat.lt_or_ge 1 n with a1 | a1
 ·rw [h1 a1]
  rcases Nat.lt_or_ge 2 n with a2 | a2
  ·rw [h2 a2]
   rcases Nat.lt_or_ge 3 n with a3 | a3
   ·rw [h3 a3]
    simp only [Lib.decodeN, show (1 < n + m) = True from eq_true (by omega), show (2 < n + m) = True from eq_true (by omega), show (3 < n + m) = True from eq_true (by omega), eq_true a1, eq_true a2, eq_true a3]
   ·simp only [Lib.decodeN, show (1 < n + m) = True from eq_true (by omega), show (2 < n + m) = True from eq_true (by omega), eq_true a1, eq_true a2, eq_false (g3 (by omega)), eq_false (show ¬ 3 < n by omega), and_false, false_and, if_false]
  ·simp only [Lib.decodeN, show (1 < n + m) = True from eq_true (by omega), eq_true a1, eq_false (g2 (by omega)), eq_false (show ¬ 2 < n by omega), and_false, false_and, if_false]
 ·simp only [Lib.decodeN, eq_false (g1 a1), eq_false (show ¬ 1 < n by omega), and_false, false_and, if_false]
theorem Ext.tail : Lx.byt z (s.size + d) / 64 ≠ 2 := by
 obtain ⟨pre, e, h1⟩ := h.eq
 have h2 : z.data.toList[s.size + d]? = tl[0]? := by
  rw [h1, List.getElem?_append_right (by omega), List.getElem?_append_right (by rw [len_size]; omega), len_size, show s.size + d - pre.length - s.size = 0 by omega]
 unfold Lx.byt
 rw [List.getD_eq_getElem?_getD, h2]
 rcases h.tl with rfl | ⟨c, r, rfl, rfl | rfl⟩
 ·decide
 ·rw [List.getElem?_cons_zero]; decide
 ·rw [List.getElem?_cons_zero]; decide
theorem Ext.decode (p : Nat) (hp : p < s.size) : Utf8.decode z (p + d) = Utf8.decode s p := by
 have ht := h.tail
 rw [Lib.decode_at, Lib.decode_at, h.size, show d + s.size + tl.length - (p + d) = (s.size - p) + tl.length by omega]
 simp only [get_byt]
 rw [h.byt p hp, show p + d + 1 = (p + 1) + d by omega, show p + d + 2 = (p + 2) + d by omega, show p + d + 3 = (p + 3) + d by omega]
 exact decodeN_more _ _ _ _ _ _ _ _ _ (fun a => h.byt _ (by omega)) (fun a => by rw [show p + 1 = s.size by omega]; exact ht) (fun a => h.byt _ (by omega)) (fun a => by rw [show p + 2 = s.size by omega]; exact ht) (fun a => h.byt _ (by omega)) (fun a => by rw [show p + 3 = s.size by omega]; exact ht)
theorem Ext.unit (chars : Bool) (p : Nat) (hp : p < s.size) : Lx.unit z chars (p + d) = Lx.unit s chars p := by
 have h2 : okAt z (p + d) = okAt s p := by unfold okAt; rw [h.decode p hp]
 unfold Lx.unit
 rw [if_pos hp, if_pos (by rw [h.size]; omega), h2, h.decode p hp, h.byt p hp]
theorem Ext.extract (p e : Nat) (hp : p ≤ e) (he : e ≤ s.size) : z.extract (p + d) (e + d) = s.extract p e := by
 apply ByteArray.ext
 apply Array.ext'
 simp only [ByteArray.data_extract, Array.toList_extract, List.extract_eq_take_drop]
 rw [h.drop p (by omega), show e + d - (p + d) = e - p by omega, List.take_append_of_le_length (by rw [List.length_drop, len_size]; omega)]
theorem named_x (chars : Bool) (x0 y0 p : Nat) (sign : UInt8) (hp : p + 2 ≤ s.size) : OkX (ItX d) (Lx.named clC s chars x0 p sign) (Lx.named clC z chars y0 (p + d) sign) := by
 have hz := h.size
 intro i hi
 by_cases h58 : sign = 58
 ·subst h58
  have h1 := Lib.index_le (s.data.toList.drop (p + 2)) [58, 93]
  rw [List.length_drop, len_size] at h1
  rw [named58_eq clC s chars x0 p hp] at hi
  rw [named58_eq clC z chars y0 (p + d) (by omega), show p + d + 2 = (p + 2) + d by omega, h.drop (p + 2) hp]
  split at hi
  ·cases hi
  rename_i hk
  rw [index_more _ _ _ _ (by omega)]
  generalize Lib.index (s.data.toList.drop (p + 2)) [58, 93] = k at h1 hk hi ⊢
  rw [if_neg hk, show p + 2 + d + k.toNat = (p + 2 + k.toNat) + d by omega, h.extract (p + 2) (p + 2 + k.toNat) (by omega) (by omega)]
  split at hi
  ·rename_i hn
   cases hi
   rw [if_pos hn]
   exact ⟨_, rfl, rfl, rfl, rfl, by simp only; omega⟩
  ·cases hi
 ·rw [named_el_eq clC s chars x0 p sign h58] at hi
  rw [named_el_eq clC z chars y0 (p + d) sign h58]
  split at hi
  ·cases hi
  rename_i hk
  have hp3 : p + 3 ≤ s.size := by
   rcases Nat.lt_or_ge s.size (p + 3) with h | h
   ·exact absurd (show elk s p sign < 0 by unfold elk; rw [if_neg (by omega)]; decide) hk
   ·exact h
  have he : elk z (p + d) sign = elk s p sign := by
   have e : elk s p sign = Lib.index (s.data.toList.drop (p + 3)) [sign, 93] := by unfold elk; rw [if_pos hp3]
   rw [e] at hk ⊢
   unfold elk
   rw [if_pos (by omega), show p + d + 3 = (p + 3) + d by omega, h.drop (p + 3) hp3, index_more _ _ _ _ (by omega)]
  rw [he, show p + d + 2 = (p + 2) + d by omega, h.unit chars (p + 2) (by omega), if_neg hk]
  split at hi
  ·cases hi
  rename_i hu
  cases hi
  rw [if_neg hu]
  exact ⟨_, rfl, rfl, rfl, rfl, by simp only; omega⟩
theorem item_x (chars : Bool) (x0 y0 p : Nat) (any : Bool) (hp : p ≤ s.size) : OkX (ItX d) (Lx.item clC s chars x0 p any) (Lx.item clC z chars y0 (p + d) any) := by
 have hz := h.size
 rw [item_eq, item_eq, h.here2 p hp 91 58 (by decide) (by decide), h.here2 p hp 91 61 (by decide) (by decide), h.here2 p hp 91 46 (by decide) (by decide), h.here2 p hp 45 93 (by decide) (by decide)]
 by_cases h1 : Lx.here s p [91, 58] = true
 ·rw [if_pos h1, if_pos h1]; exact named_x h chars x0 y0 p 58 (here_le h1)
 rw [if_neg h1, if_neg h1]
 by_cases h2 : Lx.here s p [91, 61] = true
 ·rw [if_pos h2, if_pos h2]; exact named_x h chars x0 y0 p 61 (here_le h2)
 rw [if_neg h2, if_neg h2]
 by_cases h3 : Lx.here s p [91, 46] = true
 ·rw [if_pos h3, if_pos h3]; exact named_x h chars x0 y0 p 46 (here_le h3)
 rw [if_neg h3, if_neg h3]
 unfold itemC
 by_cases hlt : p < s.size
 ·rw [h.unit chars p hlt]
  by_cases hn0 : (Lx.unit s chars p).2 = 0
  ·rw [if_pos hn0]; exact OkX.err _ _
  rw [if_neg hn0, if_neg hn0]
  by_cases h5 : (Lx.unit s chars p).1 < 0
  ·rw [if_pos h5]; exact OkX.err _ _
  rw [if_neg h5, if_neg h5]
  by_cases h6 : (Lx.unit s chars p).1 = 45 ∧ any = false ∧ Lx.here s p [45, 93] = false
  ·rw [if_pos h6]; split <;> exact OkX.err _ _
  ·rw [if_neg h6, if_neg h6]
   intro i hi
   cases hi
   exact ⟨_, rfl, rfl, rfl, rfl, by simp only; omega⟩
 ·rw [unit_none s chars p hlt, if_pos rfl]; exact OkX.err _ _
theorem span_x (chars : Bool) (x0 y0 p : Nat) (a b : It) (hab : ItX d a b) (hp : p ≤ s.size) : OkX (ItX d) (Lx.span clC s chars x0 a p) (Lx.span clC z chars y0 b (p + d)) := by
 obtain ⟨e1, e2, e3, e4⟩ := hab
 rw [span_eq, span_eq, h.here2 p hp 91 58 (by decide) (by decide), h.here2 p hp 91 61 (by decide) (by decide), e2]
 by_cases h1 : Lx.here s p [91, 58] = true
 ·rw [if_pos h1]; exact OkX.err _ _
 rw [if_neg h1, if_neg h1]
 by_cases h2 : Lx.here s p [91, 61] = true
 ·rw [if_pos h2]; exact OkX.err _ _
 rw [if_neg h2, if_neg h2]
 have hi := item_x h chars x0 y0 p true hp
 cases hr : Lx.item clC s chars x0 p true with
 | error e => exact OkX.err _ _
 | ok i =>
  obtain ⟨j, hj, f1, f2, f3, f4⟩ := hi i hr
  rw [hj]
  simp only
  rw [f2]
  by_cases h3 : i.c < a.c
  ·rw [if_pos h3]; exact OkX.err _ _
  ·rw [if_neg h3, if_neg h3]
   intro y hy
   cases hy
   exact ⟨_, rfl, f1, rfl, rfl, f4⟩
theorem part_x (chars : Bool) (x0 y0 p : Nat) (any : Bool) (hp : p ≤ s.size) : OkX (ItX d) (Lx.part clC s chars x0 p any) (Lx.part clC z chars y0 (p + d) any) := by
 rw [part_eq, part_eq]
 have hi := item_x h chars x0 y0 p any hp
 cases hr : Lx.item clC s chars x0 p any with
 | error e => exact OkX.err _ _
 | ok i =>
  obtain ⟨j, hj, hij⟩ := hi i hr
  obtain ⟨x, hx, hxs⟩ := item_nx hr
  rw [hj]
  simp only
  have hjx : j.nx.toNat = x + d := by rw [hij.2.2.2, hx]; omega
  rw [hij.1, hjx, show i.nx.toNat = x by rw [hx]; omega, h.here1 x hxs 45 (by decide) (by decide), h.here2 x hxs 45 93 (by decide) (by decide)]
  by_cases hc : i.isEnd = true ∧ Lx.here s x [45] = true ∧ Lx.here s x [45, 93] = false
  ·rw [if_pos hc, if_pos hc, show x + d + 1 = (x + 1) + d by omega]
   have := here_le hc.2.1
   exact span_x h chars x0 y0 (x + 1) i j hij (by simpa using this)
  ·rw [if_neg hc, if_neg hc]
   intro y hy
   cases hy
   exact ⟨j, rfl, hij⟩
theorem parts_x (chars : Bool) (x0 y0 : Nat) : ∀ (k e p : Nat) (b : Bool) (l : List S64), p ≤ s.size → OkX (fun a c => c = (a.1, a.2 + d) ∧ a.2 ≤ s.size) (Lx.parts clC s chars x0 k p b l) (Lx.parts clC z chars y0 (k + e) (p + d) b l)
 | 0, e, p, b, l, hp => OkX.err _ _
 | k + 1, e, p, b, l, hp => by
  rw [show k + 1 + e = (k + e) + 1 by omega, parts_eq, parts_eq, h.here1 p hp 93 (by decide) (by decide)]
  by_cases hc : b = false ∧ Lx.here s p [93] = true
  ·rw [if_pos hc, if_pos hc]
   intro y hy
   cases hy
   exact ⟨_, rfl, rfl, hp⟩
  rw [if_neg hc, if_neg hc]
  have hi := part_x h chars x0 y0 p b hp
  cases hr : Lx.part clC s chars x0 p b with
  | error e => exact OkX.err _ _
  | ok i =>
   obtain ⟨j, hj, f1, f2, f3, f4⟩ := hi i hr
   obtain ⟨x, hx, hxs⟩ := part_nx hr
   rw [hj]
   simp only
   rw [f3, show j.nx.toNat = x + d by rw [f4, hx]; omega, show i.nx.toNat = x by rw [hx]; omega]
   exact parts_x chars x0 y0 k e x false _ hxs
/-- a token so many bytes further on; a state of the scanner, behind the tokens P -/
def tokX (d : Nat) (t : Tok) : Tok := { t with sat := t.sat + d, fin := t.fin + d }
def stX (d : Nat) (P : List Tok) (x : Lx.St) : Lx.St := ⟨x.sat + d, P ++ x.out.map (tokX d)⟩
variable {P : List Tok} (hP : Lx.opens ⟨0, P⟩ = true)
omit h in
theorem put_x (x : Lx.St) (t : Tok) (e : Nat) : Lx.put (stX d P x) t (e + d) = stX d P (Lx.put x t e) := by
 simp [Lx.put, stX, tokX]
omit h in
theorem last_x (x : Lx.St) : Lx.last (stX d P x) = if x.out = [] then Lx.last ⟨0, P⟩ else Lx.last x := by
 rcases List.eq_nil_or_concat x.out with e | ⟨l, t, e⟩
 ·simp [Lx.last, stX, e]
 ·simp [Lx.last, stX, e, tokX]
include hP
omit h in
theorem opens_x (x : Lx.St) : Lx.opens (stX d P x) = Lx.opens x := by
 by_cases e : x.out = []
 ·have h1 : Lx.opens (stX d P x) = Lx.opens ⟨0, P⟩ := by unfold Lx.opens; rw [last_x, if_pos e]
  have h2 : Lx.opens x = true := by unfold Lx.opens; rw [show Lx.last x = 0 by simp [Lx.last, e]]; rfl
  rw [h1, hP, h2]
 ·unfold Lx.opens
  rw [last_x, if_neg e]
omit h in
theorem begins_x (x : Lx.St) : Lx.begins (stX d P x) = Lx.begins x := by
 unfold Lx.begins
 rw [opens_x hP, last_x]
 by_cases e : x.out = []
 ·rw [show Lx.opens x = true by unfold Lx.opens; rw [show Lx.last x = 0 by simp [Lx.last, e]]; rfl]; rfl
 ·rw [if_neg e]
omit hP in
theorem bracket_x (chars fold : Bool) (x : Lx.St) (hx : x.sat < s.size) : OkX (fun a b => b = stX d P a) (Lx.bracket clC s chars fold x) (Lx.bracket clC z chars fold (stX d P x)) := by
 unfold Lx.bracket
 simp only
 rw [show (stX d P x).sat = x.sat + d from rfl, show x.sat + d + 1 = (x.sat + 1) + d by omega, h.here1 (x.sat + 1) (by omega) 94 (by decide) (by decide), h.size]
 have hb : Lx.here s (x.sat + 1) [94] = true → x.sat + 2 ≤ s.size := fun e => by have := here_le e; simpa using this
 have hpl : x.sat + 1 + (if Lx.here s (x.sat + 1) [94] = true then 1 else 0) ≤ s.size := by
  by_cases e : Lx.here s (x.sat + 1) [94] = true
  ·rw [if_pos e]; have := hb e; omega
  ·rw [if_neg e]; omega
 have hi := parts_x h chars x.sat (x.sat + d) (s.size + 2) (d + tl.length) (x.sat + 1 + if Lx.here s (x.sat + 1) [94] = true then 1 else 0) true [] hpl
 clear hpl hb
 rw [show x.sat + 1 + d + (if Lx.here s (x.sat + 1) [94] = true then 1 else 0) = x.sat + 1 + (if Lx.here s (x.sat + 1) [94] = true then 1 else 0) + d by omega, show d + s.size + tl.length + 2 = s.size + 2 + (d + tl.length) by omega]
 generalize Lx.here s (x.sat + 1) [94] = not at hi ⊢
 cases hr : Lx.parts clC s chars x.sat (s.size + 2) (x.sat + 1 + if not = true then 1 else 0) true [] with
 | error e => exact OkX.err _ _
 | ok v =>
  obtain ⟨w, hw, e1, e2⟩ := hi v hr
  obtain ⟨l, q⟩ := v
  rw [hw, e1]
  intro y hy
  cases hy
  exact ⟨_, rfl, by simp only; rw [show q + d + 1 = (q + 1) + d by omega, put_x]⟩
omit hP in
theorem number_x : ∀ (k e p : Nat) (n : Int), s.size + 1 ≤ p + k → p ≤ s.size → Lx.number z (k + e) (p + d) n = ((Lx.number s k p n).1, (Lx.number s k p n).2 + d)
 | 0, e, p, n, hk, hp => by omega
 | k + 1, e, p, n, hk, hp => by
  have hz := h.size
  by_cases hc : p < s.size ∧ 48 ≤ Lx.byt s p ∧ Lx.byt s p ≤ 57
  ·rw [show k + 1 + e = (k + e) + 1 by omega]
   unfold Lx.number
   rw [if_pos hc, h.byt p hc.1, if_pos ⟨by omega, hc.2⟩, show p + d + 1 = (p + 1) + d by omega]
   exact number_x k e (p + 1) _ (by omega) hc.1
  ·rw [number_stop s (k + 1) p n hc]
   refine number_stop z (k + 1 + e) (p + d) n fun hd => hc ?_
   by_cases hlt : p < s.size
   ·rw [h.byt p hlt] at hd; exact ⟨hlt, hd.2⟩
   ·have hps : p = s.size := by omega
    subst hps
    have hdr := h.drop s.size (Nat.le_refl _)
    rw [show s.data.toList.drop s.size = [] from List.drop_eq_nil_of_le (by rw [len_size]; omega), List.nil_append] at hdr
    rcases h.tl with e1 | ⟨c, r, e1, hc1⟩
    ·rw [e1] at hz; simp only [List.length_nil] at hz; omega
    ·have h2 := (byt_drop (hdr.trans e1)).2.1
     rw [h2] at hd
     rcases hc1 with rfl | rfl
     ·exact absurd hd.2.2 (by decide)
     ·exact absurd hd.2.1 (by decide)
omit hP in
theorem interval_x (x0 y0 p : Nat) (hp : p ≤ s.size) : OkX (fun a b => b = (a.1, a.2.1, a.2.2 + d)) (Lx.interval s x0 p) (Lx.interval z y0 (p + d)) := by
 have hz := h.size
 have n1 := number_x h (s.size + 1) (d + tl.length) p (-1) (by omega) hp
 have l1 := number_hi (s := s) (s.size + 1) p (-1) hp (by decide) (by decide)
 rw [show s.size + 1 + (d + tl.length) = z.size + 1 by omega] at n1
 obtain ⟨a, ha⟩ : ∃ a, a = Lx.number s (s.size + 1) p (-1) := ⟨_, rfl⟩
 rw [← ha] at n1 l1
 obtain ⟨b, hb⟩ : ∃ b, b = (if 0 ≤ a.1 ∧ Lx.here s a.2 [44] = true then Lx.number s (s.size + 1) (a.2 + 1) (-1) else (a.1, a.2)) := ⟨_, rfl⟩
 have n2 : (if 0 ≤ a.1 ∧ Lx.here z (a.2 + d) [44] = true then Lx.number z (z.size + 1) (a.2 + d + 1) (-1) else (a.1, a.2 + d)) = (b.1, b.2 + d) := by
  rw [h.here1 a.2 l1 44 (by decide) (by decide), hb]
  by_cases hc : 0 ≤ a.1 ∧ Lx.here s a.2 [44] = true
  ·have hle := here_le hc.2
   have n3 := number_x h (s.size + 1) (d + tl.length) (a.2 + 1) (-1) (by omega) (by simpa using hle)
   rw [show s.size + 1 + (d + tl.length) = z.size + 1 by omega] at n3
   rw [if_pos hc, if_pos hc, show a.2 + d + 1 = (a.2 + 1) + d by omega, n3]
  ·rw [if_neg hc, if_neg hc]
 rw [interval_eq (q := x0) (a1 := a.1) (a2 := a.2) (b1 := b.1) (b2 := b.2) ha hb.symm, interval_eq (q := y0) (a1 := a.1) (a2 := a.2 + d) (b1 := b.1) (b2 := b.2 + d) n1.symm n2]
 by_cases c1 : a.1 < 0 ∨ Lx.here s b.2 [92, 125] = false
 ·rw [if_pos c1]; exact OkX.err _ _
 have c2 : Lx.here s b.2 [92, 125] = true := by
  cases hh : Lx.here s b.2 [92, 125] with
  | true => rfl
  | false => exact absurd (.inr hh) c1
 rw [if_neg c1, if_neg (show ¬ (a.1 < 0 ∨ Lx.here z (b.2 + d) [92, 125] = false) by rw [h.here_of c2, ← c2]; exact c1)]
 by_cases c3 : 255 < a.1 ∨ 255 < b.1 ∨ (0 ≤ b.1 ∧ b.1 < a.1)
 ·rw [if_pos c3]; exact OkX.err _ _
 ·rw [if_neg c3, if_neg c3]
  intro y hy
  cases hy
  exact ⟨_, rfl, by simp only; rw [show b.2 + d + 2 = b.2 + 2 + d by omega]⟩
omit h hP in
theorem putx_ok (x : Lx.St) (t : Tok) (e : Nat) {f : Nat} (hf : f = e + d) : OkX (fun a b => b = stX d P a) (.ok (Lx.put x t e)) (.ok (Lx.put (stX d P x) t f)) := fun y hy => by cases hy; subst hf; exact ⟨_, rfl, put_x x t e⟩
theorem often_x (x : Lx.St) (c e : Nat) (he : e ≤ s.size) : OkX (fun a b => b = stX d P a) (Lx.often s x c e) (Lx.often z (stX d P x) c (e + d)) := by
 unfold Lx.often
 rw [begins_x hP]
 by_cases h1 : Lx.begins x = true
 ·rw [if_pos h1]; exact OkX.err _ _
 rw [if_neg h1, if_neg h1]
 by_cases h2 : c = 43
 ·rw [if_pos h2, if_pos h2]; exact putx_ok _ _ _ rfl
 rw [if_neg h2, if_neg h2]
 by_cases h3 : c = 63
 ·rw [if_pos h3, if_pos h3]; exact putx_ok _ _ _ rfl
 rw [if_neg h3, if_neg h3]
 have hi := interval_x h x.sat (x.sat + d) e he
 rw [show (stX d P x).sat = x.sat + d from rfl]
 cases hr : Lx.interval s x.sat e with
 | error e => exact OkX.err _ _
 | ok v =>
  obtain ⟨w, hw, e1⟩ := hi v hr
  obtain ⟨a, b, c⟩ := v
  rw [hw, e1]
  exact putx_ok _ _ _ rfl
theorem escape_x (fold : Bool) (x : Lx.St) (hx : x.sat < s.size) : OkX (fun a b => b = stX d P a) (Lx.escape clC s fold x) (Lx.escape clC z fold (stX d P x)) := by
 have hz := h.size
 unfold Lx.escape
 rw [show (stX d P x).sat = x.sat + d from rfl]
 by_cases h0 : x.sat + 1 = s.size
 ·rw [if_pos h0]; exact OkX.err _ _
 rw [if_neg h0, if_neg (show ¬ x.sat + d + 1 = z.size by omega)]
 simp only
 rw [show x.sat + d + 1 = (x.sat + 1) + d by omega, h.byt (x.sat + 1) (by omega), show x.sat + d + 2 = (x.sat + 2) + d by omega]
 generalize Lx.byt s (x.sat + 1) = c
 by_cases h1 : c = 40
 ·rw [if_pos h1, if_pos h1]; exact putx_ok _ _ _ rfl
 rw [if_neg h1, if_neg h1]
 by_cases h2 : c = 41
 ·rw [if_pos h2, if_pos h2]; exact putx_ok _ _ _ rfl
 rw [if_neg h2, if_neg h2]
 by_cases h3 : c = 124
 ·rw [if_pos h3, if_pos h3]; exact putx_ok _ _ _ rfl
 rw [if_neg h3, if_neg h3]
 by_cases h4 : 49 ≤ c ∧ c ≤ 57
 ·rw [if_pos h4, if_pos h4]; exact putx_ok _ _ _ rfl
 rw [if_neg h4, if_neg h4]
 by_cases h5 : c = 46 ∨ c = 91 ∨ c = 93 ∨ c = 42 ∨ c = 94 ∨ c = 36 ∨ c = 92 ∨ c = 47
 ·rw [if_pos h5, if_pos h5]; exact putx_ok _ _ _ rfl
 rw [if_neg h5, if_neg h5]
 by_cases h6 : c = 43 ∨ c = 63 ∨ c = 123
 ·rw [if_pos h6, if_pos h6]; exact often_x h hP x c (x.sat + 2) (by omega)
 rw [if_neg h6, if_neg h6]
 exact OkX.err _ _
theorem next_x (chars fold : Bool) (x : Lx.St) (hx : x.sat < s.size) (he : EndsB tl ∨ x.sat + 1 < s.size) : OkX (fun a b => b = stX d P a) (Lx.next clC s chars fold x) (Lx.next clC z chars fold (stX d P x)) := by
 have hz := h.size
 have hl := unit_lim s chars x.sat hx
 rw [next_eq, next_eq, show (stX d P x).sat = x.sat + d from rfl, h.unit chars x.sat hx, begins_x hP, opens_x hP]
 by_cases h1 : (Lx.unit s chars x.sat).1 < 0
 ·rw [if_pos h1]; exact OkX.err _ _
 rw [if_neg h1, if_neg h1]
 by_cases h2 : (Lx.unit s chars x.sat).1 = 92
 ·rw [if_pos h2, if_pos h2]; exact escape_x h hP fold x hx
 rw [if_neg h2, if_neg h2]
 by_cases h3 : (Lx.unit s chars x.sat).1 = 91
 ·rw [if_pos h3, if_pos h3]; exact bracket_x h chars fold x hx
 rw [if_neg h3, if_neg h3]
 by_cases h4 : (Lx.unit s chars x.sat).1 = 46
 ·rw [if_pos h4, if_pos h4]; exact putx_ok _ _ _ (by omega)
 rw [if_neg h4, if_neg h4]
 by_cases h5 : (Lx.unit s chars x.sat).1 = 42 ∧ Lx.begins x = false
 ·rw [if_pos h5, if_pos h5]; exact putx_ok _ _ _ (by omega)
 rw [if_neg h5, if_neg h5]
 by_cases h6 : (Lx.unit s chars x.sat).1 = 94 ∧ Lx.opens x = true
 ·rw [if_pos h6, if_pos h6]; exact putx_ok _ _ _ (by omega)
 rw [if_neg h6, if_neg h6]
 by_cases h36 : (Lx.unit s chars x.sat).1 = 36
 ·have h36b : (Lx.unit s chars x.sat).2 = 1 := unit_36 s chars x.sat hx h36
  obtain ⟨e, he2⟩ : ∃ e, e = x.sat + (Lx.unit s chars x.sat).2 := ⟨_, rfl⟩
  rw [show x.sat + d + (Lx.unit s chars x.sat).2 = e + d by omega, ← he2]
  have hiff := h.hereC e (by omega) (he.imp id fun a => by omega)
  by_cases h7 : (Lx.unit s chars x.sat).1 = 36 ∧ (e = s.size ∨ Lx.here s e [92, 41] = true ∨ Lx.here s e [92, 124] = true)
  ·rw [if_pos h7, if_pos ⟨h7.1, hiff.2 h7.2⟩]; exact putx_ok _ _ _ rfl
  rw [if_neg h7, if_neg (fun a => h7 ⟨a.1, hiff.1 a.2⟩)]
  exact putx_ok _ _ _ rfl
 ·rw [if_neg (fun a => h36 a.1), if_neg (fun a => h36 a.1)]
  exact putx_ok _ _ _ (by omega)
/-- a text is read in a longer one as it is alone -/
theorem run_x (chars fold : Bool) : ∀ (k : Nat) (x : Lx.St) (out : List Tok), s.size < k + x.sat → x.sat ≤ s.size → Lx.run clC s chars fold k x = .ok out → (EndsB tl ∨ (Lx.byt s (s.size - 1) = 41 ∧ (out.getLast?.map Tok.kind) = some 4)) → ∀ k', z.size < k' + (x.sat + d) → ∃ k'', z.size < k'' + (s.size + d) ∧ Lx.run clC z chars fold k' (stX d P x) = Lx.run clC z chars fold k'' (stX d P ⟨s.size, out⟩)
 | 0, x, out, hk, hxs, hr, hE, k', hk' => by omega
 | k + 1, x, out, hk, hxs, hr, hE, k', hk' => by
  have hz := h.size
  by_cases hx : x.sat < s.size
  ·obtain ⟨k', rfl⟩ : ∃ j, k' = j + 1 := ⟨k' - 1, by omega⟩
   have hs := next_step (chars := chars) (fold := fold) hx
   rw [run_step hx] at hr
   rw [run_step (show (stX d P x).sat < z.size by show x.sat + d < z.size; omega)]
   cases hn : Lx.next clC s chars fold x with
   | error e => rw [hn] at hr; cases hr
   | ok y =>
    rw [hn] at hr hs
    simp only at hr
    obtain ⟨t, e, he, a, b, _, _⟩ := hs
    have hsat : y.sat = e := by rw [he]; rfl
    have hE1 : EndsB tl ∨ x.sat + 1 < s.size := by
     rcases hE with hE | ⟨h41, hlast⟩
     ·exact .inl hE
     ·right
      rcases Nat.lt_or_ge (x.sat + 1) s.size with hlt | hge
      ·exact hlt
      ·exfalso
       have hxe : x.sat = s.size - 1 := by omega
       rw [← hxe] at h41
       have hu := unit_ascii s chars x.sat hx (by rw [h41]; decide)
       rw [h41] at hu
       have hnx : Lx.next clC s chars fold x = .ok (Lx.char clC fold x 41 (x.sat + 1)) := by
        rw [next_eq, hu, if_neg (by decide), if_neg (by decide), if_neg (by decide), if_neg (by decide), if_neg (by simp), if_neg (by simp), if_neg (by simp)]
        rfl
       rw [hnx] at hn
       cases hn
       rw [lrun_stop (by show ¬ x.sat + 1 < s.size; omega)] at hr
       cases hr
       simp [Lx.char, Lx.put, Lx.tok] at hlast
    obtain ⟨y', hy', hyy⟩ := next_x h hP chars fold x hx hE1 y hn
    rw [hy', hyy]
    exact run_x chars fold k y out (by omega) (by omega) hr hE k' (by omega)
  ·have hxs2 : x.sat = s.size := by omega
   rw [lrun_stop hx] at hr
   cases hr
   refine ⟨k', by omega, ?_⟩
   rw [← hxs2]
end
end Go.Proofs.YtamhkdlcoghdbaaGreatDoor.PCls
