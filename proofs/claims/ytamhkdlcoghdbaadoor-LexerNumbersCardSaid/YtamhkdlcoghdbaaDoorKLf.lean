/- The lexer in plain Lean: a text spelt out. -/
import Derived.Test.YtamhkdlcoghdbaaDoorKMLw
namespace Go.Proofs.YtamhkdlcoghdbaaDoor.PCls
set_option linter.unusedVariables false
set_option linter.unusedSimpArgs false

def spec (b : UInt8) : Bool := b == 92 || b == 91 || b == 46 || b == 42 || b == 94 || b == 36
def sp1 (b : UInt8) : List UInt8 := if b < 128 then (if spec b = true then [92, b] else [b]) else []
def spell (l : List UInt8) : List UInt8 := l.flatMap sp1
def shownB (l : List UInt8) : List UInt8 := l.filter (fun b => decide (b < 128))
theorem byt_drop {s : ByteArray} {p : Nat} {b : UInt8} {l : List UInt8} (h : s.data.toList.drop p = b :: l) : p < s.size ∧ Lx.byt s p = b.toNat ∧ s.data.toList.drop (p + 1) = l := by
 have h0 : s.data.toList.length = s.size := by simp
 have hp : p < s.data.toList.length := by
  rcases Nat.lt_or_ge p s.data.toList.length with h1 | h1
  ·exact h1
  ·rw [List.drop_eq_nil_of_le h1] at h; cases h
 rw [List.drop_eq_getElem_cons hp] at h
 obtain ⟨h1, h2⟩ := List.cons.inj h
 refine ⟨by omega, ?_, h2⟩
 unfold Lx.byt
 rw [List.getD_eq_getElem?_getD, List.getElem?_eq_getElem hp, Option.getD_some, h1]
theorem unit_ascii (s : ByteArray) (chars : Bool) (p : Nat) (h : p < s.size) (hb : Lx.byt s p < 128) : Lx.unit s chars p = ((Lx.byt s p : Int), 1) := by
 have h4 := byt_at s p h
 have hd : Utf8.decode s p = (Lx.byt s p, 1) := by
  rw [Lib.decode_at]
  have hg : (s.get! p).toNat = Lx.byt s p := by rw [h4]; simp [ByteArray.get!, h]; rfl
  unfold Lib.decodeN
  rw [hg, if_pos hb]
 unfold Lx.unit
 rw [if_pos h]
 cases chars with
 | false => rfl
 | true =>
  have hok : okAt s p = true := by
   unfold okAt
   rw [hd]
   simp
   omega
  rw [if_pos rfl, if_pos hok, hd]
theorem next_plain {s : ByteArray} {chars fold : Bool} {x : Lx.St} {b : UInt8} {l : List UInt8} (h : s.data.toList.drop x.sat = sp1 b ++ l) (hb : b < 128) :
  Lx.next clC s chars fold x = .ok (Lx.char clC fold x b.toNat (x.sat + (sp1 b).length)) ∧ s.data.toList.drop (x.sat + (sp1 b).length) = l ∧ x.sat < s.size := by
 have hbn : b.toNat < 128 := by simpa [UInt8.lt_iff_toNat_lt] using hb
 by_cases hs : spec b = true
 ·rw [show sp1 b = [92, b] by unfold sp1; rw [if_pos hb, if_pos hs]] at h ⊢
  obtain ⟨h1, h2, h3⟩ := byt_drop h
  obtain ⟨h4, h5, h6⟩ := byt_drop h3
  refine ⟨?_, h6, h1⟩
  have hu := unit_ascii s chars x.sat h1 (by rw [h2]; decide)
  rw [h2] at hu
  rw [next_eq, hu]
  rw [if_neg (by decide), if_pos (by decide)]
  unfold Lx.escape
  rw [if_neg (by omega)]
  simp only [h5]
  have hc : b.toNat = 92 ∨ b.toNat = 91 ∨ b.toNat = 46 ∨ b.toNat = 42 ∨ b.toNat = 94 ∨ b.toNat = 36 := by
   simp only [spec, Bool.or_eq_true, beq_iff_eq] at hs
   rcases hs with ((((rfl | rfl) | rfl) | rfl) | rfl) | rfl <;> decide
  rw [if_neg (by omega), if_neg (by omega), if_neg (by omega), if_neg (by omega), if_pos (by omega)]
  rfl
 ·rw [show sp1 b = [b] by unfold sp1; rw [if_pos hb, if_neg hs]] at h ⊢
  obtain ⟨h1, h2, h3⟩ := byt_drop h
  refine ⟨?_, h3, h1⟩
  have hu := unit_ascii s chars x.sat h1 (by rw [h2]; exact hbn)
  rw [h2] at hu
  rw [next_eq, hu]
  have hc : b.toNat ≠ 92 ∧ b.toNat ≠ 91 ∧ b.toNat ≠ 46 ∧ b.toNat ≠ 42 ∧ b.toNat ≠ 94 ∧ b.toNat ≠ 36 := by
   refine ⟨?_, ?_, ?_, ?_, ?_, ?_⟩ <;> intro e <;> apply hs <;> rw [show b = UInt8.ofNat b.toNat by simp, e] <;> decide
  rw [if_neg (by simp only; omega), if_neg (by simp only; omega), if_neg (by simp only; omega), if_neg (by simp only; omega), if_neg (by simp only; omega), if_neg (by simp only; omega), if_neg (by simp only; omega)]
  rfl
/-- the tokens of a text -/
def TokOf (fold : Bool) (b : UInt8) (t : Tok) : Prop := t.kind = 1 ∧ t.r = Lx.oneR clC fold b.toNat
def ToksOf (fold : Bool) : List UInt8 → List Tok → Prop
 | [], [] => True
 | b :: l, t :: ts => TokOf fold b t ∧ ToksOf fold l ts
 | _, _ => False
theorem run_plain {s : ByteArray} {chars fold : Bool} : ∀ (l : List UInt8) (k : Nat) (x : Lx.St), (∀ b ∈ l, b < 128) → s.data.toList.drop x.sat = spell l → l.length < k → x.sat ≤ s.size → ∃ ts, Lx.run clC s chars fold k x = .ok (x.out ++ ts) ∧ ToksOf fold l ts
 | [], k, x, hb, h, hk, hx => by
  have hl := congrArg List.length h
  have h0 : s.data.toList.length = s.size := by simp
  rw [List.length_drop, h0] at hl
  have hl' : s.size - x.sat = 0 := hl
  exact ⟨[], by rw [run_stop (by omega), List.append_nil], trivial⟩
 | b :: l, k, x, hb, h, hk, hx => by
  obtain ⟨k, rfl⟩ : ∃ j, k = j + 1 := ⟨k - 1, by omega⟩
  obtain ⟨h1, h2, h3⟩ := next_plain (chars := chars) (fold := fold) (l := spell l) h (hb b (by simp))
  have hle : x.sat + (sp1 b).length ≤ s.size := by
   have hl := congrArg List.length h
   have h0 : s.data.toList.length = s.size := by simp
   rw [List.length_drop, h0] at hl
   have h9 : (spell (b :: l)).length = (sp1 b).length + (spell l).length := by simp [spell]
   omega
  obtain ⟨ts, h4, h5⟩ := run_plain l k (Lx.char clC fold x b.toNat (x.sat + (sp1 b).length)) (fun c hc => hb c (by simp [hc])) h2 (by simp at hk; omega) hle
  refine ⟨(⟨1, x.sat, ((x.sat + (sp1 b).length : Nat) : Int), 0, 0, 0, Lx.oneR clC fold b.toNat⟩ : Tok) :: ts, ?_, ⟨rfl, rfl⟩, h5⟩
  rw [run_step h3, h1]
  simp only
  rw [h4]
  simp [Lx.char, Lx.put, Lx.tok]
theorem sp1_length (b : UInt8) : (sp1 b).length ≤ 2 := by unfold sp1; split <;> (try split) <;> simp
theorem spell_length (l : List UInt8) : (spell l).length ≤ 2 * l.length := by
 induction l with
 | nil => simp [spell]
 | cons b l ih => simp only [spell, List.flatMap_cons, List.length_append, List.length_cons] at ih ⊢; have := sp1_length b; omega
theorem lex_plain (s : ByteArray) (chars fold : Bool) (l : List UInt8) (hb : ∀ b ∈ l, b < 128) (h : s.data.toList = spell l) (hl : l.length ≤ 900) : ∃ ts, Lx.lex clC s chars fold = .ok ts ∧ ToksOf fold l ts := by
 have h0 : s.data.toList.length = s.size := by simp
 have h1 := spell_length l
 rw [h, ] at h0
 have hle : l.length ≤ (spell l).length := by
  clear h h0 h1 hl
  induction l with
  | nil => simp
  | cons b l ih =>
   have h2 := ih (fun c hc => hb c (by simp [hc]))
   have h3 : 1 ≤ (sp1 b).length := by unfold sp1; rw [if_pos (hb b (by simp))]; split <;> simp
   simp only [spell, List.flatMap_cons, List.length_append, List.length_cons] at h2 ⊢
   omega
 unfold Lx.lex
 rw [if_neg (by omega)]
 obtain ⟨ts, h2, h3⟩ := run_plain (s := s) (chars := chars) (fold := fold) l (s.size + 1) ⟨0, []⟩ hb (by simpa using h) (by omega) (Nat.zero_le _)
 exact ⟨ts, by simpa using h2, h3⟩
theorem spell_shown (l : List UInt8) : spell l = spell (shownB l) := by
 induction l with
 | nil => rfl
 | cons b l ih =>
  by_cases hb : b < 128
  ·simp only [shownB, List.filter_cons, hb, decide_true, if_true]
   simp only [spell, List.flatMap_cons] at ih ⊢
   rw [ih]; rfl
  ·simp only [shownB, List.filter_cons, hb, decide_false]
   simp only [spell, List.flatMap_cons] at ih ⊢
   rw [ih, show sp1 b = [] by unfold sp1; rw [if_neg hb]]; rfl
theorem shown_lt (l : List UInt8) : ∀ b ∈ shownB l, b < 128 := by intro b hb; simpa [shownB] using (List.mem_filter.1 hb).2
end Go.Proofs.YtamhkdlcoghdbaaDoor.PCls
