/- Put together (wip/tools/pack.py): Str, La, Lu, Nx, Nn. -/
import Derived.Shelf.Strings.Search1
import Derived.Shelf.Strings.Search2
import Derived.Shelf.Strings.Search3
import Derived.Shelf.Strings.Prefix
import Derived.Test.YtamhkdlcoghdbaaDoorKMSpl
import Derived.Lib.IndexBytes
import Derived.Lib.DecodeN
import Derived.Lib.RuneCount
/-
 DERIVED: THE SHELF's CONTRACTS AT THIS DUMP, IN PLAIN WORDS (tools/lay-plain.mjs out of 'YtamhkdlcoghdbaaDoorStr0.lean', which tools/lay-shelf.mjs wrote): THE SAME DECLARATIONS UNDER THE SAME NAMES: 'import', 'namespace', 'open', 'def', 'theorem' AND NOTHING ELSE: no command of the shelf's: FOR A HAND-IN. Each laying: the table of numbers ('.._ren') and one theorem, a field a fact of the dump's own or the kernel's comparison; each contract: ONE APPLICATION.
-/
namespace Go.Proofs
open Go.Shelf
def Tryd.lays143_ren : Go.Shelf.Ren := ⟨fun | 143 => 121 | 219 => 128 | 217 => 131 | 225 => 132 | 224 => 133 | 267 => 134 | 266 => 135 | 314 => 136 | n => n, fun | 9 => 9 | 3 => 3 | 4 => 4 | 5 => 5 | 46 => 132 | 146 => 166 | 51 => 146 | n => n, fun | 1 => 2 | n => n⟩
theorem Tryd.lays143 : Go.Proofs.Lays.n143 Tryd.prog Tryd.lays143_ren := {
 mixed := by kernel_rfl
 f143 := Tryd.func121.trans (congrArg some (by kernel_rfl))
 f217 := Tryd.func131.trans (congrArg some (by kernel_rfl))
 f219 := Tryd.func128.trans (congrArg some (by kernel_rfl))
 f224 := Tryd.func133.trans (congrArg some (by kernel_rfl))
 f225 := Tryd.func132.trans (congrArg some (by kernel_rfl))
 f266 := Tryd.func135.trans (congrArg some (by kernel_rfl))
 f267 := Tryd.func134.trans (congrArg some (by kernel_rfl))
 f314 := Tryd.func136.trans (congrArg some (by kernel_rfl))
 t3 := Tryd.underlying3
 a3 := Tryd.isAgg3
 z3 := Tryd.sizeOf3
 v3 := Tryd.zeroValue3
 t4 := Tryd.underlying4
 a4 := Tryd.isAgg4
 z4 := Tryd.sizeOf4
 v4 := Tryd.zeroValue4
 t5 := Tryd.underlying5
 a5 := Tryd.isAgg5
 z5 := Tryd.sizeOf5
 v5 := Tryd.zeroValue5
 t9 := Tryd.underlying9
 a9 := Tryd.isAgg9
 z9 := Tryd.sizeOf9
 v9 := Tryd.zeroValue9
 t46 := Tryd.underlying132
 a46 := Tryd.isAgg132
 z46 := Tryd.sizeOf132
 v46 := Tryd.zeroValue132
 t51 := Tryd.underlying146
 a51 := Tryd.isAgg146
 z51 := Tryd.sizeOf146
 v51 := Tryd.zeroValue146
 t146 := Tryd.underlying166
 a146 := Tryd.isAgg166
 z146 := Tryd.sizeOf166
 v146 := Tryd.zeroValue166
 g1 := by kernel_rfl }
open Go.RowKit Go.Lib in
/-- strings.Index: "Index returns the index of the first instance of substr in s, or -1 if substr is not present in s.": IT RETURNS 'Lib.index s substr'; the world is as it was. (LAID: no walk: one application.) -/
theorem Tryd.strings_Index (s sub : ByteArray) (m : Int) (w : World) (hs : s.size < 4294967281) (hm : w.cell? ⟨2, 0, none⟩ = some (.int .i64 m)) :
  Calls Tryd.prog 121 #[.string s, .string sub] w fun e w' => e = .returned (.int .i64 (Lib.index s.data.toList sub.data.toList)) ∧ w' = w := Any.strings_Index Tryd.lays143 s sub m w hs hm
def Tryd.lays206_ren : Go.Shelf.Ren := ⟨fun | 206 => 109 | n => n, fun | 9 => 9 | 4 => 4 | 3 => 3 | n => n, fun | n => n⟩
theorem Tryd.lays206 : Go.Proofs.Lays.n206 Tryd.prog Tryd.lays206_ren := {
 mixed := by kernel_rfl
 f206 := Tryd.func109.trans (congrArg some (by kernel_rfl))
 t3 := Tryd.underlying3
 a3 := Tryd.isAgg3
 z3 := Tryd.sizeOf3
 v3 := Tryd.zeroValue3
 t4 := Tryd.underlying4
 a4 := Tryd.isAgg4
 z4 := Tryd.sizeOf4
 v4 := Tryd.zeroValue4
 t9 := Tryd.underlying9
 a9 := Tryd.isAgg9
 z9 := Tryd.sizeOf9
 v9 := Tryd.zeroValue9 }
open Go.RowKit Go.Lib in
/-- internal/stringslite.HasPrefix (what strings.HasPrefix calls). (LAID: no walk: one application.) -/
theorem Tryd.stringslite_HasPrefix (s p : ByteArray) (w : World) :
  Calls Tryd.prog 109 #[.string s, .string p] w fun e w' => e = .returned (.bool (Lib.hasPrefix s.data.toList p.data.toList)) ∧ w' = w := Any.stringslite_HasPrefix Tryd.lays206 s p w
def Tryd.lays99_ren : Go.Shelf.Ren := ⟨fun | 99 => 100 | 206 => 109 | n => n, fun | 9 => 9 | 4 => 4 | 3 => 3 | n => n, fun | n => n⟩
theorem Tryd.lays99 : Go.Proofs.Lays.n99 Tryd.prog Tryd.lays99_ren := {
 mixed := by kernel_rfl
 f99 := Tryd.func100.trans (congrArg some (by kernel_rfl))
 f206 := Tryd.func109.trans (congrArg some (by kernel_rfl))
 t3 := Tryd.underlying3
 a3 := Tryd.isAgg3
 z3 := Tryd.sizeOf3
 v3 := Tryd.zeroValue3
 t4 := Tryd.underlying4
 a4 := Tryd.isAgg4
 z4 := Tryd.sizeOf4
 v4 := Tryd.zeroValue4
 t9 := Tryd.underlying9
 a9 := Tryd.isAgg9
 z9 := Tryd.sizeOf9
 v9 := Tryd.zeroValue9 }
open Go.RowKit Go.Lib in
/-- strings.HasPrefix: "HasPrefix reports whether the string s begins with prefix.": IT RETURNS 'Lib.hasPrefix s prefix'; the world is as it was. (LAID: no walk: one application.) -/
theorem Tryd.strings_HasPrefix (s p : ByteArray) (w : World) :
  Calls Tryd.prog 100 #[.string s, .string p] w fun e w' => e = .returned (.bool (Lib.hasPrefix s.data.toList p.data.toList)) ∧ w' = w := Any.strings_HasPrefix Tryd.lays99 s p w
end Go.Proofs
/- The lexer's small readers, walked. -/
namespace Go.Proofs.YtamhkdlcoghdbaaDoor.PCls
open Go.RowKit Go.Shelf Go.Proofs.YtamhkdlcoghdbaaDoorW.PrintWords Go.Proofs.YtamhkdlcoghdbaaDoorW.PrintLast Go.Proofs.YtamhkdlcoghdbaaDoorW.PrintMore
set_option linter.unusedVariables false
set_option linter.unusedSimpArgs false

theorem lk_cell {w : World} {b i : Nat} {cs : Array Value} {t : TypeId} {v : Value} (h : w.heap[b]? = some (.cells cs t (0, 0))) (hi : cs[i]? = some v) : w.cell? ⟨b, i, none⟩ = some v := by
 simp [World.cell?, h, hi]
theorem w64_in (n : Int) (h0 : -9223372036854775808 ≤ n) (h1 : n ≤ 9223372036854775807) : wrap64 n = n := by
 unfold wrap64; omega
theorem blk_tail (s : ByteArray) (p : Nat) : (s.extract p s.size).data.toList = s.data.toList.drop p := Lib.extract_to_end s p
theorem byt_at (s : ByteArray) (p : Nat) (h : p < s.size) : Lx.byt s p = (s[p]'h).toNat := by
 have h' : p < s.data.toList.length := by simpa using h
 unfold Lx.byt
 rw [List.getD_eq_getElem?_getD, List.getElem?_eq_getElem h']
 rfl
/-- a scanner in memory -/
def Sc (W : World) (B : Nat) (s : ByteArray) (chars fold : Bool) (p : Nat) (V : Value) : Prop := W.heap[B]? = some (.cells #[.string s, .bool chars, .bool fold, .int .i64 p, V] 86 (0, 0))
theorem Sc.below {A W : World} {B : Nat} {s : ByteArray} {chars fold : Bool} {p : Nat} {V : Value} (h : Sc A B s chars fold p V) (hb : Below A.heap.size A W) : Sc W B s chars fold p V :=
 (hb.block B (Array.getElem?_eq_some_iff.1 h).1).trans h
theorem Sc.c0 {W : World} {B : Nat} {s : ByteArray} {chars fold : Bool} {p : Nat} {V : Value} (h : Sc W B s chars fold p V) : W.cell? ⟨B, 0, none⟩ = some (.string s) := lk_cell (i := 0) h rfl
theorem Sc.c1 {W : World} {B : Nat} {s : ByteArray} {chars fold : Bool} {p : Nat} {V : Value} (h : Sc W B s chars fold p V) : W.cell? ⟨B, 1, none⟩ = some (.bool chars) := lk_cell (i := 1) h rfl
theorem Sc.c2 {W : World} {B : Nat} {s : ByteArray} {chars fold : Bool} {p : Nat} {V : Value} (h : Sc W B s chars fold p V) : W.cell? ⟨B, 2, none⟩ = some (.bool fold) := lk_cell (i := 2) h rfl
theorem Sc.c3 {W : World} {B : Nat} {s : ByteArray} {chars fold : Bool} {p : Nat} {V : Value} (h : Sc W B s chars fold p V) : W.cell? ⟨B, 3, none⟩ = some (.int .i64 p) := lk_cell (i := 3) h rfl
theorem Sc.c4 {W : World} {B : Nat} {s : ByteArray} {chars fold : Bool} {p : Nat} {V : Value} (h : Sc W B s chars fold p V) : W.cell? ⟨B, 4, none⟩ = some V := lk_cell (i := 4) h rfl

/-- the error that is given up with -/
def Bad (n : Nat) (w' : World) (e : Ending) (c p : Int) : Prop := ∃ g, e = .panicked [⟨.iface 82 (.pointer (some ⟨g, 0, none⟩)), false, false⟩] ∧ n ≤ g ∧ w'.heap[g]? = some (.cells #[.int .i64 c, .int .i64 p] 89 (0, 0))
set_option maxHeartbeats 2000000 in
theorem fail_calls (c p : Int) (w : World) : Calls Tryd.prog 48 #[.int .i64 c, .int .i64 p] w fun e w' => Bad w.heap.size w' e c p ∧ Below w.heap.size w w' := by
 go_enter Tryd.func48, Tryd.ntmps48
 go_wp2
 have h1 : Bad w.heap.size (w.alloc (.cells #[.int .i64 c, .int .i64 p] 89)) (.panicked [⟨.iface 82 (.pointer (some ⟨w.heap.size, 0, none⟩)), false, false⟩]) c p := ⟨_, rfl, Nat.le_refl _, heap_alloc_new w _⟩
 have h2 := And.intro h1 ((Below.refl w.heap.size w).alloc (Nat.le_refl _) (.cells #[.int .i64 c, .int .i64 p] 89))
 exact ⟨rfl, h2⟩
theorem Bad.mono {n m : Nat} {w' : World} {e : Ending} {c p : Int} (h : Bad n w' e c p) (hm : m ≤ n) : Bad m w' e c p := by
 obtain ⟨g, h1, h2, h3⟩ := h
 exact ⟨g, h1, Nat.le_trans hm h2, h3⟩
set_option maxHeartbeats 2000000 in
theorem here_calls (W : World) (B p : Nat) (s t : ByteArray) (c0 : W.cell? ⟨B, 0, none⟩ = some (.string s)) (hs : s.size ≤ 9223372036854775807) :
  Calls Tryd.prog 76 #[.pointer (some ⟨B, 0, none⟩), .int .i64 p, .string t] W fun e w' => e = .returned (.bool (Lx.here s p t.data.toList)) ∧ w' = W := by
 by_cases hp : p ≤ s.size
 ·have h0 : (0 : Int) ≤ (p : Int) := by omega
  have h1 : (p : Int) ≤ (s.size : Int) := by omega
  have hb : decide ((p : Int) ≤ (s.size : Int)) = true := decide_eq_true h1
  have HX := Lib.hid (show Lx.here s p t.data.toList = Lib.hasPrefix (s.extract p s.size).data.toList t.data.toList by rw [blk_tail]; simp [Lx.here, hp])
  clear hp
  go_enter Tryd.func76, Tryd.ntmps76
  go_wp2_with fail
  refine (Tryd.strings_HasPrefix _ _ _).mono ?_
  rw [← HX.out]
  rintro e w' ⟨rfl, rfl⟩
  go_wp2_with fail
  go_ret
  exact ⟨rfl, rfl⟩
 ·have h1 : ¬ (p : Int) ≤ (s.size : Int) := by omega
  have HX := Lib.hid (show Lx.here s p t.data.toList = false by simp [Lx.here, hp])
  clear hp
  go_enter Tryd.func76, Tryd.ntmps76
  go_wp2_with fail
  go_ret
  exact ⟨by rw [HX.out]; rfl, rfl⟩
set_option maxHeartbeats 2000000 in
theorem Next_calls (s : ByteArray) (p : Nat) (w : World) (hT : Lib.Utf8Tabs 0 1 w) (hs : s.size ≤ 9223372036854775807) (hp : p ≤ 9223372036854775807) : Calls Tryd.prog 93 #[.string s, .int .i64 p] w fun e w' =>
  e = .returned (.tuple #[.int .i64 (Lx.unit s true p).1, .int .i64 (Lx.unit s true p).2]) ∧ Below w.heap.size w w' := by
 by_cases hp : p < s.size
 ·have h0 : (0 : Int) ≤ (p : Int) := by omega
  have h1 : (p : Int) ≤ (s.size : Int) := by omega
  have h2 : ¬ (s.size : Int) ≤ (p : Int) := by omega
  have h3 : decide ((p : Int) < 0) = false := decide_eq_false (by omega)
  have h4 : decide (s.size ≤ p) = false := decide_eq_false (by omega)
  have h5 : ¬ s.size ≤ p := by omega
  have hc := Tryd.utf8_DecodeRuneInString (s.extract p s.size) w hT
  rw [go_tail s p hp] at hc
  have hu : Lx.unit s true p = (if okAt s p = true then ((((Utf8.decode s p).1 : Nat) : Int), (Utf8.decode s p).2) else ((-1 : Int), 1) : Int × Nat) := by simp [Lx.unit, hp]
  have hle := Lib.rune_le s p
  have hok : okAt s p = (decide (((Utf8.decode s p).1 : Int) ≠ 65533) || decide (1 < ((Utf8.decode s p).2 : Int))) := by
   unfold okAt
   rw [Bool.eq_iff_iff]
   simp
   omega
  generalize Lx.unit s true p = u at hu ⊢
  obtain ⟨r, hr⟩ : ∃ r, r = (Utf8.decode s p).1 := ⟨_, rfl⟩
  obtain ⟨n, hn⟩ : ∃ n, n = (Utf8.decode s p).2 := ⟨_, rfl⟩
  rw [← hr, ← hn] at hu hc hok
  rw [← hr] at hle
  have HC := Lib.hid hc
  have HU := Lib.hid hu
  have HOK := Lib.hid hok
  clear hr hn hc hu hp hok
  go_enter Tryd.func93, Tryd.ntmps93
  go_wp2_with fail
  refine HC.out.mono ?_
  rintro e w5 ⟨rfl, hb5⟩
  have HB := Lib.hid hb5
  clear hb5 HC
  go_wp2_with fail
  refine (valid_calls _ _ _).mono ?_
  rintro e w6 ⟨rfl, rfl⟩
  rw [← HOK.out]
  cases hok : okAt s p
  ·have HV := Lib.hid (show u = (-1, 1) by rw [HU.out, hok]; rfl)
   clear hok
   go_wp2_with fail
   go_ret2
   exact ⟨by rw [HV.out]; rfl, HB.out⟩
  ·have HV := Lib.hid (show u = ((r : Int), n) by rw [HU.out, hok]; rfl)
   clear hok
   go_wp2_with fail
   go_ret2
   exact ⟨by rw [HV.out]; rfl, HB.out⟩
 ·have h1 : s.size ≤ p := by omega
  have h4 : decide (s.size ≤ p) = true := decide_eq_true h1
  have h3 : decide ((p : Int) < 0) = false := decide_eq_false (by omega)
  have HX := Lib.hid (show Lx.unit s true p = (0, 0) by simp [Lx.unit, hp])
  clear hp
  go_enter Tryd.func93, Tryd.ntmps93
  go_wp2_with fail
  go_ret2
  exact ⟨by rw [HX.out]; rfl, Below.refl _ _⟩

set_option maxHeartbeats 2000000 in
theorem unit_calls (W : World) (B p q : Nat) (s : ByteArray) (chars fold : Bool) (V : Value) (hT : Lib.Utf8Tabs 0 1 W) (h : Sc W B s chars fold q V) (hs : s.size ≤ 9223372036854775807) (hp : p ≤ 9223372036854775807) :
  Calls Tryd.prog 69 #[.pointer (some ⟨B, 0, none⟩), .int .i64 p] W fun e w' => e = .returned (.tuple #[.int .i64 (Lx.unit s chars p).1, .int .i64 (Lx.unit s chars p).2]) ∧ Below W.heap.size W w' := by
 have c0 := h.c0
 have c1 := h.c1
 clear h
 cases chars with
 | true =>
  obtain ⟨u, hu⟩ : ∃ u, u = Lx.unit s true p := ⟨_, rfl⟩
  have HC := Lib.hid (Next_calls s p W hT hs hp)
  rw [← hu] at HC ⊢
  clear hu
  go_enter Tryd.func69, Tryd.ntmps69
  go_wp2_with fail
  refine HC.out.mono ?_
  rintro e w5 ⟨rfl, hb5⟩
  have HB := Lib.hid hb5
  clear hb5 HC
  go_wp2_with fail
  go_ret2
  exact ⟨rfl, HB.out⟩
 | false =>
  by_cases hlt : p < s.size
  ·have h0 : (0 : Int) ≤ (p : Int) := by omega
   have h1 : (p : Int) < (s.size : Int) := by omega
   have h2 : ¬ s.size ≤ p := by omega
   have HX := Lib.hid (show Lx.unit s false p = ((Lx.byt s p : Int), 1) by simp [Lx.unit, hlt])
   have hb : (s.data.toList.getD p 0).toNat = Lx.byt s p := rfl
   clear hlt
   go_enter Tryd.func69, Tryd.ntmps69
   go_wp2_with fail
   go_ret2
   exact ⟨by rw [HX.out, byt_at s p (by omega)]; exact congrArg (fun z => Ending.returned (Value.tuple #[Value.int .i64 z, Value.int .i64 1])) (w64_in _ (by omega) (by have := s[p].toNat_lt; omega)), Below.refl _ _⟩
  ·have h2 : s.size ≤ p := by omega
   have HX := Lib.hid (show Lx.unit s false p = (0, 0) by simp [Lx.unit, hlt])
   clear hlt
   go_enter Tryd.func69, Tryd.ntmps69
   go_wp2_with fail
   go_ret2
   exact ⟨by rw [HX.out]; rfl, Below.refl _ _⟩
end Go.Proofs.YtamhkdlcoghdbaaDoor.PCls
/- The lexer in plain Lean: bounds. -/
namespace Go.Proofs.YtamhkdlcoghdbaaDoor.PCls
set_option linter.unusedVariables false

theorem decodeN_fits (n b0 b1 b2 b3 : Nat) (hn : 1 ≤ n) : (Lib.decodeN n b0 b1 b2 b3).2 ≤ n := by
 unfold Lib.decodeN
 repeat' split
 all_goals simp only
 all_goals omega
theorem unit_lim (s : ByteArray) (chars : Bool) (p : Nat) (h : p < s.size) : -1 ≤ (Lx.unit s chars p).1 ∧ (Lx.unit s chars p).1 ≤ 1114111 ∧ 1 ≤ (Lx.unit s chars p).2 ∧ p + (Lx.unit s chars p).2 ≤ s.size := by
 have h1 := Lib.rune_le s p
 have h2 := Lib.decode_width_pos s p h
 have h3 : (Utf8.decode s p).2 ≤ s.size - p := by rw [Lib.decode_at]; exact decodeN_fits _ _ _ _ _ (by omega)
 have h4 := byt_at s p h
 have h5 := s[p].toNat_lt
 unfold Lx.unit
 rw [if_pos h]
 cases chars with
 | false => simp only [Bool.false_eq_true, if_false]; omega
 | true =>
  simp only [if_true]
  split <;> simp only <;> omega
theorem unit_none (s : ByteArray) (chars : Bool) (p : Nat) (h : ¬ p < s.size) : Lx.unit s chars p = (0, 0) := by unfold Lx.unit; rw [if_neg h]
theorem unit_rng (s : ByteArray) (chars : Bool) (p : Nat) : -1 ≤ (Lx.unit s chars p).1 ∧ (Lx.unit s chars p).1 ≤ 1114111 ∧ (Lx.unit s chars p).2 ≤ s.size := by
 by_cases h : p < s.size
 ·have := unit_lim s chars p h; omega
 ·rw [unit_none s chars p h]; simp
end Go.Proofs.YtamhkdlcoghdbaaDoor.PCls
/- The unit at a place, in plain Lean: as the reference reckons it. -/
namespace Go.Proofs.YtamhkdlcoghdbaaDoor.PCls
set_option linter.unusedVariables false
set_option linter.unusedSimpArgs false

theorem len_size (s : ByteArray) : s.data.toList.length = s.size := by simp
theorem get_byt (s : ByteArray) (i : Nat) : (s.get! i).toNat = Lx.byt s i := by
 unfold Lx.byt
 rw [List.getD_eq_getElem?_getD]
 by_cases h : i < s.size
 ·have h' : i < s.data.toList.length := by rw [len_size]; exact h
  rw [List.getElem?_eq_getElem h']
  simp [ByteArray.get!, h]
 ·rw [List.getElem?_eq_none (by rw [len_size]; omega)]
  have h2 : s.data.size ≤ i := by have : s.data.size = s.size := rfl; omega
  have h3 : ByteArray.get! s i = s.data[i]! := by cases s; rfl
  rw [h3, getElem!_neg _ _ (by omega)]
  rfl
def v2 (b0 b1 : Nat) : Nat := 64 * (b0 - 192) + (b1 - 128)
def v3 (b0 b1 b2 : Nat) : Nat := 64 * (64 * (b0 - 224) + (b1 - 128)) + (b2 - 128)
def v4 (b0 b1 b2 b3 : Nat) : Nat := 64 * (64 * (64 * (b0 - 240) + (b1 - 128)) + (b2 - 128)) + (b3 - 128)
set_option maxRecDepth 100000 in
set_option maxHeartbeats 2000000 in
theorem dN2 (n b0 b1 b2 b3 : Nat) (h0 : 192 ≤ b0 ∧ b0 < 224) : Lib.decodeN n b0 b1 b2 b3 = if 1 < n ∧ 128 ≤ b1 ∧ b1 ≤ 191 ∧ 128 ≤ v2 b0 b1 then (v2 b0 b1, 2) else (65533, 1) := by
 unfold Lib.decodeN v2
 repeat' split
 all_goals first | rfl | (exfalso; omega) | (apply Prod.ext <;> simp only <;> omega)
set_option maxRecDepth 100000 in
set_option maxHeartbeats 2000000 in
theorem dN3 (n b0 b1 b2 b3 : Nat) (h0 : 224 ≤ b0 ∧ b0 < 240) : Lib.decodeN n b0 b1 b2 b3 = if 2 < n ∧ 128 ≤ b1 ∧ b1 ≤ 191 ∧ 128 ≤ b2 ∧ b2 ≤ 191 ∧ 2048 ≤ v3 b0 b1 b2 ∧ (v3 b0 b1 b2 < 55296 ∨ 57343 < v3 b0 b1 b2) then (v3 b0 b1 b2, 3) else (65533, 1) := by
 unfold Lib.decodeN v3
 repeat' split
 all_goals first | rfl | (exfalso; omega) | (apply Prod.ext <;> simp only <;> omega)
set_option maxRecDepth 100000 in
set_option maxHeartbeats 2000000 in
theorem dN4 (n b0 b1 b2 b3 : Nat) (h0 : 240 ≤ b0 ∧ b0 < 248) : Lib.decodeN n b0 b1 b2 b3 = if 3 < n ∧ 128 ≤ b1 ∧ b1 ≤ 191 ∧ 128 ≤ b2 ∧ b2 ≤ 191 ∧ 128 ≤ b3 ∧ b3 ≤ 191 ∧ 65536 ≤ v4 b0 b1 b2 b3 ∧ v4 b0 b1 b2 b3 ≤ 1114111 then (v4 b0 b1 b2 b3, 4) else (65533, 1) := by
 unfold Lib.decodeN v4
 repeat' split
 all_goals first | rfl | (exfalso; omega) | (apply Prod.ext <;> simp only <;> omega)
theorem dNx (n b0 b1 b2 b3 : Nat) (h0 : (128 ≤ b0 ∧ b0 < 192) ∨ 248 ≤ b0) (h1 : b0 < 256) : Lib.decodeN n b0 b1 b2 b3 = (65533, 1) := by
 unfold Lib.decodeN
 repeat' split
 all_goals first | rfl | (exfalso; omega)
def dAt (s : ByteArray) (p : Nat) : Nat × Nat := Lib.decodeN (s.size - p) (Lx.byt s p) (Lx.byt s (p + 1)) (Lx.byt s (p + 2)) (Lx.byt s (p + 3))
theorem dAt_eq (s : ByteArray) (p : Nat) : Utf8.decode s p = dAt s p := by rw [Lib.decode_at]; simp only [get_byt]; rfl
theorem unit_bad {s : ByteArray} {p : Nat} (hp : p < s.size) (h : dAt s p = (65533, 1)) : Lx.unit s true p = (-1, 1) := by
 unfold Lx.unit
 rw [if_pos hp, if_pos rfl]
 rw [if_neg]
 unfold okAt
 rw [dAt_eq, h]
 decide
theorem unit_ok {s : ByteArray} {p v k : Nat} (hp : p < s.size) (h : dAt s p = (v, k)) (hk : 1 < k) : Lx.unit s true p = ((v : Int), k) := by
 unfold Lx.unit
 rw [if_pos hp, if_pos rfl, if_pos, dAt_eq, h]
 unfold okAt
 rw [dAt_eq, h]
 simp
 omega
/-- a character's bytes -/
def encB (c : Nat) : List UInt8 :=
 if c < 128 then [UInt8.ofNat c] else if c < 2048 then [UInt8.ofNat (192 + c / 64), UInt8.ofNat (128 + c % 64)]
 else if c < 65536 then [UInt8.ofNat (224 + c / 4096), UInt8.ofNat (128 + c / 64 % 64), UInt8.ofNat (128 + c % 64)]
 else [UInt8.ofNat (240 + c / 262144), UInt8.ofNat (128 + c / 4096 % 64), UInt8.ofNat (128 + c / 64 % 64), UInt8.ofNat (128 + c % 64)]
theorem byt_lt (s : ByteArray) (p : Nat) : Lx.byt s p < 256 := by unfold Lx.byt; exact UInt8.toNat_lt _
theorem ofNat_byt (s : ByteArray) (p : Nat) : UInt8.ofNat (Lx.byt s p) = s.data.toList.getD p 0 := by unfold Lx.byt; simp
def piece (s : ByteArray) (p n : Nat) : List UInt8 := (List.range n).map fun i => s.data.toList.getD (p + i) 0
theorem encB2 (s : ByteArray) (p : Nat) (h0 : 192 ≤ Lx.byt s p ∧ Lx.byt s p < 224) (h1 : 128 ≤ Lx.byt s (p + 1) ∧ Lx.byt s (p + 1) ≤ 191) : encB (v2 (Lx.byt s p) (Lx.byt s (p + 1))) = [s.data.toList.getD p 0, s.data.toList.getD (p + 1) 0] ↔ 128 ≤ v2 (Lx.byt s p) (Lx.byt s (p + 1)) := by
 have a := byt_lt s p
 have b := byt_lt s (p + 1)
 rw [← ofNat_byt, ← ofNat_byt]
 unfold encB
 generalize Lx.byt s p = x at *
 generalize Lx.byt s (p + 1) = y at *
 unfold v2
 split
 ·simp; omega
 ·rw [if_pos (by omega), show 192 + (64 * (x - 192) + (y - 128)) / 64 = x by omega, show 128 + (64 * (x - 192) + (y - 128)) % 64 = y by omega]
  simp; omega
theorem encB3 (s : ByteArray) (p : Nat) (h0 : 224 ≤ Lx.byt s p ∧ Lx.byt s p < 240) (h1 : 128 ≤ Lx.byt s (p + 1) ∧ Lx.byt s (p + 1) ≤ 191) (h2 : 128 ≤ Lx.byt s (p + 2) ∧ Lx.byt s (p + 2) ≤ 191) : encB (v3 (Lx.byt s p) (Lx.byt s (p + 1)) (Lx.byt s (p + 2))) = [s.data.toList.getD p 0, s.data.toList.getD (p + 1) 0, s.data.toList.getD (p + 2) 0] ↔ 2048 ≤ v3 (Lx.byt s p) (Lx.byt s (p + 1)) (Lx.byt s (p + 2)) := by
 rw [← ofNat_byt, ← ofNat_byt, ← ofNat_byt]
 unfold encB
 generalize Lx.byt s p = x at *
 generalize Lx.byt s (p + 1) = y at *
 generalize Lx.byt s (p + 2) = z at *
 unfold v3
 split
 ·simp; omega
 split
 ·simp; omega
 ·rw [if_pos (by omega), show 224 + (64 * (64 * (x - 224) + (y - 128)) + (z - 128)) / 4096 = x by omega, show 128 + (64 * (64 * (x - 224) + (y - 128)) + (z - 128)) / 64 % 64 = y by omega, show 128 + (64 * (64 * (x - 224) + (y - 128)) + (z - 128)) % 64 = z by omega]
  simp; omega
theorem encB4 (s : ByteArray) (p : Nat) (h0 : 240 ≤ Lx.byt s p ∧ Lx.byt s p < 248) (h1 : 128 ≤ Lx.byt s (p + 1) ∧ Lx.byt s (p + 1) ≤ 191) (h2 : 128 ≤ Lx.byt s (p + 2) ∧ Lx.byt s (p + 2) ≤ 191) (h3 : 128 ≤ Lx.byt s (p + 3) ∧ Lx.byt s (p + 3) ≤ 191) : encB (v4 (Lx.byt s p) (Lx.byt s (p + 1)) (Lx.byt s (p + 2)) (Lx.byt s (p + 3))) = [s.data.toList.getD p 0, s.data.toList.getD (p + 1) 0, s.data.toList.getD (p + 2) 0, s.data.toList.getD (p + 3) 0] ↔ 65536 ≤ v4 (Lx.byt s p) (Lx.byt s (p + 1)) (Lx.byt s (p + 2)) (Lx.byt s (p + 3)) := by
 rw [← ofNat_byt, ← ofNat_byt, ← ofNat_byt, ← ofNat_byt]
 unfold encB
 generalize Lx.byt s p = x at *
 generalize Lx.byt s (p + 1) = y at *
 generalize Lx.byt s (p + 2) = z at *
 generalize Lx.byt s (p + 3) = t at *
 unfold v4
 split
 ·simp; omega
 split
 ·simp; omega
 split
 ·simp; omega
 ·rw [show 240 + (64 * (64 * (64 * (x - 240) + (y - 128)) + (z - 128)) + (t - 128)) / 262144 = x by omega, show 128 + (64 * (64 * (64 * (x - 240) + (y - 128)) + (z - 128)) + (t - 128)) / 4096 % 64 = y by omega, show 128 + (64 * (64 * (64 * (x - 240) + (y - 128)) + (z - 128)) + (t - 128)) / 64 % 64 = z by omega, show 128 + (64 * (64 * (64 * (x - 240) + (y - 128)) + (z - 128)) + (t - 128)) % 64 = t by omega]
  simp; omega
end Go.Proofs.YtamhkdlcoghdbaaDoor.PCls
/- The unit at a place, walked as the reference reckons it. -/
namespace Go.Proofs.YtamhkdlcoghdbaaDoor.PCls
open Go.RowKit Go.Shelf Go.Proofs.YtamhkdlcoghdbaaDoorW.PrintWords Go.Proofs.YtamhkdlcoghdbaaDoorW.PrintLast Go.Proofs.YtamhkdlcoghdbaaDoorW.PrintMore
set_option linter.unusedVariables false
set_option linter.unusedSimpArgs false

def isC (c : Nat) : Bool := decide (c ≤ 1114111) && (decide (c < 55296) || decide (57343 < c))
set_option maxHeartbeats 2000000 in
theorem is_calls (c : Nat) (w : World) : Calls Tryd.prog 90 #[.int .i64 c] w fun e w' => e = .returned (.bool (isC c)) ∧ w' = w := by
 have h0 : (0 : Int) ≤ (c : Int) := by omega
 by_cases h1 : c ≤ 1114111
 ·have i1 : (c : Int) ≤ 1114111 := by omega
  by_cases h2 : c < 55296
  ·have i2 : (c : Int) < 55296 := by omega
   have HX := Lib.hid (show isC c = true by simp [isC, h1, h2])
   clear h1 h2
   go_enter Tryd.func90, Tryd.ntmps90
   go_wp2_with fail
   go_ret
   exact ⟨by rw [HX.out]; rfl, rfl⟩
  ·have i2 : ¬ (c : Int) < 55296 := by omega
   by_cases h3 : 57343 < c
   ·have i3 : 57343 < (c : Int) := by omega
    have HX := Lib.hid (show isC c = true by simp [isC, h1, h3])
    clear h1 h2 h3
    go_enter Tryd.func90, Tryd.ntmps90
    go_wp2_with fail
    go_ret
    exact ⟨by rw [HX.out]; rfl, rfl⟩
   ·have i3 : ¬ 57343 < (c : Int) := by omega
    have HX := Lib.hid (show isC c = false by simp [isC, h1, h2, h3])
    clear h1 h2 h3
    go_enter Tryd.func90, Tryd.ntmps90
    go_wp2_with fail
    go_ret
    exact ⟨by rw [HX.out]; rfl, rfl⟩
 ·have i1 : ¬ (c : Int) ≤ 1114111 := by omega
  have HX := Lib.hid (show isC c = false by simp [isC, h1])
  clear h1
  go_enter Tryd.func90, Tryd.ntmps90
  go_wp2_with fail
  go_ret
  exact ⟨by rw [HX.out]; rfl, rfl⟩
theorem conv_new (w : World) (xs : List Int) : (convert 58 9 (.slice (some ⟨w.heap.size, 0, none⟩) xs.length xs.length)).run Tryd.prog (w.alloc (.cells (xs.map (Value.int .u8)).toArray 5)) = .ok (.string (strOfNums xs)) (w.alloc (.cells (xs.map (Value.int .u8)).toArray 5)) := by
 refine run_convert_bytes_arg _ 58 5 Tryd.underlying58 Tryd.underlying5 w.heap.size 0 xs.length xs.length xs rfl (fun i hi => ?_) 9 Tryd.underlying9
 rw [Nat.zero_add]
 refine lk_cell (heap_alloc_new w _) ?_
 simp [List.getElem?_map, List.getD, List.getElem?_eq_getElem hi]
theorem str_of (xs : List Int) (l : List UInt8) (h : xs.map (fun n => UInt8.ofNat n.toNat) = l) : strOfNums xs = ⟨l.toArray⟩ := by subst h; rfl
theorem below_new (w : World) (o : Obj) : Below w.heap.size w (w.alloc o) := (Below.refl w.heap.size w).alloc (Nat.le_refl _) o
set_option maxHeartbeats 2000000 in
set_option maxRecDepth 100000 in
theorem text_calls (c : Nat) (hc : c ≤ 2097151) (w : World) : Calls Tryd.prog 91 #[.int .i64 c] w fun e w' => e = .returned (.string ⟨(encB c).toArray⟩) ∧ Below w.heap.size w w' := by
 have h0 : (0 : Int) ≤ (c : Int) := by omega
 have h9 : (c : Int) ≤ 2097151 := by omega
 by_cases h1 : c < 128
 ·have i1 : (c : Int) < 128 := by omega
  have HX := Lib.hid (show strOfNums [(c : Int)] = ⟨(encB c).toArray⟩ from str_of _ _ (by simp [encB, h1]))
  have hcv : (convert 58 9 (.slice (some ⟨w.heap.size, 0, none⟩) 1 1)).run Tryd.prog (w.alloc (.cells #[Value.int .u8 ((c : Int))] 5)) = .ok (.string (strOfNums [(c : Int)])) (w.alloc (.cells #[Value.int .u8 ((c : Int))] 5)) := conv_new w [(c : Int)]
  clear h1 hc
  go_enter Tryd.func91, Tryd.ntmps91
  go_wp2_with fail
  go_ret
  exact ⟨by rw [← HX.out]; rfl, below_new _ _⟩
 have i1 : ¬ (c : Int) < 128 := by omega
 by_cases h2 : c < 2048
 ·have i2 : (c : Int) < 2048 := by omega
  have HX := Lib.hid (show strOfNums [192 + (c : Int) / 64, 128 + (c : Int) % 64] = ⟨(encB c).toArray⟩ from str_of _ _ (by
   simp only [encB, if_neg h1, if_pos h2, List.map_cons, List.map_nil]
   rw [show (192 + (c : Int) / 64).toNat = 192 + c / 64 by omega, show (128 + (c : Int) % 64).toNat = 128 + c % 64 by omega]))
  have hcv : (convert 58 9 (.slice (some ⟨w.heap.size, 0, none⟩) 2 2)).run Tryd.prog (w.alloc (.cells #[Value.int .u8 (192 + (c : Int) / 64), Value.int .u8 (128 + (c : Int) % 64)] 5)) = .ok (.string (strOfNums [192 + (c : Int) / 64, 128 + (c : Int) % 64])) (w.alloc (.cells #[Value.int .u8 (192 + (c : Int) / 64), Value.int .u8 (128 + (c : Int) % 64)] 5)) := conv_new w [192 + (c : Int) / 64, 128 + (c : Int) % 64]
  clear h1 hc h2
  go_enter Tryd.func91, Tryd.ntmps91
  go_wp2_with fail
  go_ret
  exact ⟨by rw [← HX.out]; rfl, below_new _ _⟩
 have i2 : ¬ (c : Int) < 2048 := by omega
 by_cases h3 : c < 65536
 ·have i3 : (c : Int) < 65536 := by omega
  have HX := Lib.hid (show strOfNums [224 + (c : Int) / 4096, 128 + (c : Int) / 64 % 64, 128 + (c : Int) % 64] = ⟨(encB c).toArray⟩ from str_of _ _ (by
   simp only [encB, if_neg h1, if_neg h2, if_pos h3, List.map_cons, List.map_nil]
   rw [show (224 + (c : Int) / 4096).toNat = 224 + c / 4096 by omega, show (128 + (c : Int) / 64 % 64).toNat = 128 + c / 64 % 64 by omega, show (128 + (c : Int) % 64).toNat = 128 + c % 64 by omega]))
  have hcv : (convert 58 9 (.slice (some ⟨w.heap.size, 0, none⟩) 3 3)).run Tryd.prog (w.alloc (.cells #[Value.int .u8 (224 + (c : Int) / 4096), Value.int .u8 (128 + (c : Int) / 64 % 64), Value.int .u8 (128 + (c : Int) % 64)] 5)) = .ok (.string (strOfNums [224 + (c : Int) / 4096, 128 + (c : Int) / 64 % 64, 128 + (c : Int) % 64])) (w.alloc (.cells #[Value.int .u8 (224 + (c : Int) / 4096), Value.int .u8 (128 + (c : Int) / 64 % 64), Value.int .u8 (128 + (c : Int) % 64)] 5)) := conv_new w [224 + (c : Int) / 4096, 128 + (c : Int) / 64 % 64, 128 + (c : Int) % 64]
  clear h1 hc h2 h3
  go_enter Tryd.func91, Tryd.ntmps91
  go_wp2_with fail
  go_ret
  exact ⟨by rw [← HX.out]; rfl, below_new _ _⟩
 ·have i3 : ¬ (c : Int) < 65536 := by omega
  have HX := Lib.hid (show strOfNums [240 + (c : Int) / 262144, 128 + (c : Int) / 4096 % 64, 128 + (c : Int) / 64 % 64, 128 + (c : Int) % 64] = ⟨(encB c).toArray⟩ from str_of _ _ (by
   simp only [encB, if_neg h1, if_neg h2, if_neg h3, List.map_cons, List.map_nil]
   rw [show (240 + (c : Int) / 262144).toNat = 240 + c / 262144 by omega, show (128 + (c : Int) / 4096 % 64).toNat = 128 + c / 4096 % 64 by omega, show (128 + (c : Int) / 64 % 64).toNat = 128 + c / 64 % 64 by omega, show (128 + (c : Int) % 64).toNat = 128 + c % 64 by omega]))
  have hcv : (convert 58 9 (.slice (some ⟨w.heap.size, 0, none⟩) 4 4)).run Tryd.prog (w.alloc (.cells #[Value.int .u8 (240 + (c : Int) / 262144), Value.int .u8 (128 + (c : Int) / 4096 % 64), Value.int .u8 (128 + (c : Int) / 64 % 64), Value.int .u8 (128 + (c : Int) % 64)] 5)) = .ok (.string (strOfNums [240 + (c : Int) / 262144, 128 + (c : Int) / 4096 % 64, 128 + (c : Int) / 64 % 64, 128 + (c : Int) % 64])) (w.alloc (.cells #[Value.int .u8 (240 + (c : Int) / 262144), Value.int .u8 (128 + (c : Int) / 4096 % 64), Value.int .u8 (128 + (c : Int) / 64 % 64), Value.int .u8 (128 + (c : Int) % 64)] 5)) := conv_new w [240 + (c : Int) / 262144, 128 + (c : Int) / 4096 % 64, 128 + (c : Int) / 64 % 64, 128 + (c : Int) % 64]
  clear h1 hc h2 h3
  go_enter Tryd.func91, Tryd.ntmps91
  go_wp2_with fail
  go_ret
  exact ⟨by rw [← HX.out]; rfl, below_new _ _⟩
end Go.Proofs.YtamhkdlcoghdbaaDoor.PCls
