/- Put together (wip/tools/pack.py): La, ZShelf. -/
import Derived.Test.YtamhkdlcoghdbaaDoorKMZPClsx0
import Derived.Outline
import Derived.WalkLawsBesides
import Derived.Lib.IndexBytes
import Derived.Shelf.SlGeneric
import Derived.Ground.SlsfProg
import Derived.Ground.SlgfProg
import Derived.Ground.SlgcProg
import Derived.Shelf.SlSortCmp.WholeK
import Derived.Shelf.SlicesQ.IndexFunc
import Derived.Shelf.SlicesG.Cmp
/- The lexer's small readers, walked. -/
namespace Go.Proofs.YtamhkdlcoghdbaaDoor.PCls
open Go.RowKit Go.Shelf Go.Proofs.YtamhkdlcoghdbaaDoorW.PrintWords Go.Proofs.YtamhkdlcoghdbaaDoorW.PrintLast Go.Proofs.YtamhkdlcoghdbaaDoorW.PrintMore
set_option linter.unusedVariables false
set_option linter.unusedSimpArgs false

theorem lk_cell {w : World} {b i : Nat} {cs : Array Value} {t : TypeId} {v : Value} (h : w.heap[b]? = some (.cells cs t (0, 0))) (hi : cs[i]? = some v) : w.cell? ⟨b, i, none⟩ = some v := by
 simp [World.cell?, h, hi]
theorem w64_in (n : Int) (h0 : -9223372036854775808 ≤ n) (h1 : n ≤ 9223372036854775807) : wrap64 n = n := by
 unfold wrap64; omega
theorem blk_tail (s : ByteArray) (p : Nat) : (s.extract p s.size).data.toList = s.data.toList.drop p := Lib.extract_to_end s p
theorem byt_at (s : ByteArray) (p : Nat) (h : p < s.size) : Lx.byt s p = (s[p]'h).toNat := by
 have h' : p < s.data.toList.length := by simpa using h
 unfold Lx.byt
 rw [List.getD_eq_getElem?_getD, List.getElem?_eq_getElem h']
 rfl
/-- a scanner in memory -/
def Sc (W : World) (B : Nat) (s : ByteArray) (chars fold : Bool) (p : Nat) (V : Value) : Prop := W.heap[B]? = some (.cells #[.string s, .bool chars, .bool fold, .int .i64 p, V] 86 (0, 0))
theorem Sc.below {A W : World} {B : Nat} {s : ByteArray} {chars fold : Bool} {p : Nat} {V : Value} (h : Sc A B s chars fold p V) (hb : Below A.heap.size A W) : Sc W B s chars fold p V :=
 (hb.block B (Array.getElem?_eq_some_iff.1 h).1).trans h
theorem Sc.c0 {W : World} {B : Nat} {s : ByteArray} {chars fold : Bool} {p : Nat} {V : Value} (h : Sc W B s chars fold p V) : W.cell? ⟨B, 0, none⟩ = some (.string s) := lk_cell (i := 0) h rfl
theorem Sc.c1 {W : World} {B : Nat} {s : ByteArray} {chars fold : Bool} {p : Nat} {V : Value} (h : Sc W B s chars fold p V) : W.cell? ⟨B, 1, none⟩ = some (.bool chars) := lk_cell (i := 1) h rfl
theorem Sc.c2 {W : World} {B : Nat} {s : ByteArray} {chars fold : Bool} {p : Nat} {V : Value} (h : Sc W B s chars fold p V) : W.cell? ⟨B, 2, none⟩ = some (.bool fold) := lk_cell (i := 2) h rfl
theorem Sc.c3 {W : World} {B : Nat} {s : ByteArray} {chars fold : Bool} {p : Nat} {V : Value} (h : Sc W B s chars fold p V) : W.cell? ⟨B, 3, none⟩ = some (.int .i64 p) := lk_cell (i := 3) h rfl
theorem Sc.c4 {W : World} {B : Nat} {s : ByteArray} {chars fold : Bool} {p : Nat} {V : Value} (h : Sc W B s chars fold p V) : W.cell? ⟨B, 4, none⟩ = some V := lk_cell (i := 4) h rfl

/-- the error that is given up with -/
def Bad (n : Nat) (w' : World) (e : Ending) (c p : Int) : Prop := ∃ g, e = .panicked [⟨.iface 82 (.pointer (some ⟨g, 0, none⟩)), false, false⟩] ∧ n ≤ g ∧ w'.heap[g]? = some (.cells #[.int .i64 c, .int .i64 p] 89 (0, 0))
set_option maxHeartbeats 2000000 in
theorem fail_calls (c p : Int) (w : World) : Calls Tryd.prog 48 #[.int .i64 c, .int .i64 p] w fun e w' => Bad w.heap.size w' e c p ∧ Below w.heap.size w w' := by
 go_enter Tryd.func48, Tryd.ntmps48
 go_wp2
 have h1 : Bad w.heap.size (w.alloc (.cells #[.int .i64 c, .int .i64 p] 89)) (.panicked [⟨.iface 82 (.pointer (some ⟨w.heap.size, 0, none⟩)), false, false⟩]) c p := ⟨_, rfl, Nat.le_refl _, heap_alloc_new w _⟩
 have h2 := And.intro h1 ((Below.refl w.heap.size w).alloc (Nat.le_refl _) (.cells #[.int .i64 c, .int .i64 p] 89))
 exact ⟨rfl, h2⟩
theorem Bad.mono {n m : Nat} {w' : World} {e : Ending} {c p : Int} (h : Bad n w' e c p) (hm : m ≤ n) : Bad m w' e c p := by
 obtain ⟨g, h1, h2, h3⟩ := h
 exact ⟨g, h1, Nat.le_trans hm h2, h3⟩
set_option maxHeartbeats 2000000 in
theorem here_calls (W : World) (B p : Nat) (s t : ByteArray) (c0 : W.cell? ⟨B, 0, none⟩ = some (.string s)) (hs : s.size ≤ 9223372036854775807) :
  Calls Tryd.prog 76 #[.pointer (some ⟨B, 0, none⟩), .int .i64 p, .string t] W fun e w' => e = .returned (.bool (Lx.here s p t.data.toList)) ∧ w' = W := by
 by_cases hp : p ≤ s.size
 ·have h0 : (0 : Int) ≤ (p : Int) := by omega
  have h1 : (p : Int) ≤ (s.size : Int) := by omega
  have hb : decide ((p : Int) ≤ (s.size : Int)) = true := decide_eq_true h1
  have HX := Lib.hid (show Lx.here s p t.data.toList = Lib.hasPrefix (s.extract p s.size).data.toList t.data.toList by rw [blk_tail]; simp [Lx.here, hp])
  clear hp
  go_enter Tryd.func76, Tryd.ntmps76
  go_wp2_with fail
  refine (Tryd.strings_HasPrefix _ _ _).mono ?_
  rw [← HX.out]
  rintro e w' ⟨rfl, rfl⟩
  go_wp2_with fail
  go_ret
  exact ⟨rfl, rfl⟩
 ·have h1 : ¬ (p : Int) ≤ (s.size : Int) := by omega
  have HX := Lib.hid (show Lx.here s p t.data.toList = false by simp [Lx.here, hp])
  clear hp
  go_enter Tryd.func76, Tryd.ntmps76
  go_wp2_with fail
  go_ret
  exact ⟨by rw [HX.out]; rfl, rfl⟩
set_option maxHeartbeats 2000000 in
theorem Next_calls (s : ByteArray) (p : Nat) (w : World) (hT : Lib.Utf8Tabs 0 1 w) (hs : s.size ≤ 9223372036854775807) (hp : p ≤ 9223372036854775807) : Calls Tryd.prog 93 #[.string s, .int .i64 p] w fun e w' =>
  e = .returned (.tuple #[.int .i64 (Lx.unit s true p).1, .int .i64 (Lx.unit s true p).2]) ∧ Below w.heap.size w w' := by
 by_cases hp : p < s.size
 ·have h0 : (0 : Int) ≤ (p : Int) := by omega
  have h1 : (p : Int) ≤ (s.size : Int) := by omega
  have h2 : ¬ (s.size : Int) ≤ (p : Int) := by omega
  have h3 : decide ((p : Int) < 0) = false := decide_eq_false (by omega)
  have h4 : decide (s.size ≤ p) = false := decide_eq_false (by omega)
  have h5 : ¬ s.size ≤ p := by omega
  have hc := Tryd.utf8_DecodeRuneInString (s.extract p s.size) w hT
  rw [go_tail s p hp] at hc
  have hu : Lx.unit s true p = (if okAt s p = true then ((((Utf8.decode s p).1 : Nat) : Int), (Utf8.decode s p).2) else ((-1 : Int), 1) : Int × Nat) := by simp [Lx.unit, hp]
  have hle := Lib.rune_le s p
  have hok : okAt s p = (decide (((Utf8.decode s p).1 : Int) ≠ 65533) || decide (1 < ((Utf8.decode s p).2 : Int))) := by
   unfold okAt
   rw [Bool.eq_iff_iff]
   simp
   omega
  generalize Lx.unit s true p = u at hu ⊢
  obtain ⟨r, hr⟩ : ∃ r, r = (Utf8.decode s p).1 := ⟨_, rfl⟩
  obtain ⟨n, hn⟩ : ∃ n, n = (Utf8.decode s p).2 := ⟨_, rfl⟩
  rw [← hr, ← hn] at hu hc hok
  rw [← hr] at hle
  have HC := Lib.hid hc
  have HU := Lib.hid hu
  have HOK := Lib.hid hok
  clear hr hn hc hu hp hok
  go_enter Tryd.func93, Tryd.ntmps93
  go_wp2_with fail
  refine HC.out.mono ?_
  rintro e w5 ⟨rfl, hb5⟩
  have HB := Lib.hid hb5
  clear hb5 HC
  go_wp2_with fail
  refine (valid_calls _ _ _).mono ?_
  rintro e w6 ⟨rfl, rfl⟩
  rw [← HOK.out]
  cases hok : okAt s p
  ·have HV := Lib.hid (show u = (-1, 1) by rw [HU.out, hok]; rfl)
   clear hok
   go_wp2_with fail
   go_ret2
   exact ⟨by rw [HV.out]; rfl, HB.out⟩
  ·have HV := Lib.hid (show u = ((r : Int), n) by rw [HU.out, hok]; rfl)
   clear hok
   go_wp2_with fail
   go_ret2
   exact ⟨by rw [HV.out]; rfl, HB.out⟩
 ·have h1 : s.size ≤ p := by omega
  have h4 : decide (s.size ≤ p) = true := decide_eq_true h1
  have h3 : decide ((p : Int) < 0) = false := decide_eq_false (by omega)
  have HX := Lib.hid (show Lx.unit s true p = (0, 0) by simp [Lx.unit, hp])
  clear hp
  go_enter Tryd.func93, Tryd.ntmps93
  go_wp2_with fail
  go_ret2
  exact ⟨by rw [HX.out]; rfl, Below.refl _ _⟩

set_option maxHeartbeats 2000000 in
theorem unit_calls (W : World) (B p q : Nat) (s : ByteArray) (chars fold : Bool) (V : Value) (hT : Lib.Utf8Tabs 0 1 W) (h : Sc W B s chars fold q V) (hs : s.size ≤ 9223372036854775807) (hp : p ≤ 9223372036854775807) :
  Calls Tryd.prog 69 #[.pointer (some ⟨B, 0, none⟩), .int .i64 p] W fun e w' => e = .returned (.tuple #[.int .i64 (Lx.unit s chars p).1, .int .i64 (Lx.unit s chars p).2]) ∧ Below W.heap.size W w' := by
 have c0 := h.c0
 have c1 := h.c1
 clear h
 cases chars with
 | true =>
  obtain ⟨u, hu⟩ : ∃ u, u = Lx.unit s true p := ⟨_, rfl⟩
  have HC := Lib.hid (Next_calls s p W hT hs hp)
  rw [← hu] at HC ⊢
  clear hu
  go_enter Tryd.func69, Tryd.ntmps69
  go_wp2_with fail
  refine HC.out.mono ?_
  rintro e w5 ⟨rfl, hb5⟩
  have HB := Lib.hid hb5
  clear hb5 HC
  go_wp2_with fail
  go_ret2
  exact ⟨rfl, HB.out⟩
 | false =>
  by_cases hlt : p < s.size
  ·have h0 : (0 : Int) ≤ (p : Int) := by omega
   have h1 : (p : Int) < (s.size : Int) := by omega
   have h2 : ¬ s.size ≤ p := by omega
   have HX := Lib.hid (show Lx.unit s false p = ((Lx.byt s p : Int), 1) by simp [Lx.unit, hlt])
   have hb : (s.data.toList.getD p 0).toNat = Lx.byt s p := rfl
   clear hlt
   go_enter Tryd.func69, Tryd.ntmps69
   go_wp2_with fail
   go_ret2
   exact ⟨by rw [HX.out, byt_at s p (by omega)]; exact congrArg (fun z => Ending.returned (Value.tuple #[Value.int .i64 z, Value.int .i64 1])) (w64_in _ (by omega) (by have := s[p].toNat_lt; omega)), Below.refl _ _⟩
  ·have h2 : s.size ≤ p := by omega
   have HX := Lib.hid (show Lx.unit s false p = (0, 0) by simp [Lx.unit, hlt])
   clear hlt
   go_enter Tryd.func69, Tryd.ntmps69
   go_wp2_with fail
   go_ret2
   exact ⟨by rw [HX.out]; rfl, Below.refl _ _⟩
end Go.Proofs.YtamhkdlcoghdbaaDoor.PCls
/- Out of ZShelf (wip/tools/prune2.py): the declarations alone that the texts of the trees name. -/
/-
 DERIVED: THE SHELF's CONTRACTS AT THIS DUMP, IN PLAIN WORDS (tools/lay-plain.mjs out of 'YtamhkdlcoghdbaaDoorShelf.lean', which tools/lay-shelf.mjs wrote): THE SAME DECLARATIONS UNDER THE SAME NAMES: 'import', 'namespace', 'open', 'def', 'theorem' AND NOTHING ELSE: no command of the shelf's: FOR A HAND-IN. Each laying: the table of numbers ('.._ren') and one theorem, a field a fact of the dump's own or the kernel's comparison; each contract: ONE APPLICATION.
-/
namespace Go.Proofs
open Go.Shelf
def Tryd.sort82_ren : Go.Shelf.Ren := ⟨fun | 6 => 82 | 15 => 103 | 14 => 102 | 28 => 118 | 29 => 119 | 20 => 110 | 21 => 111 | 22 => 112 | 23 => 113 | 24 => 114 | 25 => 115 | 26 => 116 | 27 => 117 | 46 => 123 | 47 => 124 | 48 => 125 | 49 => 126 | 50 => 127 | 57 => 130 | n => n, fun | 22 => 25 | 24 => 50 | 25 => 115 | 3 => 3 | 39 => 132 | 0 => 0 | 53 => 146 | 55 => 148 | 4 => 4 | 46 => 139 | 45 => 138 | 50 => 143 | 5 => 5 | 9 => 9 | 66 => 156 | 70 => 160 | 76 => 162 | 77 => 73 | n => n, fun | n => n⟩
theorem Tryd.sort82 : Go.Proofs.SlLaysF0.n6 Tryd.prog Tryd.sort82_ren := {
 mixed := by kernel_rfl
 f6 := ⟨Tryd.f82.name, by decide, Tryd.func82.trans (congrArg some (by kernel_rfl))⟩
 f14 := ⟨Tryd.f102.name, by decide, Tryd.func102.trans (congrArg some (by kernel_rfl))⟩
 f15 := Tryd.func103.trans (congrArg some (by kernel_rfl))
 f20 := ⟨Tryd.f110.name, by decide, Tryd.func110.trans (congrArg some (by kernel_rfl))⟩
 f21 := ⟨Tryd.f111.name, by decide, Tryd.func111.trans (congrArg some (by kernel_rfl))⟩
 f22 := ⟨Tryd.f112.name, by decide, Tryd.func112.trans (congrArg some (by kernel_rfl))⟩
 f23 := ⟨Tryd.f113.name, by decide, Tryd.func113.trans (congrArg some (by kernel_rfl))⟩
 f24 := ⟨Tryd.f114.name, by decide, Tryd.func114.trans (congrArg some (by kernel_rfl))⟩
 f25 := ⟨Tryd.f115.name, by decide, Tryd.func115.trans (congrArg some (by kernel_rfl))⟩
 f26 := ⟨Tryd.f116.name, by decide, Tryd.func116.trans (congrArg some (by kernel_rfl))⟩
 f27 := ⟨Tryd.f117.name, by decide, Tryd.func117.trans (congrArg some (by kernel_rfl))⟩
 f28 := Tryd.func118.trans (congrArg some (by kernel_rfl))
 f29 := Tryd.func119.trans (congrArg some (by kernel_rfl))
 f46 := ⟨Tryd.f123.name, by decide, Tryd.func123.trans (congrArg some (by kernel_rfl))⟩
 f47 := Tryd.func124.trans (congrArg some (by kernel_rfl))
 f48 := Tryd.func125.trans (congrArg some (by kernel_rfl))
 f49 := ⟨Tryd.f126.name, by decide, Tryd.func126.trans (congrArg some (by kernel_rfl))⟩
 f50 := ⟨Tryd.f127.name, by decide, Tryd.func127.trans (congrArg some (by kernel_rfl))⟩
 f57 := ⟨Tryd.f130.name, by decide, Tryd.func130.trans (congrArg some (by kernel_rfl))⟩
 t0 := Tryd.underlying0
 a0 := Tryd.isAgg0
 z0 := Tryd.sizeOf0
 v0 := Tryd.zeroValue0
 t3 := Tryd.underlying3
 a3 := Tryd.isAgg3
 z3 := Tryd.sizeOf3
 v3 := Tryd.zeroValue3
 t4 := Tryd.underlying4
 a4 := Tryd.isAgg4
 z4 := Tryd.sizeOf4
 v4 := Tryd.zeroValue4
 t5 := Tryd.underlying5
 a5 := Tryd.isAgg5
 z5 := Tryd.sizeOf5
 v5 := Tryd.zeroValue5
 t9 := Tryd.underlying9
 a9 := Tryd.isAgg9
 z9 := Tryd.sizeOf9
 v9 := Tryd.zeroValue9
 t22 := Tryd.underlying25
 a22 := Tryd.isAgg25
 z22 := Tryd.sizeOf25
 v22 := Tryd.zeroValue25
 t25 := Tryd.underlying115
 a25 := Tryd.isAgg115
 z25 := Tryd.sizeOf115
 v25 := Tryd.zeroValue115
 t39 := Tryd.underlying132
 a39 := Tryd.isAgg132
 z39 := Tryd.sizeOf132
 v39 := Tryd.zeroValue132
 t45 := Tryd.underlying138
 a45 := Tryd.isAgg138
 z45 := Tryd.sizeOf138
 v45 := Tryd.zeroValue138
 t46 := Tryd.underlying139
 a46 := Tryd.isAgg139
 z46 := Tryd.sizeOf139
 v46 := Tryd.zeroValue139
 t50 := Tryd.underlying143
 a50 := Tryd.isAgg143
 z50 := Tryd.sizeOf143
 v50 := Tryd.zeroValue143
 t53 := Tryd.underlying146
 a53 := Tryd.isAgg146
 z53 := Tryd.sizeOf146
 v53 := Tryd.zeroValue146
 t55 := Tryd.underlying148
 a55 := Tryd.isAgg148
 z55 := Tryd.sizeOf148
 v55 := Tryd.zeroValue148
 t66 := Tryd.underlying156
 a66 := Tryd.isAgg156
 z66 := Tryd.sizeOf156
 v66 := Tryd.zeroValue156
 t70 := Tryd.underlying160
 a70 := Tryd.isAgg160
 z70 := Tryd.sizeOf160
 v70 := Tryd.zeroValue160
 t76 := Tryd.underlying162
 a76 := Tryd.isAgg162
 z76 := Tryd.sizeOf162
 v76 := Tryd.zeroValue162
 t77 := Tryd.underlying73
 a77 := Tryd.isAgg73
 z77 := Tryd.sizeOf73
 v77 := Tryd.zeroValue73 }
def Tryd.index101_ren : Go.Shelf.Ren := ⟨fun | 6 => 101 | n => n, fun | 22 => 25 | 23 => 50 | 25 => 112 | 3 => 3 | 0 => 0 | 4 => 4 | n => n, fun | n => n⟩
theorem Tryd.index101 : Go.Proofs.SlLaysH0.n6 Tryd.prog Tryd.index101_ren := {
 mixed := by kernel_rfl
 f6 := ⟨Tryd.f101.name, by decide, Tryd.func101.trans (congrArg some (by kernel_rfl))⟩
 t0 := Tryd.underlying0
 a0 := Tryd.isAgg0
 z0 := Tryd.sizeOf0
 v0 := Tryd.zeroValue0
 t3 := Tryd.underlying3
 a3 := Tryd.isAgg3
 z3 := Tryd.sizeOf3
 v3 := Tryd.zeroValue3
 t4 := Tryd.underlying4
 a4 := Tryd.isAgg4
 z4 := Tryd.sizeOf4
 v4 := Tryd.zeroValue4
 t22 := Tryd.underlying25
 a22 := Tryd.isAgg25
 z22 := Tryd.sizeOf25
 v22 := Tryd.zeroValue25
 t25 := Tryd.underlying112
 a25 := Tryd.isAgg112
 z25 := Tryd.sizeOf112
 v25 := Tryd.zeroValue112 }
def Tryd.cmp84_ren : Go.Shelf.Ren := ⟨fun | 5 => 84 | 7 => 104 | n => n, fun | 22 => 3 | 3 => 3 | 4 => 4 | n => n, fun | n => n⟩
theorem Tryd.cmp84 : Go.Proofs.SlLaysC2.n5 Tryd.prog Tryd.cmp84_ren := {
 mixed := by kernel_rfl
 f5 := ⟨Tryd.f84.name, by decide, Tryd.func84.trans (congrArg some (by kernel_rfl))⟩
 f7 := ⟨Tryd.f104.name, by decide, Tryd.func104.trans (congrArg some (by kernel_rfl))⟩
 t3 := Tryd.underlying3
 a3 := Tryd.isAgg3
 z3 := Tryd.sizeOf3
 v3 := Tryd.zeroValue3
 t4 := Tryd.underlying4
 a4 := Tryd.isAgg4
 z4 := Tryd.sizeOf4
 v4 := Tryd.zeroValue4
 t22 := Tryd.underlying3
 a22 := Tryd.isAgg3
 z22 := Tryd.sizeOf3
 v22 := Tryd.zeroValue3 }
end Go.Proofs
