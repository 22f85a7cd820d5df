/- Put together (wip/tools/pack.py): QLnm, QLu, QLnn, QLi. -/
import Derived.Test.YtamhkdlcoghdbaaGreatDoorKMQHb
import Derived.Test.YtamhkdlcoghdbaaGreatDoorKQGNamed
import Derived.Lib.DecodeN
import Derived.Lib.RuneCount
/- Out of Lnm (wip/tools/prune2.py): the declarations alone that the texts of the trees name. -/
namespace Go.Proofs.YtamhkdlcoghdbaaGreatDoor.PCls
open Go.RowKit Go.Shelf Go.Proofs.YtamhkdlcoghdbaaGreatDoorW.PrintWords Go.Proofs.YtamhkdlcoghdbaaGreatDoorW.PrintLast Go.Proofs.YtamhkdlcoghdbaaGreatDoorW.PrintMore
set_option linter.unusedVariables false
set_option linter.unusedSimpArgs false
theorem ite_all {α : Type} (P : α → Prop) {c : Prop} [Decidable c] {a b : α} (ha : P a) (hb : P b) : P (if c then a else b) := by split <;> assumption
theorem named_some (n : List UInt8) : ∀ l, Cls.named n = some l → inR l = true ∧ l.length ≤ 10 := by
 unfold Cls.named
 repeat refine ite_all (fun o : Option (List S64) => ∀ l, o = some l → inR l = true ∧ l.length ≤ 10) (by intro l h; obtain rfl := Option.some.inj h; decide) ?_
 intro l h
 cases h
theorem named_good (n : List UInt8) : inR ((Cls.named n).getD []) = true ∧ ((Cls.named n).getD []).length ≤ 10 := by
 cases h : Cls.named n with
 | none => exact ⟨rfl, Nat.zero_le _⟩
 | some l => exact named_some n l h
theorem named_row (w : World) (n : ByteArray) : Calls Tryz.prog 212 #[.string n] w fun e w' => ∃ v', e = .returned (.tuple #[v', .bool (clC.named n).2]) ∧ Row w' w.heap.size v' (clC.named n).1 ∧ Below w.heap.size w w' := by
 refine (classes_Named.calls n (clC.named n).1 (clC.named n).2 w rfl).mono ?_
 rintro e w' ⟨v', rfl, hR, hb⟩
 exact ⟨v', rfl, ⟨own_of_R hR, (named_good _).1, by have := (named_good n.data.toList).2; show ((Cls.named n.data.toList).getD []).length < _; omega⟩, hb⟩
theorem named58_eq (C : CL) (s : ByteArray) (chars : Bool) (x0 p : Nat) (hp : p + 2 ≤ s.size) : Lx.named C s chars x0 p 58 = if Lib.index (s.data.toList.drop (p + 2)) [58, 93] < 0 then .error (33, (x0 : Int)) else if (C.named (s.extract (p + 2) (p + 2 + (Lib.index (s.data.toList.drop (p + 2)) [58, 93]).toNat))).2 = true then .ok ⟨false, 0, (C.named (s.extract (p + 2) (p + 2 + (Lib.index (s.data.toList.drop (p + 2)) [58, 93]).toNat))).1, 0, (p + 2 + (Lib.index (s.data.toList.drop (p + 2)) [58, 93]).toNat + 2 : Nat)⟩ else .error (35, (p : Int)) := by
 unfold Lx.named
 simp only [if_true, Nat.add_zero, if_pos hp]
def itV (i : It) (v : Value) : Value := .agg #[.bool i.isEnd, .int .i64 i.c, v, .int .i64 i.sat, .int .i64 i.nx]
/-- an item that is told -/
def ItAt (W w' : World) (e : Ending) (i : It) : Prop := ∃ v, e = .returned (itV i v) ∧ Row w' W.heap.size v i.l
abbrev set5 (w : World) (g : Nat) (a b c d e : Value) : World := ((((w.setCell ⟨g, 0, none⟩ a).setCell ⟨g, 1, none⟩ b).setCell ⟨g, 2, none⟩ c).setCell ⟨g, 3, none⟩ d).setCell ⟨g, 4, none⟩ e
theorem set5_blk {w : World} {g : Nat} {a b c d e a' b' c' d' e' : Value} {t : TypeId} (h : w.heap[g]? = some (.cells #[a', b', c', d', e'] t (0, 0))) : (set5 w g a b c d e).heap[g]? = some (.cells #[a, b, c, d, e] t (0, 0)) :=
 set_blk (set_blk (set_blk (set_blk (set_blk h 0 a) 1 b) 2 c) 3 d) 4 e
theorem set5_below {A w : World} {n g : Nat} (h : Below n A w) (hg : n ≤ g) (a b c d e : Value) : Below n A (set5 w g a b c d e) :=
 ((((h.setCell (p := ⟨g, 0, none⟩) hg a).setCell (p := ⟨g, 1, none⟩) hg b).setCell (p := ⟨g, 2, none⟩) hg c).setCell (p := ⟨g, 3, none⟩) hg d).setCell (p := ⟨g, 4, none⟩) hg e
theorem set5_other {w : World} {g k : Nat} (hk : k ≠ g) (a b c d e : Value) : (set5 w g a b c d e).heap[k]? = w.heap[k]? :=
 (Below.heap_setCell _ ⟨g, 4, none⟩ e k hk).trans ((Below.heap_setCell _ ⟨g, 3, none⟩ d k hk).trans ((Below.heap_setCell _ ⟨g, 2, none⟩ c k hk).trans ((Below.heap_setCell _ ⟨g, 1, none⟩ b k hk).trans (Below.heap_setCell _ ⟨g, 0, none⟩ a k hk))))
theorem set5_row {w : World} {n g : Nat} {v : Value} {l : List S64} (h : Row w n v l) (hg : ∀ k, v.ownBlock = some k → k ≠ g) (a b c d e : Value) : Row (set5 w g a b c d e) n v l :=
 ⟨ownMove h.1 (fun k hk => set5_other (hg k hk) a b c d e), h.2⟩
theorem row_ge {w : World} {n : Nat} {v : Value} {l : List S64} (h : Row w n v l) {g : Nat} (hg : g < n) : ∀ k, v.ownBlock = some k → k ≠ g := fun k hk => by have := (ownLt h.1 k hk).1; omega
set_option maxHeartbeats 8000000 in
set_option maxRecDepth 100000 in
theorem named58_calls (W : World) (B p q : Nat) (s : ByteArray) (chars fold : Bool) (V : Value) (m : Int) (h : Sc W B s chars fold q V) (hs : s.size ≤ 2000) (hp : p + 2 ≤ s.size) (hm : W.cell? ⟨2, 0, none⟩ = some (.int .i64 m)) (h2 : 2 < W.heap.size) :
  Calls Tryz.prog 192 #[.pointer (some ⟨B, 0, none⟩), .int .i64 p, .string ⟨#[58]⟩] W fun e w' => Tells W w' e (Lx.named clC s chars q p 58) (ItAt W w' e) := by
 have hb0 : Below W.heap.size W (W.alloc (.cells #[.bool false, .int .i64 0, .slice none 0 0, .int .i64 0, .int .i64 0] 189)) := (Below.refl _ W).alloc (Nat.le_refl _) _
 have hs0 := h.below hb0
 have c0 := hs0.c0
 have c3 := hs0.c3
 have hm0 := (hb0.cell (p := ⟨2, 0, none⟩) h2).trans hm
 have hi0 : (0 : Int) ≤ (p : Int) := by omega
 have hi1 : (p : Int) + 2 ≤ (s.size : Int) := by omega
 have HE := Lib.hid (named58_eq clC s chars q p hp)
 have HI := Lib.hid (Tryz.strings_Index (s.extract (p + 2) s.size) ⟨#[58, 93]⟩ m _ (by rw [ByteArray.size_extract]; omega) hm0)
 have hkl := Lib.index_le (s.data.toList.drop (p + 2)) [58, 93]
 rw [blk_tail] at HI
 rw [List.length_drop, show s.data.toList.length = s.size by simp] at hkl
 obtain ⟨k, hk⟩ : ∃ k, k = Lib.index (s.data.toList.drop (p + 2)) [58, 93] := ⟨_, rfl⟩
 rw [show (⟨#[58, 93]⟩ : ByteArray).data.toList = [58, 93] from rfl, ← hk] at HI
 rw [← hk] at HE hkl
 have HB0 := Lib.hid hb0
 clear hk hb0 hs0 hm0 h2 hm h hp
 go_enter Tryz.func192, Tryz.ntmps192
 go_wp2_with fail
 refine HI.out.mono ?_
 rintro e w1 ⟨rfl, rfl⟩
 clear HI
 by_cases hk : k < 0
 ·have HX := Lib.hid (show Lx.named clC s chars q p 58 = .error (33, (q : Int)) by rw [HE.out, if_pos hk])
  clear HE
  go_wp2_with fail
  refine (fail_calls _ _ _).mono ?_
  rintro e w2 ⟨⟨g, rfl, hg⟩, hb⟩
  exact ⟨rfl, Tells.err HX.out (HB0.out.trans (hb.mono HB0.out.size)) (Bad.mono ⟨g, rfl, hg⟩ HB0.out.size)⟩
 ·obtain ⟨j, rfl⟩ : ∃ j : Nat, k = j := ⟨k.toNat, by omega⟩
  obtain ⟨e, he⟩ : ∃ e, e = p + 2 + j := ⟨_, rfl⟩
  have HE2 := Lib.hid (show Lx.named clC s chars q p 58 = if (clC.named (s.extract (p + 2) e)).2 = true then .ok ⟨false, 0, (clC.named (s.extract (p + 2) e)).1, 0, (e + 2 : Nat)⟩ else .error (35, (p : Int)) by rw [HE.out, if_neg hk, he]; rfl)
  clear HE
  have hj1 : (p : Int) + 2 + (j : Int) ≤ (s.size : Int) := by omega
  have hj0 : (0 : Int) ≤ (p : Int) + 2 := by omega
  have hj2 : (p : Int) + 2 ≤ (p : Int) + 2 + (j : Int) := by omega
  have HN := Lib.hid (fun w => named_row w (s.extract (p + 2) e))
  rw [he] at HN
  obtain ⟨n, hn⟩ : ∃ n, n = clC.named (s.extract (p + 2) e) := ⟨_, rfl⟩
  rw [he] at hn
  rw [← hn] at HN
  have HE3 := Lib.hid (show Lx.named clC s chars q p 58 = if n.2 = true then .ok ⟨false, 0, n.1, 0, ((e + 2 : Nat) : Int)⟩ else .error (35, (p : Int)) by rw [HE2.out, hn, ← he])
  have HJ := Lib.hid he
  clear HE2 hn he hk hkl
  go_wp2_with fail
  refine (HN.out _).mono ?_
  rintro e' w2 ⟨v', rfl, hr, hb⟩
  obtain ⟨l, o⟩ := n
  simp only at HE3 hr
  have HR := Lib.hid (And.intro hr hb)
  have hg : w2.heap[W.heap.size]? = some (.cells #[.bool false, .int .i64 0, .slice none 0 0, .int .i64 0, .int .i64 0] 189 (0, 0)) := (hb.block _ (by simp)).trans (heap_alloc_new W _)
  clear hr hb HN
  cases o with
  | false =>
   have HX := Lib.hid (show Lx.named clC s chars q p 58 = .error (35, (p : Int)) by rw [HE3.out]; rfl)
   clear HE3
   go_wp2_with fail
   refine (fail_calls _ _ _).mono ?_
   rintro e w3 ⟨⟨g, rfl, hg'⟩, hb⟩
   exact ⟨rfl, Tells.err HX.out (Below.up (HB0.out.trans (HR.out.2.mono HB0.out.size)) hb) (Bad.up ⟨g, rfl, hg'⟩ (HB0.out.trans (HR.out.2.mono HB0.out.size)))⟩
  | true =>
   have HX := Lib.hid (show Lx.named clC s chars q p 58 = .ok ⟨false, 0, l, 0, ((e + 2 : Nat) : Int)⟩ by rw [HE3.out]; rfl)
   clear HE3
   obtain ⟨A, k, rfl⟩ := HR.out.1.form
   have hf : ∀ o, w2.frozen? ⟨W.heap.size, o, none⟩ = false := fun o => by simp [World.frozen?, hg]
   have k0 := lk_cell (i := 0) hg rfl
   have k1 := lk_cell (i := 1) hg rfl
   have k2 := lk_cell (i := 2) hg rfl
   have k3 := lk_cell (i := 3) hg rfl
   have k4 := lk_cell (i := 4) hg rfl
   go_wp2_with fail
   (try simp only [Exit.inBlock, Exit.then])
   refine bodyPost_ret (results_cell_row rfl _ _ W.heap.size 189 _ (0, 0) _ rfl (set5_blk hg) Tryz.underlying189 rfl (by kernel_rfl)) rfl ?_
   have hnx : ((p : Int) + 2 + j + 2) = ((e + 2 : Nat) : Int) := by have := HJ.out; omega
   have hz : W.heap.size < (W.alloc (.cells #[.bool false, .int .i64 0, .slice none 0 0, .int .i64 0, .int .i64 0] 189)).heap.size := by simp
   exact Tells.ok HX.out (set5_below (HB0.out.trans (HR.out.2.mono HB0.out.size)) (Nat.le_refl _) _ _ _ _ _) ⟨.slice A l.length k, by rw [← hnx]; rfl, set5_row (HR.out.1.lower HB0.out.size) (row_ge HR.out.1 hz) _ _ _ _ _⟩
end Go.Proofs.YtamhkdlcoghdbaaGreatDoor.PCls
/- Out of Lu (wip/tools/prune2.py): the declarations alone that the texts of the trees name. -/
namespace Go.Proofs.YtamhkdlcoghdbaaGreatDoor.PCls
set_option linter.unusedVariables false
theorem decodeN_fits (n b0 b1 b2 b3 : Nat) (hn : 1 ≤ n) : (Lib.decodeN n b0 b1 b2 b3).2 ≤ n := by
 unfold Lib.decodeN
 repeat' split
 all_goals simp only
 all_goals omega
theorem unit_lim (s : ByteArray) (chars : Bool) (p : Nat) (h : p < s.size) : -1 ≤ (Lx.unit s chars p).1 ∧ (Lx.unit s chars p).1 ≤ 1114111 ∧ 1 ≤ (Lx.unit s chars p).2 ∧ p + (Lx.unit s chars p).2 ≤ s.size := by
 have h1 := Lib.rune_le s p
 have h2 := Lib.decode_width_pos s p h
 have h3 : (Utf8.decode s p).2 ≤ s.size - p := by rw [Lib.decode_at]; exact decodeN_fits _ _ _ _ _ (by omega)
 have h4 := byt_at s p h
 have h5 := s[p].toNat_lt
 unfold Lx.unit
 rw [if_pos h]
 cases chars with
 | false => simp only [Bool.false_eq_true, if_false]; omega
 | true =>
  simp only [if_true]
  split <;> simp only <;> omega
theorem unit_none (s : ByteArray) (chars : Bool) (p : Nat) (h : ¬ p < s.size) : Lx.unit s chars p = (0, 0) := by unfold Lx.unit; rw [if_neg h]
theorem unit_rng (s : ByteArray) (chars : Bool) (p : Nat) : -1 ≤ (Lx.unit s chars p).1 ∧ (Lx.unit s chars p).1 ≤ 1114111 ∧ (Lx.unit s chars p).2 ≤ s.size := by
 by_cases h : p < s.size
 ·have := unit_lim s chars p h; omega
 ·rw [unit_none s chars p h]; simp
end Go.Proofs.YtamhkdlcoghdbaaGreatDoor.PCls
/- Out of Lnn (wip/tools/prune2.py): the declarations alone that the texts of the trees name. -/
namespace Go.Proofs.YtamhkdlcoghdbaaGreatDoor.PCls
open Go.RowKit Go.Shelf Go.Proofs.YtamhkdlcoghdbaaGreatDoorW.PrintWords Go.Proofs.YtamhkdlcoghdbaaGreatDoorW.PrintLast Go.Proofs.YtamhkdlcoghdbaaGreatDoorW.PrintMore
set_option linter.unusedVariables false
set_option linter.unusedSimpArgs false
def elk (s : ByteArray) (p : Nat) (sign : UInt8) : Int := if p + 3 ≤ s.size then Lib.index (s.data.toList.drop (p + 3)) [sign, 93] else -1
theorem named_el_eq (C : CL) (s : ByteArray) (chars : Bool) (x0 p : Nat) (sign : UInt8) (h : sign ≠ 58) : Lx.named C s chars x0 p sign = if elk s p sign < 0 then .error (33, (x0 : Int)) else if (Lx.unit s chars (p + 2)).1 < 0 ∨ (Lx.unit s chars (p + 2)).2 ≠ 1 + (elk s p sign).toNat then .error (35, (p : Int)) else .ok ⟨decide (sign = 46), (Lx.unit s chars (p + 2)).1, [⟨(Lx.unit s chars (p + 2)).1, (Lx.unit s chars (p + 2)).1⟩], p, (p + 3 + (elk s p sign).toNat + 2 : Nat)⟩ := by
 unfold Lx.named
 simp only [if_neg h]
 rw [show p + 2 + 1 = p + 3 from rfl, show (if p + 3 ≤ s.size then Lib.index (s.data.toList.drop (p + 3)) [sign, 93] else -1) = elk s p sign from rfl, show p + 3 + (elk s p sign).toNat - (p + 2) = 1 + (elk s p sign).toNat by omega]
theorem set5_size (w : World) (g : Nat) (a b c d e : Value) : (set5 w g a b c d e).heap.size = w.heap.size := by simp [set5, World.setCell]
theorem set5_one_blk {w : World} {g : Nat} {a b c d e a' b' c' d' e' : Value} {t : TypeId} (h : w.heap[g]? = some (.cells #[a', b', c', d', e'] t (0, 0))) (x : Int) : ((set5 w g a b c d e).alloc (.cells #[.int .i64 x, .int .i64 x] 39)).heap[g]? = some (.cells #[a, b, c, d, e] t (0, 0)) :=
 (heap_alloc_old _ _ (by rw [set5_size]; exact (Array.getElem?_eq_some_iff.1 h).1)).trans (set5_blk h)
theorem set5_one_below {A w : World} {n g : Nat} (h : Below n A w) (hg : n ≤ g) (x : Int) (a b c d e : Value) (hn : n ≤ w.heap.size) : Below n A ((set5 w g a b c d e).alloc (.cells #[.int .i64 x, .int .i64 x] 39)) :=
 (set5_below h hg a b c d e).alloc (by rw [set5_size]; exact hn) _
theorem set5_one_row {w : World} (g : Nat) (x : Int) (hx : -9223372036854775808 ≤ x ∧ x ≤ 9223372036854775807) (a b c d e : Value) : Row ((set5 w g a b c d e).alloc (.cells #[.int .i64 x, .int .i64 x] 39)) w.heap.size (.slice (some ⟨w.heap.size, 0, none⟩) 1 1) [⟨x, x⟩] := by
 have h := Row.one (set5 w g a b c d e) x hx
 rw [set5_size] at h
 exact h
set_option maxHeartbeats 1000000 in
set_option maxRecDepth 100000 in
theorem namedEl_calls (W : World) (B p q : Nat) (s : ByteArray) (chars fold : Bool) (V : Value) (m : Int) (h : Sc W B s chars fold q V) (hs : s.size ≤ 2000) (hp : p + 2 ≤ s.size) (hm : W.cell? ⟨2, 0, none⟩ = some (.int .i64 m)) (h2 : 2 < W.heap.size) (hT : Lib.Utf8Tabs 0 1 W) (sign : UInt8) (hsg : sign = 61 ∨ sign = 46) :
  Calls Tryz.prog 192 #[.pointer (some ⟨B, 0, none⟩), .int .i64 p, .string ⟨#[sign]⟩] W fun e w' => Tells W w' e (Lx.named clC s chars q p sign) (ItAt W w' e) := by
 have hb0 : Below W.heap.size W (W.alloc (.cells #[.bool false, .int .i64 0, .slice none 0 0, .int .i64 0, .int .i64 0] 189)) := (Below.refl _ W).alloc (Nat.le_refl _) _
 have hs0 := h.below hb0
 have c0 := hs0.c0
 have c3 := hs0.c3
 have hm0 := (hb0.cell (p := ⟨2, 0, none⟩) h2).trans hm
 have HU := Lib.hid (unit_calls _ B (p + 2) q s chars fold V (tabs_below hT hb0) hs0 (by omega) (by omega))
 have HUL := Lib.hid (unit_rng s chars (p + 2))
 have hi0 : (0 : Int) ≤ (p : Int) := by omega
 have HE := Lib.hid (named_el_eq clC s chars q p sign (by rcases hsg with rfl | rfl <;> decide))
 have HB0 := Lib.hid hb0
 by_cases h3 : p + 3 ≤ s.size
 ·have hi1 : (p : Int) + 2 + 1 ≤ (s.size : Int) := by omega
  have hi2 : (p : Int) + 3 ≤ (s.size : Int) := by omega
  have HI := Lib.hid (Tryz.strings_Index (s.extract (p + 3) s.size) ⟨#[sign, 93]⟩ m _ (by rw [ByteArray.size_extract]; omega) hm0)
  have hkl := Lib.index_le (s.data.toList.drop (p + 3)) [sign, 93]
  rw [blk_tail, show (⟨#[sign, 93]⟩ : ByteArray).data.toList = [sign, 93] from rfl] at HI
  rw [List.length_drop, show s.data.toList.length = s.size by simp] at hkl
  have hke : elk s p sign = Lib.index (s.data.toList.drop (p + 3)) [sign, 93] := by unfold elk; rw [if_pos h3]
  rw [← hke] at HI hkl
  generalize elk s p sign = k at HE HI hkl
  obtain ⟨u, hu⟩ : ∃ u, u = Lx.unit s chars (p + 2) := ⟨_, rfl⟩
  rw [← hu] at HU HUL HE
  clear hke hu hb0 hs0 hm0 h2 hm h hp h3 hT
  rcases hsg with rfl | rfl
  ·go_enter Tryz.func192, Tryz.ntmps192
   go_wp2_with fail
   refine HI.out.mono ?_
   rintro e w1 ⟨rfl, rfl⟩
   clear HI
   by_cases hk : k < 0
   ·have HX := Lib.hid (HE.out.trans (if_pos hk))
    clear HE
    go_wp2_with fail
    refine (fail_calls _ _ _).mono ?_
    rintro e w2 ⟨⟨g, rfl, hg⟩, hb⟩
    exact ⟨rfl, Tells.err HX.out (HB0.out.trans (hb.mono HB0.out.size)) (Bad.mono ⟨g, rfl, hg⟩ HB0.out.size)⟩
   ·obtain ⟨j, rfl⟩ : ∃ j : Nat, k = j := ⟨k.toNat, by omega⟩
    have HE2 := Lib.hid (HE.out.trans (if_neg hk))
    clear HE
    go_wp2_with fail
    refine HU.out.mono ?_
    rintro e w2 ⟨rfl, hb⟩
    obtain ⟨c, n⟩ := u
    simp only [Int.toNat_natCast] at HE2
    have hg : w2.heap[W.heap.size]? = some (.cells #[.bool false, .int .i64 0, .slice none 0 0, .int .i64 0, .int .i64 0] 189 (0, 0)) := (hb.block _ (by simp)).trans (heap_alloc_new W _)
    have HB := Lib.hid (HB0.out.trans (hb.mono HB0.out.size))
    have HL := Lib.hid (And.intro HUL.out hkl)
    have hcase : c < 0 ∨ (¬ c < 0 ∧ n ≠ 1 + j) ∨ (¬ c < 0 ∧ n = 1 + j) := by omega
    have hj9 : (p : Int) + 3 + (j : Int) ≤ (s.size : Int) := by omega
    clear HU HUL hb hk hkl
    rcases hcase with hc | ⟨hc, hn⟩ | ⟨hc, hn⟩
    ·have HX := Lib.hid (HE2.out.trans (if_pos (.inl hc)))
     clear HE2
     go_wp2_with fail
     refine (fail_calls _ _ _).mono ?_
     rintro e w3 ⟨⟨g, rfl, hg'⟩, hb⟩
     exact ⟨rfl, Tells.err HX.out (Below.up HB.out hb) (Bad.up ⟨g, rfl, hg'⟩ HB.out)⟩
    ·have HX := Lib.hid (HE2.out.trans (if_pos (.inr hn)))
     have hc0 : 0 ≤ c := by omega
     have hn0 : ((n : Int) != (p : Int) + 2 + 1 + (j : Int) - ((p : Int) + 2)) = true := by rw [bne_iff_ne]; omega
     clear HE2 hn
     go_wp2_with fail
     refine (fail_calls _ _ _).mono ?_
     rintro e w3 ⟨⟨g, rfl, hg'⟩, hb⟩
     exact ⟨rfl, Tells.err HX.out (Below.up HB.out hb) (Bad.up ⟨g, rfl, hg'⟩ HB.out)⟩
    ·have HX := Lib.hid (HE2.out.trans (if_neg (by intro h; rcases h with h | h; exact hc h; exact h hn)))
     have hc0 : 0 ≤ c := by omega
     have hn0 : ((n : Int) != (p : Int) + 2 + 1 + (j : Int) - ((p : Int) + 2)) = false := by rw [bne_eq_false_iff_eq]; omega
     clear HE2 hn
     have hsz : W.heap.size < w2.heap.size := (Array.getElem?_eq_some_iff.1 hg).1
     have hf : ∀ o, w2.frozen? ⟨W.heap.size, o, none⟩ = false := fun o => by simp only [World.frozen?, hg]; simp
     have k0 := lk_cell (i := 0) hg rfl
     have k1 := lk_cell (i := 1) hg rfl
     have k2 := lk_cell (i := 2) hg rfl
     have k3 := lk_cell (i := 3) hg rfl
     have k4 := lk_cell (i := 4) hg rfl
     have HG := Lib.hid (And.intro hg hsz)
     clear hg
     go_wp2_with fail
     (try simp only [Exit.inBlock, Exit.then])
     have hgg := set5_one_blk (a := .bool false) (b := .int .i64 c) (c := .slice (some ⟨w2.heap.size, 0, none⟩) 1 1) (d := .int .i64 p) (e := .int .i64 ((p : Int) + 2 + 1 + j + 2)) HG.out.1 c
     refine bodyPost_ret (results_cell_row rfl _ _ W.heap.size 189 #[.bool false, .int .i64 c, .slice (some ⟨w2.heap.size, 0, none⟩) 1 1, .int .i64 p, .int .i64 ((p : Int) + 2 + 1 + j + 2)] (0, 0) _ rfl hgg Tryz.underlying189 rfl (by kernel_rfl)) rfl ?_
     have hnx : ((p : Int) + 2 + 1 + j + 2) = ((p + 3 + j + 2 : Nat) : Int) := by omega
     have hbb := set5_one_below HB.out (Nat.le_refl _) c (.bool false) (.int .i64 c) (.slice (some ⟨w2.heap.size, 0, none⟩) 1 1) (.int .i64 p) (.int .i64 ((p : Int) + 2 + 1 + j + 2)) HB.out.size
     have hrr := (set5_one_row (w := w2) W.heap.size c (by have := HL.out; omega) (.bool false) (.int .i64 c) (.slice (some ⟨w2.heap.size, 0, none⟩) 1 1) (.int .i64 p) (.int .i64 ((p : Int) + 2 + 1 + j + 2))).lower HB.out.size
     refine Tells.ok HX.out hbb ⟨.slice (some ⟨w2.heap.size, 0, none⟩) 1 1, ?_, hrr⟩
     rw [← hnx]
     rfl
  ·go_enter Tryz.func192, Tryz.ntmps192
   go_wp2_with fail
   refine HI.out.mono ?_
   rintro e w1 ⟨rfl, rfl⟩
   clear HI
   by_cases hk : k < 0
   ·have HX := Lib.hid (HE.out.trans (if_pos hk))
    clear HE
    go_wp2_with fail
    refine (fail_calls _ _ _).mono ?_
    rintro e w2 ⟨⟨g, rfl, hg⟩, hb⟩
    exact ⟨rfl, Tells.err HX.out (HB0.out.trans (hb.mono HB0.out.size)) (Bad.mono ⟨g, rfl, hg⟩ HB0.out.size)⟩
   ·obtain ⟨j, rfl⟩ : ∃ j : Nat, k = j := ⟨k.toNat, by omega⟩
    have HE2 := Lib.hid (HE.out.trans (if_neg hk))
    clear HE
    go_wp2_with fail
    refine HU.out.mono ?_
    rintro e w2 ⟨rfl, hb⟩
    obtain ⟨c, n⟩ := u
    simp only [Int.toNat_natCast] at HE2
    have hg : w2.heap[W.heap.size]? = some (.cells #[.bool false, .int .i64 0, .slice none 0 0, .int .i64 0, .int .i64 0] 189 (0, 0)) := (hb.block _ (by simp)).trans (heap_alloc_new W _)
    have HB := Lib.hid (HB0.out.trans (hb.mono HB0.out.size))
    have HL := Lib.hid (And.intro HUL.out hkl)
    have hcase : c < 0 ∨ (¬ c < 0 ∧ n ≠ 1 + j) ∨ (¬ c < 0 ∧ n = 1 + j) := by omega
    have hj9 : (p : Int) + 3 + (j : Int) ≤ (s.size : Int) := by omega
    clear HU HUL hb hk hkl
    rcases hcase with hc | ⟨hc, hn⟩ | ⟨hc, hn⟩
    ·have HX := Lib.hid (HE2.out.trans (if_pos (.inl hc)))
     clear HE2
     go_wp2_with fail
     refine (fail_calls _ _ _).mono ?_
     rintro e w3 ⟨⟨g, rfl, hg'⟩, hb⟩
     exact ⟨rfl, Tells.err HX.out (Below.up HB.out hb) (Bad.up ⟨g, rfl, hg'⟩ HB.out)⟩
    ·have HX := Lib.hid (HE2.out.trans (if_pos (.inr hn)))
     have hc0 : 0 ≤ c := by omega
     have hn0 : ((n : Int) != (p : Int) + 2 + 1 + (j : Int) - ((p : Int) + 2)) = true := by rw [bne_iff_ne]; omega
     clear HE2 hn
     go_wp2_with fail
     refine (fail_calls _ _ _).mono ?_
     rintro e w3 ⟨⟨g, rfl, hg'⟩, hb⟩
     exact ⟨rfl, Tells.err HX.out (Below.up HB.out hb) (Bad.up ⟨g, rfl, hg'⟩ HB.out)⟩
    ·have HX := Lib.hid (HE2.out.trans (if_neg (by intro h; rcases h with h | h; exact hc h; exact h hn)))
     have hc0 : 0 ≤ c := by omega
     have hn0 : ((n : Int) != (p : Int) + 2 + 1 + (j : Int) - ((p : Int) + 2)) = false := by rw [bne_eq_false_iff_eq]; omega
     clear HE2 hn
     have hsz : W.heap.size < w2.heap.size := (Array.getElem?_eq_some_iff.1 hg).1
     have hf : ∀ o, w2.frozen? ⟨W.heap.size, o, none⟩ = false := fun o => by simp only [World.frozen?, hg]; simp
     have k0 := lk_cell (i := 0) hg rfl
     have k1 := lk_cell (i := 1) hg rfl
     have k2 := lk_cell (i := 2) hg rfl
     have k3 := lk_cell (i := 3) hg rfl
     have k4 := lk_cell (i := 4) hg rfl
     have HG := Lib.hid (And.intro hg hsz)
     clear hg
     go_wp2_with fail
     (try simp only [Exit.inBlock, Exit.then])
     have hgg := set5_one_blk (a := .bool true) (b := .int .i64 c) (c := .slice (some ⟨w2.heap.size, 0, none⟩) 1 1) (d := .int .i64 p) (e := .int .i64 ((p : Int) + 2 + 1 + j + 2)) HG.out.1 c
     refine bodyPost_ret (results_cell_row rfl _ _ W.heap.size 189 #[.bool true, .int .i64 c, .slice (some ⟨w2.heap.size, 0, none⟩) 1 1, .int .i64 p, .int .i64 ((p : Int) + 2 + 1 + j + 2)] (0, 0) _ rfl hgg Tryz.underlying189 rfl (by kernel_rfl)) rfl ?_
     have hnx : ((p : Int) + 2 + 1 + j + 2) = ((p + 3 + j + 2 : Nat) : Int) := by omega
     have hbb := set5_one_below HB.out (Nat.le_refl _) c (.bool true) (.int .i64 c) (.slice (some ⟨w2.heap.size, 0, none⟩) 1 1) (.int .i64 p) (.int .i64 ((p : Int) + 2 + 1 + j + 2)) HB.out.size
     have hrr := (set5_one_row (w := w2) W.heap.size c (by have := HL.out; omega) (.bool true) (.int .i64 c) (.slice (some ⟨w2.heap.size, 0, none⟩) 1 1) (.int .i64 p) (.int .i64 ((p : Int) + 2 + 1 + j + 2))).lower HB.out.size
     refine Tells.ok HX.out hbb ⟨.slice (some ⟨w2.heap.size, 0, none⟩) 1 1, ?_, hrr⟩
     rw [← hnx]
     rfl
 ·have hi1 : ¬ (p : Int) + 2 + 1 ≤ (s.size : Int) := by omega
  have hp9 : (p : Int) + 2 ≤ 2000 := by omega
  have HX := Lib.hid (HE.out.trans (if_pos (by unfold elk; rw [if_neg h3]; decide)))
  clear HE HU HUL hb0 hs0 hm0 h2 hm h hp h3 hT
  rcases hsg with rfl | rfl
  all_goals
   go_enter Tryz.func192, Tryz.ntmps192
   go_wp2_with fail
   refine (fail_calls _ _ _).mono ?_
   rintro e w2 ⟨⟨g, rfl, hg⟩, hb⟩
   exact ⟨rfl, Tells.err HX.out (HB0.out.trans (hb.mono HB0.out.size)) (Bad.mono ⟨g, rfl, hg⟩ HB0.out.size)⟩
end Go.Proofs.YtamhkdlcoghdbaaGreatDoor.PCls
/- Out of Li (wip/tools/prune2.py): the declarations alone that the texts of the trees name. -/
namespace Go.Proofs.YtamhkdlcoghdbaaGreatDoor.PCls
open Go.RowKit Go.Shelf Go.Proofs.YtamhkdlcoghdbaaGreatDoorW.PrintWords Go.Proofs.YtamhkdlcoghdbaaGreatDoorW.PrintLast Go.Proofs.YtamhkdlcoghdbaaGreatDoorW.PrintMore
set_option linter.unusedVariables false
set_option linter.unusedSimpArgs false
def itemC (s : ByteArray) (x0 p : Nat) (any : Bool) (hm : Bool) (c : Int × Nat) : Except Er It :=
 if c.2 = 0 then .error (33, x0)
 else if c.1 < 0 then .error (20, p)
 else if c.1 = 45 ∧ any = false ∧ hm = false then (if p + 1 = s.size then .error (33, x0) else .error (34, p))
 else .ok ⟨true, c.1, [⟨c.1, c.1⟩], p, (p + c.2 : Nat)⟩
theorem item_eq (C : CL) (s : ByteArray) (chars : Bool) (x0 p : Nat) (any : Bool) : Lx.item C s chars x0 p any = if Lx.here s p [91, 58] = true then Lx.named C s chars x0 p 58 else if Lx.here s p [91, 61] = true then Lx.named C s chars x0 p 61 else if Lx.here s p [91, 46] = true then Lx.named C s chars x0 p 46 else itemC s x0 p any (Lx.here s p [45, 93]) (Lx.unit s chars p) := rfl
theorem named_calls (W : World) (B p q : Nat) (s : ByteArray) (chars fold : Bool) (V : Value) (m : Int) (h : Sc W B s chars fold q V) (hs : s.size ≤ 2000) (hp : p + 2 ≤ s.size) (hm : W.cell? ⟨2, 0, none⟩ = some (.int .i64 m)) (h2 : 2 < W.heap.size) (hT : Lib.Utf8Tabs 0 1 W) (sign : UInt8) (hsg : sign = 58 ∨ sign = 61 ∨ sign = 46) :
  Calls Tryz.prog 192 #[.pointer (some ⟨B, 0, none⟩), .int .i64 p, .string ⟨#[sign]⟩] W fun e w' => Tells W w' e (Lx.named clC s chars q p sign) (ItAt W w' e) := by
 rcases hsg with rfl | hsg
 ·exact named58_calls W B p q s chars fold V m h hs hp hm h2
 ·exact namedEl_calls W B p q s chars fold V m h hs hp hm h2 hT sign hsg
set_option maxHeartbeats 2000000 in
set_option maxRecDepth 100000 in
theorem item_calls (W : World) (B p q : Nat) (s : ByteArray) (chars fold any : Bool) (V : Value) (m : Int) (h : Sc W B s chars fold q V) (hs : s.size ≤ 2000) (hp : p ≤ 4000) (hm : W.cell? ⟨2, 0, none⟩ = some (.int .i64 m)) (h2 : 2 < W.heap.size) (hT : Lib.Utf8Tabs 0 1 W) :
  Calls Tryz.prog 147 #[.pointer (some ⟨B, 0, none⟩), .int .i64 p, .bool any] W fun e w' => Tells W w' e (Lx.item clC s chars q p any) (ItAt W w' e) := by
 have HE := Lib.hid (item_eq clC s chars q p any)
 go_enter Tryz.func147, Tryz.ntmps147
 go_wp2_with fail
 generalize hW2 : (W.alloc (.cells #[.bool false, .int .i64 0, .slice none 0 0, .int .i64 0, .int .i64 0] 189)).alloc (.cells #[.string ⟨#[58]⟩, .string ⟨#[61]⟩, .string ⟨#[46]⟩] 9) = W2
 have hb1 := (Below.refl W.heap.size W).alloc (Nat.le_refl _) (.cells #[.bool false, .int .i64 0, .slice none 0 0, .int .i64 0, .int .i64 0] 189)
 have hb2 := hb1.alloc hb1.size (.cells #[.string ⟨#[58]⟩, .string ⟨#[61]⟩, .string ⟨#[46]⟩] 9)
 have hg : W2.heap[W.heap.size]? = some (.cells #[.bool false, .int .i64 0, .slice none 0 0, .int .i64 0, .int .i64 0] 189 (0, 0)) := by rw [← hW2]; exact heap_alloc2_old _ _ _
 have hg1 : W2.heap[W.heap.size + 1]? = some (.cells #[.string ⟨#[58]⟩, .string ⟨#[61]⟩, .string ⟨#[46]⟩] 9 (0, 0)) := by rw [← hW2]; exact heap_alloc2_new _ _ _
 rw [hW2] at hb2
 have hsc := h.below hb2
 have c0 := hsc.c0
 have c3 := hsc.c3
 have s0 := lk_cell (i := 0) hg1 rfl
 have s1 := lk_cell (i := 1) hg1 rfl
 have s2 := lk_cell (i := 2) hg1 rfl
 have HG := Lib.hid (And.intro hg hb2)
 have hm2 := (hb2.cell (p := ⟨2, 0, none⟩) h2).trans hm
 have HN := Lib.hid (fun sign hp hsg => named_calls W2 B p q s chars fold V m hsc hs hp hm2 (Nat.lt_of_lt_of_le h2 hb2.size) (tabs_below hT hb2) sign hsg)
 have HU := Lib.hid (unit_calls W2 B p q s chars fold V (tabs_below hT hb2) hsc (by omega) (by omega))
 have HC := Lib.hid (fun (w : World) (hb : Below W2.heap.size W2 w) => hsc.below hb)
 have HH := Lib.hid (fun t => here_calls W2 B p s t c0 (by omega))
 have HS := Lib.hid (fun t => here_le (s := s) (p := p) (t := t))
 have HUL := Lib.hid (unit_rng s chars p)
 have hi0 : (0 : Int) ≤ (p : Int) := by omega
 have hi1 : (p : Int) ≤ 4000 := by omega
 generalize hu : Lx.unit s chars p = u at HE HU HUL
 generalize h45 : Lx.here s p [45, 93] = b4 at HE
 generalize hB1 : Lx.here s p [91, 58] = b1 at HE
 generalize hB2 : Lx.here s p [91, 61] = b2 at HE
 generalize hB3 : Lx.here s p [91, 46] = b3 at HE
 have H45 := Lib.hid h45
 have HB1 := Lib.hid hB1
 have HB2 := Lib.hid hB2
 have HB3 := Lib.hid hB3
 clear hu h45 hB1 hB2 hB3 hW2 hb1 hb2 hg hg1 hsc h hm hm2 h2 hT
 go_loop [13] (fun a => a = .int .i64 0 ∨ (a = .int .i64 1 ∧ b1 = false) ∨ (a = .int .i64 2 ∧ b1 = false ∧ b2 = false) ∨ (a = .int .i64 3 ∧ b1 = false ∧ b2 = false ∧ b3 = false)) (fun a => 3 - (intOf a).toNat)
 case atStart => exact .inl rfl
 case round =>
  rcases hrel with rfl | ⟨rfl, hx1⟩ | ⟨rfl, hx1, hx2⟩ | ⟨rfl, hx1, hx2, hx3⟩
  ·go_wp2_with fail
   refine (HH.out ⟨#[91, 58]⟩).mono ?_
   rintro e w ⟨rfl, rfl⟩
   rw [show Lx.here s p (⟨#[91, 58]⟩ : ByteArray).data.toList = b1 from HB1.out]
   cases hb : b1 with
   | true =>
    have HX := Lib.hid (HE.out.trans (by rw [if_pos hb]))
    have hp2 := HS.out _ (HB1.out.trans hb)
    clear HE HU HUL
    go_wp2_with fail
    refine (HN.out 58 hp2 (by decide)).mono ?_
    rintro e w' ⟨hbw, ht⟩
    cases hr : Lx.named clC s chars q p 58 with
    | error y =>
     rw [hr] at ht
     obtain ⟨g, rfl, hg⟩ := ht
     exact ⟨rfl, Tells.err (HX.out.trans hr) (Below.up HG.out.2 hbw) (Bad.up ⟨g, rfl, hg⟩ HG.out.2)⟩
    | ok i =>
     rw [hr] at ht
     obtain ⟨v, rfl, hrow⟩ := ht
     obtain ⟨A, n, rfl⟩ := hrow.form
     have hgz := HG.out.1
     have hgw := (hbw.block _ (Array.getElem?_eq_some_iff.1 hgz).1).trans hgz
     have HY := Lib.hid (And.intro hgw (And.intro hrow (And.intro (Below.up HG.out.2 hbw) (HX.out.trans hr))))
     have hf : ∀ o, w'.frozen? ⟨W.heap.size, o, none⟩ = false := fun o => by simp only [World.frozen?, hgw]; simp
     have k0 := lk_cell (i := 0) hgw rfl
     have k1 := lk_cell (i := 1) hgw rfl
     have k2 := lk_cell (i := 2) hgw rfl
     have k3 := lk_cell (i := 3) hgw rfl
     have k4 := lk_cell (i := 4) hgw rfl
     clear hgw hgz hbw hrow HN HC HH HS HX hr hp2
     obtain ⟨ie, ic, il, ia, ix⟩ := i
     unfold itV
     go_wp2_with fail
     (try simp only [Exit.inBlock, Exit.then])
     have hgg := set5_blk (a := .bool ie) (b := .int .i64 ic) (c := .slice A il.length n) (d := .int .i64 ia) (e := .int .i64 ix) HY.out.1
     refine bodyPost_ret (results_cell_row rfl _ _ W.heap.size 189 #[.bool ie, .int .i64 ic, .slice A il.length n, .int .i64 ia, .int .i64 ix] (0, 0) _ rfl hgg Tryz.underlying189 rfl (by kernel_rfl)) rfl ?_
     have hbb := set5_below HY.out.2.2.1 (Nat.le_refl _) (.bool ie) (.int .i64 ic) (.slice A il.length n) (.int .i64 ia) (.int .i64 ix)
     have hrr := set5_row (HY.out.2.1.lower HG.out.2.size) (row_ge HY.out.2.1 (Array.getElem?_eq_some_iff.1 HG.out.1).1) (.bool ie) (.int .i64 ic) (.slice A il.length n) (.int .i64 ia) (.int .i64 ix)
     exact Tells.ok HY.out.2.2.2 hbb ⟨.slice A il.length n, rfl, hrr⟩
   | false =>
    clear HE HU HUL HN HC
    go_wp2_with fail
    go_round
    case rel => exact .inr (.inl ⟨by go_num, hb⟩)
    case measure => simp [intOf]
  ·go_wp2_with fail
   refine (HH.out ⟨#[91, 61]⟩).mono ?_
   rintro e w ⟨rfl, rfl⟩
   rw [show Lx.here s p (⟨#[91, 61]⟩ : ByteArray).data.toList = b2 from HB2.out]
   cases hb : b2 with
   | true =>
    have HX := Lib.hid (HE.out.trans (by rw [if_neg (by rw [hx1]; decide), if_pos hb]))
    have hp2 := HS.out _ (HB2.out.trans hb)
    clear HE HU HUL
    go_wp2_with fail
    refine (HN.out 61 hp2 (by decide)).mono ?_
    rintro e w' ⟨hbw, ht⟩
    cases hr : Lx.named clC s chars q p 61 with
    | error y =>
     rw [hr] at ht
     obtain ⟨g, rfl, hg⟩ := ht
     exact ⟨rfl, Tells.err (HX.out.trans hr) (Below.up HG.out.2 hbw) (Bad.up ⟨g, rfl, hg⟩ HG.out.2)⟩
    | ok i =>
     rw [hr] at ht
     obtain ⟨v, rfl, hrow⟩ := ht
     obtain ⟨A, n, rfl⟩ := hrow.form
     have hgz := HG.out.1
     have hgw := (hbw.block _ (Array.getElem?_eq_some_iff.1 hgz).1).trans hgz
     have HY := Lib.hid (And.intro hgw (And.intro hrow (And.intro (Below.up HG.out.2 hbw) (HX.out.trans hr))))
     have hf : ∀ o, w'.frozen? ⟨W.heap.size, o, none⟩ = false := fun o => by simp only [World.frozen?, hgw]; simp
     have k0 := lk_cell (i := 0) hgw rfl
     have k1 := lk_cell (i := 1) hgw rfl
     have k2 := lk_cell (i := 2) hgw rfl
     have k3 := lk_cell (i := 3) hgw rfl
     have k4 := lk_cell (i := 4) hgw rfl
     clear hgw hgz hbw hrow HN HC HH HS HX hr hp2
     obtain ⟨ie, ic, il, ia, ix⟩ := i
     unfold itV
     go_wp2_with fail
     (try simp only [Exit.inBlock, Exit.then])
     have hgg := set5_blk (a := .bool ie) (b := .int .i64 ic) (c := .slice A il.length n) (d := .int .i64 ia) (e := .int .i64 ix) HY.out.1
     refine bodyPost_ret (results_cell_row rfl _ _ W.heap.size 189 #[.bool ie, .int .i64 ic, .slice A il.length n, .int .i64 ia, .int .i64 ix] (0, 0) _ rfl hgg Tryz.underlying189 rfl (by kernel_rfl)) rfl ?_
     have hbb := set5_below HY.out.2.2.1 (Nat.le_refl _) (.bool ie) (.int .i64 ic) (.slice A il.length n) (.int .i64 ia) (.int .i64 ix)
     have hrr := set5_row (HY.out.2.1.lower HG.out.2.size) (row_ge HY.out.2.1 (Array.getElem?_eq_some_iff.1 HG.out.1).1) (.bool ie) (.int .i64 ic) (.slice A il.length n) (.int .i64 ia) (.int .i64 ix)
     exact Tells.ok HY.out.2.2.2 hbb ⟨.slice A il.length n, rfl, hrr⟩
   | false =>
    clear HE HU HUL HN HC
    go_wp2_with fail
    go_round
    case rel => exact .inr (.inr (.inl ⟨by go_num, hx1, hb⟩))
    case measure => simp [intOf]
  ·go_wp2_with fail
   refine (HH.out ⟨#[91, 46]⟩).mono ?_
   rintro e w ⟨rfl, rfl⟩
   rw [show Lx.here s p (⟨#[91, 46]⟩ : ByteArray).data.toList = b3 from HB3.out]
   cases hb : b3 with
   | true =>
    have HX := Lib.hid (HE.out.trans (by rw [if_neg (by rw [hx1]; decide), if_neg (by rw [hx2]; decide), if_pos hb]))
    have hp2 := HS.out _ (HB3.out.trans hb)
    clear HE HU HUL
    go_wp2_with fail
    refine (HN.out 46 hp2 (by decide)).mono ?_
    rintro e w' ⟨hbw, ht⟩
    cases hr : Lx.named clC s chars q p 46 with
    | error y =>
     rw [hr] at ht
     obtain ⟨g, rfl, hg⟩ := ht
     exact ⟨rfl, Tells.err (HX.out.trans hr) (Below.up HG.out.2 hbw) (Bad.up ⟨g, rfl, hg⟩ HG.out.2)⟩
    | ok i =>
     rw [hr] at ht
     obtain ⟨v, rfl, hrow⟩ := ht
     obtain ⟨A, n, rfl⟩ := hrow.form
     have hgz := HG.out.1
     have hgw := (hbw.block _ (Array.getElem?_eq_some_iff.1 hgz).1).trans hgz
     have HY := Lib.hid (And.intro hgw (And.intro hrow (And.intro (Below.up HG.out.2 hbw) (HX.out.trans hr))))
     have hf : ∀ o, w'.frozen? ⟨W.heap.size, o, none⟩ = false := fun o => by simp only [World.frozen?, hgw]; simp
     have k0 := lk_cell (i := 0) hgw rfl
     have k1 := lk_cell (i := 1) hgw rfl
     have k2 := lk_cell (i := 2) hgw rfl
     have k3 := lk_cell (i := 3) hgw rfl
     have k4 := lk_cell (i := 4) hgw rfl
     clear hgw hgz hbw hrow HN HC HH HS HX hr hp2
     obtain ⟨ie, ic, il, ia, ix⟩ := i
     unfold itV
     go_wp2_with fail
     (try simp only [Exit.inBlock, Exit.then])
     have hgg := set5_blk (a := .bool ie) (b := .int .i64 ic) (c := .slice A il.length n) (d := .int .i64 ia) (e := .int .i64 ix) HY.out.1
     refine bodyPost_ret (results_cell_row rfl _ _ W.heap.size 189 #[.bool ie, .int .i64 ic, .slice A il.length n, .int .i64 ia, .int .i64 ix] (0, 0) _ rfl hgg Tryz.underlying189 rfl (by kernel_rfl)) rfl ?_
     have hbb := set5_below HY.out.2.2.1 (Nat.le_refl _) (.bool ie) (.int .i64 ic) (.slice A il.length n) (.int .i64 ia) (.int .i64 ix)
     have hrr := set5_row (HY.out.2.1.lower HG.out.2.size) (row_ge HY.out.2.1 (Array.getElem?_eq_some_iff.1 HG.out.1).1) (.bool ie) (.int .i64 ic) (.slice A il.length n) (.int .i64 ia) (.int .i64 ix)
     exact Tells.ok HY.out.2.2.2 hbb ⟨.slice A il.length n, rfl, hrr⟩
   | false =>
    clear HE HU HUL HN HC
    go_wp2_with fail
    go_round
    case rel => exact .inr (.inr (.inr ⟨by go_num, hx1, hx2, hb⟩))
    case measure => simp [intOf]
  ·have HX := Lib.hid (HE.out.trans (by rw [if_neg (by rw [hx1]; decide), if_neg (by rw [hx2]; decide), if_neg (by rw [hx3]; decide)]))
   clear HE HN hx1 hx2 hx3
   go_wp2_with fail
   refine HU.out.mono ?_
   rintro e w3 ⟨rfl, hb⟩
   obtain ⟨c, n⟩ := u
   have c7 := (HC.out w3 hb).c3
   have c8 := (HC.out w3 hb).c0
   have HB := Lib.hid (Below.up HG.out.2 hb)
   have hgz := HG.out.1
   have hgw := (hb.block _ (Array.getElem?_eq_some_iff.1 hgz).1).trans hgz
   have HL := Lib.hid HUL.out
   have hln : (n : Int) ≤ 2000 := by have := HUL.out; omega
   have HH3 := Lib.hid (here_calls w3 B p s ⟨#[45, 93]⟩ c8 (by omega))
   rw [show Lx.here s p (⟨#[45, 93]⟩ : ByteArray).data.toList = b4 from H45.out] at HH3
   clear HU HUL HC hb hgz HH c0 c3 s0 s1 s2
   by_cases hn : n = 0
   ·have HY := Lib.hid (HX.out.trans (if_pos hn))
    have hn' : ((n : Int) == 0) = true := by rw [beq_iff_eq]; omega
    clear HX
    go_wp2_with fail
    refine (fail_calls _ _ _).mono ?_
    rintro e w4 ⟨⟨g, rfl, hg'⟩, hb⟩
    exact ⟨rfl, Tells.err HY.out (Below.up HB.out hb) (Bad.up ⟨g, rfl, hg'⟩ HB.out)⟩
   have hn' : ((n : Int) == 0) = false := by rw [beq_eq_false_iff_ne]; omega
   by_cases hc : c < 0
   ·have HY := Lib.hid (HX.out.trans ((if_neg hn).trans (if_pos hc)))
    clear HX
    go_wp2_with fail
    refine (fail_calls _ _ _).mono ?_
    rintro e w4 ⟨⟨g, rfl, hg'⟩, hb⟩
    exact ⟨rfl, Tells.err HY.out (Below.up HB.out hb) (Bad.up ⟨g, rfl, hg'⟩ HB.out)⟩
   have HX2 := Lib.hid (HX.out.trans ((if_neg hn).trans (if_neg hc)))
   clear HX
   have hf : ∀ o, w3.frozen? ⟨W.heap.size, o, none⟩ = false := fun o => by simp only [World.frozen?, hgw]; simp
   have k0 := lk_cell (i := 0) hgw rfl
   have k1 := lk_cell (i := 1) hgw rfl
   have k2 := lk_cell (i := 2) hgw rfl
   have k3 := lk_cell (i := 3) hgw rfl
   have k4 := lk_cell (i := 4) hgw rfl
   have hsz : W.heap.size < w3.heap.size := (Array.getElem?_eq_some_iff.1 hgw).1
   have HW := Lib.hid hgw
   clear hgw
   by_cases h45 : c = 45
   ·cases any with
    | false =>
     cases b4 with
     | false =>
      by_cases hend : p + 1 = s.size
      ·have HY := Lib.hid (HX2.out.trans ((if_pos ⟨h45, rfl, rfl⟩).trans (if_pos hend)))
       have he : ((p : Int) + 1 == (s.size : Int)) = true := by rw [beq_iff_eq]; omega
       clear HX2 hend
       subst h45
       go_wp2_with fail
       refine HH3.out.mono ?_
       rintro e w ⟨rfl, hw⟩
       subst w
       go_wp2_with fail
       refine (fail_calls _ _ _).mono ?_
       rintro e w4 ⟨⟨g, rfl, hg'⟩, hb⟩
       exact ⟨rfl, Tells.err HY.out (Below.up HB.out hb) (Bad.up ⟨g, rfl, hg'⟩ HB.out)⟩
      ·have HY := Lib.hid (HX2.out.trans ((if_pos ⟨h45, rfl, rfl⟩).trans (if_neg hend)))
       have he : ((p : Int) + 1 == (s.size : Int)) = false := by rw [beq_eq_false_iff_ne]; omega
       clear HX2 hend
       subst h45
       go_wp2_with fail
       refine HH3.out.mono ?_
       rintro e w ⟨rfl, hw⟩
       subst w
       go_wp2_with fail
       refine (fail_calls _ _ _).mono ?_
       rintro e w4 ⟨⟨g, rfl, hg'⟩, hb⟩
       exact ⟨rfl, Tells.err HY.out (Below.up HB.out hb) (Bad.up ⟨g, rfl, hg'⟩ HB.out)⟩
     | true =>
      have HY := Lib.hid (HX2.out.trans (if_neg (by intro h; exact absurd h.2.2 (by decide))))
      clear HX2
      subst h45
      go_wp2_with fail
      refine HH3.out.mono ?_
      rintro e w ⟨rfl, hw⟩
      subst w
      go_wp2_with fail
      (try simp only [Exit.inBlock, Exit.then])
      have hgg := set5_one_blk (a := .bool true) (b := .int .i64 45) (c := .slice (some ⟨w3.heap.size, 0, none⟩) 1 1) (d := .int .i64 p) (e := .int .i64 ((p : Int) + (n : Int))) HW.out 45
      refine bodyPost_ret (results_cell_row rfl _ _ W.heap.size 189 #[.bool true, .int .i64 45, .slice (some ⟨w3.heap.size, 0, none⟩) 1 1, .int .i64 p, .int .i64 ((p : Int) + (n : Int))] (0, 0) _ rfl hgg Tryz.underlying189 rfl (by kernel_rfl)) rfl ?_
      have hbb := set5_one_below HB.out (Nat.le_refl _) 45 (.bool true) (.int .i64 45) (.slice (some ⟨w3.heap.size, 0, none⟩) 1 1) (.int .i64 p) (.int .i64 ((p : Int) + (n : Int))) HB.out.size
      have hrr := (set5_one_row (w := w3) W.heap.size 45 (by have := HL.out; omega) (.bool true) (.int .i64 45) (.slice (some ⟨w3.heap.size, 0, none⟩) 1 1) (.int .i64 p) (.int .i64 ((p : Int) + (n : Int)))).lower HB.out.size
      refine Tells.ok HY.out hbb ⟨.slice (some ⟨w3.heap.size, 0, none⟩) 1 1, ?_, hrr⟩
      rfl
    | true =>
     have HY := Lib.hid (HX2.out.trans (if_neg (by intro h; exact absurd h.2.1 (by decide))))
     clear HX2
     subst h45
     go_wp2_with fail
     (try simp only [Exit.inBlock, Exit.then])
     have hgg := set5_one_blk (a := .bool true) (b := .int .i64 45) (c := .slice (some ⟨w3.heap.size, 0, none⟩) 1 1) (d := .int .i64 p) (e := .int .i64 ((p : Int) + (n : Int))) HW.out 45
     refine bodyPost_ret (results_cell_row rfl _ _ W.heap.size 189 #[.bool true, .int .i64 45, .slice (some ⟨w3.heap.size, 0, none⟩) 1 1, .int .i64 p, .int .i64 ((p : Int) + (n : Int))] (0, 0) _ rfl hgg Tryz.underlying189 rfl (by kernel_rfl)) rfl ?_
     have hbb := set5_one_below HB.out (Nat.le_refl _) 45 (.bool true) (.int .i64 45) (.slice (some ⟨w3.heap.size, 0, none⟩) 1 1) (.int .i64 p) (.int .i64 ((p : Int) + (n : Int))) HB.out.size
     have hrr := (set5_one_row (w := w3) W.heap.size 45 (by have := HL.out; omega) (.bool true) (.int .i64 45) (.slice (some ⟨w3.heap.size, 0, none⟩) 1 1) (.int .i64 p) (.int .i64 ((p : Int) + (n : Int)))).lower HB.out.size
     refine Tells.ok HY.out hbb ⟨.slice (some ⟨w3.heap.size, 0, none⟩) 1 1, ?_, hrr⟩
     rfl
   ·have HY := Lib.hid (HX2.out.trans (if_neg (fun h => h45 h.1)))
    have h45' : (c == 45) = false := by rw [beq_eq_false_iff_ne]; exact h45
    clear HX2
    go_wp2_with fail
    (try simp only [Exit.inBlock, Exit.then])
    have hgg := set5_one_blk (a := .bool true) (b := .int .i64 c) (c := .slice (some ⟨w3.heap.size, 0, none⟩) 1 1) (d := .int .i64 p) (e := .int .i64 ((p : Int) + (n : Int))) HW.out c
    refine bodyPost_ret (results_cell_row rfl _ _ W.heap.size 189 #[.bool true, .int .i64 c, .slice (some ⟨w3.heap.size, 0, none⟩) 1 1, .int .i64 p, .int .i64 ((p : Int) + (n : Int))] (0, 0) _ rfl hgg Tryz.underlying189 rfl (by kernel_rfl)) rfl ?_
    have hbb := set5_one_below HB.out (Nat.le_refl _) c (.bool true) (.int .i64 c) (.slice (some ⟨w3.heap.size, 0, none⟩) 1 1) (.int .i64 p) (.int .i64 ((p : Int) + (n : Int))) HB.out.size
    have hrr := (set5_one_row (w := w3) W.heap.size c (by have := HL.out; omega) (.bool true) (.int .i64 c) (.slice (some ⟨w3.heap.size, 0, none⟩) 1 1) (.int .i64 p) (.int .i64 ((p : Int) + (n : Int)))).lower HB.out.size
    refine Tells.ok HY.out hbb ⟨.slice (some ⟨w3.heap.size, 0, none⟩) 1 1, ?_, hrr⟩
    rfl
end Go.Proofs.YtamhkdlcoghdbaaGreatDoor.PCls
