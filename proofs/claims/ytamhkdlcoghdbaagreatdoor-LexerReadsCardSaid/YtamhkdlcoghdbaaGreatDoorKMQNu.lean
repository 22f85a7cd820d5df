/- Put together (wip/tools/pack.py): QNu, QRa. -/
import Derived.Test.YtamhkdlcoghdbaaGreatDoorKQNs
/- Out of Nu (wip/tools/prune2.py): the declarations alone that the texts of the trees name. -/
namespace Go.Proofs.YtamhkdlcoghdbaaGreatDoor.PCls
open Go.RowKit Go.Shelf Go.Proofs.YtamhkdlcoghdbaaGreatDoorW.PrintWords Go.Proofs.YtamhkdlcoghdbaaGreatDoorW.PrintLast Go.Proofs.YtamhkdlcoghdbaaGreatDoorW.PrintMore
set_option linter.unusedVariables false
set_option linter.unusedSimpArgs false
theorem ext_list (s : ByteArray) (p n : Nat) (h : p + n ≤ s.size) : (s.extract p (p + n)).toList = (List.range n).map fun i => s.data.toList.getD (p + i) 0 := by
 rw [ByteArray.toList_eq]
 apply List.ext_getElem?
 intro i
 have h0 := len_size s
 simp only [ByteArray.data_extract, Array.toList_extract, List.extract_eq_take_drop, show p + n - p = n by omega]
 rw [List.getElem?_take, List.getElem?_drop, List.getElem?_map]
 by_cases hi : i < n
 ·rw [if_pos hi, List.getElem?_range hi, List.getElem?_eq_getElem (by omega)]
  rw [Option.map_some, List.getD_eq_getElem?_getD, List.getElem?_eq_getElem (by omega)]
  rfl
 ·rw [if_neg hi, List.getElem?_eq_none (by simp; omega)]
  rfl
theorem isC_iff (c : Nat) : isC c = true ↔ c ≤ 1114111 ∧ (c < 55296 ∨ 57343 < c) := by unfold isC; simp
theorem okC_iff (s : ByteArray) (p n c : Nat) (h : p + n ≤ s.size) : okC s p n c = true ↔ isC c = true ∧ encB c = (List.range n).map fun i => s.data.toList.getD (p + i) 0 := by
 unfold okC
 rw [Bool.and_eq_true, ext_list s p n h, beq_iff_eq]
theorem un2 (s : ByteArray) (p : Nat) (hp : p < s.size) (h : 192 ≤ Lx.byt s p ∧ Lx.byt s p < 224) : UnN s p 2 (Lx.byt s p - 192) := by
 have ha : acc s p (Lx.byt s p - 192) (2 - 1) = v2 (Lx.byt s p) (Lx.byt s (p + 1)) := rfl
 have hd := dN2 (s.size - p) (Lx.byt s p) (Lx.byt s (p + 1)) (Lx.byt s (p + 2)) (Lx.byt s (p + 3)) h
 have hv : cnt s p 2 → v2 (Lx.byt s p) (Lx.byt s (p + 1)) ≤ 2047 := fun e => by have := e 1 (by omega) (by omega); unfold v2; omega
 rw [← dAt] at hd
 refine ⟨fun h1 h2 h3 => ?_, fun h1 => ?_⟩
 ·have h4 := h2 1 (by omega) (by omega)
  rw [okC_iff s p 2 _ h1, ha] at h3
  rw [ha]
  refine unit_ok hp (hd.trans (if_pos ⟨by omega, h4.1, h4.2, ?_⟩)) (by omega)
  exact (encB2 s p h h4).1 h3.2
 ·by_cases hc : 1 < s.size - p ∧ 128 ≤ Lx.byt s (p + 1) ∧ Lx.byt s (p + 1) ≤ 191 ∧ 128 ≤ v2 (Lx.byt s p) (Lx.byt s (p + 1))
  ·have h2 : cnt s p 2 := fun j a b => by rw [show j = 1 by omega]; exact ⟨hc.2.1, hc.2.2.1⟩
   refine absurd ⟨by omega, h2, ?_⟩ h1
   rw [okC_iff s p 2 _ (by omega), ha, isC_iff]
   have := hv h2
   exact ⟨⟨by omega, by omega⟩, (encB2 s p h ⟨hc.2.1, hc.2.2.1⟩).2 hc.2.2.2⟩
  ·exact unit_bad hp (hd.trans (if_neg hc))
theorem un3 (s : ByteArray) (p : Nat) (hp : p < s.size) (h : 224 ≤ Lx.byt s p ∧ Lx.byt s p < 240) : UnN s p 3 (Lx.byt s p - 224) := by
 have ha : acc s p (Lx.byt s p - 224) (3 - 1) = v3 (Lx.byt s p) (Lx.byt s (p + 1)) (Lx.byt s (p + 2)) := rfl
 have hd := dN3 (s.size - p) (Lx.byt s p) (Lx.byt s (p + 1)) (Lx.byt s (p + 2)) (Lx.byt s (p + 3)) h
 have hv : cnt s p 3 → v3 (Lx.byt s p) (Lx.byt s (p + 1)) (Lx.byt s (p + 2)) ≤ 65535 := fun e => by have := e 1 (by omega) (by omega); have := e 2 (by omega) (by omega); unfold v3; omega
 rw [← dAt] at hd
 refine ⟨fun h1 h2 h3 => ?_, fun h1 => ?_⟩
 ·have h4 := h2 1 (by omega) (by omega)
  have h5 := h2 2 (by omega) (by omega)
  rw [okC_iff s p 3 _ h1, ha, isC_iff] at h3
  rw [ha]
  refine unit_ok hp (hd.trans (if_pos ⟨by omega, h4.1, h4.2, h5.1, h5.2, ?_, h3.1.2⟩)) (by omega)
  exact (encB3 s p h h4 h5).1 h3.2
 ·by_cases hc : 2 < s.size - p ∧ 128 ≤ Lx.byt s (p + 1) ∧ Lx.byt s (p + 1) ≤ 191 ∧ 128 ≤ Lx.byt s (p + 2) ∧ Lx.byt s (p + 2) ≤ 191 ∧ 2048 ≤ v3 (Lx.byt s p) (Lx.byt s (p + 1)) (Lx.byt s (p + 2)) ∧ (v3 (Lx.byt s p) (Lx.byt s (p + 1)) (Lx.byt s (p + 2)) < 55296 ∨ 57343 < v3 (Lx.byt s p) (Lx.byt s (p + 1)) (Lx.byt s (p + 2)))
  ·obtain ⟨c1, c2, c3, c4, c5, c6, c7⟩ := hc
   have h2 : cnt s p 3 := fun j a b => by
    have : j = 1 ∨ j = 2 := by omega
    rcases this with rfl | rfl
    ·exact ⟨c2, c3⟩
    ·exact ⟨c4, c5⟩
   refine absurd ⟨by omega, h2, ?_⟩ h1
   rw [okC_iff s p 3 _ (by omega), ha, isC_iff]
   have := hv h2
   exact ⟨⟨by omega, c7⟩, (encB3 s p h ⟨c2, c3⟩ ⟨c4, c5⟩).2 c6⟩
  ·exact unit_bad hp (hd.trans (if_neg hc))
theorem un4 (s : ByteArray) (p : Nat) (hp : p < s.size) (h : 240 ≤ Lx.byt s p ∧ Lx.byt s p < 248) : UnN s p 4 (Lx.byt s p - 240) := by
 have ha : acc s p (Lx.byt s p - 240) (4 - 1) = v4 (Lx.byt s p) (Lx.byt s (p + 1)) (Lx.byt s (p + 2)) (Lx.byt s (p + 3)) := rfl
 have hd := dN4 (s.size - p) (Lx.byt s p) (Lx.byt s (p + 1)) (Lx.byt s (p + 2)) (Lx.byt s (p + 3)) h
 rw [← dAt] at hd
 refine ⟨fun h1 h2 h3 => ?_, fun h1 => ?_⟩
 ·have h4 := h2 1 (by omega) (by omega)
  have h5 := h2 2 (by omega) (by omega)
  have h6 := h2 3 (by omega) (by omega)
  rw [okC_iff s p 4 _ h1, ha, isC_iff] at h3
  rw [ha]
  refine unit_ok hp (hd.trans (if_pos ⟨by omega, h4.1, h4.2, h5.1, h5.2, h6.1, h6.2, ?_, h3.1.1⟩)) (by omega)
  exact (encB4 s p h h4 h5 h6).1 h3.2
 ·by_cases hc : 3 < s.size - p ∧ 128 ≤ Lx.byt s (p + 1) ∧ Lx.byt s (p + 1) ≤ 191 ∧ 128 ≤ Lx.byt s (p + 2) ∧ Lx.byt s (p + 2) ≤ 191 ∧ 128 ≤ Lx.byt s (p + 3) ∧ Lx.byt s (p + 3) ≤ 191 ∧ 65536 ≤ v4 (Lx.byt s p) (Lx.byt s (p + 1)) (Lx.byt s (p + 2)) (Lx.byt s (p + 3)) ∧ v4 (Lx.byt s p) (Lx.byt s (p + 1)) (Lx.byt s (p + 2)) (Lx.byt s (p + 3)) ≤ 1114111
  ·obtain ⟨c1, c2, c3, c4, c5, c6, c7, c8, c9⟩ := hc
   have h2 : cnt s p 4 := fun j a b => by
    have : j = 1 ∨ j = 2 ∨ j = 3 := by omega
    rcases this with rfl | rfl | rfl
    ·exact ⟨c2, c3⟩
    ·exact ⟨c4, c5⟩
    ·exact ⟨c6, c7⟩
   refine absurd ⟨by omega, h2, ?_⟩ h1
   rw [okC_iff s p 4 _ (by omega), ha, isC_iff]
   exact ⟨⟨c9, by omega⟩, (encB4 s p h ⟨c2, c3⟩ ⟨c4, c5⟩ ⟨c6, c7⟩).2 c8⟩
  ·exact unit_bad hp (hd.trans (if_neg hc))
theorem refnext_calls (s : ByteArray) (p : Nat) (w : World) (hs : s.size ≤ 140737488351232) (hpp : p ≤ 140737488351232) : Calls Tryz.prog 139 #[.string s, .int .i64 p] w fun e w' => e = .returned (unV s p) ∧ Below w.heap.size w w' := by
 by_cases hp : p < s.size
 ·have hlt := byt_lt s p
  by_cases h2 : 192 ≤ Lx.byt s p ∧ Lx.byt s p < 224
  ·exact rnext_2 s p w hs hp h2 (un2 s p hp h2)
  by_cases h3 : 224 ≤ Lx.byt s p ∧ Lx.byt s p < 240
  ·exact rnext_3 s p w hs hp h3 (un3 s p hp h3)
  by_cases h4 : 240 ≤ Lx.byt s p ∧ Lx.byt s p < 248
  ·exact rnext_4 s p w hs hp h4 (un4 s p hp h4)
  ·exact rnext_low s p w hs hpp (fun _ => by omega)
 ·exact rnext_low s p w hs hpp (fun h => absurd h hp)
set_option maxHeartbeats 2000000 in
theorem refunit_calls (s : ByteArray) (chars : Bool) (p : Nat) (w : World) (hs : s.size ≤ 140737488351232) (hpp : p ≤ 140737488351232) : Calls Tryz.prog 83 #[.string s, .int .i64 p, .bool chars] w fun e w' => e = .returned (.tuple #[.int .i64 (Lx.unit s chars p).1, .int .i64 (Lx.unit s chars p).2]) ∧ Below w.heap.size w w' := by
 cases chars with
 | true =>
  have HC := Lib.hid (refnext_calls s p w hs hpp)
  unfold unV at HC
  obtain ⟨u, hu⟩ : ∃ u, u = Lx.unit s true p := ⟨_, rfl⟩
  rw [← hu] at HC ⊢
  clear hu
  go_enter Tryz.func83, Tryz.ntmps83
  go_wp2_with fail
  refine HC.out.mono ?_
  rintro e w5 ⟨rfl, hb5⟩
  have HB := Lib.hid hb5
  clear hb5 HC
  go_wp2_with fail
  go_ret2
  exact ⟨rfl, HB.out⟩
 | false =>
  have h0 : ¬ (p : Int) < 0 := by omega
  by_cases hlt : p < s.size
  ·have hb := (byt_at s p hlt).symm
   have h1 : (p : Int) < (s.size : Int) := by omega
   have h2 : ¬ s.size ≤ p := by omega
   have HX := Lib.hid (show Lx.unit s false p = ((Lx.byt s p : Int), 1) by simp [Lx.unit, hlt])
   have hl := byt_lt s p
   obtain ⟨b, hbb⟩ : ∃ b, b = Lx.byt s p := ⟨_, rfl⟩
   rw [← hbb] at HX hb hl
   have h3 : (b : Int) ≤ 255 := by omega
   have h4 : (0 : Int) ≤ (b : Int) := by omega
   clear hbb hl
   go_enter Tryz.func83, Tryz.ntmps83
   go_wp2_with fail
   go_ret2
   exact ⟨by rw [HX.out]; rfl, Below.refl _ _⟩
  ·have h2 : s.size ≤ p := by omega
   have HX := Lib.hid (show Lx.unit s false p = (0, 0) by simp [Lx.unit, hlt])
   clear hlt
   go_enter Tryz.func83, Tryz.ntmps83
   go_wp2_with fail
   go_ret2
   exact ⟨by rw [HX.out]; rfl, Below.refl _ _⟩
end Go.Proofs.YtamhkdlcoghdbaaGreatDoor.PCls
/- Out of Ra (wip/tools/prune2.py): the declarations alone that the texts of the trees name. -/
namespace Go.Proofs.YtamhkdlcoghdbaaGreatDoor.PCls
open Go.RowKit Go.Shelf Go.Proofs.YtamhkdlcoghdbaaGreatDoorW.PrintWords Go.Proofs.YtamhkdlcoghdbaaGreatDoorW.PrintLast Go.Proofs.YtamhkdlcoghdbaaGreatDoorW.PrintMore
set_option linter.unusedVariables false
set_option linter.unusedSimpArgs false
/-- the reference's scanner in memory; c, q: what is wrong first, and where -/
def Rs (W : World) (B : Nat) (s : ByteArray) (chars fold : Bool) (p : Nat) (V : Value) (c q : Int) : Prop := W.heap[B]? = some (.cells #[.string s, .bool chars, .bool fold, .int .i64 p, V, .int .i64 c, .int .i64 q] 70 (0, 0))
section
variable {W : World} {B : Nat} {s : ByteArray} {chars fold : Bool} {p : Nat} {V : Value} {c q : Int}
theorem Rs.below {A : World} (h : Rs A B s chars fold p V c q) (hb : Below A.heap.size A W) : Rs W B s chars fold p V c q := (hb.block B (Array.getElem?_eq_some_iff.1 h).1).trans h
theorem Rs.c0 (h : Rs W B s chars fold p V c q) : W.cell? ⟨B, 0, none⟩ = some (.string s) := lk_cell (i := 0) h rfl
theorem Rs.c1 (h : Rs W B s chars fold p V c q) : W.cell? ⟨B, 1, none⟩ = some (.bool chars) := lk_cell (i := 1) h rfl
theorem Rs.c2 (h : Rs W B s chars fold p V c q) : W.cell? ⟨B, 2, none⟩ = some (.bool fold) := lk_cell (i := 2) h rfl
theorem Rs.c3 (h : Rs W B s chars fold p V c q) : W.cell? ⟨B, 3, none⟩ = some (.int .i64 p) := lk_cell (i := 3) h rfl
theorem Rs.c4 (h : Rs W B s chars fold p V c q) : W.cell? ⟨B, 4, none⟩ = some V := lk_cell (i := 4) h rfl
theorem Rs.c5 (h : Rs W B s chars fold p V c q) : W.cell? ⟨B, 5, none⟩ = some (.int .i64 c) := lk_cell (i := 5) h rfl
theorem Rs.c6 (h : Rs W B s chars fold p V c q) : W.cell? ⟨B, 6, none⟩ = some (.int .i64 q) := lk_cell (i := 6) h rfl
theorem Rs.lt (h : Rs W B s chars fold p V c q) : B < W.heap.size := (Array.getElem?_eq_some_iff.1 h).1
theorem Rs.fz (h : Rs W B s chars fold p V c q) : ∀ o, W.frozen? ⟨B, o, none⟩ = false := fun o => by simp [World.frozen?, show W.heap[B]? = _ from h]
end
/-- the scanner's state, as the program's -/
structure RSt (W : World) (B base : Nat) (s : ByteArray) (chars fold : Bool) (x : Lx.St) (V : Value) : Prop where
 sc : Rs W B s chars fold x.sat V 0 0
 toks : ToksAt W base V x.out
 lt : B < base
 hb : base ≤ W.heap.size
 len : x.out.length ≤ x.sat
 sz : x.sat ≤ s.size
 ss : s.size ≤ 2000
theorem RSt.below {A W : World} {B base : Nat} {s : ByteArray} {chars fold : Bool} {x : Lx.St} {V : Value} (h : RSt A B base s chars fold x V) (hb : Below A.heap.size A W) : RSt W B base s chars fold x V :=
 ⟨h.sc.below hb, h.toks.move (fun k _ hk => hb.block k hk), h.lt, Nat.le_trans h.hb hb.size, h.len, h.sz, h.ss⟩
/-- what is wrong has been written down -/
def RErr (W w' : World) (B base : Nat) (s : ByteArray) (chars fold : Bool) (x : Er) : Prop := (∃ p V, Rs w' B s chars fold p V x.1 x.2) ∧ Stp W w' B base
set_option maxHeartbeats 2000000 in
theorem no_calls (W : World) (B base : Nat) (s : ByteArray) (chars fold : Bool) (p : Nat) (V : Value) (c q : Int) (h : Rs W B s chars fold p V 0 0) (hbase : base ≤ W.heap.size) :
  Calls Tryz.prog 87 #[.pointer (some ⟨B, 0, none⟩), .int .i64 c, .int .i64 q] W fun e w' => e = .returned (.tuple #[]) ∧ Rs w' B s chars fold p V c q ∧ Stp W w' B base := by
 have c5 := h.c5
 have c6 := h.c6
 have hf := h.fz
 have HS := Lib.hid (And.intro h hbase)
 clear h hbase
 go_enter Tryz.func87, Tryz.ntmps87
 go_wp2_with fail
 have hend : Rs ((W.setCell ⟨B, 5, none⟩ (.int .i64 c)).setCell ⟨B, 6, none⟩ (.int .i64 q)) B s chars fold p V c q := set_blk (set_blk HS.out.1 _ _) _ _
 have hst : Stp W ((W.setCell ⟨B, 5, none⟩ (.int .i64 c)).setCell ⟨B, 6, none⟩ (.int .i64 q)) B base := ⟨rfl, rfl, rfl, by simp [World.setCell], fun k hk hkB => (Below.heap_setCell _ ⟨B, 6, none⟩ _ k hkB).trans (Below.heap_setCell _ ⟨B, 5, none⟩ _ k hkB)⟩
 go_end0
 exact ⟨rfl, hend, hst⟩
theorem pre_take {l t : List UInt8} : Lib.hasPrefix l t = (l.take t.length == t) := by
 unfold Lib.hasPrefix
 rw [Bool.eq_iff_iff, beq_iff_eq, List.isPrefixOf_iff_prefix, List.prefix_iff_eq_take]
 exact ⟨Eq.symm, Eq.symm⟩
theorem here_piece (s t : ByteArray) (p : Nat) (h : p + t.size ≤ s.size) : Lx.here s p t.data.toList = ((s.extract p (p + t.size)).toList == t.toList) := by
 unfold Lx.here
 rw [decide_eq_true (show p ≤ s.size by omega), Bool.true_and, pre_take, ByteArray.toList_eq, ByteArray.toList_eq]
 simp only [ByteArray.data_extract, Array.toList_extract, List.extract_eq_take_drop, show p + t.size - p = t.size by omega, len_size]
theorem here_long (s t : ByteArray) (p : Nat) (h : ¬ p + t.size ≤ s.size) : Lx.here s p t.data.toList = false := by
 cases hh : Lx.here s p t.data.toList with
 | false => rfl
 | true => exact absurd (by have := here_le hh; rwa [len_size] at this) h
set_option maxHeartbeats 2000000 in
set_option maxRecDepth 100000 in
theorem is_calls' (W : World) (B p : Nat) (s t : ByteArray) (c0 : W.cell? ⟨B, 0, none⟩ = some (.string s)) (hs : s.size ≤ 2000) (hp : p ≤ 5000) (ht : t.size ≤ 10) :
  Calls Tryz.prog 86 #[.pointer (some ⟨B, 0, none⟩), .int .i64 p, .string t] W fun e w' => e = .returned (.bool (Lx.here s p t.data.toList)) ∧ w' = W := by
 have h0 : (0 : Int) ≤ (p : Int) := by omega
 by_cases h1 : p ≤ s.size
 ·have i1 : (p : Int) ≤ (s.size : Int) := by omega
  by_cases h2 : p + t.size ≤ s.size
  ·have i2 : (t.size : Int) ≤ (s.size : Int) - (p : Int) := by omega
   have i3 : (p : Int) ≤ (p : Int) + (t.size : Int) := by omega
   have i4 : (p : Int) + (t.size : Int) ≤ (s.size : Int) := by omega
   have i5 : ((p : Int) + (t.size : Int)).toNat = p + t.size := by omega
   have HX := Lib.hid (here_piece s t p h2)
   clear h1 h2
   go_enter Tryz.func86, Tryz.ntmps86
   go_wp2_with fail
   go_ret
   exact ⟨by rw [HX.out]; rfl, rfl⟩
  ·have i2 : ¬ (t.size : Int) ≤ (s.size : Int) - (p : Int) := by omega
   have HX := Lib.hid (here_long s t p h2)
   clear h1 h2
   go_enter Tryz.func86, Tryz.ntmps86
   go_wp2_with fail
   go_ret
   exact ⟨by rw [HX.out]; rfl, rfl⟩
 ·have i1 : ¬ (p : Int) ≤ (s.size : Int) := by omega
  have HX := Lib.hid (here_long s t p (by omega))
  clear h1
  go_enter Tryz.func86, Tryz.ntmps86
  go_wp2_with fail
  go_ret
  exact ⟨by rw [HX.out]; rfl, rfl⟩
end Go.Proofs.YtamhkdlcoghdbaaGreatDoor.PCls
