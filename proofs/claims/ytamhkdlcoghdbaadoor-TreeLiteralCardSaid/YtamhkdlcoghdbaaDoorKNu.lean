/- The reference's unit at a place, walked. -/
import Derived.Test.YtamhkdlcoghdbaaDoorKNs
namespace Go.Proofs.YtamhkdlcoghdbaaDoor.PCls
open Go.RowKit Go.Shelf Go.Proofs.YtamhkdlcoghdbaaDoorW.PrintWords Go.Proofs.YtamhkdlcoghdbaaDoorW.PrintLast Go.Proofs.YtamhkdlcoghdbaaDoorW.PrintMore
set_option linter.unusedVariables false
set_option linter.unusedSimpArgs false

theorem ext_list (s : ByteArray) (p n : Nat) (h : p + n ≤ s.size) : (s.extract p (p + n)).toList = (List.range n).map fun i => s.data.toList.getD (p + i) 0 := by
 rw [ByteArray.toList_eq]
 apply List.ext_getElem?
 intro i
 have h0 := len_size s
 simp only [ByteArray.data_extract, Array.toList_extract, List.extract_eq_take_drop, show p + n - p = n by omega]
 rw [List.getElem?_take, List.getElem?_drop, List.getElem?_map]
 by_cases hi : i < n
 ·rw [if_pos hi, List.getElem?_range hi, List.getElem?_eq_getElem (by omega)]
  rw [Option.map_some, List.getD_eq_getElem?_getD, List.getElem?_eq_getElem (by omega)]
  rfl
 ·rw [if_neg hi, List.getElem?_eq_none (by simp; omega)]
  rfl
theorem isC_iff (c : Nat) : isC c = true ↔ c ≤ 1114111 ∧ (c < 55296 ∨ 57343 < c) := by unfold isC; simp
theorem okC_iff (s : ByteArray) (p n c : Nat) (h : p + n ≤ s.size) : okC s p n c = true ↔ isC c = true ∧ encB c = (List.range n).map fun i => s.data.toList.getD (p + i) 0 := by
 unfold okC
 rw [Bool.and_eq_true, ext_list s p n h, beq_iff_eq]
theorem un2 (s : ByteArray) (p : Nat) (hp : p < s.size) (h : 192 ≤ Lx.byt s p ∧ Lx.byt s p < 224) : UnN s p 2 (Lx.byt s p - 192) := by
 have ha : acc s p (Lx.byt s p - 192) (2 - 1) = v2 (Lx.byt s p) (Lx.byt s (p + 1)) := rfl
 have hd := dN2 (s.size - p) (Lx.byt s p) (Lx.byt s (p + 1)) (Lx.byt s (p + 2)) (Lx.byt s (p + 3)) h
 have hv : cnt s p 2 → v2 (Lx.byt s p) (Lx.byt s (p + 1)) ≤ 2047 := fun e => by have := e 1 (by omega) (by omega); unfold v2; omega
 rw [← dAt] at hd
 refine ⟨fun h1 h2 h3 => ?_, fun h1 => ?_⟩
 ·have h4 := h2 1 (by omega) (by omega)
  rw [okC_iff s p 2 _ h1, ha] at h3
  rw [ha]
  refine unit_ok hp (hd.trans (if_pos ⟨by omega, h4.1, h4.2, ?_⟩)) (by omega)
  exact (encB2 s p h h4).1 h3.2
 ·by_cases hc : 1 < s.size - p ∧ 128 ≤ Lx.byt s (p + 1) ∧ Lx.byt s (p + 1) ≤ 191 ∧ 128 ≤ v2 (Lx.byt s p) (Lx.byt s (p + 1))
  ·have h2 : cnt s p 2 := fun j a b => by rw [show j = 1 by omega]; exact ⟨hc.2.1, hc.2.2.1⟩
   refine absurd ⟨by omega, h2, ?_⟩ h1
   rw [okC_iff s p 2 _ (by omega), ha, isC_iff]
   have := hv h2
   exact ⟨⟨by omega, by omega⟩, (encB2 s p h ⟨hc.2.1, hc.2.2.1⟩).2 hc.2.2.2⟩
  ·exact unit_bad hp (hd.trans (if_neg hc))
theorem un3 (s : ByteArray) (p : Nat) (hp : p < s.size) (h : 224 ≤ Lx.byt s p ∧ Lx.byt s p < 240) : UnN s p 3 (Lx.byt s p - 224) := by
 have ha : acc s p (Lx.byt s p - 224) (3 - 1) = v3 (Lx.byt s p) (Lx.byt s (p + 1)) (Lx.byt s (p + 2)) := rfl
 have hd := dN3 (s.size - p) (Lx.byt s p) (Lx.byt s (p + 1)) (Lx.byt s (p + 2)) (Lx.byt s (p + 3)) h
 have hv : cnt s p 3 → v3 (Lx.byt s p) (Lx.byt s (p + 1)) (Lx.byt s (p + 2)) ≤ 65535 := fun e => by have := e 1 (by omega) (by omega); have := e 2 (by omega) (by omega); unfold v3; omega
 rw [← dAt] at hd
 refine ⟨fun h1 h2 h3 => ?_, fun h1 => ?_⟩
 ·have h4 := h2 1 (by omega) (by omega)
  have h5 := h2 2 (by omega) (by omega)
  rw [okC_iff s p 3 _ h1, ha, isC_iff] at h3
  rw [ha]
  refine unit_ok hp (hd.trans (if_pos ⟨by omega, h4.1, h4.2, h5.1, h5.2, ?_, h3.1.2⟩)) (by omega)
  exact (encB3 s p h h4 h5).1 h3.2
 ·by_cases hc : 2 < s.size - p ∧ 128 ≤ Lx.byt s (p + 1) ∧ Lx.byt s (p + 1) ≤ 191 ∧ 128 ≤ Lx.byt s (p + 2) ∧ Lx.byt s (p + 2) ≤ 191 ∧ 2048 ≤ v3 (Lx.byt s p) (Lx.byt s (p + 1)) (Lx.byt s (p + 2)) ∧ (v3 (Lx.byt s p) (Lx.byt s (p + 1)) (Lx.byt s (p + 2)) < 55296 ∨ 57343 < v3 (Lx.byt s p) (Lx.byt s (p + 1)) (Lx.byt s (p + 2)))
  ·obtain ⟨c1, c2, c3, c4, c5, c6, c7⟩ := hc
   have h2 : cnt s p 3 := fun j a b => by
    have : j = 1 ∨ j = 2 := by omega
    rcases this with rfl | rfl
    ·exact ⟨c2, c3⟩
    ·exact ⟨c4, c5⟩
   refine absurd ⟨by omega, h2, ?_⟩ h1
   rw [okC_iff s p 3 _ (by omega), ha, isC_iff]
   have := hv h2
   exact ⟨⟨by omega, c7⟩, (encB3 s p h ⟨c2, c3⟩ ⟨c4, c5⟩).2 c6⟩
  ·exact unit_bad hp (hd.trans (if_neg hc))
theorem un4 (s : ByteArray) (p : Nat) (hp : p < s.size) (h : 240 ≤ Lx.byt s p ∧ Lx.byt s p < 248) : UnN s p 4 (Lx.byt s p - 240) := by
 have ha : acc s p (Lx.byt s p - 240) (4 - 1) = v4 (Lx.byt s p) (Lx.byt s (p + 1)) (Lx.byt s (p + 2)) (Lx.byt s (p + 3)) := rfl
 have hd := dN4 (s.size - p) (Lx.byt s p) (Lx.byt s (p + 1)) (Lx.byt s (p + 2)) (Lx.byt s (p + 3)) h
 rw [← dAt] at hd
 refine ⟨fun h1 h2 h3 => ?_, fun h1 => ?_⟩
 ·have h4 := h2 1 (by omega) (by omega)
  have h5 := h2 2 (by omega) (by omega)
  have h6 := h2 3 (by omega) (by omega)
  rw [okC_iff s p 4 _ h1, ha, isC_iff] at h3
  rw [ha]
  refine unit_ok hp (hd.trans (if_pos ⟨by omega, h4.1, h4.2, h5.1, h5.2, h6.1, h6.2, ?_, h3.1.1⟩)) (by omega)
  exact (encB4 s p h h4 h5 h6).1 h3.2
 ·by_cases hc : 3 < s.size - p ∧ 128 ≤ Lx.byt s (p + 1) ∧ Lx.byt s (p + 1) ≤ 191 ∧ 128 ≤ Lx.byt s (p + 2) ∧ Lx.byt s (p + 2) ≤ 191 ∧ 128 ≤ Lx.byt s (p + 3) ∧ Lx.byt s (p + 3) ≤ 191 ∧ 65536 ≤ v4 (Lx.byt s p) (Lx.byt s (p + 1)) (Lx.byt s (p + 2)) (Lx.byt s (p + 3)) ∧ v4 (Lx.byt s p) (Lx.byt s (p + 1)) (Lx.byt s (p + 2)) (Lx.byt s (p + 3)) ≤ 1114111
  ·obtain ⟨c1, c2, c3, c4, c5, c6, c7, c8, c9⟩ := hc
   have h2 : cnt s p 4 := fun j a b => by
    have : j = 1 ∨ j = 2 ∨ j = 3 := by omega
    rcases this with rfl | rfl | rfl
    ·exact ⟨c2, c3⟩
    ·exact ⟨c4, c5⟩
    ·exact ⟨c6, c7⟩
   refine absurd ⟨by omega, h2, ?_⟩ h1
   rw [okC_iff s p 4 _ (by omega), ha, isC_iff]
   exact ⟨⟨c9, by omega⟩, (encB4 s p h ⟨c2, c3⟩ ⟨c4, c5⟩ ⟨c6, c7⟩).2 c8⟩
  ·exact unit_bad hp (hd.trans (if_neg hc))
theorem refnext_calls (s : ByteArray) (p : Nat) (w : World) (hs : s.size ≤ 140737488351232) (hpp : p ≤ 140737488351232) : Calls Tryd.prog 65 #[.string s, .int .i64 p] w fun e w' => e = .returned (unV s p) ∧ Below w.heap.size w w' := by
 by_cases hp : p < s.size
 ·have hlt := byt_lt s p
  by_cases h2 : 192 ≤ Lx.byt s p ∧ Lx.byt s p < 224
  ·exact rnext_2 s p w hs hp h2 (un2 s p hp h2)
  by_cases h3 : 224 ≤ Lx.byt s p ∧ Lx.byt s p < 240
  ·exact rnext_3 s p w hs hp h3 (un3 s p hp h3)
  by_cases h4 : 240 ≤ Lx.byt s p ∧ Lx.byt s p < 248
  ·exact rnext_4 s p w hs hp h4 (un4 s p hp h4)
  ·exact rnext_low s p w hs hpp (fun _ => by omega)
 ·exact rnext_low s p w hs hpp (fun h => absurd h hp)
set_option maxHeartbeats 2000000 in
theorem refunit_calls (s : ByteArray) (chars : Bool) (p : Nat) (w : World) (hs : s.size ≤ 140737488351232) (hpp : p ≤ 140737488351232) : Calls Tryd.prog 41 #[.string s, .int .i64 p, .bool chars] w fun e w' => e = .returned (.tuple #[.int .i64 (Lx.unit s chars p).1, .int .i64 (Lx.unit s chars p).2]) ∧ Below w.heap.size w w' := by
 cases chars with
 | true =>
  have HC := Lib.hid (refnext_calls s p w hs hpp)
  unfold unV at HC
  obtain ⟨u, hu⟩ : ∃ u, u = Lx.unit s true p := ⟨_, rfl⟩
  rw [← hu] at HC ⊢
  clear hu
  go_enter Tryd.func41, Tryd.ntmps41
  go_wp2_with fail
  refine HC.out.mono ?_
  rintro e w5 ⟨rfl, hb5⟩
  have HB := Lib.hid hb5
  clear hb5 HC
  go_wp2_with fail
  go_ret2
  exact ⟨rfl, HB.out⟩
 | false =>
  have h0 : ¬ (p : Int) < 0 := by omega
  by_cases hlt : p < s.size
  ·have hb := (byt_at s p hlt).symm
   have h1 : (p : Int) < (s.size : Int) := by omega
   have h2 : ¬ s.size ≤ p := by omega
   have HX := Lib.hid (show Lx.unit s false p = ((Lx.byt s p : Int), 1) by simp [Lx.unit, hlt])
   have hl := byt_lt s p
   obtain ⟨b, hbb⟩ : ∃ b, b = Lx.byt s p := ⟨_, rfl⟩
   rw [← hbb] at HX hb hl
   have h3 : (b : Int) ≤ 255 := by omega
   have h4 : (0 : Int) ≤ (b : Int) := by omega
   clear hbb hl
   go_enter Tryd.func41, Tryd.ntmps41
   go_wp2_with fail
   go_ret2
   exact ⟨by rw [HX.out]; rfl, Below.refl _ _⟩
  ·have h2 : s.size ≤ p := by omega
   have HX := Lib.hid (show Lx.unit s false p = (0, 0) by simp [Lx.unit, hlt])
   clear hlt
   go_enter Tryd.func41, Tryd.ntmps41
   go_wp2_with fail
   go_ret2
   exact ⟨by rw [HX.out]; rfl, Below.refl _ _⟩
end Go.Proofs.YtamhkdlcoghdbaaDoor.PCls
