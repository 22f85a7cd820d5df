/- Put together (wip/tools/pack.py): QNx, QNn. -/
import Derived.Test.YtamhkdlcoghdbaaGreatDoorKMQLnm
/- Out of Nx (wip/tools/prune2.py): the declarations alone that the texts of the trees name. -/
namespace Go.Proofs.YtamhkdlcoghdbaaGreatDoor.PCls
set_option linter.unusedVariables false
set_option linter.unusedSimpArgs false
theorem len_size (s : ByteArray) : s.data.toList.length = s.size := by simp
theorem get_byt (s : ByteArray) (i : Nat) : (s.get! i).toNat = Lx.byt s i := by
 unfold Lx.byt
 rw [List.getD_eq_getElem?_getD]
 by_cases h : i < s.size
 ·have h' : i < s.data.toList.length := by rw [len_size]; exact h
  rw [List.getElem?_eq_getElem h']
  simp [ByteArray.get!, h]
 ·rw [List.getElem?_eq_none (by rw [len_size]; omega)]
  have h2 : s.data.size ≤ i := by have : s.data.size = s.size := rfl; omega
  have h3 : ByteArray.get! s i = s.data[i]! := by cases s; rfl
  rw [h3, getElem!_neg _ _ (by omega)]
  rfl
def v2 (b0 b1 : Nat) : Nat := 64 * (b0 - 192) + (b1 - 128)
def v3 (b0 b1 b2 : Nat) : Nat := 64 * (64 * (b0 - 224) + (b1 - 128)) + (b2 - 128)
def v4 (b0 b1 b2 b3 : Nat) : Nat := 64 * (64 * (64 * (b0 - 240) + (b1 - 128)) + (b2 - 128)) + (b3 - 128)
set_option maxRecDepth 100000 in
set_option maxHeartbeats 2000000 in
theorem dN2 (n b0 b1 b2 b3 : Nat) (h0 : 192 ≤ b0 ∧ b0 < 224) : Lib.decodeN n b0 b1 b2 b3 = if 1 < n ∧ 128 ≤ b1 ∧ b1 ≤ 191 ∧ 128 ≤ v2 b0 b1 then (v2 b0 b1, 2) else (65533, 1) := by
 unfold Lib.decodeN v2
 repeat' split
 all_goals first | rfl | (exfalso; omega) | (apply Prod.ext <;> simp only <;> omega)
set_option maxRecDepth 100000 in
set_option maxHeartbeats 2000000 in
theorem dN3 (n b0 b1 b2 b3 : Nat) (h0 : 224 ≤ b0 ∧ b0 < 240) : Lib.decodeN n b0 b1 b2 b3 = if 2 < n ∧ 128 ≤ b1 ∧ b1 ≤ 191 ∧ 128 ≤ b2 ∧ b2 ≤ 191 ∧ 2048 ≤ v3 b0 b1 b2 ∧ (v3 b0 b1 b2 < 55296 ∨ 57343 < v3 b0 b1 b2) then (v3 b0 b1 b2, 3) else (65533, 1) := by
 unfold Lib.decodeN v3
 repeat' split
 all_goals first | rfl | (exfalso; omega) | (apply Prod.ext <;> simp only <;> omega)
set_option maxRecDepth 100000 in
set_option maxHeartbeats 2000000 in
theorem dN4 (n b0 b1 b2 b3 : Nat) (h0 : 240 ≤ b0 ∧ b0 < 248) : Lib.decodeN n b0 b1 b2 b3 = if 3 < n ∧ 128 ≤ b1 ∧ b1 ≤ 191 ∧ 128 ≤ b2 ∧ b2 ≤ 191 ∧ 128 ≤ b3 ∧ b3 ≤ 191 ∧ 65536 ≤ v4 b0 b1 b2 b3 ∧ v4 b0 b1 b2 b3 ≤ 1114111 then (v4 b0 b1 b2 b3, 4) else (65533, 1) := by
 unfold Lib.decodeN v4
 repeat' split
 all_goals first | rfl | (exfalso; omega) | (apply Prod.ext <;> simp only <;> omega)
theorem dNx (n b0 b1 b2 b3 : Nat) (h0 : (128 ≤ b0 ∧ b0 < 192) ∨ 248 ≤ b0) (h1 : b0 < 256) : Lib.decodeN n b0 b1 b2 b3 = (65533, 1) := by
 unfold Lib.decodeN
 repeat' split
 all_goals first | rfl | (exfalso; omega)
def dAt (s : ByteArray) (p : Nat) : Nat × Nat := Lib.decodeN (s.size - p) (Lx.byt s p) (Lx.byt s (p + 1)) (Lx.byt s (p + 2)) (Lx.byt s (p + 3))
theorem dAt_eq (s : ByteArray) (p : Nat) : Utf8.decode s p = dAt s p := by rw [Lib.decode_at]; simp only [get_byt]; rfl
theorem unit_bad {s : ByteArray} {p : Nat} (hp : p < s.size) (h : dAt s p = (65533, 1)) : Lx.unit s true p = (-1, 1) := by
 unfold Lx.unit
 rw [if_pos hp, if_pos rfl]
 rw [if_neg]
 unfold okAt
 rw [dAt_eq, h]
 decide
theorem unit_ok {s : ByteArray} {p v k : Nat} (hp : p < s.size) (h : dAt s p = (v, k)) (hk : 1 < k) : Lx.unit s true p = ((v : Int), k) := by
 unfold Lx.unit
 rw [if_pos hp, if_pos rfl, if_pos, dAt_eq, h]
 unfold okAt
 rw [dAt_eq, h]
 simp
 omega
/-- a character's bytes -/
def encB (c : Nat) : List UInt8 :=
 if c < 128 then [UInt8.ofNat c] else if c < 2048 then [UInt8.ofNat (192 + c / 64), UInt8.ofNat (128 + c % 64)]
 else if c < 65536 then [UInt8.ofNat (224 + c / 4096), UInt8.ofNat (128 + c / 64 % 64), UInt8.ofNat (128 + c % 64)]
 else [UInt8.ofNat (240 + c / 262144), UInt8.ofNat (128 + c / 4096 % 64), UInt8.ofNat (128 + c / 64 % 64), UInt8.ofNat (128 + c % 64)]
theorem byt_lt (s : ByteArray) (p : Nat) : Lx.byt s p < 256 := by unfold Lx.byt; exact UInt8.toNat_lt _
theorem ofNat_byt (s : ByteArray) (p : Nat) : UInt8.ofNat (Lx.byt s p) = s.data.toList.getD p 0 := by unfold Lx.byt; simp
def piece (s : ByteArray) (p n : Nat) : List UInt8 := (List.range n).map fun i => s.data.toList.getD (p + i) 0
theorem encB2 (s : ByteArray) (p : Nat) (h0 : 192 ≤ Lx.byt s p ∧ Lx.byt s p < 224) (h1 : 128 ≤ Lx.byt s (p + 1) ∧ Lx.byt s (p + 1) ≤ 191) : encB (v2 (Lx.byt s p) (Lx.byt s (p + 1))) = [s.data.toList.getD p 0, s.data.toList.getD (p + 1) 0] ↔ 128 ≤ v2 (Lx.byt s p) (Lx.byt s (p + 1)) := by
 have a := byt_lt s p
 have b := byt_lt s (p + 1)
 rw [← ofNat_byt, ← ofNat_byt]
 unfold encB
 generalize Lx.byt s p = x at *
 generalize Lx.byt s (p + 1) = y at *
 unfold v2
 split
 ·simp; omega
 ·rw [if_pos (by omega), show 192 + (64 * (x - 192) + (y - 128)) / 64 = x by omega, show 128 + (64 * (x - 192) + (y - 128)) % 64 = y by omega]
  simp; omega
theorem encB3 (s : ByteArray) (p : Nat) (h0 : 224 ≤ Lx.byt s p ∧ Lx.byt s p < 240) (h1 : 128 ≤ Lx.byt s (p + 1) ∧ Lx.byt s (p + 1) ≤ 191) (h2 : 128 ≤ Lx.byt s (p + 2) ∧ Lx.byt s (p + 2) ≤ 191) : encB (v3 (Lx.byt s p) (Lx.byt s (p + 1)) (Lx.byt s (p + 2))) = [s.data.toList.getD p 0, s.data.toList.getD (p + 1) 0, s.data.toList.getD (p + 2) 0] ↔ 2048 ≤ v3 (Lx.byt s p) (Lx.byt s (p + 1)) (Lx.byt s (p + 2)) := by
 rw [← ofNat_byt, ← ofNat_byt, ← ofNat_byt]
 unfold encB
 generalize Lx.byt s p = x at *
 generalize Lx.byt s (p + 1) = y at *
 generalize Lx.byt s (p + 2) = z at *
 unfold v3
 split
 ·simp; omega
 split
 ·simp; omega
 ·rw [if_pos (by omega), show 224 + (64 * (64 * (x - 224) + (y - 128)) + (z - 128)) / 4096 = x by omega, show 128 + (64 * (64 * (x - 224) + (y - 128)) + (z - 128)) / 64 % 64 = y by omega, show 128 + (64 * (64 * (x - 224) + (y - 128)) + (z - 128)) % 64 = z by omega]
  simp; omega
theorem encB4 (s : ByteArray) (p : Nat) (h0 : 240 ≤ Lx.byt s p ∧ Lx.byt s p < 248) (h1 : 128 ≤ Lx.byt s (p + 1) ∧ Lx.byt s (p + 1) ≤ 191) (h2 : 128 ≤ Lx.byt s (p + 2) ∧ Lx.byt s (p + 2) ≤ 191) (h3 : 128 ≤ Lx.byt s (p + 3) ∧ Lx.byt s (p + 3) ≤ 191) : encB (v4 (Lx.byt s p) (Lx.byt s (p + 1)) (Lx.byt s (p + 2)) (Lx.byt s (p + 3))) = [s.data.toList.getD p 0, s.data.toList.getD (p + 1) 0, s.data.toList.getD (p + 2) 0, s.data.toList.getD (p + 3) 0] ↔ 65536 ≤ v4 (Lx.byt s p) (Lx.byt s (p + 1)) (Lx.byt s (p + 2)) (Lx.byt s (p + 3)) := by
 rw [← ofNat_byt, ← ofNat_byt, ← ofNat_byt, ← ofNat_byt]
 unfold encB
 generalize Lx.byt s p = x at *
 generalize Lx.byt s (p + 1) = y at *
 generalize Lx.byt s (p + 2) = z at *
 generalize Lx.byt s (p + 3) = t at *
 unfold v4
 split
 ·simp; omega
 split
 ·simp; omega
 split
 ·simp; omega
 ·rw [show 240 + (64 * (64 * (64 * (x - 240) + (y - 128)) + (z - 128)) + (t - 128)) / 262144 = x by omega, show 128 + (64 * (64 * (64 * (x - 240) + (y - 128)) + (z - 128)) + (t - 128)) / 4096 % 64 = y by omega, show 128 + (64 * (64 * (64 * (x - 240) + (y - 128)) + (z - 128)) + (t - 128)) / 64 % 64 = z by omega, show 128 + (64 * (64 * (64 * (x - 240) + (y - 128)) + (z - 128)) + (t - 128)) % 64 = t by omega]
  simp; omega
end Go.Proofs.YtamhkdlcoghdbaaGreatDoor.PCls
/- Out of Nn (wip/tools/prune2.py): the declarations alone that the texts of the trees name. -/
namespace Go.Proofs.YtamhkdlcoghdbaaGreatDoor.PCls
open Go.RowKit Go.Shelf Go.Proofs.YtamhkdlcoghdbaaGreatDoorW.PrintWords Go.Proofs.YtamhkdlcoghdbaaGreatDoorW.PrintLast Go.Proofs.YtamhkdlcoghdbaaGreatDoorW.PrintMore
set_option linter.unusedVariables false
set_option linter.unusedSimpArgs false
def isC (c : Nat) : Bool := decide (c ≤ 1114111) && (decide (c < 55296) || decide (57343 < c))
set_option maxHeartbeats 2000000 in
theorem is_calls (c : Nat) (w : World) : Calls Tryz.prog 184 #[.int .i64 c] w fun e w' => e = .returned (.bool (isC c)) ∧ w' = w := by
 have h0 : (0 : Int) ≤ (c : Int) := by omega
 by_cases h1 : c ≤ 1114111
 ·have i1 : (c : Int) ≤ 1114111 := by omega
  by_cases h2 : c < 55296
  ·have i2 : (c : Int) < 55296 := by omega
   have HX := Lib.hid (show isC c = true by simp [isC, h1, h2])
   clear h1 h2
   go_enter Tryz.func184, Tryz.ntmps184
   go_wp2_with fail
   go_ret
   exact ⟨by rw [HX.out]; rfl, rfl⟩
  ·have i2 : ¬ (c : Int) < 55296 := by omega
   by_cases h3 : 57343 < c
   ·have i3 : 57343 < (c : Int) := by omega
    have HX := Lib.hid (show isC c = true by simp [isC, h1, h3])
    clear h1 h2 h3
    go_enter Tryz.func184, Tryz.ntmps184
    go_wp2_with fail
    go_ret
    exact ⟨by rw [HX.out]; rfl, rfl⟩
   ·have i3 : ¬ 57343 < (c : Int) := by omega
    have HX := Lib.hid (show isC c = false by simp [isC, h1, h2, h3])
    clear h1 h2 h3
    go_enter Tryz.func184, Tryz.ntmps184
    go_wp2_with fail
    go_ret
    exact ⟨by rw [HX.out]; rfl, rfl⟩
 ·have i1 : ¬ (c : Int) ≤ 1114111 := by omega
  have HX := Lib.hid (show isC c = false by simp [isC, h1])
  clear h1
  go_enter Tryz.func184, Tryz.ntmps184
  go_wp2_with fail
  go_ret
  exact ⟨by rw [HX.out]; rfl, rfl⟩
theorem conv_new (w : World) (xs : List Int) : (convert 115 9 (.slice (some ⟨w.heap.size, 0, none⟩) xs.length xs.length)).run Tryz.prog (w.alloc (.cells (xs.map (Value.int .u8)).toArray 5)) = .ok (.string (strOfNums xs)) (w.alloc (.cells (xs.map (Value.int .u8)).toArray 5)) := by
 refine run_convert_bytes_arg _ 115 5 Tryz.underlying115 Tryz.underlying5 w.heap.size 0 xs.length xs.length xs rfl (fun i hi => ?_) 9 Tryz.underlying9
 rw [Nat.zero_add]
 refine lk_cell (heap_alloc_new w _) ?_
 simp [List.getElem?_map, List.getD, List.getElem?_eq_getElem hi]
theorem str_of (xs : List Int) (l : List UInt8) (h : xs.map (fun n => UInt8.ofNat n.toNat) = l) : strOfNums xs = ⟨l.toArray⟩ := by subst h; rfl
theorem below_new (w : World) (o : Obj) : Below w.heap.size w (w.alloc o) := (Below.refl w.heap.size w).alloc (Nat.le_refl _) o
set_option maxHeartbeats 2000000 in
set_option maxRecDepth 100000 in
theorem text_calls (c : Nat) (hc : c ≤ 2097151) (w : World) : Calls Tryz.prog 185 #[.int .i64 c] w fun e w' => e = .returned (.string ⟨(encB c).toArray⟩) ∧ Below w.heap.size w w' := by
 have h0 : (0 : Int) ≤ (c : Int) := by omega
 have h9 : (c : Int) ≤ 2097151 := by omega
 by_cases h1 : c < 128
 ·have i1 : (c : Int) < 128 := by omega
  have HX := Lib.hid (show strOfNums [(c : Int)] = ⟨(encB c).toArray⟩ from str_of _ _ (by simp [encB, h1]))
  have hcv : (convert 115 9 (.slice (some ⟨w.heap.size, 0, none⟩) 1 1)).run Tryz.prog (w.alloc (.cells #[Value.int .u8 ((c : Int))] 5)) = .ok (.string (strOfNums [(c : Int)])) (w.alloc (.cells #[Value.int .u8 ((c : Int))] 5)) := conv_new w [(c : Int)]
  clear h1 hc
  go_enter Tryz.func185, Tryz.ntmps185
  go_wp2_with fail
  go_ret
  exact ⟨by rw [← HX.out]; rfl, below_new _ _⟩
 have i1 : ¬ (c : Int) < 128 := by omega
 by_cases h2 : c < 2048
 ·have i2 : (c : Int) < 2048 := by omega
  have HX := Lib.hid (show strOfNums [192 + (c : Int) / 64, 128 + (c : Int) % 64] = ⟨(encB c).toArray⟩ from str_of _ _ (by
   simp only [encB, if_neg h1, if_pos h2, List.map_cons, List.map_nil]
   rw [show (192 + (c : Int) / 64).toNat = 192 + c / 64 by omega, show (128 + (c : Int) % 64).toNat = 128 + c % 64 by omega]))
  have hcv : (convert 115 9 (.slice (some ⟨w.heap.size, 0, none⟩) 2 2)).run Tryz.prog (w.alloc (.cells #[Value.int .u8 (192 + (c : Int) / 64), Value.int .u8 (128 + (c : Int) % 64)] 5)) = .ok (.string (strOfNums [192 + (c : Int) / 64, 128 + (c : Int) % 64])) (w.alloc (.cells #[Value.int .u8 (192 + (c : Int) / 64), Value.int .u8 (128 + (c : Int) % 64)] 5)) := conv_new w [192 + (c : Int) / 64, 128 + (c : Int) % 64]
  clear h1 hc h2
  go_enter Tryz.func185, Tryz.ntmps185
  go_wp2_with fail
  go_ret
  exact ⟨by rw [← HX.out]; rfl, below_new _ _⟩
 have i2 : ¬ (c : Int) < 2048 := by omega
 by_cases h3 : c < 65536
 ·have i3 : (c : Int) < 65536 := by omega
  have HX := Lib.hid (show strOfNums [224 + (c : Int) / 4096, 128 + (c : Int) / 64 % 64, 128 + (c : Int) % 64] = ⟨(encB c).toArray⟩ from str_of _ _ (by
   simp only [encB, if_neg h1, if_neg h2, if_pos h3, List.map_cons, List.map_nil]
   rw [show (224 + (c : Int) / 4096).toNat = 224 + c / 4096 by omega, show (128 + (c : Int) / 64 % 64).toNat = 128 + c / 64 % 64 by omega, show (128 + (c : Int) % 64).toNat = 128 + c % 64 by omega]))
  have hcv : (convert 115 9 (.slice (some ⟨w.heap.size, 0, none⟩) 3 3)).run Tryz.prog (w.alloc (.cells #[Value.int .u8 (224 + (c : Int) / 4096), Value.int .u8 (128 + (c : Int) / 64 % 64), Value.int .u8 (128 + (c : Int) % 64)] 5)) = .ok (.string (strOfNums [224 + (c : Int) / 4096, 128 + (c : Int) / 64 % 64, 128 + (c : Int) % 64])) (w.alloc (.cells #[Value.int .u8 (224 + (c : Int) / 4096), Value.int .u8 (128 + (c : Int) / 64 % 64), Value.int .u8 (128 + (c : Int) % 64)] 5)) := conv_new w [224 + (c : Int) / 4096, 128 + (c : Int) / 64 % 64, 128 + (c : Int) % 64]
  clear h1 hc h2 h3
  go_enter Tryz.func185, Tryz.ntmps185
  go_wp2_with fail
  go_ret
  exact ⟨by rw [← HX.out]; rfl, below_new _ _⟩
 ·have i3 : ¬ (c : Int) < 65536 := by omega
  have HX := Lib.hid (show strOfNums [240 + (c : Int) / 262144, 128 + (c : Int) / 4096 % 64, 128 + (c : Int) / 64 % 64, 128 + (c : Int) % 64] = ⟨(encB c).toArray⟩ from str_of _ _ (by
   simp only [encB, if_neg h1, if_neg h2, if_neg h3, List.map_cons, List.map_nil]
   rw [show (240 + (c : Int) / 262144).toNat = 240 + c / 262144 by omega, show (128 + (c : Int) / 4096 % 64).toNat = 128 + c / 4096 % 64 by omega, show (128 + (c : Int) / 64 % 64).toNat = 128 + c / 64 % 64 by omega, show (128 + (c : Int) % 64).toNat = 128 + c % 64 by omega]))
  have hcv : (convert 115 9 (.slice (some ⟨w.heap.size, 0, none⟩) 4 4)).run Tryz.prog (w.alloc (.cells #[Value.int .u8 (240 + (c : Int) / 262144), Value.int .u8 (128 + (c : Int) / 4096 % 64), Value.int .u8 (128 + (c : Int) / 64 % 64), Value.int .u8 (128 + (c : Int) % 64)] 5)) = .ok (.string (strOfNums [240 + (c : Int) / 262144, 128 + (c : Int) / 4096 % 64, 128 + (c : Int) / 64 % 64, 128 + (c : Int) % 64])) (w.alloc (.cells #[Value.int .u8 (240 + (c : Int) / 262144), Value.int .u8 (128 + (c : Int) / 4096 % 64), Value.int .u8 (128 + (c : Int) / 64 % 64), Value.int .u8 (128 + (c : Int) % 64)] 5)) := conv_new w [240 + (c : Int) / 262144, 128 + (c : Int) / 4096 % 64, 128 + (c : Int) / 64 % 64, 128 + (c : Int) % 64]
  clear h1 hc h2 h3
  go_enter Tryz.func185, Tryz.ntmps185
  go_wp2_with fail
  go_ret
  exact ⟨by rw [← HX.out]; rfl, below_new _ _⟩
end Go.Proofs.YtamhkdlcoghdbaaGreatDoor.PCls
