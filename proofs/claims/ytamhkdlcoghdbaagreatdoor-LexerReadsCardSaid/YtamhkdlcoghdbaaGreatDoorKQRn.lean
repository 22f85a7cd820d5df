/- Out of Rn (wip/tools/prune2.py): the declarations alone that the texts of the trees name. -/
import Derived.Test.YtamhkdlcoghdbaaGreatDoorKMQHa
namespace Go.Proofs.YtamhkdlcoghdbaaGreatDoor.PCls
open Go.RowKit Go.Shelf Go.Proofs.YtamhkdlcoghdbaaGreatDoorW.PrintWords Go.Proofs.YtamhkdlcoghdbaaGreatDoorW.PrintLast Go.Proofs.YtamhkdlcoghdbaaGreatDoorW.PrintMore
set_option linter.unusedVariables false
set_option linter.unusedSimpArgs false
theorem pairs_row (w : World) (l : List S64) (n : Nat) (hn : l.length = n) (hl : inR l = true) (h2 : n < 2000000) : Row (w.alloc (.cells (rowOf l).toArray 39)) w.heap.size (.slice (some ⟨w.heap.size, 0, none⟩) n n) l := by
 subst hn
 refine ⟨⟨rowOf_length l, .inr ⟨w.heap.size, l.length, _, rfl, Nat.le_refl _, heap_alloc_new w _, Nat.le_refl _, by unfold maxLen; omega, ?_, ?_⟩⟩, hl, h2⟩
 ·have := rowOf_length l
  simpa using this
 ·have := rowOf_length l
  rw [List.take_of_length_le (by simp [this])]
/-- what Named tells -/
def NamedPost (w : World) (a : ByteArray) (e : Ending) (w' : World) : Prop := ∃ v, e = .returned (.tuple #[v, .bool (clC.named a).2]) ∧ Row w' w.heap.size v (clC.named a).1 ∧ Below w.heap.size w w'
set_option maxHeartbeats 4000000 in
set_option maxRecDepth 100000 in
theorem rnamed_0 (w : World) (a : ByteArray)  (y : a.data.toList = [97, 108, 110, 117, 109]) : Calls Tryz.prog 208 #[.string a] w (NamedPost w a) := by
 have HX := Lib.hid (show clC.named a = ([⟨48, 57⟩, ⟨65, 90⟩, ⟨97, 122⟩], true) by show ((Cls.named a.data.toList).getD [], (Cls.named a.data.toList).isSome) = _; rw [y]; decide)
 have b0 : (a.toList == ([97, 108, 110, 117, 109] : List UInt8)) = true := by rw [beq_iff_eq, ByteArray.toList_eq]; exact y
 clear y
 go_enter Tryz.func208, Tryz.ntmps208
 go_wp2_with fail
 have hr := pairs_row w [⟨48, 57⟩, ⟨65, 90⟩, ⟨97, 122⟩] 3 rfl (by decide) (by decide)
 have hb : Below w.heap.size w (w.alloc (.cells (rowOf ([⟨48, 57⟩, ⟨65, 90⟩, ⟨97, 122⟩] : List S64)).toArray 39)) := (Below.refl w.heap.size w).alloc (Nat.le_refl _) _
 go_ret2
 exact ⟨_, by rw [HX.out]; rfl, by rw [HX.out]; exact hr, hb⟩
set_option maxHeartbeats 4000000 in
set_option maxRecDepth 100000 in
theorem rnamed_1 (w : World) (a : ByteArray) (n0 : ¬ a.data.toList = [97, 108, 110, 117, 109]) (y : a.data.toList = [97, 108, 112, 104, 97]) : Calls Tryz.prog 208 #[.string a] w (NamedPost w a) := by
 have HX := Lib.hid (show clC.named a = ([⟨65, 90⟩, ⟨97, 122⟩], true) by show ((Cls.named a.data.toList).getD [], (Cls.named a.data.toList).isSome) = _; rw [y]; decide)
 have b0 : (a.toList == ([97, 108, 110, 117, 109] : List UInt8)) = false := by rw [beq_eq_false_iff_ne, ByteArray.toList_eq]; exact n0
 have b1 : (a.toList == ([97, 108, 112, 104, 97] : List UInt8)) = true := by rw [beq_iff_eq, ByteArray.toList_eq]; exact y
 clear n0 y
 go_enter Tryz.func208, Tryz.ntmps208
 go_wp2_with fail
 have hr := pairs_row w [⟨65, 90⟩, ⟨97, 122⟩] 2 rfl (by decide) (by decide)
 have hb : Below w.heap.size w (w.alloc (.cells (rowOf ([⟨65, 90⟩, ⟨97, 122⟩] : List S64)).toArray 39)) := (Below.refl w.heap.size w).alloc (Nat.le_refl _) _
 go_ret2
 exact ⟨_, by rw [HX.out]; rfl, by rw [HX.out]; exact hr, hb⟩
set_option maxHeartbeats 4000000 in
set_option maxRecDepth 100000 in
theorem rnamed_2 (w : World) (a : ByteArray) (n0 : ¬ a.data.toList = [97, 108, 110, 117, 109]) (n1 : ¬ a.data.toList = [97, 108, 112, 104, 97]) (y : a.data.toList = [98, 108, 97, 110, 107]) : Calls Tryz.prog 208 #[.string a] w (NamedPost w a) := by
 have HX := Lib.hid (show clC.named a = ([⟨9, 9⟩, ⟨32, 32⟩], true) by show ((Cls.named a.data.toList).getD [], (Cls.named a.data.toList).isSome) = _; rw [y]; decide)
 have b0 : (a.toList == ([97, 108, 110, 117, 109] : List UInt8)) = false := by rw [beq_eq_false_iff_ne, ByteArray.toList_eq]; exact n0
 have b1 : (a.toList == ([97, 108, 112, 104, 97] : List UInt8)) = false := by rw [beq_eq_false_iff_ne, ByteArray.toList_eq]; exact n1
 have b2 : (a.toList == ([98, 108, 97, 110, 107] : List UInt8)) = true := by rw [beq_iff_eq, ByteArray.toList_eq]; exact y
 clear n0 n1 y
 go_enter Tryz.func208, Tryz.ntmps208
 go_wp2_with fail
 have hr := pairs_row w [⟨9, 9⟩, ⟨32, 32⟩] 2 rfl (by decide) (by decide)
 have hb : Below w.heap.size w (w.alloc (.cells (rowOf ([⟨9, 9⟩, ⟨32, 32⟩] : List S64)).toArray 39)) := (Below.refl w.heap.size w).alloc (Nat.le_refl _) _
 go_ret2
 exact ⟨_, by rw [HX.out]; rfl, by rw [HX.out]; exact hr, hb⟩
set_option maxHeartbeats 4000000 in
set_option maxRecDepth 100000 in
theorem rnamed_3 (w : World) (a : ByteArray) (n0 : ¬ a.data.toList = [97, 108, 110, 117, 109]) (n1 : ¬ a.data.toList = [97, 108, 112, 104, 97]) (n2 : ¬ a.data.toList = [98, 108, 97, 110, 107]) (y : a.data.toList = [99, 110, 116, 114, 108]) : Calls Tryz.prog 208 #[.string a] w (NamedPost w a) := by
 have HX := Lib.hid (show clC.named a = ([⟨0, 31⟩, ⟨127, 127⟩], true) by show ((Cls.named a.data.toList).getD [], (Cls.named a.data.toList).isSome) = _; rw [y]; decide)
 have b0 : (a.toList == ([97, 108, 110, 117, 109] : List UInt8)) = false := by rw [beq_eq_false_iff_ne, ByteArray.toList_eq]; exact n0
 have b1 : (a.toList == ([97, 108, 112, 104, 97] : List UInt8)) = false := by rw [beq_eq_false_iff_ne, ByteArray.toList_eq]; exact n1
 have b2 : (a.toList == ([98, 108, 97, 110, 107] : List UInt8)) = false := by rw [beq_eq_false_iff_ne, ByteArray.toList_eq]; exact n2
 have b3 : (a.toList == ([99, 110, 116, 114, 108] : List UInt8)) = true := by rw [beq_iff_eq, ByteArray.toList_eq]; exact y
 clear n0 n1 n2 y
 go_enter Tryz.func208, Tryz.ntmps208
 go_wp2_with fail
 have hr := pairs_row w [⟨0, 31⟩, ⟨127, 127⟩] 2 rfl (by decide) (by decide)
 have hb : Below w.heap.size w (w.alloc (.cells (rowOf ([⟨0, 31⟩, ⟨127, 127⟩] : List S64)).toArray 39)) := (Below.refl w.heap.size w).alloc (Nat.le_refl _) _
 go_ret2
 exact ⟨_, by rw [HX.out]; rfl, by rw [HX.out]; exact hr, hb⟩
set_option maxHeartbeats 4000000 in
set_option maxRecDepth 100000 in
theorem rnamed_4 (w : World) (a : ByteArray) (n0 : ¬ a.data.toList = [97, 108, 110, 117, 109]) (n1 : ¬ a.data.toList = [97, 108, 112, 104, 97]) (n2 : ¬ a.data.toList = [98, 108, 97, 110, 107]) (n3 : ¬ a.data.toList = [99, 110, 116, 114, 108]) (y : a.data.toList = [100, 105, 103, 105, 116]) : Calls Tryz.prog 208 #[.string a] w (NamedPost w a) := by
 have HX := Lib.hid (show clC.named a = ([⟨48, 57⟩], true) by show ((Cls.named a.data.toList).getD [], (Cls.named a.data.toList).isSome) = _; rw [y]; decide)
 have b0 : (a.toList == ([97, 108, 110, 117, 109] : List UInt8)) = false := by rw [beq_eq_false_iff_ne, ByteArray.toList_eq]; exact n0
 have b1 : (a.toList == ([97, 108, 112, 104, 97] : List UInt8)) = false := by rw [beq_eq_false_iff_ne, ByteArray.toList_eq]; exact n1
 have b2 : (a.toList == ([98, 108, 97, 110, 107] : List UInt8)) = false := by rw [beq_eq_false_iff_ne, ByteArray.toList_eq]; exact n2
 have b3 : (a.toList == ([99, 110, 116, 114, 108] : List UInt8)) = false := by rw [beq_eq_false_iff_ne, ByteArray.toList_eq]; exact n3
 have b4 : (a.toList == ([100, 105, 103, 105, 116] : List UInt8)) = true := by rw [beq_iff_eq, ByteArray.toList_eq]; exact y
 clear n0 n1 n2 n3 y
 go_enter Tryz.func208, Tryz.ntmps208
 go_wp2_with fail
 have hr := pairs_row w [⟨48, 57⟩] 1 rfl (by decide) (by decide)
 have hb : Below w.heap.size w (w.alloc (.cells (rowOf ([⟨48, 57⟩] : List S64)).toArray 39)) := (Below.refl w.heap.size w).alloc (Nat.le_refl _) _
 go_ret2
 exact ⟨_, by rw [HX.out]; rfl, by rw [HX.out]; exact hr, hb⟩
set_option maxHeartbeats 4000000 in
set_option maxRecDepth 100000 in
theorem rnamed_5 (w : World) (a : ByteArray) (n0 : ¬ a.data.toList = [97, 108, 110, 117, 109]) (n1 : ¬ a.data.toList = [97, 108, 112, 104, 97]) (n2 : ¬ a.data.toList = [98, 108, 97, 110, 107]) (n3 : ¬ a.data.toList = [99, 110, 116, 114, 108]) (n4 : ¬ a.data.toList = [100, 105, 103, 105, 116]) (y : a.data.toList = [103, 114, 97, 112, 104]) : Calls Tryz.prog 208 #[.string a] w (NamedPost w a) := by
 have HX := Lib.hid (show clC.named a = ([⟨33, 126⟩], true) by show ((Cls.named a.data.toList).getD [], (Cls.named a.data.toList).isSome) = _; rw [y]; decide)
 have b0 : (a.toList == ([97, 108, 110, 117, 109] : List UInt8)) = false := by rw [beq_eq_false_iff_ne, ByteArray.toList_eq]; exact n0
 have b1 : (a.toList == ([97, 108, 112, 104, 97] : List UInt8)) = false := by rw [beq_eq_false_iff_ne, ByteArray.toList_eq]; exact n1
 have b2 : (a.toList == ([98, 108, 97, 110, 107] : List UInt8)) = false := by rw [beq_eq_false_iff_ne, ByteArray.toList_eq]; exact n2
 have b3 : (a.toList == ([99, 110, 116, 114, 108] : List UInt8)) = false := by rw [beq_eq_false_iff_ne, ByteArray.toList_eq]; exact n3
 have b4 : (a.toList == ([100, 105, 103, 105, 116] : List UInt8)) = false := by rw [beq_eq_false_iff_ne, ByteArray.toList_eq]; exact n4
 have b5 : (a.toList == ([103, 114, 97, 112, 104] : List UInt8)) = true := by rw [beq_iff_eq, ByteArray.toList_eq]; exact y
 clear n0 n1 n2 n3 n4 y
 go_enter Tryz.func208, Tryz.ntmps208
 go_wp2_with fail
 have hr := pairs_row w [⟨33, 126⟩] 1 rfl (by decide) (by decide)
 have hb : Below w.heap.size w (w.alloc (.cells (rowOf ([⟨33, 126⟩] : List S64)).toArray 39)) := (Below.refl w.heap.size w).alloc (Nat.le_refl _) _
 go_ret2
 exact ⟨_, by rw [HX.out]; rfl, by rw [HX.out]; exact hr, hb⟩
set_option maxHeartbeats 4000000 in
set_option maxRecDepth 100000 in
theorem rnamed_6 (w : World) (a : ByteArray) (n0 : ¬ a.data.toList = [97, 108, 110, 117, 109]) (n1 : ¬ a.data.toList = [97, 108, 112, 104, 97]) (n2 : ¬ a.data.toList = [98, 108, 97, 110, 107]) (n3 : ¬ a.data.toList = [99, 110, 116, 114, 108]) (n4 : ¬ a.data.toList = [100, 105, 103, 105, 116]) (n5 : ¬ a.data.toList = [103, 114, 97, 112, 104]) (y : a.data.toList = [108, 111, 119, 101, 114]) : Calls Tryz.prog 208 #[.string a] w (NamedPost w a) := by
 have HX := Lib.hid (show clC.named a = ([⟨97, 122⟩], true) by show ((Cls.named a.data.toList).getD [], (Cls.named a.data.toList).isSome) = _; rw [y]; decide)
 have b0 : (a.toList == ([97, 108, 110, 117, 109] : List UInt8)) = false := by rw [beq_eq_false_iff_ne, ByteArray.toList_eq]; exact n0
 have b1 : (a.toList == ([97, 108, 112, 104, 97] : List UInt8)) = false := by rw [beq_eq_false_iff_ne, ByteArray.toList_eq]; exact n1
 have b2 : (a.toList == ([98, 108, 97, 110, 107] : List UInt8)) = false := by rw [beq_eq_false_iff_ne, ByteArray.toList_eq]; exact n2
 have b3 : (a.toList == ([99, 110, 116, 114, 108] : List UInt8)) = false := by rw [beq_eq_false_iff_ne, ByteArray.toList_eq]; exact n3
 have b4 : (a.toList == ([100, 105, 103, 105, 116] : List UInt8)) = false := by rw [beq_eq_false_iff_ne, ByteArray.toList_eq]; exact n4
 have b5 : (a.toList == ([103, 114, 97, 112, 104] : List UInt8)) = false := by rw [beq_eq_false_iff_ne, ByteArray.toList_eq]; exact n5
 have b6 : (a.toList == ([108, 111, 119, 101, 114] : List UInt8)) = true := by rw [beq_iff_eq, ByteArray.toList_eq]; exact y
 clear n0 n1 n2 n3 n4 n5 y
 go_enter Tryz.func208, Tryz.ntmps208
 go_wp2_with fail
 have hr := pairs_row w [⟨97, 122⟩] 1 rfl (by decide) (by decide)
 have hb : Below w.heap.size w (w.alloc (.cells (rowOf ([⟨97, 122⟩] : List S64)).toArray 39)) := (Below.refl w.heap.size w).alloc (Nat.le_refl _) _
 go_ret2
 exact ⟨_, by rw [HX.out]; rfl, by rw [HX.out]; exact hr, hb⟩
set_option maxHeartbeats 4000000 in
set_option maxRecDepth 100000 in
theorem rnamed_7 (w : World) (a : ByteArray) (n0 : ¬ a.data.toList = [97, 108, 110, 117, 109]) (n1 : ¬ a.data.toList = [97, 108, 112, 104, 97]) (n2 : ¬ a.data.toList = [98, 108, 97, 110, 107]) (n3 : ¬ a.data.toList = [99, 110, 116, 114, 108]) (n4 : ¬ a.data.toList = [100, 105, 103, 105, 116]) (n5 : ¬ a.data.toList = [103, 114, 97, 112, 104]) (n6 : ¬ a.data.toList = [108, 111, 119, 101, 114]) (y : a.data.toList = [112, 114, 105, 110, 116]) : Calls Tryz.prog 208 #[.string a] w (NamedPost w a) := by
 have HX := Lib.hid (show clC.named a = ([⟨32, 126⟩], true) by show ((Cls.named a.data.toList).getD [], (Cls.named a.data.toList).isSome) = _; rw [y]; decide)
 have b0 : (a.toList == ([97, 108, 110, 117, 109] : List UInt8)) = false := by rw [beq_eq_false_iff_ne, ByteArray.toList_eq]; exact n0
 have b1 : (a.toList == ([97, 108, 112, 104, 97] : List UInt8)) = false := by rw [beq_eq_false_iff_ne, ByteArray.toList_eq]; exact n1
 have b2 : (a.toList == ([98, 108, 97, 110, 107] : List UInt8)) = false := by rw [beq_eq_false_iff_ne, ByteArray.toList_eq]; exact n2
 have b3 : (a.toList == ([99, 110, 116, 114, 108] : List UInt8)) = false := by rw [beq_eq_false_iff_ne, ByteArray.toList_eq]; exact n3
 have b4 : (a.toList == ([100, 105, 103, 105, 116] : List UInt8)) = false := by rw [beq_eq_false_iff_ne, ByteArray.toList_eq]; exact n4
 have b5 : (a.toList == ([103, 114, 97, 112, 104] : List UInt8)) = false := by rw [beq_eq_false_iff_ne, ByteArray.toList_eq]; exact n5
 have b6 : (a.toList == ([108, 111, 119, 101, 114] : List UInt8)) = false := by rw [beq_eq_false_iff_ne, ByteArray.toList_eq]; exact n6
 have b7 : (a.toList == ([112, 114, 105, 110, 116] : List UInt8)) = true := by rw [beq_iff_eq, ByteArray.toList_eq]; exact y
 clear n0 n1 n2 n3 n4 n5 n6 y
 go_enter Tryz.func208, Tryz.ntmps208
 go_wp2_with fail
 have hr := pairs_row w [⟨32, 126⟩] 1 rfl (by decide) (by decide)
 have hb : Below w.heap.size w (w.alloc (.cells (rowOf ([⟨32, 126⟩] : List S64)).toArray 39)) := (Below.refl w.heap.size w).alloc (Nat.le_refl _) _
 go_ret2
 exact ⟨_, by rw [HX.out]; rfl, by rw [HX.out]; exact hr, hb⟩
set_option maxHeartbeats 4000000 in
set_option maxRecDepth 100000 in
theorem rnamed_8 (w : World) (a : ByteArray) (n0 : ¬ a.data.toList = [97, 108, 110, 117, 109]) (n1 : ¬ a.data.toList = [97, 108, 112, 104, 97]) (n2 : ¬ a.data.toList = [98, 108, 97, 110, 107]) (n3 : ¬ a.data.toList = [99, 110, 116, 114, 108]) (n4 : ¬ a.data.toList = [100, 105, 103, 105, 116]) (n5 : ¬ a.data.toList = [103, 114, 97, 112, 104]) (n6 : ¬ a.data.toList = [108, 111, 119, 101, 114]) (n7 : ¬ a.data.toList = [112, 114, 105, 110, 116]) (y : a.data.toList = [112, 117, 110, 99, 116]) : Calls Tryz.prog 208 #[.string a] w (NamedPost w a) := by
 have HX := Lib.hid (show clC.named a = ([⟨33, 47⟩, ⟨58, 64⟩, ⟨91, 96⟩, ⟨123, 126⟩], true) by show ((Cls.named a.data.toList).getD [], (Cls.named a.data.toList).isSome) = _; rw [y]; decide)
 have b0 : (a.toList == ([97, 108, 110, 117, 109] : List UInt8)) = false := by rw [beq_eq_false_iff_ne, ByteArray.toList_eq]; exact n0
 have b1 : (a.toList == ([97, 108, 112, 104, 97] : List UInt8)) = false := by rw [beq_eq_false_iff_ne, ByteArray.toList_eq]; exact n1
 have b2 : (a.toList == ([98, 108, 97, 110, 107] : List UInt8)) = false := by rw [beq_eq_false_iff_ne, ByteArray.toList_eq]; exact n2
 have b3 : (a.toList == ([99, 110, 116, 114, 108] : List UInt8)) = false := by rw [beq_eq_false_iff_ne, ByteArray.toList_eq]; exact n3
 have b4 : (a.toList == ([100, 105, 103, 105, 116] : List UInt8)) = false := by rw [beq_eq_false_iff_ne, ByteArray.toList_eq]; exact n4
 have b5 : (a.toList == ([103, 114, 97, 112, 104] : List UInt8)) = false := by rw [beq_eq_false_iff_ne, ByteArray.toList_eq]; exact n5
 have b6 : (a.toList == ([108, 111, 119, 101, 114] : List UInt8)) = false := by rw [beq_eq_false_iff_ne, ByteArray.toList_eq]; exact n6
 have b7 : (a.toList == ([112, 114, 105, 110, 116] : List UInt8)) = false := by rw [beq_eq_false_iff_ne, ByteArray.toList_eq]; exact n7
 have b8 : (a.toList == ([112, 117, 110, 99, 116] : List UInt8)) = true := by rw [beq_iff_eq, ByteArray.toList_eq]; exact y
 clear n0 n1 n2 n3 n4 n5 n6 n7 y
 go_enter Tryz.func208, Tryz.ntmps208
 go_wp2_with fail
 have hr := pairs_row w [⟨33, 47⟩, ⟨58, 64⟩, ⟨91, 96⟩, ⟨123, 126⟩] 4 rfl (by decide) (by decide)
 have hb : Below w.heap.size w (w.alloc (.cells (rowOf ([⟨33, 47⟩, ⟨58, 64⟩, ⟨91, 96⟩, ⟨123, 126⟩] : List S64)).toArray 39)) := (Below.refl w.heap.size w).alloc (Nat.le_refl _) _
 go_ret2
 exact ⟨_, by rw [HX.out]; rfl, by rw [HX.out]; exact hr, hb⟩
set_option maxHeartbeats 4000000 in
set_option maxRecDepth 100000 in
theorem rnamed_9 (w : World) (a : ByteArray) (n0 : ¬ a.data.toList = [97, 108, 110, 117, 109]) (n1 : ¬ a.data.toList = [97, 108, 112, 104, 97]) (n2 : ¬ a.data.toList = [98, 108, 97, 110, 107]) (n3 : ¬ a.data.toList = [99, 110, 116, 114, 108]) (n4 : ¬ a.data.toList = [100, 105, 103, 105, 116]) (n5 : ¬ a.data.toList = [103, 114, 97, 112, 104]) (n6 : ¬ a.data.toList = [108, 111, 119, 101, 114]) (n7 : ¬ a.data.toList = [112, 114, 105, 110, 116]) (n8 : ¬ a.data.toList = [112, 117, 110, 99, 116]) (y : a.data.toList = [115, 112, 97, 99, 101]) : Calls Tryz.prog 208 #[.string a] w (NamedPost w a) := by
 have HX := Lib.hid (show clC.named a = ([⟨9, 13⟩, ⟨32, 32⟩], true) by show ((Cls.named a.data.toList).getD [], (Cls.named a.data.toList).isSome) = _; rw [y]; decide)
 have b0 : (a.toList == ([97, 108, 110, 117, 109] : List UInt8)) = false := by rw [beq_eq_false_iff_ne, ByteArray.toList_eq]; exact n0
 have b1 : (a.toList == ([97, 108, 112, 104, 97] : List UInt8)) = false := by rw [beq_eq_false_iff_ne, ByteArray.toList_eq]; exact n1
 have b2 : (a.toList == ([98, 108, 97, 110, 107] : List UInt8)) = false := by rw [beq_eq_false_iff_ne, ByteArray.toList_eq]; exact n2
 have b3 : (a.toList == ([99, 110, 116, 114, 108] : List UInt8)) = false := by rw [beq_eq_false_iff_ne, ByteArray.toList_eq]; exact n3
 have b4 : (a.toList == ([100, 105, 103, 105, 116] : List UInt8)) = false := by rw [beq_eq_false_iff_ne, ByteArray.toList_eq]; exact n4
 have b5 : (a.toList == ([103, 114, 97, 112, 104] : List UInt8)) = false := by rw [beq_eq_false_iff_ne, ByteArray.toList_eq]; exact n5
 have b6 : (a.toList == ([108, 111, 119, 101, 114] : List UInt8)) = false := by rw [beq_eq_false_iff_ne, ByteArray.toList_eq]; exact n6
 have b7 : (a.toList == ([112, 114, 105, 110, 116] : List UInt8)) = false := by rw [beq_eq_false_iff_ne, ByteArray.toList_eq]; exact n7
 have b8 : (a.toList == ([112, 117, 110, 99, 116] : List UInt8)) = false := by rw [beq_eq_false_iff_ne, ByteArray.toList_eq]; exact n8
 have b9 : (a.toList == ([115, 112, 97, 99, 101] : List UInt8)) = true := by rw [beq_iff_eq, ByteArray.toList_eq]; exact y
 clear n0 n1 n2 n3 n4 n5 n6 n7 n8 y
 go_enter Tryz.func208, Tryz.ntmps208
 go_wp2_with fail
 have hr := pairs_row w [⟨9, 13⟩, ⟨32, 32⟩] 2 rfl (by decide) (by decide)
 have hb : Below w.heap.size w (w.alloc (.cells (rowOf ([⟨9, 13⟩, ⟨32, 32⟩] : List S64)).toArray 39)) := (Below.refl w.heap.size w).alloc (Nat.le_refl _) _
 go_ret2
 exact ⟨_, by rw [HX.out]; rfl, by rw [HX.out]; exact hr, hb⟩
set_option maxHeartbeats 4000000 in
set_option maxRecDepth 100000 in
theorem rnamed_10 (w : World) (a : ByteArray) (n0 : ¬ a.data.toList = [97, 108, 110, 117, 109]) (n1 : ¬ a.data.toList = [97, 108, 112, 104, 97]) (n2 : ¬ a.data.toList = [98, 108, 97, 110, 107]) (n3 : ¬ a.data.toList = [99, 110, 116, 114, 108]) (n4 : ¬ a.data.toList = [100, 105, 103, 105, 116]) (n5 : ¬ a.data.toList = [103, 114, 97, 112, 104]) (n6 : ¬ a.data.toList = [108, 111, 119, 101, 114]) (n7 : ¬ a.data.toList = [112, 114, 105, 110, 116]) (n8 : ¬ a.data.toList = [112, 117, 110, 99, 116]) (n9 : ¬ a.data.toList = [115, 112, 97, 99, 101]) (y : a.data.toList = [117, 112, 112, 101, 114]) : Calls Tryz.prog 208 #[.string a] w (NamedPost w a) := by
 have HX := Lib.hid (show clC.named a = ([⟨65, 90⟩], true) by show ((Cls.named a.data.toList).getD [], (Cls.named a.data.toList).isSome) = _; rw [y]; decide)
 have b0 : (a.toList == ([97, 108, 110, 117, 109] : List UInt8)) = false := by rw [beq_eq_false_iff_ne, ByteArray.toList_eq]; exact n0
 have b1 : (a.toList == ([97, 108, 112, 104, 97] : List UInt8)) = false := by rw [beq_eq_false_iff_ne, ByteArray.toList_eq]; exact n1
 have b2 : (a.toList == ([98, 108, 97, 110, 107] : List UInt8)) = false := by rw [beq_eq_false_iff_ne, ByteArray.toList_eq]; exact n2
 have b3 : (a.toList == ([99, 110, 116, 114, 108] : List UInt8)) = false := by rw [beq_eq_false_iff_ne, ByteArray.toList_eq]; exact n3
 have b4 : (a.toList == ([100, 105, 103, 105, 116] : List UInt8)) = false := by rw [beq_eq_false_iff_ne, ByteArray.toList_eq]; exact n4
 have b5 : (a.toList == ([103, 114, 97, 112, 104] : List UInt8)) = false := by rw [beq_eq_false_iff_ne, ByteArray.toList_eq]; exact n5
 have b6 : (a.toList == ([108, 111, 119, 101, 114] : List UInt8)) = false := by rw [beq_eq_false_iff_ne, ByteArray.toList_eq]; exact n6
 have b7 : (a.toList == ([112, 114, 105, 110, 116] : List UInt8)) = false := by rw [beq_eq_false_iff_ne, ByteArray.toList_eq]; exact n7
 have b8 : (a.toList == ([112, 117, 110, 99, 116] : List UInt8)) = false := by rw [beq_eq_false_iff_ne, ByteArray.toList_eq]; exact n8
 have b9 : (a.toList == ([115, 112, 97, 99, 101] : List UInt8)) = false := by rw [beq_eq_false_iff_ne, ByteArray.toList_eq]; exact n9
 have b10 : (a.toList == ([117, 112, 112, 101, 114] : List UInt8)) = true := by rw [beq_iff_eq, ByteArray.toList_eq]; exact y
 clear n0 n1 n2 n3 n4 n5 n6 n7 n8 n9 y
 go_enter Tryz.func208, Tryz.ntmps208
 go_wp2_with fail
 have hr := pairs_row w [⟨65, 90⟩] 1 rfl (by decide) (by decide)
 have hb : Below w.heap.size w (w.alloc (.cells (rowOf ([⟨65, 90⟩] : List S64)).toArray 39)) := (Below.refl w.heap.size w).alloc (Nat.le_refl _) _
 go_ret2
 exact ⟨_, by rw [HX.out]; rfl, by rw [HX.out]; exact hr, hb⟩
set_option maxHeartbeats 4000000 in
set_option maxRecDepth 100000 in
theorem rnamed_11 (w : World) (a : ByteArray) (n0 : ¬ a.data.toList = [97, 108, 110, 117, 109]) (n1 : ¬ a.data.toList = [97, 108, 112, 104, 97]) (n2 : ¬ a.data.toList = [98, 108, 97, 110, 107]) (n3 : ¬ a.data.toList = [99, 110, 116, 114, 108]) (n4 : ¬ a.data.toList = [100, 105, 103, 105, 116]) (n5 : ¬ a.data.toList = [103, 114, 97, 112, 104]) (n6 : ¬ a.data.toList = [108, 111, 119, 101, 114]) (n7 : ¬ a.data.toList = [112, 114, 105, 110, 116]) (n8 : ¬ a.data.toList = [112, 117, 110, 99, 116]) (n9 : ¬ a.data.toList = [115, 112, 97, 99, 101]) (n10 : ¬ a.data.toList = [117, 112, 112, 101, 114]) (y : a.data.toList = [120, 100, 105, 103, 105, 116]) : Calls Tryz.prog 208 #[.string a] w (NamedPost w a) := by
 have HX := Lib.hid (show clC.named a = ([⟨48, 57⟩, ⟨65, 70⟩, ⟨97, 102⟩], true) by show ((Cls.named a.data.toList).getD [], (Cls.named a.data.toList).isSome) = _; rw [y]; decide)
 have b0 : (a.toList == ([97, 108, 110, 117, 109] : List UInt8)) = false := by rw [beq_eq_false_iff_ne, ByteArray.toList_eq]; exact n0
 have b1 : (a.toList == ([97, 108, 112, 104, 97] : List UInt8)) = false := by rw [beq_eq_false_iff_ne, ByteArray.toList_eq]; exact n1
 have b2 : (a.toList == ([98, 108, 97, 110, 107] : List UInt8)) = false := by rw [beq_eq_false_iff_ne, ByteArray.toList_eq]; exact n2
 have b3 : (a.toList == ([99, 110, 116, 114, 108] : List UInt8)) = false := by rw [beq_eq_false_iff_ne, ByteArray.toList_eq]; exact n3
 have b4 : (a.toList == ([100, 105, 103, 105, 116] : List UInt8)) = false := by rw [beq_eq_false_iff_ne, ByteArray.toList_eq]; exact n4
 have b5 : (a.toList == ([103, 114, 97, 112, 104] : List UInt8)) = false := by rw [beq_eq_false_iff_ne, ByteArray.toList_eq]; exact n5
 have b6 : (a.toList == ([108, 111, 119, 101, 114] : List UInt8)) = false := by rw [beq_eq_false_iff_ne, ByteArray.toList_eq]; exact n6
 have b7 : (a.toList == ([112, 114, 105, 110, 116] : List UInt8)) = false := by rw [beq_eq_false_iff_ne, ByteArray.toList_eq]; exact n7
 have b8 : (a.toList == ([112, 117, 110, 99, 116] : List UInt8)) = false := by rw [beq_eq_false_iff_ne, ByteArray.toList_eq]; exact n8
 have b9 : (a.toList == ([115, 112, 97, 99, 101] : List UInt8)) = false := by rw [beq_eq_false_iff_ne, ByteArray.toList_eq]; exact n9
 have b10 : (a.toList == ([117, 112, 112, 101, 114] : List UInt8)) = false := by rw [beq_eq_false_iff_ne, ByteArray.toList_eq]; exact n10
 have b11 : (a.toList == ([120, 100, 105, 103, 105, 116] : List UInt8)) = true := by rw [beq_iff_eq, ByteArray.toList_eq]; exact y
 clear n0 n1 n2 n3 n4 n5 n6 n7 n8 n9 n10 y
 go_enter Tryz.func208, Tryz.ntmps208
 go_wp2_with fail
 have hr := pairs_row w [⟨48, 57⟩, ⟨65, 70⟩, ⟨97, 102⟩] 3 rfl (by decide) (by decide)
 have hb : Below w.heap.size w (w.alloc (.cells (rowOf ([⟨48, 57⟩, ⟨65, 70⟩, ⟨97, 102⟩] : List S64)).toArray 39)) := (Below.refl w.heap.size w).alloc (Nat.le_refl _) _
 go_ret2
 exact ⟨_, by rw [HX.out]; rfl, by rw [HX.out]; exact hr, hb⟩
set_option maxHeartbeats 4000000 in
set_option maxRecDepth 100000 in
theorem rnamed_12 (w : World) (a : ByteArray) (n0 : ¬ a.data.toList = [97, 108, 110, 117, 109]) (n1 : ¬ a.data.toList = [97, 108, 112, 104, 97]) (n2 : ¬ a.data.toList = [98, 108, 97, 110, 107]) (n3 : ¬ a.data.toList = [99, 110, 116, 114, 108]) (n4 : ¬ a.data.toList = [100, 105, 103, 105, 116]) (n5 : ¬ a.data.toList = [103, 114, 97, 112, 104]) (n6 : ¬ a.data.toList = [108, 111, 119, 101, 114]) (n7 : ¬ a.data.toList = [112, 114, 105, 110, 116]) (n8 : ¬ a.data.toList = [112, 117, 110, 99, 116]) (n9 : ¬ a.data.toList = [115, 112, 97, 99, 101]) (n10 : ¬ a.data.toList = [117, 112, 112, 101, 114]) (n11 : ¬ a.data.toList = [120, 100, 105, 103, 105, 116])  : Calls Tryz.prog 208 #[.string a] w (NamedPost w a) := by
 have HX := Lib.hid (show clC.named a = ([], false) by
  show ((Cls.named a.data.toList).getD [], (Cls.named a.data.toList).isSome) = _
  unfold Cls.named
  rw [if_neg n0, if_neg n1, if_neg n6, if_neg n10, if_neg n11, if_neg n4, if_neg n9, if_neg n2, if_neg n3, if_neg n7, if_neg n5, if_neg n8]
  rfl)
 have b0 : (a.toList == ([97, 108, 110, 117, 109] : List UInt8)) = false := by rw [beq_eq_false_iff_ne, ByteArray.toList_eq]; exact n0
 have b1 : (a.toList == ([97, 108, 112, 104, 97] : List UInt8)) = false := by rw [beq_eq_false_iff_ne, ByteArray.toList_eq]; exact n1
 have b2 : (a.toList == ([98, 108, 97, 110, 107] : List UInt8)) = false := by rw [beq_eq_false_iff_ne, ByteArray.toList_eq]; exact n2
 have b3 : (a.toList == ([99, 110, 116, 114, 108] : List UInt8)) = false := by rw [beq_eq_false_iff_ne, ByteArray.toList_eq]; exact n3
 have b4 : (a.toList == ([100, 105, 103, 105, 116] : List UInt8)) = false := by rw [beq_eq_false_iff_ne, ByteArray.toList_eq]; exact n4
 have b5 : (a.toList == ([103, 114, 97, 112, 104] : List UInt8)) = false := by rw [beq_eq_false_iff_ne, ByteArray.toList_eq]; exact n5
 have b6 : (a.toList == ([108, 111, 119, 101, 114] : List UInt8)) = false := by rw [beq_eq_false_iff_ne, ByteArray.toList_eq]; exact n6
 have b7 : (a.toList == ([112, 114, 105, 110, 116] : List UInt8)) = false := by rw [beq_eq_false_iff_ne, ByteArray.toList_eq]; exact n7
 have b8 : (a.toList == ([112, 117, 110, 99, 116] : List UInt8)) = false := by rw [beq_eq_false_iff_ne, ByteArray.toList_eq]; exact n8
 have b9 : (a.toList == ([115, 112, 97, 99, 101] : List UInt8)) = false := by rw [beq_eq_false_iff_ne, ByteArray.toList_eq]; exact n9
 have b10 : (a.toList == ([117, 112, 112, 101, 114] : List UInt8)) = false := by rw [beq_eq_false_iff_ne, ByteArray.toList_eq]; exact n10
 have b11 : (a.toList == ([120, 100, 105, 103, 105, 116] : List UInt8)) = false := by rw [beq_eq_false_iff_ne, ByteArray.toList_eq]; exact n11
 clear n0 n1 n2 n3 n4 n5 n6 n7 n8 n9 n10 n11
 go_enter Tryz.func208, Tryz.ntmps208
 go_wp2_with fail
 go_ret2
 exact ⟨_, by rw [HX.out]; rfl, by rw [HX.out]; exact Row.nil w _, Below.refl _ _⟩
theorem rnamed_calls (w : World) (a : ByteArray) : Calls Tryz.prog 208 #[.string a] w (NamedPost w a) := by
 by_cases n0 : a.data.toList = [97, 108, 110, 117, 109]
 ·exact rnamed_0 w a n0
 by_cases n1 : a.data.toList = [97, 108, 112, 104, 97]
 ·exact rnamed_1 w a n0 n1
 by_cases n2 : a.data.toList = [98, 108, 97, 110, 107]
 ·exact rnamed_2 w a n0 n1 n2
 by_cases n3 : a.data.toList = [99, 110, 116, 114, 108]
 ·exact rnamed_3 w a n0 n1 n2 n3
 by_cases n4 : a.data.toList = [100, 105, 103, 105, 116]
 ·exact rnamed_4 w a n0 n1 n2 n3 n4
 by_cases n5 : a.data.toList = [103, 114, 97, 112, 104]
 ·exact rnamed_5 w a n0 n1 n2 n3 n4 n5
 by_cases n6 : a.data.toList = [108, 111, 119, 101, 114]
 ·exact rnamed_6 w a n0 n1 n2 n3 n4 n5 n6
 by_cases n7 : a.data.toList = [112, 114, 105, 110, 116]
 ·exact rnamed_7 w a n0 n1 n2 n3 n4 n5 n6 n7
 by_cases n8 : a.data.toList = [112, 117, 110, 99, 116]
 ·exact rnamed_8 w a n0 n1 n2 n3 n4 n5 n6 n7 n8
 by_cases n9 : a.data.toList = [115, 112, 97, 99, 101]
 ·exact rnamed_9 w a n0 n1 n2 n3 n4 n5 n6 n7 n8 n9
 by_cases n10 : a.data.toList = [117, 112, 112, 101, 114]
 ·exact rnamed_10 w a n0 n1 n2 n3 n4 n5 n6 n7 n8 n9 n10
 by_cases n11 : a.data.toList = [120, 100, 105, 103, 105, 116]
 ·exact rnamed_11 w a n0 n1 n2 n3 n4 n5 n6 n7 n8 n9 n10 n11
 exact rnamed_12 w a n0 n1 n2 n3 n4 n5 n6 n7 n8 n9 n10 n11
end Go.Proofs.YtamhkdlcoghdbaaGreatDoor.PCls
