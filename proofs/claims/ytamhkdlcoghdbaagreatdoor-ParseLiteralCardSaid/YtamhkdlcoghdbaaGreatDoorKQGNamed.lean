/- Out of GNamed (wip/tools/prune2.py): the declarations alone that the texts of the trees name. -/
import Derived.Test.YtamhkdlcoghdbaaGreatDoorKMQWp
namespace Go.Proofs.YtamhkdlcoghdbaaGreatDoor.PCls
open Go.RowKit Go.Proofs.YtamhkdlcoghdbaaGreatDoorW.PrintWords Go.Proofs.YtamhkdlcoghdbaaGreatDoorW.PrintLast Go.Proofs.YtamhkdlcoghdbaaGreatDoorW.PrintMore
set_option linter.unusedVariables false
set_option linter.unusedSimpArgs false
/-- a variable of the function that a closure holds: its block, and the row in it -/
def HeldRow (w : World) (base B : Nat) (l : List S64) : Prop := base ≤ B ∧ ∃ v, Boxed w B 35 v ∧ w.ownsRow base 39 2 v l.length (rowOf l)
theorem rowOf_snocN (l : List S64) (x : S64) : rowOf (l ++ [x]) = rowOf l ++ [.int .i64 x.f0, .int .i64 x.f1] := by simp [rowOf, enc2]
set_option maxHeartbeats 2000000 in
set_option maxRecDepth 100000 in
theorem putN_calls (lo hi : Int) (base B : Nat) (l : List S64) (hl : l.length < 1000) (w : World) (hbw : base ≤ w.heap.size) (h : HeldRow w base B l) :
  Calls Tryz.prog 233 #[.int .i64 lo, .int .i64 hi, .pointer (some ⟨B, 0, none⟩)] w fun e w' => e = .returned (.tuple #[]) ∧ HeldRow w' base B (l ++ [⟨lo, hi⟩]) ∧ Below base w w' := by
 obtain ⟨i0, hi0, hz0, hz1, hz2⟩ := info64'
 obtain ⟨hbB, v, hbox, hown⟩ := h
 have hc := hbox.cell
 have O := Lib.hid hown
 have N := Lib.hid hbox
 have hL := Lib.hid hl
 have hW := Lib.hid hbw
 clear hown hbox hl hbw
 go_enter Tryz.func233, Tryz.ntmps233
 go_wp2_with (at_builtin; refine wpList_append_own _ rfl _ _ 35 rfl base 39 i0 _ 2 16 Tryz.underlying35 hi0 hz0 hz1 hz2 rfl (by decide) _ _ _ rfl (O.out.alloc _) ⟨w.heap.size, 0, none⟩ 1 1 [.int .i64 lo, .int .i64 hi] rfl rfl ?q1 ?q2 ?q3 ?q4 ?q5 ?_)
 case q1 =>
  intro j u hj
  match j, hj with
  | 0, hj => simp at hj; subst hj; exact cell_of_row _ w.heap.size 0 _ 39 (0, 0) (heap_alloc_new w _)
  | 1, hj => simp at hj; subst hj; exact cell_of_row _ w.heap.size 1 _ 39 (0, 0) (heap_alloc_new w _)
  | j + 2, hj => simp at hj
 case q2 => intro u hu; simp at hu; rcases hu with rfl | rfl <;> rfl
 case q3 => have := hL.out; unfold maxLen; omega
 case q4 => have := hL.out; omega
 case q5 => have := hW.out; simp; omega
 intro v' w1 hown hgrow hnil
 obtain ⟨h1, h2, h3, h4, h5⟩ := N.out.appended (by decide) O.out hW.out hbB hown hgrow
 have hc1 := h1.cell
 have hf1 := h1.frozen
 obtain ⟨g, cap, rfl⟩ := ownsRow_succ hown
 have K2 := Lib.hid h2
 have K3 := Lib.hid h3
 have K5 := Lib.hid h5
 clear hown hgrow hnil h1 h2 h3 h4 h5
 go_wp2
 go_end0
 exact ⟨rfl, ⟨hbB, _, K2.out, by rw [rowOf_snocN, List.length_append]; exact K3.out⟩, K5.out⟩
end Go.Proofs.YtamhkdlcoghdbaaGreatDoor.PCls
namespace Go.Proofs.YtamhkdlcoghdbaaGreatDoor.PCls
open Go.RowKit Go.Proofs.YtamhkdlcoghdbaaGreatDoorW.PrintWords Go.Proofs.YtamhkdlcoghdbaaGreatDoorW.PrintLast Go.Proofs.YtamhkdlcoghdbaaGreatDoorW.PrintMore
set_option linter.unusedVariables false
set_option linter.unusedSimpArgs false
theorem held_new (w : World) : HeldRow (w.alloc (.cells #[.slice none 0 0] 35)) w.heap.size w.heap.size [] := ⟨Nat.le_refl _, _, Boxed.new w 35 _, World.ownsRow_nil _ _ _ _⟩
theorem cls_alnum : Cls.cls [⟨48, 57⟩, ⟨65, 90⟩, ⟨97, 122⟩] = [⟨48, 57⟩, ⟨65, 90⟩, ⟨97, 122⟩] := (Cls.cls_unique (by simp [Cls.Can]) fun c => by simp [Cls.Mem] <;> omega).symm
theorem cls_alpha : Cls.cls [⟨65, 90⟩, ⟨97, 122⟩] = [⟨65, 90⟩, ⟨97, 122⟩] := (Cls.cls_unique (by simp [Cls.Can]) fun c => by simp [Cls.Mem] <;> omega).symm
theorem cls_lower : Cls.cls [⟨97, 122⟩] = [⟨97, 122⟩] := (Cls.cls_unique (by simp [Cls.Can]) fun c => by simp [Cls.Mem] <;> omega).symm
theorem cls_upper : Cls.cls [⟨65, 90⟩] = [⟨65, 90⟩] := (Cls.cls_unique (by simp [Cls.Can]) fun c => by simp [Cls.Mem] <;> omega).symm
theorem cls_xdigit : Cls.cls [⟨65, 70⟩, ⟨97, 102⟩, ⟨48, 57⟩] = [⟨48, 57⟩, ⟨65, 70⟩, ⟨97, 102⟩] := (Cls.cls_unique (by simp [Cls.Can]) fun c => by simp [Cls.Mem] <;> omega).symm
theorem cls_digit : Cls.cls [⟨48, 57⟩] = [⟨48, 57⟩] := (Cls.cls_unique (by simp [Cls.Can]) fun c => by simp [Cls.Mem] <;> omega).symm
theorem cls_space : Cls.cls [⟨9, 13⟩, ⟨32, 32⟩] = [⟨9, 13⟩, ⟨32, 32⟩] := (Cls.cls_unique (by simp [Cls.Can]) fun c => by simp [Cls.Mem] <;> omega).symm
theorem cls_blank : Cls.cls [⟨9, 9⟩, ⟨32, 32⟩] = [⟨9, 9⟩, ⟨32, 32⟩] := (Cls.cls_unique (by simp [Cls.Can]) fun c => by simp [Cls.Mem] <;> omega).symm
theorem cls_cntrl : Cls.cls [⟨0, 31⟩, ⟨127, 127⟩] = [⟨0, 31⟩, ⟨127, 127⟩] := (Cls.cls_unique (by simp [Cls.Can]) fun c => by simp [Cls.Mem] <;> omega).symm
theorem cls_print : Cls.cls [⟨32, 32⟩, ⟨33, 126⟩] = [⟨32, 126⟩] := (Cls.cls_unique (by simp [Cls.Can]) fun c => by simp [Cls.Mem] <;> omega).symm
theorem cls_graph : Cls.cls [⟨33, 126⟩] = [⟨33, 126⟩] := (Cls.cls_unique (by simp [Cls.Can]) fun c => by simp [Cls.Mem] <;> omega).symm
theorem cls_punct : Cls.cls [⟨33, 47⟩, ⟨58, 64⟩, ⟨91, 96⟩, ⟨123, 126⟩] = [⟨33, 47⟩, ⟨58, 64⟩, ⟨91, 96⟩, ⟨123, 126⟩] := (Cls.cls_unique (by simp [Cls.Can]) fun c => by simp [Cls.Mem] <;> omega).symm
set_option maxHeartbeats 2000000 in
set_option maxRecDepth 100000 in
theorem named_alnum (a0 : ByteArray) (w : World) (h : a0.toList = ([97, 108, 110, 117, 109] : List UInt8)) :
  Calls Tryz.prog 212 #[.string a0] w fun e w' => ∃ v0_ : Value, e = .returned (.tuple #[v0_, .bool true]) ∧ Kd.R k64 39 w' w.heap.size (fun _ => True) v0_ [⟨48, 57⟩, ⟨65, 90⟩, ⟨97, 122⟩] ∧ Below w.heap.size w w' := by
 have b0 : (a0.toList == ([97, 108, 110, 117, 109] : List UInt8)) = true := by rw [h]; decide
 obtain ⟨k, hk⟩ := (joined_ends [⟨48, 57⟩, ⟨65, 90⟩, ⟨97, 122⟩] (by simp) (by decide)).get
 rw [cls_alnum] at hk
 have K := Lib.hid hk
 have H0 := Lib.hid (held_new w)
 have B0 := Lib.hid ((Below.refl w.heap.size w).alloc (Nat.le_refl _) (.cells #[.slice none 0 0] 35))
 clear h hk
 go_enter Tryz.func212, Tryz.ntmps212
 go_wp2_with fail
 refine (putN_calls 48 57 w.heap.size w.heap.size [] (by simp) _ B0.out.size H0.out).mono ?_
 rintro e w1 ⟨rfl, h, hb⟩
 have H1 := Lib.hid (show HeldRow w1 w.heap.size w.heap.size [⟨48, 57⟩] from h)
 have B1 := Lib.hid (B0.out.trans hb)
 clear H0 B0 h hb
 go_wp2_with fail
 refine (putN_calls 65 90 w.heap.size w.heap.size [⟨48, 57⟩] (by simp) _ B1.out.size H1.out).mono ?_
 rintro e w2 ⟨rfl, h, hb⟩
 have H2 := Lib.hid (show HeldRow w2 w.heap.size w.heap.size [⟨48, 57⟩, ⟨65, 90⟩] from h)
 have B2 := Lib.hid (B1.out.trans hb)
 clear H1 B1 h hb
 go_wp2_with fail
 refine (putN_calls 97 122 w.heap.size w.heap.size [⟨48, 57⟩, ⟨65, 90⟩] (by simp) _ B2.out.size H2.out).mono ?_
 rintro e w3 ⟨rfl, h, hb⟩
 have H3 := Lib.hid (show HeldRow w3 w.heap.size w.heap.size [⟨48, 57⟩, ⟨65, 90⟩, ⟨97, 122⟩] from h)
 have B3 := Lib.hid (B2.out.trans hb)
 clear H2 B2 h hb
 obtain ⟨_, v, hbox, hown⟩ := H3.out
 have hc := hbox.cell
 have hR : Kd.R k64 39 w3 w.heap.size (fun _ => True) v [⟨48, 57⟩, ⟨65, 90⟩, ⟨97, 122⟩] := R_of_own hown (fun _ _ => trivial)
 have hj := classes_joined.calls k (fun _ => True) v _ _ w w3 B3.out hR K.out
 clear hbox hown hR
 go_wp2_with fail
 refine hj.mono ?_
 rintro e wj ⟨vj, rfl, hR, hb, _⟩
 clear hj hc
 go_wp2
 go_ret2
 exact ⟨_, rfl, Kd.R_mono hR (fun _ _ => trivial), hb⟩
set_option maxHeartbeats 2000000 in
set_option maxRecDepth 100000 in
theorem named_alpha (a0 : ByteArray) (w : World) (h : a0.toList = ([97, 108, 112, 104, 97] : List UInt8)) :
  Calls Tryz.prog 212 #[.string a0] w fun e w' => ∃ v0_ : Value, e = .returned (.tuple #[v0_, .bool true]) ∧ Kd.R k64 39 w' w.heap.size (fun _ => True) v0_ [⟨65, 90⟩, ⟨97, 122⟩] ∧ Below w.heap.size w w' := by
 have b0 : (a0.toList == ([97, 108, 110, 117, 109] : List UInt8)) = false := by rw [h]; decide
 have b1 : (a0.toList == ([97, 108, 112, 104, 97] : List UInt8)) = true := by rw [h]; decide
 obtain ⟨k, hk⟩ := (joined_ends [⟨65, 90⟩, ⟨97, 122⟩] (by simp) (by decide)).get
 rw [cls_alpha] at hk
 have K := Lib.hid hk
 have H0 := Lib.hid (held_new w)
 have B0 := Lib.hid ((Below.refl w.heap.size w).alloc (Nat.le_refl _) (.cells #[.slice none 0 0] 35))
 clear h hk
 go_enter Tryz.func212, Tryz.ntmps212
 go_wp2_with fail
 refine (putN_calls 65 90 w.heap.size w.heap.size [] (by simp) _ B0.out.size H0.out).mono ?_
 rintro e w1 ⟨rfl, h, hb⟩
 have H1 := Lib.hid (show HeldRow w1 w.heap.size w.heap.size [⟨65, 90⟩] from h)
 have B1 := Lib.hid (B0.out.trans hb)
 clear H0 B0 h hb
 go_wp2_with fail
 refine (putN_calls 97 122 w.heap.size w.heap.size [⟨65, 90⟩] (by simp) _ B1.out.size H1.out).mono ?_
 rintro e w2 ⟨rfl, h, hb⟩
 have H2 := Lib.hid (show HeldRow w2 w.heap.size w.heap.size [⟨65, 90⟩, ⟨97, 122⟩] from h)
 have B2 := Lib.hid (B1.out.trans hb)
 clear H1 B1 h hb
 obtain ⟨_, v, hbox, hown⟩ := H2.out
 have hc := hbox.cell
 have hR : Kd.R k64 39 w2 w.heap.size (fun _ => True) v [⟨65, 90⟩, ⟨97, 122⟩] := R_of_own hown (fun _ _ => trivial)
 have hj := classes_joined.calls k (fun _ => True) v _ _ w w2 B2.out hR K.out
 clear hbox hown hR
 go_wp2_with fail
 refine hj.mono ?_
 rintro e wj ⟨vj, rfl, hR, hb, _⟩
 clear hj hc
 go_wp2
 go_ret2
 exact ⟨_, rfl, Kd.R_mono hR (fun _ _ => trivial), hb⟩
set_option maxHeartbeats 2000000 in
set_option maxRecDepth 100000 in
theorem named_lower (a0 : ByteArray) (w : World) (h : a0.toList = ([108, 111, 119, 101, 114] : List UInt8)) :
  Calls Tryz.prog 212 #[.string a0] w fun e w' => ∃ v0_ : Value, e = .returned (.tuple #[v0_, .bool true]) ∧ Kd.R k64 39 w' w.heap.size (fun _ => True) v0_ [⟨97, 122⟩] ∧ Below w.heap.size w w' := by
 have b0 : (a0.toList == ([97, 108, 110, 117, 109] : List UInt8)) = false := by rw [h]; decide
 have b1 : (a0.toList == ([97, 108, 112, 104, 97] : List UInt8)) = false := by rw [h]; decide
 have b2 : (a0.toList == ([108, 111, 119, 101, 114] : List UInt8)) = true := by rw [h]; decide
 obtain ⟨k, hk⟩ := (joined_ends [⟨97, 122⟩] (by simp) (by decide)).get
 rw [cls_lower] at hk
 have K := Lib.hid hk
 have H0 := Lib.hid (held_new w)
 have B0 := Lib.hid ((Below.refl w.heap.size w).alloc (Nat.le_refl _) (.cells #[.slice none 0 0] 35))
 clear h hk
 go_enter Tryz.func212, Tryz.ntmps212
 go_wp2_with fail
 refine (putN_calls 97 122 w.heap.size w.heap.size [] (by simp) _ B0.out.size H0.out).mono ?_
 rintro e w1 ⟨rfl, h, hb⟩
 have H1 := Lib.hid (show HeldRow w1 w.heap.size w.heap.size [⟨97, 122⟩] from h)
 have B1 := Lib.hid (B0.out.trans hb)
 clear H0 B0 h hb
 obtain ⟨_, v, hbox, hown⟩ := H1.out
 have hc := hbox.cell
 have hR : Kd.R k64 39 w1 w.heap.size (fun _ => True) v [⟨97, 122⟩] := R_of_own hown (fun _ _ => trivial)
 have hj := classes_joined.calls k (fun _ => True) v _ _ w w1 B1.out hR K.out
 clear hbox hown hR
 go_wp2_with fail
 refine hj.mono ?_
 rintro e wj ⟨vj, rfl, hR, hb, _⟩
 clear hj hc
 go_wp2
 go_ret2
 exact ⟨_, rfl, Kd.R_mono hR (fun _ _ => trivial), hb⟩
set_option maxHeartbeats 2000000 in
set_option maxRecDepth 100000 in
theorem named_upper (a0 : ByteArray) (w : World) (h : a0.toList = ([117, 112, 112, 101, 114] : List UInt8)) :
  Calls Tryz.prog 212 #[.string a0] w fun e w' => ∃ v0_ : Value, e = .returned (.tuple #[v0_, .bool true]) ∧ Kd.R k64 39 w' w.heap.size (fun _ => True) v0_ [⟨65, 90⟩] ∧ Below w.heap.size w w' := by
 have b0 : (a0.toList == ([97, 108, 110, 117, 109] : List UInt8)) = false := by rw [h]; decide
 have b1 : (a0.toList == ([97, 108, 112, 104, 97] : List UInt8)) = false := by rw [h]; decide
 have b2 : (a0.toList == ([108, 111, 119, 101, 114] : List UInt8)) = false := by rw [h]; decide
 have b3 : (a0.toList == ([117, 112, 112, 101, 114] : List UInt8)) = true := by rw [h]; decide
 obtain ⟨k, hk⟩ := (joined_ends [⟨65, 90⟩] (by simp) (by decide)).get
 rw [cls_upper] at hk
 have K := Lib.hid hk
 have H0 := Lib.hid (held_new w)
 have B0 := Lib.hid ((Below.refl w.heap.size w).alloc (Nat.le_refl _) (.cells #[.slice none 0 0] 35))
 clear h hk
 go_enter Tryz.func212, Tryz.ntmps212
 go_wp2_with fail
 refine (putN_calls 65 90 w.heap.size w.heap.size [] (by simp) _ B0.out.size H0.out).mono ?_
 rintro e w1 ⟨rfl, h, hb⟩
 have H1 := Lib.hid (show HeldRow w1 w.heap.size w.heap.size [⟨65, 90⟩] from h)
 have B1 := Lib.hid (B0.out.trans hb)
 clear H0 B0 h hb
 obtain ⟨_, v, hbox, hown⟩ := H1.out
 have hc := hbox.cell
 have hR : Kd.R k64 39 w1 w.heap.size (fun _ => True) v [⟨65, 90⟩] := R_of_own hown (fun _ _ => trivial)
 have hj := classes_joined.calls k (fun _ => True) v _ _ w w1 B1.out hR K.out
 clear hbox hown hR
 go_wp2_with fail
 refine hj.mono ?_
 rintro e wj ⟨vj, rfl, hR, hb, _⟩
 clear hj hc
 go_wp2
 go_ret2
 exact ⟨_, rfl, Kd.R_mono hR (fun _ _ => trivial), hb⟩
set_option maxHeartbeats 2000000 in
set_option maxRecDepth 100000 in
theorem named_xdigit (a0 : ByteArray) (w : World) (h : a0.toList = ([120, 100, 105, 103, 105, 116] : List UInt8)) :
  Calls Tryz.prog 212 #[.string a0] w fun e w' => ∃ v0_ : Value, e = .returned (.tuple #[v0_, .bool true]) ∧ Kd.R k64 39 w' w.heap.size (fun _ => True) v0_ [⟨48, 57⟩, ⟨65, 70⟩, ⟨97, 102⟩] ∧ Below w.heap.size w w' := by
 have b0 : (a0.toList == ([97, 108, 110, 117, 109] : List UInt8)) = false := by rw [h]; decide
 have b1 : (a0.toList == ([97, 108, 112, 104, 97] : List UInt8)) = false := by rw [h]; decide
 have b2 : (a0.toList == ([108, 111, 119, 101, 114] : List UInt8)) = false := by rw [h]; decide
 have b3 : (a0.toList == ([117, 112, 112, 101, 114] : List UInt8)) = false := by rw [h]; decide
 have b4 : (a0.toList == ([120, 100, 105, 103, 105, 116] : List UInt8)) = true := by rw [h]; decide
 obtain ⟨k, hk⟩ := (joined_ends [⟨65, 70⟩, ⟨97, 102⟩, ⟨48, 57⟩] (by simp) (by decide)).get
 rw [cls_xdigit] at hk
 have K := Lib.hid hk
 have H0 := Lib.hid (held_new w)
 have B0 := Lib.hid ((Below.refl w.heap.size w).alloc (Nat.le_refl _) (.cells #[.slice none 0 0] 35))
 clear h hk
 go_enter Tryz.func212, Tryz.ntmps212
 go_wp2_with fail
 refine (putN_calls 65 70 w.heap.size w.heap.size [] (by simp) _ B0.out.size H0.out).mono ?_
 rintro e w1 ⟨rfl, h, hb⟩
 have H1 := Lib.hid (show HeldRow w1 w.heap.size w.heap.size [⟨65, 70⟩] from h)
 have B1 := Lib.hid (B0.out.trans hb)
 clear H0 B0 h hb
 go_wp2_with fail
 refine (putN_calls 97 102 w.heap.size w.heap.size [⟨65, 70⟩] (by simp) _ B1.out.size H1.out).mono ?_
 rintro e w2 ⟨rfl, h, hb⟩
 have H2 := Lib.hid (show HeldRow w2 w.heap.size w.heap.size [⟨65, 70⟩, ⟨97, 102⟩] from h)
 have B2 := Lib.hid (B1.out.trans hb)
 clear H1 B1 h hb
 go_wp2_with fail
 refine (putN_calls 48 57 w.heap.size w.heap.size [⟨65, 70⟩, ⟨97, 102⟩] (by simp) _ B2.out.size H2.out).mono ?_
 rintro e w3 ⟨rfl, h, hb⟩
 have H3 := Lib.hid (show HeldRow w3 w.heap.size w.heap.size [⟨65, 70⟩, ⟨97, 102⟩, ⟨48, 57⟩] from h)
 have B3 := Lib.hid (B2.out.trans hb)
 clear H2 B2 h hb
 obtain ⟨_, v, hbox, hown⟩ := H3.out
 have hc := hbox.cell
 have hR : Kd.R k64 39 w3 w.heap.size (fun _ => True) v [⟨65, 70⟩, ⟨97, 102⟩, ⟨48, 57⟩] := R_of_own hown (fun _ _ => trivial)
 have hj := classes_joined.calls k (fun _ => True) v _ _ w w3 B3.out hR K.out
 clear hbox hown hR
 go_wp2_with fail
 refine hj.mono ?_
 rintro e wj ⟨vj, rfl, hR, hb, _⟩
 clear hj hc
 go_wp2
 go_ret2
 exact ⟨_, rfl, Kd.R_mono hR (fun _ _ => trivial), hb⟩
set_option maxHeartbeats 2000000 in
set_option maxRecDepth 100000 in
theorem named_digit (a0 : ByteArray) (w : World) (h : a0.toList = ([100, 105, 103, 105, 116] : List UInt8)) :
  Calls Tryz.prog 212 #[.string a0] w fun e w' => ∃ v0_ : Value, e = .returned (.tuple #[v0_, .bool true]) ∧ Kd.R k64 39 w' w.heap.size (fun _ => True) v0_ [⟨48, 57⟩] ∧ Below w.heap.size w w' := by
 have b0 : (a0.toList == ([97, 108, 110, 117, 109] : List UInt8)) = false := by rw [h]; decide
 have b1 : (a0.toList == ([97, 108, 112, 104, 97] : List UInt8)) = false := by rw [h]; decide
 have b2 : (a0.toList == ([108, 111, 119, 101, 114] : List UInt8)) = false := by rw [h]; decide
 have b3 : (a0.toList == ([117, 112, 112, 101, 114] : List UInt8)) = false := by rw [h]; decide
 have b4 : (a0.toList == ([120, 100, 105, 103, 105, 116] : List UInt8)) = false := by rw [h]; decide
 have b5 : (a0.toList == ([100, 105, 103, 105, 116] : List UInt8)) = true := by rw [h]; decide
 obtain ⟨k, hk⟩ := (joined_ends [⟨48, 57⟩] (by simp) (by decide)).get
 rw [cls_digit] at hk
 have K := Lib.hid hk
 have H0 := Lib.hid (held_new w)
 have B0 := Lib.hid ((Below.refl w.heap.size w).alloc (Nat.le_refl _) (.cells #[.slice none 0 0] 35))
 clear h hk
 go_enter Tryz.func212, Tryz.ntmps212
 go_wp2_with fail
 refine (putN_calls 48 57 w.heap.size w.heap.size [] (by simp) _ B0.out.size H0.out).mono ?_
 rintro e w1 ⟨rfl, h, hb⟩
 have H1 := Lib.hid (show HeldRow w1 w.heap.size w.heap.size [⟨48, 57⟩] from h)
 have B1 := Lib.hid (B0.out.trans hb)
 clear H0 B0 h hb
 obtain ⟨_, v, hbox, hown⟩ := H1.out
 have hc := hbox.cell
 have hR : Kd.R k64 39 w1 w.heap.size (fun _ => True) v [⟨48, 57⟩] := R_of_own hown (fun _ _ => trivial)
 have hj := classes_joined.calls k (fun _ => True) v _ _ w w1 B1.out hR K.out
 clear hbox hown hR
 go_wp2_with fail
 refine hj.mono ?_
 rintro e wj ⟨vj, rfl, hR, hb, _⟩
 clear hj hc
 go_wp2
 go_ret2
 exact ⟨_, rfl, Kd.R_mono hR (fun _ _ => trivial), hb⟩
set_option maxHeartbeats 2000000 in
set_option maxRecDepth 100000 in
theorem named_space (a0 : ByteArray) (w : World) (h : a0.toList = ([115, 112, 97, 99, 101] : List UInt8)) :
  Calls Tryz.prog 212 #[.string a0] w fun e w' => ∃ v0_ : Value, e = .returned (.tuple #[v0_, .bool true]) ∧ Kd.R k64 39 w' w.heap.size (fun _ => True) v0_ [⟨9, 13⟩, ⟨32, 32⟩] ∧ Below w.heap.size w w' := by
 have b0 : (a0.toList == ([97, 108, 110, 117, 109] : List UInt8)) = false := by rw [h]; decide
 have b1 : (a0.toList == ([97, 108, 112, 104, 97] : List UInt8)) = false := by rw [h]; decide
 have b2 : (a0.toList == ([108, 111, 119, 101, 114] : List UInt8)) = false := by rw [h]; decide
 have b3 : (a0.toList == ([117, 112, 112, 101, 114] : List UInt8)) = false := by rw [h]; decide
 have b4 : (a0.toList == ([120, 100, 105, 103, 105, 116] : List UInt8)) = false := by rw [h]; decide
 have b5 : (a0.toList == ([100, 105, 103, 105, 116] : List UInt8)) = false := by rw [h]; decide
 have b6 : (a0.toList == ([115, 112, 97, 99, 101] : List UInt8)) = true := by rw [h]; decide
 obtain ⟨k, hk⟩ := (joined_ends [⟨9, 13⟩, ⟨32, 32⟩] (by simp) (by decide)).get
 rw [cls_space] at hk
 have K := Lib.hid hk
 have H0 := Lib.hid (held_new w)
 have B0 := Lib.hid ((Below.refl w.heap.size w).alloc (Nat.le_refl _) (.cells #[.slice none 0 0] 35))
 clear h hk
 go_enter Tryz.func212, Tryz.ntmps212
 go_wp2_with fail
 refine (putN_calls 9 13 w.heap.size w.heap.size [] (by simp) _ B0.out.size H0.out).mono ?_
 rintro e w1 ⟨rfl, h, hb⟩
 have H1 := Lib.hid (show HeldRow w1 w.heap.size w.heap.size [⟨9, 13⟩] from h)
 have B1 := Lib.hid (B0.out.trans hb)
 clear H0 B0 h hb
 go_wp2_with fail
 refine (putN_calls 32 32 w.heap.size w.heap.size [⟨9, 13⟩] (by simp) _ B1.out.size H1.out).mono ?_
 rintro e w2 ⟨rfl, h, hb⟩
 have H2 := Lib.hid (show HeldRow w2 w.heap.size w.heap.size [⟨9, 13⟩, ⟨32, 32⟩] from h)
 have B2 := Lib.hid (B1.out.trans hb)
 clear H1 B1 h hb
 obtain ⟨_, v, hbox, hown⟩ := H2.out
 have hc := hbox.cell
 have hR : Kd.R k64 39 w2 w.heap.size (fun _ => True) v [⟨9, 13⟩, ⟨32, 32⟩] := R_of_own hown (fun _ _ => trivial)
 have hj := classes_joined.calls k (fun _ => True) v _ _ w w2 B2.out hR K.out
 clear hbox hown hR
 go_wp2_with fail
 refine hj.mono ?_
 rintro e wj ⟨vj, rfl, hR, hb, _⟩
 clear hj hc
 go_wp2
 go_ret2
 exact ⟨_, rfl, Kd.R_mono hR (fun _ _ => trivial), hb⟩
set_option maxHeartbeats 2000000 in
set_option maxRecDepth 100000 in
theorem named_blank (a0 : ByteArray) (w : World) (h : a0.toList = ([98, 108, 97, 110, 107] : List UInt8)) :
  Calls Tryz.prog 212 #[.string a0] w fun e w' => ∃ v0_ : Value, e = .returned (.tuple #[v0_, .bool true]) ∧ Kd.R k64 39 w' w.heap.size (fun _ => True) v0_ [⟨9, 9⟩, ⟨32, 32⟩] ∧ Below w.heap.size w w' := by
 have b0 : (a0.toList == ([97, 108, 110, 117, 109] : List UInt8)) = false := by rw [h]; decide
 have b1 : (a0.toList == ([97, 108, 112, 104, 97] : List UInt8)) = false := by rw [h]; decide
 have b2 : (a0.toList == ([108, 111, 119, 101, 114] : List UInt8)) = false := by rw [h]; decide
 have b3 : (a0.toList == ([117, 112, 112, 101, 114] : List UInt8)) = false := by rw [h]; decide
 have b4 : (a0.toList == ([120, 100, 105, 103, 105, 116] : List UInt8)) = false := by rw [h]; decide
 have b5 : (a0.toList == ([100, 105, 103, 105, 116] : List UInt8)) = false := by rw [h]; decide
 have b6 : (a0.toList == ([115, 112, 97, 99, 101] : List UInt8)) = false := by rw [h]; decide
 have b7 : (a0.toList == ([98, 108, 97, 110, 107] : List UInt8)) = true := by rw [h]; decide
 obtain ⟨k, hk⟩ := (joined_ends [⟨9, 9⟩, ⟨32, 32⟩] (by simp) (by decide)).get
 rw [cls_blank] at hk
 have K := Lib.hid hk
 have H0 := Lib.hid (held_new w)
 have B0 := Lib.hid ((Below.refl w.heap.size w).alloc (Nat.le_refl _) (.cells #[.slice none 0 0] 35))
 clear h hk
 go_enter Tryz.func212, Tryz.ntmps212
 go_wp2_with fail
 refine (putN_calls 9 9 w.heap.size w.heap.size [] (by simp) _ B0.out.size H0.out).mono ?_
 rintro e w1 ⟨rfl, h, hb⟩
 have H1 := Lib.hid (show HeldRow w1 w.heap.size w.heap.size [⟨9, 9⟩] from h)
 have B1 := Lib.hid (B0.out.trans hb)
 clear H0 B0 h hb
 go_wp2_with fail
 refine (putN_calls 32 32 w.heap.size w.heap.size [⟨9, 9⟩] (by simp) _ B1.out.size H1.out).mono ?_
 rintro e w2 ⟨rfl, h, hb⟩
 have H2 := Lib.hid (show HeldRow w2 w.heap.size w.heap.size [⟨9, 9⟩, ⟨32, 32⟩] from h)
 have B2 := Lib.hid (B1.out.trans hb)
 clear H1 B1 h hb
 obtain ⟨_, v, hbox, hown⟩ := H2.out
 have hc := hbox.cell
 have hR : Kd.R k64 39 w2 w.heap.size (fun _ => True) v [⟨9, 9⟩, ⟨32, 32⟩] := R_of_own hown (fun _ _ => trivial)
 have hj := classes_joined.calls k (fun _ => True) v _ _ w w2 B2.out hR K.out
 clear hbox hown hR
 go_wp2_with fail
 refine hj.mono ?_
 rintro e wj ⟨vj, rfl, hR, hb, _⟩
 clear hj hc
 go_wp2
 go_ret2
 exact ⟨_, rfl, Kd.R_mono hR (fun _ _ => trivial), hb⟩
set_option maxHeartbeats 2000000 in
set_option maxRecDepth 100000 in
theorem named_cntrl (a0 : ByteArray) (w : World) (h : a0.toList = ([99, 110, 116, 114, 108] : List UInt8)) :
  Calls Tryz.prog 212 #[.string a0] w fun e w' => ∃ v0_ : Value, e = .returned (.tuple #[v0_, .bool true]) ∧ Kd.R k64 39 w' w.heap.size (fun _ => True) v0_ [⟨0, 31⟩, ⟨127, 127⟩] ∧ Below w.heap.size w w' := by
 have b0 : (a0.toList == ([97, 108, 110, 117, 109] : List UInt8)) = false := by rw [h]; decide
 have b1 : (a0.toList == ([97, 108, 112, 104, 97] : List UInt8)) = false := by rw [h]; decide
 have b2 : (a0.toList == ([108, 111, 119, 101, 114] : List UInt8)) = false := by rw [h]; decide
 have b3 : (a0.toList == ([117, 112, 112, 101, 114] : List UInt8)) = false := by rw [h]; decide
 have b4 : (a0.toList == ([120, 100, 105, 103, 105, 116] : List UInt8)) = false := by rw [h]; decide
 have b5 : (a0.toList == ([100, 105, 103, 105, 116] : List UInt8)) = false := by rw [h]; decide
 have b6 : (a0.toList == ([115, 112, 97, 99, 101] : List UInt8)) = false := by rw [h]; decide
 have b7 : (a0.toList == ([98, 108, 97, 110, 107] : List UInt8)) = false := by rw [h]; decide
 have b8 : (a0.toList == ([99, 110, 116, 114, 108] : List UInt8)) = true := by rw [h]; decide
 obtain ⟨k, hk⟩ := (joined_ends [⟨0, 31⟩, ⟨127, 127⟩] (by simp) (by decide)).get
 rw [cls_cntrl] at hk
 have K := Lib.hid hk
 have H0 := Lib.hid (held_new w)
 have B0 := Lib.hid ((Below.refl w.heap.size w).alloc (Nat.le_refl _) (.cells #[.slice none 0 0] 35))
 clear h hk
 go_enter Tryz.func212, Tryz.ntmps212
 go_wp2_with fail
 refine (putN_calls 0 31 w.heap.size w.heap.size [] (by simp) _ B0.out.size H0.out).mono ?_
 rintro e w1 ⟨rfl, h, hb⟩
 have H1 := Lib.hid (show HeldRow w1 w.heap.size w.heap.size [⟨0, 31⟩] from h)
 have B1 := Lib.hid (B0.out.trans hb)
 clear H0 B0 h hb
 go_wp2_with fail
 refine (putN_calls 127 127 w.heap.size w.heap.size [⟨0, 31⟩] (by simp) _ B1.out.size H1.out).mono ?_
 rintro e w2 ⟨rfl, h, hb⟩
 have H2 := Lib.hid (show HeldRow w2 w.heap.size w.heap.size [⟨0, 31⟩, ⟨127, 127⟩] from h)
 have B2 := Lib.hid (B1.out.trans hb)
 clear H1 B1 h hb
 obtain ⟨_, v, hbox, hown⟩ := H2.out
 have hc := hbox.cell
 have hR : Kd.R k64 39 w2 w.heap.size (fun _ => True) v [⟨0, 31⟩, ⟨127, 127⟩] := R_of_own hown (fun _ _ => trivial)
 have hj := classes_joined.calls k (fun _ => True) v _ _ w w2 B2.out hR K.out
 clear hbox hown hR
 go_wp2_with fail
 refine hj.mono ?_
 rintro e wj ⟨vj, rfl, hR, hb, _⟩
 clear hj hc
 go_wp2
 go_ret2
 exact ⟨_, rfl, Kd.R_mono hR (fun _ _ => trivial), hb⟩
set_option maxHeartbeats 2000000 in
set_option maxRecDepth 100000 in
theorem named_print (a0 : ByteArray) (w : World) (h : a0.toList = ([112, 114, 105, 110, 116] : List UInt8)) :
  Calls Tryz.prog 212 #[.string a0] w fun e w' => ∃ v0_ : Value, e = .returned (.tuple #[v0_, .bool true]) ∧ Kd.R k64 39 w' w.heap.size (fun _ => True) v0_ [⟨32, 126⟩] ∧ Below w.heap.size w w' := by
 have b0 : (a0.toList == ([97, 108, 110, 117, 109] : List UInt8)) = false := by rw [h]; decide
 have b1 : (a0.toList == ([97, 108, 112, 104, 97] : List UInt8)) = false := by rw [h]; decide
 have b2 : (a0.toList == ([108, 111, 119, 101, 114] : List UInt8)) = false := by rw [h]; decide
 have b3 : (a0.toList == ([117, 112, 112, 101, 114] : List UInt8)) = false := by rw [h]; decide
 have b4 : (a0.toList == ([120, 100, 105, 103, 105, 116] : List UInt8)) = false := by rw [h]; decide
 have b5 : (a0.toList == ([100, 105, 103, 105, 116] : List UInt8)) = false := by rw [h]; decide
 have b6 : (a0.toList == ([115, 112, 97, 99, 101] : List UInt8)) = false := by rw [h]; decide
 have b7 : (a0.toList == ([98, 108, 97, 110, 107] : List UInt8)) = false := by rw [h]; decide
 have b8 : (a0.toList == ([99, 110, 116, 114, 108] : List UInt8)) = false := by rw [h]; decide
 have b9 : (a0.toList == ([112, 114, 105, 110, 116] : List UInt8)) = true := by rw [h]; decide
 obtain ⟨k, hk⟩ := (joined_ends [⟨32, 32⟩, ⟨33, 126⟩] (by simp) (by decide)).get
 rw [cls_print] at hk
 have K := Lib.hid hk
 have H0 := Lib.hid (held_new w)
 have B0 := Lib.hid ((Below.refl w.heap.size w).alloc (Nat.le_refl _) (.cells #[.slice none 0 0] 35))
 clear h hk
 go_enter Tryz.func212, Tryz.ntmps212
 go_wp2_with fail
 refine (putN_calls 32 32 w.heap.size w.heap.size [] (by simp) _ B0.out.size H0.out).mono ?_
 rintro e w1 ⟨rfl, h, hb⟩
 have H1 := Lib.hid (show HeldRow w1 w.heap.size w.heap.size [⟨32, 32⟩] from h)
 have B1 := Lib.hid (B0.out.trans hb)
 clear H0 B0 h hb
 go_wp2_with fail
 refine (putN_calls 33 126 w.heap.size w.heap.size [⟨32, 32⟩] (by simp) _ B1.out.size H1.out).mono ?_
 rintro e w2 ⟨rfl, h, hb⟩
 have H2 := Lib.hid (show HeldRow w2 w.heap.size w.heap.size [⟨32, 32⟩, ⟨33, 126⟩] from h)
 have B2 := Lib.hid (B1.out.trans hb)
 clear H1 B1 h hb
 obtain ⟨_, v, hbox, hown⟩ := H2.out
 have hc := hbox.cell
 have hR : Kd.R k64 39 w2 w.heap.size (fun _ => True) v [⟨32, 32⟩, ⟨33, 126⟩] := R_of_own hown (fun _ _ => trivial)
 have hj := classes_joined.calls k (fun _ => True) v _ _ w w2 B2.out hR K.out
 clear hbox hown hR
 go_wp2_with fail
 refine hj.mono ?_
 rintro e wj ⟨vj, rfl, hR, hb, _⟩
 clear hj hc
 go_wp2
 go_ret2
 exact ⟨_, rfl, Kd.R_mono hR (fun _ _ => trivial), hb⟩
set_option maxHeartbeats 2000000 in
set_option maxRecDepth 100000 in
theorem named_graph (a0 : ByteArray) (w : World) (h : a0.toList = ([103, 114, 97, 112, 104] : List UInt8)) :
  Calls Tryz.prog 212 #[.string a0] w fun e w' => ∃ v0_ : Value, e = .returned (.tuple #[v0_, .bool true]) ∧ Kd.R k64 39 w' w.heap.size (fun _ => True) v0_ [⟨33, 126⟩] ∧ Below w.heap.size w w' := by
 have b0 : (a0.toList == ([97, 108, 110, 117, 109] : List UInt8)) = false := by rw [h]; decide
 have b1 : (a0.toList == ([97, 108, 112, 104, 97] : List UInt8)) = false := by rw [h]; decide
 have b2 : (a0.toList == ([108, 111, 119, 101, 114] : List UInt8)) = false := by rw [h]; decide
 have b3 : (a0.toList == ([117, 112, 112, 101, 114] : List UInt8)) = false := by rw [h]; decide
 have b4 : (a0.toList == ([120, 100, 105, 103, 105, 116] : List UInt8)) = false := by rw [h]; decide
 have b5 : (a0.toList == ([100, 105, 103, 105, 116] : List UInt8)) = false := by rw [h]; decide
 have b6 : (a0.toList == ([115, 112, 97, 99, 101] : List UInt8)) = false := by rw [h]; decide
 have b7 : (a0.toList == ([98, 108, 97, 110, 107] : List UInt8)) = false := by rw [h]; decide
 have b8 : (a0.toList == ([99, 110, 116, 114, 108] : List UInt8)) = false := by rw [h]; decide
 have b9 : (a0.toList == ([112, 114, 105, 110, 116] : List UInt8)) = false := by rw [h]; decide
 have b10 : (a0.toList == ([103, 114, 97, 112, 104] : List UInt8)) = true := by rw [h]; decide
 obtain ⟨k, hk⟩ := (joined_ends [⟨33, 126⟩] (by simp) (by decide)).get
 rw [cls_graph] at hk
 have K := Lib.hid hk
 have H0 := Lib.hid (held_new w)
 have B0 := Lib.hid ((Below.refl w.heap.size w).alloc (Nat.le_refl _) (.cells #[.slice none 0 0] 35))
 clear h hk
 go_enter Tryz.func212, Tryz.ntmps212
 go_wp2_with fail
 refine (putN_calls 33 126 w.heap.size w.heap.size [] (by simp) _ B0.out.size H0.out).mono ?_
 rintro e w1 ⟨rfl, h, hb⟩
 have H1 := Lib.hid (show HeldRow w1 w.heap.size w.heap.size [⟨33, 126⟩] from h)
 have B1 := Lib.hid (B0.out.trans hb)
 clear H0 B0 h hb
 obtain ⟨_, v, hbox, hown⟩ := H1.out
 have hc := hbox.cell
 have hR : Kd.R k64 39 w1 w.heap.size (fun _ => True) v [⟨33, 126⟩] := R_of_own hown (fun _ _ => trivial)
 have hj := classes_joined.calls k (fun _ => True) v _ _ w w1 B1.out hR K.out
 clear hbox hown hR
 go_wp2_with fail
 refine hj.mono ?_
 rintro e wj ⟨vj, rfl, hR, hb, _⟩
 clear hj hc
 go_wp2
 go_ret2
 exact ⟨_, rfl, Kd.R_mono hR (fun _ _ => trivial), hb⟩
set_option maxHeartbeats 2000000 in
set_option maxRecDepth 100000 in
theorem named_punct (a0 : ByteArray) (w : World) (h : a0.toList = ([112, 117, 110, 99, 116] : List UInt8)) :
  Calls Tryz.prog 212 #[.string a0] w fun e w' => ∃ v0_ : Value, e = .returned (.tuple #[v0_, .bool true]) ∧ Kd.R k64 39 w' w.heap.size (fun _ => True) v0_ [⟨33, 47⟩, ⟨58, 64⟩, ⟨91, 96⟩, ⟨123, 126⟩] ∧ Below w.heap.size w w' := by
 have b0 : (a0.toList == ([97, 108, 110, 117, 109] : List UInt8)) = false := by rw [h]; decide
 have b1 : (a0.toList == ([97, 108, 112, 104, 97] : List UInt8)) = false := by rw [h]; decide
 have b2 : (a0.toList == ([108, 111, 119, 101, 114] : List UInt8)) = false := by rw [h]; decide
 have b3 : (a0.toList == ([117, 112, 112, 101, 114] : List UInt8)) = false := by rw [h]; decide
 have b4 : (a0.toList == ([120, 100, 105, 103, 105, 116] : List UInt8)) = false := by rw [h]; decide
 have b5 : (a0.toList == ([100, 105, 103, 105, 116] : List UInt8)) = false := by rw [h]; decide
 have b6 : (a0.toList == ([115, 112, 97, 99, 101] : List UInt8)) = false := by rw [h]; decide
 have b7 : (a0.toList == ([98, 108, 97, 110, 107] : List UInt8)) = false := by rw [h]; decide
 have b8 : (a0.toList == ([99, 110, 116, 114, 108] : List UInt8)) = false := by rw [h]; decide
 have b9 : (a0.toList == ([112, 114, 105, 110, 116] : List UInt8)) = false := by rw [h]; decide
 have b10 : (a0.toList == ([103, 114, 97, 112, 104] : List UInt8)) = false := by rw [h]; decide
 have b11 : (a0.toList == ([112, 117, 110, 99, 116] : List UInt8)) = true := by rw [h]; decide
 obtain ⟨k, hk⟩ := (joined_ends [⟨33, 47⟩, ⟨58, 64⟩, ⟨91, 96⟩, ⟨123, 126⟩] (by simp) (by decide)).get
 rw [cls_punct] at hk
 have K := Lib.hid hk
 have H0 := Lib.hid (held_new w)
 have B0 := Lib.hid ((Below.refl w.heap.size w).alloc (Nat.le_refl _) (.cells #[.slice none 0 0] 35))
 clear h hk
 go_enter Tryz.func212, Tryz.ntmps212
 go_wp2_with fail
 refine (putN_calls 33 47 w.heap.size w.heap.size [] (by simp) _ B0.out.size H0.out).mono ?_
 rintro e w1 ⟨rfl, h, hb⟩
 have H1 := Lib.hid (show HeldRow w1 w.heap.size w.heap.size [⟨33, 47⟩] from h)
 have B1 := Lib.hid (B0.out.trans hb)
 clear H0 B0 h hb
 go_wp2_with fail
 refine (putN_calls 58 64 w.heap.size w.heap.size [⟨33, 47⟩] (by simp) _ B1.out.size H1.out).mono ?_
 rintro e w2 ⟨rfl, h, hb⟩
 have H2 := Lib.hid (show HeldRow w2 w.heap.size w.heap.size [⟨33, 47⟩, ⟨58, 64⟩] from h)
 have B2 := Lib.hid (B1.out.trans hb)
 clear H1 B1 h hb
 go_wp2_with fail
 refine (putN_calls 91 96 w.heap.size w.heap.size [⟨33, 47⟩, ⟨58, 64⟩] (by simp) _ B2.out.size H2.out).mono ?_
 rintro e w3 ⟨rfl, h, hb⟩
 have H3 := Lib.hid (show HeldRow w3 w.heap.size w.heap.size [⟨33, 47⟩, ⟨58, 64⟩, ⟨91, 96⟩] from h)
 have B3 := Lib.hid (B2.out.trans hb)
 clear H2 B2 h hb
 go_wp2_with fail
 refine (putN_calls 123 126 w.heap.size w.heap.size [⟨33, 47⟩, ⟨58, 64⟩, ⟨91, 96⟩] (by simp) _ B3.out.size H3.out).mono ?_
 rintro e w4 ⟨rfl, h, hb⟩
 have H4 := Lib.hid (show HeldRow w4 w.heap.size w.heap.size [⟨33, 47⟩, ⟨58, 64⟩, ⟨91, 96⟩, ⟨123, 126⟩] from h)
 have B4 := Lib.hid (B3.out.trans hb)
 clear H3 B3 h hb
 obtain ⟨_, v, hbox, hown⟩ := H4.out
 have hc := hbox.cell
 have hR : Kd.R k64 39 w4 w.heap.size (fun _ => True) v [⟨33, 47⟩, ⟨58, 64⟩, ⟨91, 96⟩, ⟨123, 126⟩] := R_of_own hown (fun _ _ => trivial)
 have hj := classes_joined.calls k (fun _ => True) v _ _ w w4 B4.out hR K.out
 clear hbox hown hR
 go_wp2_with fail
 refine hj.mono ?_
 rintro e wj ⟨vj, rfl, hR, hb, _⟩
 clear hj hc
 go_wp2
 go_ret2
 exact ⟨_, rfl, Kd.R_mono hR (fun _ _ => trivial), hb⟩
set_option maxHeartbeats 2000000 in
set_option maxRecDepth 100000 in
theorem named_none (a0 : ByteArray) (w : World) (b0 : (a0.toList == ([97, 108, 110, 117, 109] : List UInt8)) = false) (b1 : (a0.toList == ([97, 108, 112, 104, 97] : List UInt8)) = false) (b2 : (a0.toList == ([108, 111, 119, 101, 114] : List UInt8)) = false) (b3 : (a0.toList == ([117, 112, 112, 101, 114] : List UInt8)) = false) (b4 : (a0.toList == ([120, 100, 105, 103, 105, 116] : List UInt8)) = false) (b5 : (a0.toList == ([100, 105, 103, 105, 116] : List UInt8)) = false) (b6 : (a0.toList == ([115, 112, 97, 99, 101] : List UInt8)) = false) (b7 : (a0.toList == ([98, 108, 97, 110, 107] : List UInt8)) = false) (b8 : (a0.toList == ([99, 110, 116, 114, 108] : List UInt8)) = false) (b9 : (a0.toList == ([112, 114, 105, 110, 116] : List UInt8)) = false) (b10 : (a0.toList == ([103, 114, 97, 112, 104] : List UInt8)) = false) (b11 : (a0.toList == ([112, 117, 110, 99, 116] : List UInt8)) = false) :
  Calls Tryz.prog 212 #[.string a0] w fun e w' => ∃ v0_ : Value, e = .returned (.tuple #[v0_, .bool false]) ∧ Kd.R k64 39 w' w.heap.size (fun _ => True) v0_ [] ∧ Below w.heap.size w w' := by
 have B0 := Lib.hid ((Below.refl w.heap.size w).alloc (Nat.le_refl _) (.cells #[.slice none 0 0] 35))
 go_enter Tryz.func212, Tryz.ntmps212
 go_wp2
 go_ret2
 exact ⟨_, rfl, Kd.R_nil _ _ _ _ _, B0.out⟩
theorem classes_Named.calls (a0 : ByteArray) (r1 : List S64) (r2 : Bool) (w : World) (h : classes_Named.f a0 = some (r1, r2)) :
  Calls Tryz.prog 212 #[.string a0] w fun e w' => ∃ v0_ : Value, e = .returned (.tuple #[v0_, .bool r2]) ∧ Kd.R k64 39 w' w.heap.size (fun _ => True) v0_ r1 ∧ Below w.heap.size w w' := by
 unfold classes_Named.f at h
 rw [← Go.ByteArray.toList_eq] at h
 simp only [Option.some.injEq, Prod.mk.injEq] at h
 obtain ⟨rfl, rfl⟩ := h
 unfold Cls.named
 by_cases c0 : a0.toList = ([97, 108, 110, 117, 109] : List UInt8)
 ·rw [if_pos c0]
  exact named_alnum a0 w c0
 rw [if_neg c0]
 by_cases c1 : a0.toList = ([97, 108, 112, 104, 97] : List UInt8)
 ·rw [if_pos c1]
  exact named_alpha a0 w c1
 rw [if_neg c1]
 by_cases c2 : a0.toList = ([108, 111, 119, 101, 114] : List UInt8)
 ·rw [if_pos c2]
  exact named_lower a0 w c2
 rw [if_neg c2]
 by_cases c3 : a0.toList = ([117, 112, 112, 101, 114] : List UInt8)
 ·rw [if_pos c3]
  exact named_upper a0 w c3
 rw [if_neg c3]
 by_cases c4 : a0.toList = ([120, 100, 105, 103, 105, 116] : List UInt8)
 ·rw [if_pos c4]
  exact named_xdigit a0 w c4
 rw [if_neg c4]
 by_cases c5 : a0.toList = ([100, 105, 103, 105, 116] : List UInt8)
 ·rw [if_pos c5]
  exact named_digit a0 w c5
 rw [if_neg c5]
 by_cases c6 : a0.toList = ([115, 112, 97, 99, 101] : List UInt8)
 ·rw [if_pos c6]
  exact named_space a0 w c6
 rw [if_neg c6]
 by_cases c7 : a0.toList = ([98, 108, 97, 110, 107] : List UInt8)
 ·rw [if_pos c7]
  exact named_blank a0 w c7
 rw [if_neg c7]
 by_cases c8 : a0.toList = ([99, 110, 116, 114, 108] : List UInt8)
 ·rw [if_pos c8]
  exact named_cntrl a0 w c8
 rw [if_neg c8]
 by_cases c9 : a0.toList = ([112, 114, 105, 110, 116] : List UInt8)
 ·rw [if_pos c9]
  exact named_print a0 w c9
 rw [if_neg c9]
 by_cases c10 : a0.toList = ([103, 114, 97, 112, 104] : List UInt8)
 ·rw [if_pos c10]
  exact named_graph a0 w c10
 rw [if_neg c10]
 by_cases c11 : a0.toList = ([112, 117, 110, 99, 116] : List UInt8)
 ·rw [if_pos c11]
  exact named_punct a0 w c11
 rw [if_neg c11]
 exact named_none a0 w (beq_eq_false_iff_ne.2 c0) (beq_eq_false_iff_ne.2 c1) (beq_eq_false_iff_ne.2 c2) (beq_eq_false_iff_ne.2 c3) (beq_eq_false_iff_ne.2 c4) (beq_eq_false_iff_ne.2 c5) (beq_eq_false_iff_ne.2 c6) (beq_eq_false_iff_ne.2 c7) (beq_eq_false_iff_ne.2 c8) (beq_eq_false_iff_ne.2 c9) (beq_eq_false_iff_ne.2 c10) (beq_eq_false_iff_ne.2 c11)
end Go.Proofs.YtamhkdlcoghdbaaGreatDoor.PCls
