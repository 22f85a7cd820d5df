/- Put together (wip/tools/pack.py): QLo, QGNamed, QLnm, QLu, QLnn. -/
import Derived.Test.YtamhkdlcoghdbaaGreatDoorVMQJc
import Derived.Lib.Bytes2
import Derived.Lib.DecodeN
import Derived.Lib.RuneCount
/- Out of Lo (wip/tools/prune2.py): the declarations alone that the texts of the trees name. -/
namespace Go.Proofs.YtamhkdlcoghdbaaGreatDoor.PCls
open Go.RowKit Go.Shelf Go.Proofs.YtamhkdlcoghdbaaGreatDoorW.PrintWords Go.Proofs.YtamhkdlcoghdbaaGreatDoorW.PrintLast Go.Proofs.YtamhkdlcoghdbaaGreatDoorW.PrintMore
set_option linter.unusedVariables false
set_option linter.unusedSimpArgs false
/-- what a step of the scanner tells -/
def Steps (W w' : World) (e : Ending) (B base : Nat) (s : ByteArray) (chars fold : Bool) (r : Except Er Lx.St) : Prop := match r with
 | .error x => Bad W.heap.size w' e x.1 x.2 ∧ Below W.heap.size W w'
 | .ok y => e = .returned (.tuple #[]) ∧ (∃ V', ScSt w' B base s chars fold y V') ∧ Stp W w' B base
theorem Steps.ok {W w' : World} {e : Ending} {B base : Nat} {s : ByteArray} {chars fold : Bool} {r : Except Er Lx.St} {y : Lx.St} (h : r = .ok y) (he : e = .returned (.tuple #[])) (hx : ∃ V', ScSt w' B base s chars fold y V' ∧ Stp W w' B base) : Steps W w' e B base s chars fold r := by
 obtain ⟨V', h1, h2⟩ := hx
 rw [h]; exact ⟨he, ⟨V', h1⟩, h2⟩
theorem Steps.err {W w' : World} {e : Ending} {B base : Nat} {s : ByteArray} {chars fold : Bool} {r : Except Er Lx.St} {x : Er} (h : r = .error x) (hx : Bad W.heap.size w' e x.1 x.2) (hb : Below W.heap.size W w') : Steps W w' e B base s chars fold r := by rw [h]; exact ⟨hx, hb⟩
theorem Bad.up {A W w' : World} {e : Ending} {c p : Int} (h : Bad W.heap.size w' e c p) (hb : Below A.heap.size A W) : Bad A.heap.size w' e c p := h.mono hb.size
theorem Below.up {A W w' : World} (hb : Below A.heap.size A W) (h : Below W.heap.size W w') : Below A.heap.size A w' := hb.trans (h.mono hb.size)
theorem here_le {s : ByteArray} {p : Nat} {t : List UInt8} (h : Lx.here s p t = true) : p + t.length ≤ s.size := by
 unfold Lx.here at h
 rw [Bool.and_eq_true, decide_eq_true_eq] at h
 obtain ⟨h0, h1⟩ := h
 have h2 := Lib.hasPrefix_le h1
 have h3 : s.data.toList.length = s.size := by simp
 rw [List.length_drop, h3] at h2
 omega
theorem interval_lim {s : ByteArray} {q p : Nat} {a b : Int} {e2 : Nat} (h : Lx.interval s q p = .ok (a, b, e2)) : p < e2 ∧ e2 ≤ s.size := by
 obtain ⟨a1, ha⟩ : ∃ a1, a1 = Lx.number s (s.size + 1) p (-1) := ⟨_, rfl⟩
 obtain ⟨b1, hb⟩ : ∃ b1, b1 = (if 0 ≤ a1.1 ∧ Lx.here s a1.2 [44] = true then Lx.number s (s.size + 1) (a1.2 + 1) (-1) else (a1.1, a1.2)) := ⟨_, rfl⟩
 rw [interval_eq (q := q) (a1 := a1.1) (a2 := a1.2) (b1 := b1.1) (b2 := b1.2) ha hb.symm] at h
 have hp := (number_le s (s.size + 1) p (-1) (by omega) (by omega)).1
 rw [← ha] at hp
 have hq : p ≤ b1.2 := by
  rw [hb]
  split
  ·have := (number_le s (s.size + 1) (a1.2 + 1) (-1) (by omega) (by omega)).1
   omega
  ·exact hp
 split at h
 ·cases h
 rename_i h1
 split at h
 ·cases h
 have h3 : Lx.here s b1.2 [92, 125] = true := by
  cases hh : Lx.here s b1.2 [92, 125] with
  | true => rfl
  | false => exact absurd (.inr hh) h1
 have h4 := here_le h3
 cases h
 simp at h4
 omega
set_option maxHeartbeats 8000000 in
set_option maxRecDepth 100000 in
theorem often_calls (W : World) (B base : Nat) (s : ByteArray) (chars fold : Bool) (x : Lx.St) (V : Value) (hst : ScSt W B base s chars fold x V) (c : Nat) (hc : c < 256) (e : Nat) (he1 : x.sat < e) (he2 : e ≤ s.size) :
  Calls Tryz.prog 146 #[.pointer (some ⟨B, 0, none⟩), .int .u8 c, .int .i64 e] W fun e' w' => Steps W w' e' B base s chars fold (Lx.often s x c e) := by
 have HG := Lib.hid (begins_calls W B base s chars fold x V hst)
 have HC := Lib.hid (fun (w2 : World) (hb : Below W.heap.size W w2) => (hst.sc.below hb).c3)
 have HP := Lib.hid (fun (w : World) (hb : Below W.heap.size W w) => lput_calls W w B base s chars fold x V hst hb 2 0)
 by_cases hg : Lx.begins x = true
 ·have HX := Lib.hid (show Lx.often s x c e = .error (38, (x.sat : Int)) by unfold Lx.often; rw [if_pos hg])
  go_enter Tryz.func146, Tryz.ntmps146
  go_wp2_with fail
  refine HG.out.mono ?_
  rw [hg]
  rintro e' w2 ⟨rfl, hb⟩
  have c3 := HC.out w2 hb
  have HB := Lib.hid hb
  clear hb hst
  go_wp2_with fail
  refine (fail_calls _ _ _).mono ?_
  rintro e w3 ⟨⟨g, rfl, hg'⟩, hb⟩
  exact ⟨rfl, Steps.err HX.out (Bad.up ⟨g, rfl, hg'⟩ HB.out) (Below.up HB.out hb)⟩
 ·have hg' : Lx.begins x = false := by simpa using hg
  by_cases h43 : c = 43
  ·subst h43
   go_enter Tryz.func146, Tryz.ntmps146
   go_wp2_with fail
   refine HG.out.mono ?_
   rw [hg']
   rintro e' w2 ⟨rfl, hb⟩
   have HX := Lib.hid (show Lx.often s x 43 e = .ok (Lx.put x ⟨2, 0, 0, 0, 1, -1, []⟩ e) by unfold Lx.often; rw [if_neg hg, if_pos rfl]; rfl)
   have HB := Lib.hid (hb.alloc (Nat.le_trans hb.size (Nat.le_refl _)) (.cells #[.int .i64 2, .int .i64 0, .int .i64 0, .int .i64 0, .int .i64 1, .int .i64 (-1), .slice none 0 0] 37))
   clear hb hst hg hg'
   go_wp2_with fail
   refine (HP.out _ HB.out 1 (-1) [] _ (Row.nil _ _).1 rfl (by simp) e he1 he2).mono ?_
   rintro e' w' ⟨rfl, V', h⟩
   go_wp2_with fail
   go_end0
   exact Steps.ok HX.out rfl ⟨V', h⟩
  by_cases h63 : c = 63
  ·subst h63
   go_enter Tryz.func146, Tryz.ntmps146
   go_wp2_with fail
   refine HG.out.mono ?_
   rw [hg']
   rintro e' w2 ⟨rfl, hb⟩
   have HX := Lib.hid (show Lx.often s x 63 e = .ok (Lx.put x ⟨2, 0, 0, 0, 0, 1, []⟩ e) by unfold Lx.often; rw [if_neg hg, if_neg h43, if_pos rfl]; rfl)
   have HB := Lib.hid (hb.alloc (Nat.le_trans hb.size (Nat.le_refl _)) (.cells #[.int .i64 2, .int .i64 0, .int .i64 0, .int .i64 0, .int .i64 0, .int .i64 1, .slice none 0 0] 37))
   clear hb hst hg hg' h43
   go_wp2_with fail
   refine (HP.out _ HB.out 0 1 [] _ (Row.nil _ _).1 rfl (by simp) e he1 he2).mono ?_
   rintro e' w' ⟨rfl, V', h⟩
   go_wp2_with fail
   go_end0
   exact Steps.ok HX.out rfl ⟨V', h⟩
  have b43 : ((c : Int) == 43) = false := by rw [beq_eq_false_iff_ne]; omega
  have b63 : ((c : Int) == 63) = false := by rw [beq_eq_false_iff_ne]; omega
  have HE : Hid (Lx.often s x c e = match Lx.interval s x.sat e with
   | .error e => .error e
   | .ok (a, b, e2) => .ok (Lx.put x { Lx.tok 2 with lo := a, hi := b } e2)) := Lib.hid (by unfold Lx.often; rw [if_neg hg, if_neg h43, if_neg h63]; rfl)
  have hle : e ≤ 4000 := by have := hst.ss; omega
  have hss := hst.ss
  have HI := Lib.hid (fun (w : World) (hb : Below W.heap.size W w) => interval_calls w B e x.sat s chars fold V (hst.sc.below hb) hss hle)
  have HL := Lib.hid (fun a b e2 h => interval_lim (s := s) (q := x.sat) (p := e) (a := a) (b := b) (e2 := e2) h)
  clear h43 h63
  go_enter Tryz.func146, Tryz.ntmps146
  go_wp2_with fail
  refine HG.out.mono ?_
  rw [hg']
  rintro e' w2 ⟨rfl, hb⟩
  have HB := Lib.hid (hb.alloc (Nat.le_trans hb.size (Nat.le_refl _)) (.cells #[.int .i64 2, .int .i64 0, .int .i64 0, .int .i64 0, .int .i64 0, .int .i64 0, .slice none 0 0] 37))
  have HB2 := Lib.hid hb
  clear hb hst hg hg'
  go_wp2_with fail
  refine (HI.out _ HB.out).mono ?_
  rintro e' w3 ⟨hb3, ht⟩
  cases hI : Lx.interval s x.sat e with
  | error y =>
   rw [hI] at ht
   have HX := Lib.hid (show Lx.often s x c e = .error y by rw [HE.out, hI])
   obtain ⟨g, rfl, hg⟩ := ht
   exact ⟨rfl, Steps.err HX.out (Bad.up ⟨g, rfl, hg⟩ HB.out) (Below.up HB.out hb3)⟩
  | ok y =>
   rw [hI] at ht
   obtain ⟨a, b, e2⟩ := y
   obtain ⟨rfl, rfl⟩ := ht
   have HX := Lib.hid (show Lx.often s x c e = .ok (Lx.put x ⟨2, 0, 0, 0, a, b, []⟩ e2) by rw [HE.out, hI]; rfl)
   have hlim := HL.out a b e2 hI
   have HB3 := Lib.hid (HB2.out.alloc (Nat.le_trans HB2.out.size (Nat.le_refl _)) (.cells #[.int .i64 2, .int .i64 0, .int .i64 0, .int .i64 0, .int .i64 a, .int .i64 b, .slice none 0 0] 37))
   clear hb3 HE HI HL hI
   go_wp2_with fail
   refine (HP.out _ HB3.out a b [] _ (Row.nil _ _).1 rfl (by simp) e2 (by omega) (by omega)).mono ?_
   rintro e' w' ⟨rfl, V', h⟩
   go_wp2_with fail
   go_end0
   exact Steps.ok HX.out rfl ⟨V', h⟩
end Go.Proofs.YtamhkdlcoghdbaaGreatDoor.PCls
/- Out of GNamed (wip/tools/prune2.py): the declarations alone that the texts of the trees name. -/
namespace Go.Proofs.YtamhkdlcoghdbaaGreatDoor.PCls
open Go.RowKit Go.Proofs.YtamhkdlcoghdbaaGreatDoorW.PrintWords Go.Proofs.YtamhkdlcoghdbaaGreatDoorW.PrintLast Go.Proofs.YtamhkdlcoghdbaaGreatDoorW.PrintMore
set_option linter.unusedVariables false
set_option linter.unusedSimpArgs false
/-- a variable of the function that a closure holds: its block, and the row in it -/
def HeldRow (w : World) (base B : Nat) (l : List S64) : Prop := base ≤ B ∧ ∃ v, Boxed w B 35 v ∧ w.ownsRow base 39 2 v l.length (rowOf l)
theorem rowOf_snocN (l : List S64) (x : S64) : rowOf (l ++ [x]) = rowOf l ++ [.int .i64 x.f0, .int .i64 x.f1] := by simp [rowOf, enc2]
set_option maxHeartbeats 2000000 in
set_option maxRecDepth 100000 in
theorem putN_calls (lo hi : Int) (base B : Nat) (l : List S64) (hl : l.length < 1000) (w : World) (hbw : base ≤ w.heap.size) (h : HeldRow w base B l) :
  Calls Tryz.prog 233 #[.int .i64 lo, .int .i64 hi, .pointer (some ⟨B, 0, none⟩)] w fun e w' => e = .returned (.tuple #[]) ∧ HeldRow w' base B (l ++ [⟨lo, hi⟩]) ∧ Below base w w' := by
 obtain ⟨i0, hi0, hz0, hz1, hz2⟩ := info64'
 obtain ⟨hbB, v, hbox, hown⟩ := h
 have hc := hbox.cell
 have O := Lib.hid hown
 have N := Lib.hid hbox
 have hL := Lib.hid hl
 have hW := Lib.hid hbw
 clear hown hbox hl hbw
 go_enter Tryz.func233, Tryz.ntmps233
 go_wp2_with (at_builtin; refine wpList_append_own _ rfl _ _ 35 rfl base 39 i0 _ 2 16 Tryz.underlying35 hi0 hz0 hz1 hz2 rfl (by decide) _ _ _ rfl (O.out.alloc _) ⟨w.heap.size, 0, none⟩ 1 1 [.int .i64 lo, .int .i64 hi] rfl rfl ?q1 ?q2 ?q3 ?q4 ?q5 ?_)
 case q1 =>
  intro j u hj
  match j, hj with
  | 0, hj => simp at hj; subst hj; exact cell_of_row _ w.heap.size 0 _ 39 (0, 0) (heap_alloc_new w _)
  | 1, hj => simp at hj; subst hj; exact cell_of_row _ w.heap.size 1 _ 39 (0, 0) (heap_alloc_new w _)
  | j + 2, hj => simp at hj
 case q2 => intro u hu; simp at hu; rcases hu with rfl | rfl <;> rfl
 case q3 => have := hL.out; unfold maxLen; omega
 case q4 => have := hL.out; omega
 case q5 => have := hW.out; simp; omega
 intro v' w1 hown hgrow hnil
 obtain ⟨h1, h2, h3, h4, h5⟩ := N.out.appended (by decide) O.out hW.out hbB hown hgrow
 have hc1 := h1.cell
 have hf1 := h1.frozen
 obtain ⟨g, cap, rfl⟩ := ownsRow_succ hown
 have K2 := Lib.hid h2
 have K3 := Lib.hid h3
 have K5 := Lib.hid h5
 clear hown hgrow hnil h1 h2 h3 h4 h5
 go_wp2
 go_end0
 exact ⟨rfl, ⟨hbB, _, K2.out, by rw [rowOf_snocN, List.length_append]; exact K3.out⟩, K5.out⟩
end Go.Proofs.YtamhkdlcoghdbaaGreatDoor.PCls
namespace Go.Proofs.YtamhkdlcoghdbaaGreatDoor.PCls
open Go.RowKit Go.Proofs.YtamhkdlcoghdbaaGreatDoorW.PrintWords Go.Proofs.YtamhkdlcoghdbaaGreatDoorW.PrintLast Go.Proofs.YtamhkdlcoghdbaaGreatDoorW.PrintMore
set_option linter.unusedVariables false
set_option linter.unusedSimpArgs false
theorem held_new (w : World) : HeldRow (w.alloc (.cells #[.slice none 0 0] 35)) w.heap.size w.heap.size [] := ⟨Nat.le_refl _, _, Boxed.new w 35 _, World.ownsRow_nil _ _ _ _⟩
theorem cls_alnum : Cls.cls [⟨48, 57⟩, ⟨65, 90⟩, ⟨97, 122⟩] = [⟨48, 57⟩, ⟨65, 90⟩, ⟨97, 122⟩] := (Cls.cls_unique (by simp [Cls.Can]) fun c => by simp [Cls.Mem] <;> omega).symm
theorem cls_alpha : Cls.cls [⟨65, 90⟩, ⟨97, 122⟩] = [⟨65, 90⟩, ⟨97, 122⟩] := (Cls.cls_unique (by simp [Cls.Can]) fun c => by simp [Cls.Mem] <;> omega).symm
theorem cls_lower : Cls.cls [⟨97, 122⟩] = [⟨97, 122⟩] := (Cls.cls_unique (by simp [Cls.Can]) fun c => by simp [Cls.Mem] <;> omega).symm
theorem cls_upper : Cls.cls [⟨65, 90⟩] = [⟨65, 90⟩] := (Cls.cls_unique (by simp [Cls.Can]) fun c => by simp [Cls.Mem] <;> omega).symm
theorem cls_xdigit : Cls.cls [⟨65, 70⟩, ⟨97, 102⟩, ⟨48, 57⟩] = [⟨48, 57⟩, ⟨65, 70⟩, ⟨97, 102⟩] := (Cls.cls_unique (by simp [Cls.Can]) fun c => by simp [Cls.Mem] <;> omega).symm
theorem cls_digit : Cls.cls [⟨48, 57⟩] = [⟨48, 57⟩] := (Cls.cls_unique (by simp [Cls.Can]) fun c => by simp [Cls.Mem] <;> omega).symm
theorem cls_space : Cls.cls [⟨9, 13⟩, ⟨32, 32⟩] = [⟨9, 13⟩, ⟨32, 32⟩] := (Cls.cls_unique (by simp [Cls.Can]) fun c => by simp [Cls.Mem] <;> omega).symm
theorem cls_blank : Cls.cls [⟨9, 9⟩, ⟨32, 32⟩] = [⟨9, 9⟩, ⟨32, 32⟩] := (Cls.cls_unique (by simp [Cls.Can]) fun c => by simp [Cls.Mem] <;> omega).symm
theorem cls_cntrl : Cls.cls [⟨0, 31⟩, ⟨127, 127⟩] = [⟨0, 31⟩, ⟨127, 127⟩] := (Cls.cls_unique (by simp [Cls.Can]) fun c => by simp [Cls.Mem] <;> omega).symm
theorem cls_print : Cls.cls [⟨32, 32⟩, ⟨33, 126⟩] = [⟨32, 126⟩] := (Cls.cls_unique (by simp [Cls.Can]) fun c => by simp [Cls.Mem] <;> omega).symm
theorem cls_graph : Cls.cls [⟨33, 126⟩] = [⟨33, 126⟩] := (Cls.cls_unique (by simp [Cls.Can]) fun c => by simp [Cls.Mem] <;> omega).symm
theorem cls_punct : Cls.cls [⟨33, 47⟩, ⟨58, 64⟩, ⟨91, 96⟩, ⟨123, 126⟩] = [⟨33, 47⟩, ⟨58, 64⟩, ⟨91, 96⟩, ⟨123, 126⟩] := (Cls.cls_unique (by simp [Cls.Can]) fun c => by simp [Cls.Mem] <;> omega).symm
/-- the ranges so far -/
def NmS (n : Nat) (w0 w : World) (l : List S64) : Prop := HeldRow w w0.heap.size w0.heap.size l ∧ Below w0.heap.size w0 w ∧ l.length ≤ n
theorem NmS.put {n : Nat} {w0 w : World} {l : List S64} {lo hi : Int} (hn : n < 900) (h : NmS n w0 w l) : Calls Tryz.prog 233 #[.int .i64 lo, .int .i64 hi, .pointer (some ⟨w0.heap.size, 0, none⟩)] w fun e w' => e = .returned (.tuple #[]) ∧ NmS (n + 1) w0 w' (l ++ [⟨lo, hi⟩]) := by
 refine (putN_calls lo hi w0.heap.size w0.heap.size l (by have := h.2.2; omega) w h.2.1.size h.1).mono ?_
 rintro e w' ⟨rfl, h1, h2⟩
 exact ⟨rfl, h1, h.2.1.trans h2, by have := h.2.2; simp; omega⟩
theorem NmS.box {n : Nat} {w0 w : World} {l : List S64} (h : NmS n w0 w l) : ∃ v, w.cell? ⟨w0.heap.size, 0, none⟩ = some v ∧ w.ownsRow w0.heap.size 39 2 v l.length (rowOf l) := by
 obtain ⟨_, v, hb, ho⟩ := h.1
 exact ⟨v, hb.cell, ho⟩
theorem NmS.start (w : World) : NmS 0 w (w.alloc (.cells #[.slice none 0 0] 35)) [] := ⟨held_new w, (Below.refl w.heap.size w).alloc (Nat.le_refl _) _, Nat.le_refl _⟩
set_option maxHeartbeats 16000000 in
set_option maxRecDepth 100000 in
theorem classes_Named.calls (a0 : ByteArray) (r1 : List S64) (r2 : Bool) (w : World) (h : classes_Named.f a0 = some (r1, r2)) :
  Calls Tryz.prog 212 #[.string a0] w fun e w' => ∃ v0_ : Value, e = .returned (.tuple #[v0_, .bool r2]) ∧ Kd.R k64 39 w' w.heap.size (fun _ => True) v0_ r1 ∧ Below w.heap.size w w' := by
 unfold classes_Named.f at h
 rw [← Go.ByteArray.toList_eq] at h
 simp only [Option.some.injEq, Prod.mk.injEq] at h
 obtain ⟨rfl, rfl⟩ := h
 unfold Cls.named
 have HS := Lib.hid (NmS.start w)
 by_cases c : a0.toList = ([97, 108, 110, 117, 109] : List UInt8)
 rw [if_pos c]
 have b : (a0.toList == ([97, 108, 110, 117, 109] : List UInt8)) = true := beq_iff_eq.2 c
 clear c
 have HC := Lib.hid cls_alnum.symm
 rotate_left
 rw [if_neg c]
 replace c := beq_eq_false_iff_ne.2 c
 by_cases c : a0.toList = ([97, 108, 112, 104, 97] : List UInt8)
 rw [if_pos c]
 have b : (a0.toList == ([97, 108, 112, 104, 97] : List UInt8)) = true := beq_iff_eq.2 c
 clear c
 have HC := Lib.hid cls_alpha.symm
 rotate_left
 rw [if_neg c]
 replace c := beq_eq_false_iff_ne.2 c
 by_cases c : a0.toList = ([108, 111, 119, 101, 114] : List UInt8)
 rw [if_pos c]
 have b : (a0.toList == ([108, 111, 119, 101, 114] : List UInt8)) = true := beq_iff_eq.2 c
 clear c
 have HC := Lib.hid cls_lower.symm
 rotate_left
 rw [if_neg c]
 replace c := beq_eq_false_iff_ne.2 c
 by_cases c : a0.toList = ([117, 112, 112, 101, 114] : List UInt8)
 rw [if_pos c]
 have b : (a0.toList == ([117, 112, 112, 101, 114] : List UInt8)) = true := beq_iff_eq.2 c
 clear c
 have HC := Lib.hid cls_upper.symm
 rotate_left
 rw [if_neg c]
 replace c := beq_eq_false_iff_ne.2 c
 by_cases c : a0.toList = ([120, 100, 105, 103, 105, 116] : List UInt8)
 rw [if_pos c]
 have b : (a0.toList == ([120, 100, 105, 103, 105, 116] : List UInt8)) = true := beq_iff_eq.2 c
 clear c
 have HC := Lib.hid cls_xdigit.symm
 rotate_left
 rw [if_neg c]
 replace c := beq_eq_false_iff_ne.2 c
 by_cases c : a0.toList = ([100, 105, 103, 105, 116] : List UInt8)
 rw [if_pos c]
 have b : (a0.toList == ([100, 105, 103, 105, 116] : List UInt8)) = true := beq_iff_eq.2 c
 clear c
 have HC := Lib.hid cls_digit.symm
 rotate_left
 rw [if_neg c]
 replace c := beq_eq_false_iff_ne.2 c
 by_cases c : a0.toList = ([115, 112, 97, 99, 101] : List UInt8)
 rw [if_pos c]
 have b : (a0.toList == ([115, 112, 97, 99, 101] : List UInt8)) = true := beq_iff_eq.2 c
 clear c
 have HC := Lib.hid cls_space.symm
 rotate_left
 rw [if_neg c]
 replace c := beq_eq_false_iff_ne.2 c
 by_cases c : a0.toList = ([98, 108, 97, 110, 107] : List UInt8)
 rw [if_pos c]
 have b : (a0.toList == ([98, 108, 97, 110, 107] : List UInt8)) = true := beq_iff_eq.2 c
 clear c
 have HC := Lib.hid cls_blank.symm
 rotate_left
 rw [if_neg c]
 replace c := beq_eq_false_iff_ne.2 c
 by_cases c : a0.toList = ([99, 110, 116, 114, 108] : List UInt8)
 rw [if_pos c]
 have b : (a0.toList == ([99, 110, 116, 114, 108] : List UInt8)) = true := beq_iff_eq.2 c
 clear c
 have HC := Lib.hid cls_cntrl.symm
 rotate_left
 rw [if_neg c]
 replace c := beq_eq_false_iff_ne.2 c
 by_cases c : a0.toList = ([112, 114, 105, 110, 116] : List UInt8)
 rw [if_pos c]
 have b : (a0.toList == ([112, 114, 105, 110, 116] : List UInt8)) = true := beq_iff_eq.2 c
 clear c
 have HC := Lib.hid cls_print.symm
 rotate_left
 rw [if_neg c]
 replace c := beq_eq_false_iff_ne.2 c
 by_cases c : a0.toList = ([103, 114, 97, 112, 104] : List UInt8)
 rw [if_pos c]
 have b : (a0.toList == ([103, 114, 97, 112, 104] : List UInt8)) = true := beq_iff_eq.2 c
 clear c
 have HC := Lib.hid cls_graph.symm
 rotate_left
 rw [if_neg c]
 replace c := beq_eq_false_iff_ne.2 c
 by_cases c : a0.toList = ([112, 117, 110, 99, 116] : List UInt8)
 rw [if_pos c]
 have b : (a0.toList == ([112, 117, 110, 99, 116] : List UInt8)) = true := beq_iff_eq.2 c
 clear c
 have HC := Lib.hid cls_punct.symm
 rotate_left
 rw [if_neg c]
 replace c := beq_eq_false_iff_ne.2 c
 ·go_enter Tryz.func212, Tryz.ntmps212
  go_wp2
  go_ret2
  exact ⟨_, rfl, Kd.R_nil _ _ _ _ _, HS.out.2.1⟩
 all_goals as_aux_lemma =>
  go_enter Tryz.func212, Tryz.ntmps212
  go_wp2_with fail
  repeat
   refine (NmS.put (by decide) HS.out).mono ?_
   rintro e w2 ⟨rfl, hS⟩
   have HS := Lib.hid hS
   obtain ⟨v, hc, ho⟩ := NmS.box hS
   have HO := Lib.hid ho
   clear hS ho
   go_wp2_with fail
  refine (joined_calls w _ v _ HS.out.2.1 HO.out (by decide) (by decide)).mono ?_
  rintro e wj ⟨vj, rfl, ho, hb⟩
  have HF := Lib.hid (And.intro ho hb)
  clear ho hb
  go_wp2_with fail
  go_ret2
  exact ⟨_, rfl, R_of_own (by rw [HC.out]; exact HF.out.1) (fun _ _ => trivial), HF.out.2⟩
end Go.Proofs.YtamhkdlcoghdbaaGreatDoor.PCls
/- Out of Lnm (wip/tools/prune2.py): the declarations alone that the texts of the trees name. -/
namespace Go.Proofs.YtamhkdlcoghdbaaGreatDoor.PCls
open Go.RowKit Go.Shelf Go.Proofs.YtamhkdlcoghdbaaGreatDoorW.PrintWords Go.Proofs.YtamhkdlcoghdbaaGreatDoorW.PrintLast Go.Proofs.YtamhkdlcoghdbaaGreatDoorW.PrintMore
set_option linter.unusedVariables false
set_option linter.unusedSimpArgs false
theorem ite_all {α : Type} (P : α → Prop) {c : Prop} [Decidable c] {a b : α} (ha : P a) (hb : P b) : P (if c then a else b) := by split <;> assumption
theorem named_some (n : List UInt8) : ∀ l, Cls.named n = some l → inR l = true ∧ l.length ≤ 10 := by
 unfold Cls.named
 repeat refine ite_all (fun o : Option (List S64) => ∀ l, o = some l → inR l = true ∧ l.length ≤ 10) (by intro l h; obtain rfl := Option.some.inj h; decide) ?_
 intro l h
 cases h
theorem named_good (n : List UInt8) : inR ((Cls.named n).getD []) = true ∧ ((Cls.named n).getD []).length ≤ 10 := by
 cases h : Cls.named n with
 | none => exact ⟨rfl, Nat.zero_le _⟩
 | some l => exact named_some n l h
theorem named_row (w : World) (n : ByteArray) : Calls Tryz.prog 212 #[.string n] w fun e w' => ∃ v', e = .returned (.tuple #[v', .bool (clC.named n).2]) ∧ Row w' w.heap.size v' (clC.named n).1 ∧ Below w.heap.size w w' := by
 refine (classes_Named.calls n (clC.named n).1 (clC.named n).2 w rfl).mono ?_
 rintro e w' ⟨v', rfl, hR, hb⟩
 exact ⟨v', rfl, ⟨own_of_R hR, (named_good _).1, by have := (named_good n.data.toList).2; show ((Cls.named n.data.toList).getD []).length < _; omega⟩, hb⟩
theorem named58_eq (C : CL) (s : ByteArray) (chars : Bool) (x0 p : Nat) (hp : p + 2 ≤ s.size) : Lx.named C s chars x0 p 58 = if Lib.index (s.data.toList.drop (p + 2)) [58, 93] < 0 then .error (33, (x0 : Int)) else if (C.named (s.extract (p + 2) (p + 2 + (Lib.index (s.data.toList.drop (p + 2)) [58, 93]).toNat))).2 = true then .ok ⟨false, 0, (C.named (s.extract (p + 2) (p + 2 + (Lib.index (s.data.toList.drop (p + 2)) [58, 93]).toNat))).1, 0, (p + 2 + (Lib.index (s.data.toList.drop (p + 2)) [58, 93]).toNat + 2 : Nat)⟩ else .error (35, (p : Int)) := by
 unfold Lx.named
 simp only [if_true, Nat.add_zero, if_pos hp]
def itV (i : It) (v : Value) : Value := .agg #[.bool i.isEnd, .int .i64 i.c, v, .int .i64 i.sat, .int .i64 i.nx]
/-- an item that is told -/
def ItAt (W w' : World) (e : Ending) (i : It) : Prop := ∃ v, e = .returned (itV i v) ∧ Row w' W.heap.size v i.l
abbrev set5 (w : World) (g : Nat) (a b c d e : Value) : World := ((((w.setCell ⟨g, 0, none⟩ a).setCell ⟨g, 1, none⟩ b).setCell ⟨g, 2, none⟩ c).setCell ⟨g, 3, none⟩ d).setCell ⟨g, 4, none⟩ e
theorem set5_blk {w : World} {g : Nat} {a b c d e a' b' c' d' e' : Value} {t : TypeId} (h : w.heap[g]? = some (.cells #[a', b', c', d', e'] t (0, 0))) : (set5 w g a b c d e).heap[g]? = some (.cells #[a, b, c, d, e] t (0, 0)) :=
 set_blk (set_blk (set_blk (set_blk (set_blk h 0 a) 1 b) 2 c) 3 d) 4 e
theorem set5_below {A w : World} {n g : Nat} (h : Below n A w) (hg : n ≤ g) (a b c d e : Value) : Below n A (set5 w g a b c d e) :=
 ((((h.setCell (p := ⟨g, 0, none⟩) hg a).setCell (p := ⟨g, 1, none⟩) hg b).setCell (p := ⟨g, 2, none⟩) hg c).setCell (p := ⟨g, 3, none⟩) hg d).setCell (p := ⟨g, 4, none⟩) hg e
theorem set5_other {w : World} {g k : Nat} (hk : k ≠ g) (a b c d e : Value) : (set5 w g a b c d e).heap[k]? = w.heap[k]? :=
 (Below.heap_setCell _ ⟨g, 4, none⟩ e k hk).trans ((Below.heap_setCell _ ⟨g, 3, none⟩ d k hk).trans ((Below.heap_setCell _ ⟨g, 2, none⟩ c k hk).trans ((Below.heap_setCell _ ⟨g, 1, none⟩ b k hk).trans (Below.heap_setCell _ ⟨g, 0, none⟩ a k hk))))
theorem set5_row {w : World} {n g : Nat} {v : Value} {l : List S64} (h : Row w n v l) (hg : ∀ k, v.ownBlock = some k → k ≠ g) (a b c d e : Value) : Row (set5 w g a b c d e) n v l :=
 ⟨ownMove h.1 (fun k hk => set5_other (hg k hk) a b c d e), h.2⟩
theorem row_ge {w : World} {n : Nat} {v : Value} {l : List S64} (h : Row w n v l) {g : Nat} (hg : g < n) : ∀ k, v.ownBlock = some k → k ≠ g := fun k hk => by have := (ownLt h.1 k hk).1; omega
set_option maxHeartbeats 8000000 in
set_option maxRecDepth 100000 in
theorem named58_calls (W : World) (B p q : Nat) (s : ByteArray) (chars fold : Bool) (V : Value) (m : Int) (h : Sc W B s chars fold q V) (hs : s.size ≤ 2000) (hp : p + 2 ≤ s.size) (hm : W.cell? ⟨2, 0, none⟩ = some (.int .i64 m)) (h2 : 2 < W.heap.size) :
  Calls Tryz.prog 192 #[.pointer (some ⟨B, 0, none⟩), .int .i64 p, .string ⟨#[58]⟩] W fun e w' => Tells W w' e (Lx.named clC s chars q p 58) (ItAt W w' e) := by
 have hb0 : Below W.heap.size W (W.alloc (.cells #[.bool false, .int .i64 0, .slice none 0 0, .int .i64 0, .int .i64 0] 189)) := (Below.refl _ W).alloc (Nat.le_refl _) _
 have hs0 := h.below hb0
 have c0 := hs0.c0
 have c3 := hs0.c3
 have hm0 := (hb0.cell (p := ⟨2, 0, none⟩) h2).trans hm
 have hi0 : (0 : Int) ≤ (p : Int) := by omega
 have hi1 : (p : Int) + 2 ≤ (s.size : Int) := by omega
 have HE := Lib.hid (named58_eq clC s chars q p hp)
 have HI := Lib.hid (Tryz.strings_Index (s.extract (p + 2) s.size) ⟨#[58, 93]⟩ m _ (by rw [ByteArray.size_extract]; omega) hm0)
 have hkl := Lib.index_le (s.data.toList.drop (p + 2)) [58, 93]
 rw [blk_tail] at HI
 rw [List.length_drop, show s.data.toList.length = s.size by simp] at hkl
 obtain ⟨k, hk⟩ : ∃ k, k = Lib.index (s.data.toList.drop (p + 2)) [58, 93] := ⟨_, rfl⟩
 rw [show (⟨#[58, 93]⟩ : ByteArray).data.toList = [58, 93] from rfl, ← hk] at HI
 rw [← hk] at HE hkl
 have HB0 := Lib.hid hb0
 clear hk hb0 hs0 hm0 h2 hm h hp
 go_enter Tryz.func192, Tryz.ntmps192
 go_wp2_with fail
 refine HI.out.mono ?_
 rintro e w1 ⟨rfl, rfl⟩
 clear HI
 by_cases hk : k < 0
 ·have HX := Lib.hid (show Lx.named clC s chars q p 58 = .error (33, (q : Int)) by rw [HE.out, if_pos hk])
  clear HE
  go_wp2_with fail
  refine (fail_calls _ _ _).mono ?_
  rintro e w2 ⟨⟨g, rfl, hg⟩, hb⟩
  exact ⟨rfl, Tells.err HX.out (HB0.out.trans (hb.mono HB0.out.size)) (Bad.mono ⟨g, rfl, hg⟩ HB0.out.size)⟩
 ·obtain ⟨j, rfl⟩ : ∃ j : Nat, k = j := ⟨k.toNat, by omega⟩
  obtain ⟨e, he⟩ : ∃ e, e = p + 2 + j := ⟨_, rfl⟩
  have HE2 := Lib.hid (show Lx.named clC s chars q p 58 = if (clC.named (s.extract (p + 2) e)).2 = true then .ok ⟨false, 0, (clC.named (s.extract (p + 2) e)).1, 0, (e + 2 : Nat)⟩ else .error (35, (p : Int)) by rw [HE.out, if_neg hk, he]; rfl)
  clear HE
  have hj1 : (p : Int) + 2 + (j : Int) ≤ (s.size : Int) := by omega
  have hj0 : (0 : Int) ≤ (p : Int) + 2 := by omega
  have hj2 : (p : Int) + 2 ≤ (p : Int) + 2 + (j : Int) := by omega
  have HN := Lib.hid (fun w => named_row w (s.extract (p + 2) e))
  rw [he] at HN
  obtain ⟨n, hn⟩ : ∃ n, n = clC.named (s.extract (p + 2) e) := ⟨_, rfl⟩
  rw [he] at hn
  rw [← hn] at HN
  have HE3 := Lib.hid (show Lx.named clC s chars q p 58 = if n.2 = true then .ok ⟨false, 0, n.1, 0, ((e + 2 : Nat) : Int)⟩ else .error (35, (p : Int)) by rw [HE2.out, hn, ← he])
  have HJ := Lib.hid he
  clear HE2 hn he hk hkl
  go_wp2_with fail
  refine (HN.out _).mono ?_
  rintro e' w2 ⟨v', rfl, hr, hb⟩
  obtain ⟨l, o⟩ := n
  simp only at HE3 hr
  have HR := Lib.hid (And.intro hr hb)
  have hg : w2.heap[W.heap.size]? = some (.cells #[.bool false, .int .i64 0, .slice none 0 0, .int .i64 0, .int .i64 0] 189 (0, 0)) := (hb.block _ (by simp)).trans (heap_alloc_new W _)
  clear hr hb HN
  cases o with
  | false =>
   have HX := Lib.hid (show Lx.named clC s chars q p 58 = .error (35, (p : Int)) by rw [HE3.out]; rfl)
   clear HE3
   go_wp2_with fail
   refine (fail_calls _ _ _).mono ?_
   rintro e w3 ⟨⟨g, rfl, hg'⟩, hb⟩
   exact ⟨rfl, Tells.err HX.out (Below.up (HB0.out.trans (HR.out.2.mono HB0.out.size)) hb) (Bad.up ⟨g, rfl, hg'⟩ (HB0.out.trans (HR.out.2.mono HB0.out.size)))⟩
  | true =>
   have HX := Lib.hid (show Lx.named clC s chars q p 58 = .ok ⟨false, 0, l, 0, ((e + 2 : Nat) : Int)⟩ by rw [HE3.out]; rfl)
   clear HE3
   obtain ⟨A, k, rfl⟩ := HR.out.1.form
   have hf : ∀ o, w2.frozen? ⟨W.heap.size, o, none⟩ = false := fun o => by simp [World.frozen?, hg]
   have k0 := lk_cell (i := 0) hg rfl
   have k1 := lk_cell (i := 1) hg rfl
   have k2 := lk_cell (i := 2) hg rfl
   have k3 := lk_cell (i := 3) hg rfl
   have k4 := lk_cell (i := 4) hg rfl
   go_wp2_with fail
   (try simp only [Exit.inBlock, Exit.then])
   refine bodyPost_ret (results_cell_row rfl _ _ W.heap.size 189 _ (0, 0) _ rfl (set5_blk hg) Tryz.underlying189 rfl (by kernel_rfl)) rfl ?_
   have hnx : ((p : Int) + 2 + j + 2) = ((e + 2 : Nat) : Int) := by have := HJ.out; omega
   have hz : W.heap.size < (W.alloc (.cells #[.bool false, .int .i64 0, .slice none 0 0, .int .i64 0, .int .i64 0] 189)).heap.size := by simp
   exact Tells.ok HX.out (set5_below (HB0.out.trans (HR.out.2.mono HB0.out.size)) (Nat.le_refl _) _ _ _ _ _) ⟨.slice A l.length k, by rw [← hnx]; rfl, set5_row (HR.out.1.lower HB0.out.size) (row_ge HR.out.1 hz) _ _ _ _ _⟩
end Go.Proofs.YtamhkdlcoghdbaaGreatDoor.PCls
/- Out of Lu (wip/tools/prune2.py): the declarations alone that the texts of the trees name. -/
namespace Go.Proofs.YtamhkdlcoghdbaaGreatDoor.PCls
set_option linter.unusedVariables false
theorem decodeN_fits (n b0 b1 b2 b3 : Nat) (hn : 1 ≤ n) : (Lib.decodeN n b0 b1 b2 b3).2 ≤ n := by
 unfold Lib.decodeN
 repeat' split
 all_goals simp only
 all_goals omega
theorem unit_lim (s : ByteArray) (chars : Bool) (p : Nat) (h : p < s.size) : -1 ≤ (Lx.unit s chars p).1 ∧ (Lx.unit s chars p).1 ≤ 1114111 ∧ 1 ≤ (Lx.unit s chars p).2 ∧ p + (Lx.unit s chars p).2 ≤ s.size := by
 have h1 := Lib.rune_le s p
 have h2 := Lib.decode_width_pos s p h
 have h3 : (Utf8.decode s p).2 ≤ s.size - p := by rw [Lib.decode_at]; exact decodeN_fits _ _ _ _ _ (by omega)
 have h4 := byt_at s p h
 have h5 := s[p].toNat_lt
 unfold Lx.unit
 rw [if_pos h]
 cases chars with
 | false => simp only [Bool.false_eq_true, if_false]; omega
 | true =>
  simp only [if_true]
  split <;> simp only <;> omega
theorem unit_none (s : ByteArray) (chars : Bool) (p : Nat) (h : ¬ p < s.size) : Lx.unit s chars p = (0, 0) := by unfold Lx.unit; rw [if_neg h]
theorem unit_rng (s : ByteArray) (chars : Bool) (p : Nat) : -1 ≤ (Lx.unit s chars p).1 ∧ (Lx.unit s chars p).1 ≤ 1114111 ∧ (Lx.unit s chars p).2 ≤ s.size := by
 by_cases h : p < s.size
 ·have := unit_lim s chars p h; omega
 ·rw [unit_none s chars p h]; simp
end Go.Proofs.YtamhkdlcoghdbaaGreatDoor.PCls
/- Out of Lnn (wip/tools/prune2.py): the declarations alone that the texts of the trees name. -/
namespace Go.Proofs.YtamhkdlcoghdbaaGreatDoor.PCls
open Go.RowKit Go.Shelf Go.Proofs.YtamhkdlcoghdbaaGreatDoorW.PrintWords Go.Proofs.YtamhkdlcoghdbaaGreatDoorW.PrintLast Go.Proofs.YtamhkdlcoghdbaaGreatDoorW.PrintMore
set_option linter.unusedVariables false
set_option linter.unusedSimpArgs false
def elk (s : ByteArray) (p : Nat) (sign : UInt8) : Int := if p + 3 ≤ s.size then Lib.index (s.data.toList.drop (p + 3)) [sign, 93] else -1
theorem named_el_eq (C : CL) (s : ByteArray) (chars : Bool) (x0 p : Nat) (sign : UInt8) (h : sign ≠ 58) : Lx.named C s chars x0 p sign = if elk s p sign < 0 then .error (33, (x0 : Int)) else if (Lx.unit s chars (p + 2)).1 < 0 ∨ (Lx.unit s chars (p + 2)).2 ≠ 1 + (elk s p sign).toNat then .error (35, (p : Int)) else .ok ⟨decide (sign = 46), (Lx.unit s chars (p + 2)).1, [⟨(Lx.unit s chars (p + 2)).1, (Lx.unit s chars (p + 2)).1⟩], p, (p + 3 + (elk s p sign).toNat + 2 : Nat)⟩ := by
 unfold Lx.named
 simp only [if_neg h]
 rw [show p + 2 + 1 = p + 3 from rfl, show (if p + 3 ≤ s.size then Lib.index (s.data.toList.drop (p + 3)) [sign, 93] else -1) = elk s p sign from rfl, show p + 3 + (elk s p sign).toNat - (p + 2) = 1 + (elk s p sign).toNat by omega]
theorem set5_size (w : World) (g : Nat) (a b c d e : Value) : (set5 w g a b c d e).heap.size = w.heap.size := by simp [set5, World.setCell]
theorem set5_one_blk {w : World} {g : Nat} {a b c d e a' b' c' d' e' : Value} {t : TypeId} (h : w.heap[g]? = some (.cells #[a', b', c', d', e'] t (0, 0))) (x : Int) : ((set5 w g a b c d e).alloc (.cells #[.int .i64 x, .int .i64 x] 39)).heap[g]? = some (.cells #[a, b, c, d, e] t (0, 0)) :=
 (heap_alloc_old _ _ (by rw [set5_size]; exact (Array.getElem?_eq_some_iff.1 h).1)).trans (set5_blk h)
theorem set5_one_below {A w : World} {n g : Nat} (h : Below n A w) (hg : n ≤ g) (x : Int) (a b c d e : Value) (hn : n ≤ w.heap.size) : Below n A ((set5 w g a b c d e).alloc (.cells #[.int .i64 x, .int .i64 x] 39)) :=
 (set5_below h hg a b c d e).alloc (by rw [set5_size]; exact hn) _
theorem set5_one_row {w : World} (g : Nat) (x : Int) (hx : -9223372036854775808 ≤ x ∧ x ≤ 9223372036854775807) (a b c d e : Value) : Row ((set5 w g a b c d e).alloc (.cells #[.int .i64 x, .int .i64 x] 39)) w.heap.size (.slice (some ⟨w.heap.size, 0, none⟩) 1 1) [⟨x, x⟩] := by
 have h := Row.one (set5 w g a b c d e) x hx
 rw [set5_size] at h
 exact h
set_option maxHeartbeats 1000000 in
set_option maxRecDepth 100000 in
theorem namedEl_calls (W : World) (B p q : Nat) (s : ByteArray) (chars fold : Bool) (V : Value) (m : Int) (h : Sc W B s chars fold q V) (hs : s.size ≤ 2000) (hp : p + 2 ≤ s.size) (hm : W.cell? ⟨2, 0, none⟩ = some (.int .i64 m)) (h2 : 2 < W.heap.size) (hT : Lib.Utf8Tabs 0 1 W) (sign : UInt8) (hsg : sign = 61 ∨ sign = 46) :
  Calls Tryz.prog 192 #[.pointer (some ⟨B, 0, none⟩), .int .i64 p, .string ⟨#[sign]⟩] W fun e w' => Tells W w' e (Lx.named clC s chars q p sign) (ItAt W w' e) := by
 have hb0 : Below W.heap.size W (W.alloc (.cells #[.bool false, .int .i64 0, .slice none 0 0, .int .i64 0, .int .i64 0] 189)) := (Below.refl _ W).alloc (Nat.le_refl _) _
 have hs0 := h.below hb0
 have c0 := hs0.c0
 have c3 := hs0.c3
 have hm0 := (hb0.cell (p := ⟨2, 0, none⟩) h2).trans hm
 have HU := Lib.hid (unit_calls _ B (p + 2) q s chars fold V (tabs_below hT hb0) hs0 (by omega) (by omega))
 have HUL := Lib.hid (unit_rng s chars (p + 2))
 have hi0 : (0 : Int) ≤ (p : Int) := by omega
 have HE := Lib.hid (named_el_eq clC s chars q p sign (by rcases hsg with rfl | rfl <;> decide))
 have HB0 := Lib.hid hb0
 by_cases h3 : p + 3 ≤ s.size
 ·have hi1 : (p : Int) + 2 + 1 ≤ (s.size : Int) := by omega
  have hi2 : (p : Int) + 3 ≤ (s.size : Int) := by omega
  have HI := Lib.hid (Tryz.strings_Index (s.extract (p + 3) s.size) ⟨#[sign, 93]⟩ m _ (by rw [ByteArray.size_extract]; omega) hm0)
  have hkl := Lib.index_le (s.data.toList.drop (p + 3)) [sign, 93]
  rw [blk_tail, show (⟨#[sign, 93]⟩ : ByteArray).data.toList = [sign, 93] from rfl] at HI
  rw [List.length_drop, show s.data.toList.length = s.size by simp] at hkl
  have hke : elk s p sign = Lib.index (s.data.toList.drop (p + 3)) [sign, 93] := by unfold elk; rw [if_pos h3]
  rw [← hke] at HI hkl
  generalize elk s p sign = k at HE HI hkl
  obtain ⟨u, hu⟩ : ∃ u, u = Lx.unit s chars (p + 2) := ⟨_, rfl⟩
  rw [← hu] at HU HUL HE
  clear hke hu hb0 hs0 hm0 h2 hm h hp h3 hT
  rcases hsg with rfl | rfl
  ·go_enter Tryz.func192, Tryz.ntmps192
   go_wp2_with fail
   refine HI.out.mono ?_
   rintro e w1 ⟨rfl, rfl⟩
   clear HI
   by_cases hk : k < 0
   ·have HX := Lib.hid (HE.out.trans (if_pos hk))
    clear HE
    go_wp2_with fail
    refine (fail_calls _ _ _).mono ?_
    rintro e w2 ⟨⟨g, rfl, hg⟩, hb⟩
    exact ⟨rfl, Tells.err HX.out (HB0.out.trans (hb.mono HB0.out.size)) (Bad.mono ⟨g, rfl, hg⟩ HB0.out.size)⟩
   ·obtain ⟨j, rfl⟩ : ∃ j : Nat, k = j := ⟨k.toNat, by omega⟩
    have HE2 := Lib.hid (HE.out.trans (if_neg hk))
    clear HE
    go_wp2_with fail
    refine HU.out.mono ?_
    rintro e w2 ⟨rfl, hb⟩
    obtain ⟨c, n⟩ := u
    simp only [Int.toNat_natCast] at HE2
    have hg : w2.heap[W.heap.size]? = some (.cells #[.bool false, .int .i64 0, .slice none 0 0, .int .i64 0, .int .i64 0] 189 (0, 0)) := (hb.block _ (by simp)).trans (heap_alloc_new W _)
    have HB := Lib.hid (HB0.out.trans (hb.mono HB0.out.size))
    have HL := Lib.hid (And.intro HUL.out hkl)
    have hcase : c < 0 ∨ (¬ c < 0 ∧ n ≠ 1 + j) ∨ (¬ c < 0 ∧ n = 1 + j) := by omega
    have hj9 : (p : Int) + 3 + (j : Int) ≤ (s.size : Int) := by omega
    clear HU HUL hb hk hkl
    rcases hcase with hc | ⟨hc, hn⟩ | ⟨hc, hn⟩
    ·have HX := Lib.hid (HE2.out.trans (if_pos (.inl hc)))
     clear HE2
     go_wp2_with fail
     refine (fail_calls _ _ _).mono ?_
     rintro e w3 ⟨⟨g, rfl, hg'⟩, hb⟩
     exact ⟨rfl, Tells.err HX.out (Below.up HB.out hb) (Bad.up ⟨g, rfl, hg'⟩ HB.out)⟩
    ·have HX := Lib.hid (HE2.out.trans (if_pos (.inr hn)))
     have hc0 : 0 ≤ c := by omega
     have hn0 : ((n : Int) != (p : Int) + 2 + 1 + (j : Int) - ((p : Int) + 2)) = true := by rw [bne_iff_ne]; omega
     clear HE2 hn
     go_wp2_with fail
     refine (fail_calls _ _ _).mono ?_
     rintro e w3 ⟨⟨g, rfl, hg'⟩, hb⟩
     exact ⟨rfl, Tells.err HX.out (Below.up HB.out hb) (Bad.up ⟨g, rfl, hg'⟩ HB.out)⟩
    ·have HX := Lib.hid (HE2.out.trans (if_neg (by intro h; rcases h with h | h; exact hc h; exact h hn)))
     have hc0 : 0 ≤ c := by omega
     have hn0 : ((n : Int) != (p : Int) + 2 + 1 + (j : Int) - ((p : Int) + 2)) = false := by rw [bne_eq_false_iff_eq]; omega
     clear HE2 hn
     have hsz : W.heap.size < w2.heap.size := (Array.getElem?_eq_some_iff.1 hg).1
     have hf : ∀ o, w2.frozen? ⟨W.heap.size, o, none⟩ = false := fun o => by simp only [World.frozen?, hg]; simp
     have k0 := lk_cell (i := 0) hg rfl
     have k1 := lk_cell (i := 1) hg rfl
     have k2 := lk_cell (i := 2) hg rfl
     have k3 := lk_cell (i := 3) hg rfl
     have k4 := lk_cell (i := 4) hg rfl
     have HG := Lib.hid (And.intro hg hsz)
     clear hg
     go_wp2_with fail
     (try simp only [Exit.inBlock, Exit.then])
     have hgg := set5_one_blk (a := .bool false) (b := .int .i64 c) (c := .slice (some ⟨w2.heap.size, 0, none⟩) 1 1) (d := .int .i64 p) (e := .int .i64 ((p : Int) + 2 + 1 + j + 2)) HG.out.1 c
     refine bodyPost_ret (results_cell_row rfl _ _ W.heap.size 189 #[.bool false, .int .i64 c, .slice (some ⟨w2.heap.size, 0, none⟩) 1 1, .int .i64 p, .int .i64 ((p : Int) + 2 + 1 + j + 2)] (0, 0) _ rfl hgg Tryz.underlying189 rfl (by kernel_rfl)) rfl ?_
     have hnx : ((p : Int) + 2 + 1 + j + 2) = ((p + 3 + j + 2 : Nat) : Int) := by omega
     have hbb := set5_one_below HB.out (Nat.le_refl _) c (.bool false) (.int .i64 c) (.slice (some ⟨w2.heap.size, 0, none⟩) 1 1) (.int .i64 p) (.int .i64 ((p : Int) + 2 + 1 + j + 2)) HB.out.size
     have hrr := (set5_one_row (w := w2) W.heap.size c (by have := HL.out; omega) (.bool false) (.int .i64 c) (.slice (some ⟨w2.heap.size, 0, none⟩) 1 1) (.int .i64 p) (.int .i64 ((p : Int) + 2 + 1 + j + 2))).lower HB.out.size
     refine Tells.ok HX.out hbb ⟨.slice (some ⟨w2.heap.size, 0, none⟩) 1 1, ?_, hrr⟩
     rw [← hnx]
     rfl
  ·go_enter Tryz.func192, Tryz.ntmps192
   go_wp2_with fail
   refine HI.out.mono ?_
   rintro e w1 ⟨rfl, rfl⟩
   clear HI
   by_cases hk : k < 0
   ·have HX := Lib.hid (HE.out.trans (if_pos hk))
    clear HE
    go_wp2_with fail
    refine (fail_calls _ _ _).mono ?_
    rintro e w2 ⟨⟨g, rfl, hg⟩, hb⟩
    exact ⟨rfl, Tells.err HX.out (HB0.out.trans (hb.mono HB0.out.size)) (Bad.mono ⟨g, rfl, hg⟩ HB0.out.size)⟩
   ·obtain ⟨j, rfl⟩ : ∃ j : Nat, k = j := ⟨k.toNat, by omega⟩
    have HE2 := Lib.hid (HE.out.trans (if_neg hk))
    clear HE
    go_wp2_with fail
    refine HU.out.mono ?_
    rintro e w2 ⟨rfl, hb⟩
    obtain ⟨c, n⟩ := u
    simp only [Int.toNat_natCast] at HE2
    have hg : w2.heap[W.heap.size]? = some (.cells #[.bool false, .int .i64 0, .slice none 0 0, .int .i64 0, .int .i64 0] 189 (0, 0)) := (hb.block _ (by simp)).trans (heap_alloc_new W _)
    have HB := Lib.hid (HB0.out.trans (hb.mono HB0.out.size))
    have HL := Lib.hid (And.intro HUL.out hkl)
    have hcase : c < 0 ∨ (¬ c < 0 ∧ n ≠ 1 + j) ∨ (¬ c < 0 ∧ n = 1 + j) := by omega
    have hj9 : (p : Int) + 3 + (j : Int) ≤ (s.size : Int) := by omega
    clear HU HUL hb hk hkl
    rcases hcase with hc | ⟨hc, hn⟩ | ⟨hc, hn⟩
    ·have HX := Lib.hid (HE2.out.trans (if_pos (.inl hc)))
     clear HE2
     go_wp2_with fail
     refine (fail_calls _ _ _).mono ?_
     rintro e w3 ⟨⟨g, rfl, hg'⟩, hb⟩
     exact ⟨rfl, Tells.err HX.out (Below.up HB.out hb) (Bad.up ⟨g, rfl, hg'⟩ HB.out)⟩
    ·have HX := Lib.hid (HE2.out.trans (if_pos (.inr hn)))
     have hc0 : 0 ≤ c := by omega
     have hn0 : ((n : Int) != (p : Int) + 2 + 1 + (j : Int) - ((p : Int) + 2)) = true := by rw [bne_iff_ne]; omega
     clear HE2 hn
     go_wp2_with fail
     refine (fail_calls _ _ _).mono ?_
     rintro e w3 ⟨⟨g, rfl, hg'⟩, hb⟩
     exact ⟨rfl, Tells.err HX.out (Below.up HB.out hb) (Bad.up ⟨g, rfl, hg'⟩ HB.out)⟩
    ·have HX := Lib.hid (HE2.out.trans (if_neg (by intro h; rcases h with h | h; exact hc h; exact h hn)))
     have hc0 : 0 ≤ c := by omega
     have hn0 : ((n : Int) != (p : Int) + 2 + 1 + (j : Int) - ((p : Int) + 2)) = false := by rw [bne_eq_false_iff_eq]; omega
     clear HE2 hn
     have hsz : W.heap.size < w2.heap.size := (Array.getElem?_eq_some_iff.1 hg).1
     have hf : ∀ o, w2.frozen? ⟨W.heap.size, o, none⟩ = false := fun o => by simp only [World.frozen?, hg]; simp
     have k0 := lk_cell (i := 0) hg rfl
     have k1 := lk_cell (i := 1) hg rfl
     have k2 := lk_cell (i := 2) hg rfl
     have k3 := lk_cell (i := 3) hg rfl
     have k4 := lk_cell (i := 4) hg rfl
     have HG := Lib.hid (And.intro hg hsz)
     clear hg
     go_wp2_with fail
     (try simp only [Exit.inBlock, Exit.then])
     have hgg := set5_one_blk (a := .bool true) (b := .int .i64 c) (c := .slice (some ⟨w2.heap.size, 0, none⟩) 1 1) (d := .int .i64 p) (e := .int .i64 ((p : Int) + 2 + 1 + j + 2)) HG.out.1 c
     refine bodyPost_ret (results_cell_row rfl _ _ W.heap.size 189 #[.bool true, .int .i64 c, .slice (some ⟨w2.heap.size, 0, none⟩) 1 1, .int .i64 p, .int .i64 ((p : Int) + 2 + 1 + j + 2)] (0, 0) _ rfl hgg Tryz.underlying189 rfl (by kernel_rfl)) rfl ?_
     have hnx : ((p : Int) + 2 + 1 + j + 2) = ((p + 3 + j + 2 : Nat) : Int) := by omega
     have hbb := set5_one_below HB.out (Nat.le_refl _) c (.bool true) (.int .i64 c) (.slice (some ⟨w2.heap.size, 0, none⟩) 1 1) (.int .i64 p) (.int .i64 ((p : Int) + 2 + 1 + j + 2)) HB.out.size
     have hrr := (set5_one_row (w := w2) W.heap.size c (by have := HL.out; omega) (.bool true) (.int .i64 c) (.slice (some ⟨w2.heap.size, 0, none⟩) 1 1) (.int .i64 p) (.int .i64 ((p : Int) + 2 + 1 + j + 2))).lower HB.out.size
     refine Tells.ok HX.out hbb ⟨.slice (some ⟨w2.heap.size, 0, none⟩) 1 1, ?_, hrr⟩
     rw [← hnx]
     rfl
 ·have hi1 : ¬ (p : Int) + 2 + 1 ≤ (s.size : Int) := by omega
  have hp9 : (p : Int) + 2 ≤ 2000 := by omega
  have HX := Lib.hid (HE.out.trans (if_pos (by unfold elk; rw [if_neg h3]; decide)))
  clear HE HU HUL hb0 hs0 hm0 h2 hm h hp h3 hT
  rcases hsg with rfl | rfl
  all_goals
   go_enter Tryz.func192, Tryz.ntmps192
   go_wp2_with fail
   refine (fail_calls _ _ _).mono ?_
   rintro e w2 ⟨⟨g, rfl, hg⟩, hb⟩
   exact ⟨rfl, Tells.err HX.out (HB0.out.trans (hb.mono HB0.out.size)) (Bad.mono ⟨g, rfl, hg⟩ HB0.out.size)⟩
end Go.Proofs.YtamhkdlcoghdbaaGreatDoor.PCls
