/- Put together (wip/tools/pack.py): QJc, QHb, QLc. -/
import Derived.Test.YtamhkdlcoghdbaaGreatDoorVMQJa
/- Out of Jc (wip/tools/prune2.py): the declarations alone that the texts of the trees name. -/
namespace Go.Proofs.YtamhkdlcoghdbaaGreatDoor.PCls
open Go.RowKit Go.Shelf Go.Proofs.YtamhkdlcoghdbaaGreatDoorW.PrintWords Go.Proofs.YtamhkdlcoghdbaaGreatDoorW.PrintLast Go.Proofs.YtamhkdlcoghdbaaGreatDoorW.PrintMore
set_option linter.unusedVariables false
set_option linter.unusedSimpArgs false
/-- a row that is made at once -/
theorem own_made (w : World) (l : List S64) (h : 0 < l.length) (hl : l.length < 1000) : (w.alloc (.cells (rowOf l).toArray 39)).ownsRow w.heap.size 39 2 (.slice (some ⟨w.heap.size, 0, none⟩) l.length l.length) l.length (rowOf l) :=
 ⟨rowOf_length l, .inr ⟨w.heap.size, l.length, (rowOf l).toArray, rfl, Nat.le_refl _, heap_alloc_new _ _, Nat.le_refl _, by unfold maxLen; omega, by simp [rowOf_length], by rw [List.take_of_length_le (by simp [rowOf_length])]⟩⟩
set_option maxHeartbeats 4000000 in
theorem all_calls_ (w : World) (m : Bool) : Calls Tryz.prog 151 #[.bool m] w fun e w' => ∃ v, e = .returned v ∧ Row w' w.heap.size v (Cls.all m) ∧ Below w.heap.size w w' := by
 cases m with
 | false =>
  go_enter Tryz.func151, Tryz.ntmps151
  go_wp2_with fail
  go_ret
  exact ⟨_, rfl, ⟨own_made w [⟨0, 255⟩] (by decide) (by decide), by decide, by decide⟩, (Below.refl _ w).alloc (Nat.le_refl _) _⟩
 | true =>
  go_enter Tryz.func151, Tryz.ntmps151
  go_wp2_with fail
  go_ret
  exact ⟨_, rfl, ⟨own_made w [⟨0, 55295⟩, ⟨57344, 1114111⟩] (by decide) (by decide), by decide, by decide⟩, (Below.refl _ w).alloc (Nat.le_refl _) _⟩
set_option maxHeartbeats 4000000 in
theorem norm_calls (w : World) (A : Option Addr) (c : Nat) (l : List S64) (m : Bool) (h : RdAt w A c l) : Calls Tryz.prog 149 #[.slice A l.length c, .bool m] w fun e w' => ∃ v, e = .returned v ∧ w'.ownsRow w.heap.size 39 2 v (Cls.norm l m).length (rowOf (Cls.norm l m)) ∧ Below w.heap.size w w' := by
 have H1 := Lib.hid (all_calls_ w m)
 have H2 := Lib.hid (fun (w' : World) (hb : Below w.heap.size w w') (A2 : Option Addr) (c2 : Nat) (h2 : RdAt w' A2 c2 (Cls.all m)) => and_calls w' A A2 c c2 l (Cls.all m) (h.below hb) h2)
 clear h
 go_enter Tryz.func149, Tryz.ntmps149
 go_wp2_with fail
 refine H1.out.mono ?_
 rintro e w1 ⟨v1, rfl, hr, hb⟩
 obtain ⟨A2, c2, rfl, hrd⟩ := hr.rd
 have H3 := Lib.hid (H2.out w1 hb A2 c2 hrd)
 have HB := Lib.hid hb
 clear hr hrd hb H1 H2
 go_wp2_with fail
 refine H3.out.mono ?_
 rintro e w2 ⟨v2, rfl, ho, hb⟩
 have HF := Lib.hid (And.intro (own_weaken ho HB.out.size) (HB.out.trans (hb.mono HB.out.size)))
 clear ho hb H3
 go_wp2_with fail
 go_ret
 exact ⟨_, rfl, HF.out⟩
theorem rowOf_set0 : ∀ (l : List S64) (i : Nat) (r : S64) (u : Int), l[i]? = some r → (rowOf l).set (i * 2) (.int .i64 u) = rowOf (l.set i ⟨u, r.f1⟩)
 | [], i, r, u, h => by simp at h
 | x :: l, 0, r, u, h => by simp at h; subst h; rfl
 | x :: l, i + 1, r, u, h => by
  have ih := rowOf_set0 l i r u (by simpa using h)
  have e : rowOf (x :: l) = .int .i64 x.f0 :: .int .i64 x.f1 :: rowOf l := rfl
  rw [e, show (i + 1) * 2 = i * 2 + 1 + 1 by omega, List.set_cons_succ, List.set_cons_succ, ih, List.set_cons_succ]
  rfl
theorem rowOf_set1 : ∀ (l : List S64) (i : Nat) (r : S64) (u : Int), l[i]? = some r → (rowOf l).set (i * 2 + 1) (.int .i64 u) = rowOf (l.set i ⟨r.f0, u⟩)
 | [], i, r, u, h => by simp at h
 | x :: l, 0, r, u, h => by simp at h; subst h; rfl
 | x :: l, i + 1, r, u, h => by
  have ih := rowOf_set1 l i r u (by simpa using h)
  have e : rowOf (x :: l) = .int .i64 x.f0 :: .int .i64 x.f1 :: rowOf l := rfl
  rw [e, show (i + 1) * 2 + 1 = i * 2 + 1 + 1 + 1 by omega, List.set_cons_succ, List.set_cons_succ, ih, List.set_cons_succ]
  rfl
/-- a range in a row, and other ends of it -/
theorem own_at {W : World} {base : Nat} {v : Value} {l : List S64} {i : Nat} {r : S64} (h : W.ownsRow base 39 2 v l.length (rowOf l)) (hr : l[i]? = some r) : ∃ g c, v = .slice (some ⟨g, 0, none⟩) l.length c ∧ base ≤ g ∧ g < W.heap.size ∧ W.cell? ⟨g, i * 2, none⟩ = some (.int .i64 r.f0) ∧ W.cell? ⟨g, i * 2 + 1, none⟩ = some (.int .i64 r.f1) ∧ (∀ o, W.frozen? ⟨g, o, none⟩ = false) ∧
  (∀ u, (W.setCell ⟨g, i * 2, none⟩ (.int .i64 u)).ownsRow base 39 2 v (l.set i ⟨u, r.f1⟩).length (rowOf (l.set i ⟨u, r.f1⟩))) ∧ (∀ u, (W.setCell ⟨g, i * 2 + 1, none⟩ (.int .i64 u)).ownsRow base 39 2 v (l.set i ⟨r.f0, u⟩).length (rowOf (l.set i ⟨r.f0, u⟩))) := by
 rcases h.2 with ⟨e, h0⟩ | ⟨g, cap, cur, e, hb, hh, hc, hm, hs, htk⟩
 ·have := (List.getElem?_eq_some_iff.1 hr).1; omega
 ·have hs1 : ∀ o u, (W.setCell ⟨g, o, none⟩ u).heap[g]? = some (.cells (cur.setIfInBounds o u) 39 (0, 0)) := fun o u => jset hh o u
  have h1 := rowOf_at l i r hr
  rw [← htk, List.getElem?_take, List.getElem?_take] at h1
  have hil := (List.getElem?_eq_some_iff.1 hr).1
  rw [if_pos (by omega), if_pos (by omega)] at h1
  refine ⟨g, cap, e, hb, (Array.getElem?_eq_some_iff.1 hh).1, lk_cell hh (by simpa using h1.1), lk_cell hh (by simpa using h1.2), fun o => by simp [World.frozen?, hh], fun u => ⟨rowOf_length _, .inr ⟨g, cap, _, by rw [e]; simp, hb, hs1 _ _, by simpa using hc, hm, by simpa using hs, ?_⟩⟩, fun u => ⟨rowOf_length _, .inr ⟨g, cap, _, by rw [e]; simp, hb, hs1 _ _, by simpa using hc, hm, by simpa using hs, ?_⟩⟩⟩
  ·rw [Array.toList_setIfInBounds, List.length_set, List.take_set, htk, rowOf_set0 l i r u hr]
  ·rw [Array.toList_setIfInBounds, List.length_set, List.take_set, htk, rowOf_set1 l i r u hr]
def mvY (x : List S64) (d : Int) (i : Nat) : List S64 := Cls.shift (x.take i) d ++ x.drop i
theorem mvY_length (x : List S64) (d : Int) (i : Nat) : (mvY x d i).length = x.length := by simp [mvY, Cls.shift]; omega
theorem mvY_at {x : List S64} {d : Int} {i : Nat} {r : S64} (h : x[i]? = some r) : (mvY x d i)[i]? = some r ∧ ((mvY x d i).set i ⟨r.f0 + d, r.f1⟩).set i ⟨r.f0 + d, r.f1 + d⟩ = mvY x d (i + 1) := by
 obtain ⟨hi, e⟩ := List.getElem?_eq_some_iff.1 h
 have hl : (Cls.shift (x.take i) d).length = i := by simp [Cls.shift]; omega
 have hd : x.drop i = r :: x.drop (i + 1) := by rw [List.drop_eq_getElem_cons hi, e]
 unfold mvY
 refine ⟨by rw [List.getElem?_append_right (by omega), hl, hd]; simp, ?_⟩
 rw [List.set_append_right _ _ (by omega), hl, hd, show i - i = 0 by omega, List.set_cons_zero, List.set_append_right _ _ (by omega), hl, show i - i = 0 by omega, List.set_cons_zero, List.take_add_one, h]
 simp [Cls.shift]
set_option maxHeartbeats 8000000 in
set_option maxRecDepth 100000 in
theorem moved_calls (w : World) (A : Option Addr) (c : Nat) (l : List S64) (lo hi d : Int) (h : RdAt w A c l) (hd : -32 ≤ d ∧ d ≤ 32) (h0 : 0 ≤ lo) (h1 : lo ≤ hi) (h2 : hi ≤ 1000) : Calls Tryz.prog 120 #[.slice A l.length c, .int .i64 lo, .int .i64 hi, .int .i64 d] w fun e w' => ∃ v, e = .returned v ∧ Row w' w.heap.size v (Cls.shift (Cls.inter (Cls.cls l) [⟨lo, hi⟩]) d) ∧ Below w.heap.size w w' := by
 have hbw := (Below.refl w.heap.size w).alloc (Nat.le_refl _) (.cells #[.int .i64 lo, .int .i64 hi] 39)
 have hin1 : inR [(⟨lo, hi⟩ : S64)] = true := (inR_iff _).2 fun r hr => by simp at hr; subst hr; simp only; omega
 obtain ⟨A2, c2, e2, hrd⟩ := Row.rd (show Row (w.alloc (.cells #[.int .i64 lo, .int .i64 hi] 39)) w.heap.size (.slice (some ⟨w.heap.size, 0, none⟩) 1 1) [⟨lo, hi⟩] from ⟨own_made w [⟨lo, hi⟩] (by simp) (by simp), hin1, by simp⟩)
 obtain ⟨rfl, hz1, rfl⟩ := Value.slice.inj e2
 clear hz1
 have H1 := Lib.hid (and_calls (w.alloc (.cells #[.int .i64 lo, .int .i64 hi] 39)) A (some ⟨w.heap.size, 0, none⟩) c 1 l [⟨lo, hi⟩] (h.below hbw) hrd)
 have e : Cls.and_ l [⟨lo, hi⟩] = Cls.inter (Cls.cls l) [⟨lo, hi⟩] := by unfold Cls.and_; rw [cls_of_can (can_one lo hi h1)]
 rw [e] at H1
 obtain ⟨x, hx⟩ : ∃ x, x = Cls.inter (Cls.cls l) [⟨lo, hi⟩] := ⟨_, rfl⟩
 rw [← hx] at H1 ⊢
 have hxl : x.length ≤ 2000 := by have := between_length l lo hi h1; rw [hx]; omega
 have hxr : ∀ r, r ∈ x → lo ≤ r.f0 ∧ r.f0 ≤ r.f1 ∧ r.f1 ≤ hi := fun r hr => by
  rw [hx] at hr
  obtain ⟨p, q, _, hq, rfl, hle⟩ := Cls.inter_from _ _ r hr
  simp at hq
  subst hq
  simp only at hle ⊢
  omega
 have HXR := Lib.hid (And.intro hxr (And.intro (show inR (Cls.shift x d) = true by rw [hx]; exact between_inR l lo hi d hd h0 h1 h2) hbw))
 have HXL := Lib.hid hxl
 have HLH := Lib.hid (And.intro hd (And.intro h0 (And.intro h1 h2)))
 clear h hrd hin1 e e2 hx hxr hbw hd h0 h1 h2 hxl
 go_enter Tryz.func120, Tryz.ntmps120
 go_wp2_with fail
 refine H1.out.mono ?_
 rintro e w2 ⟨v2, rfl, ho, hb⟩
 have HB2 := Lib.hid (HXR.out.2.2.trans (hb.mono HXR.out.2.2.size))
 have hbase : w.heap.size ≤ w2.heap.size := HB2.out.size
 have ho0 : w2.ownsRow w.heap.size 39 2 v2 x.length (rowOf x) := own_weaken ho HXR.out.2.2.size
 obtain ⟨Ax, cx, rfl, hcx, _⟩ := own_sl ho0
 have HST := Lib.hid ho0
 clear ho hb H1 ho0
 go_wp2_with fail
 go_loopg [19] x.length (fun gg s19 wr => ∃ i : Nat, i ≤ x.length ∧ s19 = .int .i64 i ∧ Aside0 (wr.ownsRow w.heap.size 39 2 (.slice Ax x.length cx) (mvY x d i).length (rowOf (mvY x d i)) ∧ Below w.heap.size w wr) ∧ x.length - i ≤ gg)
 case atStart => exact ⟨0, Nat.zero_le _, rfl, ⟨by simpa [mvY, Cls.shift] using HST.out, HB2.out⟩, by omega⟩
 case round =>
  obtain ⟨i, hi', rfl, HJ, hgg⟩ := hrel
  by_cases hlt : i < x.length
  ·obtain ⟨r, hr⟩ : ∃ r, x[i]? = some r := ⟨_, List.getElem?_eq_getElem hlt⟩
   obtain ⟨hy, hys⟩ := mvY_at (d := d) hr
   have hrr := HXR.out.1 r (List.mem_of_getElem? hr)
   obtain ⟨g, c3, e3, hg, hgl, k0, k1, hf, s0, _⟩ := own_at HJ.out.1 hy
   obtain ⟨rfl, hz1, rfl⟩ := Value.slice.inj e3
   clear hz1
   have hlz : (i : Int) < (x.length : Int) := by omega
   have hi9 : i + 1 < 900000000000000 := by have := HXL.out; omega
   have hf0 := hf (i * 2)
   have HI := Lib.hid (And.intro (s0 (r.f0 + d)) (And.intro hys (And.intro hy (And.intro hg HJ.out.2))))
   have hz0 : (0 : Int) ≤ (i : Int) := by omega
   have hlh := HLH.out
   have hfit : -9223372036854775808 ≤ r.f0 + d ∧ r.f0 + d ≤ 9223372036854775807 := by omega
   have hfit2 : -9223372036854775808 ≤ r.f1 + d ∧ r.f1 + d ≤ 9223372036854775807 := by omega
   clear s0 hf hys hy e3 HST HJ hg hr k1 hlh hrr
   go_upto_region 6 with fail
   obtain ⟨W5, hW5⟩ : ∃ X, X = wr.setCell ⟨g, i * 2, none⟩ (.int .i64 (r.f0 + d)) := ⟨_, rfl⟩
   rw [← hW5]
   have ho5 := HI.out.1
   rw [← hW5] at ho5
   have hb5 : Below w.heap.size w W5 := by rw [hW5]; exact HI.out.2.2.2.2.setCell HI.out.2.2.2.1 _
   have hl5 : W5.heap.size = wr.heap.size := by rw [hW5]; simp [World.setCell]
   obtain ⟨g', c4, e4, hg4, hgl4, _, k1, hf4, _, s1⟩ := own_at (i := i) (r := ⟨r.f0 + d, r.f1⟩) ho5 (by rw [List.getElem?_set_self (by rw [mvY_length]; exact hlt)])
   obtain ⟨e5, hz1, hc4⟩ := Value.slice.inj e4
   cases e5
   subst hc4
   have hf5 := hf4 (i * 2 + 1)
   have ho6 := s1 (r.f1 + d)
   simp only at ho6
   rw [HI.out.2.1] at ho6
   have HO := Lib.hid (And.intro ho6 (And.intro hb5 hg4))
   clear hW5 ho5 hb5 hf4 s1 ho6 hz1 e4 hg4 hl5 k0 hf0 hgl
   simp only at k1
   go_wp2_with fail
   go_roundg (x.length - (i + 1))
   case measure => omega
   case rel => exact ⟨i + 1, by omega, by go_num, ⟨HO.out.1, HO.out.2.1.setCell HO.out.2.2 _⟩, Nat.le_refl _⟩
  ·obtain rfl : i = x.length := by omega
   have HF := Lib.hid HJ.out
   have HY := Lib.hid (show mvY x d x.length = Cls.shift x d by simp [mvY])
   clear HJ HST hgg hi'
   go_wp2_with fail
   go_ret
   exact ⟨_, rfl, ⟨by have h := HF.out.1; rw [HY.out] at h; exact h, HXR.out.2.1, by rw [shift_length]; have := HXL.out; omega⟩, HF.out.2⟩
set_option maxHeartbeats 4000000 in
set_option maxRecDepth 100000 in
theorem fold_calls (w : World) (A : Option Addr) (c : Nat) (l : List S64) (h : RdAt w A c l) : Calls Tryz.prog 63 #[.slice A l.length c] w fun e w' => ∃ v, e = .returned v ∧ w'.ownsRow w.heap.size 39 2 v (Cls.fold l).length (rowOf (Cls.fold l)) ∧ Below w.heap.size w w' := by
 have H1 := Lib.hid (moved_calls w A c l 65 90 32 h (by omega) (by omega) (by omega) (by omega))
 have H2 := Lib.hid (fun (w' : World) (hb : Below w.heap.size w w') => moved_calls w' A c l 97 122 (-32) (h.below hb) (by omega) (by omega) (by omega) (by omega))
 have hlen := toFold_length l
 have hin := toFold_inR l h.2.2.1
 obtain ⟨C, hC⟩ : ∃ C, C = Cls.fold l := ⟨_, rfl⟩
 have hC2 : C = Cls.cls (Cls.toFold l) := hC
 rw [← hC]
 unfold Cls.toFold at hC2 hlen hin
 generalize Cls.shift (Cls.inter (Cls.cls l) [⟨65, 90⟩]) 32 = l1 at *
 generalize Cls.shift (Cls.inter (Cls.cls l) [⟨97, 122⟩]) (-32) = l2 at *
 have HH := Lib.hid (And.intro h (And.intro hlen (And.intro hin hC2)))
 clear h hlen hin hC hC2
 go_enter Tryz.func63, Tryz.ntmps63
 go_wp2_with fail
 refine H1.out.mono ?_
 rintro e w1 ⟨v1, rfl, hr1, hb1⟩
 obtain ⟨A1, c1, rfl, hd1⟩ := hr1.rd
 have HX := Lib.hid (And.intro hd1 hb1)
 clear hr1 hd1 hb1 H1
 go_wp2_with fail
 refine (H2.out w1 HX.out.2).mono ?_
 rintro e w2 ⟨v2, rfl, hr2, hb2⟩
 obtain ⟨A2, c2, rfl, hd2⟩ := hr2.rd
 have hbA := (Below.refl w2.heap.size w2).alloc (Nat.le_refl _) (.cells #[.slice A l.length c, .slice A1 l1.length c1, .slice A2 l2.length c2] 35)
 have HB2 := Lib.hid (HX.out.2.trans (hb2.mono HX.out.2.size))
 have hcon := concat_calls [(A, c, l), (A1, c1, l1), (A2, c2, l2)] w2.heap.size 3 (w2.alloc (.cells #[.slice A l.length c, .slice A1 l1.length c1, .slice A2 l2.length c2] 35)) (by simp) (by simp) (by have h1 := HH.out.2.1; have h2 := HH.out.1.2.2.2; simp [tot] at h1 ⊢; omega) (fun i x hx => by
  match i, hx with
  | 0, hx => simp at hx; subst hx; exact ⟨by simp, (((HH.out.1.below HX.out.2).below hb2).below hbA).1⟩
  | 1, hx => simp at hx; subst hx; exact ⟨by simp, ((HX.out.1.below hb2).below hbA).1⟩
  | 2, hx => simp at hx; subst hx; exact ⟨by simp, (hd2.below hbA).1⟩
  | i + 3, hx => simp at hx)
 have hcat : cat [(A, c, l), (A1, c1, l1), (A2, c2, l2)] 3 = l ++ (l1 ++ l2) := by simp [cat]
 simp only [List.length_cons, List.length_nil, Nat.zero_add, Nat.reduceAdd] at hcon
 rw [hcat] at hcon
 have HB3 := Lib.hid (HB2.out.trans (hbA.mono HB2.out.size))
 have HC := Lib.hid hcon
 clear hcat hcon hr2 hd2 hb2 hbA H2
 go_wp2_with fail
 refine HC.out.mono ?_
 rintro e w3 ⟨v3, rfl, hR, hb⟩
 have hb3 := HB3.out.trans (hb.mono HB3.out.size)
 have HJ := Lib.hid (joined_calls w w3 v3 (l ++ (l1 ++ l2)) hb3 (own_weaken (own_of_R hR) HB3.out.size) HH.out.2.2.1 (by have h1 := HH.out.2.1; have h2 := HH.out.1.2.2.2; omega))
 rw [← HH.out.2.2.2] at HJ
 clear hR hb hb3 HC
 go_wp2_with fail
 refine HJ.out.mono ?_
 rintro e w4 ⟨v4, rfl, ho, hb⟩
 have HF := Lib.hid (And.intro ho hb)
 clear ho hb HJ
 go_wp2_with fail
 go_ret
 exact ⟨_, rfl, HF.out⟩
end Go.Proofs.YtamhkdlcoghdbaaGreatDoor.PCls
/- Out of Hb (wip/tools/prune2.py): the declarations alone that the texts of the trees name. -/
namespace Go.Proofs.YtamhkdlcoghdbaaGreatDoor.PCls
open Go.RowKit Go.Shelf Go.Proofs.YtamhkdlcoghdbaaGreatDoorW.PrintWords Go.Proofs.YtamhkdlcoghdbaaGreatDoorW.PrintLast Go.Proofs.YtamhkdlcoghdbaaGreatDoorW.PrintMore
set_option linter.unusedVariables false
set_option linter.unusedSimpArgs false
theorem class_row (w : World) (base : Nat) (v : Value) (l : List S64) (h : Row w base v l) : Calls Tryz.prog 193 #[v] w fun e w' => ∃ v', e = .returned v' ∧ Row w' w.heap.size v' (Cls.cls l) ∧ Below w.heap.size w w' := by
 obtain ⟨A, c, rfl, hd⟩ := h.rd
 exact class_calls w A c l hd
/-- between two rounds over the first class -/
def LsHd (W w2 wr : World) (x R : List S64) (i : Nat) (v1 v5 : Value) : Prop := ∃ bb out : List S64, SlAt w2 v1 bb ∧ wr.ownsRow w2.heap.size 39 2 v5 out.length (rowOf out) ∧ Below w2.heap.size w2 wr ∧ (inR bb = true ∧ bb.length < 2000000) ∧ out ++ Cls.less (x.drop i) bb = R
/-- between two rounds of the cutting -/
def LsCt (w2 wq : World) (q : Nat) (rhi : Int) (d rest R : List S64) (k : Nat) (v5 : Value) : Prop := ∃ (lo : Int) (out : List S64), wq.heap[q]? = some (.cells #[.int .i64 lo, .int .i64 rhi] 39 (0, 0)) ∧ wq.ownsRow w2.heap.size 39 2 v5 out.length (rowOf out) ∧ v5.ownBlock ≠ some q ∧ Below w2.heap.size w2 wq ∧ (-9223372036854775808 ≤ lo ∧ lo ≤ 9223372036854775807) ∧ out ++ (Cls.cut rhi lo (d.drop k) ++ Cls.less rest d) = R
/-- behind the cutting -/
def LsEn (w2 wq : World) (q : Nat) (rhi : Int) (d rest R : List S64) (left : Bool) (v5 : Value) : Prop := ∃ (lo : Int) (out : List S64), wq.heap[q]? = some (.cells #[.int .i64 lo, .int .i64 rhi] 39 (0, 0)) ∧ wq.ownsRow w2.heap.size 39 2 v5 out.length (rowOf out) ∧ v5.ownBlock ≠ some q ∧ Below w2.heap.size w2 wq ∧ (-9223372036854775808 ≤ lo ∧ lo ≤ 9223372036854775807) ∧ out ++ ((if left = true then [(⟨lo, rhi⟩ : S64)] else []) ++ Cls.less rest d) = R
theorem ls_blk {W : World} {g : Nat} {t : TypeId} {cur : Array Value} (h : W.heap[g]? = some (.cells cur t (0, 0))) (o : Nat) (v : Value) : (W.setCell ⟨g, o, none⟩ v).heap[g]? = some (.cells (cur.setIfInBounds o v) t (0, 0)) := by
 simp only [World.setCell, Array.getElem?_modify]
 rw [h]
 simp
set_option maxHeartbeats 8000000 in
set_option maxRecDepth 100000 in
theorem less_row (W : World) (b1 b2 : Nat) (v1 v2 : Value) (l1 l2 : List S64) (h1 : Row W b1 v1 l1) (h2 : Row W b2 v2 l2) (hin : inR (Cls.less_ l1 l2) = true) (hlen : (Cls.less_ l1 l2).length < 2000000) :
  Calls Tryz.prog 150 #[v1, v2] W fun e w' => ∃ v', e = .returned v' ∧ Row w' W.heap.size v' (Cls.less_ l1 l2) ∧ Below W.heap.size W w' := by
 have HC1 := Lib.hid (class_row W b1 v1 l1 h1)
 have HC2 := Lib.hid (fun (w : World) (hb : Below W.heap.size W w) => class_row w b2 v2 l2 (h2.below hb))
 obtain ⟨R, hR⟩ : ∃ R, R = Cls.less_ l1 l2 := ⟨_, rfl⟩
 rw [← hR] at hin hlen ⊢
 have HR := Lib.hid (And.intro hR (And.intro hin hlen))
 obtain ⟨A1, cp1, rfl⟩ := h1.form
 obtain ⟨A2, cp2, rfl⟩ := h2.form
 clear h1 h2 hR hin hlen
 go_enter Tryz.func150, Tryz.ntmps150
 go_wp2_with fail
 refine HC1.out.mono ?_
 rintro e w1 ⟨u1, rfl, hr1, hb1⟩
 have HX := Lib.hid (And.intro hr1 hb1)
 clear hr1 hb1 HC1
 go_wp2_with fail
 refine (HC2.out w1 HX.out.2).mono ?_
 rintro e w2 ⟨u2, rfl, hr2, hb2⟩
 have hx2 := HX.out.1.below hb2
 have HB2 := Lib.hid (HX.out.2.trans (hb2.mono HX.out.2.size))
 obtain ⟨x, hxe⟩ : ∃ x, x = Cls.cls l1 := ⟨_, rfl⟩
 have HXE := Lib.hid hxe
 rw [← hxe] at hx2
 have hst : LsHd W w2 w2 x R 0 u2 (.slice none 0 0) := ⟨Cls.cls l2, [], hr2.sl, ⟨rfl, .inl ⟨rfl, rfl⟩⟩, Below.refl _ _, hr2.2, by rw [hxe]; exact HR.out.1.symm⟩
 have hxin := hx2.2.1
 have hxl := hx2.2.2
 obtain ⟨Ax, cx, rfl, hcx, hxc⟩ := hx2.sl
 have HXC := Lib.hid (And.intro hxc hxin)
 have HST := Lib.hid hst
 clear hr2 hb2 hx2 hst HC2 HX hxc hxin hxe
 go_wp2_with fail
 go_loopg [1, 5, 17] x.length (fun gg s1 s5 s17 wr => ∃ (i : Nat), i ≤ x.length ∧ s17 = .int .i64 i ∧ Aside0 (LsHd W w2 wr x R i s1 s5) ∧ x.length - i ≤ gg)
 case atStart => exact ⟨0, Nat.zero_le _, rfl, ⟨HST.out⟩, by omega⟩
 case round =>
  obtain ⟨i, hi, rfl, HS, hgg⟩ := hrel
  by_cases hlt : i < x.length
  ·obtain ⟨r, hr⟩ : ∃ r, x[i]? = some r := ⟨_, List.getElem?_eq_getElem hlt⟩
   obtain ⟨bb, out, hbb, hout, hbw, hbin, heq⟩ := HS.out
   obtain ⟨gx, ox, rfl, hgx, hc0, hc1⟩ := HXC.out.1 i r hr
   have hrin := inR_at HXC.out.2 hr
   have k0 := (hbw.cell (p := ⟨gx, _, none⟩) hgx).trans hc0
   have k1 := (hbw.cell (p := ⟨gx, _, none⟩) hgx).trans hc1
   have hdr : x.drop i = r :: x.drop (i + 1) := by
    obtain ⟨hi', e⟩ := List.getElem?_eq_some_iff.1 hr
    rw [List.drop_eq_getElem_cons hi', e]
   rw [hdr, Cls.less_cons] at heq
   have hlz : (i : Int) < (x.length : Int) := by omega
   have hi9 : i + 1 < 900000000000000 := by omega
   have hgx2 := Nat.lt_of_lt_of_le hgx hbw.size
   obtain ⟨rest, hrest⟩ : ∃ l, l = x.drop (i + 1) := ⟨_, rfl⟩
   rw [← hrest] at heq
   have HRE := Lib.hid hrest
   obtain ⟨rlo, rhi⟩ := r
   simp only [S64.f0, S64.f1] at k0 k1 hrin heq
   have hq1 : wr.ownsRow w2.heap.size 39 2 u5 out.length (rowOf out) := hout
   have HI := Lib.hid (And.intro hbb (And.intro hout (And.intro hbw (And.intro hbin heq))))
   clear hbb hout hbw hbin heq hdr HST HS hc0 hc1 hr hrest hq1
   go_upto_block 2 with fail
   obtain ⟨q, hq⟩ : ∃ q, q = wr.heap.size := ⟨_, rfl⟩
   obtain ⟨W3, hW3⟩ : ∃ X, X = wr.alloc (Obj.cells #[Value.int IntKind.i64 rlo, Value.int IntKind.i64 rhi] 39) := ⟨_, rfl⟩
   rw [← hW3, ← hq]
   have g0 : W3.heap[q]? = some (.cells #[.int .i64 rlo, .int .i64 rhi] 39 (0, 0)) := by rw [hW3, hq]; exact heap_alloc_new _ _
   have g1 : Below wr.heap.size wr W3 := by rw [hW3]; exact (Below.refl _ _).alloc (Nat.le_refl _) _
   have HQ := Lib.hid (And.intro hq g1)
   have HG := Lib.hid g0
   clear hW3 hq g1 k0 k1
   have hq2 : w2.heap.size ≤ q := by rw [HQ.out.1]; exact HI.out.2.2.1.size
   have c0 : W3.cell? ⟨q, 0, none⟩ = some (.int .i64 rlo) := lk_cell g0 (by rfl)
   clear g0
   have hB3 : Below w2.heap.size w2 W3 := HI.out.2.2.1.trans (HQ.out.2.mono HI.out.2.2.1.size)
   have HB3 := Lib.hid hB3
   go_cut [1] (fun s1 wc => ∃ d, SlAt w2 s1 d ∧ inR d = true ∧ d = bb.dropWhile (fun x => decide (x.f1 < rlo)) ∧ Aside0 (wc.heap = W3.heap ∧ Below w2.heap.size w2 wc))
   case first =>
    go_wp2_with fail
    go_loopg [1] bb.length (fun gg s1 wc => ∃ d, Aside0 (SlAt w2 s1 d ∧ inR d = true ∧ d.dropWhile (fun x => decide (x.f1 < rlo)) = bb.dropWhile (fun x => decide (x.f1 < rlo))) ∧ Aside0 (wc.heap = W3.heap ∧ Below w2.heap.size w2 wc) ∧ d.length ≤ gg)
    case atStart => exact ⟨bb, ⟨HI.out.1, HI.out.2.2.2.1.1, rfl⟩, ⟨rfl, HB3.out⟩, Nat.le_refl _⟩
    case round =>
     obtain ⟨d, HD, HW, hdg⟩ := hrel
     have c1 : wr.cell? ⟨q, 0, none⟩ = some (.int .i64 rlo) := lk_cell (i := 0) ((congrArg (·[q]?) HW.out.1).trans HG.out) rfl
     clear c0
     cases d with
     | nil =>
      obtain ⟨Ad, cd, rfl, hcd, hdd⟩ := HD.out.1
      go_wp2
      repeat (go_quiet (fail); try go_wp2)
      go_meet
      exact ⟨[], HD.out.1, rfl, by simpa using HD.out.2.2, ⟨HW.out.1, pw_below_drewN HW.out.2 _⟩⟩
     | cons y d =>
      obtain ⟨Ad, cd, rfl, hcd, hdd⟩ := HD.out.1
      obtain ⟨gd, od, rfl, hgd, hd0, hd1⟩ := hdd 0 y rfl
      have m1 := (HW.out.2.cell (p := ⟨gd, _, none⟩) hgd).trans hd1
      have hyr := inR_at HD.out.2.1 (j := 0) (r := y) rfl
      clear hdd hd0 hd1
      obtain ⟨ylo, yhi⟩ := y
      simp only [S64.f0, S64.f1, List.length_cons] at m1 hcd hyr hdg ⊢
      have hyp : (0 : Int) < ((d.length + 1 : Nat) : Int) := by omega
      have hin' : inR d = true := (inR_iff _).2 fun r hr => (inR_iff _).1 HD.out.2.1 r (List.mem_cons_of_mem _ hr)
      have HIN := Lib.hid hin'
      clear hin'
      by_cases hy : yhi < rlo
      ·have hdw : d.dropWhile (fun x => decide (x.f1 < rlo)) = bb.dropWhile (fun x => decide (x.f1 < rlo)) := by rw [← HD.out.2.2, List.dropWhile_cons]; simp [hy]
       have HDW := Lib.hid hdw
       clear hdw
       go_wp2
       repeat (go_quiet (fail); try go_wp2)
       ·have h0 : d = [] := List.eq_nil_of_length_eq_zero (by omega)
        have H0 := Lib.hid h0
        clear h0
        go_roundg d.length
        case measure => omega
        case rel => exact ⟨[], ⟨by rw [H0.out]; exact SlAt.nil _ _ _, rfl, by have h := HDW.out; rw [H0.out] at h; exact h⟩, ⟨HW.out.1, pw_below_drewN HW.out.2 _⟩, Nat.zero_le _⟩
       ·go_roundg d.length
        case measure => omega
        case rel => exact ⟨d, ⟨HD.out.1.tail, HIN.out, HDW.out⟩, ⟨HW.out.1, pw_below_drewN HW.out.2 _⟩, Nat.le_refl _⟩
      ·go_wp2
       repeat (go_quiet (fail); try go_wp2)
       go_meet
       exact ⟨_, HD.out.1, HD.out.2.1, by rw [← HD.out.2.2]; simp [List.dropWhile_cons, hy], ⟨HW.out.1, pw_below_drewN HW.out.2 _⟩⟩
   case rest =>
    obtain ⟨d, hd, hdin, hde, HW⟩ := hcut
    rw [← hde] at HI
    obtain ⟨Ad, cd, rfl, hcd, hdd⟩ := hd
    have HDD := Lib.hid (And.intro hdd hdin)
    have hst : LsCt w2 wc q rhi d rest R 0 u5 := by
     refine ⟨rlo, out, (congrArg (·[q]?) HW.out.1).trans HG.out, ownMove HI.out.2.1 (fun k hk => (congrArg (·[k]?) HW.out.1).trans (HQ.out.2.block k (ownLt HI.out.2.1 k hk).2)), fun e => by have := (ownLt HI.out.2.1 q e).2; have := HQ.out.1; omega, HW.out.2, ⟨hrin.1, hrin.2.1⟩, HI.out.2.2.2.2⟩
    have HST := Lib.hid hst
    have hrh := hrin.2.2
    have HDE := Lib.hid hde
    have hdl : d.length < 2000000 := by have h1 := HI.out.2.2.2.1.2; have h2 := (List.dropWhile_sublist (fun x : S64 => decide (x.f1 < rlo)) (l := bb)).length_le; rw [hde]; omega
    clear hdd hdin hst hrin c0 hde HG HQ
    go_upto_block 4 with fail
    go_cut [5, 8] (fun s5 s8 wx => ∃ left, s8 = .bool left ∧ Aside0 (LsEn w2 wx q rhi d rest R left s5))
    case first =>
     go_wp2_with fail
     go_loopg [5, 8, 37] d.length (fun gg s5 s8 s37 wx => ∃ k : Nat, k ≤ d.length ∧ s37 = .int .i64 k ∧ s8 = .bool true ∧ Aside0 (LsCt w2 wx q rhi d rest R k s5) ∧ d.length - k ≤ gg)
     case atStart => exact ⟨0, Nat.zero_le _, rfl, rfl, ⟨HST.out⟩, by omega⟩
     case round =>
      obtain ⟨k, hk, rfl, rfl, HS, hkg⟩ := hrel
      obtain ⟨lo, out2, e0, e1, e2, e3, e4, e5⟩ := HS.out
      by_cases hkl : k < d.length
      ·obtain ⟨y, hy⟩ : ∃ y, d[k]? = some y := ⟨_, List.getElem?_eq_getElem hkl⟩
       obtain ⟨gd, od, rfl, hgd, hd0, hd1⟩ := HDD.out.1 k y hy
       have hyr := inR_at HDD.out.2 hy
       have m0 := (e3.cell (p := ⟨gd, _, none⟩) hgd).trans hd0
       have m1 := (e3.cell (p := ⟨gd, _, none⟩) hgd).trans hd1
       have hgd2 := Nat.lt_of_lt_of_le hgd e3.size
       have hdr : d.drop k = y :: d.drop (k + 1) := by
        obtain ⟨hi', e⟩ := List.getElem?_eq_some_iff.1 hy
        rw [List.drop_eq_getElem_cons hi', e]
       rw [hdr, Cls.cut_cons] at e5
       obtain ⟨ylo, yhi⟩ := y
       simp only [S64.f0, S64.f1] at m0 m1 hyr e5
       have HE := Lib.hid (And.intro e0 (And.intro e1 (And.intro e2 (And.intro e3 e5))))
       have hk9 : k + 1 < 900000000000000 := by omega
       have hkz : (k : Int) < (d.length : Int) := by omega
       clear e0 e1 e2 e3 e5 HS hd0 hd1 hdr hy
       go_upto_region 12 with fail
       obtain ⟨q4, hq4⟩ : ∃ q, q = wr.heap.size := ⟨_, rfl⟩
       obtain ⟨W4, hW4⟩ : ∃ X, X = wr.alloc (Obj.cells #[Value.int IntKind.i64 ylo, Value.int IntKind.i64 yhi] 39) := ⟨_, rfl⟩
       rw [← hW4, ← hq4]
       have hqq : q < q4 := by rw [hq4]; exact (Array.getElem?_eq_some_iff.1 HE.out.1).1
       have g0 : W4.heap[q]? = some (.cells #[.int .i64 lo, .int .i64 rhi] 39 (0, 0)) := by rw [hW4, heap_alloc_old _ _ (by omega)]; exact HE.out.1
       have g4 : W4.heap[q4]? = some (.cells #[.int .i64 ylo, .int .i64 yhi] 39 (0, 0)) := by rw [hW4, hq4]; exact heap_alloc_new _ _
       have ho4 : W4.ownsRow w2.heap.size 39 2 u5 out2.length (rowOf out2) := by rw [hW4]; exact HE.out.2.1.alloc _
       have hB4 : Below w2.heap.size w2 W4 := by rw [hW4]; exact HE.out.2.2.2.1.alloc HE.out.2.2.2.1.size _
       have hu5 : ∀ j, u5.ownBlock = some j → j < q4 := fun j hj => by rw [hq4]; exact (ownLt HE.out.2.1 j hj).2
       have hs4 : W4.heap.size = q4 + 1 := by rw [hW4, hq4]; simp
       have H4 := Lib.hid (And.intro ho4 (And.intro hB4 (And.intro HE.out.2.2.1 (And.intro hu5 hs4))))
       have H5 := Lib.hid HE.out.2.2.2.2
       have H6 := Lib.hid (And.intro g0 g4)
       have c0 := lk_cell (i := 0) g0 rfl
       have c1 := lk_cell (i := 1) g0 rfl
       have k0 := lk_cell (i := 0) g4 rfl
       have k1 := lk_cell (i := 1) g4 rfl
       clear hW4 hq4 g0 g4 ho4 hB4 hu5 hs4 m0 m1 HE
       by_cases hgt : rhi < ylo
       ·go_wp2_with fail
        go_meet
        refine ⟨true, rfl, ⟨lo, out2, H6.out.1, H4.out.1, H4.out.2.2.1, H4.out.2.1, e4, ?_⟩⟩
        have h := H5.out
        rw [if_pos hgt] at h
        exact h
       ·have hR5 : (out2 ++ ((if lo < ylo then [(⟨lo, ylo - 1⟩ : S64)] else []) ++ ((if yhi < rhi then Cls.cut rhi (yhi + 1) (d.drop (k + 1)) else []) ++ Cls.less rest d))) = R := by
         have h := H5.out
         rw [if_neg (by omega)] at h
         simpa [List.append_assoc] using h
        have HR5 := Lib.hid hR5
        have hol : out2.length < 8000000 := by
         have h := congrArg List.length hR5
         have h2 := HR.out.2.2
         rw [List.length_append] at h
         omega
        clear hR5 H5
        go_upto_region 13 with fail
        go_upto_if 50 with fail
        go_cut [5] (fun s5 wx => ∃ out3, Aside0 (wx.heap[q]? = some (.cells #[.int .i64 lo, .int .i64 rhi] 39 (0, 0)) ∧ wx.heap[q4]? = some (.cells #[.int .i64 ylo, .int .i64 yhi] 39 (0, 0)) ∧ wx.ownsRow w2.heap.size 39 2 s5 out3.length (rowOf out3) ∧ s5.ownBlock ≠ some q ∧ Below w2.heap.size w2 wx ∧ out3 ++ ((if yhi < rhi then Cls.cut rhi (yhi + 1) (d.drop (k + 1)) else []) ++ Cls.less rest d) = R))
        case first =>
         by_cases hly : lo < ylo
         ·have hfit : -9223372036854775808 ≤ ylo - 1 ∧ ylo - 1 ≤ 9223372036854775807 := by omega
          obtain ⟨v', W5, hrun, hown, hg, hat⟩ := own_range (X := W4.alloc (.cells #[.int .i64 lo, .int .i64 (ylo - 1)] 39)) (H4.out.1.alloc _) ⟨W4.heap.size, 0, none⟩ lo (ylo - 1) (by have := H4.out.2.1.size; simp; omega) hol (lk_cell (i := 0) (heap_alloc_new _ _) rfl) (lk_cell (i := 1) (heap_alloc_new _ _) rfl)
          have HRUN := Lib.hid hrun
          have HO := Lib.hid (And.intro hown (And.intro hg hat))
          clear hrun hown hg hat
          go_wp2_with (at_builtin; refine Lib.wpList_append_run _ rfl _ _ _ _ rfl _ _ rfl rfl _ _ HRUN.out ?_)
          go_meet
          have hx0 : ∀ k o, W4.heap[k]? = some o → some k ≠ u5.ownBlock → W5.heap[k]? = some o := fun k o h hne => (HO.out.2.1.block k (by have := (Array.getElem?_eq_some_iff.1 h).1; simp; omega) hne).trans ((heap_alloc_old _ _ (Array.getElem?_eq_some_iff.1 h).1).trans h)
          refine ⟨out2 ++ [⟨lo, ylo - 1⟩], ⟨hx0 q _ H6.out.1 (fun e => H4.out.2.2.1 e.symm), hx0 q4 _ H6.out.2 (fun e => by have := H4.out.2.2.2.1 q4 e.symm; omega), HO.out.1, ?_, ?_, ?_⟩⟩
          ·rcases HO.out.2.2 with e | e
           ·rw [e]; exact H4.out.2.2.1
           ·rw [e]; intro e'; have e2 := Option.some.inj e'; have e3 := H4.out.2.2.2.2; simp at e2; omega
          ·exact (H4.out.2.1.alloc H4.out.2.1.size _).grown HO.out.2.1 (by have := H4.out.2.1.size; simp; omega) (fun k hk => (ownLt H4.out.1 k hk).1)
          ·have h := HR5.out
           rw [if_pos (by omega)] at h
           simpa [List.append_assoc] using h
         ·go_wp2_with fail
          go_meet
          exact ⟨out2, ⟨H6.out.1, H6.out.2, H4.out.1, H4.out.2.2.1, H4.out.2.1, by have h := HR5.out; rw [if_neg (by omega)] at h; exact h⟩⟩
        case rest =>
         obtain ⟨out3, HN⟩ := hcut
         have c0' := lk_cell (i := 0) HN.out.1 rfl
         have c1' := lk_cell (i := 1) HN.out.1 rfl
         have k1' := lk_cell (i := 1) HN.out.2.1 rfl
         have fz0 := blk_frozen HN.out.1 0
         clear c0 c1 k0 k1 H4 H6 HR5
         by_cases hyr2 : yhi < rhi
         ·have hfit : -9223372036854775808 ≤ yhi + 1 ∧ yhi + 1 ≤ 9223372036854775807 := by omega
          go_wp2_with fail
          go_roundg (d.length - (k + 1))
          case measure => omega
          case rel => exact ⟨k + 1, by omega, by go_num, rfl, ⟨yhi + 1, out3, ls_blk HN.out.1 0 _, ownMove HN.out.2.2.1 (fun j hj => Below.heap_setCell _ _ _ j (fun e => HN.out.2.2.2.1 (by rw [hj]; exact congrArg some e))), HN.out.2.2.2.1, HN.out.2.2.2.2.1.setCell hq2 _, hfit, by have h := HN.out.2.2.2.2.2; rw [if_pos (by omega)] at h; exact h⟩, by omega⟩
         ·go_wp2_with fail
          go_meet
          exact ⟨false, rfl, ⟨lo, out3, HN.out.1, HN.out.2.2.1, HN.out.2.2.2.1, HN.out.2.2.2.2.1, e4, by have h := HN.out.2.2.2.2.2; rw [if_neg (by omega)] at h; exact h⟩⟩
      ·go_wp2_with fail
       go_meet
       have hdn : d.drop k = [] := List.drop_eq_nil_of_le (by omega)
       exact ⟨true, rfl, ⟨lo, out2, e0, e1, e2, e3, e4, by rw [hdn] at e5; exact e5⟩⟩
    case rest =>
     obtain ⟨left, rfl, HN⟩ := hcut
     obtain ⟨lo, out2, e0, e1, e2, e3, e4, e5⟩ := HN.out
     have HD2 := Lib.hid (show SlAt w2 (.slice Ad d.length cd) d ∧ (inR d = true ∧ d.length < 2000000) from ⟨⟨Ad, cd, rfl, hcd, HDD.out.1⟩, HDD.out.2, hdl⟩)
     cases left with
     | true =>
      have hol : out2.length < 8000000 := by
       have h := congrArg List.length e5
       have h2 := HR.out.2.2
       rw [List.length_append] at h
       omega
      obtain ⟨v', W6, hrun, hown, hg, hat⟩ := own_range (X := wc.alloc (.cells #[.int .i64 lo, .int .i64 rhi] 39)) (e1.alloc _) ⟨wc.heap.size, 0, none⟩ lo rhi (by have := e3.size; simp; omega) hol (lk_cell (i := 0) (heap_alloc_new _ _) rfl) (lk_cell (i := 1) (heap_alloc_new _ _) rfl)
      have HRUN := Lib.hid hrun
      have HO := Lib.hid (And.intro hown (show Below w2.heap.size w2 W6 from (e3.alloc e3.size _).grown hg (by have := e3.size; simp; omega) (fun k hk => (ownLt e1 k hk).1)))
      have H5 := Lib.hid e5
      have c0 := lk_cell (i := 0) e0 rfl
      have c1 := lk_cell (i := 1) e0 rfl
      clear hrun hown hg hat e0 e1 e2 e3 e5 HN HDD HW HST
      go_wp2_with (at_builtin; refine Lib.wpList_append_run _ rfl _ _ _ _ rfl _ _ rfl rfl _ _ HRUN.out ?_)
      go_roundg (x.length - (i + 1))
      case measure => omega
      case rel => exact ⟨i + 1, by omega, by go_num, ⟨d, out2 ++ [⟨lo, rhi⟩], HD2.out.1, HO.out.1, HO.out.2, HD2.out.2, by have h := H5.out; simp only [reduceIte] at h; rw [HRE.out, ← List.append_assoc] at h; exact h⟩, Nat.le_refl _⟩
     | false =>
      clear HDD HW HST
      go_wp2_with fail
      go_roundg (x.length - (i + 1))
      case measure => omega
      case rel => exact ⟨i + 1, by omega, by go_num, ⟨d, out2, HD2.out.1, e1, e3, HD2.out.2, by have h := e5; simp only [Bool.false_eq_true, reduceIte, List.nil_append] at h; rw [HRE.out] at h; exact h⟩, Nat.le_refl _⟩
  ·obtain ⟨bb, out, hbb, hout, hbw, hbin, heq⟩ := HS.out
   have hx0 : x.drop i = [] := List.drop_eq_nil_of_le (by omega)
   have hoR : out = R := by rw [hx0] at heq; simpa [Cls.less] using heq
   have HF := Lib.hid (show Row wr W.heap.size u5 R ∧ Below W.heap.size W wr from ⟨⟨own_weaken (by rw [← hoR]; exact hout) HB2.out.size, HR.out.2⟩, HB2.out.trans (hbw.mono HB2.out.size)⟩)
   clear hbb hout hbw hbin heq HS
   go_wp2_with fail
   go_ret
   exact ⟨_, rfl, HF.out⟩
end Go.Proofs.YtamhkdlcoghdbaaGreatDoor.PCls
/- Out of Lc (wip/tools/prune2.py): the declarations alone that the texts of the trees name. -/
namespace Go.Proofs.YtamhkdlcoghdbaaGreatDoor.PCls
open Go.RowKit Go.Shelf Go.Proofs.YtamhkdlcoghdbaaGreatDoorW.PrintWords Go.Proofs.YtamhkdlcoghdbaaGreatDoorW.PrintLast Go.Proofs.YtamhkdlcoghdbaaGreatDoorW.PrintMore
set_option linter.unusedVariables false
set_option linter.unusedSimpArgs false
def clC : CL := ⟨fun n => ((Cls.named n.data.toList).getD [], (Cls.named n.data.toList).isSome), Cls.norm, Cls.fold, fun l m => Cls.less_ (Cls.all m) l⟩
theorem Row.one (W : World) (c : Int) (h : -9223372036854775808 ≤ c ∧ c ≤ 9223372036854775807) : Row (W.alloc (.cells #[.int .i64 c, .int .i64 c] 39)) W.heap.size (.slice (some ⟨W.heap.size, 0, none⟩) 1 1) [⟨c, c⟩] :=
 ⟨⟨rfl, .inr ⟨W.heap.size, 1, _, rfl, Nat.le_refl _, heap_alloc_new W _, Nat.le_refl _, by decide, rfl, rfl⟩⟩, by simp [inR, h], by simp⟩
theorem fold_inR (l : List S64) (h : inR l = true) : inR (Cls.fold l) = true := linR_cls _ (toFold_inR _ h)
theorem all_lim (m : Bool) (c : Int) (h : Cls.Mem (Cls.all m) c) : 0 ≤ c ∧ c ≤ 1114111 := by
 cases m <;> simp [Cls.all, Cls.Mem] at h <;> omega
theorem norm_inR (l : List S64) (m : Bool) : inR (Cls.norm l m) = true := linR_of_mem _ (Cls.norm_can l m) fun c hc => by
 have := all_lim m c ((Cls.norm_mem l m c).1 hc).2
 omega
theorem norm_length (l : List S64) (m : Bool) : (Cls.norm l m).length ≤ 1114112 :=
 can_count 1114111 _ 0 (Cls.norm_can l m) fun c hc => all_lim m c ((Cls.norm_mem l m c).1 hc).2
theorem not_mem (l : List S64) (m : Bool) (c : Int) (h : Cls.Mem (Cls.less_ (Cls.all m) l) c) : 0 ≤ c ∧ c ≤ 1114111 :=
 all_lim m c ((Cls.cls_mem _ c).1 (((Cls.less_spec _ _ (Cls.cls_can _) (Cls.cls_can _)).2 c).1 h).1)
theorem not_inR (l : List S64) (m : Bool) : inR (Cls.less_ (Cls.all m) l) = true := linR_of_mem _ (Cls.less_can _ _) fun c hc => by
 have := not_mem l m c hc
 omega
theorem not_length (l : List S64) (m : Bool) : (Cls.less_ (Cls.all m) l).length ≤ 1114112 :=
 can_count 1114111 _ 0 (Cls.less_can _ _) fun c hc => not_mem l m c hc
theorem fold_row (w : World) (base : Nat) (v : Value) (l : List S64) (h : Row w base v l) (hl : l.length ≤ 1900000) : Calls Tryz.prog 63 #[v] w fun e w' => ∃ v', e = .returned v' ∧ Row w' w.heap.size v' (Cls.fold l) ∧ Below w.heap.size w w' := by
 obtain ⟨A, c, rfl, hd⟩ := h.rd
 refine (fold_calls w A c l hd).mono ?_
 rintro e w' ⟨v', rfl, ho, hb⟩
 exact ⟨v', rfl, ⟨ho, fold_inR l h.2.1, by have := fold_length l; omega⟩, hb⟩
theorem norm_row (w : World) (base : Nat) (v : Value) (l : List S64) (m : Bool) (h : Row w base v l) : Calls Tryz.prog 149 #[v, .bool m] w fun e w' => ∃ v', e = .returned v' ∧ Row w' w.heap.size v' (Cls.norm l m) ∧ Below w.heap.size w w' := by
 obtain ⟨A, c, rfl, hd⟩ := h.rd
 refine (norm_calls w A c l m hd).mono ?_
 rintro e w' ⟨v', rfl, ho, hb⟩
 exact ⟨v', rfl, ⟨ho, norm_inR l m, by have := norm_length l m; omega⟩, hb⟩
theorem all_row (w : World) (m : Bool) : Calls Tryz.prog 151 #[.bool m] w fun e w' => ∃ v', e = .returned v' ∧ Row w' w.heap.size v' (Cls.all m) ∧ Below w.heap.size w w' := all_calls_ w m
set_option maxHeartbeats 4000000 in
set_option maxRecDepth 100000 in
theorem not_row (w : World) (base : Nat) (v : Value) (l : List S64) (m : Bool) (h : Row w base v l) : Calls Tryz.prog 97 #[v, .bool m] w fun e w' => ∃ v', e = .returned v' ∧ Row w' w.heap.size v' (Cls.less_ (Cls.all m) l) ∧ Below w.heap.size w w' := by
 have HA := Lib.hid (all_row w m)
 have HL := Lib.hid (fun (w1 : World) (u : Value) (hb : Below w.heap.size w w1) (hu : Row w1 w.heap.size u (Cls.all m)) => less_row w1 _ _ u v _ l hu (h.below hb) (not_inR l m) (by have := not_length l m; omega))
 obtain ⟨A, c, rfl⟩ := h.form
 clear h
 go_enter Tryz.func97, Tryz.ntmps97
 go_wp2_with fail
 refine HA.out.mono ?_
 rintro e w1 ⟨u1, rfl, hr1, hb1⟩
 obtain ⟨A1, c1, rfl⟩ := hr1.form
 have HX := Lib.hid (And.intro hb1 hr1)
 clear hr1 hb1 HA
 go_wp2_with fail
 refine (HL.out w1 _ HX.out.1 HX.out.2).mono ?_
 rintro e w2 ⟨u2, rfl, hr2, hb2⟩
 have HF := Lib.hid (And.intro (hr2.lower HX.out.1.size) (HX.out.1.trans (hb2.mono HX.out.1.size)))
 clear hr2 hb2 HL
 go_wp2_with fail
 go_ret
 exact ⟨_, rfl, HF.out⟩
set_option maxHeartbeats 4000000 in
set_option maxRecDepth 100000 in
theorem char_calls (W : World) (B base : Nat) (s : ByteArray) (chars fold : Bool) (x : Lx.St) (V : Value) (hst : ScSt W B base s chars fold x V) (c : Int) (hc : -9223372036854775808 ≤ c ∧ c ≤ 9223372036854775807) (e : Nat) (he1 : x.sat < e) (he2 : e ≤ s.size) :
  Calls Tryz.prog 101 #[.pointer (some ⟨B, 0, none⟩), .int .i64 c, .int .i64 e] W fun e' w' => e' = .returned (.tuple #[]) ∧ ∃ V', ScSt w' B base s chars fold (Lx.char clC fold x c e) V' ∧ Stp W w' B base := by
 have c2 := hst.sc.c2
 obtain ⟨r, hr⟩ : ∃ r, r = Lx.oneR clC fold c := ⟨_, rfl⟩
 have HP := Lib.hid (fun (w : World) (rv : Value) (hb : Below W.heap.size W w) (h : Row w W.heap.size rv r) => lput_calls W w B base s chars fold x V hst hb 1 0 0 0 r rv h.1 h.2.1 (by have := h.2.2; omega) e he1 he2)
 have HX := Lib.hid (show Lx.char clC fold x c e = Lx.put x ⟨1, 0, 0, 0, 0, 0, r⟩ e by rw [hr]; rfl)
 have HO := Lib.hid (Row.one W c hc)
 have HB := Lib.hid ((Below.refl W.heap.size W).alloc (Nat.le_refl _) (.cells #[.int .i64 c, .int .i64 c] 39))
 have c3 := (hst.sc.below HB.out).c2
 clear hst he1 he2 hc
 cases fold with
 | false =>
  have HR := Lib.hid (show r = [⟨c, c⟩] from hr)
  clear hr
  go_enter Tryz.func101, Tryz.ntmps101
  go_wp2_with fail
  refine (HP.out _ _ HB.out (by rw [HR.out]; exact HO.out)).mono ?_
  rintro e' w' ⟨rfl, V', h⟩
  go_wp2_with fail
  go_end0
  exact ⟨rfl, V', by rw [HX.out]; exact h⟩
 | true =>
  have HR := Lib.hid (show r = Cls.fold [⟨c, c⟩] from hr)
  clear hr
  go_enter Tryz.func101, Tryz.ntmps101
  go_wp2_with fail
  refine (fold_row _ _ _ _ HO.out (by simp)).mono ?_
  rintro e' w' ⟨v', rfl, h, hb⟩
  have HB2 := Lib.hid (HB.out.trans (hb.mono HB.out.size))
  have HW := Lib.hid (h.lower HB.out.size)
  obtain ⟨A', k', rfl⟩ := h.form
  clear h hb
  go_wp2_with fail
  refine (HP.out _ _ HB2.out (by rw [HR.out]; exact HW.out)).mono ?_
  rintro e' w' ⟨rfl, V', h⟩
  go_wp2_with fail
  go_end0
  exact ⟨rfl, V', by rw [HX.out]; exact h⟩
end Go.Proofs.YtamhkdlcoghdbaaGreatDoor.PCls
