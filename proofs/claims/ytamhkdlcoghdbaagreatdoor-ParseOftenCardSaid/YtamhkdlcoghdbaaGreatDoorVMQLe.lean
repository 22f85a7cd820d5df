/- Put together (wip/tools/pack.py): QLe, QLt, QLv. -/
import Derived.Test.YtamhkdlcoghdbaaGreatDoorVQLk
import Derived.Recover
/- Out of Le (wip/tools/prune2.py): the declarations alone that the texts of the trees name. -/
namespace Go.Proofs.YtamhkdlcoghdbaaGreatDoor.PCls
open Go.RowKit Go.Shelf Go.Proofs.YtamhkdlcoghdbaaGreatDoorW.PrintWords Go.Proofs.YtamhkdlcoghdbaaGreatDoorW.PrintLast Go.Proofs.YtamhkdlcoghdbaaGreatDoorW.PrintMore
set_option linter.unusedVariables false
set_option linter.unusedSimpArgs false
theorem Steps.up {W w w' : World} {e : Ending} {B base : Nat} {s : ByteArray} {chars fold : Bool} {r : Except Er Lx.St} (h : Steps w w' e B base s chars fold r) (hb : Below W.heap.size W w) (hbase : base ≤ W.heap.size) : Steps W w' e B base s chars fold r := by
  unfold Steps at *
  split
  · exact ⟨h.1.mono hb.size, Below.up hb h.2⟩
  · exact ⟨h.1, h.2.1, (Stp.of_below hb hbase).trans h.2.2⟩
set_option maxHeartbeats 8000000 in
set_option maxRecDepth 100000 in
theorem escape_calls (W : World) (B base : Nat) (s : ByteArray) (chars fold : Bool) (x : Lx.St) (V : Value) (hst : ScSt W B base s chars fold x V) (hx : x.sat < s.size) :
    Calls Tryz.prog 94 #[.pointer (some ⟨B, 0, none⟩)] W fun e' w' => Steps W w' e' B base s chars fold (Lx.escape clC s fold x) := by
  have c0 := hst.sc.c0
  have c3 := hst.sc.c3
  have hBl : B < W.heap.size := Nat.lt_of_lt_of_le hst.lt hst.hb
  have HC := Lib.hid (fun (w2 : World) (hb : Below W.heap.size W w2) => (hst.sc.below hb))
  have hss := hst.ss
  obtain ⟨q, hq⟩ : ∃ q, q = x.sat + 1 := ⟨_, rfl⟩
  obtain ⟨e, he⟩ : ∃ e, e = x.sat + 2 := ⟨_, rfl⟩
  have hv1 : wrap64 ((x.sat : Int) + 1) = (q : Int) := (w64_in _ (by omega) (by omega)).trans (by omega)
  have hv2 : wrap64 ((x.sat : Int) + 2) = (e : Int) := (w64_in _ (by omega) (by omega)).trans (by omega)
  have HS := Lib.hid hst
  have HQ := Lib.hid (And.intro hq (And.intro he hx))
  clear hst hq he hx
  go_enter Tryz.func94, Tryz.ntmps94
  go_wp2_with fail
  refine go_start (fun w' => Below W.heap.size W w') [] [.p 0, .p 1, .p 2, .t 3, .p 4, .p 5, .p 6, .p 7, .t 8, .p 9, .p 10] (by kernel_rfl) (by kernel_rfl) (fun c d v a w h => by cases d <;> exact h) ((Below.refl _ W).drew) (fun w2 hS2 => ?_)
  repeat first
  | refine go_p (v := ?_) (b := ?_) rfl (.inl ⟨by rfl, ?_⟩) ?_ ?_
    rotate_left 2
    · intro w'; go_simp; with_reducible rfl
    · simp only [Act.put, List.setIfInBounds_toArray, List.set_cons_zero, List.set_cons_succ, i64_w, i32_w, hv1, hv2]; rfl
  | refine go_t (v := ?_) (b := ?_) rfl (.inl ⟨by rfl, ?_⟩) ?_ ?_
    rotate_left 2
    · intro w' hS; have hc := Below.cells hS; go_simp; with_reducible rfl
    · simp only [Act.put, List.setIfInBounds_toArray, List.set_cons_zero, List.set_cons_succ, i64_w, i32_w, hv1, hv2]; rfl
  refine go_done ?_
  have HB := Lib.hid hS2
  by_cases hend : q = s.size
  · have HX := Lib.hid (show Lx.escape clC s fold x = .error (31, (x.sat : Int)) by unfold Lx.escape; rw [if_pos (by have := HQ.out; omega)])
    have hb1 : ((q : Int) == (s.size : Int)) = true := by rw [beq_iff_eq]; omega
    have c5 := (HC.out w2 HB.out).c3
    clear hS2
    go_wp2_with fail
    refine (fail_calls _ _ _).mono ?_
    rintro e w3 ⟨⟨g, rfl, hg'⟩, hb⟩
    exact ⟨rfl, Steps.err HX.out (Bad.up ⟨g, rfl, hg'⟩ HB.out) (Below.up HB.out hb)⟩
  · have hb1 : ((q : Int) == (s.size : Int)) = false := by rw [beq_eq_false_iff_ne]; omega
    have c5 := (HC.out w2 HB.out).c3
    have c6 := (HC.out w2 HB.out).c0
    have hi0 : (0 : Int) ≤ (q : Int) := by omega
    have hi1 : (q : Int) < (s.size : Int) := by have := HQ.out; omega
    have hBl2 : B < w2.heap.size := Nat.lt_of_lt_of_le hBl HB.out.size
    clear hS2 c0 c3
    go_wp2_with fail
    refine go_start (fun w' => Below w2.heap.size w2 w') [] [.p 0, .p 1, .p 2, .t 3, .p 4, .p 5, .p 6, .t 7, .p 8, .p 9, .p 10, .p 11, .p 12, .t 13, .p 14, .p 15, .p 16] (by kernel_rfl) (by kernel_rfl) (fun c d v a w h => by cases d <;> exact h) ((Below.refl _ w2).drew) (fun w4 hS4 => ?_)
    repeat first
    | refine go_p (v := ?_) (b := ?_) rfl (.inl ⟨by rfl, ?_⟩) ?_ ?_
      rotate_left 2
      · intro w'; go_simp; with_reducible rfl
      · simp only [Act.put, List.setIfInBounds_toArray, List.set_cons_zero, List.set_cons_succ, i64_w, i32_w, hv1, hv2]; rfl
    | refine go_t (v := ?_) (b := ?_) rfl (.inl ⟨by rfl, ?_⟩) ?_ ?_
      rotate_left 2
      · intro w' hS; have hc := Below.cells hS; go_simp; with_reducible rfl
      · simp only [Act.put, List.setIfInBounds_toArray, List.set_cons_zero, List.set_cons_succ, i64_w, i32_w, hv1, hv2]; rfl
    refine go_done ?_
    obtain ⟨c, hc⟩ : ∃ c, c = s[q].toNat := ⟨_, rfl⟩
    have hcl : c < 256 := by rw [hc]; exact s[q].toNat_lt
    have HE : Hid (Lx.escape clC s fold x = ite (c = 40) (.ok (Lx.put x (Lx.tok 3) e)) (ite (c = 41) (.ok (Lx.put x (Lx.tok 4) e)) (ite (c = 124) (.ok (Lx.put x (Lx.tok 5) e)) (ite (49 ≤ c ∧ c ≤ 57) (.ok (Lx.put x { Lx.tok 6 with n := (c : Int) - 48 } e)) (ite (c = 46 ∨ c = 91 ∨ c = 93 ∨ c = 42 ∨ c = 94 ∨ c = 36 ∨ c = 92 ∨ c = 47) (.ok (Lx.char clC fold x c e)) (ite (c = 43 ∨ c = 63 ∨ c = 123) (Lx.often s x c e) (.error (32, x.sat)))))))) := Lib.hid (by
      have h1 := HQ.out
      have h2 := byt_at s q (by omega)
      rw [← hc] at h2
      obtain ⟨h3, h4, h5⟩ := h1
      subst h3 h4
      unfold Lx.escape
      rw [if_neg (by omega)]
      simp only [h2])
    rw [← hc]
    have HB4 := Lib.hid (Below.up HB.out hS4)
    have c7 := (HC.out w4 HB4.out).c3
    have HP := Lib.hid (fun (w : World) (hb : Below W.heap.size W w) (kind n : Int) => lput_calls W w B base s chars fold x V HS.out hb kind n 0 0 [] _ (Row.nil _ _).1 rfl (by simp) e (by have := HQ.out; omega) (by have := HQ.out; omega))
    have HCH := Lib.hid (fun (c : Int) hc => char_calls w4 B base s chars fold x V (HS.out.below HB4.out) c hc e (by have := HQ.out; omega) (by have := HQ.out; omega))
    have HOF := Lib.hid (fun (c : Nat) hc => often_calls w4 B base s chars fold x V (HS.out.below HB4.out) c hc e (by have := HQ.out; omega) (by have := HQ.out; omega))
    have HBS := Lib.hid (Nat.le_trans HS.out.hb (Nat.le_refl _))
    clear hc hS4 hi0 hi1 hb1 hend hv1 hv2 HC HS HQ HB hBl hBl2
    by_cases h40 : c = 40
    · subst h40
      have HX := Lib.hid (show Lx.escape clC s fold x = .ok (Lx.put x ⟨3, 0, 0, 0, 0, 0, []⟩ e) by rw [HE.out]; rfl)
      clear HE HCH HOF
      go_wp2_with fail
      refine (HP.out _ HB4.out 3 0).mono ?_
      rintro e' w' ⟨rfl, V', h⟩
      go_wp2_with fail
      go_end0
      exact Steps.ok HX.out rfl ⟨V', h⟩
    by_cases h41 : c = 41
    · subst h41
      have HX := Lib.hid (show Lx.escape clC s fold x = .ok (Lx.put x ⟨4, 0, 0, 0, 0, 0, []⟩ e) by rw [HE.out]; rfl)
      clear HE HCH HOF
      go_wp2_with fail
      refine (HP.out _ HB4.out 4 0).mono ?_
      rintro e' w' ⟨rfl, V', h⟩
      go_wp2_with fail
      go_end0
      exact Steps.ok HX.out rfl ⟨V', h⟩
    by_cases h124 : c = 124
    · subst h124
      have HX := Lib.hid (show Lx.escape clC s fold x = .ok (Lx.put x ⟨5, 0, 0, 0, 0, 0, []⟩ e) by rw [HE.out]; rfl)
      clear HE HCH HOF
      go_wp2_with fail
      refine (HP.out _ HB4.out 5 0).mono ?_
      rintro e' w' ⟨rfl, V', h⟩
      go_wp2_with fail
      go_end0
      exact Steps.ok HX.out rfl ⟨V', h⟩
    by_cases hd : 49 ≤ c ∧ c ≤ 57
    · rcases (show c = 49 ∨ c = 50 ∨ c = 51 ∨ c = 52 ∨ c = 53 ∨ c = 54 ∨ c = 55 ∨ c = 56 ∨ c = 57 by omega) with rfl | rfl | rfl | rfl | rfl | rfl | rfl | rfl | rfl
      · have HX := Lib.hid (show Lx.escape clC s fold x = .ok (Lx.put x ⟨6, 0, 0, 1, 0, 0, []⟩ e) by rw [HE.out]; rfl)
        clear HE HCH HOF
        go_wp2_with fail
        refine (HP.out _ HB4.out 6 1).mono ?_
        rintro e' w' ⟨rfl, V', h⟩
        go_wp2_with fail
        go_end0
        exact Steps.ok HX.out rfl ⟨V', h⟩
      · have HX := Lib.hid (show Lx.escape clC s fold x = .ok (Lx.put x ⟨6, 0, 0, 2, 0, 0, []⟩ e) by rw [HE.out]; rfl)
        clear HE HCH HOF
        go_wp2_with fail
        refine (HP.out _ HB4.out 6 2).mono ?_
        rintro e' w' ⟨rfl, V', h⟩
        go_wp2_with fail
        go_end0
        exact Steps.ok HX.out rfl ⟨V', h⟩
      · have HX := Lib.hid (show Lx.escape clC s fold x = .ok (Lx.put x ⟨6, 0, 0, 3, 0, 0, []⟩ e) by rw [HE.out]; rfl)
        clear HE HCH HOF
        go_wp2_with fail
        refine (HP.out _ HB4.out 6 3).mono ?_
        rintro e' w' ⟨rfl, V', h⟩
        go_wp2_with fail
        go_end0
        exact Steps.ok HX.out rfl ⟨V', h⟩
      · have HX := Lib.hid (show Lx.escape clC s fold x = .ok (Lx.put x ⟨6, 0, 0, 4, 0, 0, []⟩ e) by rw [HE.out]; rfl)
        clear HE HCH HOF
        go_wp2_with fail
        refine (HP.out _ HB4.out 6 4).mono ?_
        rintro e' w' ⟨rfl, V', h⟩
        go_wp2_with fail
        go_end0
        exact Steps.ok HX.out rfl ⟨V', h⟩
      · have HX := Lib.hid (show Lx.escape clC s fold x = .ok (Lx.put x ⟨6, 0, 0, 5, 0, 0, []⟩ e) by rw [HE.out]; rfl)
        clear HE HCH HOF
        go_wp2_with fail
        refine (HP.out _ HB4.out 6 5).mono ?_
        rintro e' w' ⟨rfl, V', h⟩
        go_wp2_with fail
        go_end0
        exact Steps.ok HX.out rfl ⟨V', h⟩
      · have HX := Lib.hid (show Lx.escape clC s fold x = .ok (Lx.put x ⟨6, 0, 0, 6, 0, 0, []⟩ e) by rw [HE.out]; rfl)
        clear HE HCH HOF
        go_wp2_with fail
        refine (HP.out _ HB4.out 6 6).mono ?_
        rintro e' w' ⟨rfl, V', h⟩
        go_wp2_with fail
        go_end0
        exact Steps.ok HX.out rfl ⟨V', h⟩
      · have HX := Lib.hid (show Lx.escape clC s fold x = .ok (Lx.put x ⟨6, 0, 0, 7, 0, 0, []⟩ e) by rw [HE.out]; rfl)
        clear HE HCH HOF
        go_wp2_with fail
        refine (HP.out _ HB4.out 6 7).mono ?_
        rintro e' w' ⟨rfl, V', h⟩
        go_wp2_with fail
        go_end0
        exact Steps.ok HX.out rfl ⟨V', h⟩
      · have HX := Lib.hid (show Lx.escape clC s fold x = .ok (Lx.put x ⟨6, 0, 0, 8, 0, 0, []⟩ e) by rw [HE.out]; rfl)
        clear HE HCH HOF
        go_wp2_with fail
        refine (HP.out _ HB4.out 6 8).mono ?_
        rintro e' w' ⟨rfl, V', h⟩
        go_wp2_with fail
        go_end0
        exact Steps.ok HX.out rfl ⟨V', h⟩
      · have HX := Lib.hid (show Lx.escape clC s fold x = .ok (Lx.put x ⟨6, 0, 0, 9, 0, 0, []⟩ e) by rw [HE.out]; rfl)
        clear HE HCH HOF
        go_wp2_with fail
        refine (HP.out _ HB4.out 6 9).mono ?_
        rintro e' w' ⟨rfl, V', h⟩
        go_wp2_with fail
        go_end0
        exact Steps.ok HX.out rfl ⟨V', h⟩
    by_cases hs : c = 46 ∨ c = 91 ∨ c = 93 ∨ c = 42 ∨ c = 94 ∨ c = 36 ∨ c = 92 ∨ c = 47
    · have HX := Lib.hid (show Lx.escape clC s fold x = .ok (Lx.char clC fold x c e) by rw [HE.out, if_neg h40, if_neg h41, if_neg h124, if_neg hd, if_pos hs])
      have hs2 := hs
      clear HE HP HOF hs h40 h41 h124 hd
      rcases hs2 with rfl | rfl | rfl | rfl | rfl | rfl | rfl | rfl
      all_goals
        go_wp2_with fail
        refine (HCH.out _ (by omega)).mono ?_
        rintro e' w' ⟨rfl, V', h⟩
        go_wp2_with fail
        go_end0
        exact Steps.up (Steps.ok HX.out rfl ⟨V', h⟩) HB4.out HBS.out
    by_cases ho : c = 43 ∨ c = 63 ∨ c = 123
    · have HX := Lib.hid (show Lx.escape clC s fold x = Lx.often s x c e by rw [HE.out, if_neg h40, if_neg h41, if_neg h124, if_neg hd, if_neg hs, if_pos ho])
      clear HE HP HCH hs h40 h41 h124 hd
      rcases ho with rfl | rfl | rfl
      all_goals
        go_wp2_with fail
        refine (HOF.out _ (by omega)).mono ?_
        intro e' w' h
        have h' := Steps.up h HB4.out HBS.out
        rw [← HX.out] at h'
        clear h
        unfold Steps at h'
        split at h'
        · rename_i y hy
          obtain ⟨⟨g, rfl, hg⟩, hb⟩ := h'
          exact ⟨rfl, Steps.err hy ⟨g, rfl, hg⟩ hb⟩
        · rename_i y hy
          obtain ⟨rfl, ⟨V', h1⟩, h2⟩ := h'
          go_wp2_with fail
          go_end0
          exact Steps.ok hy rfl ⟨V', h1, h2⟩
    have HX := Lib.hid (show Lx.escape clC s fold x = .error (32, (x.sat : Int)) by rw [HE.out, if_neg h40, if_neg h41, if_neg h124, if_neg hd, if_neg hs, if_neg ho])
    have b40 : ((c : Int) == 40) = false := by rw [beq_eq_false_iff_ne]; omega
    have b41 : ((c : Int) == 41) = false := by rw [beq_eq_false_iff_ne]; omega
    have b124 : ((c : Int) == 124) = false := by rw [beq_eq_false_iff_ne]; omega
    have b49 : ((c : Int) == 49) = false := by rw [beq_eq_false_iff_ne]; omega
    have b50 : ((c : Int) == 50) = false := by rw [beq_eq_false_iff_ne]; omega
    have b51 : ((c : Int) == 51) = false := by rw [beq_eq_false_iff_ne]; omega
    have b52 : ((c : Int) == 52) = false := by rw [beq_eq_false_iff_ne]; omega
    have b53 : ((c : Int) == 53) = false := by rw [beq_eq_false_iff_ne]; omega
    have b54 : ((c : Int) == 54) = false := by rw [beq_eq_false_iff_ne]; omega
    have b55 : ((c : Int) == 55) = false := by rw [beq_eq_false_iff_ne]; omega
    have b56 : ((c : Int) == 56) = false := by rw [beq_eq_false_iff_ne]; omega
    have b57 : ((c : Int) == 57) = false := by rw [beq_eq_false_iff_ne]; omega
    have b46 : ((c : Int) == 46) = false := by rw [beq_eq_false_iff_ne]; omega
    have b91 : ((c : Int) == 91) = false := by rw [beq_eq_false_iff_ne]; omega
    have b93 : ((c : Int) == 93) = false := by rw [beq_eq_false_iff_ne]; omega
    have b42 : ((c : Int) == 42) = false := by rw [beq_eq_false_iff_ne]; omega
    have b94 : ((c : Int) == 94) = false := by rw [beq_eq_false_iff_ne]; omega
    have b36 : ((c : Int) == 36) = false := by rw [beq_eq_false_iff_ne]; omega
    have b92 : ((c : Int) == 92) = false := by rw [beq_eq_false_iff_ne]; omega
    have b47 : ((c : Int) == 47) = false := by rw [beq_eq_false_iff_ne]; omega
    have b43 : ((c : Int) == 43) = false := by rw [beq_eq_false_iff_ne]; omega
    have b63 : ((c : Int) == 63) = false := by rw [beq_eq_false_iff_ne]; omega
    have b123 : ((c : Int) == 123) = false := by rw [beq_eq_false_iff_ne]; omega
    clear HE HP HCH HOF h40 h41 h124 hd hs ho
    go_wp2_with fail
    refine (fail_calls _ _ _).mono ?_
    rintro e w5 ⟨⟨g, rfl, hg'⟩, hb⟩
    exact ⟨rfl, Steps.err HX.out (Bad.up ⟨g, rfl, hg'⟩ HB4.out) (Below.up HB4.out hb)⟩
end Go.Proofs.YtamhkdlcoghdbaaGreatDoor.PCls
/- Out of Lt (wip/tools/prune2.py): the declarations alone that the texts of the trees name. -/
namespace Go.Proofs.YtamhkdlcoghdbaaGreatDoor.PCls
open Go.RowKit Go.Shelf Go.Proofs.YtamhkdlcoghdbaaGreatDoorW.PrintWords Go.Proofs.YtamhkdlcoghdbaaGreatDoorW.PrintLast Go.Proofs.YtamhkdlcoghdbaaGreatDoorW.PrintMore
set_option linter.unusedVariables false
set_option linter.unusedSimpArgs false
theorem next_eq (s : ByteArray) (chars fold : Bool) (x : Lx.St) : Lx.next clC s chars fold x =
  if (Lx.unit s chars x.sat).1 < 0 then .error (20, (x.sat : Int))
  else if (Lx.unit s chars x.sat).1 = 92 then Lx.escape clC s fold x
  else if (Lx.unit s chars x.sat).1 = 91 then Lx.bracket clC s chars fold x
  else if (Lx.unit s chars x.sat).1 = 46 then .ok (Lx.put x { Lx.tok 1 with r := clC.not_ [] chars } (x.sat + (Lx.unit s chars x.sat).2))
  else if (Lx.unit s chars x.sat).1 = 42 ∧ Lx.begins x = false then .ok (Lx.put x { Lx.tok 2 with hi := -1 } (x.sat + (Lx.unit s chars x.sat).2))
  else if (Lx.unit s chars x.sat).1 = 94 ∧ Lx.opens x = true then .ok (Lx.put x (Lx.tok 7) (x.sat + (Lx.unit s chars x.sat).2))
  else if (Lx.unit s chars x.sat).1 = 36 ∧ (x.sat + (Lx.unit s chars x.sat).2 = s.size ∨ Lx.here s (x.sat + (Lx.unit s chars x.sat).2) [92, 41] = true ∨ Lx.here s (x.sat + (Lx.unit s chars x.sat).2) [92, 124] = true) then .ok (Lx.put x (Lx.tok 8) (x.sat + (Lx.unit s chars x.sat).2))
  else .ok (Lx.char clC fold x (Lx.unit s chars x.sat).1 (x.sat + (Lx.unit s chars x.sat).2)) := rfl
set_option maxHeartbeats 4000000 in
set_option maxRecDepth 100000 in
theorem next_calls (W : World) (B base : Nat) (s : ByteArray) (chars fold : Bool) (x : Lx.St) (V : Value) (m : Int) (hst : ScSt W B base s chars fold x V) (hx : x.sat < s.size) (hm : W.cell? ⟨2, 0, none⟩ = some (.int .i64 m)) (h2 : 2 < W.heap.size) (hT : Lib.Utf8Tabs 0 1 W) :
  Calls Tryz.prog 42 #[.pointer (some ⟨B, 0, none⟩)] W fun e' w' => Steps W w' e' B base s chars fold (Lx.next clC s chars fold x) := by
 have c3 := hst.sc.c3
 have hs := hst.ss
 have hul := unit_lim s chars x.sat hx
 have HE := Lib.hid (next_eq s chars fold x)
 have HU := Lib.hid (unit_calls W B x.sat x.sat s chars fold V hT hst.sc (by omega) (by omega))
 have HES := Lib.hid (fun (w : World) (hb : Below W.heap.size W w) => escape_calls w B base s chars fold x V (hst.below hb) hx)
 have HBR := Lib.hid (fun (w : World) (hb : Below W.heap.size W w) => bracket_calls w B base s chars fold x V m (hst.below hb) hx ((hb.cell (p := ⟨2, 0, none⟩) h2).trans hm) (Nat.lt_of_lt_of_le h2 hb.size) (tabs_below hT hb))
 have HBG := Lib.hid (fun (w : World) (hb : Below W.heap.size W w) => begins_calls w B base s chars fold x V (hst.below hb))
 have HOP := Lib.hid (fun (w : World) (hb : Below W.heap.size W w) => opens_calls w B base s chars fold x V (hst.below hb))
 have HSC := Lib.hid (fun (w : World) (hb : Below W.heap.size W w) => hst.sc.below hb)
 have HBS := Lib.hid hst.hb
 obtain ⟨u, hu⟩ : ∃ u, u = Lx.unit s chars x.sat := ⟨_, rfl⟩
 rw [← hu] at HE HU hul
 obtain ⟨c, n⟩ := u
 simp only at HE HU hul
 obtain ⟨hc0, hc1, hn0, hn1⟩ := hul
 have HCH := Lib.hid (fun (w : World) (hb : Below W.heap.size W w) => char_calls w B base s chars fold x V (hst.below hb) c (by omega) (x.sat + n) (by omega) (by omega))
 have HP := Lib.hid (fun (w : World) (hb : Below W.heap.size W w) (kind lo hi : Int) (r : List S64) (rv : Value) (h : Row w W.heap.size rv r) => lput_calls W w B base s chars fold x V hst hb kind 0 lo hi r rv h.1 h.2.1 (by have := h.2.2; omega) (x.sat + n) (by omega) (by omega))
 clear hu hm h2 hT hst
 go_enter Tryz.func42, Tryz.ntmps42
 go_wp2_with fail
 refine HU.out.mono ?_
 rintro e w1 ⟨rfl, hb1⟩
 have c4 := (HSC.out w1 hb1).c3
 have c5 := (HSC.out w1 hb1).c0
 have c6 := (HSC.out w1 hb1).c1
 have HB := Lib.hid hb1
 clear hb1 HU
 by_cases h0 : c < 0
 ·have HX := Lib.hid (HE.out.trans (if_pos h0))
  clear HE HES HBR HBG HOP HP HCH
  go_wp2_with fail
  refine (fail_calls _ _ _).mono ?_
  rintro e w3 ⟨⟨g, rfl, hg'⟩, hb⟩
  exact ⟨rfl, Steps.err HX.out (Bad.up ⟨g, rfl, hg'⟩ HB.out) (Below.up HB.out hb)⟩
 by_cases h92 : c = 92
 ·have HX := Lib.hid (HE.out.trans ((if_neg h0).trans (if_pos h92)))
  clear HE HBR HBG HOP HP HCH
  subst h92
  go_wp2_with fail
  refine (HES.out w1 HB.out).mono ?_
  intro e' w' h
  have h' := Steps.up h HB.out HBS.out
  rw [← HX.out] at h'
  clear h
  unfold Steps at h'
  split at h'
  ·rename_i y hy
   obtain ⟨⟨g, rfl, hg⟩, hb⟩ := h'
   exact ⟨rfl, Steps.err hy ⟨g, rfl, hg⟩ hb⟩
  ·rename_i y hy
   obtain ⟨rfl, ⟨V', h1⟩, h2⟩ := h'
   go_wp2_with fail
   go_end0
   exact Steps.ok hy rfl ⟨V', h1, h2⟩
 by_cases h91 : c = 91
 ·have HX := Lib.hid (HE.out.trans ((if_neg h0).trans ((if_neg h92).trans (if_pos h91))))
  clear HE HES HBG HOP HP HCH
  subst h91
  go_wp2_with fail
  refine (HBR.out w1 HB.out).mono ?_
  intro e' w' h
  have h' := Steps.up h HB.out HBS.out
  rw [← HX.out] at h'
  clear h
  unfold Steps at h'
  split at h'
  ·rename_i y hy
   obtain ⟨⟨g, rfl, hg⟩, hb⟩ := h'
   exact ⟨rfl, Steps.err hy ⟨g, rfl, hg⟩ hb⟩
  ·rename_i y hy
   obtain ⟨rfl, ⟨V', h1⟩, h2⟩ := h'
   go_wp2_with fail
   go_end0
   exact Steps.ok hy rfl ⟨V', h1, h2⟩
 by_cases h46 : c = 46
 ·have HX := Lib.hid (show Lx.next clC s chars fold x = .ok (Lx.put x ⟨1, 0, 0, 0, 0, 0, clC.not_ [] chars⟩ (x.sat + n)) from HE.out.trans ((if_neg h0).trans ((if_neg h92).trans ((if_neg h91).trans (if_pos h46)))))
  have HNN := Lib.hid (not_row w1 W.heap.size (.slice none 0 0) [] chars (Row.nil _ _))
  clear HE HES HBR HBG HOP HCH
  subst h46
  go_wp2_with fail
  refine HNN.out.mono ?_
  rintro e w2 ⟨v, rfl, hr, hb⟩
  obtain ⟨A, k, rfl⟩ := hr.form
  have HPP := Lib.hid (HP.out w2 (Below.up HB.out hb) 1 0 0 _ _ (hr.lower HB.out.size))
  clear hr hb HNN HP
  go_wp2_with fail
  refine HPP.out.mono ?_
  rintro e' w' ⟨rfl, V', h⟩
  go_wp2_with fail
  go_end0
  exact Steps.ok HX.out rfl ⟨V', h⟩
 have HE2 := Lib.hid (HE.out.trans ((if_neg h0).trans ((if_neg h92).trans ((if_neg h91).trans (if_neg h46)))))
 have b92 : (c == 92) = false := by rw [beq_eq_false_iff_ne]; exact h92
 have b91 : (c == 91) = false := by rw [beq_eq_false_iff_ne]; exact h91
 have b46 : (c == 46) = false := by rw [beq_eq_false_iff_ne]; exact h46
 clear HE
 by_cases h42 : c = 42
 ·have HG := Lib.hid (HBG.out w1 HB.out)
  generalize hbg : Lx.begins x = bg at HE2 HG
  clear hbg
  cases bg with
  | false =>
   have HX := Lib.hid (show Lx.next clC s chars fold x = .ok (Lx.put x ⟨2, 0, 0, 0, 0, -1, []⟩ (x.sat + n)) from HE2.out.trans (if_pos ⟨h42, rfl⟩))
   clear HE2 HES HBR HBG HOP HCH
   subst h42
   go_wp2_with fail
   refine HG.out.mono ?_
   rintro e w2 ⟨rfl, hb⟩
   have HPP := Lib.hid (HP.out w2 (Below.up HB.out hb) 2 0 (-1) _ _ (Row.nil _ _))
   clear hb HP HG
   go_wp2_with fail
   refine HPP.out.mono ?_
   rintro e' w' ⟨rfl, V', h⟩
   go_wp2_with fail
   go_end0
   exact Steps.ok HX.out rfl ⟨V', h⟩
  | true =>
   have HX := Lib.hid (show Lx.next clC s chars fold x = .ok (Lx.char clC fold x c (x.sat + n)) from HE2.out.trans ((if_neg (by simp)).trans ((if_neg (by omega)).trans (if_neg (by omega)))))
   clear HE2 HES HBR HBG HOP HP
   subst h42
   go_wp2_with fail
   refine HG.out.mono ?_
   rintro e w2 ⟨rfl, hb⟩
   have HB2 := Lib.hid (Below.up HB.out hb)
   clear hb HG
   go_wp2_with fail
   refine (HCH.out w2 HB2.out).mono ?_
   rintro e' w' ⟨rfl, V', h⟩
   go_wp2_with fail
   go_end0
   exact Steps.up (Steps.ok HX.out rfl ⟨V', h⟩) HB2.out HBS.out
 have HE3 := Lib.hid (HE2.out.trans (if_neg (fun h => h42 h.1)))
 have b42 : (c == 42) = false := by rw [beq_eq_false_iff_ne]; exact h42
 clear HE2
 by_cases h94 : c = 94
 ·have HG := Lib.hid (HOP.out w1 HB.out)
  generalize hbg : Lx.opens x = bg at HE3 HG
  clear hbg
  cases bg with
  | true =>
   have HX := Lib.hid (show Lx.next clC s chars fold x = .ok (Lx.put x ⟨7, 0, 0, 0, 0, 0, []⟩ (x.sat + n)) from HE3.out.trans (if_pos ⟨h94, rfl⟩))
   clear HE3 HES HBR HBG HOP HCH
   subst h94
   go_wp2_with fail
   refine HG.out.mono ?_
   rintro e w2 ⟨rfl, hb⟩
   have HPP := Lib.hid (HP.out w2 (Below.up HB.out hb) 7 0 0 _ _ (Row.nil _ _))
   clear hb HP HG
   go_wp2_with fail
   refine HPP.out.mono ?_
   rintro e' w' ⟨rfl, V', h⟩
   go_wp2_with fail
   go_end0
   exact Steps.ok HX.out rfl ⟨V', h⟩
  | false =>
   have HX := Lib.hid (show Lx.next clC s chars fold x = .ok (Lx.char clC fold x c (x.sat + n)) from HE3.out.trans ((if_neg (by simp)).trans (if_neg (by omega))))
   clear HE3 HES HBR HBG HOP HP
   subst h94
   go_wp2_with fail
   refine HG.out.mono ?_
   rintro e w2 ⟨rfl, hb⟩
   have HB2 := Lib.hid (Below.up HB.out hb)
   clear hb HG
   go_wp2_with fail
   refine (HCH.out w2 HB2.out).mono ?_
   rintro e' w' ⟨rfl, V', h⟩
   go_wp2_with fail
   go_end0
   exact Steps.up (Steps.ok HX.out rfl ⟨V', h⟩) HB2.out HBS.out
 have HE4 := Lib.hid (HE3.out.trans (if_neg (fun h => h94 h.1)))
 have b94 : (c == 94) = false := by rw [beq_eq_false_iff_ne]; exact h94
 clear HE3 HES HBR HBG HOP
 by_cases h36 : c = 36
 ·have HH1 := Lib.hid (here_calls w1 B (x.sat + n) s ⟨#[92, 41]⟩ c5 (by omega))
  have HH2 := Lib.hid (here_calls w1 B (x.sat + n) s ⟨#[92, 124]⟩ c5 (by omega))
  generalize hh1 : Lx.here s (x.sat + n) [92, 41] = b1 at HE4
  generalize hh2 : Lx.here s (x.sat + n) [92, 124] = b2 at HE4
  rw [show Lx.here s (x.sat + n) (⟨#[92, 41]⟩ : ByteArray).data.toList = b1 from hh1] at HH1
  rw [show Lx.here s (x.sat + n) (⟨#[92, 124]⟩ : ByteArray).data.toList = b2 from hh2] at HH2
  clear hh1 hh2
  by_cases hend : x.sat + n = s.size
  ·have HX := Lib.hid (show Lx.next clC s chars fold x = .ok (Lx.put x ⟨8, 0, 0, 0, 0, 0, []⟩ (x.sat + n)) from HE4.out.trans (if_pos ⟨h36, .inl hend⟩))
   have he : ((x.sat : Int) + (n : Int) == (s.size : Int)) = true := by rw [beq_iff_eq]; omega
   have HPP := Lib.hid (HP.out w1 HB.out 8 0 0 _ _ (Row.nil _ _))
   clear HE4 HCH HP HH1 HH2 hend
   subst h36
   go_wp2_with fail
   refine HPP.out.mono ?_
   rintro e' w' ⟨rfl, V', h⟩
   go_wp2_with fail
   go_end0
   exact Steps.ok HX.out rfl ⟨V', h⟩
  have he : ((x.sat : Int) + (n : Int) == (s.size : Int)) = false := by rw [beq_eq_false_iff_ne]; omega
  cases b1 with
  | true =>
   have HX := Lib.hid (show Lx.next clC s chars fold x = .ok (Lx.put x ⟨8, 0, 0, 0, 0, 0, []⟩ (x.sat + n)) from HE4.out.trans (if_pos ⟨h36, .inr (.inl rfl)⟩))
   have HPP := Lib.hid (HP.out w1 HB.out 8 0 0 _ _ (Row.nil _ _))
   clear HE4 HCH HP HH2 hend
   subst h36
   go_wp2_with fail
   refine HH1.out.mono ?_
   rintro e w ⟨rfl, hw⟩
   subst w
   go_wp2_with fail
   refine HPP.out.mono ?_
   rintro e' w' ⟨rfl, V', h⟩
   go_wp2_with fail
   go_end0
   exact Steps.ok HX.out rfl ⟨V', h⟩
  | false =>
   cases b2 with
   | true =>
    have HX := Lib.hid (show Lx.next clC s chars fold x = .ok (Lx.put x ⟨8, 0, 0, 0, 0, 0, []⟩ (x.sat + n)) from HE4.out.trans (if_pos ⟨h36, .inr (.inr rfl)⟩))
    have HPP := Lib.hid (HP.out w1 HB.out 8 0 0 _ _ (Row.nil _ _))
    clear HE4 HCH HP hend
    subst h36
    go_wp2_with fail
    refine HH1.out.mono ?_
    rintro e w ⟨rfl, hw⟩
    subst w
    go_wp2_with fail
    refine HH2.out.mono ?_
    rintro e w ⟨rfl, hw⟩
    subst w
    go_wp2_with fail
    refine HPP.out.mono ?_
    rintro e' w' ⟨rfl, V', h⟩
    go_wp2_with fail
    go_end0
    exact Steps.ok HX.out rfl ⟨V', h⟩
   | false =>
    have HX := Lib.hid (show Lx.next clC s chars fold x = .ok (Lx.char clC fold x c (x.sat + n)) from HE4.out.trans (if_neg (by rintro ⟨_, h | h | h⟩; exact hend h; exact absurd h (by decide); exact absurd h (by decide))))
    clear HE4 HP hend
    subst h36
    go_wp2_with fail
    refine HH1.out.mono ?_
    rintro e w ⟨rfl, hw⟩
    subst w
    go_wp2_with fail
    refine HH2.out.mono ?_
    rintro e w ⟨rfl, hw⟩
    subst w
    go_wp2_with fail
    refine (HCH.out w1 HB.out).mono ?_
    rintro e' w' ⟨rfl, V', h⟩
    go_wp2_with fail
    go_end0
    exact Steps.up (Steps.ok HX.out rfl ⟨V', h⟩) HB.out HBS.out
 have HX := Lib.hid (show Lx.next clC s chars fold x = .ok (Lx.char clC fold x c (x.sat + n)) from HE4.out.trans (if_neg (fun h => h36 h.1)))
 have b36 : (c == 36) = false := by rw [beq_eq_false_iff_ne]; exact h36
 clear HE4 HP h92 h91 h46 h42 h94 h36
 go_wp2_with fail
 refine (HCH.out w1 HB.out).mono ?_
 rintro e' w' ⟨rfl, V', h⟩
 go_wp2_with fail
 go_end0
 exact Steps.up (Steps.ok HX.out rfl ⟨V', h⟩) HB.out HBS.out
end Go.Proofs.YtamhkdlcoghdbaaGreatDoor.PCls
/- Out of Lv (wip/tools/prune2.py): the declarations alone that the texts of the trees name. -/
namespace Go.Proofs.YtamhkdlcoghdbaaGreatDoor.PCls
open Go.RowKit Go.Shelf Go.Proofs.YtamhkdlcoghdbaaGreatDoorW.PrintWords Go.Proofs.YtamhkdlcoghdbaaGreatDoorW.PrintLast Go.Proofs.YtamhkdlcoghdbaaGreatDoorW.PrintMore
set_option linter.unusedVariables false
set_option linter.unusedSimpArgs false
set_option maxHeartbeats 1000000 in
set_option maxRecDepth 100000 in
theorem catch_idle (po pe : Addr) (w : World) :
  CallsD Tryz.prog 40 #[.pointer (some po), .pointer (some pe)] .returning w fun e u' w' => e = .returned (.tuple #[]) ∧ u' = .returning ∧ w' = w := by
 refine callsD_of_wpS Tryz.func40 rfl fun c₀ cs hu => ?_
 apply wpS_seq
 apply wpS_region
 simp [wpOpsS, go_sem, recoverD, hu, Tryz.ntmps40, Exit.thenS]
 apply wpS_seq
 apply wpS_region
 simp [wpOpsS, go_sem, Exit.thenS]
 refine wpS_cond (t := false) (by simp [Act.eval, Array.replicate]) ?_
 simp only [Bool.false_eq_true, if_false]
 refine wpS_of_wp (wp_skip ?_)
 cases c₀
 simp_all [bodyPostS, results]
theorem run_asserted (t xT e : TypeId) (v : Value) (w : World) (h : Tryz.prog.underlying t = some (.pointer e)) : (Instr.typeAssert (.iface t v) xT t false).run Tryz.prog w = .ok v w := by
 simp [Instr.typeAssert, run_underlying h, go_sem, Result.andThen]
theorem catch_panicking (bo be g : Nat) (vo : Value) (w : World) (older : List PanicEntry)
  (ho : w.heap[bo]? = some (.cells #[vo] 25 (0, 0))) (he : w.heap[be]? = some (.cells #[.nilIface] 29 (0, 0))) (hne : bo ≠ be) :
  CallsD Tryz.prog 40 #[.pointer (some ⟨bo, 0, none⟩), .pointer (some ⟨be, 0, none⟩)] (.panicking ({ v := .iface 71 (.pointer (some ⟨g, 0, none⟩)), recovered := false } :: older)) w fun e u' w' =>
   e = .returned (.tuple #[]) ∧ u' = .panicking ({ v := .iface 71 (.pointer (some ⟨g, 0, none⟩)), recovered := true } :: older) ∧ w' = ((w.drew.setCell ⟨bo, 0, none⟩ (.slice none 0 0)).setCell ⟨be, 0, none⟩ (.iface 71 (.pointer (some ⟨g, 0, none⟩)))) := by
 refine callsD_of_wpS Tryz.func40 rfl fun c₀ cs hu => ?_
 apply wpS_seq
 apply wpS_region
 simp [wpOpsS, go_sem, recoverD, hu, Tryz.ntmps40, Exit.thenS]
 apply wpS_seq
 apply wpS_region
 simp [wpOpsS, go_sem, Exit.thenS]
 refine wpS_cond (t := true) (by simp [Act.eval, Array.replicate]) ?_
 simp only [if_true]
 refine wpS_of_wp ?_
 have hea : ∀ (I : Value), (#[Value.pointer (some ⟨bo, 0, none⟩), .pointer (some ⟨be, 0, none⟩)] ++ ((((Array.replicate 7 undef).setIfInBounds 1 I).setIfInBounds 0 I).setIfInBounds 2 I).setIfInBounds 3 (.bool true)) = #[.pointer (some ⟨bo, 0, none⟩), .pointer (some ⟨be, 0, none⟩), I, I, I, .bool true, undef, undef, undef] := fun _ => rfl
 rw [hea]
 have hfo : w.drew.frozen? ⟨bo, 0, none⟩ = false := by simp only [World.frozen?, heap_drew, ho]; simp
 have hco : w.drew.cell? ⟨bo, 0, none⟩ = some vo := by simp only [World.cell?, heap_drew, ho]; rfl
 have hfe : w.frozen? ⟨be, 0, none⟩ = false := by simp only [World.frozen?, he]; simp
 have hce : w.cell? ⟨be, 0, none⟩ = some .nilIface := by simp only [World.cell?, he]; rfl
 refine go_start (fun w' => w' = w.drew) [3, 4] [.p 0, .p 1, .p 2, .z 3, .z 4] (by kernel_rfl) (by kernel_rfl) (fun c d v a w h => by cases d <;> exact h) rfl (fun w2 hS2 => ?_)
 subst hS2
 have hta : ∀ w', (Instr.typeAssert (.iface 71 (.pointer (some ⟨g, 0, none⟩))) 20 71 false).run Tryz.prog w' = .ok (.pointer (some ⟨g, 0, none⟩)) w' := fun w' => run_asserted 71 20 _ _ w' Tryz.underlying71
 repeat
  refine go_p (v := ?_) (b := ?_) rfl (.inl ⟨by rfl, ?_⟩) ?_ ?_
  rotate_left 2
  ·intro w'; go_simp; with_reducible rfl
  ·simp only [Act.put, pu_, pz_, ps_, i64_w, i32_w]; rfl
 refine go_skipz (w1 := w.drew.setCell ⟨bo, 0, none⟩ (.slice none 0 0)) rfl (by rfl) (by go_simp; first | done | rfl) ?_
 refine go_skipz (w1 := (w.drew.setCell ⟨bo, 0, none⟩ (.slice none 0 0)).setCell ⟨be, 0, none⟩ (.iface 71 (.pointer (some ⟨g, 0, none⟩)))) rfl (by rfl) (by go_simp; first | done | rfl) ?_
 refine go_done ?_
 simp [bodyPostS, results]
 rfl
end Go.Proofs.YtamhkdlcoghdbaaGreatDoor.PCls
