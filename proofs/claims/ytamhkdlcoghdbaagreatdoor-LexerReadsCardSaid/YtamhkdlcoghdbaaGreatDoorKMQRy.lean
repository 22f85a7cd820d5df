/- Put together (wip/tools/pack.py): QRy, QRz. -/
import Derived.Test.YtamhkdlcoghdbaaGreatDoorKQRx
/- Out of Ry (wip/tools/prune2.py): the declarations alone that the texts of the trees name. -/
namespace Go.Proofs.YtamhkdlcoghdbaaGreatDoor.PCls
open Go.RowKit Go.Shelf Go.Proofs.YtamhkdlcoghdbaaGreatDoorW.PrintWords Go.Proofs.YtamhkdlcoghdbaaGreatDoorW.PrintLast Go.Proofs.YtamhkdlcoghdbaaGreatDoorW.PrintMore
set_option linter.unusedVariables false
set_option linter.unusedSimpArgs false
theorem often_eq (s : ByteArray) (x : Lx.St) (c e : Nat) : Lx.often s x c e = if Lx.begins x = true then .error (38, (x.sat : Int)) else if c = 43 then .ok (Lx.put x { Lx.tok 2 with lo := 1, hi := -1 } e) else if c = 63 then .ok (Lx.put x { Lx.tok 2 with hi := 1 } e) else ivR s x e := by
  unfold Lx.often ivR
  generalize Lx.interval s x.sat e = r
  cases r <;> rfl
set_option maxHeartbeats 8000000 in
set_option maxRecDepth 100000 in
theorem rescape_calls (W : World) (B base : Nat) (s : ByteArray) (chars fold : Bool) (x : Lx.St) (V : Value) (hst : RSt W B base s chars fold x V) (hk : ∀ t, t ∈ x.out → 1 ≤ t.kind) (hx : x.sat < s.size) :
    Calls Tryz.prog 88 #[.pointer (some ⟨B, 0, none⟩)] W fun e' w' => RSteps W w' e' B base s chars fold (Lx.escape clC s fold x) := by
  have c0 := hst.sc.c0
  have c3 := hst.sc.c3
  have hBl : B < W.heap.size := hst.sc.lt
  have hss := hst.ss
  obtain ⟨q, hq⟩ : ∃ q, q = x.sat + 1 := ⟨_, rfl⟩
  obtain ⟨e, he⟩ : ∃ e, e = x.sat + 2 := ⟨_, rfl⟩
  have hv1 : wrap64 ((x.sat : Int) + 1) = (q : Int) := (w64_in _ (by omega) (by omega)).trans (by omega)
  have hv2 : wrap64 ((x.sat : Int) + 2) = (e : Int) := (w64_in _ (by omega) (by omega)).trans (by omega)
  have HC := Lib.hid (fun (w2 : World) (hb : Below W.heap.size W w2) => hst.sc.below hb)
  have HNO := Lib.hid (fun (w2 : World) (hb : Below W.heap.size W w2) (c : Int) => no_calls w2 B base s chars fold x.sat V c x.sat (hst.sc.below hb) (Nat.le_trans hst.hb hb.size))
  have HBG := Lib.hid (fun (w2 : World) (hb : Below W.heap.size W w2) => rbegins_calls w2 B base s chars fold x V (hst.below hb) hk)
  have HS := Lib.hid hst
  have HBS := Lib.hid hst.hb
  have HQ := Lib.hid (And.intro hq (And.intro he hx))
  clear hst hq he hx hk
  go_enter Tryz.func88, Tryz.ntmps88
  go_wp2_with fail
  refine go_start (fun w' => Below W.heap.size W w') [] [.p 0, .p 1, .p 2, .t 3, .p 4, .p 5, .p 6, .p 7, .t 8, .p 9, .p 10] (by kernel_rfl) (by kernel_rfl) (fun c d v a w h => by cases d <;> exact h) ((Below.refl _ W).drew) (fun w2 hS2 => ?_)
  repeat first
  | refine go_p (v := ?_) (b := ?_) rfl (.inl ⟨by rfl, ?_⟩) ?_ ?_
    rotate_left 2
    · intro w'; go_simp; with_reducible rfl
    · simp only [Act.put, List.setIfInBounds_toArray, List.set_cons_zero, List.set_cons_succ, i64_w, i32_w, hv1, hv2]; rfl
  | refine go_t (v := ?_) (b := ?_) rfl (.inl ⟨by rfl, ?_⟩) ?_ ?_
    rotate_left 2
    · intro w' hS; have hc := Below.cells hS; go_simp; with_reducible rfl
    · simp only [Act.put, List.setIfInBounds_toArray, List.set_cons_zero, List.set_cons_succ, i64_w, i32_w, hv1, hv2]; rfl
  refine go_done ?_
  have HB := Lib.hid hS2
  by_cases hend : s.size ≤ q
  · have HX := Lib.hid (show Lx.escape clC s fold x = .error (31, (x.sat : Int)) by unfold Lx.escape; rw [if_pos (by have := HQ.out; omega)])
    have hb1 : (s.size : Int) ≤ (q : Int) := by omega
    have c5 := (HC.out w2 HB.out).c3
    clear hS2
    go_wp2_with fail
    refine (HNO.out w2 HB.out 31).mono ?_
    rintro e w3 ⟨rfl, hrs, hstp⟩
    have HE2 := Lib.hid (And.intro hrs hstp)
    clear hrs hstp
    go_wp2_with fail
    refine bodyPost_ret (results_none rfl _ _ _) rfl ?_
    exact RSteps.err HX.out rfl ⟨⟨_, _, HE2.out.1⟩, (Stp.of_below HB.out HBS.out).trans HE2.out.2⟩
  · have hb1 : ¬ (s.size : Int) ≤ (q : Int) := by omega
    have hi0 : (0 : Int) ≤ (q : Int) := by omega
    have hi1 : (q : Int) < (s.size : Int) := by omega
    have hBl2 : B < w2.heap.size := Nat.lt_of_lt_of_le hBl HB.out.size
    have c5 := (HC.out w2 HB.out).c3
    have c6 := (HC.out w2 HB.out).c0
    obtain ⟨bg, hbg⟩ : ∃ b, b = Lx.begins x := ⟨_, rfl⟩
    have HBG2 := Lib.hid (HBG.out w2 HB.out)
    rw [← hbg] at HBG2
    have HBGV := Lib.hid hbg
    clear hS2 c0 c3 hbg HBG
    go_wp2_with fail
    refine HBG2.out.mono ?_
    rintro e' w ⟨rfl, hw⟩
    subst w
    clear HBG2
    go_wp2_with fail
    refine go_start (fun w' => Below w2.heap.size w2 w') [] [.p 0, .p 1, .p 2, .t 3, .p 4, .p 5, .p 6, .t 7, .p 8, .p 9, .p 10] (by kernel_rfl) (by kernel_rfl) (fun c d v a w h => by cases d <;> exact h) ((Below.refl _ w2).drew) (fun w4 hS4 => ?_)
    repeat first
    | refine go_p (v := ?_) (b := ?_) rfl (.inl ⟨by rfl, ?_⟩) ?_ ?_
      rotate_left 2
      · intro w'; go_simp; with_reducible rfl
      · simp only [Act.put, List.setIfInBounds_toArray, List.set_cons_zero, List.set_cons_succ, i64_w, i32_w, hv1, hv2]; rfl
    | refine go_t (v := ?_) (b := ?_) rfl (.inl ⟨by rfl, ?_⟩) ?_ ?_
      rotate_left 2
      · intro w' hS; have hc := Below.cells hS; go_simp; with_reducible rfl
      · simp only [Act.put, List.setIfInBounds_toArray, List.set_cons_zero, List.set_cons_succ, i64_w, i32_w, hv1, hv2]; rfl
    refine go_done ?_
    obtain ⟨c, hc⟩ : ∃ c, c = s[q].toNat := ⟨_, rfl⟩
    have hcl : c < 256 := by rw [hc]; exact s[q].toNat_lt
    have HE : Hid (Lx.escape clC s fold x = ite (c = 40) (.ok (Lx.put x (Lx.tok 3) e)) (ite (c = 41) (.ok (Lx.put x (Lx.tok 4) e)) (ite (c = 124) (.ok (Lx.put x (Lx.tok 5) e)) (ite (49 ≤ c ∧ c ≤ 57) (.ok (Lx.put x { Lx.tok 6 with n := (c : Int) - 48 } e)) (ite (c = 46 ∨ c = 91 ∨ c = 93 ∨ c = 42 ∨ c = 94 ∨ c = 36 ∨ c = 92 ∨ c = 47) (.ok (Lx.char clC fold x c e)) (ite (c = 43 ∨ c = 63 ∨ c = 123) (Lx.often s x c e) (.error (32, x.sat)))))))) := Lib.hid (by
      have h1 := HQ.out
      have h2 := byt_at s q (by omega)
      rw [← hc] at h2
      obtain ⟨h3, h4, h5⟩ := h1
      subst h3 h4
      unfold Lx.escape
      rw [if_neg (by omega)]
      simp only [h2])
    rw [← hc]
    have hS6 : Below W.heap.size W w4 := HB.out.trans (hS4.mono HB.out.size)
    have HB4 := Lib.hid hS6
    have c7 := (HC.out w4 HB4.out).c3
    have HP := Lib.hid (fun (w : World) (hb : Below W.heap.size W w) (kind n lo hi : Int) => rput_calls W w B base s chars fold x V HS.out hb kind n lo hi [] _ (Row.nil _ _).1 rfl (by decide) e 2 HQ.out.2.1 (by have := HQ.out; omega) (by have := HQ.out; omega))
    have HPC := Lib.hid (fun (w : World) (hb : Below W.heap.size W w) (r : List S64) (rv : Value) (h : Row w W.heap.size rv r) => rput_calls W w B base s chars fold x V HS.out hb 1 0 0 0 r rv h.1 h.2.1 (by have := h.2.2; omega) e 2 HQ.out.2.1 (by have := HQ.out; omega) (by have := HQ.out; omega))
    have HCH := Lib.hid (fun (c : Int) hc => rone_calls w4 B s chars fold x.sat V 0 0 c (HC.out w4 HB4.out) hc)
    have HIV := Lib.hid (rinterval_calls w4 B base s chars fold x V (HS.out.below HB4.out) (by have := HQ.out; omega))
    have HN4 := Lib.hid (fun c => HNO.out w4 HB4.out c)
    have he2 : x.sat + 2 = e := HQ.out.2.1.symm
    rw [he2] at HIV
    clear hc hS4 hS6 hi0 hi1 hb1 hend hv1 hv2 HC HS HQ HB hBl hBl2 HNO he2
    by_cases h40 : c = 40
    · subst h40
      have HX := Lib.hid (show Lx.escape clC s fold x = .ok (Lx.put x ⟨3, 0, 0, 0, 0, 0, []⟩ e) by rw [HE.out]; rfl)
      clear HE HCH HIV HPC HN4
      go_wp2_with fail
      refine (HP.out _ HB4.out 3 0 0 0).mono ?_
      rintro e' w' ⟨rfl, V', h⟩
      have HE2 := Lib.hid h
      clear h
      go_wp2_with fail
      go_end0
      exact RSteps.ok HX.out rfl ⟨V', HE2.out⟩
    by_cases h41 : c = 41
    · subst h41
      have HX := Lib.hid (show Lx.escape clC s fold x = .ok (Lx.put x ⟨4, 0, 0, 0, 0, 0, []⟩ e) by rw [HE.out]; rfl)
      clear HE HCH HIV HPC HN4
      go_wp2_with fail
      refine (HP.out _ HB4.out 4 0 0 0).mono ?_
      rintro e' w' ⟨rfl, V', h⟩
      have HE2 := Lib.hid h
      clear h
      go_wp2_with fail
      go_end0
      exact RSteps.ok HX.out rfl ⟨V', HE2.out⟩
    by_cases h124 : c = 124
    · subst h124
      have HX := Lib.hid (show Lx.escape clC s fold x = .ok (Lx.put x ⟨5, 0, 0, 0, 0, 0, []⟩ e) by rw [HE.out]; rfl)
      clear HE HCH HIV HPC HN4
      go_wp2_with fail
      refine (HP.out _ HB4.out 5 0 0 0).mono ?_
      rintro e' w' ⟨rfl, V', h⟩
      have HE2 := Lib.hid h
      clear h
      go_wp2_with fail
      go_end0
      exact RSteps.ok HX.out rfl ⟨V', HE2.out⟩
    by_cases hd : 49 ≤ c ∧ c ≤ 57
    · rcases (show c = 49 ∨ c = 50 ∨ c = 51 ∨ c = 52 ∨ c = 53 ∨ c = 54 ∨ c = 55 ∨ c = 56 ∨ c = 57 by omega) with rfl | rfl | rfl | rfl | rfl | rfl | rfl | rfl | rfl
      ·
        have HX := Lib.hid (show Lx.escape clC s fold x = .ok (Lx.put x ⟨6, 0, 0, 1, 0, 0, []⟩ e) by rw [HE.out]; rfl)
        clear HE HCH HIV HPC HN4
        go_wp2_with fail
        refine (HP.out _ HB4.out 6 1 0 0).mono ?_
        rintro e' w' ⟨rfl, V', h⟩
        have HE2 := Lib.hid h
        clear h
        go_wp2_with fail
        go_end0
        exact RSteps.ok HX.out rfl ⟨V', HE2.out⟩
      ·
        have HX := Lib.hid (show Lx.escape clC s fold x = .ok (Lx.put x ⟨6, 0, 0, 2, 0, 0, []⟩ e) by rw [HE.out]; rfl)
        clear HE HCH HIV HPC HN4
        go_wp2_with fail
        refine (HP.out _ HB4.out 6 2 0 0).mono ?_
        rintro e' w' ⟨rfl, V', h⟩
        have HE2 := Lib.hid h
        clear h
        go_wp2_with fail
        go_end0
        exact RSteps.ok HX.out rfl ⟨V', HE2.out⟩
      ·
        have HX := Lib.hid (show Lx.escape clC s fold x = .ok (Lx.put x ⟨6, 0, 0, 3, 0, 0, []⟩ e) by rw [HE.out]; rfl)
        clear HE HCH HIV HPC HN4
        go_wp2_with fail
        refine (HP.out _ HB4.out 6 3 0 0).mono ?_
        rintro e' w' ⟨rfl, V', h⟩
        have HE2 := Lib.hid h
        clear h
        go_wp2_with fail
        go_end0
        exact RSteps.ok HX.out rfl ⟨V', HE2.out⟩
      ·
        have HX := Lib.hid (show Lx.escape clC s fold x = .ok (Lx.put x ⟨6, 0, 0, 4, 0, 0, []⟩ e) by rw [HE.out]; rfl)
        clear HE HCH HIV HPC HN4
        go_wp2_with fail
        refine (HP.out _ HB4.out 6 4 0 0).mono ?_
        rintro e' w' ⟨rfl, V', h⟩
        have HE2 := Lib.hid h
        clear h
        go_wp2_with fail
        go_end0
        exact RSteps.ok HX.out rfl ⟨V', HE2.out⟩
      ·
        have HX := Lib.hid (show Lx.escape clC s fold x = .ok (Lx.put x ⟨6, 0, 0, 5, 0, 0, []⟩ e) by rw [HE.out]; rfl)
        clear HE HCH HIV HPC HN4
        go_wp2_with fail
        refine (HP.out _ HB4.out 6 5 0 0).mono ?_
        rintro e' w' ⟨rfl, V', h⟩
        have HE2 := Lib.hid h
        clear h
        go_wp2_with fail
        go_end0
        exact RSteps.ok HX.out rfl ⟨V', HE2.out⟩
      ·
        have HX := Lib.hid (show Lx.escape clC s fold x = .ok (Lx.put x ⟨6, 0, 0, 6, 0, 0, []⟩ e) by rw [HE.out]; rfl)
        clear HE HCH HIV HPC HN4
        go_wp2_with fail
        refine (HP.out _ HB4.out 6 6 0 0).mono ?_
        rintro e' w' ⟨rfl, V', h⟩
        have HE2 := Lib.hid h
        clear h
        go_wp2_with fail
        go_end0
        exact RSteps.ok HX.out rfl ⟨V', HE2.out⟩
      ·
        have HX := Lib.hid (show Lx.escape clC s fold x = .ok (Lx.put x ⟨6, 0, 0, 7, 0, 0, []⟩ e) by rw [HE.out]; rfl)
        clear HE HCH HIV HPC HN4
        go_wp2_with fail
        refine (HP.out _ HB4.out 6 7 0 0).mono ?_
        rintro e' w' ⟨rfl, V', h⟩
        have HE2 := Lib.hid h
        clear h
        go_wp2_with fail
        go_end0
        exact RSteps.ok HX.out rfl ⟨V', HE2.out⟩
      ·
        have HX := Lib.hid (show Lx.escape clC s fold x = .ok (Lx.put x ⟨6, 0, 0, 8, 0, 0, []⟩ e) by rw [HE.out]; rfl)
        clear HE HCH HIV HPC HN4
        go_wp2_with fail
        refine (HP.out _ HB4.out 6 8 0 0).mono ?_
        rintro e' w' ⟨rfl, V', h⟩
        have HE2 := Lib.hid h
        clear h
        go_wp2_with fail
        go_end0
        exact RSteps.ok HX.out rfl ⟨V', HE2.out⟩
      ·
        have HX := Lib.hid (show Lx.escape clC s fold x = .ok (Lx.put x ⟨6, 0, 0, 9, 0, 0, []⟩ e) by rw [HE.out]; rfl)
        clear HE HCH HIV HPC HN4
        go_wp2_with fail
        refine (HP.out _ HB4.out 6 9 0 0).mono ?_
        rintro e' w' ⟨rfl, V', h⟩
        have HE2 := Lib.hid h
        clear h
        go_wp2_with fail
        go_end0
        exact RSteps.ok HX.out rfl ⟨V', HE2.out⟩
    by_cases hs : c = 46 ∨ c = 91 ∨ c = 93 ∨ c = 42 ∨ c = 94 ∨ c = 36 ∨ c = 92 ∨ c = 47
    · have HX := Lib.hid (show Lx.escape clC s fold x = .ok (Lx.put x ⟨1, 0, 0, 0, 0, 0, Lx.oneR clC fold c⟩ e) by rw [HE.out, if_neg h40, if_neg h41, if_neg h124, if_neg hd, if_pos hs]; rfl)
      have hs2 := hs
      clear HE HP HIV HN4 hs h40 h41 h124 hd
      rcases hs2 with rfl | rfl | rfl | rfl | rfl | rfl | rfl | rfl
      all_goals
        go_wp2_with fail
        refine (HCH.out _ (by omega)).mono ?_
        rintro e' w5 ⟨v5, rfl, hrow, hb5⟩
        obtain ⟨A, k, rfl⟩ := hrow.form
        have HP5 := Lib.hid (HPC.out w5 (HB4.out.trans (hb5.mono HB4.out.size)) _ _ (hrow.lower HB4.out.size))
        clear hrow hb5
        go_wp2_with fail
        refine HP5.out.mono ?_
        rintro e' w' ⟨rfl, V', h⟩
        have HE2 := Lib.hid h
        clear h
        go_wp2_with fail
        go_end0
        exact RSteps.ok HX.out rfl ⟨V', HE2.out⟩
    by_cases ho : c = 43 ∨ c = 63 ∨ c = 123
    · have HX := Lib.hid (show Lx.escape clC s fold x = if bg = true then .error (38, (x.sat : Int)) else if c = 43 then .ok (Lx.put x { Lx.tok 2 with lo := 1, hi := -1 } e) else if c = 63 then .ok (Lx.put x { Lx.tok 2 with hi := 1 } e) else ivR s x e by rw [HE.out, if_neg h40, if_neg h41, if_neg h124, if_neg hd, if_neg hs, if_pos ho, often_eq, HBGV.out])
      clear HE HPC HCH hs h40 h41 h124 hd
      cases bg with
      | true =>
        have HX2 := Lib.hid (HX.out.trans (if_pos rfl))
        clear HX HP HIV
        rcases ho with rfl | rfl | rfl
        all_goals
          go_wp2_with fail
          refine (HN4.out 38).mono ?_
          rintro e w5 ⟨rfl, hrs, hstp⟩
          have HE2 := Lib.hid (And.intro hrs hstp)
          clear hrs hstp
          go_wp2_with fail
          go_end0
          exact RSteps.err HX2.out rfl ⟨⟨_, _, HE2.out.1⟩, (Stp.of_below HB4.out HBS.out).trans HE2.out.2⟩
      | false =>
        have HX2 := Lib.hid (HX.out.trans (if_neg (by decide)))
        clear HX HN4
        rcases ho with rfl | rfl | rfl
        ·
          have HX := Lib.hid (HX2.out.trans (if_pos rfl))
          clear HX2 HIV
          go_wp2_with fail
          refine (HP.out _ HB4.out 2 0 1 (-1)).mono ?_
          rintro e' w' ⟨rfl, V', h⟩
          have HE2 := Lib.hid h
          clear h
          go_wp2_with fail
          go_end0
          exact RSteps.ok HX.out rfl ⟨V', HE2.out⟩
        ·
          have HX := Lib.hid (HX2.out.trans ((if_neg (by decide)).trans (if_pos rfl)))
          clear HX2 HIV
          go_wp2_with fail
          refine (HP.out _ HB4.out 2 0 0 1).mono ?_
          rintro e' w' ⟨rfl, V', h⟩
          have HE2 := Lib.hid h
          clear h
          go_wp2_with fail
          go_end0
          exact RSteps.ok HX.out rfl ⟨V', HE2.out⟩
        · have HX := Lib.hid (HX2.out.trans ((if_neg (by decide)).trans (if_neg (by decide))))
          clear HX2 HP
          go_wp2_with fail
          refine HIV.out.mono ?_
          rintro e' w5 h
          have he := h.1
          subst he
          have HE2 := Lib.hid h
          clear h
          go_wp2_with fail
          go_end0
          rw [HX.out]
          exact HE2.out.up (Stp.of_below HB4.out HBS.out)
    have HX := Lib.hid (show Lx.escape clC s fold x = .error (32, (x.sat : Int)) by rw [HE.out, if_neg h40, if_neg h41, if_neg h124, if_neg hd, if_neg hs, if_neg ho])
    have b40 : ((c : Int) == 40) = false := by rw [beq_eq_false_iff_ne]; omega
    have b41 : ((c : Int) == 41) = false := by rw [beq_eq_false_iff_ne]; omega
    have b124 : ((c : Int) == 124) = false := by rw [beq_eq_false_iff_ne]; omega
    have b49 : ((c : Int) == 49) = false := by rw [beq_eq_false_iff_ne]; omega
    have b50 : ((c : Int) == 50) = false := by rw [beq_eq_false_iff_ne]; omega
    have b51 : ((c : Int) == 51) = false := by rw [beq_eq_false_iff_ne]; omega
    have b52 : ((c : Int) == 52) = false := by rw [beq_eq_false_iff_ne]; omega
    have b53 : ((c : Int) == 53) = false := by rw [beq_eq_false_iff_ne]; omega
    have b54 : ((c : Int) == 54) = false := by rw [beq_eq_false_iff_ne]; omega
    have b55 : ((c : Int) == 55) = false := by rw [beq_eq_false_iff_ne]; omega
    have b56 : ((c : Int) == 56) = false := by rw [beq_eq_false_iff_ne]; omega
    have b57 : ((c : Int) == 57) = false := by rw [beq_eq_false_iff_ne]; omega
    have b46 : ((c : Int) == 46) = false := by rw [beq_eq_false_iff_ne]; omega
    have b91 : ((c : Int) == 91) = false := by rw [beq_eq_false_iff_ne]; omega
    have b93 : ((c : Int) == 93) = false := by rw [beq_eq_false_iff_ne]; omega
    have b42 : ((c : Int) == 42) = false := by rw [beq_eq_false_iff_ne]; omega
    have b94 : ((c : Int) == 94) = false := by rw [beq_eq_false_iff_ne]; omega
    have b36 : ((c : Int) == 36) = false := by rw [beq_eq_false_iff_ne]; omega
    have b92 : ((c : Int) == 92) = false := by rw [beq_eq_false_iff_ne]; omega
    have b47 : ((c : Int) == 47) = false := by rw [beq_eq_false_iff_ne]; omega
    have b43 : ((c : Int) == 43) = false := by rw [beq_eq_false_iff_ne]; omega
    have b63 : ((c : Int) == 63) = false := by rw [beq_eq_false_iff_ne]; omega
    have b123 : ((c : Int) == 123) = false := by rw [beq_eq_false_iff_ne]; omega
    have n43 : ((c : Int) != 43) = true := by rw [bne_iff_ne]; omega
    have n63 : ((c : Int) != 63) = true := by rw [bne_iff_ne]; omega
    have n123 : ((c : Int) != 123) = true := by rw [bne_iff_ne]; omega
    clear HE HP HPC HCH HIV h40 h41 h124 hs ho
    have hdd : ¬ (49 : Int) ≤ (c : Int) ∨ ((49 : Int) ≤ (c : Int) ∧ ¬ (c : Int) ≤ 57) := by omega
    clear hd
    rcases hdd with hdd | ⟨hd1, hd2⟩
    all_goals
      go_wp2_with fail
      refine (HN4.out 32).mono ?_
      rintro e w5 ⟨rfl, hrs, hstp⟩
      have HE2 := Lib.hid (And.intro hrs hstp)
      clear hrs hstp
      go_wp2_with fail
      go_end0
      exact RSteps.err HX.out rfl ⟨⟨_, _, HE2.out.1⟩, (Stp.of_below HB4.out HBS.out).trans HE2.out.2⟩
end Go.Proofs.YtamhkdlcoghdbaaGreatDoor.PCls
/- Out of Rz (wip/tools/prune2.py): the declarations alone that the texts of the trees name. -/
namespace Go.Proofs.YtamhkdlcoghdbaaGreatDoor.PCls
open Go.RowKit Go.Shelf Go.Proofs.YtamhkdlcoghdbaaGreatDoorW.PrintWords Go.Proofs.YtamhkdlcoghdbaaGreatDoorW.PrintLast Go.Proofs.YtamhkdlcoghdbaaGreatDoorW.PrintMore
set_option linter.unusedVariables false
set_option linter.unusedSimpArgs false
set_option maxHeartbeats 1000000 in
theorem dN_one (n b0 b1 b2 b3 : Nat) (h : (Lib.decodeN n b0 b1 b2 b3).1 < 128) : (Lib.decodeN n b0 b1 b2 b3).2 = 1 := by
  revert h
  unfold Lib.decodeN
  repeat' split
  all_goals (intro h; simp only at h ⊢; first | done | omega)
theorem unit_one {s : ByteArray} {chars : Bool} {p : Nat} (hp : p < s.size) (h : (Lx.unit s chars p).1 < 128) : (Lx.unit s chars p).2 = 1 := by
  cases chars with
  | false => simp only [Lx.unit, if_pos hp, Bool.false_eq_true, if_false]
  | true =>
    rw [unit_true s p hp] at h ⊢
    split at h
    · rename_i hd
      rw [if_pos hd]
      have h' : (dAt s p).1 < 128 := by simp only at h; omega
      exact dN_one _ _ _ _ _ h'
    · rename_i hd
      rw [if_neg hd]
set_option maxHeartbeats 60000000 in
set_option maxRecDepth 100000 in
theorem rtoken_calls (W : World) (B base : Nat) (s : ByteArray) (chars fold : Bool) (x : Lx.St) (V : Value) (hst : RSt W B base s chars fold x V) (hk : ∀ t, t ∈ x.out → 1 ≤ t.kind) (hx : x.sat < s.size) :
    Calls Tryz.prog 39 #[.pointer (some ⟨B, 0, none⟩)] W fun e' w' => RSteps W w' e' B base s chars fold (Lx.next clC s chars fold x) := by
  have c0 := hst.sc.c0
  have c1 := hst.sc.c1
  have c3 := hst.sc.c3
  have hBl : B < W.heap.size := hst.sc.lt
  have hss := hst.ss
  have hul := unit_lim s chars x.sat hx
  have hone := unit_one (chars := chars) hx
  have HE := Lib.hid (next_eq s chars fold x)
  have HU := Lib.hid (fun w => refunit_calls s chars x.sat w (by omega) (by omega))
  obtain ⟨q, hq⟩ : ∃ q, q = x.sat + 1 := ⟨_, rfl⟩
  have hv1 : wrap64 ((x.sat : Int) + 1) = (q : Int) := (w64_in _ (by omega) (by omega)).trans (by omega)
  have HC := Lib.hid (fun (w2 : World) (hb : Below W.heap.size W w2) => hst.sc.below hb)
  have HNO := Lib.hid (fun (w2 : World) (hb : Below W.heap.size W w2) (c : Int) => no_calls w2 B base s chars fold x.sat V c x.sat (hst.sc.below hb) (Nat.le_trans hst.hb hb.size))
  have HBG := Lib.hid (fun (w2 : World) (hb : Below W.heap.size W w2) => rbegins_calls w2 B base s chars fold x V (hst.below hb) hk)
  have HOP := Lib.hid (fun (w2 : World) (hb : Below W.heap.size W w2) => ropens_calls w2 B base s chars fold x V (hst.below hb) hk)
  have HES := Lib.hid (fun (w2 : World) (hb : Below W.heap.size W w2) => rescape_calls w2 B base s chars fold x V (hst.below hb) hk hx)
  have HBR := Lib.hid (fun (w2 : World) (hb : Below W.heap.size W w2) => rbracket_calls w2 B base s chars fold x V (hst.below hb) hx)
  have HIS := Lib.hid (fun (w2 : World) (hb : Below W.heap.size W w2) (t : ByteArray) ht => is_calls' w2 B q s t (hst.sc.below hb).c0 hss (by omega) ht)
  have HBS := Lib.hid hst.hb
  obtain ⟨u, hu⟩ : ∃ u, u = Lx.unit s chars x.sat := ⟨_, rfl⟩
  rw [← hu] at HE HU hul hone
  obtain ⟨c, n⟩ := u
  simp only at HE HU hul hone
  obtain ⟨hc0, hc1, hn0, hn1⟩ := hul
  have HP := Lib.hid (fun (w : World) (hb : Below W.heap.size W w) (kind lo hi : Int) (r : List S64) (rv : Value) (h : Row w W.heap.size rv r) => rput_calls W w B base s chars fold x V hst hb kind 0 lo hi r rv h.1 h.2.1 (by have := h.2.2; omega) (x.sat + n) n rfl (by omega) (by omega))
  have HCH := Lib.hid (fun (w : World) (hb : Below W.heap.size W w) (h0 : 0 ≤ c) => rone_calls w B s chars fold x.sat V 0 0 c (hst.sc.below hb) ⟨h0, hc1⟩)
  have HQ := Lib.hid (And.intro hq hx)
  have HON := Lib.hid hone
  have hn9 : (n : Int) ≤ 2000 := by omega
  clear hu hst hk hq hx hone
  go_enter Tryz.func39, Tryz.ntmps39
  go_wp2_with fail
  refine go_start (fun w' => Below W.heap.size W w') [] [.p 0, .p 1, .p 2, .t 3, .p 4, .p 5, .p 6, .t 7, .p 8, .p 9, .p 10, .p 11, .t 12, .o 13, .p 14, .p 15, .p 16, .p 17, .p 18] (by kernel_rfl) (by kernel_rfl) (fun c d v a w h => by cases d <;> exact h) ((Below.refl _ W).drew) (fun w1 hS1 => ?_)
  repeat first
  | refine go_p (v := ?_) (b := ?_) rfl (.inl ⟨by rfl, ?_⟩) ?_ ?_
    rotate_left 2
    · intro w'; go_simp; with_reducible rfl
    · simp only [Act.put, List.setIfInBounds_toArray, List.set_cons_zero, List.set_cons_succ, i64_w, i32_w, hv1]; rfl
  | refine go_t (v := ?_) (b := ?_) rfl (.inl ⟨by rfl, ?_⟩) ?_ ?_
    rotate_left 2
    · intro w' hS; have hc := Below.cells hS; go_simp; with_reducible rfl
    · simp only [Act.put, List.setIfInBounds_toArray, List.set_cons_zero, List.set_cons_succ, i64_w, i32_w, hv1]; rfl
  refine go_call rfl (by rfl) Tryz.func83 (by kernel_rfl) rfl (by simp only [List.map_toArray, List.map_cons, List.map_nil]; rfl) (HU.out w1) ?_
  rintro e w2 ⟨rfl, hb2⟩
  have hS2 : Below W.heap.size W w2 := hS1.trans (hb2.mono hS1.size)
  refine ⟨_, _, rfl, hS2, (by simp only [Act.put, List.setIfInBounds_toArray, List.set_cons_zero, List.set_cons_succ]; rfl), ?_⟩
  repeat first
  | refine go_p (v := ?_) (b := ?_) rfl (.inl ⟨by rfl, ?_⟩) ?_ ?_
    rotate_left 2
    · intro w'; go_simp; with_reducible rfl
    · simp only [Act.put, List.setIfInBounds_toArray, List.set_cons_zero, List.set_cons_succ, i64_w, i32_w, hv1]; rfl
  | refine go_t (v := ?_) (b := ?_) rfl (.inl ⟨by rfl, ?_⟩) ?_ ?_
    rotate_left 2
    · intro w' hS; have hc := Below.cells hS; go_simp; with_reducible rfl
    · simp only [Act.put, List.setIfInBounds_toArray, List.set_cons_zero, List.set_cons_succ, i64_w, i32_w, hv1]; rfl
  refine go_done ?_
  have HB2 := Lib.hid hS2
  have d0 := (HC.out w2 hS2).c0
  have d3 := (HC.out w2 hS2).c3
  have hBl2 : B < w2.heap.size := Nat.lt_of_lt_of_le hBl hS2.size
  obtain ⟨bg, hbg⟩ : ∃ b, b = Lx.begins x := ⟨_, rfl⟩
  have HBG2 := Lib.hid (HBG.out w2 HB2.out)
  rw [← hbg] at HBG2 HE
  obtain ⟨op, hop⟩ : ∃ b, b = Lx.opens x := ⟨_, rfl⟩
  have HOP2 := Lib.hid (HOP.out w2 HB2.out)
  rw [← hop] at HOP2 HE
  clear hS1 hb2 hS2 hbg hop HBG HOP HU c0 c1 c3
  go_wp2_with fail
  refine HBG2.out.mono ?_
  rintro e' w ⟨rfl, hw⟩
  subst w
  go_wp2_with fail
  refine HOP2.out.mono ?_
  rintro e' w ⟨rfl, hw⟩
  subst w
  clear HBG2 HOP2
  go_wp2_with fail
  refine go_start (fun w' => Below w2.heap.size w2 w') [] [.p 0, .p 1, .p 2, .t 3, .p 4, .p 5, .p 6, .p 7, .t 8, .p 9, .p 10, .p 11] (by kernel_rfl) (by kernel_rfl) (fun c d v a w h => by cases d <;> exact h) ((Below.refl _ w2).drew) (fun w4 hS4 => ?_)
  repeat first
  | refine go_p (v := ?_) (b := ?_) rfl (.inl ⟨by rfl, ?_⟩) ?_ ?_
    rotate_left 2
    · intro w'; go_simp; with_reducible rfl
    · simp only [Act.put, List.setIfInBounds_toArray, List.set_cons_zero, List.set_cons_succ, i64_w, i32_w, hv1]; rfl
  | refine go_t (v := ?_) (b := ?_) rfl (.inl ⟨by rfl, ?_⟩) ?_ ?_
    rotate_left 2
    · intro w' hS; have hc := Below.cells hS; go_simp; with_reducible rfl
    · simp only [Act.put, List.setIfInBounds_toArray, List.set_cons_zero, List.set_cons_succ, i64_w, i32_w, hv1]; rfl
  refine go_done ?_
  have hS6 : Below W.heap.size W w4 := HB2.out.trans (hS4.mono HB2.out.size)
  have HB4 := Lib.hid hS6
  have d5 := (HC.out w4 hS6).c3
  have d6 := (HC.out w4 hS6).c1
  have hq9 : (q : Int) ≤ 2000 := by have := HQ.out; omega
  have hqv : (x.sat : Int) + 1 = (q : Int) := by have := HQ.out; omega
  obtain ⟨be, hbe⟩ : ∃ b, b = ((q : Int) == (s.size : Int)) := ⟨_, rfl⟩
  obtain ⟨b1, hb1⟩ : ∃ b, b = Lx.here s q [92, 41] := ⟨_, rfl⟩
  obtain ⟨b2, hb2⟩ : ∃ b, b = Lx.here s q [92, 124] := ⟨_, rfl⟩
  have HI1 := Lib.hid (HIS.out w4 HB4.out ⟨#[92, 41]⟩ (by decide))
  have HI2 := Lib.hid (HIS.out w4 HB4.out ⟨#[92, 124]⟩ (by decide))
  rw [show Lx.here s q (⟨#[92, 41]⟩ : ByteArray).data.toList = b1 from hb1.symm] at HI1
  rw [show Lx.here s q (⟨#[92, 124]⟩ : ByteArray).data.toList = b2 from hb2.symm] at HI2
  have HBB := Lib.hid (And.intro hbe (And.intro hb1 hb2))
  rw [← hbe]
  clear hS4 hS6 hbe hb1 hb2 HIS d0 d3 hv1 HB2
  go_wp2_with fail
  refine HI1.out.mono ?_
  rintro e' w ⟨rfl, hw⟩
  subst w
  go_wp2_with fail
  refine HI2.out.mono ?_
  rintro e' w ⟨rfl, hw⟩
  subst w
  clear HI1 HI2 hqv
  by_cases h0 : c < 0
  ·
    as_aux_lemma =>
      have HX := Lib.hid (HE.out.trans (if_pos h0))
      clear HE HES HBR HP HCH
      go_wp2_with fail
      refine (HNO.out w4 HB4.out 20).mono ?_
      rintro e w5 ⟨rfl, hrs, hstp⟩
      have HE3 := Lib.hid (And.intro hrs hstp)
      clear hrs hstp
      go_wp2_with fail
      go_end0
      exact RSteps.err HX.out rfl ⟨⟨_, _, HE3.out.1⟩, (Stp.of_below HB4.out HBS.out).trans HE3.out.2⟩
  by_cases h92 : c = 92
  ·
    as_aux_lemma =>
      have HX := Lib.hid (HE.out.trans ((if_neg h0).trans (if_pos h92)))
      subst h92
      clear HE HBR HP HCH HNO
      go_wp2_with fail
      refine (HES.out w4 HB4.out).mono ?_
      rintro e' w5 h
      have he := h.1
      subst he
      have HE3 := Lib.hid h
      clear h
      go_wp2_with fail
      go_end0
      rw [HX.out]
      exact HE3.out.up (Stp.of_below HB4.out HBS.out)
  by_cases h91 : c = 91
  ·
    as_aux_lemma =>
      have HX := Lib.hid (HE.out.trans ((if_neg h0).trans ((if_neg h92).trans (if_pos h91))))
      subst h91
      clear HE HES HP HCH HNO
      go_wp2_with fail
      refine (HBR.out w4 HB4.out).mono ?_
      rintro e' w5 h
      have he := h.1
      subst he
      have HE3 := Lib.hid h
      clear h
      go_wp2_with fail
      go_end0
      rw [HX.out]
      exact HE3.out.up (Stp.of_below HB4.out HBS.out)
  by_cases h46 : c = 46
  ·
    as_aux_lemma =>
      have HX := Lib.hid (show Lx.next clC s chars fold x = .ok (Lx.put x ⟨1, 0, 0, 0, 0, 0, clC.not_ [] chars⟩ (x.sat + n)) from HE.out.trans ((if_neg h0).trans ((if_neg h92).trans ((if_neg h91).trans (if_pos h46)))))
      have hn : n = 1 := HON.out (by omega)
      subst h46
      subst hn
      have HNN := Lib.hid (rall_row chars w4)
      clear HE HES HBR HCH HNO
      go_wp2_with fail
      refine HNN.out.mono ?_
      rintro e w5 ⟨v, rfl, hr, hb⟩
      obtain ⟨A, k, rfl⟩ := hr.form
      have HPP := Lib.hid (HP.out w5 (HB4.out.trans (hb.mono HB4.out.size)) 1 0 0 _ _ (hr.lower HB4.out.size))
      clear hr hb HNN HP
      go_wp2_with fail
      refine HPP.out.mono ?_
      rintro e' w' ⟨rfl, V', h⟩
      have HE3 := Lib.hid h
      clear h
      go_wp2_with fail
      go_end0
      exact RSteps.ok HX.out rfl ⟨V', HE3.out⟩
  have HE2 := Lib.hid (HE.out.trans ((if_neg h0).trans ((if_neg h92).trans ((if_neg h91).trans (if_neg h46)))))
  clear HE
  have HE := HE2
  clear HE2
  have b92 : (c == 92) = false := by rw [beq_eq_false_iff_ne]; exact h92
  have b91 : (c == 91) = false := by rw [beq_eq_false_iff_ne]; exact h91
  have b46 : (c == 46) = false := by rw [beq_eq_false_iff_ne]; exact h46
  by_cases h42 : c = 42
  · have hn : n = 1 := HON.out (by omega)
    cases bg with
    | false =>
      as_aux_lemma =>
        have HX := Lib.hid (show Lx.next clC s chars fold x = .ok (Lx.put x ⟨2, 0, 0, 0, 0, -1, []⟩ (x.sat + n)) from HE.out.trans (if_pos ⟨h42, rfl⟩))
        subst h42
        subst hn
        have HPP := Lib.hid (HP.out w4 HB4.out 2 0 (-1) _ _ (Row.nil _ _))
        clear HE HES HBR HCH HNO HP
        go_wp2_with fail
        refine HPP.out.mono ?_
        rintro e' w' ⟨rfl, V', h⟩
        have HE3 := Lib.hid h
        clear h
        go_wp2_with fail
        go_end0
        exact RSteps.ok HX.out rfl ⟨V', HE3.out⟩
    | true =>
      as_aux_lemma =>
        have HX := Lib.hid (show Lx.next clC s chars fold x = .ok (Lx.char clC fold x c (x.sat + n)) from HE.out.trans ((if_neg (by simp)).trans ((if_neg (by omega)).trans (if_neg (by omega)))))
        have b42 : (c == 42) = true := by rw [beq_iff_eq]; exact h42
        have b94 : (c == 94) = false := by rw [beq_eq_false_iff_ne]; omega
        have b36 : (c == 36) = false := by rw [beq_eq_false_iff_ne]; omega
        clear h42 hn
        have HC4 := Lib.hid (HCH.out w4 HB4.out (by omega))
        clear HE HES HBR HCH HNO
        go_wp2_with fail
        refine HC4.out.mono ?_
        rintro e' w5 ⟨v5, rfl, hrow, hb5⟩
        obtain ⟨A, k, rfl⟩ := hrow.form
        have HPP := Lib.hid (HP.out w5 (HB4.out.trans (hb5.mono HB4.out.size)) 1 0 0 _ _ (hrow.lower HB4.out.size))
        clear hrow hb5 HP HC4
        go_wp2_with fail
        refine HPP.out.mono ?_
        rintro e' w' ⟨rfl, V', h⟩
        have HE3 := Lib.hid h
        clear h
        go_wp2_with fail
        go_end0
        exact RSteps.ok HX.out rfl ⟨V', HE3.out⟩
  have b42 : (c == 42) = false := by rw [beq_eq_false_iff_ne]; exact h42
  by_cases h94 : c = 94
  · have hn : n = 1 := HON.out (by omega)
    cases op with
    | true =>
      as_aux_lemma =>
        have HX := Lib.hid (show Lx.next clC s chars fold x = .ok (Lx.put x ⟨7, 0, 0, 0, 0, 0, []⟩ (x.sat + n)) from HE.out.trans ((if_neg (by omega)).trans (if_pos ⟨h94, rfl⟩)))
        subst h94
        subst hn
        have HPP := Lib.hid (HP.out w4 HB4.out 7 0 0 _ _ (Row.nil _ _))
        clear HE HES HBR HCH HNO HP
        go_wp2_with fail
        refine HPP.out.mono ?_
        rintro e' w' ⟨rfl, V', h⟩
        have HE3 := Lib.hid h
        clear h
        go_wp2_with fail
        go_end0
        exact RSteps.ok HX.out rfl ⟨V', HE3.out⟩
    | false =>
      as_aux_lemma =>
        have HX := Lib.hid (show Lx.next clC s chars fold x = .ok (Lx.char clC fold x c (x.sat + n)) from HE.out.trans ((if_neg (by omega)).trans ((if_neg (by simp)).trans (if_neg (by omega)))))
        have b94 : (c == 94) = true := by rw [beq_iff_eq]; exact h94
        have b36 : (c == 36) = false := by rw [beq_eq_false_iff_ne]; omega
        clear h94 hn
        have HC4 := Lib.hid (HCH.out w4 HB4.out (by omega))
        clear HE HES HBR HCH HNO
        go_wp2_with fail
        refine HC4.out.mono ?_
        rintro e' w5 ⟨v5, rfl, hrow, hb5⟩
        obtain ⟨A, k, rfl⟩ := hrow.form
        have HPP := Lib.hid (HP.out w5 (HB4.out.trans (hb5.mono HB4.out.size)) 1 0 0 _ _ (hrow.lower HB4.out.size))
        clear hrow hb5 HP HC4
        go_wp2_with fail
        refine HPP.out.mono ?_
        rintro e' w' ⟨rfl, V', h⟩
        have HE3 := Lib.hid h
        clear h
        go_wp2_with fail
        go_end0
        exact RSteps.ok HX.out rfl ⟨V', HE3.out⟩
  have b94 : (c == 94) = false := by rw [beq_eq_false_iff_ne]; exact h94
  by_cases h36 : c = 36
  · have hn : n = 1 := HON.out (by omega)
    have hiff : (x.sat + n = s.size ∨ Lx.here s (x.sat + n) [92, 41] = true ∨ Lx.here s (x.sat + n) [92, 124] = true) ↔ (be = true ∨ b1 = true ∨ b2 = true) := by
      rw [hn, ← HQ.out.1, ← HBB.out.2.1, ← HBB.out.2.2, HBB.out.1, beq_iff_eq]
      constructor
      · rintro (h | h | h)
        · exact .inl (by omega)
        · exact .inr (.inl h)
        · exact .inr (.inr h)
      · rintro (h | h | h)
        · exact .inl (by omega)
        · exact .inr (.inl h)
        · exact .inr (.inr h)
    by_cases hany : be = true ∨ b1 = true ∨ b2 = true
    ·
      as_aux_lemma =>
        have HX := Lib.hid (show Lx.next clC s chars fold x = .ok (Lx.put x ⟨8, 0, 0, 0, 0, 0, []⟩ (x.sat + n)) from HE.out.trans ((if_neg (by omega)).trans ((if_neg (by omega)).trans (if_pos ⟨h36, hiff.2 hany⟩))))
        subst h36
        subst hn
        have HPP := Lib.hid (HP.out w4 HB4.out 8 0 0 _ _ (Row.nil _ _))
        clear HE HES HBR HCH HNO HP hiff
        have h3 : be = true ∨ (be = false ∧ b1 = true) ∨ (be = false ∧ b1 = false ∧ b2 = true) := by revert hany; cases be <;> cases b1 <;> cases b2 <;> decide
        clear hany
        rcases h3 with rfl | ⟨rfl, rfl⟩ | ⟨rfl, rfl, rfl⟩
        all_goals
          go_wp2_with fail
          refine HPP.out.mono ?_
          rintro e' w' ⟨rfl, V', h⟩
          have HE3 := Lib.hid h
          clear h
          go_wp2_with fail
          go_end0
          exact RSteps.ok HX.out rfl ⟨V', HE3.out⟩
    ·
      as_aux_lemma =>
        have HX := Lib.hid (show Lx.next clC s chars fold x = .ok (Lx.char clC fold x c (x.sat + n)) from HE.out.trans ((if_neg (by omega)).trans ((if_neg (by omega)).trans (if_neg (fun h => hany (hiff.1 h.2))))))
        have h3 : be = false ∧ b1 = false ∧ b2 = false := by revert hany; cases be <;> cases b1 <;> cases b2 <;> decide
        obtain ⟨rfl, rfl, rfl⟩ := h3
        have b36 : (c == 36) = true := by rw [beq_iff_eq]; exact h36
        clear hany hiff h36 hn
        have HC4 := Lib.hid (HCH.out w4 HB4.out (by omega))
        clear HE HES HBR HCH HNO
        go_wp2_with fail
        refine HC4.out.mono ?_
        rintro e' w5 ⟨v5, rfl, hrow, hb5⟩
        obtain ⟨A, k, rfl⟩ := hrow.form
        have HPP := Lib.hid (HP.out w5 (HB4.out.trans (hb5.mono HB4.out.size)) 1 0 0 _ _ (hrow.lower HB4.out.size))
        clear hrow hb5 HP HC4
        go_wp2_with fail
        refine HPP.out.mono ?_
        rintro e' w' ⟨rfl, V', h⟩
        have HE3 := Lib.hid h
        clear h
        go_wp2_with fail
        go_end0
        exact RSteps.ok HX.out rfl ⟨V', HE3.out⟩
  have b36 : (c == 36) = false := by rw [beq_eq_false_iff_ne]; exact h36
  as_aux_lemma =>
    have HX := Lib.hid (show Lx.next clC s chars fold x = .ok (Lx.char clC fold x c (x.sat + n)) from HE.out.trans ((if_neg (fun h => h42 h.1)).trans ((if_neg (fun h => h94 h.1)).trans (if_neg (fun h => h36 h.1)))))
    clear h42 h94 h36 h92 h91 h46
    have HC4 := Lib.hid (HCH.out w4 HB4.out (by omega))
    clear HE HES HBR HCH HNO
    go_wp2_with fail
    refine HC4.out.mono ?_
    rintro e' w5 ⟨v5, rfl, hrow, hb5⟩
    obtain ⟨A, k, rfl⟩ := hrow.form
    have HPP := Lib.hid (HP.out w5 (HB4.out.trans (hb5.mono HB4.out.size)) 1 0 0 _ _ (hrow.lower HB4.out.size))
    clear hrow hb5 HP HC4
    go_wp2_with fail
    refine HPP.out.mono ?_
    rintro e' w' ⟨rfl, V', h⟩
    have HE3 := Lib.hid h
    clear h
    go_wp2_with fail
    go_end0
    exact RSteps.ok HX.out rfl ⟨V', HE3.out⟩
end Go.Proofs.YtamhkdlcoghdbaaGreatDoor.PCls
