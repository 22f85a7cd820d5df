/- The walk of ClassesNorm. -/
import Derived.Test.YtamhkdlcoghdbaaLawKit
import Derived.Test.YtamhkdlcoghdbaaGEx
namespace Go.Proofs.Ytamhkdlcoghdbaa.PCls
open Go.RowKit Go.Proofs.YtamhkdlcoghdbaaW.PrintWords Go.Proofs.YtamhkdlcoghdbaaW.PrintLast Go.Proofs.YtamhkdlcoghdbaaW.PrintMore
set_option linter.unusedVariables false
set_option linter.unusedSimpArgs false


set_option maxHeartbeats 8000000 in
set_option maxRecDepth 100000 in
theorem norm_walk (l X : List S64) (hX : X = l ++ [⟨-7, 7⟩]) (m : Bool) (N O F : List S64) (t : Bool) (k1 k2 k3 k4 k5 k6 k7 k8 k9 k10 k11 : Nat)
    (f1 : classes_Norm.f k1 l m = some N) (f2 : classes_Not.f k2 l m = some O) (f3 : classes_Fold.f l = some F)
    (g1 : dredgeref06_Norm.f k3 l m = some N) (g2 : dredgeref06_Not.f k4 l m = some O) (g3 : dredgeref06_Fold.f k5 l = some F)
    (a1 : dredgeref06_Alike.f k6 N N = some true) (a2 : dredgeref06_Alike.f k7 O O = some true) (a3 : dredgeref06_Alike.f k8 F F = some true)
    (r1 : classes_Right.f k9 l m = some t) (r2 : dredgeref06_Right.f k10 l m = some t) (s1 : dredgelaw06_still.f k11 X l = some true)
    (d1 : dredgelaw06_lent.f l = some X) (hN : N.length < 8796093022208) (hO : O.length < 8796093022208) (hF : F.length < 8796093022208)
    (A0 : Option Addr) (c0 : Nat) (W : World) (hr0 : Kd.C k64 W A0 l.length l) (hc0 : l.length ≤ c0) :
    Calls Try.prog 6 #[.slice A0 l.length c0, .bool m] W fun e w' => e = .returned (.bool true) ∧ Below W.heap.size W w' := by
  have F1 := Lib.hid f1
  have F2 := Lib.hid f2
  have F3 := Lib.hid f3
  have G1 := Lib.hid g1
  have G2 := Lib.hid g2
  have G3 := Lib.hid g3
  have A1 := Lib.hid a1
  have A2 := Lib.hid a2
  have A3 := Lib.hid a3
  have R1 := Lib.hid r1
  have R2 := Lib.hid r2
  have S1 := Lib.hid s1
  have D1 := Lib.hid d1
  have XX := Lib.hid hX
  have HN := Lib.hid hN
  have HO := Lib.hid hO
  have HF := Lib.hid hF
  have HR0 := Lib.hid hr0
  have HC0 := Lib.hid hc0
  clear f1 f2 f3 g1 g2 g3 a1 a2 a3 r1 r2 s1 d1 hX hN hO hF hr0 hc0
  have hB0 := Lib.hid (Below.refl W.heap.size W)
  go_enter Try.func6, Try.ntmps6
  go_wp2_with fail
  refine (dredgelaw06_examples.calls true W rfl).mono ?_
  rintro e w1 ⟨rfl, hB⟩
  have Cl_1 := Lib.hid (Kd.C_below HR0.out hB)
  have B_1 := Lib.hid (hB0.out.trans (hB.mono hB0.out.size))
  clear hB  
  go_wp2_with fail
  refine (dredgelaw06_lent.calls A0 c0 l _ w1 Cl_1.out HC0.out D1.out).mono ?_
  rintro e w2 ⟨vx, rfl, hR, hB⟩
  have Cl_2 := Lib.hid (Kd.C_below Cl_1.out hB)
  have B_2 := Lib.hid (B_1.out.trans (hB.mono B_1.out.size))
  obtain ⟨Ax, cx, rfl⟩ := Kd.R_slice hR
  have Lx := Lib.hid (rR hR).2.1
  have Cx_2 := Lib.hid (rR hR).2.2
  clear hB hR Cl_1 B_1
  have Ln := Lib.hid (show l.length ≤ cx by have h1 := Lx.out; have h2 := congrArg List.length XX.out; rw [List.length_append] at h2; omega)
  have q1 : (0 : Int) ≤ (l.length : Int) := by omega
  have q2 : (l.length : Int) ≤ (cx : Int) := by have := Ln.out; omega
  go_wp2_with fail
  go_loopg [8] 2 (fun gg s8 wr => ∃ i : Nat, i ≤ 2 ∧ 2 - i ≤ gg ∧ s8 = .int .i64 i ∧ Aside0 (Kd.C k64 wr Ax X.length X) ∧ Aside0 (Kd.C k64 wr A0 l.length l) ∧ Aside0 (Below W.heap.size W wr))
  case atStart => exact ⟨0, by omega, by omega, rfl, ⟨Cx_2.out⟩, ⟨Cl_2.out⟩, ⟨B_2.out⟩⟩
  case round =>
    obtain ⟨i, hi, hgg, rfl, HX, HLL, HBL⟩ := hrel
    by_cases hlt : i < 2
    · have hltz : (i : Int) < 2 := by omega
      have Q0 := Lib.hid (Below.refl wr.heap.size wr)
      go_wp2_with fail
      refine (classes_Norm.calls k1 Ax cx l m _ wr (C_head XX.out HX.out) Ln.out F1.out).mono ?_
      rintro e w11 ⟨va, rfl, hR, hB⟩
      have Cx_11 := Lib.hid (Kd.C_below HX.out hB)
      have Cl_11 := Lib.hid (Kd.C_below HLL.out hB)
      have B_11 := Lib.hid (Q0.out.trans (hB.mono Q0.out.size))
      obtain ⟨Aa, ca, rfl⟩ := Kd.R_slice hR
      have La := Lib.hid (rR hR).2.1
      have Ca_11 := Lib.hid (rR hR).2.2
      have Ta := Lib.hid (R_lt hR)
      have Ra_11 := Lib.hid (Kd.R_lower hR Q0.out.size)
      clear hB hR 
      go_wp2_with fail
      refine (classes_Not.calls k2 Ax cx l m _ w11 (C_head XX.out Cx_11.out) Ln.out F2.out).mono ?_
      rintro e w12 ⟨vb, rfl, hR, hB⟩
      have Cx_12 := Lib.hid (Kd.C_below Cx_11.out hB)
      have Cl_12 := Lib.hid (Kd.C_below Cl_11.out hB)
      have Ca_12 := Lib.hid (Kd.C_below Ca_11.out hB)
      have Ra_12 := Lib.hid (R_below Ra_11.out hB)
      have B_12 := Lib.hid (B_11.out.trans (hB.mono B_11.out.size))
      obtain ⟨Ab, cb, rfl⟩ := Kd.R_slice hR
      have Lb := Lib.hid (rR hR).2.1
      have Cb_12 := Lib.hid (rR hR).2.2
      have Tb := Lib.hid (R_lt hR)
      have Rb_12 := Lib.hid (Kd.R_lower hR B_11.out.size)
      have SB := Lib.hid hB.size
      clear hB hR Cx_11 Cl_11 Ca_11 Ra_11 B_11
      go_wp2_with fail
      refine (classes_Fold.calls Ax cx l _ w12 (C_head XX.out Cx_12.out) Ln.out F3.out).mono ?_
      rintro e w13 ⟨vc, rfl, hR, hB⟩
      have Cx_13 := Lib.hid (Kd.C_below Cx_12.out hB)
      have Cl_13 := Lib.hid (Kd.C_below Cl_12.out hB)
      have Ca_13 := Lib.hid (Kd.C_below Ca_12.out hB)
      have Cb_13 := Lib.hid (Kd.C_below Cb_12.out hB)
      have Ra_13 := Lib.hid (R_below Ra_12.out hB)
      have Rb_13 := Lib.hid (R_below Rb_12.out hB)
      have B_13 := Lib.hid (B_12.out.trans (hB.mono B_12.out.size))
      obtain ⟨Ac, cc, rfl⟩ := Kd.R_slice hR
      have Lc := Lib.hid (rR hR).2.1
      have Cc_13 := Lib.hid (rR hR).2.2
      have Tc := Lib.hid (R_lt hR)
      have Rc_13 := Lib.hid (Kd.R_lower hR B_12.out.size)
      clear hB hR Cx_12 Cl_12 Ca_12 Cb_12 Ra_12 Rb_12 B_12
      go_wp2_with fail
      refine (dredgeref06_Norm.calls k3 A0 c0 l m _ w13 Cl_13.out HC0.out G1.out).mono ?_
      rintro e w14 ⟨vr, rfl, hR, hB⟩
      have Cx_14 := Lib.hid (Kd.C_below Cx_13.out hB)
      have Cl_14 := Lib.hid (Kd.C_below Cl_13.out hB)
      have Ca_14 := Lib.hid (Kd.C_below Ca_13.out hB)
      have Cb_14 := Lib.hid (Kd.C_below Cb_13.out hB)
      have Cc_14 := Lib.hid (Kd.C_below Cc_13.out hB)
      have Ra_14 := Lib.hid (R_below Ra_13.out hB)
      have Rb_14 := Lib.hid (R_below Rb_13.out hB)
      have Rc_14 := Lib.hid (R_below Rc_13.out hB)
      have B_14 := Lib.hid (B_13.out.trans (hB.mono B_13.out.size))
      obtain ⟨Ar, cr, rfl⟩ := Kd.R_slice hR
      have Lr := Lib.hid (rR hR).2.1
      have Cr_14 := Lib.hid (rR hR).2.2
      clear hB hR Cx_13 Cl_13 Ca_13 Cb_13 Cc_13 Ra_13 Rb_13 Rc_13 B_13
      go_wp2_with fail
      refine (dredgeref06_Alike.calls k6 Aa ca N Ar cr N true w14 Ca_14.out La.out Cr_14.out Lr.out A1.out).mono ?_
      rintro e w15 ⟨rfl, hD⟩
      have hB := B_drawn (Below.refl w14.heap.size w14) hD
      have Cx_15 := Lib.hid (Kd.C_below Cx_14.out hB)
      have Cl_15 := Lib.hid (Kd.C_below Cl_14.out hB)
      have Ca_15 := Lib.hid (Kd.C_below Ca_14.out hB)
      have Cb_15 := Lib.hid (Kd.C_below Cb_14.out hB)
      have Cc_15 := Lib.hid (Kd.C_below Cc_14.out hB)
      have Cr_15 := Lib.hid (Kd.C_below Cr_14.out hB)
      have Ra_15 := Lib.hid (R_below Ra_14.out hB)
      have Rb_15 := Lib.hid (R_below Rb_14.out hB)
      have Rc_15 := Lib.hid (R_below Rc_14.out hB)
      have B_15 := Lib.hid (B_14.out.trans (hB.mono B_14.out.size))
      clear hB hD Cx_14 Cl_14 Ca_14 Cb_14 Cc_14 Cr_14 Ra_14 Rb_14 Rc_14 B_14
      clear Cr_15 Lr Ca_15 La
      go_wp2_with fail
      refine (dredgeref06_Not.calls k4 A0 c0 l m _ w15 Cl_15.out HC0.out G2.out).mono ?_
      rintro e w16 ⟨vr, rfl, hR, hB⟩
      have Cx_16 := Lib.hid (Kd.C_below Cx_15.out hB)
      have Cl_16 := Lib.hid (Kd.C_below Cl_15.out hB)
      have Cb_16 := Lib.hid (Kd.C_below Cb_15.out hB)
      have Cc_16 := Lib.hid (Kd.C_below Cc_15.out hB)
      have Ra_16 := Lib.hid (R_below Ra_15.out hB)
      have Rb_16 := Lib.hid (R_below Rb_15.out hB)
      have Rc_16 := Lib.hid (R_below Rc_15.out hB)
      have B_16 := Lib.hid (B_15.out.trans (hB.mono B_15.out.size))
      obtain ⟨Ar, cr, rfl⟩ := Kd.R_slice hR
      have Lr := Lib.hid (rR hR).2.1
      have Cr_16 := Lib.hid (rR hR).2.2
      clear hB hR Cx_15 Cl_15 Cb_15 Cc_15 Ra_15 Rb_15 Rc_15 B_15
      go_wp2_with fail
      refine (dredgeref06_Alike.calls k7 Ab cb O Ar cr O true w16 Cb_16.out Lb.out Cr_16.out Lr.out A2.out).mono ?_
      rintro e w17 ⟨rfl, hD⟩
      have hB := B_drawn (Below.refl w16.heap.size w16) hD
      have Cx_17 := Lib.hid (Kd.C_below Cx_16.out hB)
      have Cl_17 := Lib.hid (Kd.C_below Cl_16.out hB)
      have Cb_17 := Lib.hid (Kd.C_below Cb_16.out hB)
      have Cc_17 := Lib.hid (Kd.C_below Cc_16.out hB)
      have Cr_17 := Lib.hid (Kd.C_below Cr_16.out hB)
      have Ra_17 := Lib.hid (R_below Ra_16.out hB)
      have Rb_17 := Lib.hid (R_below Rb_16.out hB)
      have Rc_17 := Lib.hid (R_below Rc_16.out hB)
      have B_17 := Lib.hid (B_16.out.trans (hB.mono B_16.out.size))
      clear hB hD Cx_16 Cl_16 Cb_16 Cc_16 Cr_16 Ra_16 Rb_16 Rc_16 B_16
      clear Cr_17 Lr Cb_17 Lb
      go_wp2_with fail
      refine (dredgeref06_Fold.calls k5 A0 c0 l _ w17 Cl_17.out HC0.out G3.out).mono ?_
      rintro e w18 ⟨vr, rfl, hR, hB⟩
      have Cx_18 := Lib.hid (Kd.C_below Cx_17.out hB)
      have Cl_18 := Lib.hid (Kd.C_below Cl_17.out hB)
      have Cc_18 := Lib.hid (Kd.C_below Cc_17.out hB)
      have Ra_18 := Lib.hid (R_below Ra_17.out hB)
      have Rb_18 := Lib.hid (R_below Rb_17.out hB)
      have Rc_18 := Lib.hid (R_below Rc_17.out hB)
      have B_18 := Lib.hid (B_17.out.trans (hB.mono B_17.out.size))
      obtain ⟨Ar, cr, rfl⟩ := Kd.R_slice hR
      have Lr := Lib.hid (rR hR).2.1
      have Cr_18 := Lib.hid (rR hR).2.2
      clear hB hR Cx_17 Cl_17 Cc_17 Ra_17 Rb_17 Rc_17 B_17
      go_wp2_with fail
      refine (dredgeref06_Alike.calls k8 Ac cc F Ar cr F true w18 Cc_18.out Lc.out Cr_18.out Lr.out A3.out).mono ?_
      rintro e w19 ⟨rfl, hD⟩
      have hB := B_drawn (Below.refl w18.heap.size w18) hD
      have Cx_19 := Lib.hid (Kd.C_below Cx_18.out hB)
      have Cl_19 := Lib.hid (Kd.C_below Cl_18.out hB)
      have Cc_19 := Lib.hid (Kd.C_below Cc_18.out hB)
      have Cr_19 := Lib.hid (Kd.C_below Cr_18.out hB)
      have Ra_19 := Lib.hid (R_below Ra_18.out hB)
      have Rb_19 := Lib.hid (R_below Rb_18.out hB)
      have Rc_19 := Lib.hid (R_below Rc_18.out hB)
      have B_19 := Lib.hid (B_18.out.trans (hB.mono B_18.out.size))
      clear hB hD Cx_18 Cl_18 Cc_18 Cr_18 Ra_18 Rb_18 Rc_18 B_18
      clear Cr_19 Lr Cc_19 Lc
      go_wp2_with fail
      refine (classes_Right.calls k9 Ax cx l m t w19 (C_head XX.out Cx_19.out) Ln.out R1.out).mono ?_
      rintro e w20 ⟨rfl, hB⟩
      have Cx_20 := Lib.hid (Kd.C_below Cx_19.out hB)
      have Cl_20 := Lib.hid (Kd.C_below Cl_19.out hB)
      have Ra_20 := Lib.hid (R_below Ra_19.out hB)
      have Rb_20 := Lib.hid (R_below Rb_19.out hB)
      have Rc_20 := Lib.hid (R_below Rc_19.out hB)
      have B_20 := Lib.hid (B_19.out.trans (hB.mono B_19.out.size))
      clear hB  Cx_19 Cl_19 Ra_19 Rb_19 Rc_19 B_19
      go_wp2_with fail
      refine (dredgeref06_Right.calls k10 A0 c0 l m t w20 Cl_20.out HC0.out R2.out).mono ?_
      rintro e w21 ⟨rfl, hB⟩
      have Cx_21 := Lib.hid (Kd.C_below Cx_20.out hB)
      have Cl_21 := Lib.hid (Kd.C_below Cl_20.out hB)
      have Ra_21 := Lib.hid (R_below Ra_20.out hB)
      have Rb_21 := Lib.hid (R_below Rb_20.out hB)
      have Rc_21 := Lib.hid (R_below Rc_20.out hB)
      have B_21 := Lib.hid (B_20.out.trans (hB.mono B_20.out.size))
      clear hB  Cx_20 Cl_20 Ra_20 Rb_20 Rc_20 B_20
      have htt : (t != t) = false := by simp
      go_wp2_with fail
      refine (spoil_at (fun k => k < w11.heap.size) HN.out B_21.out Ra_21.out (fun k hk => (Ta.out k hk).2)).mono ?_
      rintro e y1 ⟨rfl, hB, hK⟩
      have Rb1 := Lib.hid (R_kept Rb_21.out hK (fun k hk h => by have := (Tb.out k hk).1; omega))
      have Rc1 := Lib.hid (R_kept Rc_21.out hK (fun k hk h => by have h1 := (Tc.out k hk).1; have h2 := SB.out; omega))
      have Y1 := Lib.hid hB
      clear hB hK Rb_21 Rc_21 Ra_21 B_21
      go_wp2_with fail
      refine (spoil_at (fun k => w11.heap.size ≤ k ∧ k < w12.heap.size) HO.out Y1.out Rb1.out (fun k hk => Tb.out k hk)).mono ?_
      rintro e y2 ⟨rfl, hB, hK⟩
      have Rc2 := Lib.hid (R_kept Rc1.out hK (fun k hk h => by have h1 := (Tc.out k hk).1; omega))
      have Y2 := Lib.hid hB
      clear hB hK Rb1 Rc1 Y1
      go_wp2_with fail
      refine (spoil_at (fun k => True) HF.out Y2.out Rc2.out (fun k hk => trivial)).mono ?_
      rintro e y3 ⟨rfl, hB, hK⟩
      have Y3 := Lib.hid hB
      clear hB hK Rc2 Y2
      go_wp2
      go_roundg (2 - (i + 1))
      case measure => omega
      case rel => exact ⟨i + 1, by omega, Nat.le_refl _, by go_num, ⟨Kd.C_below HX.out Y3.out⟩, ⟨Kd.C_below HLL.out Y3.out⟩, ⟨HBL.out.trans (Y3.out.mono HBL.out.size)⟩⟩
    · obtain rfl : i = 2 := by omega
      have hltz : ¬ ((2 : Nat) : Int) < 2 := by omega
      go_wp2_with fail
      refine (dredgelaw06_still.calls k11 Ax cx _ A0 c0 l true wr HX.out Lx.out HLL.out HC0.out S1.out).mono ?_
      rintro e w61 ⟨rfl, hD⟩
      have hB := B_drawn (Below.refl wr.heap.size wr) hD
      have Cx_61 := Lib.hid (Kd.C_below HX.out hB)
      have Cl_61 := Lib.hid (Kd.C_below HLL.out hB)
      have B_61 := Lib.hid (HBL.out.trans (hB.mono HBL.out.size))
      clear hB hD 
      go_wp2
      go_ret
      exact ⟨rfl, B_61.out⟩
theorem norm_law (l : List S64) (m : Bool) (hl : l.length < 2097152) (hin : inR l = true) (A0 : Option Addr) (c0 : Nat) (W : World) (hr0 : Kd.C k64 W A0 l.length l) (hc0 : l.length ≤ c0) :
    Calls Try.prog 6 #[.slice A0 l.length c0, .bool m] W fun e w' => e = .returned (.bool true) ∧ Below W.heap.size W w' := by
  have hN := and_length l (Cls.all m)
  have hall := all_length m
  have hO := less_length (Cls.all m) l
  have hF := fold_length l
  have hm := mul_small (Cls.all m).length l.length (by omega) hl
  obtain ⟨k1, f1⟩ := (norm_ends l m (by omega) hin).get
  obtain ⟨k2, f2⟩ := (not_ends l m hl hin).get
  obtain ⟨k3, g1⟩ := (refnorm_ends l m hl hin).get
  obtain ⟨k4, g2⟩ := (refnot_ends l m hl hin).get
  obtain ⟨k5, g3⟩ := (reffold_ends l hl hin).get
  obtain ⟨k6, a1⟩ := (alike_ends (Cls.norm l m) (Cls.norm l m) (by unfold Cls.norm; omega)).get
  obtain ⟨k7, a2⟩ := (alike_ends (Cls.less_ (Cls.all m) l) (Cls.less_ (Cls.all m) l) (by omega)).get
  obtain ⟨k8, a3⟩ := (alike_ends (Cls.fold l) (Cls.fold l) (by omega)).get
  obtain ⟨k9, r1⟩ := (right_ends l m hl hin).get
  obtain ⟨k10, r2⟩ := (refright_ends l m hl hin).get
  obtain ⟨k11, s1⟩ := (still_ends l (by omega)).get
  rw [decide_eq_true rfl] at a1 a2 a3
  exact norm_walk l _ rfl m _ _ _ _ k1 k2 k3 k4 k5 k6 k7 k8 k9 k10 k11 f1 f2 (by unfold classes_Fold.f; rw [if_pos (by omega), if_pos hin]) g1 g2 g3 a1 a2 a3 r1 r2 s1 (by unfold dredgelaw06_lent.f; rw [if_pos (by omega)]) (by unfold Cls.norm; omega) (by omega) (by omega) A0 c0 W hr0 hc0
end Go.Proofs.Ytamhkdlcoghdbaa.PCls
