/- The walk of ClassesRight, and its law. -/
import Derived.Test.YtamhkdlcoghdbaaLawKit
import Derived.Test.YtamhkdlcoghdbaaGEx
import Derived.Test.YtamhkdlcoghdbaaLCnt
namespace Go.Proofs.Ytamhkdlcoghdbaa.PCls
open Go.RowKit Go.Proofs.YtamhkdlcoghdbaaW.PrintWords Go.Proofs.YtamhkdlcoghdbaaW.PrintLast Go.Proofs.YtamhkdlcoghdbaaW.PrintMore
set_option linter.unusedVariables false
set_option linter.unusedSimpArgs false


set_option maxHeartbeats 8000000 in
set_option maxRecDepth 100000 in
theorem right_walk_true (a b : List S64) (m : Bool) (N M J I E D U V Y : List S64) (k1 k2 k3 k4 k5 k6 k7 k8 k9 k10 k11 k12 k13 k14 k15 k16 k17 k18 k19 : Nat)
    (f1 : classes_Norm.f k1 a m = some N) (f2 : classes_Not.f k2 a m = some M) (f3 : classes_Not.f k3 M m = some N) (f4 : classes_Or.f a b = some J) (f5 : classes_And.f k4 a b = some I)
    (r1 : classes_Right.f k5 N m = some true) (r2 : classes_Right.f k6 M m = some true) (s1 : classes_Same.f k7 N N = some true) (s2 : classes_Same.f k8 a b = some true) (s3 : classes_Same.f k9 J I = some true)
    (f6 : classes_Norm.f k10 J m = some Y) (r3 : classes_Right.f k11 Y m = some true) (f7 : classes_Less.f k12 a b = some D) (f8 : classes_Norm.f k13 D m = some E) (f9 : classes_Not.f k14 b m = some U) (f10 : classes_And.f k15 N U = some V)
    (s4 : classes_Same.f k16 E V = some true) (g1 : dredgelaw06_rising.f k17 J = some true) (g2 : dredgelaw06_rising.f k18 I = some true) (hJI : (J.length : Int) = (I.length : Int))
    (A0 : Option Addr) (c0 : Nat) (A1 : Option Addr) (c1 : Nat) (W : World) (hr0 : Kd.C k64 W A0 a.length a) (hc0 : a.length ≤ c0) (hr1 : Kd.C k64 W A1 b.length b) (hc1 : b.length ≤ c1) :
    Calls Try.prog 9 #[.slice A0 a.length c0, .slice A1 b.length c1, .bool m] W fun e w' => e = .returned (.bool true) ∧ Below W.heap.size W w' := by
  have F1 := Lib.hid f1
  have F2 := Lib.hid f2
  have F3 := Lib.hid f3
  have F4 := Lib.hid f4
  have F5 := Lib.hid f5
  have F6 := Lib.hid f6
  have F7 := Lib.hid f7
  have F8 := Lib.hid f8
  have F9 := Lib.hid f9
  have F10 := Lib.hid f10
  have R1 := Lib.hid r1
  have R2 := Lib.hid r2
  have R3 := Lib.hid r3
  have S1 := Lib.hid s1
  have S2 := Lib.hid s2
  have S3 := Lib.hid s3
  have S4 := Lib.hid s4
  have G1 := Lib.hid g1
  have G2 := Lib.hid g2
  have HR0 := Lib.hid hr0
  have HC0 := Lib.hid hc0
  have HR1 := Lib.hid hr1
  have HC1 := Lib.hid hc1
  clear f1 f2 f3 f4 f5 f6 f7 f8 f9 f10 r1 r2 r3 s1 s2 s3 s4 g1 g2 hr0 hc0 hr1 hc1
  have hB0 := Lib.hid (Below.refl W.heap.size W)
  go_enter Try.func9, Try.ntmps9
  go_wp2_with fail
  refine (dredgelaw06_examples.calls true W rfl).mono ?_
  rintro e w1 ⟨rfl, hB⟩
  have Cl_1 := Lib.hid (Kd.C_below HR0.out hB)
  have Cm_1 := Lib.hid (Kd.C_below HR1.out hB)
  have B_1 := Lib.hid (hB0.out.trans (hB.mono hB0.out.size))
  clear hB  
  go_wp2_with fail
  refine (classes_Norm.calls k1 A0 c0 a m _ w1 Cl_1.out HC0.out F1.out).mono ?_
  rintro e w2 ⟨vn, rfl, hR, hB⟩
  have Cl_2 := Lib.hid (Kd.C_below Cl_1.out hB)
  have Cm_2 := Lib.hid (Kd.C_below Cm_1.out hB)
  have B_2 := Lib.hid (B_1.out.trans (hB.mono B_1.out.size))
  obtain ⟨An, cn, rfl⟩ := Kd.R_slice hR
  have Ln := Lib.hid (rR hR).2.1
  have Cn_2 := Lib.hid (rR hR).2.2
  clear hB hR Cl_1 Cm_1 B_1
  go_wp2_with fail
  refine (classes_Not.calls k2 A0 c0 a m _ w2 Cl_2.out HC0.out F2.out).mono ?_
  rintro e w3 ⟨vo, rfl, hR, hB⟩
  have Cl_3 := Lib.hid (Kd.C_below Cl_2.out hB)
  have Cm_3 := Lib.hid (Kd.C_below Cm_2.out hB)
  have Cn_3 := Lib.hid (Kd.C_below Cn_2.out hB)
  have B_3 := Lib.hid (B_2.out.trans (hB.mono B_2.out.size))
  obtain ⟨Ao, co, rfl⟩ := Kd.R_slice hR
  have Lo := Lib.hid (rR hR).2.1
  have Co_3 := Lib.hid (rR hR).2.2
  clear hB hR Cl_2 Cm_2 Cn_2 B_2
  go_wp2_with fail
  refine (classes_Not.calls k3 Ao co _ m _ w3 Co_3.out Lo.out F3.out).mono ?_
  rintro e w4 ⟨vk, rfl, hR, hB⟩
  have Cl_4 := Lib.hid (Kd.C_below Cl_3.out hB)
  have Cm_4 := Lib.hid (Kd.C_below Cm_3.out hB)
  have Cn_4 := Lib.hid (Kd.C_below Cn_3.out hB)
  have Co_4 := Lib.hid (Kd.C_below Co_3.out hB)
  have B_4 := Lib.hid (B_3.out.trans (hB.mono B_3.out.size))
  obtain ⟨Ak, ck, rfl⟩ := Kd.R_slice hR
  have Lk := Lib.hid (rR hR).2.1
  have Ck_4 := Lib.hid (rR hR).2.2
  clear hB hR Cl_3 Cm_3 Cn_3 Co_3 B_3
  go_wp2_with fail
  refine (classes_Or.calls A0 c0 a A1 c1 b _ w4 Cl_4.out HC0.out Cm_4.out HC1.out F4.out).mono ?_
  rintro e w5 ⟨vj, rfl, hR, hB⟩
  have Cl_5 := Lib.hid (Kd.C_below Cl_4.out hB)
  have Cm_5 := Lib.hid (Kd.C_below Cm_4.out hB)
  have Cn_5 := Lib.hid (Kd.C_below Cn_4.out hB)
  have Co_5 := Lib.hid (Kd.C_below Co_4.out hB)
  have Ck_5 := Lib.hid (Kd.C_below Ck_4.out hB)
  have B_5 := Lib.hid (B_4.out.trans (hB.mono B_4.out.size))
  obtain ⟨Aj, cj, rfl⟩ := Kd.R_slice hR
  have Lj := Lib.hid (rR hR).2.1
  have Cj_5 := Lib.hid (rR hR).2.2
  clear hB hR Cl_4 Cm_4 Cn_4 Co_4 Ck_4 B_4
  go_wp2_with fail
  refine (classes_And.calls k4 A0 c0 a A1 c1 b _ w5 Cl_5.out HC0.out Cm_5.out HC1.out F5.out).mono ?_
  rintro e w6 ⟨vi, rfl, hR, hB⟩
  have Cl_6 := Lib.hid (Kd.C_below Cl_5.out hB)
  have Cm_6 := Lib.hid (Kd.C_below Cm_5.out hB)
  have Cn_6 := Lib.hid (Kd.C_below Cn_5.out hB)
  have Co_6 := Lib.hid (Kd.C_below Co_5.out hB)
  have Ck_6 := Lib.hid (Kd.C_below Ck_5.out hB)
  have Cj_6 := Lib.hid (Kd.C_below Cj_5.out hB)
  have B_6 := Lib.hid (B_5.out.trans (hB.mono B_5.out.size))
  obtain ⟨Ai, ci, rfl⟩ := Kd.R_slice hR
  have Li := Lib.hid (rR hR).2.1
  have Ci_6 := Lib.hid (rR hR).2.2
  clear hB hR Cl_5 Cm_5 Cn_5 Co_5 Ck_5 Cj_5 B_5
  go_wp2_with fail
  refine (classes_Right.calls k5 An cn _ m true w6 Cn_6.out Ln.out R1.out).mono ?_
  rintro e w7 ⟨rfl, hB⟩
  have Cl_7 := Lib.hid (Kd.C_below Cl_6.out hB)
  have Cm_7 := Lib.hid (Kd.C_below Cm_6.out hB)
  have Cn_7 := Lib.hid (Kd.C_below Cn_6.out hB)
  have Co_7 := Lib.hid (Kd.C_below Co_6.out hB)
  have Ck_7 := Lib.hid (Kd.C_below Ck_6.out hB)
  have Cj_7 := Lib.hid (Kd.C_below Cj_6.out hB)
  have Ci_7 := Lib.hid (Kd.C_below Ci_6.out hB)
  have B_7 := Lib.hid (B_6.out.trans (hB.mono B_6.out.size))
  clear hB  Cl_6 Cm_6 Cn_6 Co_6 Ck_6 Cj_6 Ci_6 B_6
  go_wp2_with fail
  refine (classes_Right.calls k6 Ao co _ m true w7 Co_7.out Lo.out R2.out).mono ?_
  rintro e w8 ⟨rfl, hB⟩
  have Cl_8 := Lib.hid (Kd.C_below Cl_7.out hB)
  have Cm_8 := Lib.hid (Kd.C_below Cm_7.out hB)
  have Cn_8 := Lib.hid (Kd.C_below Cn_7.out hB)
  have Co_8 := Lib.hid (Kd.C_below Co_7.out hB)
  have Ck_8 := Lib.hid (Kd.C_below Ck_7.out hB)
  have Cj_8 := Lib.hid (Kd.C_below Cj_7.out hB)
  have Ci_8 := Lib.hid (Kd.C_below Ci_7.out hB)
  have B_8 := Lib.hid (B_7.out.trans (hB.mono B_7.out.size))
  clear hB  Cl_7 Cm_7 Cn_7 Co_7 Ck_7 Cj_7 Ci_7 B_7
  go_wp2_with fail
  refine (classes_Right.calls k5 Ak ck _ m true w8 Ck_8.out Lk.out R1.out).mono ?_
  rintro e w9 ⟨rfl, hB⟩
  have Cl_9 := Lib.hid (Kd.C_below Cl_8.out hB)
  have Cm_9 := Lib.hid (Kd.C_below Cm_8.out hB)
  have Cn_9 := Lib.hid (Kd.C_below Cn_8.out hB)
  have Ck_9 := Lib.hid (Kd.C_below Ck_8.out hB)
  have Cj_9 := Lib.hid (Kd.C_below Cj_8.out hB)
  have Ci_9 := Lib.hid (Kd.C_below Ci_8.out hB)
  have B_9 := Lib.hid (B_8.out.trans (hB.mono B_8.out.size))
  clear hB  Cl_8 Cm_8 Cn_8 Ck_8 Cj_8 Ci_8 B_8
  go_wp2_with fail
  refine (classes_Same.calls k7 Ak ck _ An cn _ true w9 Ck_9.out Lk.out Cn_9.out Ln.out S1.out).mono ?_
  rintro e w10 ⟨rfl, hB⟩
  have Cl_10 := Lib.hid (Kd.C_below Cl_9.out hB)
  have Cm_10 := Lib.hid (Kd.C_below Cm_9.out hB)
  have Cn_10 := Lib.hid (Kd.C_below Cn_9.out hB)
  have Ck_10 := Lib.hid (Kd.C_below Ck_9.out hB)
  have Cj_10 := Lib.hid (Kd.C_below Cj_9.out hB)
  have Ci_10 := Lib.hid (Kd.C_below Ci_9.out hB)
  have B_10 := Lib.hid (B_9.out.trans (hB.mono B_9.out.size))
  clear hB  Cl_9 Cm_9 Cn_9 Ck_9 Cj_9 Ci_9 B_9
  go_wp2_with fail
  refine (classes_Same.calls k8 A0 c0 a A1 c1 b true w10 Cl_10.out HC0.out Cm_10.out HC1.out S2.out).mono ?_
  rintro e w11 ⟨rfl, hB⟩
  have Cl_11 := Lib.hid (Kd.C_below Cl_10.out hB)
  have Cm_11 := Lib.hid (Kd.C_below Cm_10.out hB)
  have Cn_11 := Lib.hid (Kd.C_below Cn_10.out hB)
  have Cj_11 := Lib.hid (Kd.C_below Cj_10.out hB)
  have Ci_11 := Lib.hid (Kd.C_below Ci_10.out hB)
  have B_11 := Lib.hid (B_10.out.trans (hB.mono B_10.out.size))
  clear hB  Cl_10 Cm_10 Cn_10 Cj_10 Ci_10 B_10
  go_wp2_with fail
  refine (classes_Same.calls k9 Aj cj _ Ai ci _ true w11 Cj_11.out Lj.out Ci_11.out Li.out S3.out).mono ?_
  rintro e w12 ⟨rfl, hB⟩
  have Cl_12 := Lib.hid (Kd.C_below Cl_11.out hB)
  have Cm_12 := Lib.hid (Kd.C_below Cm_11.out hB)
  have Cn_12 := Lib.hid (Kd.C_below Cn_11.out hB)
  have Cj_12 := Lib.hid (Kd.C_below Cj_11.out hB)
  have Ci_12 := Lib.hid (Kd.C_below Ci_11.out hB)
  have B_12 := Lib.hid (B_11.out.trans (hB.mono B_11.out.size))
  clear hB  Cl_11 Cm_11 Cn_11 Cj_11 Ci_11 B_11
  go_wp2_with fail
  refine (classes_Norm.calls k10 Aj cj _ m _ w12 Cj_12.out Lj.out F6.out).mono ?_
  rintro e w13 ⟨vy, rfl, hR, hB⟩
  have Cl_13 := Lib.hid (Kd.C_below Cl_12.out hB)
  have Cm_13 := Lib.hid (Kd.C_below Cm_12.out hB)
  have Cn_13 := Lib.hid (Kd.C_below Cn_12.out hB)
  have Cj_13 := Lib.hid (Kd.C_below Cj_12.out hB)
  have Ci_13 := Lib.hid (Kd.C_below Ci_12.out hB)
  have B_13 := Lib.hid (B_12.out.trans (hB.mono B_12.out.size))
  obtain ⟨Ay, cy, rfl⟩ := Kd.R_slice hR
  have Ly := Lib.hid (rR hR).2.1
  have Cy_13 := Lib.hid (rR hR).2.2
  clear hB hR Cl_12 Cm_12 Cn_12 Cj_12 Ci_12 B_12
  go_wp2_with fail
  refine (classes_Right.calls k11 Ay cy _ m true w13 Cy_13.out Ly.out R3.out).mono ?_
  rintro e w14 ⟨rfl, hB⟩
  have Cl_14 := Lib.hid (Kd.C_below Cl_13.out hB)
  have Cm_14 := Lib.hid (Kd.C_below Cm_13.out hB)
  have Cn_14 := Lib.hid (Kd.C_below Cn_13.out hB)
  have Cj_14 := Lib.hid (Kd.C_below Cj_13.out hB)
  have Ci_14 := Lib.hid (Kd.C_below Ci_13.out hB)
  have Cy_14 := Lib.hid (Kd.C_below Cy_13.out hB)
  have B_14 := Lib.hid (B_13.out.trans (hB.mono B_13.out.size))
  clear hB  Cl_13 Cm_13 Cn_13 Cj_13 Ci_13 Cy_13 B_13
  go_wp2_with fail
  refine (classes_Less.calls k12 A0 c0 a A1 c1 b _ w14 Cl_14.out HC0.out Cm_14.out HC1.out F7.out).mono ?_
  rintro e w15 ⟨vd, rfl, hR, hB⟩
  have Cl_15 := Lib.hid (Kd.C_below Cl_14.out hB)
  have Cm_15 := Lib.hid (Kd.C_below Cm_14.out hB)
  have Cn_15 := Lib.hid (Kd.C_below Cn_14.out hB)
  have Cj_15 := Lib.hid (Kd.C_below Cj_14.out hB)
  have Ci_15 := Lib.hid (Kd.C_below Ci_14.out hB)
  have B_15 := Lib.hid (B_14.out.trans (hB.mono B_14.out.size))
  obtain ⟨Ad, cd, rfl⟩ := Kd.R_slice hR
  have Ld := Lib.hid (rR hR).2.1
  have Cd_15 := Lib.hid (rR hR).2.2
  clear hB hR Cl_14 Cm_14 Cn_14 Cj_14 Ci_14 B_14
  go_wp2_with fail
  refine (classes_Norm.calls k13 Ad cd _ m _ w15 Cd_15.out Ld.out F8.out).mono ?_
  rintro e w16 ⟨ve, rfl, hR, hB⟩
  have Cl_16 := Lib.hid (Kd.C_below Cl_15.out hB)
  have Cm_16 := Lib.hid (Kd.C_below Cm_15.out hB)
  have Cn_16 := Lib.hid (Kd.C_below Cn_15.out hB)
  have Cj_16 := Lib.hid (Kd.C_below Cj_15.out hB)
  have Ci_16 := Lib.hid (Kd.C_below Ci_15.out hB)
  have Cd_16 := Lib.hid (Kd.C_below Cd_15.out hB)
  have B_16 := Lib.hid (B_15.out.trans (hB.mono B_15.out.size))
  obtain ⟨Ae, ce, rfl⟩ := Kd.R_slice hR
  have Le := Lib.hid (rR hR).2.1
  have Ce_16 := Lib.hid (rR hR).2.2
  clear hB hR Cl_15 Cm_15 Cn_15 Cj_15 Ci_15 Cd_15 B_15
  go_wp2_with fail
  refine (classes_Not.calls k14 A1 c1 b m _ w16 Cm_16.out HC1.out F9.out).mono ?_
  rintro e w17 ⟨vu, rfl, hR, hB⟩
  have Cl_17 := Lib.hid (Kd.C_below Cl_16.out hB)
  have Cm_17 := Lib.hid (Kd.C_below Cm_16.out hB)
  have Cn_17 := Lib.hid (Kd.C_below Cn_16.out hB)
  have Cj_17 := Lib.hid (Kd.C_below Cj_16.out hB)
  have Ci_17 := Lib.hid (Kd.C_below Ci_16.out hB)
  have Ce_17 := Lib.hid (Kd.C_below Ce_16.out hB)
  have B_17 := Lib.hid (B_16.out.trans (hB.mono B_16.out.size))
  obtain ⟨Au, cu, rfl⟩ := Kd.R_slice hR
  have Lu := Lib.hid (rR hR).2.1
  have Cu_17 := Lib.hid (rR hR).2.2
  clear hB hR Cl_16 Cm_16 Cn_16 Cj_16 Ci_16 Ce_16 B_16
  go_wp2_with fail
  refine (classes_And.calls k15 An cn _ Au cu _ _ w17 Cn_17.out Ln.out Cu_17.out Lu.out F10.out).mono ?_
  rintro e w18 ⟨vv, rfl, hR, hB⟩
  have Cl_18 := Lib.hid (Kd.C_below Cl_17.out hB)
  have Cm_18 := Lib.hid (Kd.C_below Cm_17.out hB)
  have Cn_18 := Lib.hid (Kd.C_below Cn_17.out hB)
  have Cj_18 := Lib.hid (Kd.C_below Cj_17.out hB)
  have Ci_18 := Lib.hid (Kd.C_below Ci_17.out hB)
  have Ce_18 := Lib.hid (Kd.C_below Ce_17.out hB)
  have Cu_18 := Lib.hid (Kd.C_below Cu_17.out hB)
  have B_18 := Lib.hid (B_17.out.trans (hB.mono B_17.out.size))
  obtain ⟨Av, cv, rfl⟩ := Kd.R_slice hR
  have Lv := Lib.hid (rR hR).2.1
  have Cv_18 := Lib.hid (rR hR).2.2
  clear hB hR Cl_17 Cm_17 Cn_17 Cj_17 Ci_17 Ce_17 Cu_17 B_17
  go_wp2_with fail
  refine (classes_Same.calls k16 Ae ce _ Av cv _ true w18 Ce_18.out Le.out Cv_18.out Lv.out S4.out).mono ?_
  rintro e w19 ⟨rfl, hB⟩
  have Cj_19 := Lib.hid (Kd.C_below Cj_18.out hB)
  have Ci_19 := Lib.hid (Kd.C_below Ci_18.out hB)
  have Ce_19 := Lib.hid (Kd.C_below Ce_18.out hB)
  have Cv_19 := Lib.hid (Kd.C_below Cv_18.out hB)
  have B_19 := Lib.hid (B_18.out.trans (hB.mono B_18.out.size))
  clear hB  Cj_18 Ci_18 Ce_18 Cv_18 B_18
  go_wp2_with fail
  refine (dredgelaw06_rising.calls k17 Aj cj _ true w19 Cj_19.out Lj.out G1.out).mono ?_
  rintro e w20 ⟨rfl, hD⟩
  have hB := B_drawn (Below.refl w19.heap.size w19) hD
  have Cj_20 := Lib.hid (Kd.C_below Cj_19.out hB)
  have Ci_20 := Lib.hid (Kd.C_below Ci_19.out hB)
  have B_20 := Lib.hid (B_19.out.trans (hB.mono B_19.out.size))
  clear hB hD Cj_19 Ci_19 B_19
  go_wp2_with fail
  refine (dredgelaw06_rising.calls k18 Ai ci _ true w20 Ci_20.out Li.out G2.out).mono ?_
  rintro e w21 ⟨rfl, hD⟩
  have hB := B_drawn (Below.refl w20.heap.size w20) hD
  have Cj_21 := Lib.hid (Kd.C_below Cj_20.out hB)
  have Ci_21 := Lib.hid (Kd.C_below Ci_20.out hB)
  have B_21 := Lib.hid (B_20.out.trans (hB.mono B_20.out.size))
  clear hB hD Cj_20 Ci_20 B_20
  go_wp2
  go_ret
  exact ⟨rfl, B_21.out⟩
set_option maxHeartbeats 8000000 in
set_option maxRecDepth 100000 in
theorem right_walk_false (a b : List S64) (m : Bool) (N M J I E D U V Y : List S64) (k1 k2 k3 k4 k5 k6 k7 k8 k9 k10 k11 k12 k13 k14 k15 k16 k17 k18 k19 : Nat)
    (f1 : classes_Norm.f k1 a m = some N) (f2 : classes_Not.f k2 a m = some M) (f3 : classes_Not.f k3 M m = some N) (f4 : classes_Or.f a b = some J) (f5 : classes_And.f k4 a b = some I)
    (r1 : classes_Right.f k5 N m = some true) (r2 : classes_Right.f k6 M m = some true) (s1 : classes_Same.f k7 N N = some true) (s2 : classes_Same.f k8 a b = some false) (s3 : classes_Same.f k9 J I = some false)
    (f6 : classes_Norm.f k10 J m = some Y) (r3 : classes_Right.f k11 Y m = some true) (f7 : classes_Less.f k12 a b = some D) (f8 : classes_Norm.f k13 D m = some E) (f9 : classes_Not.f k14 b m = some U) (f10 : classes_And.f k15 N U = some V)
    (s4 : classes_Same.f k16 E V = some true) (g1 : dredgelaw06_rising.f k17 J = some true) (g2 : dredgelaw06_rising.f k18 I = some true)
    (A0 : Option Addr) (c0 : Nat) (A1 : Option Addr) (c1 : Nat) (W : World) (hr0 : Kd.C k64 W A0 a.length a) (hc0 : a.length ≤ c0) (hr1 : Kd.C k64 W A1 b.length b) (hc1 : b.length ≤ c1) :
    Calls Try.prog 9 #[.slice A0 a.length c0, .slice A1 b.length c1, .bool m] W fun e w' => e = .returned (.bool true) ∧ Below W.heap.size W w' := by
  have F1 := Lib.hid f1
  have F2 := Lib.hid f2
  have F3 := Lib.hid f3
  have F4 := Lib.hid f4
  have F5 := Lib.hid f5
  have F6 := Lib.hid f6
  have F7 := Lib.hid f7
  have F8 := Lib.hid f8
  have F9 := Lib.hid f9
  have F10 := Lib.hid f10
  have R1 := Lib.hid r1
  have R2 := Lib.hid r2
  have R3 := Lib.hid r3
  have S1 := Lib.hid s1
  have S2 := Lib.hid s2
  have S3 := Lib.hid s3
  have S4 := Lib.hid s4
  have G1 := Lib.hid g1
  have G2 := Lib.hid g2
  have HR0 := Lib.hid hr0
  have HC0 := Lib.hid hc0
  have HR1 := Lib.hid hr1
  have HC1 := Lib.hid hc1
  clear f1 f2 f3 f4 f5 f6 f7 f8 f9 f10 r1 r2 r3 s1 s2 s3 s4 g1 g2 hr0 hc0 hr1 hc1
  have hB0 := Lib.hid (Below.refl W.heap.size W)
  go_enter Try.func9, Try.ntmps9
  go_wp2_with fail
  refine (dredgelaw06_examples.calls true W rfl).mono ?_
  rintro e w1 ⟨rfl, hB⟩
  have Cl_1 := Lib.hid (Kd.C_below HR0.out hB)
  have Cm_1 := Lib.hid (Kd.C_below HR1.out hB)
  have B_1 := Lib.hid (hB0.out.trans (hB.mono hB0.out.size))
  clear hB  
  go_wp2_with fail
  refine (classes_Norm.calls k1 A0 c0 a m _ w1 Cl_1.out HC0.out F1.out).mono ?_
  rintro e w2 ⟨vn, rfl, hR, hB⟩
  have Cl_2 := Lib.hid (Kd.C_below Cl_1.out hB)
  have Cm_2 := Lib.hid (Kd.C_below Cm_1.out hB)
  have B_2 := Lib.hid (B_1.out.trans (hB.mono B_1.out.size))
  obtain ⟨An, cn, rfl⟩ := Kd.R_slice hR
  have Ln := Lib.hid (rR hR).2.1
  have Cn_2 := Lib.hid (rR hR).2.2
  clear hB hR Cl_1 Cm_1 B_1
  go_wp2_with fail
  refine (classes_Not.calls k2 A0 c0 a m _ w2 Cl_2.out HC0.out F2.out).mono ?_
  rintro e w3 ⟨vo, rfl, hR, hB⟩
  have Cl_3 := Lib.hid (Kd.C_below Cl_2.out hB)
  have Cm_3 := Lib.hid (Kd.C_below Cm_2.out hB)
  have Cn_3 := Lib.hid (Kd.C_below Cn_2.out hB)
  have B_3 := Lib.hid (B_2.out.trans (hB.mono B_2.out.size))
  obtain ⟨Ao, co, rfl⟩ := Kd.R_slice hR
  have Lo := Lib.hid (rR hR).2.1
  have Co_3 := Lib.hid (rR hR).2.2
  clear hB hR Cl_2 Cm_2 Cn_2 B_2
  go_wp2_with fail
  refine (classes_Not.calls k3 Ao co _ m _ w3 Co_3.out Lo.out F3.out).mono ?_
  rintro e w4 ⟨vk, rfl, hR, hB⟩
  have Cl_4 := Lib.hid (Kd.C_below Cl_3.out hB)
  have Cm_4 := Lib.hid (Kd.C_below Cm_3.out hB)
  have Cn_4 := Lib.hid (Kd.C_below Cn_3.out hB)
  have Co_4 := Lib.hid (Kd.C_below Co_3.out hB)
  have B_4 := Lib.hid (B_3.out.trans (hB.mono B_3.out.size))
  obtain ⟨Ak, ck, rfl⟩ := Kd.R_slice hR
  have Lk := Lib.hid (rR hR).2.1
  have Ck_4 := Lib.hid (rR hR).2.2
  clear hB hR Cl_3 Cm_3 Cn_3 Co_3 B_3
  go_wp2_with fail
  refine (classes_Or.calls A0 c0 a A1 c1 b _ w4 Cl_4.out HC0.out Cm_4.out HC1.out F4.out).mono ?_
  rintro e w5 ⟨vj, rfl, hR, hB⟩
  have Cl_5 := Lib.hid (Kd.C_below Cl_4.out hB)
  have Cm_5 := Lib.hid (Kd.C_below Cm_4.out hB)
  have Cn_5 := Lib.hid (Kd.C_below Cn_4.out hB)
  have Co_5 := Lib.hid (Kd.C_below Co_4.out hB)
  have Ck_5 := Lib.hid (Kd.C_below Ck_4.out hB)
  have B_5 := Lib.hid (B_4.out.trans (hB.mono B_4.out.size))
  obtain ⟨Aj, cj, rfl⟩ := Kd.R_slice hR
  have Lj := Lib.hid (rR hR).2.1
  have Cj_5 := Lib.hid (rR hR).2.2
  clear hB hR Cl_4 Cm_4 Cn_4 Co_4 Ck_4 B_4
  go_wp2_with fail
  refine (classes_And.calls k4 A0 c0 a A1 c1 b _ w5 Cl_5.out HC0.out Cm_5.out HC1.out F5.out).mono ?_
  rintro e w6 ⟨vi, rfl, hR, hB⟩
  have Cl_6 := Lib.hid (Kd.C_below Cl_5.out hB)
  have Cm_6 := Lib.hid (Kd.C_below Cm_5.out hB)
  have Cn_6 := Lib.hid (Kd.C_below Cn_5.out hB)
  have Co_6 := Lib.hid (Kd.C_below Co_5.out hB)
  have Ck_6 := Lib.hid (Kd.C_below Ck_5.out hB)
  have Cj_6 := Lib.hid (Kd.C_below Cj_5.out hB)
  have B_6 := Lib.hid (B_5.out.trans (hB.mono B_5.out.size))
  obtain ⟨Ai, ci, rfl⟩ := Kd.R_slice hR
  have Li := Lib.hid (rR hR).2.1
  have Ci_6 := Lib.hid (rR hR).2.2
  clear hB hR Cl_5 Cm_5 Cn_5 Co_5 Ck_5 Cj_5 B_5
  go_wp2_with fail
  refine (classes_Right.calls k5 An cn _ m true w6 Cn_6.out Ln.out R1.out).mono ?_
  rintro e w7 ⟨rfl, hB⟩
  have Cl_7 := Lib.hid (Kd.C_below Cl_6.out hB)
  have Cm_7 := Lib.hid (Kd.C_below Cm_6.out hB)
  have Cn_7 := Lib.hid (Kd.C_below Cn_6.out hB)
  have Co_7 := Lib.hid (Kd.C_below Co_6.out hB)
  have Ck_7 := Lib.hid (Kd.C_below Ck_6.out hB)
  have Cj_7 := Lib.hid (Kd.C_below Cj_6.out hB)
  have Ci_7 := Lib.hid (Kd.C_below Ci_6.out hB)
  have B_7 := Lib.hid (B_6.out.trans (hB.mono B_6.out.size))
  clear hB  Cl_6 Cm_6 Cn_6 Co_6 Ck_6 Cj_6 Ci_6 B_6
  go_wp2_with fail
  refine (classes_Right.calls k6 Ao co _ m true w7 Co_7.out Lo.out R2.out).mono ?_
  rintro e w8 ⟨rfl, hB⟩
  have Cl_8 := Lib.hid (Kd.C_below Cl_7.out hB)
  have Cm_8 := Lib.hid (Kd.C_below Cm_7.out hB)
  have Cn_8 := Lib.hid (Kd.C_below Cn_7.out hB)
  have Co_8 := Lib.hid (Kd.C_below Co_7.out hB)
  have Ck_8 := Lib.hid (Kd.C_below Ck_7.out hB)
  have Cj_8 := Lib.hid (Kd.C_below Cj_7.out hB)
  have Ci_8 := Lib.hid (Kd.C_below Ci_7.out hB)
  have B_8 := Lib.hid (B_7.out.trans (hB.mono B_7.out.size))
  clear hB  Cl_7 Cm_7 Cn_7 Co_7 Ck_7 Cj_7 Ci_7 B_7
  go_wp2_with fail
  refine (classes_Right.calls k5 Ak ck _ m true w8 Ck_8.out Lk.out R1.out).mono ?_
  rintro e w9 ⟨rfl, hB⟩
  have Cl_9 := Lib.hid (Kd.C_below Cl_8.out hB)
  have Cm_9 := Lib.hid (Kd.C_below Cm_8.out hB)
  have Cn_9 := Lib.hid (Kd.C_below Cn_8.out hB)
  have Ck_9 := Lib.hid (Kd.C_below Ck_8.out hB)
  have Cj_9 := Lib.hid (Kd.C_below Cj_8.out hB)
  have Ci_9 := Lib.hid (Kd.C_below Ci_8.out hB)
  have B_9 := Lib.hid (B_8.out.trans (hB.mono B_8.out.size))
  clear hB  Cl_8 Cm_8 Cn_8 Ck_8 Cj_8 Ci_8 B_8
  go_wp2_with fail
  refine (classes_Same.calls k7 Ak ck _ An cn _ true w9 Ck_9.out Lk.out Cn_9.out Ln.out S1.out).mono ?_
  rintro e w10 ⟨rfl, hB⟩
  have Cl_10 := Lib.hid (Kd.C_below Cl_9.out hB)
  have Cm_10 := Lib.hid (Kd.C_below Cm_9.out hB)
  have Cn_10 := Lib.hid (Kd.C_below Cn_9.out hB)
  have Ck_10 := Lib.hid (Kd.C_below Ck_9.out hB)
  have Cj_10 := Lib.hid (Kd.C_below Cj_9.out hB)
  have Ci_10 := Lib.hid (Kd.C_below Ci_9.out hB)
  have B_10 := Lib.hid (B_9.out.trans (hB.mono B_9.out.size))
  clear hB  Cl_9 Cm_9 Cn_9 Ck_9 Cj_9 Ci_9 B_9
  go_wp2_with fail
  refine (classes_Same.calls k8 A0 c0 a A1 c1 b false w10 Cl_10.out HC0.out Cm_10.out HC1.out S2.out).mono ?_
  rintro e w11 ⟨rfl, hB⟩
  have Cl_11 := Lib.hid (Kd.C_below Cl_10.out hB)
  have Cm_11 := Lib.hid (Kd.C_below Cm_10.out hB)
  have Cn_11 := Lib.hid (Kd.C_below Cn_10.out hB)
  have Cj_11 := Lib.hid (Kd.C_below Cj_10.out hB)
  have Ci_11 := Lib.hid (Kd.C_below Ci_10.out hB)
  have B_11 := Lib.hid (B_10.out.trans (hB.mono B_10.out.size))
  clear hB  Cl_10 Cm_10 Cn_10 Cj_10 Ci_10 B_10
  go_wp2_with fail
  refine (classes_Same.calls k9 Aj cj _ Ai ci _ false w11 Cj_11.out Lj.out Ci_11.out Li.out S3.out).mono ?_
  rintro e w12 ⟨rfl, hB⟩
  have Cl_12 := Lib.hid (Kd.C_below Cl_11.out hB)
  have Cm_12 := Lib.hid (Kd.C_below Cm_11.out hB)
  have Cn_12 := Lib.hid (Kd.C_below Cn_11.out hB)
  have Cj_12 := Lib.hid (Kd.C_below Cj_11.out hB)
  have Ci_12 := Lib.hid (Kd.C_below Ci_11.out hB)
  have B_12 := Lib.hid (B_11.out.trans (hB.mono B_11.out.size))
  clear hB  Cl_11 Cm_11 Cn_11 Cj_11 Ci_11 B_11
  go_wp2_with fail
  refine (classes_Norm.calls k10 Aj cj _ m _ w12 Cj_12.out Lj.out F6.out).mono ?_
  rintro e w13 ⟨vy, rfl, hR, hB⟩
  have Cl_13 := Lib.hid (Kd.C_below Cl_12.out hB)
  have Cm_13 := Lib.hid (Kd.C_below Cm_12.out hB)
  have Cn_13 := Lib.hid (Kd.C_below Cn_12.out hB)
  have Cj_13 := Lib.hid (Kd.C_below Cj_12.out hB)
  have Ci_13 := Lib.hid (Kd.C_below Ci_12.out hB)
  have B_13 := Lib.hid (B_12.out.trans (hB.mono B_12.out.size))
  obtain ⟨Ay, cy, rfl⟩ := Kd.R_slice hR
  have Ly := Lib.hid (rR hR).2.1
  have Cy_13 := Lib.hid (rR hR).2.2
  clear hB hR Cl_12 Cm_12 Cn_12 Cj_12 Ci_12 B_12
  go_wp2_with fail
  refine (classes_Right.calls k11 Ay cy _ m true w13 Cy_13.out Ly.out R3.out).mono ?_
  rintro e w14 ⟨rfl, hB⟩
  have Cl_14 := Lib.hid (Kd.C_below Cl_13.out hB)
  have Cm_14 := Lib.hid (Kd.C_below Cm_13.out hB)
  have Cn_14 := Lib.hid (Kd.C_below Cn_13.out hB)
  have Cj_14 := Lib.hid (Kd.C_below Cj_13.out hB)
  have Ci_14 := Lib.hid (Kd.C_below Ci_13.out hB)
  have Cy_14 := Lib.hid (Kd.C_below Cy_13.out hB)
  have B_14 := Lib.hid (B_13.out.trans (hB.mono B_13.out.size))
  clear hB  Cl_13 Cm_13 Cn_13 Cj_13 Ci_13 Cy_13 B_13
  go_wp2_with fail
  refine (classes_Less.calls k12 A0 c0 a A1 c1 b _ w14 Cl_14.out HC0.out Cm_14.out HC1.out F7.out).mono ?_
  rintro e w15 ⟨vd, rfl, hR, hB⟩
  have Cl_15 := Lib.hid (Kd.C_below Cl_14.out hB)
  have Cm_15 := Lib.hid (Kd.C_below Cm_14.out hB)
  have Cn_15 := Lib.hid (Kd.C_below Cn_14.out hB)
  have Cj_15 := Lib.hid (Kd.C_below Cj_14.out hB)
  have Ci_15 := Lib.hid (Kd.C_below Ci_14.out hB)
  have B_15 := Lib.hid (B_14.out.trans (hB.mono B_14.out.size))
  obtain ⟨Ad, cd, rfl⟩ := Kd.R_slice hR
  have Ld := Lib.hid (rR hR).2.1
  have Cd_15 := Lib.hid (rR hR).2.2
  clear hB hR Cl_14 Cm_14 Cn_14 Cj_14 Ci_14 B_14
  go_wp2_with fail
  refine (classes_Norm.calls k13 Ad cd _ m _ w15 Cd_15.out Ld.out F8.out).mono ?_
  rintro e w16 ⟨ve, rfl, hR, hB⟩
  have Cl_16 := Lib.hid (Kd.C_below Cl_15.out hB)
  have Cm_16 := Lib.hid (Kd.C_below Cm_15.out hB)
  have Cn_16 := Lib.hid (Kd.C_below Cn_15.out hB)
  have Cj_16 := Lib.hid (Kd.C_below Cj_15.out hB)
  have Ci_16 := Lib.hid (Kd.C_below Ci_15.out hB)
  have Cd_16 := Lib.hid (Kd.C_below Cd_15.out hB)
  have B_16 := Lib.hid (B_15.out.trans (hB.mono B_15.out.size))
  obtain ⟨Ae, ce, rfl⟩ := Kd.R_slice hR
  have Le := Lib.hid (rR hR).2.1
  have Ce_16 := Lib.hid (rR hR).2.2
  clear hB hR Cl_15 Cm_15 Cn_15 Cj_15 Ci_15 Cd_15 B_15
  go_wp2_with fail
  refine (classes_Not.calls k14 A1 c1 b m _ w16 Cm_16.out HC1.out F9.out).mono ?_
  rintro e w17 ⟨vu, rfl, hR, hB⟩
  have Cl_17 := Lib.hid (Kd.C_below Cl_16.out hB)
  have Cm_17 := Lib.hid (Kd.C_below Cm_16.out hB)
  have Cn_17 := Lib.hid (Kd.C_below Cn_16.out hB)
  have Cj_17 := Lib.hid (Kd.C_below Cj_16.out hB)
  have Ci_17 := Lib.hid (Kd.C_below Ci_16.out hB)
  have Ce_17 := Lib.hid (Kd.C_below Ce_16.out hB)
  have B_17 := Lib.hid (B_16.out.trans (hB.mono B_16.out.size))
  obtain ⟨Au, cu, rfl⟩ := Kd.R_slice hR
  have Lu := Lib.hid (rR hR).2.1
  have Cu_17 := Lib.hid (rR hR).2.2
  clear hB hR Cl_16 Cm_16 Cn_16 Cj_16 Ci_16 Ce_16 B_16
  go_wp2_with fail
  refine (classes_And.calls k15 An cn _ Au cu _ _ w17 Cn_17.out Ln.out Cu_17.out Lu.out F10.out).mono ?_
  rintro e w18 ⟨vv, rfl, hR, hB⟩
  have Cl_18 := Lib.hid (Kd.C_below Cl_17.out hB)
  have Cm_18 := Lib.hid (Kd.C_below Cm_17.out hB)
  have Cn_18 := Lib.hid (Kd.C_below Cn_17.out hB)
  have Cj_18 := Lib.hid (Kd.C_below Cj_17.out hB)
  have Ci_18 := Lib.hid (Kd.C_below Ci_17.out hB)
  have Ce_18 := Lib.hid (Kd.C_below Ce_17.out hB)
  have Cu_18 := Lib.hid (Kd.C_below Cu_17.out hB)
  have B_18 := Lib.hid (B_17.out.trans (hB.mono B_17.out.size))
  obtain ⟨Av, cv, rfl⟩ := Kd.R_slice hR
  have Lv := Lib.hid (rR hR).2.1
  have Cv_18 := Lib.hid (rR hR).2.2
  clear hB hR Cl_17 Cm_17 Cn_17 Cj_17 Ci_17 Ce_17 Cu_17 B_17
  go_wp2_with fail
  refine (classes_Same.calls k16 Ae ce _ Av cv _ true w18 Ce_18.out Le.out Cv_18.out Lv.out S4.out).mono ?_
  rintro e w19 ⟨rfl, hB⟩
  have Cj_19 := Lib.hid (Kd.C_below Cj_18.out hB)
  have Ci_19 := Lib.hid (Kd.C_below Ci_18.out hB)
  have Ce_19 := Lib.hid (Kd.C_below Ce_18.out hB)
  have Cv_19 := Lib.hid (Kd.C_below Cv_18.out hB)
  have B_19 := Lib.hid (B_18.out.trans (hB.mono B_18.out.size))
  clear hB  Cj_18 Ci_18 Ce_18 Cv_18 B_18
  go_wp2_with fail
  refine (dredgelaw06_rising.calls k17 Aj cj _ true w19 Cj_19.out Lj.out G1.out).mono ?_
  rintro e w20 ⟨rfl, hD⟩
  have hB := B_drawn (Below.refl w19.heap.size w19) hD
  have Cj_20 := Lib.hid (Kd.C_below Cj_19.out hB)
  have Ci_20 := Lib.hid (Kd.C_below Ci_19.out hB)
  have B_20 := Lib.hid (B_19.out.trans (hB.mono B_19.out.size))
  clear hB hD Cj_19 Ci_19 B_19
  go_wp2_with fail
  refine (dredgelaw06_rising.calls k18 Ai ci _ true w20 Ci_20.out Li.out G2.out).mono ?_
  rintro e w21 ⟨rfl, hD⟩
  have hB := B_drawn (Below.refl w20.heap.size w20) hD
  have Cj_21 := Lib.hid (Kd.C_below Cj_20.out hB)
  have Ci_21 := Lib.hid (Kd.C_below Ci_20.out hB)
  have B_21 := Lib.hid (B_20.out.trans (hB.mono B_20.out.size))
  clear hB hD Cj_20 Ci_20 B_20
  go_wp2
  go_ret
  exact ⟨rfl, B_21.out⟩
theorem norm_inR' (l : List S64) (m : Bool) : inR (Cls.norm l m) = true := inR_of_mem _ (Cls.norm_can l m) fun c h => by have := all_below m c ((Cls.norm_mem l m c).1 h).2; omega
theorem notIn (l : List S64) (m : Bool) : inR (Cls.less_ (Cls.all m) l) = true := inR_of_mem _ (Cls.less_can _ l) fun c h => mem_inR _ (all_inR m) c ((Cls.less_mem _ l c).1 h).1
theorem norm_norm (l : List S64) (m : Bool) (hc : Cls.Can l) (hs : ∀ c, Cls.Mem l c → Cls.Mem (Cls.all m) c) : l = Cls.norm l m :=
  Cls.can_unique _ _ hc (Cls.norm_can _ _) fun c => by rw [Cls.norm_mem]; exact ⟨fun h => ⟨h, hs c h⟩, fun h => h.1⟩
theorem less_ends2 (a b : List S64) (hm : a.length * (b.length + 1) + b.length + 2 < 8796093022208) (h1 : a.length < 8796093022208) (ha : inR a = true) (hb : inR b = true) : Ends (fun k => classes_Less.f k a b) (Cls.less_ a b) := by
  unfold classes_Less.f
  refine Ends.bind (class_ends a h1 ha) (Ends.bind (class_ends b (by omega) hb) ?_)
  have l1 := cls_length a
  have l2 := cls_length b
  have hmul : (Cls.cls a).length * ((Cls.cls b).length + 1) ≤ a.length * (b.length + 1) := Nat.mul_le_mul l1 (by omega)
  have h := less_outer (Cls.cls a) (inR_cls a ha) (by omega) (Cls.cls a).length 0 (Cls.cls b) [] (by omega) (inR_cls b hb) (by omega) (by simp; omega)
  unfold Cls.less_
  simpa using h
theorem not_ends2 (l : List S64) (m : Bool) (h1 : l.length < 2199023255552) (h : inR l = true) : Ends (fun k => classes_Not.f k l m) (Cls.less_ (Cls.all m) l) := by
  unfold classes_Not.f
  rw [all_f]
  simp only [Option.bind_some]
  have hall := all_length m
  have hmul : (Cls.all m).length * (l.length + 1) ≤ 2 * (l.length + 1) := Nat.mul_le_mul hall (Nat.le_refl _)
  exact Ends.bind (less_ends2 (Cls.all m) l (by omega) (by omega) (all_inR m) h) (Ends.some_ _)
theorem right_norm (l : List S64) (m : Bool) (hl : l.length + 2 < 8796093022208) (h : inR l = true) (e : l = Cls.norm l m) : Ends (fun k => classes_Right.f k l m) true := by
  unfold classes_Right.f
  have hq := equal_ends l (Cls.norm l m) (by omega)
  rw [decide_eq_true e] at hq
  exact Ends.bind (norm_ends l m hl h) (Ends.bind hq (Ends.some_ _))
theorem right_law (a b : List S64) (m : Bool) (h1 : a.length < 1100000) (h2 : b.length < 1100000) (ha : inR a = true) (hb : inR b = true) (A0 : Option Addr) (c0 : Nat) (A1 : Option Addr) (c1 : Nat) (W : World) (hr0 : Kd.C k64 W A0 a.length a) (hc0 : a.length ≤ c0) (hr1 : Kd.C k64 W A1 b.length b) (hc1 : b.length ≤ c1) :
    Calls Try.prog 9 #[.slice A0 a.length c0, .slice A1 b.length c1, .bool m] W fun e w' => e = .returned (.bool true) ∧ Below W.heap.size W w' := by
  have hall := all_length m
  have iN := norm_inR' a m
  have iM := notIn a m
  have iU := notIn b m
  have iJ0 := (inR_append a b).2 ⟨ha, hb⟩
  have iJ := inR_cls _ iJ0
  have iI : inR (Cls.and_ a b) = true := inR_of_mem _ (Cls.and_can a b) fun c h => mem_inR a ha c ((Cls.and_mem a b c).1 h).1
  have iD : inR (Cls.less_ a b) = true := inR_of_mem _ (Cls.less_can a b) fun c h => mem_inR a ha c ((Cls.less_mem a b c).1 h).1
  have lN := and_length a (Cls.all m)
  change (Cls.norm a m).length ≤ _ at lN
  have lM := less_length (Cls.all m) a
  have hmM : (Cls.all m).length * (a.length + 1) ≤ 2 * (a.length + 1) := Nat.mul_le_mul hall (Nat.le_refl _)
  have lU := less_length (Cls.all m) b
  have hmU : (Cls.all m).length * (b.length + 1) ≤ 2 * (b.length + 1) := Nat.mul_le_mul hall (Nat.le_refl _)
  have lJ := cls_length (a ++ b)
  rw [List.length_append] at lJ
  have lI := and_length a b
  have lD := less_length a b
  have hmD : a.length * (b.length + 1) ≤ 4398046511104 := mul_small _ _ (by omega) (by omega)
  have lE := and_length (Cls.less_ a b) (Cls.all m)
  change (Cls.norm (Cls.less_ a b) m).length ≤ _ at lE
  have lV := and_length (Cls.norm a m) (Cls.less_ (Cls.all m) b)
  have lY := and_length (Cls.cls (a ++ b)) (Cls.all m)
  change (Cls.norm (Cls.cls (a ++ b)) m).length ≤ _ at lY
  have iV : inR (Cls.and_ (Cls.norm a m) (Cls.less_ (Cls.all m) b)) = true := inR_of_mem _ (Cls.and_can _ _) fun c h => mem_inR _ iN c ((Cls.and_mem _ _ c).1 h).1
  obtain ⟨k1, f1⟩ := (norm_ends a m (by omega) ha).get
  obtain ⟨k2, f2⟩ := (not_ends2 a m (by omega) ha).get
  obtain ⟨k3, f3⟩ := (not_ends2 (Cls.less_ (Cls.all m) a) m (by omega) iM).get
  have eN : Cls.less_ (Cls.all m) (Cls.less_ (Cls.all m) a) = Cls.norm a m := Cls.can_unique _ _ (Cls.less_can _ _) (Cls.norm_can _ _) fun c => by
    rw [Cls.less_mem, Cls.less_mem, Cls.norm_mem]
    constructor
    · rintro ⟨h1, h2⟩
      exact ⟨Classical.byContradiction fun h3 => h2 ⟨h1, h3⟩, h1⟩
    · rintro ⟨h1, h2⟩
      exact ⟨h2, fun h3 => h3.2 h1⟩
  rw [eN] at f3
  have f4 : classes_Or.f a b = some (Cls.cls (a ++ b)) := by unfold classes_Or.f; rw [if_pos (by omega), if_pos iJ0]
  obtain ⟨k4, f5⟩ := (and_ends a b (by omega) ha hb).get
  obtain ⟨k5, r1⟩ := (right_norm (Cls.norm a m) m (by omega) iN (norm_norm _ m (Cls.norm_can a m) fun c h => ((Cls.norm_mem a m c).1 h).2)).get
  obtain ⟨k6, r2⟩ := (right_norm (Cls.less_ (Cls.all m) a) m (by omega) iM (norm_norm _ m (Cls.less_can _ a) fun c h => ((Cls.less_mem _ a c).1 h).1)).get
  obtain ⟨k7, s1⟩ := (same_ends (Cls.norm a m) (Cls.norm a m) (by omega) (by omega) iN iN).get
  rw [decide_eq_true rfl] at s1
  obtain ⟨k8, s2⟩ := (same_ends a b (by omega) (by omega) ha hb).get
  obtain ⟨k9, s3⟩ := (same_ends (Cls.cls (a ++ b)) (Cls.and_ a b) (by omega) (by omega) iJ iI).get
  obtain ⟨k10, f6⟩ := (norm_ends (Cls.cls (a ++ b)) m (by omega) iJ).get
  obtain ⟨k11, r3⟩ := (right_norm (Cls.norm (Cls.cls (a ++ b)) m) m (by omega) (norm_inR' _ m) (norm_norm _ m (Cls.norm_can _ m) fun c h => ((Cls.norm_mem _ m c).1 h).2)).get
  obtain ⟨k12, f7⟩ := (less_ends a b (by omega) (by omega) ha hb).get
  obtain ⟨k13, f8⟩ := (norm_ends (Cls.less_ a b) m (by omega) iD).get
  obtain ⟨k14, f9⟩ := (not_ends2 b m (by omega) hb).get
  obtain ⟨k15, f10⟩ := (and_ends (Cls.norm a m) (Cls.less_ (Cls.all m) b) (by omega) iN iU).get
  obtain ⟨k16, s4⟩ := (same_ends (Cls.norm (Cls.less_ a b) m) (Cls.and_ (Cls.norm a m) (Cls.less_ (Cls.all m) b)) (by omega) (by omega) (norm_inR' _ m) iV).get
  have eV : Cls.norm (Cls.less_ a b) m = Cls.and_ (Cls.norm a m) (Cls.less_ (Cls.all m) b) := Cls.can_unique _ _ (Cls.norm_can _ _) (Cls.and_can _ _) fun c => by
    rw [Cls.norm_mem, Cls.less_mem, Cls.and_mem, Cls.norm_mem, Cls.less_mem]
    exact ⟨fun ⟨⟨h1, h2⟩, h3⟩ => ⟨⟨h1, h3⟩, h3, h2⟩, fun ⟨⟨h1, h3⟩, _, h2⟩ => ⟨⟨h1, h2⟩, h3⟩⟩
  rw [decide_eq_true (congrArg Cls.cls eV)] at s4
  obtain ⟨k17, g1⟩ := (rising_ends (Cls.cls (a ++ b)) (Cls.cls_can _) iJ (by omega)).get
  obtain ⟨k18, g2⟩ := (rising_ends (Cls.and_ a b) (Cls.and_can _ _) iI (by omega)).get
  rw [cls_of_can (Cls.cls_can (a ++ b)), cls_of_can (Cls.and_can a b)] at s3
  by_cases h : Cls.cls a = Cls.cls b
  · have hab : ∀ c, Cls.Mem a c ↔ Cls.Mem b c := fun c => by rw [← Cls.cls_mem a, h, Cls.cls_mem]
    have eJ : Cls.cls (a ++ b) = Cls.and_ a b := Cls.can_unique _ _ (Cls.cls_can _) (Cls.and_can _ _) fun c => by
      rw [Cls.cls_mem, Cls.mem_append, Cls.and_mem, hab c]
      exact ⟨fun h => by rcases h with h | h <;> exact ⟨h, h⟩, fun h => .inl h.1⟩
    rw [decide_eq_true h] at s2
    rw [decide_eq_true eJ] at s3
    exact right_walk_true a b m _ _ _ _ _ _ _ _ _ k1 k2 k3 k4 k5 k6 k7 k8 k9 k10 k11 k12 k13 k14 k15 k16 k17 k18 0 f1 f2 f3 f4 f5 r1 r2 s1 s2 s3 f6 r3 f7 f8 f9 f10 s4 g1 g2 (by rw [eJ]) A0 c0 A1 c1 W hr0 hc0 hr1 hc1
  · have eJ : ¬ Cls.cls (a ++ b) = Cls.and_ a b := fun e => h (Cls.can_unique _ _ (Cls.cls_can _) (Cls.cls_can _) fun c => by
      have h1 := Cls.cls_mem (a ++ b) c
      rw [e, Cls.and_mem, Cls.mem_append] at h1
      rw [Cls.cls_mem, Cls.cls_mem]
      exact ⟨fun g => (h1.2 (.inl g)).2, fun g => (h1.2 (.inr g)).1⟩)
    rw [decide_eq_false h] at s2
    rw [decide_eq_false eJ] at s3
    exact right_walk_false a b m _ _ _ _ _ _ _ _ _ k1 k2 k3 k4 k5 k6 k7 k8 k9 k10 k11 k12 k13 k14 k15 k16 k17 k18 0 f1 f2 f3 f4 f5 r1 r2 s1 s2 s3 f6 r3 f7 f8 f9 f10 s4 g1 g2 A0 c0 A1 c1 W hr0 hc0 hr1 hc1
end Go.Proofs.Ytamhkdlcoghdbaa.PCls
