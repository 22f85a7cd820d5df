/- The walk of ClassesCount, and its law. -/
import Derived.Test.YtamhkdlcoghdbaaLawKit
import Derived.Test.YtamhkdlcoghdbaaGEx
import Derived.Test.YtamhkdlcoghdbaaLCnt
namespace Go.Proofs.Ytamhkdlcoghdbaa.PCls
open Go.RowKit Go.Proofs.YtamhkdlcoghdbaaW.PrintWords Go.Proofs.YtamhkdlcoghdbaaW.PrintLast Go.Proofs.YtamhkdlcoghdbaaW.PrintMore
set_option linter.unusedVariables false
set_option linter.unusedSimpArgs false


set_option maxHeartbeats 8000000 in
set_option maxRecDepth 100000 in
theorem count_walk (a b : List S64) (m : Bool) (P Q M F J I K G Z : List S64) (n1 n2 n3 n4 n5 n6 : Int) (k1 k2 k3 k4 k5 k6 k7 k8 k9 k10 k11 k12 k13 : Nat)
    (f1 : classes_Norm.f k1 a m = some P) (f2 : classes_Norm.f k2 b m = some Q) (f3 : classes_Not.f k3 [] m = some M) (h6 : classes_Count.f k4 M = some n6) (f4 : classes_Fold.f P = some F)
    (f5 : classes_Or.f P Q = some J) (h1 : classes_Count.f k5 J = some n1) (f6 : classes_And.f k6 P Q = some I) (h2 : classes_Count.f k7 I = some n2) (h3 : classes_Count.f k8 P = some n3) (h4 : classes_Count.f k9 Q = some n4)
    (f7 : classes_Not.f k10 P m = some K) (h5 : classes_Count.f k11 K = some n5) (f8 : classes_Fold.f F = some G) (s1 : classes_Same.f k12 G F = some true) (f9 : classes_Or.f F P = some Z) (s2 : classes_Same.f k13 Z F = some true)
    (e1 : n1 + n2 = n3 + n4) (e2 : n3 + n5 = n6) (b1 : 0 ≤ n1 ∧ n1 ≤ 2000000) (b2 : 0 ≤ n2 ∧ n2 ≤ 2000000) (b3 : 0 ≤ n3 ∧ n3 ≤ 2000000) (b4 : 0 ≤ n4 ∧ n4 ≤ 2000000) (b5 : 0 ≤ n5 ∧ n5 ≤ 2000000)
    (A0 : Option Addr) (c0 : Nat) (A1 : Option Addr) (c1 : Nat) (W : World) (hr0 : Kd.C k64 W A0 a.length a) (hc0 : a.length ≤ c0) (hr1 : Kd.C k64 W A1 b.length b) (hc1 : b.length ≤ c1) :
    Calls Try.prog 8 #[.slice A0 a.length c0, .slice A1 b.length c1, .bool m] W fun e w' => e = .returned (.bool true) ∧ Below W.heap.size W w' := by
  have F1 := Lib.hid f1
  have F2 := Lib.hid f2
  have F3 := Lib.hid f3
  have F4 := Lib.hid f4
  have F5 := Lib.hid f5
  have F6 := Lib.hid f6
  have F7 := Lib.hid f7
  have F8 := Lib.hid f8
  have F9 := Lib.hid f9
  have H1 := Lib.hid h1
  have H2 := Lib.hid h2
  have H3 := Lib.hid h3
  have H4 := Lib.hid h4
  have H5 := Lib.hid h5
  have H6 := Lib.hid h6
  have S1 := Lib.hid s1
  have S2 := Lib.hid s2
  have HR0 := Lib.hid hr0
  have HC0 := Lib.hid hc0
  have HR1 := Lib.hid hr1
  have HC1 := Lib.hid hc1
  clear f1 f2 f3 f4 f5 f6 f7 f8 f9 h1 h2 h3 h4 h5 h6 s1 s2 hr0 hc0 hr1 hc1
  have w1_ : wrap64 (n1 + n2) = n3 + n4 := by rw [e1]; exact w64_lit _ (by omega) (by omega)
  have w2_ : wrap64 (n3 + n4) = n3 + n4 := w64_lit _ (by omega) (by omega)
  have w3_ : wrap64 (n3 + n5) = n6 := by rw [e2]; exact w64_lit _ (by omega) (by omega)
  have hB0 := Lib.hid (Below.refl W.heap.size W)
  go_enter Try.func8, Try.ntmps8
  go_wp2_with fail
  refine (dredgelaw06_examples.calls true W rfl).mono ?_
  rintro e w1 ⟨rfl, hB⟩
  have Cl_1 := Lib.hid (Kd.C_below HR0.out hB)
  have Cm_1 := Lib.hid (Kd.C_below HR1.out hB)
  have B_1 := Lib.hid (hB0.out.trans (hB.mono hB0.out.size))
  clear hB  
  go_wp2_with fail
  refine (classes_Norm.calls k1 A0 c0 a m _ w1 Cl_1.out HC0.out F1.out).mono ?_
  rintro e w2 ⟨vp, rfl, hR, hB⟩
  have Cl_2 := Lib.hid (Kd.C_below Cl_1.out hB)
  have Cm_2 := Lib.hid (Kd.C_below Cm_1.out hB)
  have B_2 := Lib.hid (B_1.out.trans (hB.mono B_1.out.size))
  obtain ⟨Ap, cp, rfl⟩ := Kd.R_slice hR
  have Lp := Lib.hid (rR hR).2.1
  have Cp_2 := Lib.hid (rR hR).2.2
  clear hB hR Cl_1 Cm_1 B_1
  go_wp2_with fail
  refine (classes_Norm.calls k2 A1 c1 b m _ w2 Cm_2.out HC1.out F2.out).mono ?_
  rintro e w3 ⟨vq, rfl, hR, hB⟩
  have Cl_3 := Lib.hid (Kd.C_below Cl_2.out hB)
  have Cm_3 := Lib.hid (Kd.C_below Cm_2.out hB)
  have Cp_3 := Lib.hid (Kd.C_below Cp_2.out hB)
  have B_3 := Lib.hid (B_2.out.trans (hB.mono B_2.out.size))
  obtain ⟨Aq, cq, rfl⟩ := Kd.R_slice hR
  have Lq := Lib.hid (rR hR).2.1
  have Cq_3 := Lib.hid (rR hR).2.2
  clear hB hR Cl_2 Cm_2 Cp_2 B_2
  go_wp2_with fail
  refine (classes_Not.calls k3 Ap cp [] m _ w3 ⟨rfl, by simp, fun h => absurd h (by simp)⟩ (Nat.zero_le _) F3.out).mono ?_
  rintro e w4 ⟨vn, rfl, hR, hB⟩
  have Cp_4 := Lib.hid (Kd.C_below Cp_3.out hB)
  have Cq_4 := Lib.hid (Kd.C_below Cq_3.out hB)
  have B_4 := Lib.hid (B_3.out.trans (hB.mono B_3.out.size))
  obtain ⟨An, cn, rfl⟩ := Kd.R_slice hR
  have Ln := Lib.hid (rR hR).2.1
  have Cn_4 := Lib.hid (rR hR).2.2
  clear hB hR Cp_3 Cq_3 B_3
  go_wp2_with fail
  refine (classes_Count.calls k4 An cn _ n6 w4 Cn_4.out Ln.out H6.out).mono ?_
  rintro e w5 ⟨rfl, hB⟩
  have Cp_5 := Lib.hid (Kd.C_below Cp_4.out hB)
  have Cq_5 := Lib.hid (Kd.C_below Cq_4.out hB)
  have Cn_5 := Lib.hid (Kd.C_below Cn_4.out hB)
  have B_5 := Lib.hid (B_4.out.trans (hB.mono B_4.out.size))
  clear hB  Cp_4 Cq_4 Cn_4 B_4
  go_wp2_with fail
  refine (classes_Fold.calls Ap cp _ _ w5 Cp_5.out Lp.out F4.out).mono ?_
  rintro e w6 ⟨vf, rfl, hR, hB⟩
  have Cp_6 := Lib.hid (Kd.C_below Cp_5.out hB)
  have Cq_6 := Lib.hid (Kd.C_below Cq_5.out hB)
  have B_6 := Lib.hid (B_5.out.trans (hB.mono B_5.out.size))
  obtain ⟨Af, cf, rfl⟩ := Kd.R_slice hR
  have Lf := Lib.hid (rR hR).2.1
  have Cf_6 := Lib.hid (rR hR).2.2
  clear hB hR Cp_5 Cq_5 B_5
  go_wp2_with fail
  refine (classes_Or.calls Ap cp _ Aq cq _ _ w6 Cp_6.out Lp.out Cq_6.out Lq.out F5.out).mono ?_
  rintro e w7 ⟨vj, rfl, hR, hB⟩
  have Cp_7 := Lib.hid (Kd.C_below Cp_6.out hB)
  have Cq_7 := Lib.hid (Kd.C_below Cq_6.out hB)
  have Cf_7 := Lib.hid (Kd.C_below Cf_6.out hB)
  have B_7 := Lib.hid (B_6.out.trans (hB.mono B_6.out.size))
  obtain ⟨Aj, cj, rfl⟩ := Kd.R_slice hR
  have Lj := Lib.hid (rR hR).2.1
  have Cj_7 := Lib.hid (rR hR).2.2
  clear hB hR Cp_6 Cq_6 Cf_6 B_6
  go_wp2_with fail
  refine (classes_Count.calls k5 Aj cj _ n1 w7 Cj_7.out Lj.out H1.out).mono ?_
  rintro e w8 ⟨rfl, hB⟩
  have Cp_8 := Lib.hid (Kd.C_below Cp_7.out hB)
  have Cq_8 := Lib.hid (Kd.C_below Cq_7.out hB)
  have Cf_8 := Lib.hid (Kd.C_below Cf_7.out hB)
  have Cj_8 := Lib.hid (Kd.C_below Cj_7.out hB)
  have B_8 := Lib.hid (B_7.out.trans (hB.mono B_7.out.size))
  clear hB  Cp_7 Cq_7 Cf_7 Cj_7 B_7
  go_wp2_with fail
  refine (classes_And.calls k6 Ap cp _ Aq cq _ _ w8 Cp_8.out Lp.out Cq_8.out Lq.out F6.out).mono ?_
  rintro e w9 ⟨vi, rfl, hR, hB⟩
  have Cp_9 := Lib.hid (Kd.C_below Cp_8.out hB)
  have Cq_9 := Lib.hid (Kd.C_below Cq_8.out hB)
  have Cf_9 := Lib.hid (Kd.C_below Cf_8.out hB)
  have B_9 := Lib.hid (B_8.out.trans (hB.mono B_8.out.size))
  obtain ⟨Ai, ci, rfl⟩ := Kd.R_slice hR
  have Li := Lib.hid (rR hR).2.1
  have Ci_9 := Lib.hid (rR hR).2.2
  clear hB hR Cp_8 Cq_8 Cf_8 B_8
  go_wp2_with fail
  refine (classes_Count.calls k7 Ai ci _ n2 w9 Ci_9.out Li.out H2.out).mono ?_
  rintro e w10 ⟨rfl, hB⟩
  have Cp_10 := Lib.hid (Kd.C_below Cp_9.out hB)
  have Cq_10 := Lib.hid (Kd.C_below Cq_9.out hB)
  have Cf_10 := Lib.hid (Kd.C_below Cf_9.out hB)
  have Ci_10 := Lib.hid (Kd.C_below Ci_9.out hB)
  have B_10 := Lib.hid (B_9.out.trans (hB.mono B_9.out.size))
  clear hB  Cp_9 Cq_9 Cf_9 Ci_9 B_9
  go_wp2_with fail
  refine (classes_Count.calls k8 Ap cp _ n3 w10 Cp_10.out Lp.out H3.out).mono ?_
  rintro e w11 ⟨rfl, hB⟩
  have Cp_11 := Lib.hid (Kd.C_below Cp_10.out hB)
  have Cq_11 := Lib.hid (Kd.C_below Cq_10.out hB)
  have Cf_11 := Lib.hid (Kd.C_below Cf_10.out hB)
  have B_11 := Lib.hid (B_10.out.trans (hB.mono B_10.out.size))
  clear hB  Cp_10 Cq_10 Cf_10 B_10
  go_wp2_with fail
  refine (classes_Count.calls k9 Aq cq _ n4 w11 Cq_11.out Lq.out H4.out).mono ?_
  rintro e w12 ⟨rfl, hB⟩
  have Cp_12 := Lib.hid (Kd.C_below Cp_11.out hB)
  have Cq_12 := Lib.hid (Kd.C_below Cq_11.out hB)
  have Cf_12 := Lib.hid (Kd.C_below Cf_11.out hB)
  have B_12 := Lib.hid (B_11.out.trans (hB.mono B_11.out.size))
  clear hB  Cp_11 Cq_11 Cf_11 B_11
  go_wp2_with fail
  refine (classes_Count.calls k8 Ap cp _ n3 w12 Cp_12.out Lp.out H3.out).mono ?_
  rintro e w13 ⟨rfl, hB⟩
  have Cp_13 := Lib.hid (Kd.C_below Cp_12.out hB)
  have Cf_13 := Lib.hid (Kd.C_below Cf_12.out hB)
  have B_13 := Lib.hid (B_12.out.trans (hB.mono B_12.out.size))
  clear hB  Cp_12 Cf_12 B_12
  go_wp2_with fail
  refine (classes_Not.calls k10 Ap cp _ m _ w13 Cp_13.out Lp.out F7.out).mono ?_
  rintro e w14 ⟨vk, rfl, hR, hB⟩
  have Cp_14 := Lib.hid (Kd.C_below Cp_13.out hB)
  have Cf_14 := Lib.hid (Kd.C_below Cf_13.out hB)
  have B_14 := Lib.hid (B_13.out.trans (hB.mono B_13.out.size))
  obtain ⟨Ak, ck, rfl⟩ := Kd.R_slice hR
  have Lk := Lib.hid (rR hR).2.1
  have Ck_14 := Lib.hid (rR hR).2.2
  clear hB hR Cp_13 Cf_13 B_13
  go_wp2_with fail
  refine (classes_Count.calls k11 Ak ck _ n5 w14 Ck_14.out Lk.out H5.out).mono ?_
  rintro e w15 ⟨rfl, hB⟩
  have Cp_15 := Lib.hid (Kd.C_below Cp_14.out hB)
  have Cf_15 := Lib.hid (Kd.C_below Cf_14.out hB)
  have Ck_15 := Lib.hid (Kd.C_below Ck_14.out hB)
  have B_15 := Lib.hid (B_14.out.trans (hB.mono B_14.out.size))
  clear hB  Cp_14 Cf_14 Ck_14 B_14
  go_wp2_with fail
  refine (classes_Fold.calls Af cf _ _ w15 Cf_15.out Lf.out F8.out).mono ?_
  rintro e w16 ⟨vg, rfl, hR, hB⟩
  have Cp_16 := Lib.hid (Kd.C_below Cp_15.out hB)
  have Cf_16 := Lib.hid (Kd.C_below Cf_15.out hB)
  have B_16 := Lib.hid (B_15.out.trans (hB.mono B_15.out.size))
  obtain ⟨Ag, cg, rfl⟩ := Kd.R_slice hR
  have Lg := Lib.hid (rR hR).2.1
  have Cg_16 := Lib.hid (rR hR).2.2
  clear hB hR Cp_15 Cf_15 B_15
  go_wp2_with fail
  refine (classes_Same.calls k12 Ag cg _ Af cf _ true w16 Cg_16.out Lg.out Cf_16.out Lf.out S1.out).mono ?_
  rintro e w17 ⟨rfl, hB⟩
  have Cp_17 := Lib.hid (Kd.C_below Cp_16.out hB)
  have Cf_17 := Lib.hid (Kd.C_below Cf_16.out hB)
  have Cg_17 := Lib.hid (Kd.C_below Cg_16.out hB)
  have B_17 := Lib.hid (B_16.out.trans (hB.mono B_16.out.size))
  clear hB  Cp_16 Cf_16 Cg_16 B_16
  go_wp2_with fail
  refine (classes_Or.calls Af cf _ Ap cp _ _ w17 Cf_17.out Lf.out Cp_17.out Lp.out F9.out).mono ?_
  rintro e w18 ⟨vz, rfl, hR, hB⟩
  have Cp_18 := Lib.hid (Kd.C_below Cp_17.out hB)
  have Cf_18 := Lib.hid (Kd.C_below Cf_17.out hB)
  have B_18 := Lib.hid (B_17.out.trans (hB.mono B_17.out.size))
  obtain ⟨Az, cz, rfl⟩ := Kd.R_slice hR
  have Lz := Lib.hid (rR hR).2.1
  have Cz_18 := Lib.hid (rR hR).2.2
  clear hB hR Cp_17 Cf_17 B_17
  go_wp2_with fail
  refine (classes_Same.calls k13 Az cz _ Af cf _ true w18 Cz_18.out Lz.out Cf_18.out Lf.out S2.out).mono ?_
  rintro e w19 ⟨rfl, hB⟩
  have Cp_19 := Lib.hid (Kd.C_below Cp_18.out hB)
  have Cf_19 := Lib.hid (Kd.C_below Cf_18.out hB)
  have Cz_19 := Lib.hid (Kd.C_below Cz_18.out hB)
  have B_19 := Lib.hid (B_18.out.trans (hB.mono B_18.out.size))
  clear hB  Cp_18 Cf_18 Cz_18 B_18
  go_wp2
  go_ret
  exact ⟨rfl, B_19.out⟩
theorem norm_sub (l : List S64) (m : Bool) (c : Int) (h : Cls.Mem (Cls.norm l m) c) : Cls.Mem (Cls.all m) c := ((Cls.norm_mem l m c).1 h).2
theorem norm_inR (l : List S64) (m : Bool) : inR (Cls.norm l m) = true := inR_of_mem _ (Cls.norm_can l m) fun c h => by have := all_below m c (norm_sub l m c h); omega
theorem cls_self {l : List S64} (h : Cls.Can l) : Cls.cls l = l := cls_of_can h
theorem fold_inR (l : List S64) (h : inR l = true) : inR (Cls.fold l) = true := inR_cls _ (toFold_inR l h)
theorem fold_fold (l : List S64) : Cls.fold (Cls.fold l) = Cls.fold l := Cls.can_unique _ _ (Cls.fold_can _) (Cls.fold_can _) fun c => by
  rw [Cls.fold_mem (Cls.fold l)]
  constructor
  · rintro (h | ⟨h, h1, h2⟩ | ⟨h, h1, h2⟩)
    · exact h
    · rw [Cls.fold_mem] at h ⊢
      rcases h with h | ⟨h, h3, h4⟩ | ⟨h, h3, h4⟩
      · exact .inr (.inl ⟨h, h1, h2⟩)
      · omega
      · rw [show c - 32 + 32 = c by omega] at h
        exact .inl h
    · rw [Cls.fold_mem] at h ⊢
      rcases h with h | ⟨h, h3, h4⟩ | ⟨h, h3, h4⟩
      · exact .inr (.inr ⟨h, h1, h2⟩)
      · rw [show c + 32 - 32 = c by omega] at h
        exact .inl h
      · omega
  · exact .inl
theorem count_law (a b : List S64) (m : Bool) (h1 : a.length < 2000000) (h2 : b.length < 2000000) (ha : inR a = true) (hb : inR b = true) (A0 : Option Addr) (c0 : Nat) (A1 : Option Addr) (c1 : Nat) (W : World) (hr0 : Kd.C k64 W A0 a.length a) (hc0 : a.length ≤ c0) (hr1 : Kd.C k64 W A1 b.length b) (hc1 : b.length ≤ c1) :
    Calls Try.prog 8 #[.slice A0 a.length c0, .slice A1 b.length c1, .bool m] W fun e w' => e = .returned (.bool true) ∧ Below W.heap.size W w' := by
  have lP := and_length a (Cls.all m)
  have lQ := and_length b (Cls.all m)
  have hall := all_length m
  have iP := norm_inR a m
  have iQ := norm_inR b m
  have cP := Cls.norm_can a m
  have cQ := Cls.norm_can b m
  have sP := norm_sub a m
  have sQ := norm_sub b m
  obtain ⟨k1, f1⟩ := (norm_ends a m (by omega) ha).get
  obtain ⟨k2, f2⟩ := (norm_ends b m (by omega) hb).get
  change (Cls.norm a m).length ≤ _ at lP
  change (Cls.norm b m).length ≤ _ at lQ
  generalize Cls.norm a m = P at *
  generalize Cls.norm b m = Q at *
  have eM : Cls.less_ (Cls.all m) [] = Cls.all m := Cls.can_unique _ _ (Cls.less_can _ _) (all_can m) fun c => by rw [Cls.less_mem]; simp [Cls.mem_nil]
  obtain ⟨k3, f3⟩ := (not_ends [] m (by simp) rfl).get
  rw [eM] at f3
  obtain ⟨k4, h6⟩ := (count_ends (Cls.all m) (by omega) (all_inR m)).get
  have lF := fold_length P
  have iF := fold_inR P iP
  have cF := Cls.fold_can P
  have f4 : classes_Fold.f P = some (Cls.fold P) := by unfold classes_Fold.f; rw [if_pos (by omega), if_pos iP]
  have f8 : classes_Fold.f (Cls.fold P) = some (Cls.fold P) := by unfold classes_Fold.f; rw [if_pos (by omega), if_pos iF, fold_fold]
  have iJ := (inR_append P Q).2 ⟨iP, iQ⟩
  have lJ := cls_length (P ++ Q)
  rw [List.length_append] at lJ
  have f5 : classes_Or.f P Q = some (Cls.cls (P ++ Q)) := by unfold classes_Or.f; rw [if_pos (by omega), if_pos iJ]
  obtain ⟨k5, h1'⟩ := (count_ends (Cls.cls (P ++ Q)) (by omega) (inR_cls _ iJ)).get
  have lI := and_length P Q
  obtain ⟨k6, f6⟩ := (and_ends P Q (by omega) iP iQ).get
  have iI : inR (Cls.and_ P Q) = true := inR_of_mem _ (Cls.and_can P Q) fun c h => mem_inR P iP c ((Cls.and_mem P Q c).1 h).1
  obtain ⟨k7, h2'⟩ := (count_ends (Cls.and_ P Q) (by omega) iI).get
  obtain ⟨k8, h3'⟩ := (count_ends P (by omega) iP).get
  obtain ⟨k9, h4'⟩ := (count_ends Q (by omega) iQ).get
  obtain ⟨k10, f7⟩ := (not_ends P m (by omega) iP).get
  have lK := less_length (Cls.all m) P
  have hm := mul_small (Cls.all m).length P.length (by omega) (by omega)
  have iK : inR (Cls.less_ (Cls.all m) P) = true := inR_of_mem _ (Cls.less_can _ P) fun c h => mem_inR _ (all_inR m) c ((Cls.less_mem _ P c).1 h).1
  obtain ⟨k11, h5'⟩ := (count_ends (Cls.less_ (Cls.all m) P) (by omega) iK).get
  obtain ⟨k12, s1⟩ := (same_ends (Cls.fold P) (Cls.fold P) (by omega) (by omega) iF iF).get
  rw [decide_eq_true rfl] at s1
  have iZ := (inR_append (Cls.fold P) P).2 ⟨iF, iP⟩
  have eZ : Cls.cls (Cls.fold P ++ P) = Cls.fold P := (Cls.cls_unique cF fun c => by
    rw [Cls.mem_append]
    constructor
    · exact .inl
    · rintro (h | h)
      · exact h
      · exact (Cls.fold_mem P c).2 (.inl h)).symm
  have f9 : classes_Or.f (Cls.fold P) P = some (Cls.fold P) := by unfold classes_Or.f; rw [if_pos (by omega), if_pos iZ, eZ]
  have sJ : ∀ c, Cls.Mem (Cls.cls (P ++ Q)) c → Cls.Mem (Cls.all m) c := fun c h => by rw [Cls.cls_mem, Cls.mem_append] at h; rcases h with h | h; exact sP c h; exact sQ c h
  have sI : ∀ c, Cls.Mem (Cls.and_ P Q) c → Cls.Mem (Cls.all m) c := fun c h => sP c ((Cls.and_mem P Q c).1 h).1
  have sK : ∀ c, Cls.Mem (Cls.less_ (Cls.all m) P) c → Cls.Mem (Cls.all m) c := fun c h => ((Cls.less_mem _ P c).1 h).1
  have e1 := count_or_and m P Q cP cQ sP sQ
  have e2 := count_rest m P cP sP
  have t1 := many_small m _ (Cls.cls_can (P ++ Q)) sJ
  have t2 := many_small m _ (Cls.and_can P Q) sI
  have t3 := many_small m P cP sP
  have t4 := many_small m Q cQ sQ
  have t5 := many_small m _ (Cls.less_can (Cls.all m) P) sK
  rw [cls_self (Cls.cls_can _), count_small m _ (Cls.cls_can _) sJ] at h1'
  rw [cls_self (Cls.and_can _ _), count_small m _ (Cls.and_can _ _) sI] at h2'
  rw [cls_self cP, count_small m _ cP sP] at h3'
  rw [cls_self cQ, count_small m _ cQ sQ] at h4'
  rw [cls_self (Cls.less_can _ _), count_small m _ (Cls.less_can _ _) sK] at h5'
  rw [cls_self (all_can m), count_small m _ (all_can m) (fun c h => h)] at h6
  exact count_walk a b m P Q _ _ _ _ _ _ _ _ _ _ _ _ _ k1 k2 k3 k4 k5 k6 k7 k8 k9 k10 k11 k12 k12 f1 f2 f3 h6 f4 f5 h1' f6 h2' h3' h4' f7 h5' f8 s1 f9 s1 e1 e2 (by omega) (by omega) (by omega) (by omega) (by omega) A0 c0 A1 c1 W hr0 hc0 hr1 hc1
end Go.Proofs.Ytamhkdlcoghdbaa.PCls
