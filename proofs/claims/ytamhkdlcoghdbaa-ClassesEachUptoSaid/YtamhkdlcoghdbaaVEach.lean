/- The walk of ClassesEach, and its law. -/
import Derived.Test.YtamhkdlcoghdbaaLawKit
import Derived.Test.YtamhkdlcoghdbaaGEx
namespace Go.Proofs.Ytamhkdlcoghdbaa.PCls
open Go.RowKit Go.Proofs.YtamhkdlcoghdbaaW.PrintWords Go.Proofs.YtamhkdlcoghdbaaW.PrintLast Go.Proofs.YtamhkdlcoghdbaaW.PrintMore
set_option linter.unusedVariables false
set_option linter.unusedSimpArgs false


set_option maxHeartbeats 8000000 in
set_option maxRecDepth 100000 in
theorem each_walk (a b : List S64) (c : Int) (m : Bool) (x y z ch f : Bool) (top oth : Int) (J I D N M F : List S64) (k1 k2 k3 k4 : Nat)
    (hc : -9223372036854775808 ≤ c ∧ c ≤ 9223372036854775807)
    (hx : classes_Has.f a c = some x) (hy : classes_Has.f b c = some y) (ht : classes_Top.f m = some top)
    (hch : ch = (decide (0 ≤ c) && decide (c ≤ top) && (!m || decide (c < 55296) || decide (57343 < c))))
    (hoth : oth = if 65 ≤ c ∧ c ≤ 90 then c + 32 else if 97 ≤ c ∧ c ≤ 122 then c - 32 else c)
    (hz : classes_Has.f a oth = some z) (hf : f = (x || z))
    (f1 : classes_Or.f a b = some J) (e1 : classes_Has.f J c = some (x || y)) (f2 : classes_And.f k1 a b = some I) (e2 : classes_Has.f I c = some (x && y))
    (f3 : classes_Less.f k2 a b = some D) (e3 : classes_Has.f D c = some (x && !y)) (f4 : classes_Norm.f k3 a m = some N) (e4 : classes_Has.f N c = some (x && ch))
    (f5 : classes_Not.f k4 a m = some M) (e5 : classes_Has.f M c = some (ch && !x)) (f6 : classes_Fold.f a = some F) (e6 : classes_Has.f F c = some f)
    (A0 : Option Addr) (c0 : Nat) (A1 : Option Addr) (c1 : Nat) (W : World) (hr0 : Kd.C k64 W A0 a.length a) (hc0 : a.length ≤ c0) (hr1 : Kd.C k64 W A1 b.length b) (hc1 : b.length ≤ c1) :
    Calls Try.prog 5 #[.slice A0 a.length c0, .slice A1 b.length c1, .int .i64 c, .bool m] W fun e w' => e = .returned (.bool true) ∧ Below W.heap.size W w' := by
  have HX := Lib.hid hx
  have HY := Lib.hid hy
  have HT := Lib.hid ht
  have HZ := Lib.hid hz
  have F1 := Lib.hid f1
  have E1 := Lib.hid e1
  have F2 := Lib.hid f2
  have E2 := Lib.hid e2
  have F3 := Lib.hid f3
  have E3 := Lib.hid e3
  have F4 := Lib.hid f4
  have E4 := Lib.hid e4
  have F5 := Lib.hid f5
  have E5 := Lib.hid e5
  have F6 := Lib.hid f6
  have E6 := Lib.hid e6
  have HCH := Lib.hid hch
  have HOTH := Lib.hid hoth
  have HF := Lib.hid hf
  have HR0 := Lib.hid hr0
  have HC0 := Lib.hid hc0
  have HR1 := Lib.hid hr1
  have HC1 := Lib.hid hc1
  clear hx hy ht hz f1 e1 f2 e2 f3 e3 f4 e4 f5 e5 f6 e6 hch hoth hf hr0 hc0 hr1 hc1
  have hB0 := Lib.hid (Below.refl W.heap.size W)
  go_enter Try.func5, Try.ntmps5
  go_wp2_with fail
  refine (dredgelaw06_examples.calls true W rfl).mono ?_
  rintro e w1 ⟨rfl, hB⟩
  have Cl_1 := Lib.hid (Kd.C_below HR0.out hB)
  have Cm_1 := Lib.hid (Kd.C_below HR1.out hB)
  have B_1 := Lib.hid (hB0.out.trans (hB.mono hB0.out.size))
  clear hB  
  go_wp2_with fail
  refine (classes_Has.calls A0 c0 a c x w1 Cl_1.out HC0.out HX.out).mono ?_
  rintro e w2 ⟨rfl, hB⟩
  have Cl_2 := Lib.hid (Kd.C_below Cl_1.out hB)
  have Cm_2 := Lib.hid (Kd.C_below Cm_1.out hB)
  have B_2 := Lib.hid (B_1.out.trans (hB.mono B_1.out.size))
  clear hB  Cl_1 Cm_1 B_1
  go_wp2_with fail
  refine (classes_Has.calls A1 c1 b c y w2 Cm_2.out HC1.out HY.out).mono ?_
  rintro e w3 ⟨rfl, hB⟩
  have Cl_3 := Lib.hid (Kd.C_below Cl_2.out hB)
  have Cm_3 := Lib.hid (Kd.C_below Cm_2.out hB)
  have B_3 := Lib.hid (B_2.out.trans (hB.mono B_2.out.size))
  clear hB  Cl_2 Cm_2 B_2
  go_upto_region 4 with (fail)
  (try simp only [Act.put, List.setIfInBounds_toArray, List.set_cons_zero, List.set_cons_succ])
  go_cut [12] (fun v12 wc => v12 = .bool ch ∧ Aside0 (Kd.C k64 wc A0 a.length a) ∧ Aside0 (Kd.C k64 wc A1 b.length b) ∧ Aside0 (Below W.heap.size W wc))
  case first =>
    by_cases h0 : 0 ≤ c
    · have d0 : decide (0 ≤ c) = true := decide_eq_true h0
      by_cases h1 : c ≤ top
      · have d1 : decide (c ≤ top) = true := decide_eq_true h1
        cases m with
        | false =>
          go_wp2_with fail
          refine (classes_Top.calls _ top _ HT.out).mono ?_
          rintro e w9 ⟨rfl, hD⟩
          go_wp2
          go_meet
          case rel => exact ⟨by rw [HCH.out]; simp [*], ⟨C_drawn Cl_3.out hD⟩, ⟨C_drawn Cm_3.out hD⟩, ⟨B_drawn B_3.out hD⟩⟩
        | true =>
          by_cases h2 : c < 55296
          · have d2 : decide (c < 55296) = true := decide_eq_true h2
            go_wp2_with fail
            refine (classes_Top.calls _ top _ HT.out).mono ?_
            rintro e w9 ⟨rfl, hD⟩
            go_wp2
            go_meet
            case rel => exact ⟨by rw [HCH.out]; simp [*], ⟨C_drawn Cl_3.out hD⟩, ⟨C_drawn Cm_3.out hD⟩, ⟨B_drawn B_3.out hD⟩⟩
          · have d2 : decide (c < 55296) = false := decide_eq_false h2
            by_cases h3 : 57343 < c
            · have d3 : decide (57343 < c) = true := decide_eq_true h3
              go_wp2_with fail
              refine (classes_Top.calls _ top _ HT.out).mono ?_
              rintro e w9 ⟨rfl, hD⟩
              go_wp2
              go_meet
              case rel => exact ⟨by rw [HCH.out]; simp [*], ⟨C_drawn Cl_3.out hD⟩, ⟨C_drawn Cm_3.out hD⟩, ⟨B_drawn B_3.out hD⟩⟩
            · have d3 : decide (57343 < c) = false := decide_eq_false h3
              go_wp2_with fail
              refine (classes_Top.calls _ top _ HT.out).mono ?_
              rintro e w9 ⟨rfl, hD⟩
              go_wp2
              go_meet
              case rel => exact ⟨by rw [HCH.out]; simp [*], ⟨C_drawn Cl_3.out hD⟩, ⟨C_drawn Cm_3.out hD⟩, ⟨B_drawn B_3.out hD⟩⟩
      · have d1 : decide (c ≤ top) = false := decide_eq_false h1
        go_wp2_with fail
        refine (classes_Top.calls _ top _ HT.out).mono ?_
        rintro e w9 ⟨rfl, hD⟩
        go_wp2
        go_meet
        case rel => exact ⟨by rw [HCH.out]; simp [*], ⟨C_drawn Cl_3.out hD⟩, ⟨C_drawn Cm_3.out hD⟩, ⟨B_drawn B_3.out hD⟩⟩
    · have d0 : decide (0 ≤ c) = false := decide_eq_false h0
      go_wp2
      go_meet
      case rel => exact ⟨by rw [HCH.out]; simp [*], ⟨Cl_3.out⟩, ⟨Cm_3.out⟩, ⟨B_3.out⟩⟩
  case rest =>
    obtain ⟨rfl, HA, HM, HB⟩ := hcut
    go_upto_region 6 with (fail)
    go_cut [48] (fun v48 wc => v48 = .bool (decide (65 ≤ c) && decide (c ≤ 90)) ∧ Aside0 (Kd.C k64 wc A0 a.length a) ∧ Aside0 (Kd.C k64 wc A1 b.length b) ∧ Aside0 (Below W.heap.size W wc))
    case first =>
      by_cases h0 : 65 ≤ c
      · have d0 : decide (65 ≤ c) = true := decide_eq_true h0
        go_wp2
        go_meet
        case rel => exact ⟨by simp [*], ⟨HA.out⟩, ⟨HM.out⟩, ⟨HB.out⟩⟩
      · have d0 : decide (65 ≤ c) = false := decide_eq_false h0
        go_wp2
        go_meet
        case rel => exact ⟨by simp [*], ⟨HA.out⟩, ⟨HM.out⟩, ⟨HB.out⟩⟩
    case rest =>
      obtain ⟨rfl, HA, HM, HB⟩ := hcut
      go_upto_if 48 with (fail)
      go_cut [13] (fun v13 wc => v13 = .int .i64 oth ∧ Aside0 (Kd.C k64 wc A0 a.length a) ∧ Aside0 (Kd.C k64 wc A1 b.length b) ∧ Aside0 (Below W.heap.size W wc))
      case first =>
        by_cases h1 : 65 ≤ c ∧ c ≤ 90
        · have d1 : (decide (65 ≤ c) && decide (c ≤ 90)) = true := by rw [decide_eq_true h1.1, decide_eq_true h1.2]; rfl
          have ho : oth = c + 32 := by rw [HOTH.out, if_pos h1]
          have hw : wrap64 (c + 32) = c + 32 := w64_lit _ (by omega) (by omega)
          rw [d1]
          go_wp2
          go_meet
          case rel => exact ⟨by first | (rw [ho]; done) | (rw [ho]; simp [*]), ⟨HA.out⟩, ⟨HM.out⟩, ⟨HB.out⟩⟩
        · have d1 : (decide (65 ≤ c) && decide (c ≤ 90)) = false := by rw [Bool.and_eq_false_iff]; rcases Classical.not_and_iff_not_or_not.1 h1 with h | h; exact .inl (decide_eq_false h); exact .inr (decide_eq_false h)
          rw [d1]
          by_cases h2 : 97 ≤ c
          · have d2 : decide (97 ≤ c) = true := decide_eq_true h2
            by_cases h3 : c ≤ 122
            · have d3 : decide (c ≤ 122) = true := decide_eq_true h3
              have ho : oth = c - 32 := by rw [HOTH.out, if_neg h1, if_pos ⟨h2, h3⟩]
              have hw : wrap64 (c - 32) = c - 32 := w64_lit _ (by omega) (by omega)
              go_wp2
              go_meet
              case rel => exact ⟨by first | (rw [ho]; done) | (rw [ho]; simp [*]), ⟨HA.out⟩, ⟨HM.out⟩, ⟨HB.out⟩⟩
            · have d3 : decide (c ≤ 122) = false := decide_eq_false h3
              have ho : oth = c := by rw [HOTH.out, if_neg h1, if_neg (fun h => h3 h.2)]
              go_wp2
              go_meet
              case rel => exact ⟨by rw [ho], ⟨HA.out⟩, ⟨HM.out⟩, ⟨HB.out⟩⟩
          · have d2 : decide (97 ≤ c) = false := decide_eq_false h2
            have ho : oth = c := by rw [HOTH.out, if_neg h1, if_neg (fun h => h2 h.1)]
            go_wp2
            go_meet
            case rel => exact ⟨by rw [ho], ⟨HA.out⟩, ⟨HM.out⟩, ⟨HB.out⟩⟩
      case rest =>
        obtain ⟨rfl, HA, HM, HB⟩ := hcut
        go_upto_region 10 with (fail)
        go_cut [14] (fun v14 wc => v14 = .bool f ∧ Aside0 (Kd.C k64 wc A0 a.length a) ∧ Aside0 (Kd.C k64 wc A1 b.length b) ∧ Aside0 (Below W.heap.size W wc))
        case first =>
          cases x with
          | true =>
            go_wp2
            go_meet
            case rel => exact ⟨by rw [HF.out]; rfl, ⟨HA.out⟩, ⟨HM.out⟩, ⟨HB.out⟩⟩
          | false =>
            go_wp2_with fail
            refine (classes_Has.calls A0 c0 a oth z _ HA.out HC0.out HZ.out).mono ?_
            rintro e w9 ⟨rfl, hB⟩
            go_wp2
            go_meet
            case rel => exact ⟨by rw [HF.out]; rfl, ⟨Kd.C_below HA.out hB⟩, ⟨Kd.C_below HM.out hB⟩, ⟨HB.out.trans (hB.mono HB.out.size)⟩⟩
        case rest =>
          obtain ⟨rfl, HA, HM, HB⟩ := hcut
          clear HX HY HZ HCH HOTH HF HT
          have hff : (f == f) = true := by simp
          cases x <;> cases y <;> cases ch <;> (
            go_wp2_with fail
            refine (classes_Or.calls A0 c0 a A1 c1 b _ wc HA.out HC0.out HM.out HC1.out F1.out).mono ?_
            rintro e w21 ⟨vj, rfl, hR, hB⟩
            have Cl_21 := Lib.hid (Kd.C_below HA.out hB)
            have Cm_21 := Lib.hid (Kd.C_below HM.out hB)
            have B_21 := Lib.hid (HB.out.trans (hB.mono HB.out.size))
            obtain ⟨Aj, cj, rfl⟩ := Kd.R_slice hR
            have Lj := Lib.hid (rR hR).2.1
            have Cj_21 := Lib.hid (rR hR).2.2
            clear hB hR 
            go_wp2_with fail
            refine (classes_Has.calls Aj cj _ c _ w21 Cj_21.out Lj.out E1.out).mono ?_
            rintro e w22 ⟨rfl, hB⟩
            have Cl_22 := Lib.hid (Kd.C_below Cl_21.out hB)
            have Cm_22 := Lib.hid (Kd.C_below Cm_21.out hB)
            have Cj_22 := Lib.hid (Kd.C_below Cj_21.out hB)
            have B_22 := Lib.hid (B_21.out.trans (hB.mono B_21.out.size))
            clear hB  Cl_21 Cm_21 Cj_21 B_21
            go_wp2_with fail
            refine (classes_And.calls k1 A0 c0 a A1 c1 b _ w22 Cl_22.out HC0.out Cm_22.out HC1.out F2.out).mono ?_
            rintro e w23 ⟨vi, rfl, hR, hB⟩
            have Cl_23 := Lib.hid (Kd.C_below Cl_22.out hB)
            have Cm_23 := Lib.hid (Kd.C_below Cm_22.out hB)
            have B_23 := Lib.hid (B_22.out.trans (hB.mono B_22.out.size))
            obtain ⟨Ai, ci, rfl⟩ := Kd.R_slice hR
            have Li := Lib.hid (rR hR).2.1
            have Ci_23 := Lib.hid (rR hR).2.2
            clear hB hR Cl_22 Cm_22 B_22
            go_wp2_with fail
            refine (classes_Has.calls Ai ci _ c _ w23 Ci_23.out Li.out E2.out).mono ?_
            rintro e w24 ⟨rfl, hB⟩
            have Cl_24 := Lib.hid (Kd.C_below Cl_23.out hB)
            have Cm_24 := Lib.hid (Kd.C_below Cm_23.out hB)
            have Ci_24 := Lib.hid (Kd.C_below Ci_23.out hB)
            have B_24 := Lib.hid (B_23.out.trans (hB.mono B_23.out.size))
            clear hB  Cl_23 Cm_23 Ci_23 B_23
            go_wp2_with fail
            refine (classes_Less.calls k2 A0 c0 a A1 c1 b _ w24 Cl_24.out HC0.out Cm_24.out HC1.out F3.out).mono ?_
            rintro e w25 ⟨vd, rfl, hR, hB⟩
            have Cl_25 := Lib.hid (Kd.C_below Cl_24.out hB)
            have Cm_25 := Lib.hid (Kd.C_below Cm_24.out hB)
            have B_25 := Lib.hid (B_24.out.trans (hB.mono B_24.out.size))
            obtain ⟨Ad, cd, rfl⟩ := Kd.R_slice hR
            have Ld := Lib.hid (rR hR).2.1
            have Cd_25 := Lib.hid (rR hR).2.2
            clear hB hR Cl_24 Cm_24 B_24
            go_wp2_with fail
            refine (classes_Has.calls Ad cd _ c _ w25 Cd_25.out Ld.out E3.out).mono ?_
            rintro e w26 ⟨rfl, hB⟩
            have Cl_26 := Lib.hid (Kd.C_below Cl_25.out hB)
            have Cm_26 := Lib.hid (Kd.C_below Cm_25.out hB)
            have Cd_26 := Lib.hid (Kd.C_below Cd_25.out hB)
            have B_26 := Lib.hid (B_25.out.trans (hB.mono B_25.out.size))
            clear hB  Cl_25 Cm_25 Cd_25 B_25
            go_wp2_with fail
            refine (classes_Norm.calls k3 A0 c0 a m _ w26 Cl_26.out HC0.out F4.out).mono ?_
            rintro e w27 ⟨vn, rfl, hR, hB⟩
            have Cl_27 := Lib.hid (Kd.C_below Cl_26.out hB)
            have Cm_27 := Lib.hid (Kd.C_below Cm_26.out hB)
            have B_27 := Lib.hid (B_26.out.trans (hB.mono B_26.out.size))
            obtain ⟨An, cn, rfl⟩ := Kd.R_slice hR
            have Ln := Lib.hid (rR hR).2.1
            have Cn_27 := Lib.hid (rR hR).2.2
            clear hB hR Cl_26 Cm_26 B_26
            go_wp2_with fail
            refine (classes_Has.calls An cn _ c _ w27 Cn_27.out Ln.out E4.out).mono ?_
            rintro e w28 ⟨rfl, hB⟩
            have Cl_28 := Lib.hid (Kd.C_below Cl_27.out hB)
            have Cm_28 := Lib.hid (Kd.C_below Cm_27.out hB)
            have Cn_28 := Lib.hid (Kd.C_below Cn_27.out hB)
            have B_28 := Lib.hid (B_27.out.trans (hB.mono B_27.out.size))
            clear hB  Cl_27 Cm_27 Cn_27 B_27
            go_wp2_with fail
            refine (classes_Not.calls k4 A0 c0 a m _ w28 Cl_28.out HC0.out F5.out).mono ?_
            rintro e w29 ⟨vo, rfl, hR, hB⟩
            have Cl_29 := Lib.hid (Kd.C_below Cl_28.out hB)
            have Cm_29 := Lib.hid (Kd.C_below Cm_28.out hB)
            have B_29 := Lib.hid (B_28.out.trans (hB.mono B_28.out.size))
            obtain ⟨Ao, co, rfl⟩ := Kd.R_slice hR
            have Lo := Lib.hid (rR hR).2.1
            have Co_29 := Lib.hid (rR hR).2.2
            clear hB hR Cl_28 Cm_28 B_28
            go_wp2_with fail
            refine (classes_Has.calls Ao co _ c _ w29 Co_29.out Lo.out E5.out).mono ?_
            rintro e w30 ⟨rfl, hB⟩
            have Cl_30 := Lib.hid (Kd.C_below Cl_29.out hB)
            have Cm_30 := Lib.hid (Kd.C_below Cm_29.out hB)
            have Co_30 := Lib.hid (Kd.C_below Co_29.out hB)
            have B_30 := Lib.hid (B_29.out.trans (hB.mono B_29.out.size))
            clear hB  Cl_29 Cm_29 Co_29 B_29
            go_wp2_with fail
            refine (classes_Fold.calls A0 c0 a _ w30 Cl_30.out HC0.out F6.out).mono ?_
            rintro e w31 ⟨vf, rfl, hR, hB⟩
            have Cl_31 := Lib.hid (Kd.C_below Cl_30.out hB)
            have Cm_31 := Lib.hid (Kd.C_below Cm_30.out hB)
            have B_31 := Lib.hid (B_30.out.trans (hB.mono B_30.out.size))
            obtain ⟨Af, cf, rfl⟩ := Kd.R_slice hR
            have Lf := Lib.hid (rR hR).2.1
            have Cf_31 := Lib.hid (rR hR).2.2
            clear hB hR Cl_30 Cm_30 B_30
            go_wp2_with fail
            refine (classes_Has.calls Af cf _ c _ w31 Cf_31.out Lf.out E6.out).mono ?_
            rintro e w32 ⟨rfl, hB⟩
            have Cl_32 := Lib.hid (Kd.C_below Cl_31.out hB)
            have Cm_32 := Lib.hid (Kd.C_below Cm_31.out hB)
            have Cf_32 := Lib.hid (Kd.C_below Cf_31.out hB)
            have B_32 := Lib.hid (B_31.out.trans (hB.mono B_31.out.size))
            clear hB  Cl_31 Cm_31 Cf_31 B_31
            go_wp2
            go_ret
            exact ⟨rfl, B_32.out⟩)
end Go.Proofs.Ytamhkdlcoghdbaa.PCls
