/- The walk of ClassesMix, and its law. -/
import Derived.Test.YtamhkdlcoghdbaaLawKit
import Derived.Test.YtamhkdlcoghdbaaGEx
namespace Go.Proofs.Ytamhkdlcoghdbaa.PCls
open Go.RowKit Go.Proofs.YtamhkdlcoghdbaaW.PrintWords Go.Proofs.YtamhkdlcoghdbaaW.PrintLast Go.Proofs.YtamhkdlcoghdbaaW.PrintMore
set_option linter.unusedVariables false
set_option linter.unusedSimpArgs false


def dredgelaw06_ClassesMix.T7 : Bool × List (List Nat × List Nat) := (true, [([], []), ([], []), ([1], [1]), ([0, 2], [0, 2]), ([], []), ([], []), ([5], [5]), ([4, 6], [4, 6]), ([3, 7], [3, 7]), ([8, 8, 0, 1, 2, 3, 4, 5, 6, 7, 8], [8])])
def dredgelaw06_ClassesMix.B7 : List Nat := [0, 0, 2, 7, 0, 0, 32, 112, 255, 511]
theorem dredgelaw06_ClassesMix.tab7 : rtab .any (opsOf Try.f7 7) = dredgelaw06_ClassesMix.T7 := by kernel_rfl
theorem dredgelaw06_ClassesMix.bits7 : waitsOk dredgelaw06_ClassesMix.T7.2 dredgelaw06_ClassesMix.B7 = true := by kernel_rfl
def dredgelaw06_ClassesMix.T8 : Bool × List (List Nat × List Nat) := (true, [([], []), ([], []), ([1], [1]), ([0, 2], [0, 2]), ([], []), ([], []), ([5], [5]), ([4, 6], [4, 6]), ([3, 7], [3, 7]), ([8, 8, 0, 1, 2, 3, 4, 5, 6, 7, 8], [8])])
def dredgelaw06_ClassesMix.B8 : List Nat := [0, 0, 2, 7, 0, 0, 32, 112, 255, 511]
theorem dredgelaw06_ClassesMix.tab8 : rtab .any (opsOf Try.f7 8) = dredgelaw06_ClassesMix.T8 := by kernel_rfl
theorem dredgelaw06_ClassesMix.bits8 : waitsOk dredgelaw06_ClassesMix.T8.2 dredgelaw06_ClassesMix.B8 = true := by kernel_rfl
def dredgelaw06_ClassesMix.T9 : Bool × List (List Nat × List Nat) := (true, [([], []), ([], []), ([1], [1]), ([0, 2], [0, 2]), ([], []), ([], []), ([5], [5]), ([4, 6], [4, 6]), ([3, 7], [3, 7]), ([8, 8, 0, 1, 2, 3, 4, 5, 6, 7, 8], [8])])
def dredgelaw06_ClassesMix.B9 : List Nat := [0, 0, 2, 7, 0, 0, 32, 112, 255, 511]
theorem dredgelaw06_ClassesMix.tab9 : rtab .any (opsOf Try.f7 9) = dredgelaw06_ClassesMix.T9 := by kernel_rfl
theorem dredgelaw06_ClassesMix.bits9 : waitsOk dredgelaw06_ClassesMix.T9.2 dredgelaw06_ClassesMix.B9 = true := by kernel_rfl
def dredgelaw06_ClassesMix.T13 : Bool × List (List Nat × List Nat) := (true, [([], []), ([0], [0]), ([1], [1]), ([2], [2]), ([3, 2], [2, 3]), ([2, 4], [2, 4]), ([5, 2], [5]), ([6], [6]), ([7, 6], [6, 7]), ([6, 8], [6, 8]), ([9, 6], [9]), ([10], [10]), ([10], [10]), ([12, 10], [10, 12]), ([11, 13, 10], [10, 11, 13]), ([10], [10]), ([10], [10]), ([16, 10], [10, 16]), ([15, 17, 10], [10, 15, 17]), ([14, 18, 10, 10], [10, 14, 18]), ([10], [10]), ([10], [10]), ([20, 21, 19, 10], [10, 20, 21]), ([19, 22, 10], [10, 19, 22]), ([10, 23], [10, 23])])
def dredgelaw06_ClassesMix.B13 : List Nat := [0, 1, 3, 7, 15, 31, 63, 127, 255, 511, 1023, 2047, 2047, 6143, 16383, 2047, 2047, 67583, 231423, 524287, 2047, 2047, 4194303, 8388607, 16777215]
theorem dredgelaw06_ClassesMix.tab13 : rtab .any (opsOf Try.f7 13) = dredgelaw06_ClassesMix.T13 := by kernel_rfl
theorem dredgelaw06_ClassesMix.bits13 : waitsOk dredgelaw06_ClassesMix.T13.2 dredgelaw06_ClassesMix.B13 = true := by kernel_rfl
set_option maxHeartbeats 8000000 in
set_option maxRecDepth 100000 in
theorem mix_walk (a b X Y : List S64) (hX : X = a ++ [⟨-7, 7⟩]) (hY : Y = b ++ [⟨-7, 7⟩]) (N O F : List S64) (t : Bool) (k1 k2 k3 k4 k5 k6 k7 k8 k9 k10 k11 k12 : Nat)
    (f1 : classes_Or.f a b = some N) (f2 : classes_And.f k2 a b = some O) (f3 : classes_Less.f k1 a b = some F)
    (g1 : dredgeref06_Or.f k3 a b = some N) (g2 : dredgeref06_And.f k4 a b = some O) (g3 : dredgeref06_Less.f k5 a b = some F)
    (a1 : dredgeref06_Alike.f k6 N N = some true) (a2 : dredgeref06_Alike.f k7 O O = some true) (a3 : dredgeref06_Alike.f k8 F F = some true)
    (r1 : classes_Same.f k9 a b = some t) (r2 : dredgeref06_Same.f k10 a b = some t) (s1 : dredgelaw06_still.f k11 X a = some true) (s2 : dredgelaw06_still.f k12 Y b = some true)
    (d1 : dredgelaw06_lent.f a = some X) (d2 : dredgelaw06_lent.f b = some Y) (hN : N.length < 8796093022208) (hO : O.length < 8796093022208) (hF : F.length < 8796093022208)
    (A0 : Option Addr) (c0 : Nat) (A1 : Option Addr) (c1 : Nat) (W : World) (hr0 : Kd.C k64 W A0 a.length a) (hc0 : a.length ≤ c0) (hr1 : Kd.C k64 W A1 b.length b) (hc1 : b.length ≤ c1) :
    Calls Try.prog 7 #[.slice A0 a.length c0, .slice A1 b.length c1] W fun e w' => e = .returned (.bool true) ∧ Below W.heap.size W w' := by
  have F1 := Lib.hid f1
  have F2 := Lib.hid f2
  have F3 := Lib.hid f3
  have G1 := Lib.hid g1
  have G2 := Lib.hid g2
  have G3 := Lib.hid g3
  have Al1 := Lib.hid a1
  have Al2 := Lib.hid a2
  have Al3 := Lib.hid a3
  have R1 := Lib.hid r1
  have R2 := Lib.hid r2
  have S1 := Lib.hid s1
  have S2 := Lib.hid s2
  have D1 := Lib.hid d1
  have D2 := Lib.hid d2
  have XX := Lib.hid hX
  have YY := Lib.hid hY
  have HN := Lib.hid hN
  have HO := Lib.hid hO
  have HF := Lib.hid hF
  have HR0 := Lib.hid hr0
  have HC0 := Lib.hid hc0
  have HR1 := Lib.hid hr1
  have HC1 := Lib.hid hc1
  clear f1 f2 f3 g1 g2 g3 a1 a2 a3 r1 r2 s1 s2 d1 d2 hX hY hN hO hF hr0 hc0 hr1 hc1
  have hB0 := Lib.hid (Below.refl W.heap.size W)
  go_enter Try.func7, Try.ntmps7
  go_wp2_with fail
  refine (dredgelaw06_examples.calls true W rfl).mono ?_
  rintro e w1 ⟨rfl, hB⟩
  have Cl_1 := Lib.hid (Kd.C_below HR0.out hB)
  have Cm_1 := Lib.hid (Kd.C_below HR1.out hB)
  have B_1 := Lib.hid (hB0.out.trans (hB.mono hB0.out.size))
  clear hB  
  go_wp2_with fail
  refine (dredgelaw06_lent.calls A0 c0 a _ w1 Cl_1.out HC0.out D1.out).mono ?_
  rintro e w2 ⟨vx, rfl, hR, hB⟩
  have Cl_2 := Lib.hid (Kd.C_below Cl_1.out hB)
  have Cm_2 := Lib.hid (Kd.C_below Cm_1.out hB)
  have B_2 := Lib.hid (B_1.out.trans (hB.mono B_1.out.size))
  obtain ⟨Ax, cx, rfl⟩ := Kd.R_slice hR
  have Lx := Lib.hid (rR hR).2.1
  have Cx_2 := Lib.hid (rR hR).2.2
  clear hB hR Cl_1 Cm_1 B_1
  go_wp2_with fail
  refine (dredgelaw06_lent.calls A1 c1 b _ w2 Cm_2.out HC1.out D2.out).mono ?_
  rintro e w3 ⟨vy, rfl, hR, hB⟩
  have Cl_3 := Lib.hid (Kd.C_below Cl_2.out hB)
  have Cm_3 := Lib.hid (Kd.C_below Cm_2.out hB)
  have Cx_3 := Lib.hid (Kd.C_below Cx_2.out hB)
  have B_3 := Lib.hid (B_2.out.trans (hB.mono B_2.out.size))
  obtain ⟨Ay, cy, rfl⟩ := Kd.R_slice hR
  have Ly := Lib.hid (rR hR).2.1
  have Cy_3 := Lib.hid (rR hR).2.2
  clear hB hR Cl_2 Cm_2 Cx_2 B_2
  have Ln := Lib.hid (show a.length ≤ cx by have h1 := Lx.out; have h2 := congrArg List.length XX.out; rw [List.length_append] at h2; omega)
  have Lm := Lib.hid (show b.length ≤ cy by have h1 := Ly.out; have h2 := congrArg List.length YY.out; rw [List.length_append] at h2; omega)
  have q1 : (0 : Int) ≤ (a.length : Int) := by omega
  have q2 : (a.length : Int) ≤ (cx : Int) := by have := Ln.out; omega
  have q3 : (0 : Int) ≤ (b.length : Int) := by omega
  have hcx := cut_to (P := Try.prog) 22 64 .i64 Try.underlying22 info64'.choose_spec.1 Ax X.length cx (a.length : Int) q1 (by have h2 := congrArg List.length XX.out; rw [List.length_append] at h2; omega) Lx.out
  have hcy := cut_to (P := Try.prog) 22 64 .i64 Try.underlying22 info64'.choose_spec.1 Ay Y.length cy (b.length : Int) (by omega) (by have h2 := congrArg List.length YY.out; rw [List.length_append] at h2; omega) Ly.out
  rw [Int.toNat_natCast] at hcx hcy
  have q4 : (b.length : Int) ≤ (cy : Int) := by have := Lm.out; omega
  go_wp2_with fail
  go_loopg [8] 2 (fun gg s8 wr => ∃ i : Nat, i ≤ 2 ∧ 2 - i ≤ gg ∧ s8 = .int .i64 i ∧ Aside0 (Kd.C k64 wr Ax X.length X) ∧ Aside0 (Kd.C k64 wr Ay Y.length Y) ∧ Aside0 (Kd.C k64 wr A0 a.length a) ∧ Aside0 (Kd.C k64 wr A1 b.length b) ∧ Aside0 (Below W.heap.size W wr))
  case atStart => exact ⟨0, by omega, by omega, rfl, ⟨Cx_3.out⟩, ⟨Cy_3.out⟩, ⟨Cl_3.out⟩, ⟨Cm_3.out⟩, ⟨B_3.out⟩⟩
  case round =>
    obtain ⟨i, hi, hgg, rfl, HX, HY, HLL, HMM, HBL⟩ := hrel
    by_cases hlt : i < 2
    · have hltz : (i : Int) < 2 := by omega
      have Q0 := Lib.hid (Below.refl wr.heap.size wr)
      go_wp2_with fail
      refine start_ (n := 10) (S := fun w' => True) (ds := []) #[false, false, false, false, false, false, false, false, false, false] (by kernel_rfl) rfl rfl trivial (fun hHeld => ?_); refine with_tabW dredgelaw06_ClassesMix.tab7 dredgelaw06_ClassesMix.bits7 (fun HT_ HW_ => ?_)
      have hB := (Below.refl wr.heap.size wr).drew
      generalize wr.drew = w11 at hB hHeld ⊢
      have Cx_11 := Lib.hid (Kd.C_below HX.out hB)
      have Cy_11 := Lib.hid (Kd.C_below HY.out hB)
      have Cl_11 := Lib.hid (Kd.C_below HLL.out hB)
      have Cm_11 := Lib.hid (Kd.C_below HMM.out hB)
      have B_11 := Lib.hid (Q0.out.trans (hB.mono Q0.out.size))
      clear hB  
      refine pure_ (i := 0) (N := some 26) (v := ?_) (a' := ?_) #[true, false, false, false, false, false, false, false, false, false] rfl rfl (any_of HT_.out (by kernel_rfl)) (fun _ _ _ h => h) (Or.inl ⟨by rfl, ?_⟩) ?_ ?_
      rotate_left
      · intro w'
        go_simp
        with_reducible rfl
      rotate_left
      · simp only [Act.put, List.setIfInBounds_toArray, List.set_cons_zero, List.set_cons_succ, i64_w, i32_w]
        rfl
      refine pure_ (i := 1) (N := some 27) (v := ?_) (a' := ?_) #[true, true, false, false, false, false, false, false, false, false] rfl rfl (any_of HT_.out (by kernel_rfl)) (fun _ _ _ h => h) (Or.inl ⟨by rfl, ?_⟩) ?_ ?_
      rotate_left
      · intro w'
        go_simp
        with_reducible rfl
      rotate_left
      · simp only [Act.put, List.setIfInBounds_toArray, List.set_cons_zero, List.set_cons_succ, i64_w, i32_w]
        rfl
      refine pure_ (i := 2) (N := some 28) (v := ?_) (a' := ?_) #[true, true, true, false, false, false, false, false, false, false] rfl rfl (any_of HT_.out (by kernel_rfl)) (fun _ _ _ h => h) (Or.inl ⟨by rfl, ?_⟩) ?_ ?_
      rotate_left
      · intro w'
        go_simp
        with_reducible rfl
      rotate_left
      · simp only [Act.put, List.setIfInBounds_toArray, List.set_cons_zero, List.set_cons_succ, i64_w, i32_w]
        rfl
      refine pure_ (i := 3) (N := some 29) (v := ?_) (a' := ?_) #[true, true, true, true, false, false, false, false, false, false] rfl rfl (any_of HT_.out (by kernel_rfl)) (fun _ _ _ h => h) (Or.inl ⟨by rfl, ?_⟩) ?_ ?_
      rotate_left
      · intro w'
        go_simp
        with_reducible rfl
      rotate_left
      · simp only [Act.put, List.setIfInBounds_toArray, List.set_cons_zero, List.set_cons_succ, i64_w, i32_w]
        rfl
      refine pure_ (i := 4) (N := some 30) (v := ?_) (a' := ?_) #[true, true, true, true, true, false, false, false, false, false] rfl rfl (any_of HT_.out (by kernel_rfl)) (fun _ _ _ h => h) (Or.inl ⟨by rfl, ?_⟩) ?_ ?_
      rotate_left
      · intro w'
        go_simp
        with_reducible rfl
      rotate_left
      · simp only [Act.put, List.setIfInBounds_toArray, List.set_cons_zero, List.set_cons_succ, i64_w, i32_w]
        rfl
      refine pure_ (i := 5) (N := some 31) (v := ?_) (a' := ?_) #[true, true, true, true, true, true, false, false, false, false] rfl rfl (any_of HT_.out (by kernel_rfl)) (fun _ _ _ h => h) (Or.inl ⟨by rfl, ?_⟩) ?_ ?_
      rotate_left
      · intro w'
        go_simp
        with_reducible rfl
      rotate_left
      · simp only [Act.put, List.setIfInBounds_toArray, List.set_cons_zero, List.set_cons_succ, i64_w, i32_w]
        rfl
      refine pure_ (i := 6) (N := some 32) (v := ?_) (a' := ?_) #[true, true, true, true, true, true, true, false, false, false] rfl rfl (any_of HT_.out (by kernel_rfl)) (fun _ _ _ h => h) (Or.inl ⟨by rfl, ?_⟩) ?_ ?_
      rotate_left
      · intro w'
        go_simp
        with_reducible rfl
      rotate_left
      · simp only [Act.put, List.setIfInBounds_toArray, List.set_cons_zero, List.set_cons_succ, i64_w, i32_w]
        rfl
      refine pure_ (i := 7) (N := some 33) (v := ?_) (a' := ?_) #[true, true, true, true, true, true, true, true, false, false] rfl rfl (any_of HT_.out (by kernel_rfl)) (fun _ _ _ h => h) (Or.inl ⟨by rfl, ?_⟩) ?_ ?_
      rotate_left
      · intro w'
        go_simp
        with_reducible rfl
      rotate_left
      · simp only [Act.put, List.setIfInBounds_toArray, List.set_cons_zero, List.set_cons_succ, i64_w, i32_w]
        rfl
      refine one_ (i := 8) (N := some 34) #[true, true, true, true, true, true, true, true, true, false] rfl rfl (one_of HT_.out (by kernel_rfl)) (by decide) (fun K hK => ?_)
      refine goes_ Try.func31 (by kernel_rfl) rfl #[.slice Ax a.length cx, .slice Ay b.length cy] (by rfl) rfl rfl (by (try simp only [List.map_toArray, List.map_cons, List.map_nil]); first | done | rfl) ?_
      refine (classes_Or.calls Ax cx a Ay cy b _ w11 (C_head XX.out Cx_11.out) Ln.out (C_head YY.out Cy_11.out) Lm.out F1.out).mono ?_
      rintro e w12 ⟨va, rfl, hR, hB⟩
      have Cx_12 := Lib.hid (Kd.C_below Cx_11.out hB)
      have Cy_12 := Lib.hid (Kd.C_below Cy_11.out hB)
      have Cl_12 := Lib.hid (Kd.C_below Cl_11.out hB)
      have Cm_12 := Lib.hid (Kd.C_below Cm_11.out hB)
      have B_12 := Lib.hid (B_11.out.trans (hB.mono B_11.out.size))
      have Sa_12 := Lib.hid (Nat.le_refl w12.heap.size)
      obtain ⟨Aa, ca, rfl⟩ := Kd.R_slice hR
      have La := Lib.hid (rR hR).2.1
      have Ca_12 := Lib.hid (rR hR).2.2
      have Ta := Lib.hid (R_lt hR)
      have Ra_12 := Lib.hid (Kd.R_lower hR B_11.out.size)
      clear hB hR Cx_11 Cy_11 Cl_11 Cm_11 B_11
      refine ⟨_, rfl, ?_⟩
      clear hHeld
      refine hK.out _ _ trivial (fun hHeld => ?_)
      clear hK K
      refine norm_ (a' := ?_) ?_ ?_
      rotate_left
      · show Act.put _ (some 34) _ = _
        simp only [Act.put, List.setIfInBounds_toArray, List.set_cons_zero, List.set_cons_succ, i64_w, i32_w]
        rfl
      refine pure_ (i := 9) (N := some 9) (v := ?_) (a' := ?_) #[true, true, true, true, true, true, true, true, true, true] rfl rfl (any_of HT_.out (by kernel_rfl)) (fun _ _ _ h => h) (Or.inl ⟨by rfl, ?_⟩) ?_ ?_
      rotate_left
      · intro w'
        go_simp
        with_reducible rfl
      rotate_left
      · simp only [Act.put, List.setIfInBounds_toArray, List.set_cons_zero, List.set_cons_succ, i64_w, i32_w]
        rfl
      refine done_ (done_of HT_.out (by kernel_rfl)) ?_
      clear HT_ HW_ hHeld
      go_wp2_with fail
      refine start_ (n := 10) (S := fun w' => True) (ds := []) #[false, false, false, false, false, false, false, false, false, false] (by kernel_rfl) rfl rfl trivial (fun hHeld => ?_); refine with_tabW dredgelaw06_ClassesMix.tab8 dredgelaw06_ClassesMix.bits8 (fun HT_ HW_ => ?_)
      have hB := (Below.refl w12.heap.size w12).drew
      generalize w12.drew = w13 at hB hHeld ⊢
      have Cx_13 := Lib.hid (Kd.C_below Cx_12.out hB)
      have Cy_13 := Lib.hid (Kd.C_below Cy_12.out hB)
      have Cl_13 := Lib.hid (Kd.C_below Cl_12.out hB)
      have Cm_13 := Lib.hid (Kd.C_below Cm_12.out hB)
      have Ca_13 := Lib.hid (Kd.C_below Ca_12.out hB)
      have Ra_13 := Lib.hid (R_below Ra_12.out hB)
      have Sa_13 := Lib.hid (Nat.le_trans Sa_12.out hB.size)
      have B_13 := Lib.hid (B_12.out.trans (hB.mono B_12.out.size))
      clear hB  Cx_12 Cy_12 Cl_12 Cm_12 Ca_12 Ra_12 Sa_12 B_12
      refine pure_ (i := 0) (N := some 35) (v := ?_) (a' := ?_) #[true, false, false, false, false, false, false, false, false, false] rfl rfl (any_of HT_.out (by kernel_rfl)) (fun _ _ _ h => h) (Or.inl ⟨by rfl, ?_⟩) ?_ ?_
      rotate_left
      · intro w'
        go_simp
        with_reducible rfl
      rotate_left
      · simp only [Act.put, List.setIfInBounds_toArray, List.set_cons_zero, List.set_cons_succ, i64_w, i32_w]
        rfl
      refine pure_ (i := 1) (N := some 36) (v := ?_) (a' := ?_) #[true, true, false, false, false, false, false, false, false, false] rfl rfl (any_of HT_.out (by kernel_rfl)) (fun _ _ _ h => h) (Or.inl ⟨by rfl, ?_⟩) ?_ ?_
      rotate_left
      · intro w'
        go_simp
        with_reducible rfl
      rotate_left
      · simp only [Act.put, List.setIfInBounds_toArray, List.set_cons_zero, List.set_cons_succ, i64_w, i32_w]
        rfl
      refine pure_ (i := 2) (N := some 37) (v := ?_) (a' := ?_) #[true, true, true, false, false, false, false, false, false, false] rfl rfl (any_of HT_.out (by kernel_rfl)) (fun _ _ _ h => h) (Or.inl ⟨by rfl, ?_⟩) ?_ ?_
      rotate_left
      · intro w'
        go_simp
        with_reducible rfl
      rotate_left
      · simp only [Act.put, List.setIfInBounds_toArray, List.set_cons_zero, List.set_cons_succ, i64_w, i32_w]
        rfl
      refine pure_ (i := 3) (N := some 38) (v := ?_) (a' := ?_) #[true, true, true, true, false, false, false, false, false, false] rfl rfl (any_of HT_.out (by kernel_rfl)) (fun _ _ _ h => h) (Or.inl ⟨by rfl, ?_⟩) ?_ ?_
      rotate_left
      · intro w'
        go_simp
        with_reducible rfl
      rotate_left
      · simp only [Act.put, List.setIfInBounds_toArray, List.set_cons_zero, List.set_cons_succ, i64_w, i32_w]
        rfl
      refine pure_ (i := 4) (N := some 39) (v := ?_) (a' := ?_) #[true, true, true, true, true, false, false, false, false, false] rfl rfl (any_of HT_.out (by kernel_rfl)) (fun _ _ _ h => h) (Or.inl ⟨by rfl, ?_⟩) ?_ ?_
      rotate_left
      · intro w'
        go_simp
        with_reducible rfl
      rotate_left
      · simp only [Act.put, List.setIfInBounds_toArray, List.set_cons_zero, List.set_cons_succ, i64_w, i32_w]
        rfl
      refine pure_ (i := 5) (N := some 40) (v := ?_) (a' := ?_) #[true, true, true, true, true, true, false, false, false, false] rfl rfl (any_of HT_.out (by kernel_rfl)) (fun _ _ _ h => h) (Or.inl ⟨by rfl, ?_⟩) ?_ ?_
      rotate_left
      · intro w'
        go_simp
        with_reducible rfl
      rotate_left
      · simp only [Act.put, List.setIfInBounds_toArray, List.set_cons_zero, List.set_cons_succ, i64_w, i32_w]
        rfl
      refine pure_ (i := 6) (N := some 41) (v := ?_) (a' := ?_) #[true, true, true, true, true, true, true, false, false, false] rfl rfl (any_of HT_.out (by kernel_rfl)) (fun _ _ _ h => h) (Or.inl ⟨by rfl, ?_⟩) ?_ ?_
      rotate_left
      · intro w'
        go_simp
        with_reducible rfl
      rotate_left
      · simp only [Act.put, List.setIfInBounds_toArray, List.set_cons_zero, List.set_cons_succ, i64_w, i32_w]
        rfl
      refine pure_ (i := 7) (N := some 42) (v := ?_) (a' := ?_) #[true, true, true, true, true, true, true, true, false, false] rfl rfl (any_of HT_.out (by kernel_rfl)) (fun _ _ _ h => h) (Or.inl ⟨by rfl, ?_⟩) ?_ ?_
      rotate_left
      · intro w'
        go_simp
        with_reducible rfl
      rotate_left
      · simp only [Act.put, List.setIfInBounds_toArray, List.set_cons_zero, List.set_cons_succ, i64_w, i32_w]
        rfl
      refine one_ (i := 8) (N := some 43) #[true, true, true, true, true, true, true, true, true, false] rfl rfl (one_of HT_.out (by kernel_rfl)) (by decide) (fun K hK => ?_)
      refine goes_ Try.func32 (by kernel_rfl) rfl #[.slice Ax a.length cx, .slice Ay b.length cy] (by rfl) rfl rfl (by (try simp only [List.map_toArray, List.map_cons, List.map_nil]); first | done | rfl) ?_
      refine (classes_And.calls k2 Ax cx a Ay cy b _ w13 (C_head XX.out Cx_13.out) Ln.out (C_head YY.out Cy_13.out) Lm.out F2.out).mono ?_
      rintro e w14 ⟨vb, rfl, hR, hB⟩
      have Zab := Lib.hid Sa_13.out
      have Cx_14 := Lib.hid (Kd.C_below Cx_13.out hB)
      have Cy_14 := Lib.hid (Kd.C_below Cy_13.out hB)
      have Cl_14 := Lib.hid (Kd.C_below Cl_13.out hB)
      have Cm_14 := Lib.hid (Kd.C_below Cm_13.out hB)
      have Ca_14 := Lib.hid (Kd.C_below Ca_13.out hB)
      have Ra_14 := Lib.hid (R_below Ra_13.out hB)
      have Sa_14 := Lib.hid (Nat.le_trans Sa_13.out hB.size)
      have B_14 := Lib.hid (B_13.out.trans (hB.mono B_13.out.size))
      have Sb_14 := Lib.hid (Nat.le_refl w14.heap.size)
      obtain ⟨Ab, cb, rfl⟩ := Kd.R_slice hR
      have Lb := Lib.hid (rR hR).2.1
      have Cb_14 := Lib.hid (rR hR).2.2
      have Tb := Lib.hid (R_lt hR)
      have Rb_14 := Lib.hid (Kd.R_lower hR B_13.out.size)
      clear hB hR Cx_13 Cy_13 Cl_13 Cm_13 Ca_13 Ra_13 Sa_13 B_13
      refine ⟨_, rfl, ?_⟩
      clear hHeld
      refine hK.out _ _ trivial (fun hHeld => ?_)
      clear hK K
      refine norm_ (a' := ?_) ?_ ?_
      rotate_left
      · show Act.put _ (some 43) _ = _
        simp only [Act.put, List.setIfInBounds_toArray, List.set_cons_zero, List.set_cons_succ, i64_w, i32_w]
        rfl
      refine pure_ (i := 9) (N := some 10) (v := ?_) (a' := ?_) #[true, true, true, true, true, true, true, true, true, true] rfl rfl (any_of HT_.out (by kernel_rfl)) (fun _ _ _ h => h) (Or.inl ⟨by rfl, ?_⟩) ?_ ?_
      rotate_left
      · intro w'
        go_simp
        with_reducible rfl
      rotate_left
      · simp only [Act.put, List.setIfInBounds_toArray, List.set_cons_zero, List.set_cons_succ, i64_w, i32_w]
        rfl
      refine done_ (done_of HT_.out (by kernel_rfl)) ?_
      clear HT_ HW_ hHeld
      go_wp2_with fail
      refine start_ (n := 10) (S := fun w' => True) (ds := []) #[false, false, false, false, false, false, false, false, false, false] (by kernel_rfl) rfl rfl trivial (fun hHeld => ?_); refine with_tabW dredgelaw06_ClassesMix.tab9 dredgelaw06_ClassesMix.bits9 (fun HT_ HW_ => ?_)
      have hB := (Below.refl w14.heap.size w14).drew
      generalize w14.drew = w15 at hB hHeld ⊢
      have Cx_15 := Lib.hid (Kd.C_below Cx_14.out hB)
      have Cy_15 := Lib.hid (Kd.C_below Cy_14.out hB)
      have Cl_15 := Lib.hid (Kd.C_below Cl_14.out hB)
      have Cm_15 := Lib.hid (Kd.C_below Cm_14.out hB)
      have Ca_15 := Lib.hid (Kd.C_below Ca_14.out hB)
      have Cb_15 := Lib.hid (Kd.C_below Cb_14.out hB)
      have Ra_15 := Lib.hid (R_below Ra_14.out hB)
      have Rb_15 := Lib.hid (R_below Rb_14.out hB)
      have Sa_15 := Lib.hid (Nat.le_trans Sa_14.out hB.size)
      have Sb_15 := Lib.hid (Nat.le_trans Sb_14.out hB.size)
      have B_15 := Lib.hid (B_14.out.trans (hB.mono B_14.out.size))
      clear hB  Cx_14 Cy_14 Cl_14 Cm_14 Ca_14 Cb_14 Ra_14 Rb_14 Sa_14 Sb_14 B_14
      refine pure_ (i := 0) (N := some 44) (v := ?_) (a' := ?_) #[true, false, false, false, false, false, false, false, false, false] rfl rfl (any_of HT_.out (by kernel_rfl)) (fun _ _ _ h => h) (Or.inl ⟨by rfl, ?_⟩) ?_ ?_
      rotate_left
      · intro w'
        go_simp
        with_reducible rfl
      rotate_left
      · simp only [Act.put, List.setIfInBounds_toArray, List.set_cons_zero, List.set_cons_succ, i64_w, i32_w]
        rfl
      refine pure_ (i := 1) (N := some 45) (v := ?_) (a' := ?_) #[true, true, false, false, false, false, false, false, false, false] rfl rfl (any_of HT_.out (by kernel_rfl)) (fun _ _ _ h => h) (Or.inl ⟨by rfl, ?_⟩) ?_ ?_
      rotate_left
      · intro w'
        go_simp
        with_reducible rfl
      rotate_left
      · simp only [Act.put, List.setIfInBounds_toArray, List.set_cons_zero, List.set_cons_succ, i64_w, i32_w]
        rfl
      refine pure_ (i := 2) (N := some 46) (v := ?_) (a' := ?_) #[true, true, true, false, false, false, false, false, false, false] rfl rfl (any_of HT_.out (by kernel_rfl)) (fun _ _ _ h => h) (Or.inl ⟨by rfl, ?_⟩) ?_ ?_
      rotate_left
      · intro w'
        go_simp
        with_reducible rfl
      rotate_left
      · simp only [Act.put, List.setIfInBounds_toArray, List.set_cons_zero, List.set_cons_succ, i64_w, i32_w]
        rfl
      refine pure_ (i := 3) (N := some 47) (v := ?_) (a' := ?_) #[true, true, true, true, false, false, false, false, false, false] rfl rfl (any_of HT_.out (by kernel_rfl)) (fun _ _ _ h => h) (Or.inl ⟨by rfl, ?_⟩) ?_ ?_
      rotate_left
      · intro w'
        go_simp
        with_reducible rfl
      rotate_left
      · simp only [Act.put, List.setIfInBounds_toArray, List.set_cons_zero, List.set_cons_succ, i64_w, i32_w]
        rfl
      refine pure_ (i := 4) (N := some 48) (v := ?_) (a' := ?_) #[true, true, true, true, true, false, false, false, false, false] rfl rfl (any_of HT_.out (by kernel_rfl)) (fun _ _ _ h => h) (Or.inl ⟨by rfl, ?_⟩) ?_ ?_
      rotate_left
      · intro w'
        go_simp
        with_reducible rfl
      rotate_left
      · simp only [Act.put, List.setIfInBounds_toArray, List.set_cons_zero, List.set_cons_succ, i64_w, i32_w]
        rfl
      refine pure_ (i := 5) (N := some 49) (v := ?_) (a' := ?_) #[true, true, true, true, true, true, false, false, false, false] rfl rfl (any_of HT_.out (by kernel_rfl)) (fun _ _ _ h => h) (Or.inl ⟨by rfl, ?_⟩) ?_ ?_
      rotate_left
      · intro w'
        go_simp
        with_reducible rfl
      rotate_left
      · simp only [Act.put, List.setIfInBounds_toArray, List.set_cons_zero, List.set_cons_succ, i64_w, i32_w]
        rfl
      refine pure_ (i := 6) (N := some 50) (v := ?_) (a' := ?_) #[true, true, true, true, true, true, true, false, false, false] rfl rfl (any_of HT_.out (by kernel_rfl)) (fun _ _ _ h => h) (Or.inl ⟨by rfl, ?_⟩) ?_ ?_
      rotate_left
      · intro w'
        go_simp
        with_reducible rfl
      rotate_left
      · simp only [Act.put, List.setIfInBounds_toArray, List.set_cons_zero, List.set_cons_succ, i64_w, i32_w]
        rfl
      refine pure_ (i := 7) (N := some 51) (v := ?_) (a' := ?_) #[true, true, true, true, true, true, true, true, false, false] rfl rfl (any_of HT_.out (by kernel_rfl)) (fun _ _ _ h => h) (Or.inl ⟨by rfl, ?_⟩) ?_ ?_
      rotate_left
      · intro w'
        go_simp
        with_reducible rfl
      rotate_left
      · simp only [Act.put, List.setIfInBounds_toArray, List.set_cons_zero, List.set_cons_succ, i64_w, i32_w]
        rfl
      refine one_ (i := 8) (N := some 52) #[true, true, true, true, true, true, true, true, true, false] rfl rfl (one_of HT_.out (by kernel_rfl)) (by decide) (fun K hK => ?_)
      refine goes_ Try.func33 (by kernel_rfl) rfl #[.slice Ax a.length cx, .slice Ay b.length cy] (by rfl) rfl rfl (by (try simp only [List.map_toArray, List.map_cons, List.map_nil]); first | done | rfl) ?_
      refine (classes_Less.calls k1 Ax cx a Ay cy b _ w15 (C_head XX.out Cx_15.out) Ln.out (C_head YY.out Cy_15.out) Lm.out F3.out).mono ?_
      rintro e w16 ⟨vc, rfl, hR, hB⟩
      have Zac := Lib.hid Sa_15.out
      have Zbc := Lib.hid Sb_15.out
      have Cx_16 := Lib.hid (Kd.C_below Cx_15.out hB)
      have Cy_16 := Lib.hid (Kd.C_below Cy_15.out hB)
      have Cl_16 := Lib.hid (Kd.C_below Cl_15.out hB)
      have Cm_16 := Lib.hid (Kd.C_below Cm_15.out hB)
      have Ca_16 := Lib.hid (Kd.C_below Ca_15.out hB)
      have Cb_16 := Lib.hid (Kd.C_below Cb_15.out hB)
      have Ra_16 := Lib.hid (R_below Ra_15.out hB)
      have Rb_16 := Lib.hid (R_below Rb_15.out hB)
      have Sa_16 := Lib.hid (Nat.le_trans Sa_15.out hB.size)
      have Sb_16 := Lib.hid (Nat.le_trans Sb_15.out hB.size)
      have B_16 := Lib.hid (B_15.out.trans (hB.mono B_15.out.size))
      have Sc_16 := Lib.hid (Nat.le_refl w16.heap.size)
      obtain ⟨Ac, cc, rfl⟩ := Kd.R_slice hR
      have Lc := Lib.hid (rR hR).2.1
      have Cc_16 := Lib.hid (rR hR).2.2
      have Tc := Lib.hid (R_lt hR)
      have Rc_16 := Lib.hid (Kd.R_lower hR B_15.out.size)
      clear hB hR Cx_15 Cy_15 Cl_15 Cm_15 Ca_15 Cb_15 Ra_15 Rb_15 Sa_15 Sb_15 B_15
      refine ⟨_, rfl, ?_⟩
      clear hHeld
      refine hK.out _ _ trivial (fun hHeld => ?_)
      clear hK K
      refine norm_ (a' := ?_) ?_ ?_
      rotate_left
      · show Act.put _ (some 52) _ = _
        simp only [Act.put, List.setIfInBounds_toArray, List.set_cons_zero, List.set_cons_succ, i64_w, i32_w]
        rfl
      refine pure_ (i := 9) (N := some 11) (v := ?_) (a' := ?_) #[true, true, true, true, true, true, true, true, true, true] rfl rfl (any_of HT_.out (by kernel_rfl)) (fun _ _ _ h => h) (Or.inl ⟨by rfl, ?_⟩) ?_ ?_
      rotate_left
      · intro w'
        go_simp
        with_reducible rfl
      rotate_left
      · simp only [Act.put, List.setIfInBounds_toArray, List.set_cons_zero, List.set_cons_succ, i64_w, i32_w]
        rfl
      refine done_ (done_of HT_.out (by kernel_rfl)) ?_
      clear HT_ HW_ hHeld
      go_wp2_with fail
      refine (dredgeref06_Or.calls k3 A0 c0 a A1 c1 b _ w16 Cl_16.out HC0.out Cm_16.out HC1.out G1.out).mono ?_
      rintro e w17 ⟨vr, rfl, hR, hB⟩
      have Cx_17 := Lib.hid (Kd.C_below Cx_16.out hB)
      have Cy_17 := Lib.hid (Kd.C_below Cy_16.out hB)
      have Cl_17 := Lib.hid (Kd.C_below Cl_16.out hB)
      have Cm_17 := Lib.hid (Kd.C_below Cm_16.out hB)
      have Ca_17 := Lib.hid (Kd.C_below Ca_16.out hB)
      have Cb_17 := Lib.hid (Kd.C_below Cb_16.out hB)
      have Cc_17 := Lib.hid (Kd.C_below Cc_16.out hB)
      have Ra_17 := Lib.hid (R_below Ra_16.out hB)
      have Rb_17 := Lib.hid (R_below Rb_16.out hB)
      have Rc_17 := Lib.hid (R_below Rc_16.out hB)
      have Sa_17 := Lib.hid (Nat.le_trans Sa_16.out hB.size)
      have Sb_17 := Lib.hid (Nat.le_trans Sb_16.out hB.size)
      have Sc_17 := Lib.hid (Nat.le_trans Sc_16.out hB.size)
      have B_17 := Lib.hid (B_16.out.trans (hB.mono B_16.out.size))
      obtain ⟨Ar, cr, rfl⟩ := Kd.R_slice hR
      have Lr := Lib.hid (rR hR).2.1
      have Cr_17 := Lib.hid (rR hR).2.2
      clear hB hR Cx_16 Cy_16 Cl_16 Cm_16 Ca_16 Cb_16 Cc_16 Ra_16 Rb_16 Rc_16 Sa_16 Sb_16 Sc_16 B_16
      go_wp2_with fail
      refine (dredgeref06_Alike.calls k6 Aa ca N Ar cr N true w17 Ca_17.out La.out Cr_17.out Lr.out Al1.out).mono ?_
      rintro e w18 ⟨rfl, hD⟩
      have hB := B_drawn (Below.refl w17.heap.size w17) hD
      have Cx_18 := Lib.hid (Kd.C_below Cx_17.out hB)
      have Cy_18 := Lib.hid (Kd.C_below Cy_17.out hB)
      have Cl_18 := Lib.hid (Kd.C_below Cl_17.out hB)
      have Cm_18 := Lib.hid (Kd.C_below Cm_17.out hB)
      have Ca_18 := Lib.hid (Kd.C_below Ca_17.out hB)
      have Cb_18 := Lib.hid (Kd.C_below Cb_17.out hB)
      have Cc_18 := Lib.hid (Kd.C_below Cc_17.out hB)
      have Cr_18 := Lib.hid (Kd.C_below Cr_17.out hB)
      have Ra_18 := Lib.hid (R_below Ra_17.out hB)
      have Rb_18 := Lib.hid (R_below Rb_17.out hB)
      have Rc_18 := Lib.hid (R_below Rc_17.out hB)
      have Sa_18 := Lib.hid (Nat.le_trans Sa_17.out hB.size)
      have Sb_18 := Lib.hid (Nat.le_trans Sb_17.out hB.size)
      have Sc_18 := Lib.hid (Nat.le_trans Sc_17.out hB.size)
      have B_18 := Lib.hid (B_17.out.trans (hB.mono B_17.out.size))
      clear hB hD Cx_17 Cy_17 Cl_17 Cm_17 Ca_17 Cb_17 Cc_17 Cr_17 Ra_17 Rb_17 Rc_17 Sa_17 Sb_17 Sc_17 B_17
      clear Cr_18 Lr Ca_18 La
      go_wp2_with fail
      refine (dredgeref06_And.calls k4 A0 c0 a A1 c1 b _ w18 Cl_18.out HC0.out Cm_18.out HC1.out G2.out).mono ?_
      rintro e w19 ⟨vr, rfl, hR, hB⟩
      have Cx_19 := Lib.hid (Kd.C_below Cx_18.out hB)
      have Cy_19 := Lib.hid (Kd.C_below Cy_18.out hB)
      have Cl_19 := Lib.hid (Kd.C_below Cl_18.out hB)
      have Cm_19 := Lib.hid (Kd.C_below Cm_18.out hB)
      have Cb_19 := Lib.hid (Kd.C_below Cb_18.out hB)
      have Cc_19 := Lib.hid (Kd.C_below Cc_18.out hB)
      have Ra_19 := Lib.hid (R_below Ra_18.out hB)
      have Rb_19 := Lib.hid (R_below Rb_18.out hB)
      have Rc_19 := Lib.hid (R_below Rc_18.out hB)
      have Sa_19 := Lib.hid (Nat.le_trans Sa_18.out hB.size)
      have Sb_19 := Lib.hid (Nat.le_trans Sb_18.out hB.size)
      have Sc_19 := Lib.hid (Nat.le_trans Sc_18.out hB.size)
      have B_19 := Lib.hid (B_18.out.trans (hB.mono B_18.out.size))
      obtain ⟨Ar, cr, rfl⟩ := Kd.R_slice hR
      have Lr := Lib.hid (rR hR).2.1
      have Cr_19 := Lib.hid (rR hR).2.2
      clear hB hR Cx_18 Cy_18 Cl_18 Cm_18 Cb_18 Cc_18 Ra_18 Rb_18 Rc_18 Sa_18 Sb_18 Sc_18 B_18
      go_wp2_with fail
      refine (dredgeref06_Alike.calls k7 Ab cb O Ar cr O true w19 Cb_19.out Lb.out Cr_19.out Lr.out Al2.out).mono ?_
      rintro e w20 ⟨rfl, hD⟩
      have hB := B_drawn (Below.refl w19.heap.size w19) hD
      have Cx_20 := Lib.hid (Kd.C_below Cx_19.out hB)
      have Cy_20 := Lib.hid (Kd.C_below Cy_19.out hB)
      have Cl_20 := Lib.hid (Kd.C_below Cl_19.out hB)
      have Cm_20 := Lib.hid (Kd.C_below Cm_19.out hB)
      have Cb_20 := Lib.hid (Kd.C_below Cb_19.out hB)
      have Cc_20 := Lib.hid (Kd.C_below Cc_19.out hB)
      have Cr_20 := Lib.hid (Kd.C_below Cr_19.out hB)
      have Ra_20 := Lib.hid (R_below Ra_19.out hB)
      have Rb_20 := Lib.hid (R_below Rb_19.out hB)
      have Rc_20 := Lib.hid (R_below Rc_19.out hB)
      have Sa_20 := Lib.hid (Nat.le_trans Sa_19.out hB.size)
      have Sb_20 := Lib.hid (Nat.le_trans Sb_19.out hB.size)
      have Sc_20 := Lib.hid (Nat.le_trans Sc_19.out hB.size)
      have B_20 := Lib.hid (B_19.out.trans (hB.mono B_19.out.size))
      clear hB hD Cx_19 Cy_19 Cl_19 Cm_19 Cb_19 Cc_19 Cr_19 Ra_19 Rb_19 Rc_19 Sa_19 Sb_19 Sc_19 B_19
      clear Cr_20 Lr Cb_20 Lb
      go_wp2_with fail
      refine (dredgeref06_Less.calls k5 A0 c0 a A1 c1 b _ w20 Cl_20.out HC0.out Cm_20.out HC1.out G3.out).mono ?_
      rintro e w21 ⟨vr, rfl, hR, hB⟩
      have Cx_21 := Lib.hid (Kd.C_below Cx_20.out hB)
      have Cy_21 := Lib.hid (Kd.C_below Cy_20.out hB)
      have Cl_21 := Lib.hid (Kd.C_below Cl_20.out hB)
      have Cm_21 := Lib.hid (Kd.C_below Cm_20.out hB)
      have Cc_21 := Lib.hid (Kd.C_below Cc_20.out hB)
      have Ra_21 := Lib.hid (R_below Ra_20.out hB)
      have Rb_21 := Lib.hid (R_below Rb_20.out hB)
      have Rc_21 := Lib.hid (R_below Rc_20.out hB)
      have Sa_21 := Lib.hid (Nat.le_trans Sa_20.out hB.size)
      have Sb_21 := Lib.hid (Nat.le_trans Sb_20.out hB.size)
      have Sc_21 := Lib.hid (Nat.le_trans Sc_20.out hB.size)
      have B_21 := Lib.hid (B_20.out.trans (hB.mono B_20.out.size))
      obtain ⟨Ar, cr, rfl⟩ := Kd.R_slice hR
      have Lr := Lib.hid (rR hR).2.1
      have Cr_21 := Lib.hid (rR hR).2.2
      clear hB hR Cx_20 Cy_20 Cl_20 Cm_20 Cc_20 Ra_20 Rb_20 Rc_20 Sa_20 Sb_20 Sc_20 B_20
      go_wp2_with fail
      refine (dredgeref06_Alike.calls k8 Ac cc F Ar cr F true w21 Cc_21.out Lc.out Cr_21.out Lr.out Al3.out).mono ?_
      rintro e w22 ⟨rfl, hD⟩
      have hB := B_drawn (Below.refl w21.heap.size w21) hD
      have Cx_22 := Lib.hid (Kd.C_below Cx_21.out hB)
      have Cy_22 := Lib.hid (Kd.C_below Cy_21.out hB)
      have Cl_22 := Lib.hid (Kd.C_below Cl_21.out hB)
      have Cm_22 := Lib.hid (Kd.C_below Cm_21.out hB)
      have Cc_22 := Lib.hid (Kd.C_below Cc_21.out hB)
      have Cr_22 := Lib.hid (Kd.C_below Cr_21.out hB)
      have Ra_22 := Lib.hid (R_below Ra_21.out hB)
      have Rb_22 := Lib.hid (R_below Rb_21.out hB)
      have Rc_22 := Lib.hid (R_below Rc_21.out hB)
      have Sa_22 := Lib.hid (Nat.le_trans Sa_21.out hB.size)
      have Sb_22 := Lib.hid (Nat.le_trans Sb_21.out hB.size)
      have Sc_22 := Lib.hid (Nat.le_trans Sc_21.out hB.size)
      have B_22 := Lib.hid (B_21.out.trans (hB.mono B_21.out.size))
      clear hB hD Cx_21 Cy_21 Cl_21 Cm_21 Cc_21 Cr_21 Ra_21 Rb_21 Rc_21 Sa_21 Sb_21 Sc_21 B_21
      clear Cr_22 Lr Cc_22 Lc
      go_wp2_with fail
      refine start_ (n := 25) (S := fun w' => True) (ds := []) #[false, false, false, false, false, false, false, false, false, false, false, false, false, false, false, false, false, false, false, false, false, false, false, false, false] (by kernel_rfl) rfl rfl trivial (fun hHeld => ?_); refine with_tabW dredgelaw06_ClassesMix.tab13 dredgelaw06_ClassesMix.bits13 (fun HT_ HW_ => ?_)
      have hB := (Below.refl w22.heap.size w22).drew
      generalize w22.drew = w23 at hB hHeld ⊢
      have Cx_23 := Lib.hid (Kd.C_below Cx_22.out hB)
      have Cy_23 := Lib.hid (Kd.C_below Cy_22.out hB)
      have Cl_23 := Lib.hid (Kd.C_below Cl_22.out hB)
      have Cm_23 := Lib.hid (Kd.C_below Cm_22.out hB)
      have Ra_23 := Lib.hid (R_below Ra_22.out hB)
      have Rb_23 := Lib.hid (R_below Rb_22.out hB)
      have Rc_23 := Lib.hid (R_below Rc_22.out hB)
      have Sa_23 := Lib.hid (Nat.le_trans Sa_22.out hB.size)
      have Sb_23 := Lib.hid (Nat.le_trans Sb_22.out hB.size)
      have Sc_23 := Lib.hid (Nat.le_trans Sc_22.out hB.size)
      have B_23 := Lib.hid (B_22.out.trans (hB.mono B_22.out.size))
      clear hB  Cx_22 Cy_22 Cl_22 Cm_22 Ra_22 Rb_22 Rc_22 Sa_22 Sb_22 Sc_22 B_22
      refine pure_ (i := 0) (N := some 68) (v := ?_) (a' := ?_) #[true, false, false, false, false, false, false, false, false, false, false, false, false, false, false, false, false, false, false, false, false, false, false, false, false] rfl rfl (any_of HT_.out (by kernel_rfl)) (fun _ _ _ h => h) (Or.inl ⟨by rfl, ?_⟩) ?_ ?_
      rotate_left
      · intro w'
        go_simp
        with_reducible rfl
      rotate_left
      · simp only [Act.put, List.setIfInBounds_toArray, List.set_cons_zero, List.set_cons_succ, i64_w, i32_w]
        rfl
      refine pure_ (i := 1) (N := some 69) (v := ?_) (a' := ?_) #[true, true, false, false, false, false, false, false, false, false, false, false, false, false, false, false, false, false, false, false, false, false, false, false, false] rfl rfl (any_of HT_.out (by kernel_rfl)) (fun _ _ _ h => h) (Or.inl ⟨by rfl, ?_⟩) ?_ ?_
      rotate_left
      · intro w'
        go_simp
        with_reducible rfl
      rotate_left
      · simp only [Act.put, List.setIfInBounds_toArray, List.set_cons_zero, List.set_cons_succ, i64_w, i32_w]
        rfl
      refine pure_ (i := 2) (N := some 70) (v := ?_) (a' := ?_) #[true, true, true, false, false, false, false, false, false, false, false, false, false, false, false, false, false, false, false, false, false, false, false, false, false] rfl rfl (any_of HT_.out (by kernel_rfl)) (fun _ _ _ h => h) (Or.inl ⟨by rfl, ?_⟩) ?_ ?_
      rotate_left
      · intro w'
        go_simp
        with_reducible rfl
      rotate_left
      · simp only [Act.put, List.setIfInBounds_toArray, List.set_cons_zero, List.set_cons_succ, i64_w, i32_w]
        rfl
      refine pure_ (i := 3) (N := some 71) (v := ?_) (a' := ?_) #[true, true, true, true, false, false, false, false, false, false, false, false, false, false, false, false, false, false, false, false, false, false, false, false, false] rfl rfl (any_of HT_.out (by kernel_rfl)) (fun _ _ _ h => h) (Or.inl ⟨by rfl, ?_⟩) ?_ ?_
      rotate_left
      · intro w'
        go_simp
        with_reducible rfl
      rotate_left
      · simp only [Act.put, List.setIfInBounds_toArray, List.set_cons_zero, List.set_cons_succ, i64_w, i32_w]
        rfl
      refine pure_ (i := 4) (N := some 72) (v := ?_) (a' := ?_) #[true, true, true, true, true, false, false, false, false, false, false, false, false, false, false, false, false, false, false, false, false, false, false, false, false] rfl rfl (any_of HT_.out (by kernel_rfl)) (fun _ _ _ h => h) (Or.inl ⟨by rfl, ?_⟩) ?_ ?_
      rotate_left
      · intro w'
        go_simp
        with_reducible rfl
      rotate_left
      · simp only [Act.put, List.setIfInBounds_toArray, List.set_cons_zero, List.set_cons_succ, i64_w, i32_w]
        rfl
      refine pure_ (i := 5) (N := some 73) (v := ?_) (a' := ?_) #[true, true, true, true, true, true, false, false, false, false, false, false, false, false, false, false, false, false, false, false, false, false, false, false, false] rfl rfl (any_of HT_.out (by kernel_rfl)) (fun _ _ _ h => h) (Or.inl ⟨by rfl, ?_⟩) ?_ ?_
      rotate_left
      · intro w'
        go_simp
        with_reducible rfl
      rotate_left
      · simp only [Act.put, List.setIfInBounds_toArray, List.set_cons_zero, List.set_cons_succ, i64_w, i32_w]
        rfl
      refine pure_ (i := 6) (N := some 74) (v := ?_) (a' := ?_) #[true, true, true, true, true, true, true, false, false, false, false, false, false, false, false, false, false, false, false, false, false, false, false, false, false] rfl rfl (any_of HT_.out (by kernel_rfl)) (fun _ _ _ h => h) (Or.inl ⟨by rfl, ?_⟩) ?_ ?_
      rotate_left
      · intro w'
        go_simp
        with_reducible rfl
      rotate_left
      · simp only [Act.put, List.setIfInBounds_toArray, List.set_cons_zero, List.set_cons_succ, i64_w, i32_w]
        rfl
      refine pure_ (i := 7) (N := some 75) (v := ?_) (a' := ?_) #[true, true, true, true, true, true, true, true, false, false, false, false, false, false, false, false, false, false, false, false, false, false, false, false, false] rfl rfl (any_of HT_.out (by kernel_rfl)) (fun _ _ _ h => h) (Or.inl ⟨by rfl, ?_⟩) ?_ ?_
      rotate_left
      · intro w'
        go_simp
        with_reducible rfl
      rotate_left
      · simp only [Act.put, List.setIfInBounds_toArray, List.set_cons_zero, List.set_cons_succ, i64_w, i32_w]
        rfl
      refine pure_ (i := 8) (N := some 76) (v := ?_) (a' := ?_) #[true, true, true, true, true, true, true, true, true, false, false, false, false, false, false, false, false, false, false, false, false, false, false, false, false] rfl rfl (any_of HT_.out (by kernel_rfl)) (fun _ _ _ h => h) (Or.inl ⟨by rfl, ?_⟩) ?_ ?_
      rotate_left
      · intro w'
        go_simp
        with_reducible rfl
      rotate_left
      · simp only [Act.put, List.setIfInBounds_toArray, List.set_cons_zero, List.set_cons_succ, i64_w, i32_w]
        rfl
      refine pure_ (i := 9) (N := some 77) (v := ?_) (a' := ?_) #[true, true, true, true, true, true, true, true, true, true, false, false, false, false, false, false, false, false, false, false, false, false, false, false, false] rfl rfl (any_of HT_.out (by kernel_rfl)) (fun _ _ _ h => h) (Or.inl ⟨by rfl, ?_⟩) ?_ ?_
      rotate_left
      · intro w'
        go_simp
        with_reducible rfl
      rotate_left
      · simp only [Act.put, List.setIfInBounds_toArray, List.set_cons_zero, List.set_cons_succ, i64_w, i32_w]
        rfl
      refine pure_ (i := 10) (N := some 78) (v := ?_) (a' := ?_) #[true, true, true, true, true, true, true, true, true, true, true, false, false, false, false, false, false, false, false, false, false, false, false, false, false] rfl rfl (any_of HT_.out (by kernel_rfl)) (fun _ _ _ h => h) (Or.inl ⟨by rfl, ?_⟩) ?_ ?_
      rotate_left
      · intro w'
        go_simp
        with_reducible rfl
      rotate_left
      · simp only [Act.put, List.setIfInBounds_toArray, List.set_cons_zero, List.set_cons_succ, i64_w, i32_w]
        rfl
      refine pure_ (i := 11) (N := some 79) (v := ?_) (a' := ?_) #[true, true, true, true, true, true, true, true, true, true, true, true, false, false, false, false, false, false, false, false, false, false, false, false, false] rfl rfl (any_of HT_.out (by kernel_rfl)) (fun _ _ _ h => h) (Or.inl ⟨by rfl, ?_⟩) ?_ ?_
      rotate_left
      · intro w'
        go_simp
        with_reducible rfl
      rotate_left
      · simp only [Act.put, List.setIfInBounds_toArray, List.set_cons_zero, List.set_cons_succ, i64_w, i32_w]
        rfl
      refine pure_ (i := 12) (N := some 80) (v := ?_) (a' := ?_) #[true, true, true, true, true, true, true, true, true, true, true, true, true, false, false, false, false, false, false, false, false, false, false, false, false] rfl rfl (any_of HT_.out (by kernel_rfl)) (fun _ _ _ h => h) (Or.inl ⟨by rfl, ?_⟩) ?_ ?_
      rotate_left
      · intro w'
        go_simp
        with_reducible rfl
      rotate_left
      · simp only [Act.put, List.setIfInBounds_toArray, List.set_cons_zero, List.set_cons_succ, i64_w, i32_w]
        rfl
      refine pure_ (i := 13) (N := some 81) (v := ?_) (a' := ?_) #[true, true, true, true, true, true, true, true, true, true, true, true, true, true, false, false, false, false, false, false, false, false, false, false, false] rfl rfl (any_of HT_.out (by kernel_rfl)) (fun _ _ _ h => h) (Or.inl ⟨by rfl, ?_⟩) ?_ ?_
      rotate_left
      · intro w'
        go_simp
        with_reducible rfl
      rotate_left
      · simp only [Act.put, List.setIfInBounds_toArray, List.set_cons_zero, List.set_cons_succ, i64_w, i32_w]
        rfl
      refine pure_ (i := 14) (N := some 82) (v := ?_) (a' := ?_) #[true, true, true, true, true, true, true, true, true, true, true, true, true, true, true, false, false, false, false, false, false, false, false, false, false] rfl rfl (any_of HT_.out (by kernel_rfl)) (fun _ _ _ h => h) (Or.inl ⟨by rfl, ?_⟩) ?_ ?_
      rotate_left
      · intro w'
        go_simp
        with_reducible rfl
      rotate_left
      · simp only [Act.put, List.setIfInBounds_toArray, List.set_cons_zero, List.set_cons_succ, i64_w, i32_w]
        rfl
      refine pure_ (i := 15) (N := some 83) (v := ?_) (a' := ?_) #[true, true, true, true, true, true, true, true, true, true, true, true, true, true, true, true, false, false, false, false, false, false, false, false, false] rfl rfl (any_of HT_.out (by kernel_rfl)) (fun _ _ _ h => h) (Or.inl ⟨by rfl, ?_⟩) ?_ ?_
      rotate_left
      · intro w'
        go_simp
        with_reducible rfl
      rotate_left
      · simp only [Act.put, List.setIfInBounds_toArray, List.set_cons_zero, List.set_cons_succ, i64_w, i32_w]
        rfl
      refine pure_ (i := 16) (N := some 84) (v := ?_) (a' := ?_) #[true, true, true, true, true, true, true, true, true, true, true, true, true, true, true, true, true, false, false, false, false, false, false, false, false] rfl rfl (any_of HT_.out (by kernel_rfl)) (fun _ _ _ h => h) (Or.inl ⟨by rfl, ?_⟩) ?_ ?_
      rotate_left
      · intro w'
        go_simp
        with_reducible rfl
      rotate_left
      · simp only [Act.put, List.setIfInBounds_toArray, List.set_cons_zero, List.set_cons_succ, i64_w, i32_w]
        rfl
      refine pure_ (i := 17) (N := some 85) (v := ?_) (a' := ?_) #[true, true, true, true, true, true, true, true, true, true, true, true, true, true, true, true, true, true, false, false, false, false, false, false, false] rfl rfl (any_of HT_.out (by kernel_rfl)) (fun _ _ _ h => h) (Or.inl ⟨by rfl, ?_⟩) ?_ ?_
      rotate_left
      · intro w'
        go_simp
        with_reducible rfl
      rotate_left
      · simp only [Act.put, List.setIfInBounds_toArray, List.set_cons_zero, List.set_cons_succ, i64_w, i32_w]
        rfl
      refine pure_ (i := 18) (N := some 86) (v := ?_) (a' := ?_) #[true, true, true, true, true, true, true, true, true, true, true, true, true, true, true, true, true, true, true, false, false, false, false, false, false] rfl rfl (any_of HT_.out (by kernel_rfl)) (fun _ _ _ h => h) (Or.inl ⟨by rfl, ?_⟩) ?_ ?_
      rotate_left
      · intro w'
        go_simp
        with_reducible rfl
      rotate_left
      · simp only [Act.put, List.setIfInBounds_toArray, List.set_cons_zero, List.set_cons_succ, i64_w, i32_w]
        rfl
      refine pure_ (i := 20) (N := some 88) (v := ?_) (a' := ?_) #[true, true, true, true, true, true, true, true, true, true, true, true, true, true, true, true, true, true, true, false, true, false, false, false, false] rfl rfl (any_of HT_.out (by kernel_rfl)) (fun _ _ _ h => h) (Or.inl ⟨by rfl, ?_⟩) ?_ ?_
      rotate_left
      · intro w'
        go_simp
        with_reducible rfl
      rotate_left
      · simp only [Act.put, List.setIfInBounds_toArray, List.set_cons_zero, List.set_cons_succ, i64_w, i32_w]
        rfl
      refine pure_ (i := 21) (N := some 89) (v := ?_) (a' := ?_) #[true, true, true, true, true, true, true, true, true, true, true, true, true, true, true, true, true, true, true, false, true, true, false, false, false] rfl rfl (any_of HT_.out (by kernel_rfl)) (fun _ _ _ h => h) (Or.inl ⟨by rfl, ?_⟩) ?_ ?_
      rotate_left
      · intro w'
        go_simp
        with_reducible rfl
      rotate_left
      · simp only [Act.put, List.setIfInBounds_toArray, List.set_cons_zero, List.set_cons_succ, i64_w, i32_w]
        rfl
      refine one_ (i := 19) (N := some 87) #[true, true, true, true, true, true, true, true, true, true, true, true, true, true, true, true, true, true, true, true, true, true, false, false, false] rfl rfl (one_of HT_.out (by kernel_rfl)) (by decide) (fun K hK => ?_)
      refine goes_ Try.func45 (by kernel_rfl) rfl #[.slice Ax a.length cx, .slice Ay b.length cy] (by rfl) rfl rfl (by (try simp only [List.map_toArray, List.map_cons, List.map_nil]); first | done | rfl) ?_
      refine (classes_Same.calls k9 Ax cx a Ay cy b t w23 (C_head XX.out Cx_23.out) Ln.out (C_head YY.out Cy_23.out) Lm.out R1.out).mono ?_
      rintro e w24 ⟨rfl, hB⟩
      have Cx_24 := Lib.hid (Kd.C_below Cx_23.out hB)
      have Cy_24 := Lib.hid (Kd.C_below Cy_23.out hB)
      have Cl_24 := Lib.hid (Kd.C_below Cl_23.out hB)
      have Cm_24 := Lib.hid (Kd.C_below Cm_23.out hB)
      have Ra_24 := Lib.hid (R_below Ra_23.out hB)
      have Rb_24 := Lib.hid (R_below Rb_23.out hB)
      have Rc_24 := Lib.hid (R_below Rc_23.out hB)
      have Sa_24 := Lib.hid (Nat.le_trans Sa_23.out hB.size)
      have Sb_24 := Lib.hid (Nat.le_trans Sb_23.out hB.size)
      have Sc_24 := Lib.hid (Nat.le_trans Sc_23.out hB.size)
      have B_24 := Lib.hid (B_23.out.trans (hB.mono B_23.out.size))
      clear hB  Cx_23 Cy_23 Cl_23 Cm_23 Ra_23 Rb_23 Rc_23 Sa_23 Sb_23 Sc_23 B_23
      refine ⟨_, rfl, ?_⟩
      clear hHeld
      refine hK.out _ _ trivial (fun hHeld => ?_)
      clear hK K
      refine norm_ (a' := ?_) ?_ ?_
      rotate_left
      · show Act.put _ (some 87) _ = _
        simp only [Act.put, List.setIfInBounds_toArray, List.set_cons_zero, List.set_cons_succ, i64_w, i32_w]
        rfl
      refine one_ (i := 22) (N := some 90) #[true, true, true, true, true, true, true, true, true, true, true, true, true, true, true, true, true, true, true, true, true, true, true, false, false] rfl rfl (one_of HT_.out (by kernel_rfl)) (by decide) (fun K hK => ?_)
      refine goes_ Try.func46 (by kernel_rfl) rfl #[.slice A0 a.length c0, .slice A1 b.length c1] (by rfl) rfl rfl (by (try simp only [List.map_toArray, List.map_cons, List.map_nil]); first | done | rfl) ?_
      refine (dredgeref06_Same.calls k10 A0 c0 a A1 c1 b t w24 Cl_24.out HC0.out Cm_24.out HC1.out R2.out).mono ?_
      rintro e w25 ⟨rfl, hB⟩
      have Cx_25 := Lib.hid (Kd.C_below Cx_24.out hB)
      have Cy_25 := Lib.hid (Kd.C_below Cy_24.out hB)
      have Cl_25 := Lib.hid (Kd.C_below Cl_24.out hB)
      have Cm_25 := Lib.hid (Kd.C_below Cm_24.out hB)
      have Ra_25 := Lib.hid (R_below Ra_24.out hB)
      have Rb_25 := Lib.hid (R_below Rb_24.out hB)
      have Rc_25 := Lib.hid (R_below Rc_24.out hB)
      have Sa_25 := Lib.hid (Nat.le_trans Sa_24.out hB.size)
      have Sb_25 := Lib.hid (Nat.le_trans Sb_24.out hB.size)
      have Sc_25 := Lib.hid (Nat.le_trans Sc_24.out hB.size)
      have B_25 := Lib.hid (B_24.out.trans (hB.mono B_24.out.size))
      clear hB  Cx_24 Cy_24 Cl_24 Cm_24 Ra_24 Rb_24 Rc_24 Sa_24 Sb_24 Sc_24 B_24
      refine ⟨_, rfl, ?_⟩
      clear hHeld
      refine hK.out _ _ trivial (fun hHeld => ?_)
      clear hK K
      refine norm_ (a' := ?_) ?_ ?_
      rotate_left
      · show Act.put _ (some 90) _ = _
        simp only [Act.put, List.setIfInBounds_toArray, List.set_cons_zero, List.set_cons_succ, i64_w, i32_w]
        rfl
      refine pure_ (i := 23) (N := some 91) (v := ?_) (a' := ?_) #[true, true, true, true, true, true, true, true, true, true, true, true, true, true, true, true, true, true, true, true, true, true, true, true, false] rfl rfl (any_of HT_.out (by kernel_rfl)) (fun _ _ _ h => h) (Or.inl ⟨by rfl, ?_⟩) ?_ ?_
      rotate_left
      · intro w'
        go_simp
        with_reducible rfl
      rotate_left
      · simp only [Act.put, List.setIfInBounds_toArray, List.set_cons_zero, List.set_cons_succ, i64_w, i32_w]
        rfl
      refine pure_ (i := 24) (N := some 92) (v := ?_) (a' := ?_) #[true, true, true, true, true, true, true, true, true, true, true, true, true, true, true, true, true, true, true, true, true, true, true, true, true] rfl rfl (any_of HT_.out (by kernel_rfl)) (fun _ _ _ h => h) (Or.inl ⟨by rfl, ?_⟩) ?_ ?_
      rotate_left
      · intro w'
        go_simp
        with_reducible rfl
      rotate_left
      · simp only [Act.put, List.setIfInBounds_toArray, List.set_cons_zero, List.set_cons_succ, i64_w, i32_w]
        rfl
      refine done_ (done_of HT_.out (by kernel_rfl)) ?_
      clear HT_ HW_ hHeld
      have htt : (t != t) = false := by simp
      go_wp2_with fail
      refine (spoil_at (fun k => k < w12.heap.size) HN.out B_25.out Ra_25.out (fun k hk => (Ta.out k hk).2)).mono ?_
      rintro e y1 ⟨rfl, hB, hK⟩
      have Rb1 := Lib.hid (R_kept Rb_25.out hK (fun k hk h => by have h1 := (Tb.out k hk).1; have h2 := Zab.out; omega))
      have Rc1 := Lib.hid (R_kept Rc_25.out hK (fun k hk h => by have h1 := (Tc.out k hk).1; have h2 := Zac.out; omega))
      have Y1 := Lib.hid hB
      clear hB hK Rb_25 Rc_25 Ra_25 B_25
      go_wp2_with fail
      refine (spoil_at (fun k => w13.heap.size ≤ k ∧ k < w14.heap.size) HO.out Y1.out Rb1.out (fun k hk => Tb.out k hk)).mono ?_
      rintro e y2 ⟨rfl, hB, hK⟩
      have Rc2 := Lib.hid (R_kept Rc1.out hK (fun k hk h => by have h1 := (Tc.out k hk).1; have h2 := Zbc.out; omega))
      have Y2 := Lib.hid hB
      clear hB hK Rb1 Rc1 Y1
      go_wp2_with fail
      refine (spoil_at (fun k => True) HF.out Y2.out Rc2.out (fun k hk => trivial)).mono ?_
      rintro e y3 ⟨rfl, hB, hK⟩
      have Y3 := Lib.hid hB
      clear hB hK Rc2 Y2
      go_wp2
      go_roundg (2 - (i + 1))
      case measure => omega
      case rel => exact ⟨i + 1, by omega, Nat.le_refl _, by go_num, ⟨Kd.C_below HX.out Y3.out⟩, ⟨Kd.C_below HY.out Y3.out⟩, ⟨Kd.C_below HLL.out Y3.out⟩, ⟨Kd.C_below HMM.out Y3.out⟩, ⟨HBL.out.trans (Y3.out.mono HBL.out.size)⟩⟩
    · obtain rfl : i = 2 := by omega
      have hltz : ¬ ((2 : Nat) : Int) < 2 := by omega
      go_wp2_with fail
      refine (dredgelaw06_still.calls k11 Ax cx _ A0 c0 a true wr HX.out Lx.out HLL.out HC0.out S1.out).mono ?_
      rintro e w61 ⟨rfl, hD⟩
      have hB := B_drawn (Below.refl wr.heap.size wr) hD
      have Cx_61 := Lib.hid (Kd.C_below HX.out hB)
      have Cy_61 := Lib.hid (Kd.C_below HY.out hB)
      have Cl_61 := Lib.hid (Kd.C_below HLL.out hB)
      have Cm_61 := Lib.hid (Kd.C_below HMM.out hB)
      have B_61 := Lib.hid (HBL.out.trans (hB.mono HBL.out.size))
      clear hB hD 
      go_wp2_with fail
      refine (dredgelaw06_still.calls k12 Ay cy _ A1 c1 b true w61 Cy_61.out Ly.out Cm_61.out HC1.out S2.out).mono ?_
      rintro e w62 ⟨rfl, hD⟩
      have hB := B_drawn (Below.refl w61.heap.size w61) hD
      have Cx_62 := Lib.hid (Kd.C_below Cx_61.out hB)
      have Cy_62 := Lib.hid (Kd.C_below Cy_61.out hB)
      have Cl_62 := Lib.hid (Kd.C_below Cl_61.out hB)
      have Cm_62 := Lib.hid (Kd.C_below Cm_61.out hB)
      have B_62 := Lib.hid (B_61.out.trans (hB.mono B_61.out.size))
      clear hB hD Cx_61 Cy_61 Cl_61 Cm_61 B_61
      go_wp2
      go_ret
      exact ⟨rfl, B_62.out⟩
theorem mix_law (a b : List S64) (h1 : a.length < 2097152) (h2 : b.length < 2097152) (ha : inR a = true) (hb : inR b = true) (A0 : Option Addr) (c0 : Nat) (A1 : Option Addr) (c1 : Nat) (W : World) (hr0 : Kd.C k64 W A0 a.length a) (hc0 : a.length ≤ c0) (hr1 : Kd.C k64 W A1 b.length b) (hc1 : b.length ≤ c1) :
    Calls Try.prog 7 #[.slice A0 a.length c0, .slice A1 b.length c1] W fun e w' => e = .returned (.bool true) ∧ Below W.heap.size W w' := by
  have hN := cls_length (a ++ b)
  rw [List.length_append] at hN
  have hO := and_length a b
  have hF := less_length a b
  have hm := mul_small a.length b.length h1 h2
  obtain ⟨k2, f2⟩ := (and_ends a b (by omega) ha hb).get
  obtain ⟨k1, f3⟩ := (less_ends a b h1 h2 ha hb).get
  obtain ⟨k3, g1⟩ := (refor_ends a b h1 h2 ha hb).get
  obtain ⟨k4, g2⟩ := (refand_ends a b h1 h2 ha hb).get
  obtain ⟨k5, g3⟩ := (refless_ends a b h1 h2 ha hb).get
  obtain ⟨k6, a1⟩ := (alike_ends (Cls.cls (a ++ b)) (Cls.cls (a ++ b)) (by omega)).get
  obtain ⟨k7, a2⟩ := (alike_ends (Cls.and_ a b) (Cls.and_ a b) (by omega)).get
  obtain ⟨k8, a3⟩ := (alike_ends (Cls.less_ a b) (Cls.less_ a b) (by omega)).get
  obtain ⟨k9, r1⟩ := (same_ends a b (by omega) (by omega) ha hb).get
  obtain ⟨k10, r2⟩ := (refsame_ends a b (by omega) (by omega) ha hb).get
  obtain ⟨k11, s1⟩ := (still_ends a (by omega)).get
  obtain ⟨k12, s2⟩ := (still_ends b (by omega)).get
  rw [decide_eq_true rfl] at a1 a2 a3
  exact mix_walk a b _ _ rfl rfl _ _ _ _ k1 k2 k3 k4 k5 k6 k7 k8 k9 k10 k11 k12 (by unfold classes_Or.f; rw [if_pos (by omega), if_pos ((inR_append a b).2 ⟨ha, hb⟩)]) f2 f3 g1 g2 g3 a1 a2 a3 r1 r2 s1 s2 (by unfold dredgelaw06_lent.f; rw [if_pos (by omega)]) (by unfold dredgelaw06_lent.f; rw [if_pos (by omega)]) (by omega) (by omega) (by omega) A0 c0 A1 c1 W hr0 hc0 hr1 hc1
end Go.Proofs.Ytamhkdlcoghdbaa.PCls
