/- Put together (wip/tools/pack.py): YPClsx7, YLOne, Lit. -/
import Derived.Test.YtamhkdlcoghdbaaDoorKYWp
import Derived.Test.YtamhkdlcoghdbaaDoorKTEx
/- Out of YPClsx7 (wip/tools/prune2.py): the declarations alone that the texts of the trees name. -/
namespace Go.Proofs.YtamhkdlcoghdbaaDoor.PCls
open Go.RowKit Go.Proofs.YtamhkdlcoghdbaaDoorW.PrintWords Go.Proofs.YtamhkdlcoghdbaaDoorW.PrintLast Go.Proofs.YtamhkdlcoghdbaaDoorW.PrintMore
attribute [local go_sem] max2_int min2_int max_two min_two max_three min_three max_four min_four   -- for this text's walks alone
set_option linter.unusedVariables false
set_option linter.unusedSimpArgs false
attribute [local go_sem high] eqA64
def dredgeref06_Alike.l0 : Nat → List (S64) → List (S64) → Int → Option (Bool)
 | 0, _, _, _ => none
 | k + 1, x0, x1, x5 => if x5 < (x0.length : Int) then (if 0 ≤ x5 then (if x5 < (x1.length : Int) then (if (!(((rd_T64 x0 x5).f0) == ((rd_T64 x1 x5).f0)) || (!(((rd_T64 x0 x5).f1) == ((rd_T64 x1 x5).f1)))) = true then (some false) else (dredgeref06_Alike.l0 k x0 x1 (wrap64 (x5 + 1)))) else (none)) else (none)) else (some true)
def dredgeref06_Alike.f (k : Nat) (l0 : List (S64)) (l1 : List (S64)) : Option (Bool) := if (l0.length : Int) = (l1.length : Int) then (dredgeref06_Alike.l0 k l0 l1 0) else (some false)
set_option maxHeartbeats 8000000 in
set_option maxRecDepth 100000 in
theorem dredgeref06_Alike.calls (k : Nat) (A0 : Option Addr) (c0 : Nat) (l0 : List (S64)) (A1 : Option Addr) (c1 : Nat) (l1 : List (S64)) (r : Bool) (w : World) (hr0 : Kd.C k64 w A0 l0.length l0) (hc0 : l0.length ≤ c0) (hr1 : Kd.C k64 w A1 l1.length l1) (hc1 : l1.length ≤ c1) (h : dredgeref06_Alike.f k l0 l1 = some r) :
  Calls Tryd.prog 45 #[.slice A0 l0.length c0, .slice A1 l1.length c1] w fun e w' => e = .returned (.bool r) ∧ Drawn0 w w' := by
 have hu64 := Tryd.underlying50
 have HR0 := Aside0.mk hr0
 have HC0 := Aside0.mk hc0
 clear hr0 hc0
 have HR1 := Aside0.mk hr1
 have HC1 := Aside0.mk hc1
 clear hr1 hc1
 have H : (if (l0.length : Int) = (l1.length : Int) then (dredgeref06_Alike.l0 k l0 l1 0) else (some false)) = some r := h
 clear h
 by_cases c3 : (l0.length : Int) = (l1.length : Int)
 ·rw [if_pos c3] at H
  have c3b0 : ((l0.length : Int) == (l1.length : Int)) = true := beq_iff_eq.mpr c3
  have c3b1 : ((l0.length : Int) != (l1.length : Int)) = false := bne_eq_false_iff_eq.mpr c3
  have c3b2 : (l0.length == l1.length) = true := by first | simpa using c3 | (simp at c3 ⊢; omega)
  clear c3
  have H' := Aside0.mk H
  clear H
  go_enter Tryd.func45, Tryd.ntmps45
  go_wp2
  repeat (go_quiet (fail); try go_wp2)
  go_loopg [5] k (fun kq v5 w' => ∃ (x5_1 : Int), v5 = .int .i64 x5_1 ∧ Aside0 (dredgeref06_Alike.l0 kq l0 l1 x5_1 = some r) ∧ Aside0 (kq ≤ k) ∧ Drawn0 w w')
  case atStart => exact ⟨(0), (by first | rfl | (simp; done) | (simp [*]; done)), H', ⟨Nat.le_refl _⟩, by repeat (first | exact Drawn0.refl _ | apply Drawn0.step)⟩
  case round =>
   clear H'
   try clear c1
   try clear c2
   try clear p2
   try clear c3
   try clear c3b0
   try clear c3b1
   try clear c3b2
   obtain ⟨x5_1, rfl, HA, HK1, ⟨m1, rfl⟩⟩ := hrel
   cases gk with
   | zero => exact absurd HA.out (by simp [dredgeref06_Alike.l0])
   | succ k1 =>
    have H := HA.out
    clear HA
    simp only [dredgeref06_Alike.l0] at H
    by_cases c4 : x5_1 < (l0.length : Int)
    ·rw [if_pos c4] at H
     have c4b0 : decide (x5_1 < (l0.length : Int)) = true := decide_eq_true c4
     clear c4
     by_cases c5 : 0 ≤ x5_1
     ·rw [if_pos c5] at H
      have c5b0 : decide (0 ≤ x5_1) = true := decide_eq_true c5
      clear c5
      by_cases c6 : x5_1 < (l1.length : Int)
      ·rw [if_pos c6] at H
       have c6b0 : decide (x5_1 < (l1.length : Int)) = true := decide_eq_true c6
       clear c6
       by_cases c7 : (!(((rd_T64 l0 x5_1).f0) == ((rd_T64 l1 x5_1).f0)) || (!(((rd_T64 l0 x5_1).f1) == ((rd_T64 l1 x5_1).f1)))) = true
       ·rw [if_pos c7] at H
        have c7b0 : (!(((rd_T64 l0 x5_1).f0) == ((rd_T64 l1 x5_1).f0)) || (!(((rd_T64 l0 x5_1).f1) == ((rd_T64 l1 x5_1).f1)))) = true := c7
        clear c7
        obtain rfl := Option.some.inj H
        have p169 : 0 ≤ (x5_1 : Int) := of_decide_eq_true (by first | (with_reducible assumption) | assumption)
        have q169 : x5_1 < (l0.length : Int) := of_decide_eq_true (by first | (with_reducible assumption) | assumption)
        obtain ⟨ad169, e169, hx169_0, hx169_1⟩ := at_T64 HR0.out x5_1 p169 q169
        cases e169
        replace p169 := eq_true p169
        replace q169 := eq_true q169
        have p170 : 0 ≤ (x5_1 : Int) := of_decide_eq_true (by first | (with_reducible assumption) | assumption)
        have q170 : x5_1 < (l1.length : Int) := of_decide_eq_true (by first | (with_reducible assumption) | assumption)
        obtain ⟨ad170, e170, hx170_0, hx170_1⟩ := at_T64 HR1.out x5_1 p170 q170
        cases e170
        replace p170 := eq_true p170
        replace q170 := eq_true q170
        go_wp2
        repeat (go_quiet (fail); try go_wp2)
        go_ret
        exact ⟨by first | rfl | (simp; done) | (simp [*]; done), by repeat (first | exact Drawn0.refl _ | apply Drawn0.step)⟩
       ·rw [if_neg c7] at H
        have c7b0 : (!(((rd_T64 l0 x5_1).f0) == ((rd_T64 l1 x5_1).f0)) || (!(((rd_T64 l0 x5_1).f1) == ((rd_T64 l1 x5_1).f1)))) = false := by simpa using c7
        clear c7
        have H' := Aside0.mk H
        clear H
        have p169 : 0 ≤ (x5_1 : Int) := of_decide_eq_true (by first | (with_reducible assumption) | assumption)
        have q169 : x5_1 < (l0.length : Int) := of_decide_eq_true (by first | (with_reducible assumption) | assumption)
        obtain ⟨ad169, e169, hx169_0, hx169_1⟩ := at_T64 HR0.out x5_1 p169 q169
        cases e169
        replace p169 := eq_true p169
        replace q169 := eq_true q169
        have p170 : 0 ≤ (x5_1 : Int) := of_decide_eq_true (by first | (with_reducible assumption) | assumption)
        have q170 : x5_1 < (l1.length : Int) := of_decide_eq_true (by first | (with_reducible assumption) | assumption)
        obtain ⟨ad170, e170, hx170_0, hx170_1⟩ := at_T64 HR1.out x5_1 p170 q170
        cases e170
        replace p170 := eq_true p170
        replace q170 := eq_true q170
        go_wp2
        repeat (go_quiet (fail); try go_wp2)
        go_roundg k1
        case measure => have := HK1.out; omega
        case rel => exact ⟨(wrap64 (x5_1 + 1)), (by first | rfl | (simp; done) | (simp [*]; done)), H', ⟨by have := HK1.out; omega⟩, by repeat (first | exact Drawn0.refl _ | apply Drawn0.step)⟩
      ·rw [if_neg c6] at H
       exact absurd H (by simp)
     ·rw [if_neg c5] at H
      exact absurd H (by simp)
    ·rw [if_neg c4] at H
     have c4b0 : decide (x5_1 < (l0.length : Int)) = false := decide_eq_false c4
     clear c4
     obtain rfl := Option.some.inj H
     go_wp2
     repeat (go_quiet (fail); try go_wp2)
     go_ret
     exact ⟨by first | rfl | (simp; done) | (simp [*]; done), by repeat (first | exact Drawn0.refl _ | apply Drawn0.step)⟩
 ·rw [if_neg c3] at H
  have c3b0 : ((l0.length : Int) == (l1.length : Int)) = false := beq_eq_false_iff_ne.mpr c3
  have c3b1 : ((l0.length : Int) != (l1.length : Int)) = true := bne_iff_ne.mpr c3
  have c3b2 : (l0.length == l1.length) = false := by first | simpa using c3 | (simp at c3 ⊢; omega)
  obtain rfl := Option.some.inj H
  go_enter Tryd.func45, Tryd.ntmps45
  go_wp2
  repeat (go_quiet (fail); try go_wp2)
  go_ret
  exact ⟨by first | rfl | (simp; done) | (simp [*]; done), by repeat (first | exact Drawn0.refl _ | apply Drawn0.step)⟩
end Go.Proofs.YtamhkdlcoghdbaaDoor.PCls
/- Out of YLOne (wip/tools/prune2.py): the declarations alone that the texts of the trees name. -/
namespace Go.Proofs.YtamhkdlcoghdbaaDoor.PCls
open Go.RowKit Go.Proofs.YtamhkdlcoghdbaaDoorW.PrintWords Go.Proofs.YtamhkdlcoghdbaaDoorW.PrintLast Go.Proofs.YtamhkdlcoghdbaaDoorW.PrintMore
set_option linter.unusedVariables false
set_option linter.unusedSimpArgs false
end Go.Proofs.YtamhkdlcoghdbaaDoor.PCls
namespace Go.Proofs.YtamhkdlcoghdbaaDoor.PCls
open Go.RowKit Go.Proofs.YtamhkdlcoghdbaaDoorW.PrintWords Go.Proofs.YtamhkdlcoghdbaaDoorW.PrintLast Go.Proofs.YtamhkdlcoghdbaaDoorW.PrintMore
set_option linter.unusedVariables false
set_option linter.unusedSimpArgs false
/-- every number lies between -/
theorem inR_of_mem (l : List S64) (hc : Cls.Can l) (h : ∀ c, Cls.Mem l c → -9223372036854775808 ≤ c ∧ c ≤ 9223372036854775807) : inR l = true := by
 refine (inR_iff l).2 fun r hr => ?_
 have hle := hc.2 r hr
 have a := h r.f0 ⟨r, hr, Int.le_refl _, hle⟩
 have b := h r.f1 ⟨r, hr, hle, Int.le_refl _⟩
 omega
theorem mem_inR (l : List S64) (h : inR l = true) (c : Int) (hm : Cls.Mem l c) : -9223372036854775808 ≤ c ∧ c ≤ 9223372036854775807 := by
 obtain ⟨r, hr, h0, h1⟩ := hm
 have := (inR_iff l).1 h r hr
 omega
theorem inR_cls (l : List S64) (h : inR l = true) : inR (Cls.cls l) = true := inR_of_mem _ (Cls.cls_can l) fun c hc => mem_inR l h c ((Cls.cls_mem l c).1 hc)
end Go.Proofs.YtamhkdlcoghdbaaDoor.PCls
namespace Go.Proofs.YtamhkdlcoghdbaaDoor.PCls
open Go.RowKit Go.Proofs.YtamhkdlcoghdbaaDoorW.PrintWords Go.Proofs.YtamhkdlcoghdbaaDoorW.PrintLast Go.Proofs.YtamhkdlcoghdbaaDoorW.PrintMore
set_option linter.unusedVariables false
set_option linter.unusedSimpArgs false
end Go.Proofs.YtamhkdlcoghdbaaDoor.PCls
namespace Go.Proofs.YtamhkdlcoghdbaaDoor.PCls
open Go.RowKit Go.Proofs.YtamhkdlcoghdbaaDoorW.PrintWords Go.Proofs.YtamhkdlcoghdbaaDoorW.PrintLast Go.Proofs.YtamhkdlcoghdbaaDoorW.PrintMore
set_option linter.unusedVariables false
set_option linter.unusedSimpArgs false
end Go.Proofs.YtamhkdlcoghdbaaDoor.PCls
namespace Go.Proofs.YtamhkdlcoghdbaaDoor.PCls
open Go.RowKit Go.Proofs.YtamhkdlcoghdbaaDoorW.PrintWords Go.Proofs.YtamhkdlcoghdbaaDoorW.PrintLast Go.Proofs.YtamhkdlcoghdbaaDoorW.PrintMore
set_option linter.unusedVariables false
set_option linter.unusedSimpArgs false
theorem alike_loop : ∀ (s p a : List S64) (k : Nat), s.length < k → (p ++ s).length < 8796093022208 → p.length ≤ a.length → a = p ++ a.drop p.length → (p ++ s).length = a.length →
  dredgeref06_Alike.l0 k (p ++ s) a (p.length : Int) = some (decide (s = a.drop p.length)) := by
 intro s
 induction s with
 | nil =>
  intro p a k hk hl hp ha he
  obtain ⟨k, rfl⟩ : ∃ m, k = m + 1 := ⟨k - 1, by simp at hk; omega⟩
  simp only [dredgeref06_Alike.l0]
  rw [if_neg (by simp)]
  simp at he
  simp [he]
 | cons x s ih =>
  intro p a k hk hl hp ha he
  obtain ⟨k, rfl⟩ : ∃ m, k = m + 1 := ⟨k - 1, by simp at hk; omega⟩
  have hl2 : (p.length : Int) < ((p ++ x :: s).length : Int) := by simp; omega
  have hpa : p.length < a.length := by rw [← he]; simp
  have hdrop : a.drop p.length = a[p.length] :: a.drop (p.length + 1) := List.drop_eq_getElem_cons hpa
  simp at hl hk
  simp only [dredgeref06_Alike.l0]
  rw [if_pos hl2, if_pos (by omega), if_pos (by omega), rd_mid, rd_at a p.length hpa, w64_lit ((p.length : Int) + 1) (by omega) (by omega), hdrop]
  by_cases hx : x = a[p.length]
  ·rw [if_neg (by rw [hx]; simp)]
   have h := ih (p ++ [x]) a k (by omega) (by simp; omega) (by simp; omega) (by rw [List.length_append, List.length_singleton, List.append_assoc, hx, List.singleton_append, ← hdrop]; exact ha) (by simpa using he)
   simp only [List.append_assoc, List.singleton_append, List.length_append, List.length_singleton] at h
   rw [show ((p.length + 1 : Nat) : Int) = (p.length : Int) + 1 by omega] at h
   rw [h]
   simp only [hx, List.cons.injEq, true_and]
  ·rw [if_pos (by
    cases x with | mk x0 x1 =>
    cases hq : a[p.length] with | mk y0 y1 =>
    rw [hq] at hx
    simp at hx ⊢
    by_cases h0 : x0 = y0
    ·exact .inr (hx h0)
    ·exact .inl h0)]
   simp only [hx, List.cons.injEq, false_and, decide_false]
theorem alike_ends (a b : List S64) (hl : a.length < 8796093022208) : Ends (fun k => dredgeref06_Alike.f k a b) (decide (a = b)) := by
 refine ⟨a.length + 1, fun k hk => ?_⟩
 show dredgeref06_Alike.f k a b = _
 unfold dredgeref06_Alike.f
 by_cases h : a.length = b.length
 ·rw [if_pos (by omega)]
  have := alike_loop a [] b k (by omega) (by simpa using hl) (by simp) (by simp) (by simpa using h)
  simpa using this
 ·rw [if_neg (by omega)]
  rw [decide_eq_false (fun e => h (by rw [e]))]
end Go.Proofs.YtamhkdlcoghdbaaDoor.PCls
/- tree.Literal's closure: one set more. -/
namespace Go.Proofs.YtamhkdlcoghdbaaDoor.PCls
open Go.RowKit Go.Proofs.YtamhkdlcoghdbaaDoorW.PrintWords Go.Proofs.YtamhkdlcoghdbaaDoorW.PrintLast Go.Proofs.YtamhkdlcoghdbaaDoorW.PrintMore
set_option linter.unusedVariables false
set_option linter.unusedSimpArgs false

/-- the set of a unit -/
def litR (fold : Bool) (c : Int) : List S64 := if fold then Cls.fold [⟨c, c⟩] else [⟨c, c⟩]
def litNT (fold : Bool) (c : Int) : NT := .mk 2 0 0 0 (litR fold c) []
theorem one_C {W : World} {b : Nat} {c : Int} (h : W.heap[b]? = some (.cells #[.int .i64 c, .int .i64 c] 50 (0, 0))) : Kd.C k64 W (some ⟨b, 0, none⟩) ([⟨c, c⟩] : List S64).length [⟨c, c⟩] := by
 refine ⟨rfl, by simp [maxLen], fun _ => ⟨_, rfl, fun j p hj => ?_⟩⟩
 have hj0 : j = 0 := by have := (List.getElem?_eq_some_iff.1 hj).1; simp at this; omega
 subst hj0
 simp at hj
 subst hj
 refine ⟨enc2 ⟨c, c⟩, rfl, k64_mk _ _, fun i u hu => ?_⟩
 rw [add_plain]
 match i, hu with
 | 0, hu => simp [enc2] at hu; subst hu; exact cell_heap h rfl
 | 1, hu => simp [enc2] at hu; subst hu; exact cell_heap h rfl
 | i + 2, hu => simp [enc2] at hu

set_option maxHeartbeats 8000000 in
set_option maxRecDepth 100000 in
theorem lit_plain (c : Int) (hc : -9223372036854775808 ≤ c ∧ c ≤ 9223372036854775807) (chars : Bool) (mB Bo base : Nat) (O : List NT) (W0 : World) (v0 : Value) (hBo : Bo < base) (hbs : base ≤ W0.heap.size) (hst : PutSt W0 W0 Bo base v0 v0 O) (hlen : O.length < 549755813888) (hm : W0.heap[mB]? = some (.cells #[.bool chars, .bool false] 23 (0, 0))) :
  Calls Tryd.prog 27 #[.int .i64 c, .pointer (some ⟨mB, 0, none⟩), .pointer (some ⟨Bo, 0, none⟩)] W0 fun e w' => e = .returned (.tuple #[]) ∧ ∃ v, PutSt W0 w' Bo base v0 v (O ++ [litNT false c]) := by
 obtain ⟨va, vc, rfl⟩ : ∃ va vc, v0 = .slice va O.length vc := by
  obtain ⟨cs, _, h2, _⟩ := hst.trees
  rcases h2.2 with ⟨e, e0⟩ | ⟨g, cap, cur, e, _⟩
  ·exact ⟨none, 0, by rw [e, e0]⟩
  ·exact ⟨_, _, e⟩
 have HST := Lib.hid hst
 have HB := Lib.hid (And.intro hBo hbs)
 have HO := Lib.hid hlen
 obtain ⟨WM, hWM⟩ : ∃ WM, WM = W0.alloc (.cells #[.int .i64 c, .int .i64 c] 50) := ⟨_, rfl⟩
 have hbM : Below W0.heap.size W0 WM := by rw [hWM]; exact (Below.refl _ W0).alloc (Nat.le_refl _) _
 have hrM : WM.heap[W0.heap.size]? = some (.cells #[.int .i64 c, .int .i64 c] 50 (0, 0)) := by rw [hWM]; exact World.alloc_heap_new W0 _
 have hsM : WM.heap.size = W0.heap.size + 1 := by rw [hWM]; simp
 have hmM := (hbM.block mB (Array.getElem?_eq_some_iff.1 hm).1).trans hm
 have hin : inR [(⟨c, c⟩ : S64)] = true := by simp [inR]; omega
 have hC1 := one_C hrM
 have m1 := cell_heap (i := 1) hmM rfl
 rw [hWM] at m1
 have HM := Lib.hid (And.intro hbM (And.intro hsM hWM))
 have HC1 := Lib.hid (And.intro hC1 hin)
 clear hst hBo hbs hlen hbM hrM hsM hmM hm hC1 hin hWM
 go_enter Tryd.func27, Tryd.ntmps27
 go_upto_region 3 with (fail)
 rw [← HM.out.2.2]
 obtain ⟨W6, hW6⟩ : ∃ W6, W6 = WM := ⟨_, rfl⟩
 obtain ⟨rr, hrr⟩ : ∃ rr : List S64, rr = [⟨c, c⟩] := ⟨_, rfl⟩
 obtain ⟨ra, hra⟩ : ∃ ra : Option Addr, ra = some ⟨W0.heap.size, 0, none⟩ := ⟨_, rfl⟩
 have hl1 : rr.length = 1 := by rw [hrr]; rfl
 have HP6 := Lib.hid (show PutSt W0 W6 Bo base (.slice va O.length vc) (.slice va O.length vc) O by rw [hW6]; exact HST.out.below HM.out.1)
 have HN6 := Lib.hid (show NIn W6 (fun b => W0.heap.size ≤ b ∧ b < W6.heap.size) (.mk 2 0 0 0 rr []) [.int .i64 2, .int .i64 0, .int .i64 0, .int .i64 0, .slice ra rr.length 1, .slice none 0 0] from
  NIn.mk 2 0 0 0 rr [] ra none 1 0 (fun _ => []) (by rw [hW6, hrr, hra]; exact HC1.out.1) (fun ad e _ => by rw [hra] at e; cases e; rw [hW6, HM.out.2.1]; simp only; omega) (by omega) (by omega) (by rw [hrr]; exact HC1.out.2) (by simp) (by simp) (fun j t h => by simp at h) (fun j h => by simp at h))
 rw [← hW6]
 rw [show (Value.slice (some ⟨W0.heap.size, 0, none⟩) 1 1) = Value.slice ra rr.length 1 by rw [hra, hl1]]
 have HRR := Lib.hid (show litNT false c = .mk 2 0 0 0 rr [] by rw [hrr]; rfl)
 clear hW6 hrr hra hl1 m1
 have HBa := Lib.hid (show Below W6.heap.size W6 W6.drew from (Below.refl _ W6).drew)
 refine start_ (n := 9) (S := fun w' => w'.cell? ⟨Bo, 0, none⟩ = some (.slice va O.length vc)) (ds := [7, 8]) #[Z,Z,Z,Z,Z,Z,Z,Z,Z] (by kernel_rfl) rfl rfl (HP6.out.below HBa.out).box.cell (fun hHeld => ?_)
 refine with_self (fun HT_ => ?_)
 generalize W6.drew = w7 at HBa hHeld ⊢
 refine take_ (i := 0) (N := some 13) (v := ?_) (a' := ?_) #[I,Z,Z,Z,Z,Z,Z,Z,Z] rfl rfl (take_of HT_.out (by kernel_rfl)) (fun _ _ _ h => h) (Or.inl ⟨by rfl, ?_⟩) hHeld ?_ ?_
 rotate_left
 ·rintro w' s0
  go_simp
  with_reducible rfl
 rotate_left
 ·simp only [Act.put, pu_, pz_, ps_, i64_w, i32_w]
  rfl
 refine pure_ (i := 1) (N := some 14) (v := ?_) (a' := ?_) #[I,I,Z,Z,Z,Z,Z,Z,Z] rfl rfl (any_of HT_.out (by kernel_rfl)) (fun _ _ _ h => h) (Or.inl ⟨by rfl, ?_⟩) ?_ ?_
 rotate_left
 ·intro w'
  go_simp
  with_reducible rfl
 rotate_left
 ·simp only [Act.put, pu_, pz_, ps_, i64_w, i32_w]
  rfl
 refine pure_ (i := 2) (N := some 15) (v := ?_) (a' := ?_) #[I,I,I,Z,Z,Z,Z,Z,Z] rfl rfl (any_of HT_.out (by kernel_rfl)) (fun _ _ _ h => h) (Or.inl ⟨by rfl, ?_⟩) ?_ ?_
 rotate_left
 ·intro w'
  go_simp
  with_reducible rfl
 rotate_left
 ·simp only [Act.put, pu_, pz_, ps_, i64_w, i32_w]
  rfl
 refine pure_ (i := 3) (N := some 16) (v := ?_) (a' := ?_) #[I,I,I,I,Z,Z,Z,Z,Z] rfl rfl (any_of HT_.out (by kernel_rfl)) (fun _ _ _ h => h) (Or.inl ⟨by rfl, ?_⟩) ?_ ?_
 rotate_left
 ·intro w'
  go_simp
  with_reducible rfl
 rotate_left
 ·simp only [Act.put, pu_, pz_, ps_, i64_w, i32_w]
  rfl
 refine one_ (i := 4) (N := some 17) #[I,I,I,I,I,Z,Z,Z,Z] rfl rfl (one_of HT_.out (by kernel_rfl)) (by decide) (fun K hK => ?_)
 refine value_ (v := .slice (some ⟨w7.heap.size, 0, none⟩) 1 1) (w1 := w7.alloc (.cells #[.int .i64 0, .int .i64 0, .int .i64 0, .int .i64 0, .slice none 0 0, .slice none 0 0] 28)) (by rfl) rfl (by go_simp; first | done | rfl) ?_
 obtain ⟨w8, hnw⟩ : ∃ x, x = w7.alloc (.cells #[.int .i64 0, .int .i64 0, .int .i64 0, .int .i64 0, .slice none 0 0, .slice none 0 0] 28) := ⟨_, rfl⟩
 rw [← hnw]
 have hBn : Below w7.heap.size w7 w8 := by rw [hnw]; exact (Below.refl _ w7).alloc (Nat.le_refl _) _
 have hzn : w8.heap[w7.heap.size]? = some (.cells #[.int .i64 0, .int .i64 0, .int .i64 0, .int .i64 0, .slice none 0 0, .slice none 0 0] 28 (0, 0)) := by rw [hnw]; exact World.alloc_heap_new w7 _
 have HB_w8 := Lib.hid (HBa.out.trans (hBn.mono HBa.out.size))
 have HZ := Lib.hid hzn
 clear hBn hzn hnw
 clear hHeld
 refine hK.out _ _ (HP6.out.below HB_w8.out).box.cell (fun hHeld => ?_)
 clear hK K
 refine norm_ (a' := ?_) ?_ ?_
 rotate_left
 ·show Act.put _ (some 17) _ = _
  simp only [Act.put, pu_, pz_, ps_, i64_w, i32_w]
  rfl
 have hPX := HP6.out.below HB_w8.out
 have hown : ∀ k, (Value.slice va O.length vc).ownBlock = some k → k < W0.heap.size := fun k hk => by obtain ⟨cs, _, h2, _⟩ := HST.out.trees; exact (h2.lt k hk).2
 have hzz : ∀ j u, zero6[j]? = some u → w8.cell? ((⟨w7.heap.size, 0, none⟩ : Addr).add j) = some u := fun j u hu => by
  rw [add_plain]
  exact cell_heap HZ.out (by simpa [zero6] using hu)
 have hNX : NIn w8 (fun b => W0.heap.size ≤ b ∧ b < w8.heap.size ∧ some b ≠ (Value.slice va O.length vc).ownBlock) (.mk 2 0 0 0 rr []) [.int .i64 2, .int .i64 0, .int .i64 0, .int .i64 0, .slice ra rr.length 1, .slice none 0 0] := (HN6.out.move (fun b hb => HB_w8.out.block b hb.2)).mono (fun b hb => ⟨hb.1, Nat.lt_of_lt_of_le hb.2 HB_w8.out.size, fun e => by have := hown b e.symm; omega⟩)
 obtain ⟨g, cap, WA, hrun, hcap, hsA, hkA, hbA, hfA, hcA, hgB, st1, st2⟩ := put_append hPX HB.out.1 HB.out.2 HO.out ⟨w7.heap.size, 0, none⟩ hzz hNX
 refine one_ (i := 5) (N := some 18) #[I,I,I,I,I,I,Z,Z,Z] rfl rfl (one_of HT_.out (by kernel_rfl)) (by decide) (fun K hK => ?_)
 refine appended_ _ _ 26 rfl (by rfl) rfl rfl rfl hrun ?_
 clear hHeld
 refine hK.out _ _ hbA.cell (fun hHeld => ?_)
 clear hK K
 refine norm_ (a' := ?_) ?_ ?_
 rotate_left
 ·show Act.put _ (some 18) _ = _
  simp only [Act.put, pu_, pz_, ps_, i64_w, i32_w]
  rfl
 have hix : (O.length : Int) < (O.length : Int) + 1 := by omega
 refine pure_ (i := 6) (N := some 19) (v := ?_) (a' := ?_) #[I,I,I,I,I,I,I,Z,Z] rfl rfl (any_of HT_.out (by kernel_rfl)) (fun _ _ _ h => h) (Or.inl ⟨by rfl, ?_⟩) ?_ ?_
 rotate_left
 ·intro w'
  go_simp
  try rw [if_pos hix]
  with_reducible rfl
 rotate_left
 ·simp only [Act.put, pu_, pz_, ps_, i64_w, i32_w]
  rfl
 obtain ⟨y0, z0⟩ := hcA 0 (by decide)
 obtain ⟨y1, z1⟩ := hcA 1 (by decide)
 obtain ⟨y2, z2⟩ := hcA 2 (by decide)
 obtain ⟨y3, z3⟩ := hcA 3 (by decide)
 obtain ⟨y4, z4⟩ := hcA 4 (by decide)
 obtain ⟨y5, z5⟩ := hcA 5 (by decide)
 rw [Nat.add_zero] at z0
 have cb := hbA.cell
 have fb := hbA.frozen
 have HBA := Lib.hid hbA
 have HST1 := Lib.hid st1
 have HST2 := Lib.hid st2
 clear st1 st2 hPX hown hzz hNX hkA hcA hrun hcap hsA hbA
 refine lasts_ (i := 7) (j := 8) (Ni := none) (Nj := none) #[I,I,I,I,I,I,I,I,Z] #[I,I,I,I,I,I,I,Z,I] rfl rfl rfl rfl HT_.out (by kernel_rfl) (by decide) (by decide) (fun K hK => ?_) (fun K hK => ?_)
 ·refine skip_ (w1 := ?_) (by rfl) rfl ?_ ?_
  rotate_left
  ·go_simp
   rfl
  refine hK.out _ _ ?_
  clear hK K
  have bY : Boxed (put6 WA g (O.length * 6) (.int .i64 2) (.int .i64 0) (.int .i64 0) (.int .i64 0) (.slice ra rr.length 1) (.slice none 0 0)) Bo 26 (.slice va O.length vc) := (put6_other _ _ _ _ _ _ _ _ _ Bo (fun e => hgB e.symm)).trans HBA.out
  change wpAnyLast _ _ _ _ _ _ _ _ _ (put6 WA g (O.length * 6) (.int .i64 2) (.int .i64 0) (.int .i64 0) (.int .i64 0) (.slice ra rr.length 1) (.slice none 0 0))
  have HS1 := HST1.out
  clear z0 z1 z2 z3 z4 z5 hfA cb fb
  generalize put6 WA g (O.length * 6) (.int .i64 2) (.int .i64 0) (.int .i64 0) (.int .i64 0) (.slice ra rr.length 1) (.slice none 0 0) = WY at bY HS1 ⊢
  have cY := bY.cell
  have fY := bY.frozen
  have HSS := Lib.hid HS1
  clear bY HS1
  refine last_ (i := 8) (N := none) #[I,I,I,I,I,I,I,I,I] rfl rfl (one_of HT_.out (by kernel_rfl)) (by decide) (fun K hK => ?_)
  refine skip_ (w1 := ?_) (by rfl) rfl ?_ ?_
  rotate_left
  ·go_simp
   rfl
  refine hK.out _ _ ?_
  clear hK K
  refine done_ (done_of HT_.out (by kernel_rfl)) ?_
  clear HT_ cY fY
  go_end0
  rw [HRR.out]
  exact ⟨rfl, _, HSS.out⟩
 ·refine skip_ (w1 := ?_) (by rfl) rfl ?_ ?_
  rotate_left
  ·go_simp
   rfl
  refine hK.out _ _ ?_
  clear hK K
  have gY : ∀ o u, WA.cell? ⟨g, o, none⟩ = some u → (WA.setCell ⟨Bo, 0, none⟩ (.slice (some ⟨g, 0, none⟩) (O.length + 1) cap)).cell? ⟨g, o, none⟩ = some u := fun o u hu => by rw [World.cell?_of_block (w := WA) (a := ⟨g, o, none⟩) (Below.heap_setCell _ _ _ _ hgB)]; exact hu
  have hY : ∀ o, (WA.setCell ⟨Bo, 0, none⟩ (.slice (some ⟨g, 0, none⟩) (O.length + 1) cap)).frozen? ⟨g, o, none⟩ = false := fun o => by rw [World.frozen?_of_block (w := WA) (a := ⟨g, o, none⟩) (Below.heap_setCell _ _ _ _ hgB)]; exact hfA o
  have t0 := gY _ _ z0
  have t1 := gY _ _ z1
  have t2 := gY _ _ z2
  have t3 := gY _ _ z3
  have t4 := gY _ _ z4
  have t5 := gY _ _ z5
  have HS1 := HST2.out
  clear z0 z1 z2 z3 z4 z5 hfA cb fb gY
  generalize WA.setCell ⟨Bo, 0, none⟩ (.slice (some ⟨g, 0, none⟩) (O.length + 1) cap) = WY at t0 t1 t2 t3 t4 t5 hY HS1 ⊢
  have HSS := Lib.hid HS1
  clear HS1
  refine last_ (i := 7) (N := none) #[I,I,I,I,I,I,I,I,I] rfl rfl (one_of HT_.out (by kernel_rfl)) (by decide) (fun K hK => ?_)
  refine skip_ (w1 := ?_) (by rfl) rfl ?_ ?_
  rotate_left
  ·go_simp
   rfl
  refine hK.out _ _ ?_
  clear hK K
  refine done_ (done_of HT_.out (by kernel_rfl)) ?_
  clear HT_ t0 t1 t2 t3 t4 t5 hY
  go_end0
  rw [HRR.out]
  exact ⟨rfl, _, HSS.out⟩

set_option maxHeartbeats 8000000 in
set_option maxRecDepth 100000 in
theorem lit_fold (c : Int) (hc : -9223372036854775808 ≤ c ∧ c ≤ 9223372036854775807) (chars : Bool) (mB Bo base : Nat) (O : List NT) (W0 : World) (v0 : Value) (hBo : Bo < base) (hbs : base ≤ W0.heap.size) (hst : PutSt W0 W0 Bo base v0 v0 O) (hlen : O.length < 549755813888) (hm : W0.heap[mB]? = some (.cells #[.bool chars, .bool true] 23 (0, 0))) :
  Calls Tryd.prog 27 #[.int .i64 c, .pointer (some ⟨mB, 0, none⟩), .pointer (some ⟨Bo, 0, none⟩)] W0 fun e w' => e = .returned (.tuple #[]) ∧ ∃ v, PutSt W0 w' Bo base v0 v (O ++ [litNT true c]) := by
 obtain ⟨va, vc, rfl⟩ : ∃ va vc, v0 = .slice va O.length vc := by
  obtain ⟨cs, _, h2, _⟩ := hst.trees
  rcases h2.2 with ⟨e, e0⟩ | ⟨g, cap, cur, e, _⟩
  ·exact ⟨none, 0, by rw [e, e0]⟩
  ·exact ⟨_, _, e⟩
 have HST := Lib.hid hst
 have HB := Lib.hid (And.intro hBo hbs)
 have HO := Lib.hid hlen
 obtain ⟨WM, hWM⟩ : ∃ WM, WM = W0.alloc (.cells #[.int .i64 c, .int .i64 c] 50) := ⟨_, rfl⟩
 have hbM : Below W0.heap.size W0 WM := by rw [hWM]; exact (Below.refl _ W0).alloc (Nat.le_refl _) _
 have hrM : WM.heap[W0.heap.size]? = some (.cells #[.int .i64 c, .int .i64 c] 50 (0, 0)) := by rw [hWM]; exact World.alloc_heap_new W0 _
 have hsM : WM.heap.size = W0.heap.size + 1 := by rw [hWM]; simp
 have hmM := (hbM.block mB (Array.getElem?_eq_some_iff.1 hm).1).trans hm
 have hin : inR [(⟨c, c⟩ : S64)] = true := by simp [inR]; omega
 have hC1 := one_C hrM
 have m1 := cell_heap (i := 1) hmM rfl
 rw [hWM] at m1
 have HM := Lib.hid (And.intro hbM (And.intro hsM hWM))
 have HC1 := Lib.hid (And.intro hC1 hin)
 clear hst hBo hbs hlen hbM hrM hsM hmM hm hC1 hin hWM
 go_enter Tryd.func27, Tryd.ntmps27
 have hcf := classes_Fold.calls (some ⟨W0.heap.size, 0, none⟩) 1 [⟨c, c⟩] (Cls.fold [⟨c, c⟩]) WM HC1.out.1 (by simp) (by unfold classes_Fold.f; rw [if_pos (by simp), if_pos HC1.out.2])
 have HCF := Lib.hid hcf
 clear hcf
 go_wp2_with fail
 rw [← HM.out.2.2]
 refine HCF.out.mono ?_
 rintro e W6 ⟨vf, rfl, hR, hb6⟩
 obtain ⟨rr, hrr⟩ : ∃ rr, rr = Cls.fold [⟨c, c⟩] := ⟨_, rfl⟩
 rw [← hrr] at hR
 obtain ⟨ra, rc, rfl, hrc, hCR⟩ := Kd.R_reads hR
 have hbb : Below W0.heap.size W0 W6 := HM.out.1.trans (hb6.mono HM.out.1.size)
 have hl1 : rr.length ≤ 53 := by rw [hrr]; exact fold_length [⟨c, c⟩]
 have HP6 := Lib.hid (HST.out.below hbb)
 have HN6 := Lib.hid (show NIn W6 (fun b => W0.heap.size ≤ b ∧ b < W6.heap.size) (.mk 2 0 0 0 rr []) [.int .i64 2, .int .i64 0, .int .i64 0, .int .i64 0, .slice ra rr.length rc, .slice none 0 0] from
  NIn.mk 2 0 0 0 rr [] ra none rc 0 (fun _ => []) hCR (fun ad e hne => by
   obtain ⟨g, cap, e2, h1, h2, _⟩ := Kd.R_form hR (by cases rr with | nil => exact absurd rfl hne | cons _ _ => simp)
   simp only [Value.slice.injEq, true_and] at e2
   rw [e2.1] at e; cases e
   have := HM.out.2.1
   exact ⟨by simp only; omega, by simp only; omega⟩) hrc (by omega) (by rw [hrr]; exact inR_cls _ (toFold_inR _ HC1.out.2)) (by simp) (by simp) (fun j t h => by simp at h) (fun j h => by simp at h))
 have HRR := Lib.hid (show litNT true c = .mk 2 0 0 0 rr [] by rw [hrr]; rfl)
 clear hR hb6 hrr hrc hCR hbb hl1 HCF m1
 go_upto_region 3 with (fail)
 have HBa := Lib.hid (show Below W6.heap.size W6 W6.drew from (Below.refl _ W6).drew)
 refine start_ (n := 9) (S := fun w' => w'.cell? ⟨Bo, 0, none⟩ = some (.slice va O.length vc)) (ds := [7, 8]) #[Z,Z,Z,Z,Z,Z,Z,Z,Z] (by kernel_rfl) rfl rfl (HP6.out.below HBa.out).box.cell (fun hHeld => ?_)
 refine with_self (fun HT_ => ?_)
 generalize W6.drew = w7 at HBa hHeld ⊢
 refine take_ (i := 0) (N := some 13) (v := ?_) (a' := ?_) #[I,Z,Z,Z,Z,Z,Z,Z,Z] rfl rfl (take_of HT_.out (by kernel_rfl)) (fun _ _ _ h => h) (Or.inl ⟨by rfl, ?_⟩) hHeld ?_ ?_
 rotate_left
 ·rintro w' s0
  go_simp
  with_reducible rfl
 rotate_left
 ·simp only [Act.put, pu_, pz_, ps_, i64_w, i32_w]
  rfl
 refine pure_ (i := 1) (N := some 14) (v := ?_) (a' := ?_) #[I,I,Z,Z,Z,Z,Z,Z,Z] rfl rfl (any_of HT_.out (by kernel_rfl)) (fun _ _ _ h => h) (Or.inl ⟨by rfl, ?_⟩) ?_ ?_
 rotate_left
 ·intro w'
  go_simp
  with_reducible rfl
 rotate_left
 ·simp only [Act.put, pu_, pz_, ps_, i64_w, i32_w]
  rfl
 refine pure_ (i := 2) (N := some 15) (v := ?_) (a' := ?_) #[I,I,I,Z,Z,Z,Z,Z,Z] rfl rfl (any_of HT_.out (by kernel_rfl)) (fun _ _ _ h => h) (Or.inl ⟨by rfl, ?_⟩) ?_ ?_
 rotate_left
 ·intro w'
  go_simp
  with_reducible rfl
 rotate_left
 ·simp only [Act.put, pu_, pz_, ps_, i64_w, i32_w]
  rfl
 refine pure_ (i := 3) (N := some 16) (v := ?_) (a' := ?_) #[I,I,I,I,Z,Z,Z,Z,Z] rfl rfl (any_of HT_.out (by kernel_rfl)) (fun _ _ _ h => h) (Or.inl ⟨by rfl, ?_⟩) ?_ ?_
 rotate_left
 ·intro w'
  go_simp
  with_reducible rfl
 rotate_left
 ·simp only [Act.put, pu_, pz_, ps_, i64_w, i32_w]
  rfl
 refine one_ (i := 4) (N := some 17) #[I,I,I,I,I,Z,Z,Z,Z] rfl rfl (one_of HT_.out (by kernel_rfl)) (by decide) (fun K hK => ?_)
 refine value_ (v := .slice (some ⟨w7.heap.size, 0, none⟩) 1 1) (w1 := w7.alloc (.cells #[.int .i64 0, .int .i64 0, .int .i64 0, .int .i64 0, .slice none 0 0, .slice none 0 0] 28)) (by rfl) rfl (by go_simp; first | done | rfl) ?_
 obtain ⟨w8, hnw⟩ : ∃ x, x = w7.alloc (.cells #[.int .i64 0, .int .i64 0, .int .i64 0, .int .i64 0, .slice none 0 0, .slice none 0 0] 28) := ⟨_, rfl⟩
 rw [← hnw]
 have hBn : Below w7.heap.size w7 w8 := by rw [hnw]; exact (Below.refl _ w7).alloc (Nat.le_refl _) _
 have hzn : w8.heap[w7.heap.size]? = some (.cells #[.int .i64 0, .int .i64 0, .int .i64 0, .int .i64 0, .slice none 0 0, .slice none 0 0] 28 (0, 0)) := by rw [hnw]; exact World.alloc_heap_new w7 _
 have HB_w8 := Lib.hid (HBa.out.trans (hBn.mono HBa.out.size))
 have HZ := Lib.hid hzn
 clear hBn hzn hnw
 clear hHeld
 refine hK.out _ _ (HP6.out.below HB_w8.out).box.cell (fun hHeld => ?_)
 clear hK K
 refine norm_ (a' := ?_) ?_ ?_
 rotate_left
 ·show Act.put _ (some 17) _ = _
  simp only [Act.put, pu_, pz_, ps_, i64_w, i32_w]
  rfl
 have hPX := HP6.out.below HB_w8.out
 have hown : ∀ k, (Value.slice va O.length vc).ownBlock = some k → k < W0.heap.size := fun k hk => by obtain ⟨cs, _, h2, _⟩ := HST.out.trees; exact (h2.lt k hk).2
 have hzz : ∀ j u, zero6[j]? = some u → w8.cell? ((⟨w7.heap.size, 0, none⟩ : Addr).add j) = some u := fun j u hu => by
  rw [add_plain]
  exact cell_heap HZ.out (by simpa [zero6] using hu)
 have hNX : NIn w8 (fun b => W0.heap.size ≤ b ∧ b < w8.heap.size ∧ some b ≠ (Value.slice va O.length vc).ownBlock) (.mk 2 0 0 0 rr []) [.int .i64 2, .int .i64 0, .int .i64 0, .int .i64 0, .slice ra rr.length rc, .slice none 0 0] := (HN6.out.move (fun b hb => HB_w8.out.block b hb.2)).mono (fun b hb => ⟨hb.1, Nat.lt_of_lt_of_le hb.2 HB_w8.out.size, fun e => by have := hown b e.symm; omega⟩)
 obtain ⟨g, cap, WA, hrun, hcap, hsA, hkA, hbA, hfA, hcA, hgB, st1, st2⟩ := put_append hPX HB.out.1 HB.out.2 HO.out ⟨w7.heap.size, 0, none⟩ hzz hNX
 refine one_ (i := 5) (N := some 18) #[I,I,I,I,I,I,Z,Z,Z] rfl rfl (one_of HT_.out (by kernel_rfl)) (by decide) (fun K hK => ?_)
 refine appended_ _ _ 26 rfl (by rfl) rfl rfl rfl hrun ?_
 clear hHeld
 refine hK.out _ _ hbA.cell (fun hHeld => ?_)
 clear hK K
 refine norm_ (a' := ?_) ?_ ?_
 rotate_left
 ·show Act.put _ (some 18) _ = _
  simp only [Act.put, pu_, pz_, ps_, i64_w, i32_w]
  rfl
 have hix : (O.length : Int) < (O.length : Int) + 1 := by omega
 refine pure_ (i := 6) (N := some 19) (v := ?_) (a' := ?_) #[I,I,I,I,I,I,I,Z,Z] rfl rfl (any_of HT_.out (by kernel_rfl)) (fun _ _ _ h => h) (Or.inl ⟨by rfl, ?_⟩) ?_ ?_
 rotate_left
 ·intro w'
  go_simp
  try rw [if_pos hix]
  with_reducible rfl
 rotate_left
 ·simp only [Act.put, pu_, pz_, ps_, i64_w, i32_w]
  rfl
 obtain ⟨y0, z0⟩ := hcA 0 (by decide)
 obtain ⟨y1, z1⟩ := hcA 1 (by decide)
 obtain ⟨y2, z2⟩ := hcA 2 (by decide)
 obtain ⟨y3, z3⟩ := hcA 3 (by decide)
 obtain ⟨y4, z4⟩ := hcA 4 (by decide)
 obtain ⟨y5, z5⟩ := hcA 5 (by decide)
 rw [Nat.add_zero] at z0
 have cb := hbA.cell
 have fb := hbA.frozen
 have HBA := Lib.hid hbA
 have HST1 := Lib.hid st1
 have HST2 := Lib.hid st2
 clear st1 st2 hPX hown hzz hNX hkA hcA hrun hcap hsA hbA
 refine lasts_ (i := 7) (j := 8) (Ni := none) (Nj := none) #[I,I,I,I,I,I,I,I,Z] #[I,I,I,I,I,I,I,Z,I] rfl rfl rfl rfl HT_.out (by kernel_rfl) (by decide) (by decide) (fun K hK => ?_) (fun K hK => ?_)
 ·refine skip_ (w1 := ?_) (by rfl) rfl ?_ ?_
  rotate_left
  ·go_simp
   rfl
  refine hK.out _ _ ?_
  clear hK K
  have bY : Boxed (put6 WA g (O.length * 6) (.int .i64 2) (.int .i64 0) (.int .i64 0) (.int .i64 0) (.slice ra rr.length rc) (.slice none 0 0)) Bo 26 (.slice va O.length vc) := (put6_other _ _ _ _ _ _ _ _ _ Bo (fun e => hgB e.symm)).trans HBA.out
  change wpAnyLast _ _ _ _ _ _ _ _ _ (put6 WA g (O.length * 6) (.int .i64 2) (.int .i64 0) (.int .i64 0) (.int .i64 0) (.slice ra rr.length rc) (.slice none 0 0))
  have HS1 := HST1.out
  clear z0 z1 z2 z3 z4 z5 hfA cb fb
  generalize put6 WA g (O.length * 6) (.int .i64 2) (.int .i64 0) (.int .i64 0) (.int .i64 0) (.slice ra rr.length rc) (.slice none 0 0) = WY at bY HS1 ⊢
  have cY := bY.cell
  have fY := bY.frozen
  have HSS := Lib.hid HS1
  clear bY HS1
  refine last_ (i := 8) (N := none) #[I,I,I,I,I,I,I,I,I] rfl rfl (one_of HT_.out (by kernel_rfl)) (by decide) (fun K hK => ?_)
  refine skip_ (w1 := ?_) (by rfl) rfl ?_ ?_
  rotate_left
  ·go_simp
   rfl
  refine hK.out _ _ ?_
  clear hK K
  refine done_ (done_of HT_.out (by kernel_rfl)) ?_
  clear HT_ cY fY
  go_end0
  rw [HRR.out]
  exact ⟨rfl, _, HSS.out⟩
 ·refine skip_ (w1 := ?_) (by rfl) rfl ?_ ?_
  rotate_left
  ·go_simp
   rfl
  refine hK.out _ _ ?_
  clear hK K
  have gY : ∀ o u, WA.cell? ⟨g, o, none⟩ = some u → (WA.setCell ⟨Bo, 0, none⟩ (.slice (some ⟨g, 0, none⟩) (O.length + 1) cap)).cell? ⟨g, o, none⟩ = some u := fun o u hu => by rw [World.cell?_of_block (w := WA) (a := ⟨g, o, none⟩) (Below.heap_setCell _ _ _ _ hgB)]; exact hu
  have hY : ∀ o, (WA.setCell ⟨Bo, 0, none⟩ (.slice (some ⟨g, 0, none⟩) (O.length + 1) cap)).frozen? ⟨g, o, none⟩ = false := fun o => by rw [World.frozen?_of_block (w := WA) (a := ⟨g, o, none⟩) (Below.heap_setCell _ _ _ _ hgB)]; exact hfA o
  have t0 := gY _ _ z0
  have t1 := gY _ _ z1
  have t2 := gY _ _ z2
  have t3 := gY _ _ z3
  have t4 := gY _ _ z4
  have t5 := gY _ _ z5
  have HS1 := HST2.out
  clear z0 z1 z2 z3 z4 z5 hfA cb fb gY
  generalize WA.setCell ⟨Bo, 0, none⟩ (.slice (some ⟨g, 0, none⟩) (O.length + 1) cap) = WY at t0 t1 t2 t3 t4 t5 hY HS1 ⊢
  have HSS := Lib.hid HS1
  clear HS1
  refine last_ (i := 7) (N := none) #[I,I,I,I,I,I,I,I,I] rfl rfl (one_of HT_.out (by kernel_rfl)) (by decide) (fun K hK => ?_)
  refine skip_ (w1 := ?_) (by rfl) rfl ?_ ?_
  rotate_left
  ·go_simp
   rfl
  refine hK.out _ _ ?_
  clear hK K
  refine done_ (done_of HT_.out (by kernel_rfl)) ?_
  clear HT_ t0 t1 t2 t3 t4 t5 hY
  go_end0
  rw [HRR.out]
  exact ⟨rfl, _, HSS.out⟩

theorem lit_calls (c : Int) (hc : -9223372036854775808 ≤ c ∧ c ≤ 9223372036854775807) (chars fold : Bool) (mB Bo base : Nat) (O : List NT) (W0 : World) (v0 : Value) (hBo : Bo < base) (hbs : base ≤ W0.heap.size) (hst : PutSt W0 W0 Bo base v0 v0 O) (hlen : O.length < 549755813888) (hm : W0.heap[mB]? = some (.cells #[.bool chars, .bool fold] 23 (0, 0))) :
  Calls Tryd.prog 27 #[.int .i64 c, .pointer (some ⟨mB, 0, none⟩), .pointer (some ⟨Bo, 0, none⟩)] W0 fun e w' => e = .returned (.tuple #[]) ∧ ∃ v, PutSt W0 w' Bo base v0 v (O ++ [litNT fold c]) := by
 cases fold with
 | false => exact lit_plain c hc chars mB Bo base O W0 v0 hBo hbs hst hlen hm
 | true => exact lit_fold c hc chars mB Bo base O W0 v0 hBo hbs hst hlen hm
end Go.Proofs.YtamhkdlcoghdbaaDoor.PCls
