/- Put together (wip/tools/pack.py): QYPClsx7, QYLOne, QRm, QL1, QLy, QRo. -/
import Derived.Test.YtamhkdlcoghdbaaGreatDoorKQYWp
import Derived.Test.YtamhkdlcoghdbaaGreatDoorKMQLw
/- Out of YPClsx7 (wip/tools/prune2.py): the declarations alone that the texts of the trees name. -/
namespace Go.Proofs.YtamhkdlcoghdbaaGreatDoor.PCls
open Go.RowKit Go.Proofs.YtamhkdlcoghdbaaGreatDoorW.PrintWords Go.Proofs.YtamhkdlcoghdbaaGreatDoorW.PrintLast Go.Proofs.YtamhkdlcoghdbaaGreatDoorW.PrintMore
attribute [local go_sem] max2_int min2_int max_two min_two max_three min_three max_four min_four   -- for this text's walks alone
set_option linter.unusedVariables false
set_option linter.unusedSimpArgs false
attribute [local go_sem high] eqA64
def dredgeref06_Alike.l0 : Nat → List (S64) → List (S64) → Int → Option (Bool)
 | 0, _, _, _ => none
 | k + 1, x0, x1, x5 => if x5 < (x0.length : Int) then (if 0 ≤ x5 then (if x5 < (x1.length : Int) then (if (!(((rd_T64 x0 x5).f0) == ((rd_T64 x1 x5).f0)) || (!(((rd_T64 x0 x5).f1) == ((rd_T64 x1 x5).f1)))) = true then (some false) else (dredgeref06_Alike.l0 k x0 x1 (wrap64 (x5 + 1)))) else (none)) else (none)) else (some true)
def dredgeref06_Alike.f (k : Nat) (l0 : List (S64)) (l1 : List (S64)) : Option (Bool) := if (l0.length : Int) = (l1.length : Int) then (dredgeref06_Alike.l0 k l0 l1 0) else (some false)
set_option maxHeartbeats 8000000 in
set_option maxRecDepth 100000 in
theorem dredgeref06_Alike.calls (k : Nat) (A0 : Option Addr) (c0 : Nat) (l0 : List (S64)) (A1 : Option Addr) (c1 : Nat) (l1 : List (S64)) (r : Bool) (w : World) (hr0 : Kd.C k64 w A0 l0.length l0) (hc0 : l0.length ≤ c0) (hr1 : Kd.C k64 w A1 l1.length l1) (hc1 : l1.length ≤ c1) (h : dredgeref06_Alike.f k l0 l1 = some r) :
  Calls Tryz.prog 43 #[.slice A0 l0.length c0, .slice A1 l1.length c1] w fun e w' => e = .returned (.bool r) ∧ Drawn0 w w' := by
 have hu64 := Tryz.underlying39
 have HR0 := Aside0.mk hr0
 have HC0 := Aside0.mk hc0
 clear hr0 hc0
 have HR1 := Aside0.mk hr1
 have HC1 := Aside0.mk hc1
 clear hr1 hc1
 have H : (if (l0.length : Int) = (l1.length : Int) then (dredgeref06_Alike.l0 k l0 l1 0) else (some false)) = some r := h
 clear h
 by_cases c3 : (l0.length : Int) = (l1.length : Int)
 ·rw [if_pos c3] at H
  have c3b0 : ((l0.length : Int) == (l1.length : Int)) = true := beq_iff_eq.mpr c3
  have c3b1 : ((l0.length : Int) != (l1.length : Int)) = false := bne_eq_false_iff_eq.mpr c3
  have c3b2 : (l0.length == l1.length) = true := by first | simpa using c3 | (simp at c3 ⊢; omega)
  clear c3
  have H' := Aside0.mk H
  clear H
  go_enter Tryz.func43, Tryz.ntmps43
  go_wp2
  repeat (go_quiet (fail); try go_wp2)
  go_loopg [5] k (fun kq v5 w' => ∃ (x5_1 : Int), v5 = .int .i64 x5_1 ∧ Aside0 (dredgeref06_Alike.l0 kq l0 l1 x5_1 = some r) ∧ Aside0 (kq ≤ k) ∧ Drawn0 w w')
  case atStart => exact ⟨(0), (by first | rfl | (simp; done) | (simp [*]; done)), H', ⟨Nat.le_refl _⟩, by repeat (first | exact Drawn0.refl _ | apply Drawn0.step)⟩
  case round =>
   clear H'
   try clear c1
   try clear c2
   try clear p2
   try clear c3
   try clear c3b0
   try clear c3b1
   try clear c3b2
   obtain ⟨x5_1, rfl, HA, HK1, ⟨m1, rfl⟩⟩ := hrel
   cases gk with
   | zero => exact absurd HA.out (by simp [dredgeref06_Alike.l0])
   | succ k1 =>
    have H := HA.out
    clear HA
    simp only [dredgeref06_Alike.l0] at H
    by_cases c4 : x5_1 < (l0.length : Int)
    ·rw [if_pos c4] at H
     have c4b0 : decide (x5_1 < (l0.length : Int)) = true := decide_eq_true c4
     clear c4
     by_cases c5 : 0 ≤ x5_1
     ·rw [if_pos c5] at H
      have c5b0 : decide (0 ≤ x5_1) = true := decide_eq_true c5
      clear c5
      by_cases c6 : x5_1 < (l1.length : Int)
      ·rw [if_pos c6] at H
       have c6b0 : decide (x5_1 < (l1.length : Int)) = true := decide_eq_true c6
       clear c6
       by_cases c7 : (!(((rd_T64 l0 x5_1).f0) == ((rd_T64 l1 x5_1).f0)) || (!(((rd_T64 l0 x5_1).f1) == ((rd_T64 l1 x5_1).f1)))) = true
       ·rw [if_pos c7] at H
        have c7b0 : (!(((rd_T64 l0 x5_1).f0) == ((rd_T64 l1 x5_1).f0)) || (!(((rd_T64 l0 x5_1).f1) == ((rd_T64 l1 x5_1).f1)))) = true := c7
        clear c7
        obtain rfl := Option.some.inj H
        have p169 : 0 ≤ (x5_1 : Int) := of_decide_eq_true (by first | (with_reducible assumption) | assumption)
        have q169 : x5_1 < (l0.length : Int) := of_decide_eq_true (by first | (with_reducible assumption) | assumption)
        obtain ⟨ad169, e169, hx169_0, hx169_1⟩ := at_T64 HR0.out x5_1 p169 q169
        cases e169
        replace p169 := eq_true p169
        replace q169 := eq_true q169
        have p170 : 0 ≤ (x5_1 : Int) := of_decide_eq_true (by first | (with_reducible assumption) | assumption)
        have q170 : x5_1 < (l1.length : Int) := of_decide_eq_true (by first | (with_reducible assumption) | assumption)
        obtain ⟨ad170, e170, hx170_0, hx170_1⟩ := at_T64 HR1.out x5_1 p170 q170
        cases e170
        replace p170 := eq_true p170
        replace q170 := eq_true q170
        go_wp2
        repeat (go_quiet (fail); try go_wp2)
        go_ret
        exact ⟨by first | rfl | (simp; done) | (simp [*]; done), by repeat (first | exact Drawn0.refl _ | apply Drawn0.step)⟩
       ·rw [if_neg c7] at H
        have c7b0 : (!(((rd_T64 l0 x5_1).f0) == ((rd_T64 l1 x5_1).f0)) || (!(((rd_T64 l0 x5_1).f1) == ((rd_T64 l1 x5_1).f1)))) = false := by simpa using c7
        clear c7
        have H' := Aside0.mk H
        clear H
        have p169 : 0 ≤ (x5_1 : Int) := of_decide_eq_true (by first | (with_reducible assumption) | assumption)
        have q169 : x5_1 < (l0.length : Int) := of_decide_eq_true (by first | (with_reducible assumption) | assumption)
        obtain ⟨ad169, e169, hx169_0, hx169_1⟩ := at_T64 HR0.out x5_1 p169 q169
        cases e169
        replace p169 := eq_true p169
        replace q169 := eq_true q169
        have p170 : 0 ≤ (x5_1 : Int) := of_decide_eq_true (by first | (with_reducible assumption) | assumption)
        have q170 : x5_1 < (l1.length : Int) := of_decide_eq_true (by first | (with_reducible assumption) | assumption)
        obtain ⟨ad170, e170, hx170_0, hx170_1⟩ := at_T64 HR1.out x5_1 p170 q170
        cases e170
        replace p170 := eq_true p170
        replace q170 := eq_true q170
        go_wp2
        repeat (go_quiet (fail); try go_wp2)
        go_roundg k1
        case measure => have := HK1.out; omega
        case rel => exact ⟨(wrap64 (x5_1 + 1)), (by first | rfl | (simp; done) | (simp [*]; done)), H', ⟨by have := HK1.out; omega⟩, by repeat (first | exact Drawn0.refl _ | apply Drawn0.step)⟩
      ·rw [if_neg c6] at H
       exact absurd H (by simp)
     ·rw [if_neg c5] at H
      exact absurd H (by simp)
    ·rw [if_neg c4] at H
     have c4b0 : decide (x5_1 < (l0.length : Int)) = false := decide_eq_false c4
     clear c4
     obtain rfl := Option.some.inj H
     go_wp2
     repeat (go_quiet (fail); try go_wp2)
     go_ret
     exact ⟨by first | rfl | (simp; done) | (simp [*]; done), by repeat (first | exact Drawn0.refl _ | apply Drawn0.step)⟩
 ·rw [if_neg c3] at H
  have c3b0 : ((l0.length : Int) == (l1.length : Int)) = false := beq_eq_false_iff_ne.mpr c3
  have c3b1 : ((l0.length : Int) != (l1.length : Int)) = true := bne_iff_ne.mpr c3
  have c3b2 : (l0.length == l1.length) = false := by first | simpa using c3 | (simp at c3 ⊢; omega)
  obtain rfl := Option.some.inj H
  go_enter Tryz.func43, Tryz.ntmps43
  go_wp2
  repeat (go_quiet (fail); try go_wp2)
  go_ret
  exact ⟨by first | rfl | (simp; done) | (simp [*]; done), by repeat (first | exact Drawn0.refl _ | apply Drawn0.step)⟩
end Go.Proofs.YtamhkdlcoghdbaaGreatDoor.PCls
/- Out of YLOne (wip/tools/prune2.py): the declarations alone that the texts of the trees name. -/
namespace Go.Proofs.YtamhkdlcoghdbaaGreatDoor.PCls
open Go.RowKit Go.Proofs.YtamhkdlcoghdbaaGreatDoorW.PrintWords Go.Proofs.YtamhkdlcoghdbaaGreatDoorW.PrintLast Go.Proofs.YtamhkdlcoghdbaaGreatDoorW.PrintMore
set_option linter.unusedVariables false
set_option linter.unusedSimpArgs false
end Go.Proofs.YtamhkdlcoghdbaaGreatDoor.PCls
namespace Go.Proofs.YtamhkdlcoghdbaaGreatDoor.PCls
open Go.RowKit Go.Proofs.YtamhkdlcoghdbaaGreatDoorW.PrintWords Go.Proofs.YtamhkdlcoghdbaaGreatDoorW.PrintLast Go.Proofs.YtamhkdlcoghdbaaGreatDoorW.PrintMore
set_option linter.unusedVariables false
set_option linter.unusedSimpArgs false
/-- every number lies between -/
theorem inR_of_mem (l : List S64) (hc : Cls.Can l) (h : ∀ c, Cls.Mem l c → -9223372036854775808 ≤ c ∧ c ≤ 9223372036854775807) : inR l = true := by
 refine (inR_iff l).2 fun r hr => ?_
 have hle := hc.2 r hr
 have a := h r.f0 ⟨r, hr, Int.le_refl _, hle⟩
 have b := h r.f1 ⟨r, hr, hle, Int.le_refl _⟩
 omega
theorem mem_inR (l : List S64) (h : inR l = true) (c : Int) (hm : Cls.Mem l c) : -9223372036854775808 ≤ c ∧ c ≤ 9223372036854775807 := by
 obtain ⟨r, hr, h0, h1⟩ := hm
 have := (inR_iff l).1 h r hr
 omega
theorem inR_cls (l : List S64) (h : inR l = true) : inR (Cls.cls l) = true := inR_of_mem _ (Cls.cls_can l) fun c hc => mem_inR l h c ((Cls.cls_mem l c).1 hc)
end Go.Proofs.YtamhkdlcoghdbaaGreatDoor.PCls
namespace Go.Proofs.YtamhkdlcoghdbaaGreatDoor.PCls
open Go.RowKit Go.Proofs.YtamhkdlcoghdbaaGreatDoorW.PrintWords Go.Proofs.YtamhkdlcoghdbaaGreatDoorW.PrintLast Go.Proofs.YtamhkdlcoghdbaaGreatDoorW.PrintMore
set_option linter.unusedVariables false
set_option linter.unusedSimpArgs false
end Go.Proofs.YtamhkdlcoghdbaaGreatDoor.PCls
namespace Go.Proofs.YtamhkdlcoghdbaaGreatDoor.PCls
open Go.RowKit Go.Proofs.YtamhkdlcoghdbaaGreatDoorW.PrintWords Go.Proofs.YtamhkdlcoghdbaaGreatDoorW.PrintLast Go.Proofs.YtamhkdlcoghdbaaGreatDoorW.PrintMore
set_option linter.unusedVariables false
set_option linter.unusedSimpArgs false
end Go.Proofs.YtamhkdlcoghdbaaGreatDoor.PCls
namespace Go.Proofs.YtamhkdlcoghdbaaGreatDoor.PCls
open Go.RowKit Go.Proofs.YtamhkdlcoghdbaaGreatDoorW.PrintWords Go.Proofs.YtamhkdlcoghdbaaGreatDoorW.PrintLast Go.Proofs.YtamhkdlcoghdbaaGreatDoorW.PrintMore
set_option linter.unusedVariables false
set_option linter.unusedSimpArgs false
theorem alike_loop : ∀ (s p a : List S64) (k : Nat), s.length < k → (p ++ s).length < 8796093022208 → p.length ≤ a.length → a = p ++ a.drop p.length → (p ++ s).length = a.length →
  dredgeref06_Alike.l0 k (p ++ s) a (p.length : Int) = some (decide (s = a.drop p.length)) := by
 intro s
 induction s with
 | nil =>
  intro p a k hk hl hp ha he
  obtain ⟨k, rfl⟩ : ∃ m, k = m + 1 := ⟨k - 1, by simp at hk; omega⟩
  simp only [dredgeref06_Alike.l0]
  rw [if_neg (by simp)]
  simp at he
  simp [he]
 | cons x s ih =>
  intro p a k hk hl hp ha he
  obtain ⟨k, rfl⟩ : ∃ m, k = m + 1 := ⟨k - 1, by simp at hk; omega⟩
  have hl2 : (p.length : Int) < ((p ++ x :: s).length : Int) := by simp; omega
  have hpa : p.length < a.length := by rw [← he]; simp
  have hdrop : a.drop p.length = a[p.length] :: a.drop (p.length + 1) := List.drop_eq_getElem_cons hpa
  simp at hl hk
  simp only [dredgeref06_Alike.l0]
  rw [if_pos hl2, if_pos (by omega), if_pos (by omega), rd_mid, rd_at a p.length hpa, w64_lit ((p.length : Int) + 1) (by omega) (by omega), hdrop]
  by_cases hx : x = a[p.length]
  ·rw [if_neg (by rw [hx]; simp)]
   have h := ih (p ++ [x]) a k (by omega) (by simp; omega) (by simp; omega) (by rw [List.length_append, List.length_singleton, List.append_assoc, hx, List.singleton_append, ← hdrop]; exact ha) (by simpa using he)
   simp only [List.append_assoc, List.singleton_append, List.length_append, List.length_singleton] at h
   rw [show ((p.length + 1 : Nat) : Int) = (p.length : Int) + 1 by omega] at h
   rw [h]
   simp only [hx, List.cons.injEq, true_and]
  ·rw [if_pos (by
    cases x with | mk x0 x1 =>
    cases hq : a[p.length] with | mk y0 y1 =>
    rw [hq] at hx
    simp at hx ⊢
    by_cases h0 : x0 = y0
    ·exact .inr (hx h0)
    ·exact .inl h0)]
   simp only [hx, List.cons.injEq, false_and, decide_false]
theorem alike_ends (a b : List S64) (hl : a.length < 8796093022208) : Ends (fun k => dredgeref06_Alike.f k a b) (decide (a = b)) := by
 refine ⟨a.length + 1, fun k hk => ?_⟩
 show dredgeref06_Alike.f k a b = _
 unfold dredgeref06_Alike.f
 by_cases h : a.length = b.length
 ·rw [if_pos (by omega)]
  have := alike_loop a [] b k (by omega) (by simpa using hl) (by simp) (by simp) (by simpa using h)
  simpa using this
 ·rw [if_neg (by omega)]
  rw [decide_eq_false (fun e => h (by rw [e]))]
end Go.Proofs.YtamhkdlcoghdbaaGreatDoor.PCls
/- Out of Rm (wip/tools/prune2.py): the declarations alone that the texts of the trees name. -/
namespace Go.Proofs.YtamhkdlcoghdbaaGreatDoor.PCls
open Go.RowKit Go.Shelf Go.Proofs.YtamhkdlcoghdbaaGreatDoorW.PrintWords Go.Proofs.YtamhkdlcoghdbaaGreatDoorW.PrintLast Go.Proofs.YtamhkdlcoghdbaaGreatDoorW.PrintMore
set_option linter.unusedVariables false
set_option linter.unusedSimpArgs false
theorem own_form {W : World} {base : Nat} {e : TypeId} {size n : Nat} {v : Value} {xs : List Value} (h : W.ownsRow base e size v n xs) : ∃ A c, v = .slice A n c ∧ n ≤ c := by
 rcases h.2 with ⟨rfl, h0⟩ | ⟨g, cap, cur, rfl, _, _, hc, _⟩
 ·exact ⟨none, 0, by rw [h0], by omega⟩
 ·exact ⟨_, _, rfl, hc⟩
theorem below_drawn9 {B : Nat} {w0 w w' : World} (h : Below B w0 w) (hd : Drawn0 w w') : Below B w0 w' := by
 obtain ⟨m, rfl⟩ := hd; exact wN h m
theorem alike_own (W : World) (b1 b2 : Nat) (A1 A2 : Option Addr) (c1 c2 : Nat) (r : List S64) (h1 : W.ownsRow b1 39 2 (.slice A1 r.length c1) r.length (rowOf r)) (h2 : W.ownsRow b2 39 2 (.slice A2 r.length c2) r.length (rowOf r)) (hl : r.length < 8796093022208) :
  Calls Tryz.prog 43 #[.slice A1 r.length c1, .slice A2 r.length c2] W fun e w' => e = .returned (.bool true) ∧ Below W.heap.size W w' := by
 obtain ⟨k3, f3⟩ := (alike_ends r r hl).get
 rw [show decide (r = r) = true by simp] at f3
 obtain ⟨_, _, e1, l1, hk1⟩ := Kd.R_reads (R_of_own (ok := fun _ => True) h1 (fun _ _ => trivial))
 obtain ⟨_, _, e2, l2, hk2⟩ := Kd.R_reads (R_of_own (ok := fun _ => True) h2 (fun _ _ => trivial))
 cases e1
 cases e2
 exact (dredgeref06_Alike.calls k3 _ _ r _ _ r true W hk1 l1 hk2 l2 f3).mono (fun e w' h => ⟨h.1, below_drawn9 (Below.refl W.heap.size W) h.2⟩)
set_option maxHeartbeats 4000000 in
set_option maxRecDepth 100000 in
theorem toksame_calls (W : World) (out : List Tok) (V U : Value) (b1 b2 : Nat) (h1 : ToksAt W b1 V out) (h2 : ToksAt W b2 U out) (hl : out.length ≤ 1000000) :
  Calls Tryz.prog 16 #[V, U] W fun e w' => e = .returned (.bool true) ∧ Below W.heap.size W w' := by
 obtain ⟨A1, cp1, rfl, hcp1, rv1, hf1⟩ := h1.form2
 obtain ⟨A2, cp2, rfl, hcp2, rv2, hf2⟩ := h2.form2
 have HF := Lib.hid (And.intro hf1 hf2)
 clear h1 h2 hf1 hf2
 go_enter Tryz.func16, Tryz.ntmps16
 go_wp2_with fail
 go_loopg [5] (out.length) (fun gg s5 wr => ∃ (i : Nat), i ≤ out.length ∧ s5 = .int .i64 i ∧ Aside0 (Below W.heap.size W wr) ∧ out.length - i ≤ gg)
 case atStart => exact ⟨0, Nat.zero_le _, rfl, ⟨Below.refl _ _⟩, by omega⟩
 case round =>
  obtain ⟨i, hi, rfl, HW, hgg⟩ := hrel
  by_cases hlt : i < out.length
  ·obtain ⟨t, ht⟩ : ∃ t, out[i]? = some t := ⟨_, List.getElem?_eq_getElem hlt⟩
   obtain ⟨⟨g1, rfl, hc⟩, hr1⟩ := HF.out.1 i t ht
   obtain ⟨⟨g2, rfl, hd⟩, hr2⟩ := HF.out.2 i t ht
   obtain ⟨B1, b1, e1, _⟩ := own_form hr1.1
   obtain ⟨B2, b2, e2, _⟩ := own_form hr2.1
   have hcc : ∀ k u, (tokV t (rv1 i))[k]? = some u → wr.cell? ⟨g1, i * 7 + k, none⟩ = some u := fun k u hu => (HW.out.cell (p := ⟨g1, i * 7 + k, none⟩) (block_lt_of_cell (hc k u hu))).trans (hc k u hu)
   have hdd : ∀ k u, (tokV t (rv2 i))[k]? = some u → wr.cell? ⟨g2, i * 7 + k, none⟩ = some u := fun k u hu => (HW.out.cell (p := ⟨g2, i * 7 + k, none⟩) (block_lt_of_cell (hd k u hu))).trans (hd k u hu)
   have ho1 := ownMove (B := wr) hr1.1 (fun k hk => HW.out.block k (ownLt hr1.1 k hk).2)
   have ho2 := ownMove (B := wr) hr2.1 (fun k hk => HW.out.block k (ownLt hr2.1 k hk).2)
   rw [e1] at hcc ho1
   rw [e2] at hdd ho2
   have hrl := hr1.2.2.1
   have hg1 : g1 < wr.heap.size := block_lt_of_cell (hcc 0 _ rfl)
   have hg2 : g2 < wr.heap.size := block_lt_of_cell (hdd 0 _ rfl)
   have c0 := hcc 0 _ rfl
   have c1 := hcc 1 _ rfl
   have c2 := hcc 2 _ rfl
   have c3 := hcc 3 _ rfl
   have c4 := hcc 4 _ rfl
   have c5 := hcc 5 _ rfl
   have c6 := hcc 6 _ rfl
   have f0 := hdd 0 _ rfl
   have f1 := hdd 1 _ rfl
   have f2 := hdd 2 _ rfl
   have f3 := hdd 3 _ rfl
   have f4 := hdd 4 _ rfl
   have f5 := hdd 5 _ rfl
   have f6 := hdd 6 _ rfl
   rw [Nat.add_zero] at c0 f0
   have hi9 : i + 1 < 900000000000000 := by omega
   have hlz : (i : Int) < (out.length : Int) := by omega
   have HAL := Lib.hid (fun (X : World) (hb : Below wr.heap.size wr X) => alike_own X _ _ B1 B2 b1 b2 t.r (ownMove (B := X) ho1 (fun k hk => hb.block k (ownLt ho1 k hk).2)) (ownMove (B := X) ho2 (fun k hk => hb.block k (ownLt ho2 k hk).2)) hrl)
   generalize t.kind = kd at *
   generalize t.sat = sa at *
   generalize t.fin = fi at *
   generalize t.n = nn at *
   generalize t.lo = lo at *
   generalize t.hi = hh at *
   generalize t.r.length = rl at *
   clear hcc hdd e1 e2 hr1 hr2 hc hd ht ho1 ho2 hrl HF
   have HB2 := Lib.hid (show Below wr.heap.size wr ((wr.alloc (.cells #[.int .i64 kd, .int .i64 sa, .int .i64 fi, .int .i64 nn, .int .i64 lo, .int .i64 hh, .slice B1 rl b1] 37)).alloc (.cells #[.int .i64 kd, .int .i64 sa, .int .i64 fi, .int .i64 nn, .int .i64 lo, .int .i64 hh, .slice B2 rl b2] 37)) from ((Below.refl _ wr).alloc (Nat.le_refl _) _).alloc (by simp) _)
   go_wp2_with fail
   refine (HAL.out _ HB2.out).mono ?_
   rintro e w5 ⟨rfl, hb5⟩
   obtain ⟨X, hX⟩ : ∃ X, X = (wr.alloc (.cells #[.int .i64 kd, .int .i64 sa, .int .i64 fi, .int .i64 nn, .int .i64 lo, .int .i64 hh, .slice B1 rl b1] 37)) := ⟨_, rfl⟩
   have k1 := heap_alloc_new wr (.cells #[.int .i64 kd, .int .i64 sa, .int .i64 fi, .int .i64 nn, .int .i64 lo, .int .i64 hh, .slice B1 rl b1] 37)
   rw [← hX] at k1 hb5 HB2
   have hxs : X.heap.size = wr.heap.size + 1 := by rw [hX]; simp
   have k2 := heap_alloc_new X (.cells #[.int .i64 kd, .int .i64 sa, .int .i64 fi, .int .i64 nn, .int .i64 lo, .int .i64 hh, .slice B2 rl b2] 37)
   have k1' := (hb5.block wr.heap.size (by simp; omega)).trans ((heap_alloc_old X _ (by omega)).trans k1)
   have k2' := (hb5.block X.heap.size (by simp)).trans k2
   rw [hxs] at k2'
   have HB5 := Lib.hid (HW.out.trans ((HB2.out.trans (hb5.mono HB2.out.size)).mono HW.out.size))
   have a0 := lk_cell (i := 0) k1' rfl
   have a1 := lk_cell (i := 1) k1' rfl
   have a2 := lk_cell (i := 2) k1' rfl
   have a3 := lk_cell (i := 3) k1' rfl
   have a4 := lk_cell (i := 4) k1' rfl
   have a5 := lk_cell (i := 5) k1' rfl
   have z0 := lk_cell (i := 0) k2' rfl
   have z1 := lk_cell (i := 1) k2' rfl
   have z2 := lk_cell (i := 2) k2' rfl
   have z3 := lk_cell (i := 3) k2' rfl
   have z4 := lk_cell (i := 4) k2' rfl
   have z5 := lk_cell (i := 5) k2' rfl
   clear hX k1 k2 k1' k2' hxs hb5 HB2 HAL c0 c1 c2 c3 c4 c5 c6 f0 f1 f2 f3 f4 f5 f6
   go_wp2_with fail
   go_roundg (out.length - (i + 1))
   case measure => omega
   case rel => exact ⟨i + 1, hlt, by go_num, ⟨HB5.out⟩, Nat.le_refl _⟩
  ·have hlz : ¬ (i : Int) < (out.length : Int) := by omega
   clear HF
   go_wp2_with fail
   go_ret
   exact ⟨rfl, HW.out⟩
end Go.Proofs.YtamhkdlcoghdbaaGreatDoor.PCls
/- Out of L1 (wip/tools/prune2.py): the declarations alone that the texts of the trees name. -/
namespace Go.Proofs.YtamhkdlcoghdbaaGreatDoor.PCls
open Go.RowKit Go.Shelf Go.Proofs.YtamhkdlcoghdbaaGreatDoorW.PrintWords Go.Proofs.YtamhkdlcoghdbaaGreatDoorW.PrintLast Go.Proofs.YtamhkdlcoghdbaaGreatDoorW.PrintMore
set_option linter.unusedVariables false
set_option linter.unusedSimpArgs false
set_option maxHeartbeats 4000000 in
set_option maxRecDepth 100000 in
theorem lexex_calls (w : World) (m : Int) (hm : w.cell? ⟨2, 0, none⟩ = some (.int .i64 m)) (h2 : 2 < w.heap.size) (hT : Lib.Utf8Tabs 0 1 w) :
  Calls Tryz.prog 12 #[] w fun e w' => e = .returned (.bool true) ∧ Below w.heap.size w w' := by
 have HL := Lib.hid (lex_calls w ⟨#[97, 42]⟩ false false m (by decide) hm h2 hT)
 rw [ex_a] at HL
 have HW := Lib.hid (fun (w1 : World) (hb : Below w.heap.size w w1) (s : ByteArray) (c p : Int) hs h => wrong_calls w1 s c p m hs ((hb.cell (p := ⟨2, 0, none⟩) h2).trans hm) (Nat.lt_of_lt_of_le h2 hb.size) (tabs_below hT hb) h)
 clear hm h2 hT
 go_enter Tryz.func12, Tryz.ntmps12
 go_wp2_with fail
 refine HL.out.mono ?_
 rintro e w1 ⟨hb, V, rfl, ht⟩
 have HB := Lib.hid hb
 obtain ⟨A, c, rfl, hc, rv, hf⟩ := ht.form2
 obtain ⟨⟨g, rfl, h0⟩, hr⟩ := hf 0 _ rfl
 obtain ⟨⟨g', e1, h1⟩, _⟩ := hf 1 _ rfl
 cases e1
 have a0 := h0 0 _ rfl
 have a6 := h0 6 _ rfl
 have b0 := h1 0 _ rfl
 have b1 := h1 1 _ rfl
 have b2 := h1 2 _ rfl
 have b5 := h1 5 _ rfl
 obtain ⟨r0, hr0⟩ : ∃ r, r = rv 0 := ⟨_, rfl⟩
 rw [← hr0] at a6 hr
 have hown := hr.1
 rcases hown.2 with ⟨_, hz⟩ | ⟨g2, cap, cur, e2, _, hh, hcc, _, hsz, htk⟩
 ·cases hz
 simp only [List.length_cons, List.length_nil] at e2 hcc hc
 subst e2
 have r1 : w1.cell? ⟨g2, 0, none⟩ = some (.int .i64 97) := lk_cell hh (by
  have h4 := congrArg (fun l : List Value => l[0]?) htk
  simp only [rowOf, List.getElem?_take] at h4
  simpa [enc2] using h4)
 clear h0 h1 hr hown hh htk hsz hf ht hb hr0
 simp only [Nat.zero_mul, Nat.one_mul, Nat.add_zero, Nat.zero_add, Nat.reduceAdd, List.length_cons, List.length_nil] at *
 go_wp2_with fail
 refine (HW.out w1 HB.out _ _ _ (by decide) ex_b).mono ?_
 rintro e w2 ⟨rfl, hb⟩
 have HB2 := Lib.hid (Below.up HB.out hb)
 clear hb
 go_wp2_with fail
 refine (HW.out w2 HB2.out _ _ _ (by decide) ex_c).mono ?_
 rintro e w3 ⟨rfl, hb⟩
 have HB3 := Lib.hid (Below.up HB2.out hb)
 clear hb
 go_wp2_with fail
 refine (HW.out w3 HB3.out _ _ _ (by decide) ex_d).mono ?_
 rintro e w4 ⟨rfl, hb⟩
 have HB4 := Lib.hid (Below.up HB3.out hb)
 clear hb
 go_wp2_with fail
 refine (HW.out w4 HB4.out _ _ _ (by decide) ex_e).mono ?_
 rintro e w5 ⟨rfl, hb⟩
 have HB5 := Lib.hid (Below.up HB4.out hb)
 clear hb
 go_wp2_with fail
 go_ret
 exact ⟨rfl, HB5.out⟩
end Go.Proofs.YtamhkdlcoghdbaaGreatDoor.PCls
/- Out of Ly (wip/tools/prune2.py): the declarations alone that the texts of the trees name. -/
namespace Go.Proofs.YtamhkdlcoghdbaaGreatDoor.PCls
set_option linter.unusedVariables false
set_option linter.unusedSimpArgs false
def EOk (s : ByteArray) (e : Er) : Prop := 0 ≤ e.2 ∧ e.2 ≤ s.size ∧ (e.1 = 20 ∨ (30 ≤ e.1 ∧ e.1 ≤ 38))
theorem named_err {s : ByteArray} {chars : Bool} {x0 p : Nat} {sign : UInt8} {e : Er} (h : Lx.named clC s chars x0 p sign = .error e) (hx : x0 ≤ s.size) (hp : p + 2 ≤ s.size) : EOk s e := by
 by_cases h58 : sign = 58
 ·subst h58
  rw [named58_eq clC s chars x0 p hp] at h
  split at h
  ·cases h; exact ⟨by simp only; omega, by simp only; omega, .inr (by simp)⟩
  ·split at h
   ·cases h
   ·cases h; exact ⟨by simp only; omega, by simp only; omega, .inr (by simp)⟩
 ·rw [named_el_eq clC s chars x0 p sign h58] at h
  split at h
  ·cases h; exact ⟨by simp only; omega, by simp only; omega, .inr (by simp)⟩
  split at h
  ·cases h; exact ⟨by simp only; omega, by simp only; omega, .inr (by simp)⟩
  ·cases h
theorem named_sat {s : ByteArray} {chars : Bool} {x0 p : Nat} {sign : UInt8} {i : It} (h : Lx.named clC s chars x0 p sign = .ok i) (hp : p + 2 ≤ s.size) : 0 ≤ i.sat ∧ i.sat ≤ s.size := by
 by_cases h58 : sign = 58
 ·subst h58
  rw [named58_eq clC s chars x0 p hp] at h
  split at h
  ·cases h
  ·split at h
   ·cases h; simp
   ·cases h
 ·rw [named_el_eq clC s chars x0 p sign h58] at h
  split at h
  ·cases h
  split at h
  ·cases h
  ·cases h; simp only; omega
theorem item_err {s : ByteArray} {chars : Bool} {x0 p : Nat} {any : Bool} {e : Er} (h : Lx.item clC s chars x0 p any = .error e) (hx : x0 ≤ s.size) : EOk s e := by
 rw [item_eq] at h
 split at h
 ·rename_i h1; exact named_err h hx (here_le h1)
 split at h
 ·rename_i h1; exact named_err h hx (here_le h1)
 split at h
 ·rename_i h1; exact named_err h hx (here_le h1)
 unfold itemC at h
 split at h
 ·cases h; exact ⟨by simp only; omega, by simp only; omega, .inr (by simp)⟩
 rename_i hn
 have hp : p < s.size := by
  rcases Nat.lt_or_ge p s.size with h | h
  ·exact h
  ·exact absurd (by rw [unit_none s chars p (by omega)]) hn
 split at h
 ·cases h; exact ⟨by simp only; omega, by simp only; omega, .inl rfl⟩
 split at h
 ·split at h <;> cases h <;> exact ⟨by simp only; omega, by simp only; omega, .inr (by simp)⟩
 ·cases h
theorem item_sat {s : ByteArray} {chars : Bool} {x0 p : Nat} {any : Bool} {i : It} (h : Lx.item clC s chars x0 p any = .ok i) : 0 ≤ i.sat ∧ i.sat ≤ s.size := by
 rw [item_eq] at h
 split at h
 ·rename_i h1; exact named_sat h (here_le h1)
 split at h
 ·rename_i h1; exact named_sat h (here_le h1)
 split at h
 ·rename_i h1; exact named_sat h (here_le h1)
 unfold itemC at h
 split at h
 ·cases h
 rename_i hn
 have hp : p < s.size := by
  rcases Nat.lt_or_ge p s.size with h | h
  ·exact h
  ·exact absurd (by rw [unit_none s chars p (by omega)]) hn
 split at h
 ·cases h
 split at h
 ·split at h <;> cases h
 ·cases h; simp only; omega
theorem span_err {s : ByteArray} {chars : Bool} {x0 p : Nat} {a : It} {e : Er} (h : Lx.span clC s chars x0 a p = .error e) (hx : x0 ≤ s.size) (ha : 0 ≤ a.sat ∧ a.sat ≤ s.size) : EOk s e := by
 rw [span_eq] at h
 split at h
 ·cases h; exact ⟨ha.1, ha.2, .inr (by simp)⟩
 split at h
 ·cases h; exact ⟨ha.1, ha.2, .inr (by simp)⟩
 cases hr : Lx.item clC s chars x0 p true with
 | error y => rw [hr] at h; cases h; exact item_err hr hx
 | ok b =>
  rw [hr] at h
  simp only at h
  split at h
  ·cases h; exact ⟨ha.1, ha.2, .inr (by simp)⟩
  ·cases h
theorem part_err {s : ByteArray} {chars : Bool} {x0 p : Nat} {b : Bool} {e : Er} (h : Lx.part clC s chars x0 p b = .error e) (hx : x0 ≤ s.size) : EOk s e := by
 rw [part_eq] at h
 cases hr : Lx.item clC s chars x0 p b with
 | error y => rw [hr] at h; cases h; exact item_err hr hx
 | ok i =>
  rw [hr] at h
  simp only at h
  split at h
  ·exact span_err h hx (item_sat hr)
  ·cases h
theorem part_ok {s : ByteArray} {chars : Bool} {x0 p : Nat} {b : Bool} {i : It} (h : Lx.part clC s chars x0 p b = .ok i) : ∃ x : Nat, i.nx = x ∧ p < x ∧ x ≤ s.size + 2 := by
 rw [part_eq] at h
 cases hr : Lx.item clC s chars x0 p b with
 | error y => rw [hr] at h; cases h
 | ok j =>
  rw [hr] at h
  simp only at h
  obtain ⟨x, h1, h2, h3⟩ := (item_ok hr).n
  split at h
  ·obtain ⟨y, h4, h5, h6⟩ := (span_ok h).1.n
   rw [h1] at h5
   exact ⟨y, h4, by simp at h5; omega, h6⟩
  ·cases h; exact ⟨x, h1, h2, h3⟩
theorem parts_ok {s : ByteArray} {chars : Bool} {x0 : Nat} : ∀ (k p : Nat) (b : Bool) (l l' : List S64) (q : Nat), Lx.parts clC s chars x0 k p b l = .ok (l', q) → p ≤ q ∧ q + 1 ≤ s.size
 | 0, p, b, l, l', q, h => by cases h
 | k + 1, p, b, l, l', q, h => by
  rw [parts_eq] at h
  split at h
  ·rename_i h1
   cases h
   exact ⟨Nat.le_refl _, here_le h1.2⟩
  ·cases hr : Lx.part clC s chars x0 p b with
   | error y => rw [hr] at h; cases h
   | ok i =>
    rw [hr] at h
    obtain ⟨x, h1, h2, h3⟩ := part_ok hr
    have ih := parts_ok k _ _ _ _ _ h
    rw [h1] at ih
    simp at ih
    omega
theorem parts_err {s : ByteArray} {chars : Bool} {x0 : Nat} (hx : x0 ≤ s.size) : ∀ (k p : Nat) (b : Bool) (l : List S64) (e : Er), s.size + 3 ≤ p + k → p ≤ s.size + 2 → Lx.parts clC s chars x0 k p b l = .error e → EOk s e
 | 0, p, b, l, e, hk, hp, h => by omega
 | k + 1, p, b, l, e, hk, hp, h => by
  rw [parts_eq] at h
  split at h
  ·cases h
  ·cases hr : Lx.part clC s chars x0 p b with
   | error y => rw [hr] at h; cases h; exact part_err hr hx
   | ok i =>
    rw [hr] at h
    obtain ⟨x, h1, h2, h3⟩ := part_ok hr
    refine parts_err hx k _ _ _ _ ?_ ?_ h <;> rw [h1] <;> simp <;> omega
/-- a step: one token more -/
def Step1 (s : ByteArray) (x : Lx.St) (r : Except Er Lx.St) : Prop := match r with
 | .error e => EOk s e
 | .ok y => ∃ t e, y = Lx.put x t e ∧ x.sat < e ∧ e ≤ s.size ∧ 1 ≤ t.kind ∧ t.kind ≤ 8
theorem bracket_step {s : ByteArray} {chars fold : Bool} {x : Lx.St} (hx : x.sat < s.size) : Step1 s x (Lx.bracket clC s chars fold x) := by
 unfold Lx.bracket
 simp only
 cases hr : Lx.parts clC s chars x.sat (s.size + 2) (x.sat + 1 + if Lx.here s (x.sat + 1) [94] = true then 1 else 0) true [] with
 | error e => exact parts_err (by omega) _ _ _ _ _ (by omega) (by split <;> omega) hr
 | ok v =>
  obtain ⟨l, q⟩ := v
  have h := parts_ok _ _ _ _ _ _ hr
  exact ⟨_, _, rfl, by omega, h.2, by simp [Lx.tok], by simp [Lx.tok]⟩
theorem often_step {s : ByteArray} {x : Lx.St} {c e : Nat} (h1 : x.sat < e) (h2 : e ≤ s.size) : Step1 s x (Lx.often s x c e) := by
 unfold Lx.often
 split
 ·exact ⟨by simp only; omega, by simp only; omega, .inr (by simp)⟩
 split
 ·exact ⟨_, _, rfl, h1, h2, by simp [Lx.tok], by simp [Lx.tok]⟩
 split
 ·exact ⟨_, _, rfl, h1, h2, by simp [Lx.tok], by simp [Lx.tok]⟩
 cases hr : Lx.interval s x.sat e with
 | error y =>
  have hq : EOk s y := by
   obtain ⟨a1, ha⟩ : ∃ a1, a1 = Lx.number s (s.size + 1) e (-1) := ⟨_, rfl⟩
   obtain ⟨b1, hb⟩ : ∃ b1, b1 = (if 0 ≤ a1.1 ∧ Lx.here s a1.2 [44] = true then Lx.number s (s.size + 1) (a1.2 + 1) (-1) else (a1.1, a1.2)) := ⟨_, rfl⟩
   rw [interval_eq (q := x.sat) (a1 := a1.1) (a2 := a1.2) (b1 := b1.1) (b2 := b1.2) ha hb.symm] at hr
   split at hr
   ·cases hr; exact ⟨by simp only; omega, by simp only; omega, .inr (by simp)⟩
   split at hr
   ·cases hr; exact ⟨by simp only; omega, by simp only; omega, .inr (by simp)⟩
   ·cases hr
  exact hq
 | ok v =>
  obtain ⟨a, b, e2⟩ := v
  have h := interval_lim hr
  exact ⟨_, _, rfl, by omega, h.2, by simp [Lx.tok], by simp [Lx.tok]⟩
theorem escape_step {s : ByteArray} {fold : Bool} {x : Lx.St} (hx : x.sat < s.size) : Step1 s x (Lx.escape clC s fold x) := by
 unfold Lx.escape
 split
 ·exact ⟨by simp only; omega, by simp only; omega, .inr (by simp)⟩
 simp only
 split
 ·exact ⟨_, _, rfl, by omega, by omega, by simp [Lx.tok], by simp [Lx.tok]⟩
 split
 ·exact ⟨_, _, rfl, by omega, by omega, by simp [Lx.tok], by simp [Lx.tok]⟩
 split
 ·exact ⟨_, _, rfl, by omega, by omega, by simp [Lx.tok], by simp [Lx.tok]⟩
 split
 ·exact ⟨_, _, rfl, by omega, by omega, by simp [Lx.tok], by simp [Lx.tok]⟩
 split
 ·exact ⟨_, _, rfl, by omega, by omega, by simp [Lx.tok], by simp [Lx.tok]⟩
 split
 ·exact often_step (by omega) (by omega)
 ·exact ⟨by simp only; omega, by simp only; omega, .inr (by simp)⟩
theorem next_step {s : ByteArray} {chars fold : Bool} {x : Lx.St} (hx : x.sat < s.size) : Step1 s x (Lx.next clC s chars fold x) := by
 have hl := unit_lim s chars x.sat hx
 rw [next_eq]
 split
 ·exact ⟨by simp only; omega, by simp only; omega, .inl rfl⟩
 split
 ·exact escape_step hx
 split
 ·exact bracket_step hx
 split
 ·exact ⟨_, _, rfl, by omega, by omega, by simp [Lx.tok], by simp [Lx.tok]⟩
 split
 ·exact ⟨_, _, rfl, by omega, by omega, by simp [Lx.tok], by simp [Lx.tok]⟩
 split
 ·exact ⟨_, _, rfl, by omega, by omega, by simp [Lx.tok], by simp [Lx.tok]⟩
 split
 ·exact ⟨_, _, rfl, by omega, by omega, by simp [Lx.tok], by simp [Lx.tok]⟩
 ·exact ⟨_, _, rfl, by omega, by omega, by simp [Lx.tok], by simp [Lx.tok]⟩
/-- tokens that stand one behind the other, from p to q -/
def Stands : Nat → List Tok → Nat → Prop
 | p, [], q => p = q
 | p, t :: l, q => t.sat = (p : Int) ∧ ∃ e : Nat, t.fin = (e : Int) ∧ p < e ∧ 1 ≤ t.kind ∧ t.kind ≤ 8 ∧ Stands e l q
theorem Stands.snoc : ∀ {l : List Tok} {p q : Nat} {t : Tok} {e : Nat}, Stands p l q → q < e → 1 ≤ t.kind → t.kind ≤ 8 → Stands p (l ++ [{ t with sat := q, fin := e }]) e
 | [], p, q, t, e, h, h1, h2, h3 => by
  obtain rfl : p = q := h
  exact ⟨rfl, e, rfl, h1, h2, h3, rfl⟩
 | u :: l, p, q, t, e, h, h1, h2, h3 => by
  obtain ⟨a, f, b, c, d, g, hl⟩ := h
  exact ⟨a, f, b, c, d, g, hl.snoc h1 h2 h3⟩
theorem run_told {s : ByteArray} {chars fold : Bool} : ∀ (k : Nat) (x : Lx.St), s.size + 1 ≤ x.out.length + k → x.out.length ≤ x.sat → x.sat ≤ s.size → Stands 0 x.out x.sat → match Lx.run clC s chars fold k x with
  | .error e => EOk s e
  | .ok out => Stands 0 out s.size
 | 0, x, hk, h1, h2, h3 => by omega
 | k + 1, x, hk, h1, h2, h3 => by
  by_cases hx : x.sat < s.size
  ·rw [run_step hx]
   have hs := next_step (chars := chars) (fold := fold) hx
   cases hn : Lx.next clC s chars fold x with
   | error e => rw [hn] at hs; exact hs
   | ok y =>
    rw [hn] at hs
    obtain ⟨t, e, rfl, a, b, c, d⟩ := hs
    exact run_told k _ (by simp [Lx.put]; omega) (by simp [Lx.put]; omega) b (h3.snoc a c d)
  ·rw [lrun_stop hx]
   have : x.sat = s.size := by omega
   rw [this] at h3
   exact h3
theorem lex_told (s : ByteArray) (chars fold : Bool) : match Lx.lex clC s chars fold with
  | .error e => EOk s e
  | .ok out => Stands 0 out s.size := by
 by_cases h : 2000 < s.size
 ·rw [show Lx.lex clC s chars fold = .error (30, 0) by unfold Lx.lex; rw [if_pos h]]
  exact ⟨Int.le_refl _, Int.natCast_nonneg _, .inr (by simp)⟩
 ·rw [show Lx.lex clC s chars fold = Lx.run clC s chars fold (s.size + 1) ⟨0, []⟩ by unfold Lx.lex; rw [if_neg h]]
  exact run_told (s.size + 1) ⟨0, []⟩ (by simp) (by simp) (Nat.zero_le _) rfl
end Go.Proofs.YtamhkdlcoghdbaaGreatDoor.PCls
/- Out of Ro (wip/tools/prune2.py): the declarations alone that the texts of the trees name. -/
namespace Go.Proofs.YtamhkdlcoghdbaaGreatDoor.PCls
open Go.RowKit Go.Shelf Go.Proofs.YtamhkdlcoghdbaaGreatDoorW.PrintWords Go.Proofs.YtamhkdlcoghdbaaGreatDoorW.PrintLast Go.Proofs.YtamhkdlcoghdbaaGreatDoorW.PrintMore
set_option linter.unusedVariables false
set_option linter.unusedSimpArgs false
theorem stands_len : ∀ {l : List Tok} {p q : Nat}, Stands p l q → p + l.length ≤ q
 | [], p, q, h => Nat.le_of_eq h
 | u :: l, p, q, h => by
  obtain ⟨a, e, b, c, d, g, hl⟩ := h
  have := stands_len hl
  simp only [List.length_cons]; omega
theorem lex_len {s : ByteArray} {chars fold : Bool} {out : List Tok} (h : Lx.lex clC s chars fold = .ok out) : out.length ≤ 2000 := by
 have h1 := lex_told s chars fold
 rw [h] at h1
 have h2 := stands_len h1
 have h3 : s.size ≤ 2000 := by
  rcases Nat.lt_or_ge 2000 s.size with hb | hb
  ·rw [show Lx.lex clC s chars fold = .error (30, 0) by unfold Lx.lex; rw [if_pos hb]] at h; cases h
  ·exact hb
 omega
theorem rowOf_set : ∀ (l : List S64) (k : Nat) (x : S64), k < l.length → rowOf (l.set k x) = ((rowOf l).set (k * 2) (.int .i64 x.f0)).set (k * 2 + 1) (.int .i64 x.f1)
 | [], k, x, h => by simp at h
 | y :: l, 0, x, _ => by simp [rowOf, enc2]
 | y :: l, k + 1, x, h => by
  have ih := rowOf_set l k x (by simpa using h)
  have e : ∀ z : S64, ∀ m : List S64, rowOf (z :: m) = .int .i64 z.f0 :: .int .i64 z.f1 :: rowOf m := fun z m => rfl
  rw [List.set_cons_succ, e, e, ih, show (k + 1) * 2 = k * 2 + 1 + 1 by omega, show k * 2 + 1 + 1 + 1 = (k * 2 + 1) + 1 + 1 by omega]
  rfl
theorem own_set {W : World} {base g n c t z : Nat} {xs : List Value} (h : W.ownsRow base t z (.slice (some ⟨g, 0, none⟩) n c) n xs) (o : Nat) (v : Value) : (W.setCell ⟨g, o, none⟩ v).ownsRow base t z (.slice (some ⟨g, 0, none⟩) n c) n (xs.set o v) := by
 refine ⟨by rw [List.length_set]; exact h.1, ?_⟩
 rcases h.2 with ⟨e, _⟩ | ⟨g', cap, cur, e, hb, hh, hc, hm, hs, ht⟩
 ·cases e
 ·simp only [Value.slice.injEq, Option.some.injEq, Addr.mk.injEq, and_true, true_and] at e
  obtain ⟨rfl, rfl⟩ := e
  refine .inr ⟨g, c, cur.setIfInBounds o v, rfl, hb, set_blk hh o v, hc, hm, by rw [Array.size_setIfInBounds]; exact hs, ?_⟩
  rw [← ht, Array.toList_setIfInBounds, List.take_set]
theorem flat7_set (cs : Nat → List Value) (i o : Nat) (v : Value) (n : Nat) (h : ∀ j, j < n → (cs j).length = 7) (hi : i < n) (ho : o < 7) : flat7 (fun j => if j = i then (cs i).set o v else cs j) n = (flat7 cs n).set (i * 7 + o) v := by
 apply List.ext_getElem?
 intro q
 have hl : ∀ j, j < n → ((fun j => if j = i then (cs i).set o v else cs j) j).length = 7 := fun j hj => by
  show (if j = i then (cs i).set o v else cs j).length = 7
  split
  ·rw [List.length_set]; exact h i hi
  ·exact h j hj
 have l1 := flat7_length _ n hl
 have l2 := flat7_length cs n h
 rcases Nat.lt_or_ge q (n * 7) with hq | hq
 ·obtain ⟨a, b, rfl, ha, hb⟩ : ∃ a b, q = a * 7 + b ∧ a < n ∧ b < 7 := ⟨q / 7, q % 7, by omega, by omega, by omega⟩
  rw [flat7_at _ n hl a ha b hb, List.getElem?_set]
  by_cases e : a = i
  ·subst e
   rw [if_pos rfl, List.getElem?_set]
   by_cases e2 : o = b
   ·subst e2
    rw [if_pos rfl, if_pos rfl, l2, h a ha, if_pos (by omega), if_pos (by omega)]
   ·rw [if_neg e2, if_neg (by omega), flat7_at cs n h a ha b hb]
  ·rw [if_neg e, if_neg (by omega), flat7_at cs n h a ha b hb]
 ·rw [List.getElem?_eq_none (by omega), List.getElem?_eq_none (by rw [List.length_set]; omega)]
theorem own_block {W : World} {base g n c t z : Nat} {xs : List Value} (h : W.ownsRow base t z (.slice (some ⟨g, 0, none⟩) n c) n xs) : ∃ cur : Array Value, W.heap[g]? = some (.cells cur t (0, 0)) ∧ base ≤ g ∧ cur.toList.take (n * z) = xs ∧ cur.size = c * z ∧ n ≤ c := by
 rcases h.2 with ⟨e, _⟩ | ⟨g', cap, cur, e, hb, hh, hc, hm, hs, ht⟩
 ·cases e
 ·simp only [Value.slice.injEq, Option.some.injEq, Addr.mk.injEq, and_true, true_and] at e
  obtain ⟨rfl, rfl⟩ := e
  exact ⟨cur, hh, hb, ht, hs, hc⟩
/-- a token in memory; what a write to it does -/
theorem ToksAt.at_ {W : World} {base : Nat} {V : Value} {out : List Tok} (h : ToksAt W base V out) {i : Nat} {t : Tok} (ht : out[i]? = some t) :
  ∃ (gV c : Nat) (A : Option Addr) (cr : Nat), V = .slice (some ⟨gV, 0, none⟩) out.length c ∧ out.length ≤ c ∧ base ≤ gV ∧ gV < W.heap.size ∧ (∀ o, W.frozen? ⟨gV, o, none⟩ = false) ∧ (∀ j u, (tokV t (.slice A t.r.length cr))[j]? = some u → W.cell? ⟨gV, i * 7 + j, none⟩ = some u) ∧ t.r.length ≤ cr ∧ t.r.length < 8796093022208 ∧
   (∀ k x, t.r[k]? = some x → ∃ g, A = some ⟨g, 0, none⟩ ∧ base ≤ g ∧ g < W.heap.size ∧ g ≠ gV ∧ (∀ o, W.frozen? ⟨g, o, none⟩ = false) ∧ W.cell? ⟨g, k * 2, none⟩ = some (.int .i64 x.f0) ∧ W.cell? ⟨g, k * 2 + 1, none⟩ = some (.int .i64 x.f1) ∧
    ∀ a b : Int, -9223372036854775808 ≤ a → a ≤ 9223372036854775807 → -9223372036854775808 ≤ b → b ≤ 9223372036854775807 → ToksAt ((W.setCell ⟨g, k * 2, none⟩ (.int .i64 a)).setCell ⟨g, k * 2 + 1, none⟩ (.int .i64 b)) base V (out.set i { t with r := t.r.set k ⟨a, b⟩ })) ∧
   ∀ q : Int, ToksAt (W.setCell ⟨gV, i * 7, none⟩ (.int .i64 q)) base V (out.set i { t with kind := q }) := by
 obtain ⟨cs, rv, h1, h2, h3⟩ := h
 have hi := (List.getElem?_eq_some_iff.1 ht).1
 obtain ⟨e0, ⟨o1, o2, o3, o4⟩, hd⟩ := h3 i t ht
 obtain ⟨A, cr, er, hcr⟩ := own_form o1
 obtain ⟨AV, c, eV, hcV⟩ := own_form h2
 have hget : ∀ (t' : Tok) j u, (out.set i t')[j]? = some u → (j = i ∧ u = t') ∨ (j ≠ i ∧ out[j]? = some u) := fun t' j u hj => by
  rw [List.getElem?_set] at hj
  by_cases e : i = j
  ·subst e
   rw [if_pos rfl, if_pos hi] at hj
   exact .inl ⟨rfl, (Option.some.inj hj).symm⟩
  ·rw [if_neg e] at hj; exact .inr ⟨fun e' => e e'.symm, hj⟩
 obtain ⟨gV, rfl⟩ : ∃ gV, AV = some ⟨gV, 0, none⟩ := by
  rcases h2.2 with ⟨e, hz⟩ | ⟨g, cap, cur, e, _⟩
  ·omega
  ·rw [e] at eV; simp only [Value.slice.injEq] at eV; exact ⟨g, eV.1.symm⟩
 subst eV
 obtain ⟨cur, hh, hb, htk, hcs, _⟩ := own_block h2
 have hgl := (Array.getElem?_eq_some_iff.1 hh).1
 refine ⟨gV, c, A, cr, rfl, hcV, hb, hgl, fun o => by simp [World.frozen?, hh], fun j u hu => ?_, hcr, o3, fun k x hx => ?_, fun q => ?_⟩
 ·have hj : j < 7 := by have := (List.getElem?_eq_some_iff.1 hu).1; simpa [tokV] using this
  have h4 := flat7_at cs out.length h1 i hi j hj
  rw [e0, er, hu, ← htk, List.getElem?_take] at h4
  split at h4
  ·exact lk_cell hh (by simpa using h4)
  ·cases h4
 ·have hk := (List.getElem?_eq_some_iff.1 hx).1
  obtain ⟨g, rfl⟩ : ∃ g, A = some ⟨g, 0, none⟩ := by
   rcases o1.2 with ⟨e, hz⟩ | ⟨g, cap, cur, e, _⟩
   ·omega
   ·rw [e] at er; simp only [Value.slice.injEq] at er; exact ⟨g, er.1.symm⟩
  rw [er] at o1 o4 hd
  obtain ⟨cur2, hh2, hb2, htk2, hcs2, hc2⟩ := own_block o1
  have hgl2 := (Array.getElem?_eq_some_iff.1 hh2).1
  have hne : g ≠ gV := fun e => o4 g rfl (by rw [e]; rfl)
  have hra := rowOf_at t.r k x hx
  have hcell : ∀ o u, o < t.r.length * 2 → (rowOf t.r)[o]? = some u → W.cell? ⟨g, o, none⟩ = some u := fun o u ho hu => by
   rw [← htk2, List.getElem?_take, if_pos ho] at hu
   exact lk_cell hh2 (by simpa using hu)
  refine ⟨g, rfl, hb2, hgl2, hne, fun o => by simp [World.frozen?, hh2], hcell _ _ (by omega) hra.1, hcell _ _ (by omega) hra.2, fun a b a1 a2 b1 b2 => ?_⟩
  have hmv : ∀ B, B ≠ g → ((W.setCell ⟨g, k * 2, none⟩ (.int .i64 a)).setCell ⟨g, k * 2 + 1, none⟩ (.int .i64 b)).heap[B]? = W.heap[B]? := fun B hB => (Below.heap_setCell _ ⟨g, k * 2 + 1, none⟩ _ B hB).trans (Below.heap_setCell _ ⟨g, k * 2, none⟩ _ B hB)
  have hown2 : ((W.setCell ⟨g, k * 2, none⟩ (.int .i64 a)).setCell ⟨g, k * 2 + 1, none⟩ (.int .i64 b)).ownsRow base 39 2 (.slice (some ⟨g, 0, none⟩) t.r.length cr) t.r.length (rowOf (t.r.set k ⟨a, b⟩)) := by
   rw [rowOf_set t.r k ⟨a, b⟩ hk]
   exact own_set (own_set o1 (k * 2) (.int .i64 a)) (k * 2 + 1) (.int .i64 b)
  refine ⟨cs, rv, fun j hj => h1 j (by simpa using hj), ?_, fun j u hj => ?_⟩
  ·rw [List.length_set]
   exact ownMove h2 (fun B hB => hmv B (fun e => by cases hB; exact hne e.symm))
  ·rcases hget _ j u hj with ⟨rfl, rfl⟩ | ⟨hji, hj⟩
   ·refine ⟨e0, ⟨?_, ?_, by simpa using o3, by rw [er]; exact o4⟩, by rw [er]; exact hd⟩
    ·rw [er]
     simpa using hown2
    ·unfold inR at o2 ⊢
     rw [List.all_eq_true] at o2 ⊢
     intro y hy
     rcases List.mem_or_eq_of_mem_set hy with hy | rfl
     ·exact o2 y hy
     ·simp only [Bool.and_eq_true, decide_eq_true_eq]; exact ⟨⟨⟨a1, a2⟩, b1⟩, b2⟩
   ·obtain ⟨f0, ⟨p1, p2, p3, p4⟩, fd⟩ := h3 j u hj
    refine ⟨f0, ⟨ownMove p1 (fun B hB => hmv B (fun e => ?_)), p2, p3, p4⟩, fd⟩
    subst e
    rcases Nat.lt_or_ge j i with hlt | hge
    ·exact hd j hlt B rfl hB
    ·exact fd i (by omega) B hB (by rw [er]; rfl)
 ·have hmv : ∀ B, B ≠ gV → (W.setCell ⟨gV, i * 7, none⟩ (.int .i64 q)).heap[B]? = W.heap[B]? := fun B hB => Below.heap_setCell _ ⟨gV, i * 7, none⟩ _ B hB
  refine ⟨fun j => if j = i then (cs i).set 0 (.int .i64 q) else cs j, rv, fun j hj => ?_, ?_, fun j u hj => ?_⟩
  ·rw [List.length_set] at hj
   simp only; split
   ·rw [List.length_set]; exact h1 i hi
   ·exact h1 j hj
  ·rw [List.length_set, flat7_set cs i 0 (.int .i64 q) out.length h1 hi (by decide)]
   exact own_set h2 (i * 7) (.int .i64 q)
  ·rcases hget _ j u hj with ⟨rfl, rfl⟩ | ⟨hji, hj⟩
   ·refine ⟨?_, ⟨ownMove o1 (fun B hB => hmv B (fun e => o4 B hB (by rw [e]; rfl))), o2, o3, o4⟩, hd⟩
    simp only [if_pos]
    rw [e0]
    rfl
   ·obtain ⟨f0, ⟨p1, p2, p3, p4⟩, fd⟩ := h3 j u hj
    refine ⟨?_, ⟨ownMove p1 (fun B hB => hmv B (fun e => p4 B hB (by rw [e]; rfl))), p2, p3, p4⟩, fd⟩
    simp only [if_neg hji]
    exact f0
end Go.Proofs.YtamhkdlcoghdbaaGreatDoor.PCls
