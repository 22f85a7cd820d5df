/- Put together (wip/tools/pack.py): QZPClsx1, QZLOne, QZLRef, QZPClsx20, QZPClsx22, QZLThree, QTPure, QTMem, QTSmall. -/
import Derived.Test.YtamhkdlcoghdbaaGreatDoorVQZGOne
import Derived.RangeFuncBox
/- Out of ZPClsx1 (wip/tools/prune2.py): the declarations alone that the texts of the trees name. -/
namespace Go.Proofs.YtamhkdlcoghdbaaGreatDoor.PCls
open Go.RowKit Go.Proofs.YtamhkdlcoghdbaaGreatDoorW.PrintWords Go.Proofs.YtamhkdlcoghdbaaGreatDoorW.PrintLast Go.Proofs.YtamhkdlcoghdbaaGreatDoorW.PrintMore
attribute [local go_sem] max2_int min2_int max_two min_two max_three min_three max_four min_four   -- for this text's walks alone
set_option linter.unusedVariables false
set_option linter.unusedSimpArgs false
theorem eqA64 (d : Nat) (w : World) (x0 y0 : Int) (x1 y1 : Int) :
  (Op.equalIn (d + 2) 39 (.agg #[.int .i64 x0, .int .i64 x1]) (.agg #[.int .i64 y0, .int .i64 y1])).run Tryz.prog w = .ok (x0 == y0 && (x1 == y1)) w := by
 refine eqA_of Tryz.underlying39 (by kernel_rfl) ?_
 refine eqf_cons (by rfl) (by go_simp; rfl) (by go_simp; rfl) (by go_simp) ?_
 exact eqf_last (by rfl) (by go_simp; rfl) (by go_simp; rfl) (by go_simp)
end Go.Proofs.YtamhkdlcoghdbaaGreatDoor.PCls
/- Out of ZLOne (wip/tools/prune2.py): the declarations alone that the texts of the trees name. -/
namespace Go.Proofs.YtamhkdlcoghdbaaGreatDoor.PCls
open Go.RowKit Go.Proofs.YtamhkdlcoghdbaaGreatDoorW.PrintWords Go.Proofs.YtamhkdlcoghdbaaGreatDoorW.PrintLast Go.Proofs.YtamhkdlcoghdbaaGreatDoorW.PrintMore
set_option linter.unusedVariables false
set_option linter.unusedSimpArgs false
theorem inR_iff (l : List S64) : inR l = true ↔ ∀ r, r ∈ l → -9223372036854775808 ≤ r.f0 ∧ r.f0 ≤ 9223372036854775807 ∧ -9223372036854775808 ≤ r.f1 ∧ r.f1 ≤ 9223372036854775807 := by
 unfold inR
 rw [List.all_eq_true]
 constructor
 ·intro h r hr
  have := h r hr
  simp at this
  omega
 ·intro h r hr
  have := h r hr
  simp
  omega
theorem rd_at (l : List S64) (i : Nat) (h : i < l.length) : rd_T64 l (i : Int) = l[i] := by
 unfold rd_T64
 rw [Int.toNat_natCast, List.getD_eq_getElem?_getD, List.getElem?_eq_getElem h]
 rfl
theorem w64_lit (n : Int) (h0 : -9223372036854775808 ≤ n) (h1 : n ≤ 9223372036854775807) : wrap64 n = n := by
 unfold wrap64
 omega
theorem put_snoc (a : List S64) (x r : S64) : Cls.put (a ++ [x]) r = if r.f0 ≤ x.f1 + 1 then a ++ [⟨x.f0, max x.f1 r.f1⟩] else a ++ [x] ++ [r] := by
 unfold Cls.put
 simp
end Go.Proofs.YtamhkdlcoghdbaaGreatDoor.PCls
namespace Go.Proofs.YtamhkdlcoghdbaaGreatDoor.PCls
open Go.RowKit Go.Proofs.YtamhkdlcoghdbaaGreatDoorW.PrintWords Go.Proofs.YtamhkdlcoghdbaaGreatDoorW.PrintLast Go.Proofs.YtamhkdlcoghdbaaGreatDoorW.PrintMore
set_option linter.unusedVariables false
set_option linter.unusedSimpArgs false
/-- A function with rounds comes to an answer, with enough of them. -/
def Ends {α : Type} (f : Nat → Option α) (r : α) : Prop := ∃ k, ∀ k', k ≤ k' → f k' = some r
theorem Ends.of {α : Type} {f : Nat → Option α} {r : α} {x : Option α} (h : x = some r) (hf : ∀ k, f k = x) : Ends f r := ⟨0, fun k' _ => (hf k').trans h⟩
theorem Ends.bind {α β : Type} {f : Nat → Option α} {g : Nat → α → Option β} {a : α} {b : β} (hf : Ends f a) (hg : Ends (fun k => g k a) b) : Ends (fun k => (f k).bind (g k)) b := by
 obtain ⟨k1, h1⟩ := hf
 obtain ⟨k2, h2⟩ := hg
 exact ⟨max k1 k2, fun k' hk => by show (f k').bind (g k') = some b; rw [h1 k' (by omega), Option.bind_some]; exact h2 k' (by omega)⟩
theorem Ends.get {α : Type} {f : Nat → Option α} {r : α} (h : Ends f r) : ∃ k, f k = some r := by
 obtain ⟨k, hk⟩ := h
 exact ⟨k, hk k (Nat.le_refl _)⟩
theorem mrg_length (l : List S64) : ∀ out : List S64, (Cls.mrg out l).length ≤ out.length + l.length := by
 induction l with
 | nil => intro out; simp [Cls.mrg]
 | cons r l ih =>
  intro out
  have h := ih (Cls.put out r)
  have hp : (Cls.put out r).length ≤ out.length + 1 := by
   rcases List.eq_nil_or_concat out with rfl | ⟨a, x, rfl⟩
   ·simp [Cls.put]
   ·rw [List.concat_eq_append, put_snoc]
    split <;> simp
  have e : Cls.mrg out (r :: l) = Cls.mrg (Cls.put out r) l := rfl
  rw [e, List.length_cons]
  omega
theorem cls_length (l : List S64) : (Cls.cls l).length ≤ l.length := by
 have h := mrg_length ((l.filter fun r => decide (r.f0 ≤ r.f1)).mergeSort fun a b => decide (a.f0 ≤ b.f0)) []
 have h2 := List.length_filter_le (fun r : S64 => decide (r.f0 ≤ r.f1)) l
 unfold Cls.cls
 simp at h
 omega
theorem inR_append (a b : List S64) : inR (a ++ b) = true ↔ inR a = true ∧ inR b = true := by
 unfold inR
 rw [List.all_append, Bool.and_eq_true]
def Cls.and_ (a b : List S64) : List S64 := Cls.inter (Cls.cls a) (Cls.cls b)
theorem Cls.and_can (a b : List S64) : Cls.Can (Cls.and_ a b) := Cls.inter_can _ _ (Cls.cls_can a) (Cls.cls_can b)
theorem Cls.and_mem (a b : List S64) (c : Int) : Cls.Mem (Cls.and_ a b) c ↔ Cls.Mem a c ∧ Cls.Mem b c := by
 unfold Cls.and_
 rw [Cls.inter_mem _ _ (Cls.cls_can a) (Cls.cls_can b), Cls.cls_mem, Cls.cls_mem]
end Go.Proofs.YtamhkdlcoghdbaaGreatDoor.PCls
namespace Go.Proofs.YtamhkdlcoghdbaaGreatDoor.PCls
open Go.RowKit Go.Proofs.YtamhkdlcoghdbaaGreatDoorW.PrintWords Go.Proofs.YtamhkdlcoghdbaaGreatDoorW.PrintLast Go.Proofs.YtamhkdlcoghdbaaGreatDoorW.PrintMore
set_option linter.unusedVariables false
set_option linter.unusedSimpArgs false
theorem rd_mid (p : List S64) (x : S64) (s : List S64) : rd_T64 (p ++ x :: s) (p.length : Int) = x := by
 rw [rd_at _ _ (by simp)]
 simp
theorem can_count (hi : Int) : ∀ (l : List S64) (lo : Int), Cls.Can l → (∀ c, Cls.Mem l c → lo ≤ c ∧ c ≤ hi) → l.length ≤ (hi - lo + 1).toNat
 | [], _, _, _ => by simp
 | r :: l, lo, hc, h => by
  have hr := Cls.can_head hc
  have h0 := h r.f0 ((Cls.mem_cons ..).2 (.inl ⟨Int.le_refl _, hr⟩))
  have h1 := h r.f1 ((Cls.mem_cons ..).2 (.inl ⟨hr, Int.le_refl _⟩))
  have := can_count hi l (r.f1 + 1) (Cls.can_tail hc) fun c hm => ⟨by have := Cls.can_beyond hc hm; omega, (h c ((Cls.mem_cons ..).2 (.inr hm))).2⟩
  rw [List.length_cons]
  omega
theorem can_one (lo hi : Int) (h : lo ≤ hi) : Cls.Can [⟨lo, hi⟩] := by simp [Cls.Can, h]
theorem cls_of_can {l : List S64} (h : Cls.Can l) : Cls.cls l = l := (Cls.cls_unique h fun _ => Iff.rfl).symm
theorem mem_one (lo hi c : Int) : Cls.Mem [⟨lo, hi⟩] c ↔ lo ≤ c ∧ c ≤ hi := by
 rw [Cls.mem_cons]
 simp [Cls.mem_nil]
theorem shift_length (l : List S64) (d : Int) : (Cls.shift l d).length = l.length := by simp [Cls.shift]
theorem between_length (l : List S64) (lo hi : Int) (h1 : lo ≤ hi) : (Cls.inter (Cls.cls l) [⟨lo, hi⟩]).length ≤ (hi - lo + 1).toNat := by
 have e : Cls.and_ l [⟨lo, hi⟩] = Cls.inter (Cls.cls l) [⟨lo, hi⟩] := by unfold Cls.and_; rw [cls_of_can (can_one lo hi h1)]
 rw [← e]
 exact can_count hi _ lo (Cls.and_can _ _) fun c h => by rw [Cls.and_mem, mem_one] at h; exact h.2
theorem between_inR (l : List S64) (lo hi d : Int) (hd : -32 ≤ d ∧ d ≤ 32) (h0 : 0 ≤ lo) (h1 : lo ≤ hi) (h2 : hi ≤ 1000) : inR (Cls.shift (Cls.inter (Cls.cls l) [⟨lo, hi⟩]) d) = true := by
 have e : Cls.and_ l [⟨lo, hi⟩] = Cls.inter (Cls.cls l) [⟨lo, hi⟩] := by unfold Cls.and_; rw [cls_of_can (can_one lo hi h1)]
 rw [← e]
 refine (inR_iff _).2 fun r hr => ?_
 simp only [Cls.shift, List.mem_map] at hr
 obtain ⟨x, hx, rfl⟩ := hr
 have hle := (Cls.and_can l [⟨lo, hi⟩]).2 x hx
 have h3 := (Cls.and_mem l [⟨lo, hi⟩] x.f0).1 ⟨x, hx, Int.le_refl _, hle⟩
 have h4 := (Cls.and_mem l [⟨lo, hi⟩] x.f1).1 ⟨x, hx, hle, Int.le_refl _⟩
 rw [mem_one] at h3 h4
 simp only
 omega
/-- what Fold joins -/
def Cls.toFold (l : List S64) : List S64 := l ++ (Cls.shift (Cls.inter (Cls.cls l) [⟨65, 90⟩]) 32 ++ Cls.shift (Cls.inter (Cls.cls l) [⟨97, 122⟩]) (-32))
theorem toFold_inR (l : List S64) (h : inR l = true) : inR (Cls.toFold l) = true := by
 unfold Cls.toFold
 rw [inR_append, inR_append]
 exact ⟨h, between_inR _ _ _ _ (by omega) (by omega) (by omega) (by omega), between_inR _ _ _ _ (by omega) (by omega) (by omega) (by omega)⟩
theorem toFold_length (l : List S64) : (Cls.toFold l).length ≤ l.length + 52 := by
 unfold Cls.toFold
 rw [List.length_append, List.length_append, shift_length, shift_length]
 have h1 := between_length l 65 90 (by omega)
 have h2 := between_length l 97 122 (by omega)
 omega
theorem shift_mem (l : List S64) (d c : Int) : Cls.Mem (Cls.shift l d) c ↔ Cls.Mem l (c - d) := by
 constructor
 ·rintro ⟨r, hr, h0, h1⟩
  simp only [Cls.shift, List.mem_map] at hr
  obtain ⟨x, hx, rfl⟩ := hr
  simp only at h0 h1
  exact ⟨x, hx, by omega, by omega⟩
 ·rintro ⟨r, hr, h0, h1⟩
  exact ⟨⟨r.f0 + d, r.f1 + d⟩, by simp only [Cls.shift, List.mem_map]; exact ⟨r, hr, rfl⟩, by simp only; omega, by simp only; omega⟩
theorem Cls.fold_can (l : List S64) : Cls.Can (Cls.fold l) := Cls.cls_can _
theorem Cls.fold_mem (l : List S64) (c : Int) : Cls.Mem (Cls.fold l) c ↔ Cls.Mem l c ∨ (Cls.Mem l (c - 32) ∧ 65 ≤ c - 32 ∧ c - 32 ≤ 90) ∨ (Cls.Mem l (c + 32) ∧ 97 ≤ c + 32 ∧ c + 32 ≤ 122) := by
 unfold Cls.fold
 rw [Cls.cls_mem, Cls.mem_append, Cls.mem_append, shift_mem, shift_mem, Cls.inter_mem _ _ (Cls.cls_can l) (can_one _ _ (by omega)), Cls.inter_mem _ _ (Cls.cls_can l) (can_one _ _ (by omega)), Cls.cls_mem, Cls.cls_mem, mem_one, mem_one, show c - -32 = c + 32 by omega]
end Go.Proofs.YtamhkdlcoghdbaaGreatDoor.PCls
namespace Go.Proofs.YtamhkdlcoghdbaaGreatDoor.PCls
open Go.RowKit Go.Proofs.YtamhkdlcoghdbaaGreatDoorW.PrintWords Go.Proofs.YtamhkdlcoghdbaaGreatDoorW.PrintLast Go.Proofs.YtamhkdlcoghdbaaGreatDoorW.PrintMore
set_option linter.unusedVariables false
set_option linter.unusedSimpArgs false
/-- how many numbers -/
def Cls.many (l : List S64) : Int := (l.map fun r => r.f1 - r.f0 + 1).sum
end Go.Proofs.YtamhkdlcoghdbaaGreatDoor.PCls
namespace Go.Proofs.YtamhkdlcoghdbaaGreatDoor.PCls
open Go.RowKit Go.Proofs.YtamhkdlcoghdbaaGreatDoorW.PrintWords Go.Proofs.YtamhkdlcoghdbaaGreatDoorW.PrintLast Go.Proofs.YtamhkdlcoghdbaaGreatDoorW.PrintMore
set_option linter.unusedVariables false
set_option linter.unusedSimpArgs false
instance decS64 : DecidableEq S64 := fun a b => decidable_of_iff (a.f0 = b.f0 ∧ a.f1 = b.f1) (by cases a; cases b; simp)
def Cls.all (m : Bool) : List S64 := if m = true then [⟨0, 55295⟩, ⟨57344, 1114111⟩] else [⟨0, 255⟩]
def Cls.norm (l : List S64) (m : Bool) : List S64 := Cls.and_ l (Cls.all m)
end Go.Proofs.YtamhkdlcoghdbaaGreatDoor.PCls
/- Out of ZLRef (wip/tools/prune2.py): the declarations alone that the texts of the trees name. -/
namespace Go.Proofs.YtamhkdlcoghdbaaGreatDoor.PCls
open Go.RowKit Go.Proofs.YtamhkdlcoghdbaaGreatDoorW.PrintWords Go.Proofs.YtamhkdlcoghdbaaGreatDoorW.PrintLast Go.Proofs.YtamhkdlcoghdbaaGreatDoorW.PrintMore
set_option linter.unusedVariables false
set_option linter.unusedSimpArgs false
theorem Ends.succ {α : Type} {f g : Nat → Option α} {r : α} (h : Ends g r) (hf : ∀ k, f (k + 1) = g k) : Ends f r := by
 obtain ⟨k, hk⟩ := h
 refine ⟨k + 1, fun k' h' => ?_⟩
 obtain ⟨m, rfl⟩ : ∃ m, k' = m + 1 := ⟨k' - 1, by omega⟩
 rw [hf]
 exact hk m (by omega)
end Go.Proofs.YtamhkdlcoghdbaaGreatDoor.PCls
/- Out of ZPClsx20 (wip/tools/prune2.py): the declarations alone that the texts of the trees name. -/
namespace Go.Proofs.YtamhkdlcoghdbaaGreatDoor.PCls
open Go.RowKit Go.Proofs.YtamhkdlcoghdbaaGreatDoorW.PrintWords Go.Proofs.YtamhkdlcoghdbaaGreatDoorW.PrintLast Go.Proofs.YtamhkdlcoghdbaaGreatDoorW.PrintMore
attribute [local go_sem] max2_int min2_int max_two min_two max_three min_three max_four min_four   -- for this text's walks alone
set_option linter.unusedVariables false
set_option linter.unusedSimpArgs false
attribute [local go_sem high] eqA64
def api_Range_77.l0 : Nat → List (S64) → List (S64) → Int → Int → Option (Bool)
 | 0, _, _, _, _ => none
 | k + 1, x0, x1, x12, x13 => if x13 < x12 then (if 0 ≤ x13 then (if x13 < (x0.length : Int) then (if x13 < (x1.length : Int) then (if (!(((rd_T64 x0 x13).f0) == ((rd_T64 x1 x13).f0)) || (!(((rd_T64 x0 x13).f1) == ((rd_T64 x1 x13).f1)))) = true then (some false) else (api_Range_77.l0 k x0 x1 x12 (wrap64 (x13 + 1)))) else (none)) else (none)) else (none)) else (some true)
def api_Range_77.f (k : Nat) (l0 : List (S64)) (l1 : List (S64)) : Option (Bool) := if (l0.length : Int) = (l1.length : Int) then (api_Range_77.l0 k l0 l1 (l0.length : Int) 0) else (some false)
set_option maxHeartbeats 8000000 in
set_option maxRecDepth 100000 in
theorem api_Range_77.calls (k : Nat) (A0 : Option Addr) (c0 : Nat) (l0 : List (S64)) (A1 : Option Addr) (c1 : Nat) (l1 : List (S64)) (r : Bool) (w : World) (hr0 : Kd.C k64 w A0 l0.length l0) (hc0 : l0.length ≤ c0) (hr1 : Kd.C k64 w A1 l1.length l1) (hc1 : l1.length ≤ c1) (h : api_Range_77.f k l0 l1 = some r) :
  Calls Tryz.prog 115 #[.slice A0 l0.length c0, .slice A1 l1.length c1] w fun e w' => e = .returned (.bool r) ∧ Drawn0 w w' := by
 have hu64 := Tryz.underlying39
 have HR0 := Aside0.mk hr0
 have HC0 := Aside0.mk hc0
 clear hr0 hc0
 have HR1 := Aside0.mk hr1
 have HC1 := Aside0.mk hc1
 clear hr1 hc1
 have H : (if (l0.length : Int) = (l1.length : Int) then (api_Range_77.l0 k l0 l1 (l0.length : Int) 0) else (some false)) = some r := h
 clear h
 by_cases c3 : (l0.length : Int) = (l1.length : Int)
 ·rw [if_pos c3] at H
  have c3b0 : ((l0.length : Int) == (l1.length : Int)) = true := beq_iff_eq.mpr c3
  have c3b1 : ((l0.length : Int) != (l1.length : Int)) = false := bne_eq_false_iff_eq.mpr c3
  have c3b2 : (l0.length == l1.length) = true := by first | simpa using c3 | (simp at c3 ⊢; omega)
  clear c3
  have H' := Aside0.mk H
  clear H
  go_enter Tryz.func115, Tryz.ntmps115
  go_wp2
  repeat (go_quiet (fail); try go_wp2)
  go_loopg [13] k (fun kq v13 w' => ∃ (x13_1 : Int), v13 = .int .i64 x13_1 ∧ Aside0 (api_Range_77.l0 kq l0 l1 (l0.length : Int) x13_1 = some r) ∧ Aside0 (kq ≤ k) ∧ Drawn0 w w')
  case atStart => exact ⟨(0), (by first | rfl | (simp; done) | (simp [*]; done)), H', ⟨Nat.le_refl _⟩, by repeat (first | exact Drawn0.refl _ | apply Drawn0.step)⟩
  case round =>
   clear H'
   try clear c1
   try clear p2
   try clear c3
   try clear c3b0
   try clear c3b1
   try clear c3b2
   obtain ⟨x13_1, rfl, HA, HK1, ⟨m1, rfl⟩⟩ := hrel
   cases gk with
   | zero => exact absurd HA.out (by simp [api_Range_77.l0])
   | succ k1 =>
    have H := HA.out
    clear HA
    simp only [api_Range_77.l0] at H
    by_cases c4 : x13_1 < (l0.length : Int)
    ·rw [if_pos c4] at H
     have c4b0 : decide (x13_1 < (l0.length : Int)) = true := decide_eq_true c4
     clear c4
     by_cases c5 : 0 ≤ x13_1
     ·rw [if_pos c5] at H
      have c5b0 : decide (0 ≤ x13_1) = true := decide_eq_true c5
      clear c5
      by_cases c6 : x13_1 < (l0.length : Int)
      ·rw [if_pos c6] at H
       have c6b0 : decide (x13_1 < (l0.length : Int)) = true := decide_eq_true c6
       clear c6
       by_cases c7 : x13_1 < (l1.length : Int)
       ·rw [if_pos c7] at H
        have c7b0 : decide (x13_1 < (l1.length : Int)) = true := decide_eq_true c7
        clear c7
        by_cases c8 : (!(((rd_T64 l0 x13_1).f0) == ((rd_T64 l1 x13_1).f0)) || (!(((rd_T64 l0 x13_1).f1) == ((rd_T64 l1 x13_1).f1)))) = true
        ·rw [if_pos c8] at H
         have c8b0 : (!(((rd_T64 l0 x13_1).f0) == ((rd_T64 l1 x13_1).f0)) || (!(((rd_T64 l0 x13_1).f1) == ((rd_T64 l1 x13_1).f1)))) = true := c8
         clear c8
         obtain rfl := Option.some.inj H
         have p385 : 0 ≤ (x13_1 : Int) := of_decide_eq_true (by first | (with_reducible assumption) | assumption)
         have q385 : x13_1 < (l0.length : Int) := of_decide_eq_true (by first | (with_reducible assumption) | assumption)
         obtain ⟨ad385, e385, hx385_0, hx385_1⟩ := at_T64 HR0.out x13_1 p385 q385
         cases e385
         replace p385 := eq_true p385
         replace q385 := eq_true q385
         have p386 : 0 ≤ (x13_1 : Int) := of_decide_eq_true (by first | (with_reducible assumption) | assumption)
         have q386 : x13_1 < (l1.length : Int) := of_decide_eq_true (by first | (with_reducible assumption) | assumption)
         obtain ⟨ad386, e386, hx386_0, hx386_1⟩ := at_T64 HR1.out x13_1 p386 q386
         cases e386
         replace p386 := eq_true p386
         replace q386 := eq_true q386
         go_wp2
         repeat (go_quiet (fail); try go_wp2)
         go_ret
         exact ⟨by first | rfl | (simp; done) | (simp [*]; done), by repeat (first | exact Drawn0.refl _ | apply Drawn0.step)⟩
        ·rw [if_neg c8] at H
         have c8b0 : (!(((rd_T64 l0 x13_1).f0) == ((rd_T64 l1 x13_1).f0)) || (!(((rd_T64 l0 x13_1).f1) == ((rd_T64 l1 x13_1).f1)))) = false := by simpa using c8
         clear c8
         have H' := Aside0.mk H
         clear H
         have p385 : 0 ≤ (x13_1 : Int) := of_decide_eq_true (by first | (with_reducible assumption) | assumption)
         have q385 : x13_1 < (l0.length : Int) := of_decide_eq_true (by first | (with_reducible assumption) | assumption)
         obtain ⟨ad385, e385, hx385_0, hx385_1⟩ := at_T64 HR0.out x13_1 p385 q385
         cases e385
         replace p385 := eq_true p385
         replace q385 := eq_true q385
         have p386 : 0 ≤ (x13_1 : Int) := of_decide_eq_true (by first | (with_reducible assumption) | assumption)
         have q386 : x13_1 < (l1.length : Int) := of_decide_eq_true (by first | (with_reducible assumption) | assumption)
         obtain ⟨ad386, e386, hx386_0, hx386_1⟩ := at_T64 HR1.out x13_1 p386 q386
         cases e386
         replace p386 := eq_true p386
         replace q386 := eq_true q386
         go_wp2
         repeat (go_quiet (fail); try go_wp2)
         go_roundg k1
         case measure => have := HK1.out; omega
         case rel => exact ⟨(wrap64 (x13_1 + 1)), (by first | rfl | (simp; done) | (simp [*]; done)), H', ⟨by have := HK1.out; omega⟩, by repeat (first | exact Drawn0.refl _ | apply Drawn0.step)⟩
       ·rw [if_neg c7] at H
        exact absurd H (by simp)
      ·exact absurd (of_decide_eq_true c4b0) c6
     ·rw [if_neg c5] at H
      exact absurd H (by simp)
    ·rw [if_neg c4] at H
     have c4b0 : decide (x13_1 < (l0.length : Int)) = false := decide_eq_false c4
     clear c4
     obtain rfl := Option.some.inj H
     go_wp2
     repeat (go_quiet (fail); try go_wp2)
     go_ret
     exact ⟨by first | rfl | (simp; done) | (simp [*]; done), by repeat (first | exact Drawn0.refl _ | apply Drawn0.step)⟩
 ·rw [if_neg c3] at H
  have c3b0 : ((l0.length : Int) == (l1.length : Int)) = false := beq_eq_false_iff_ne.mpr c3
  have c3b1 : ((l0.length : Int) != (l1.length : Int)) = true := bne_iff_ne.mpr c3
  have c3b2 : (l0.length == l1.length) = false := by first | simpa using c3 | (simp at c3 ⊢; omega)
  obtain rfl := Option.some.inj H
  go_enter Tryz.func115, Tryz.ntmps115
  go_wp2
  repeat (go_quiet (fail); try go_wp2)
  go_ret
  exact ⟨by first | rfl | (simp; done) | (simp [*]; done), by repeat (first | exact Drawn0.refl _ | apply Drawn0.step)⟩
end Go.Proofs.YtamhkdlcoghdbaaGreatDoor.PCls
/- Out of ZPClsx22 (wip/tools/prune2.py): the declarations alone that the texts of the trees name. -/
namespace Go.Proofs.YtamhkdlcoghdbaaGreatDoor.PCls
open Go.RowKit Go.Proofs.YtamhkdlcoghdbaaGreatDoorW.PrintWords Go.Proofs.YtamhkdlcoghdbaaGreatDoorW.PrintLast Go.Proofs.YtamhkdlcoghdbaaGreatDoorW.PrintMore
attribute [local go_sem] max2_int min2_int max_two min_two max_three min_three max_four min_four   -- for this text's walks alone
set_option linter.unusedVariables false
set_option linter.unusedSimpArgs false
def dredgeref06_And.B10 : List Nat := [0, 0, 0, 6, 14, 30, 0, 0, 192, 448, 960, 2046, 0, 0, 12288, 28672, 61440, 0, 0, 393216, 917504, 1966080, 4190208, 8388606, 16777214, 33554431, 67108863]
end Go.Proofs.YtamhkdlcoghdbaaGreatDoor.PCls
/- Out of ZLThree (wip/tools/prune2.py): the declarations alone that the texts of the trees name. -/
namespace Go.Proofs.YtamhkdlcoghdbaaGreatDoor.PCls
open Go.RowKit Go.Proofs.YtamhkdlcoghdbaaGreatDoorW.PrintWords Go.Proofs.YtamhkdlcoghdbaaGreatDoorW.PrintLast Go.Proofs.YtamhkdlcoghdbaaGreatDoorW.PrintMore
set_option linter.unusedVariables false
set_option linter.unusedSimpArgs false
theorem equal_loop (a : List S64) : ∀ (s p : List S64) (k : Nat), s.length < k → (p ++ s).length < 8796093022208 → p.length ≤ a.length → a = p ++ a.drop p.length → (p ++ s).length = a.length →
  api_Range_77.l0 k (p ++ s) a ((p ++ s).length : Int) (p.length : Int) = some (decide (s = a.drop p.length)) := by
 intro s
 induction s with
 | nil =>
  intro p k hk hl hp ha he
  obtain ⟨k, rfl⟩ : ∃ m, k = m + 1 := ⟨k - 1, by simp at hk; omega⟩
  simp only [api_Range_77.l0]
  rw [if_neg (by simp)]
  simp at he
  simp [he]
 | cons x s ih =>
  intro p k hk hl hp ha he
  obtain ⟨k, rfl⟩ : ∃ m, k = m + 1 := ⟨k - 1, by simp at hk; omega⟩
  have hl2 : (p.length : Int) < ((p ++ x :: s).length : Int) := by simp; omega
  have hpa : p.length < a.length := by rw [← he]; simp
  have hdrop : a.drop p.length = a[p.length] :: a.drop (p.length + 1) := List.drop_eq_getElem_cons hpa
  simp only [api_Range_77.l0]
  rw [if_pos hl2, if_pos (by omega), if_pos hl2, if_pos (by omega), rd_mid, rd_at a p.length hpa, hdrop]
  simp at hl hk
  rw [w64_lit ((p.length : Int) + 1) (by omega) (by omega)]
  by_cases hx : x = a[p.length]
  ·rw [if_neg (by rw [hx]; simp)]
   have h := ih (p ++ [x]) k (by omega) (by simp; omega) (by simp; omega) (by rw [List.length_append, List.length_singleton, List.append_assoc, hx, List.singleton_append, ← hdrop]; exact ha) (by simpa using he)
   simp only [List.append_assoc, List.singleton_append, List.length_append, List.length_singleton] at h
   rw [show ((p.length + 1 : Nat) : Int) = (p.length : Int) + 1 by omega] at h
   simp only [List.length_append]
   rw [h]
   simp only [hx, List.cons.injEq, true_and]
  ·rw [if_pos (by
    cases x with | mk x0 x1 =>
    cases hq : a[p.length] with | mk y0 y1 =>
    rw [hq] at hx
    simp at hx ⊢
    by_cases h0 : x0 = y0
    ·exact .inr (hx h0)
    ·exact .inl h0)]
   simp only [hx, List.cons.injEq, false_and, decide_false]
theorem equal_ends (a b : List S64) (hl : a.length < 8796093022208) : Ends (fun k => api_Range_77.f k a b) (decide (a = b)) := by
 refine ⟨a.length + 1, fun k hk => ?_⟩
 show api_Range_77.f k a b = _
 unfold api_Range_77.f
 by_cases h : a.length = b.length
 ·rw [if_pos (by omega)]
  have := equal_loop b a [] k (by omega) (by simpa using hl) (by simp) (by simp) (by simpa using h)
  simpa using this
 ·rw [if_neg (by omega)]
  rw [decide_eq_false (fun e => h (by rw [e]))]
end Go.Proofs.YtamhkdlcoghdbaaGreatDoor.PCls
/- Out of TPure (wip/tools/prune2.py): the declarations alone that the texts of the trees name. -/
namespace Go.Proofs.YtamhkdlcoghdbaaGreatDoor.PCls
open Go.RowKit
set_option linter.unusedVariables false
set_option linter.unusedSimpArgs false
namespace NT
mutual
/-- are two trees the same? -/
def same : NT → NT → Bool
 | .mk k m lo hi r kids, .mk k' m' lo' hi' r' kids' => decide (k = k') && decide (m = m') && decide (lo = lo') && decide (hi = hi') && decide (r = r') && sameL kids kids'
def sameL : List NT → List NT → Bool
 | [], [] => true
 | a :: xs, b :: ys => same a b && sameL xs ys
 | _, _ => false
end
theorem same_iff (a : NT) : ∀ b, same a b = true ↔ a = b := by
 have hL : ∀ l : List NT, (∀ t, t ∈ l → ∀ b, same t b = true ↔ t = b) → ∀ l', sameL l l' = true ↔ l = l' := by
  intro l
  induction l with
  | nil => intro _ l'; cases l' <;> simp [sameL]
  | cons a l ih =>
   intro h l'
   cases l' with
   | nil => simp [sameL]
   | cons b l' =>
    simp only [sameL, Bool.and_eq_true, List.cons.injEq]
    rw [h a List.mem_cons_self b, ih (fun t ht => h t (List.mem_cons_of_mem _ ht)) l']
 refine ind (P := fun a => ∀ b, same a b = true ↔ a = b) (fun k m lo hi r kids ih b => ?_) a
 cases b with
 | mk k' m' lo' hi' r' kids' =>
  simp only [same, Bool.and_eq_true, decide_eq_true_eq, NT.mk.injEq, hL kids ih kids']
  constructor
  ·rintro ⟨⟨⟨⟨⟨h1, h2⟩, h3⟩, h4⟩, h5⟩, h6⟩; exact ⟨h1, h2, h3, h4, h5, h6⟩
  ·rintro ⟨h1, h2, h3, h4, h5, h6⟩; exact ⟨⟨⟨⟨⟨h1, h2⟩, h3⟩, h4⟩, h5⟩, h6⟩
end NT
def visC (n : Int) (_ : Step) : Bool × Int := (decide (n + 1 ≤ 2000), n + 1)
def lvN {σ : Type} (s : σ) (_ : Step) : σ := s
theorem run_count (l : List Ev) : ∀ n : Int, n ≤ 2000 → run visC lvN l n = (decide (n + (enters l).length ≤ 2000), min (n + (enters l).length) 2001) := by
 induction l with
 | nil => intro n hn; simp [run, enters]; omega
 | cons x l ih =>
  intro n hn
  cases x with
  | enter t =>
   have hlen : (enters (Ev.enter t :: l)).length = (enters l).length + 1 := rfl
   rw [hlen]
   by_cases h : n + 1 ≤ 2000
   ·have hv : (visC n t).1 = true := decide_eq_true h
    rw [run_enter hv, show (visC n t).2 = n + 1 from rfl, ih _ h]
    push_cast
    rw [show n + 1 + ((enters l).length : Int) = n + ((enters l).length + 1) by omega]
   ·have hv : (visC n t).1 = false := decide_eq_false h
    rw [run_stop hv, show (visC n t).2 = n + 1 from rfl, decide_eq_false (by push_cast; omega)]
    push_cast
    congr 1
    omega
  | leave t => simp only [run, lvN, enters]; exact ih n hn
/-- Count -/
def countT (t : NT) : Int := min (t.nodes : Int) 2001
theorem count_run (t : NT) : (run visC lvN (Step.top t).evs 0).2 = countT t := by
 rw [run_count _ 0 (by omega)]
 unfold Step.evs countT
 rw [enters_length]
 simp [Step.top]
def thing (k : Int) : Bool := decide (k = 2) || decide (k = 7) || decide (k = 8) || decide (k = 9)
def stands (s : Step) : Bool :=
 if s.around = 9 then thing s.n.k
 else if s.around = 6 then !decide (s.n.k = 6)
 else if s.around = 5 then (if s.n.k = 3 then s.branch && s.first else if s.n.k = 4 then s.branch && s.last else thing s.n.k)
 else true
def bounds (lo hi : Int) : Bool := decide (0 ≤ lo) && decide (lo ≤ 255) && (decide (hi = -1) || (decide (lo ≤ hi) && decide (hi ≤ 255)))
def setOk (r : List S64) (chars fold : Bool) : Bool := decide (r = Cls.norm r chars) && (!fold || decide (Cls.fold r = r))
def formed (t : NT) (chars fold : Bool) : Bool :=
 if t.k = 1 ∨ t.k = 3 ∨ t.k = 4 then decide (t.kids.length = 0) && decide (t.r.length = 0) && decide (t.m = 0) && (decide (t.lo = 0) && decide (t.hi = 0))
 else if t.k = 2 then setOk t.r chars fold && (decide (t.kids.length = 0) && decide (t.m = 0) && (decide (t.lo = 0) && decide (t.hi = 0)))
 else if t.k = 5 ∨ t.k = 6 then decide (2 ≤ t.kids.length) && decide (t.r.length = 0) && decide (t.m = 0) && (decide (t.lo = 0) && decide (t.hi = 0))
 else if t.k = 7 then decide (t.kids.length = 1) && decide (t.r.length = 0) && (decide (t.lo = 0) && decide (t.hi = 0))
 else if t.k = 8 then decide (1 ≤ t.m) && decide (t.m ≤ 9) && decide (t.kids.length = 0) && decide (t.r.length = 0) && (decide (t.lo = 0) && decide (t.hi = 0))
 else if t.k = 9 then bounds t.lo t.hi && decide (t.kids.length = 1) && decide (t.r.length = 0) && decide (t.m = 0)
 else false
end Go.Proofs.YtamhkdlcoghdbaaGreatDoor.PCls
/- Out of TMem (wip/tools/prune2.py): the declarations alone that the texts of the trees name. -/
namespace Go.Proofs.YtamhkdlcoghdbaaGreatDoor.PCls
open Go.RowKit Go.Proofs.YtamhkdlcoghdbaaGreatDoorW.PrintWords Go.Proofs.YtamhkdlcoghdbaaGreatDoorW.PrintLast Go.Proofs.YtamhkdlcoghdbaaGreatDoorW.PrintMore
set_option linter.unusedVariables false
set_option linter.unusedSimpArgs false
/-- a tree lies in memory: its node's six cells; what is behind them lies in blocks of P -/
inductive NIn (w : World) (P : Nat → Prop) : NT → List Value → Prop
 | mk (k m lo hi : Int) (r : List S64) (kids : List NT) (ar ak : Option Addr) (cr ck : Nat) (cs : Nat → List Value)
  (hr : Kd.C k64 w ar r.length r) (hrb : ∀ ad, ar = some ad → r ≠ [] → P ad.block) (hcr : r.length ≤ cr) (hrl : r.length < 2097152) (hin : inR r = true)
  (hck : kids.length ≤ ck) (hkl : kids.length < 1099511627776)
  (hk : ∀ j t, kids[j]? = some t → NIn w P t (cs j))
  (ha : ∀ j, j < kids.length → ∃ ad, ak = some ad ∧ P ad.block ∧ ∀ i u, (cs j)[i]? = some u → w.cell? (ad.add (j * 6 + i)) = some u) :
  NIn w P (.mk k m lo hi r kids) [.int .i64 k, .int .i64 m, .int .i64 lo, .int .i64 hi, .slice ar r.length cr, .slice ak kids.length ck]
theorem add_block (ad : Addr) (i : Nat) : (ad.add i).block = ad.block := by unfold Addr.add; split <;> rfl
theorem add_at (ad : Addr) (n i : Nat) (h : 0 < i) : ad.add (n + i) = ⟨(ad.add n).block, (ad.add n).off + i, none⟩ := by
 unfold Addr.add
 rw [if_neg (by omega)]
 by_cases h0 : n = 0
 ·subst h0; simp
 ·rw [if_neg h0]; simp [Nat.add_assoc]
/-- a struct's cells, as a load asks for them -/
theorem cell_at {w : World} {ad : Addr} {n : Nat} {cs : List Value} (h : ∀ i u, cs[i]? = some u → w.cell? (ad.add (n + i)) = some u) (i : Nat) (hi : 0 < i) {u : Value} (hu : cs[i]? = some u) : w.cell? ⟨(ad.add n).block, (ad.add n).off + i, none⟩ = some u := by
 rw [← add_at ad n i hi]; exact h i u hu
theorem C_move {w w' : World} {P : Nat → Prop} {a : Option Addr} {l : List S64} (h : Kd.C k64 w a l.length l) (hb : ∀ ad, a = some ad → l ≠ [] → P ad.block) (hm : ∀ b, P b → w'.heap[b]? = w.heap[b]?) : Kd.C k64 w' a l.length l := by
 refine ⟨h.1, h.2.1, fun hp => ?_⟩
 obtain ⟨ad, e, hc⟩ := h.2.2 hp
 have hne : l ≠ [] := by intro e; subst e; simp at hp
 have hP := hm _ (hb ad e hne)
 refine ⟨ad, e, fun j p hj => ?_⟩
 obtain ⟨cs, h1, h2, h3⟩ := hc j p hj
 exact ⟨cs, h1, h2, fun i u hu => by rw [World.cell?_of_block (w := w) (a := ad.add (j * k64.sz + i)) (by rw [add_block]; exact hP)]; exact h3 i u hu⟩
theorem NIn.move {w w' : World} {P : Nat → Prop} {t : NT} {cs : List Value} (h : NIn w P t cs) (hm : ∀ b, P b → w'.heap[b]? = w.heap[b]?) : NIn w' P t cs := by
 induction h with
 | mk k m lo hi r kids ar ak cr ck cs hr hrb hcr hrl hin hck hkl hk ha ih =>
  refine .mk k m lo hi r kids ar ak cr ck cs (C_move hr hrb hm) hrb hcr hrl hin hck hkl ih fun j hj => ?_
  obtain ⟨ad, e, hP, hc⟩ := ha j hj
  exact ⟨ad, e, hP, fun i u hu => by rw [World.cell?_of_block (w := w) (a := ad.add (j * 6 + i)) (by rw [add_block]; exact hm _ hP)]; exact hc i u hu⟩
theorem NIn.mono {w : World} {P P' : Nat → Prop} {t : NT} {cs : List Value} (h : NIn w P t cs) (hp : ∀ b, P b → P' b) : NIn w P' t cs := by
 induction h with
 | mk k m lo hi r kids ar ak cr ck cs hr hrb hcr hrl hin hck hkl hk ha ih =>
  refine .mk k m lo hi r kids ar ak cr ck cs hr (fun ad e hn => hp _ (hrb ad e hn)) hcr hrl hin hck hkl ih fun j hj => ?_
  obtain ⟨ad, e, hP, hc⟩ := ha j hj
  exact ⟨ad, e, hp _ hP, hc⟩
theorem NIn.keep {w w' : World} {n : Nat} {t : NT} {cs : List Value} (h : NIn w (· < n) t cs) (hb : Below n w w') : NIn w' (· < n) t cs := h.move fun b hp => hb.block b hp
theorem NIn.len {w : World} {P : Nat → Prop} {t : NT} {cs : List Value} (h : NIn w P t cs) : cs.length = 6 := by cases h; rfl
/-- the cells of a kid -/
theorem NIn.kid {w : World} {P : Nat → Prop} {k m lo hi : Int} {r : List S64} {kids : List NT} {ak : Option Addr} {ck : Nat} {v0 v1 v2 v3 v4 : Value}
  (h : NIn w P (.mk k m lo hi r kids) [v0, v1, v2, v3, v4, .slice ak kids.length ck]) {j : Nat} {t : NT} (hj : kids[j]? = some t) :
  ∃ ad cs, ak = some ad ∧ P ad.block ∧ NIn w P t cs ∧ ∀ i u, cs[i]? = some u → w.cell? (ad.add (j * 6 + i)) = some u := by
 cases h with
 | mk _ _ _ _ _ _ ar ak cr ck cs hr hrb hcr hrl hin hck hkl hk ha =>
  obtain ⟨ad, e, hP, hc⟩ := ha j (List.getElem?_eq_some_iff.1 hj).1
  exact ⟨ad, cs j, e, hP, hk j t hj, hc⟩
/-- a node as a value, a node on a walk as a value -/
def stepV (cs : List Value) (s : Step) : Value := .agg (cs ++ ([.int .i64 s.deep, .int .i64 s.around, .bool s.first, .bool s.last, .bool s.branch] : List Value)).toArray
end Go.Proofs.YtamhkdlcoghdbaaGreatDoor.PCls
/- Out of TSmall (wip/tools/prune2.py): the declarations alone that the texts of the trees name. -/
namespace Go.Proofs.YtamhkdlcoghdbaaGreatDoor.PCls
open Go.RowKit Go.Proofs.YtamhkdlcoghdbaaGreatDoorW.PrintWords Go.Proofs.YtamhkdlcoghdbaaGreatDoorW.PrintLast Go.Proofs.YtamhkdlcoghdbaaGreatDoorW.PrintMore
set_option linter.unusedVariables false
set_option linter.unusedSimpArgs false
set_option maxHeartbeats 1000000 in
theorem thing_calls (k : Int) (w : World) : Calls Tryz.prog 60 #[.int .i64 k] w fun e w' => e = .returned (.bool (thing k)) ∧ w' = w := by
 have hk : k = 2 ∨ k = 7 ∨ k = 8 ∨ k = 9 ∨ ((k == 2) = false ∧ (k == 7) = false ∧ (k == 8) = false ∧ (k == 9) = false ∧ thing k = false) := by
  by_cases h2 : k = 2
  ·exact .inl h2
  ·by_cases h7 : k = 7
   ·exact .inr (.inl h7)
   ·by_cases h8 : k = 8
    ·exact .inr (.inr (.inl h8))
    ·by_cases h9 : k = 9
     ·exact .inr (.inr (.inr (.inl h9)))
     ·refine .inr (.inr (.inr (.inr ⟨beq_eq_false_iff_ne.2 h2, beq_eq_false_iff_ne.2 h7, beq_eq_false_iff_ne.2 h8, beq_eq_false_iff_ne.2 h9, ?_⟩)))
      simp [thing, h2, h7, h8, h9]
 rcases hk with rfl | rfl | rfl | rfl | ⟨h2, h7, h8, h9, ht⟩
 all_goals
  go_enter Tryz.func60, Tryz.ntmps60
  go_wp2
  go_ret
 ·exact ⟨rfl, rfl⟩
 ·exact ⟨rfl, rfl⟩
 ·exact ⟨rfl, rfl⟩
 ·exact ⟨rfl, rfl⟩
 ·exact ⟨by rw [ht]; rfl, rfl⟩
set_option maxHeartbeats 1000000 in
theorem bounds_calls (lo hi : Int) (w : World) : Calls Tryz.prog 61 #[.int .i64 lo, .int .i64 hi] w fun e w' => e = .returned (.bool (bounds lo hi)) ∧ w' = w := by
 go_enter Tryz.func61, Tryz.ntmps61
 go_wp2
 all_goals go_ret
 all_goals refine ⟨congrArg (fun x => Ending.returned (Value.bool x)) ?_, rfl⟩
 all_goals (rw [Bool.eq_iff_iff]; simp [bounds]; omega)
set_option maxHeartbeats 1000000 in
theorem from_calls (k m lo hi : Int) (ar ak : Option Addr) (lr cr lk ck : Nat) (w : World) :
  Calls Tryz.prog 67 #[.agg #[.int .i64 k, .int .i64 m, .int .i64 lo, .int .i64 hi, .slice ar lr cr, .slice ak lk ck]] w fun e w' => e = .returned (.agg #[.int .i64 k, .int .i64 m, .int .i64 lo, .int .i64 hi, .slice ar lr cr, .slice ak lk ck, .int .i64 1, .int .i64 0, .bool true, .bool true, .bool true]) ∧ Below w.heap.size w w' := by
 go_enter Tryz.func67, Tryz.ntmps67
 go_wp2
 refine bodyPost_ret (v := .agg #[.int .i64 k, .int .i64 m, .int .i64 lo, .int .i64 hi, .slice ar lr cr, .slice ak lk ck, .int .i64 1, .int .i64 0, .bool true, .bool true, .bool true]) (by simp [results, Tryz.results67, go_sem]) rfl ?_
 exact ⟨rfl, ((Below.refl _ w).alloc (Nat.le_refl _) _).alloc (by simp) _⟩
set_option maxHeartbeats 1000000 in
theorem nothing_calls (k m lo hi d a : Int) (ar ak : Option Addr) (lr cr lk ck : Nat) (f l b : Bool) (w : World) :
  Calls Tryz.prog 110 #[.agg #[.int .i64 k, .int .i64 m, .int .i64 lo, .int .i64 hi, .slice ar lr cr, .slice ak lk ck, .int .i64 d, .int .i64 a, .bool f, .bool l, .bool b]] w fun e w' => e = .returned (.tuple #[]) ∧ Below w.heap.size w w' := by
 go_enter Tryz.func110, Tryz.ntmps110
 go_wp2
 go_end0
 exact ⟨rfl, (Below.refl _ w).alloc (Nat.le_refl _) _⟩
end Go.Proofs.YtamhkdlcoghdbaaGreatDoor.PCls
