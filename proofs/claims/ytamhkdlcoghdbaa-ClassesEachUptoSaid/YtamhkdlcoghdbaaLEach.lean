/- The law of ClassesEach: number by number. -/
import Derived.Test.YtamhkdlcoghdbaaVEach
import Derived.Test.YtamhkdlcoghdbaaGEx
namespace Go.Proofs.Ytamhkdlcoghdbaa.PCls
open Go.RowKit Go.Proofs.YtamhkdlcoghdbaaW.PrintWords Go.Proofs.YtamhkdlcoghdbaaW.PrintLast Go.Proofs.YtamhkdlcoghdbaaW.PrintMore
set_option linter.unusedVariables false
set_option linter.unusedSimpArgs false



/-- is a number in one of some ranges, told as the program tells it -/
def hasB (l : List S64) (c : Int) : Bool := l.any fun r => decide (r.f0 ≤ c) && decide (c ≤ r.f1)
theorem hasB_or {l a b : List S64} {c : Int} (h : Cls.Mem l c ↔ Cls.Mem a c ∨ Cls.Mem b c) : classes_Has.f l c = some (hasB a c || hasB b c) := by
  unfold classes_Has.f hasB
  congr 1
  rw [Bool.eq_iff_iff, Bool.or_eq_true, has_mem, has_mem, has_mem]
  exact h
theorem hasB_is {l : List S64} {c : Int} {B : Bool} (h : Cls.Mem l c ↔ B = true) : classes_Has.f l c = some B := by
  unfold classes_Has.f
  congr 1
  rw [Bool.eq_iff_iff, has_mem]
  exact h
theorem hasB_iff (l : List S64) (c : Int) : hasB l c = true ↔ Cls.Mem l c := has_mem l c
theorem all_ch (m : Bool) (c : Int) : (decide (0 ≤ c) && decide (c ≤ if m = true then 1114111 else 255) && (!m || decide (c < 55296) || decide (57343 < c))) = true ↔ Cls.Mem (Cls.all m) c := by
  unfold Cls.all
  cases m
  · simp [Cls.mem_cons, Cls.mem_nil]
  · simp [Cls.mem_cons, Cls.mem_nil]
    omega
theorem each_law (a b : List S64) (c : Int) (m : Bool) (h1 : a.length < 2097152) (h2 : b.length < 2097152) (ha : inR a = true) (hb : inR b = true) (hc : -9223372036854775808 ≤ c ∧ c ≤ 9223372036854775807)
    (A0 : Option Addr) (c0 : Nat) (A1 : Option Addr) (c1 : Nat) (W : World) (hr0 : Kd.C k64 W A0 a.length a) (hc0 : a.length ≤ c0) (hr1 : Kd.C k64 W A1 b.length b) (hc1 : b.length ≤ c1) :
    Calls Try.prog 5 #[.slice A0 a.length c0, .slice A1 b.length c1, .int .i64 c, .bool m] W fun e w' => e = .returned (.bool true) ∧ Below W.heap.size W w' := by
  obtain ⟨k1, f2⟩ := (and_ends a b (by omega) ha hb).get
  obtain ⟨k2, f3⟩ := (less_ends a b h1 h2 ha hb).get
  obtain ⟨k3, f4⟩ := (norm_ends a m (by omega) ha).get
  obtain ⟨k4, f5⟩ := (not_ends a m h1 ha).get
  obtain ⟨ch, hch⟩ : ∃ ch, ch = (decide (0 ≤ c) && decide (c ≤ if m = true then 1114111 else 255) && (!m || decide (c < 55296) || decide (57343 < c))) := ⟨_, rfl⟩
  have hcm : ch = true ↔ Cls.Mem (Cls.all m) c := by rw [hch]; exact all_ch m c
  have hfold : Cls.Mem (Cls.fold a) c ↔ (hasB a c || hasB a (if 65 ≤ c ∧ c ≤ 90 then c + 32 else if 97 ≤ c ∧ c ≤ 122 then c - 32 else c)) = true := by
    rw [Cls.fold_mem, Bool.or_eq_true, hasB_iff, hasB_iff]
    by_cases g1 : 65 ≤ c ∧ c ≤ 90
    · rw [if_pos g1]
      constructor
      · rintro (h | ⟨h, k⟩ | ⟨h, k⟩)
        · exact .inl h
        · omega
        · exact .inr h
      · rintro (h | h)
        · exact .inl h
        · exact .inr (.inr ⟨h, by omega⟩)
    · rw [if_neg g1]
      by_cases g2 : 97 ≤ c ∧ c ≤ 122
      · rw [if_pos g2]
        constructor
        · rintro (h | ⟨h, k⟩ | ⟨h, k⟩)
          · exact .inl h
          · exact .inr h
          · omega
        · rintro (h | h)
          · exact .inl h
          · exact .inr (.inl ⟨h, by omega⟩)
      · rw [if_neg g2]
        constructor
        · rintro (h | ⟨h, k⟩ | ⟨h, k⟩)
          · exact .inl h
          · omega
          · omega
        · rintro (h | h)
          · exact .inl h
          · exact .inl h
  exact each_walk a b c m (hasB a c) (hasB b c) (hasB a (if 65 ≤ c ∧ c ≤ 90 then c + 32 else if 97 ≤ c ∧ c ≤ 122 then c - 32 else c)) ch _ (if m = true then 1114111 else 255) _ _ _ _ _ _ _ k1 k2 k3 k4 hc
    rfl rfl (by unfold classes_Top.f; cases m <;> rfl) hch rfl rfl rfl
    (by unfold classes_Or.f; rw [if_pos (by omega), if_pos ((inR_append a b).2 ⟨ha, hb⟩)]) (hasB_or (by rw [Cls.cls_mem, Cls.mem_append]))
    f2 (hasB_is (by rw [Cls.and_mem, Bool.and_eq_true, hasB_iff, hasB_iff]))
    f3 (hasB_is (by rw [Cls.less_mem, Bool.and_eq_true, hasB_iff, Bool.not_eq_true', ← Bool.not_eq_true, hasB_iff]))
    f4 (hasB_is (by rw [Cls.norm_mem, Bool.and_eq_true, hasB_iff, hcm]))
    f5 (hasB_is (by rw [Cls.less_mem, Bool.and_eq_true, hcm, Bool.not_eq_true', ← Bool.not_eq_true, hasB_iff]))
    (by unfold classes_Fold.f; rw [if_pos (by omega), if_pos ha]) (hasB_is hfold)
    A0 c0 A1 c1 W hr0 hc0 hr1 hc1

end Go.Proofs.Ytamhkdlcoghdbaa.PCls
