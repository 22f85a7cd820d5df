/- The plain law of ClassesNamed. -/
import Derived.Test.YtamhkdlcoghdbaaLSpoil
import Derived.Test.YtamhkdlcoghdbaaPClsx17
namespace Go.Proofs.Ytamhkdlcoghdbaa.PCls
open Go.RowKit Go.Proofs.YtamhkdlcoghdbaaW.PrintWords Go.Proofs.YtamhkdlcoghdbaaW.PrintLast Go.Proofs.YtamhkdlcoghdbaaW.PrintMore
set_option linter.unusedVariables false
set_option linter.unusedSimpArgs false

/-! ### the two tables of names are one -/
theorem refnamed_eq (s : ByteArray) : dredgeref06_Named.f s = classes_Named.f s := by
  unfold dredgeref06_Named.f classes_Named.f Cls.named
  rw [← Go.ByteArray.toList_eq]
  generalize s.toList = t
  by_cases c0 : t = [97, 108, 110, 117, 109]
  · subst c0; decide +kernel
  by_cases c1 : t = [97, 108, 112, 104, 97]
  · subst c1; decide +kernel
  by_cases c2 : t = [98, 108, 97, 110, 107]
  · subst c2; decide +kernel
  by_cases c3 : t = [99, 110, 116, 114, 108]
  · subst c3; decide +kernel
  by_cases c4 : t = [100, 105, 103, 105, 116]
  · subst c4; decide +kernel
  by_cases c5 : t = [103, 114, 97, 112, 104]
  · subst c5; decide +kernel
  by_cases c6 : t = [108, 111, 119, 101, 114]
  · subst c6; decide +kernel
  by_cases c7 : t = [112, 114, 105, 110, 116]
  · subst c7; decide +kernel
  by_cases c8 : t = [112, 117, 110, 99, 116]
  · subst c8; decide +kernel
  by_cases c9 : t = [115, 112, 97, 99, 101]
  · subst c9; decide +kernel
  by_cases c10 : t = [117, 112, 112, 101, 114]
  · subst c10; decide +kernel
  by_cases c11 : t = [120, 100, 105, 103, 105, 116]
  · subst c11; decide +kernel
  simp only [if_neg c0, if_neg c1, if_neg c2, if_neg c3, if_neg c4, if_neg c5, if_neg c6, if_neg c7, if_neg c8, if_neg c9, if_neg c10, if_neg c11, Option.getD_none, Option.isSome_none]
def Cls.names : List ByteArray := [⟨#[97, 108, 110, 117, 109]⟩, ⟨#[97, 108, 112, 104, 97]⟩, ⟨#[98, 108, 97, 110, 107]⟩, ⟨#[99, 110, 116, 114, 108]⟩, ⟨#[100, 105, 103, 105, 116]⟩, ⟨#[103, 114, 97, 112, 104]⟩, ⟨#[108, 111, 119, 101, 114]⟩, ⟨#[112, 114, 105, 110, 116]⟩, ⟨#[112, 117, 110, 99, 116]⟩, ⟨#[115, 112, 97, 99, 101]⟩, ⟨#[117, 112, 112, 101, 114]⟩, ⟨#[120, 100, 105, 103, 105, 116]⟩]
theorem names_f : classes_Names.f = some Cls.names := rfl
theorem refnames_f : dredgeref06_Names.f = some Cls.names := rfl
theorem named_length (s : ByteArray) (b : List S64 × Bool) (h : classes_Named.f s = some b) : b.1.length < 8796093022208 := by
  have e : ((Cls.named s.data.toList).getD []).length ≤ 4 := by
    generalize s.data.toList = t
    unfold Cls.named
    by_cases c0 : t = [97, 108, 110, 117, 109]
    · rw [if_pos c0]; decide
    rw [if_neg c0]
    by_cases c1 : t = [97, 108, 112, 104, 97]
    · rw [if_pos c1]; decide
    rw [if_neg c1]
    by_cases c2 : t = [108, 111, 119, 101, 114]
    · rw [if_pos c2]; decide
    rw [if_neg c2]
    by_cases c3 : t = [117, 112, 112, 101, 114]
    · rw [if_pos c3]; decide
    rw [if_neg c3]
    by_cases c4 : t = [120, 100, 105, 103, 105, 116]
    · rw [if_pos c4]; decide
    rw [if_neg c4]
    by_cases c5 : t = [100, 105, 103, 105, 116]
    · rw [if_pos c5]; decide
    rw [if_neg c5]
    by_cases c6 : t = [115, 112, 97, 99, 101]
    · rw [if_pos c6]; decide
    rw [if_neg c6]
    by_cases c7 : t = [98, 108, 97, 110, 107]
    · rw [if_pos c7]; decide
    rw [if_neg c7]
    by_cases c8 : t = [99, 110, 116, 114, 108]
    · rw [if_pos c8]; decide
    rw [if_neg c8]
    by_cases c9 : t = [112, 114, 105, 110, 116]
    · rw [if_pos c9]; decide
    rw [if_neg c9]
    by_cases c10 : t = [103, 114, 97, 112, 104]
    · rw [if_pos c10]; decide
    rw [if_neg c10]
    by_cases c11 : t = [112, 117, 110, 99, 116]
    · rw [if_pos c11]; decide
    rw [if_neg c11]
    simp
  unfold classes_Named.f at h
  simp only [Option.some.injEq] at h
  subst h
  show ((Cls.named s.data.toList).getD []).length < 8796093022208
  omega
theorem named_is : ∀ i, i < 12 → ∃ l, classes_Named.f (Cls.names.getD i ByteArray.empty) = some (l, true) := by
  intro i hi
  match i, hi with
  | 0, _ => exact ⟨_, by rfl⟩
  | 1, _ => exact ⟨_, by rfl⟩
  | 2, _ => exact ⟨_, by rfl⟩
  | 3, _ => exact ⟨_, by rfl⟩
  | 4, _ => exact ⟨_, by rfl⟩
  | 5, _ => exact ⟨_, by rfl⟩
  | 6, _ => exact ⟨_, by rfl⟩
  | 7, _ => exact ⟨_, by rfl⟩
  | 8, _ => exact ⟨_, by rfl⟩
  | 9, _ => exact ⟨_, by rfl⟩
  | 10, _ => exact ⟨_, by rfl⟩
  | 11, _ => exact ⟨_, by rfl⟩
  | i + 12, hi => omega
theorem named_inner (s : ByteArray) (turn : Int) (hend : Ends (fun k => dredgelaw06_ClassesNamed.l0 k s true Cls.names (wrap64 (turn + 1))) true) :
    ∀ (d i : Nat) (x : List ByteArray), i + d = 12 → x.length = 12 → (∀ j, i ≤ j → x.getD j ByteArray.empty = Cls.names.getD j ByteArray.empty) → Ends (fun k => dredgelaw06_ClassesNamed.l1 k s true Cls.names turn x (i : Int)) true := by
  intro d
  induction d with
  | zero =>
    intro i x hd hx hj
    refine Ends.next hend fun k => ?_
    simp only [dredgelaw06_ClassesNamed.l1]
    rw [if_neg (by omega)]
  | succ d ih =>
    intro i x hd hx hj
    obtain ⟨l, hl⟩ := named_is i (by omega)
    have hlen := named_length _ _ hl
    obtain ⟨r, hr⟩ := spoil_ends l hlen
    have hnl : ((Cls.names.length : Nat) : Int) = 12 := rfl
    have e1 : rdOf ByteArray.empty x (i : Int) = Cls.names.getD i ByteArray.empty := by unfold rdOf; rw [Int.toNat_natCast]; exact hj i (Nat.le_refl _)
    have e2 : rdOf ByteArray.empty Cls.names (i : Int) = Cls.names.getD i ByteArray.empty := by unfold rdOf; rw [Int.toNat_natCast]
    have hnext := ih (i + 1) (x.set i ⟨#[63]⟩) (by omega) (by simpa using hx) (fun j hij => by
      rw [← hj j (by omega)]
      simp only [List.getD_eq_getElem?_getD]
      rw [List.getElem?_set_ne (by omega)])
    have hw : wrap64 ((i : Int) + 1) = ((i + 1 : Nat) : Int) := by rw [w64_lit _ (by omega) (by omega)]; omega
    refine Ends.next (g := fun k => (dredgeref06_Alike.f k l l).bind fun t333 => if t333 = true then (dredgelaw06_spoil.f k l).bind fun t336 => dredgelaw06_ClassesNamed.l1 k s true Cls.names turn (x.set i ⟨#[63]⟩) ((i + 1 : Nat) : Int) else some false) (Ends.bind (alike_ends l l hlen) ?_) fun k => ?_
    · simp only [decide_true, if_true]
      exact Ends.bind hr hnext
    · simp only [dredgelaw06_ClassesNamed.l1]
      rw [if_pos (by omega), if_pos (by omega), e1, e2, refnamed_eq, hl, Option.bind_some, if_pos (by omega), Option.bind_some, hw, Int.toNat_natCast]
      simp only [if_true]
theorem named_last (s : ByteArray) : Ends (fun k => dredgelaw06_ClassesNamed.l0 k s true Cls.names 2) true := by
  obtain ⟨b, hb⟩ : ∃ b, classes_Named.f s = some b := ⟨_, rfl⟩
  have hlen := named_length s b hb
  refine Ends.next (g := fun k => (dredgeref06_Alike.f k b.1 b.1).bind fun t => if t = true then some (b.2 == b.2) else some false) (Ends.bind (alike_ends b.1 b.1 hlen) ?_) fun k => ?_
  · simp only [decide_true, if_true, beq_self_eq_true]
    exact Ends.some_ _
  · simp only [dredgelaw06_ClassesNamed.l0]
    rw [if_neg (by omega), refnamed_eq, hb, Option.bind_some, Option.bind_some]
    simp only [if_true]
theorem named_turn (s : ByteArray) (turn : Int) (h : turn < 2) (hend : Ends (fun k => dredgelaw06_ClassesNamed.l0 k s true Cls.names (wrap64 (turn + 1))) true) : Ends (fun k => dredgelaw06_ClassesNamed.l0 k s true Cls.names turn) true := by
  refine Ends.next (named_inner s turn hend 12 0 Cls.names rfl rfl fun _ _ => rfl) fun k => ?_
  simp only [dredgelaw06_ClassesNamed.l0]
  rw [if_pos h, names_f, Option.bind_some, if_pos rfl]
  rfl
theorem named_ends (s : ByteArray) : Ends (fun k => dredgelaw06_ClassesNamed.f k s) true := by
  unfold dredgelaw06_ClassesNamed.f dredgelaw06_examples.f
  simp only [Option.bind_some, refnames_f]
  have e1 : wrap64 ((0 : Int) + 1) = 1 := w64_lit 1 (by omega) (by omega)
  have e2 : wrap64 ((1 : Int) + 1) = 2 := w64_lit 2 (by omega) (by omega)
  exact named_turn s 0 (by omega) (by rw [e1]; exact named_turn s 1 (by omega) (by rw [e2]; exact named_last s))
end Go.Proofs.Ytamhkdlcoghdbaa.PCls
