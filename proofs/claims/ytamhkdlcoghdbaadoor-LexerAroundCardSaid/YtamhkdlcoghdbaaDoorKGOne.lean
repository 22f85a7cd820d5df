/- Out of GOne (wip/tools/prune2.py): the declarations alone that the texts of the trees name. -/
import Derived.Test.YtamhkdlcoghdbaaDoorKMZPClsx18
namespace Go.Proofs.YtamhkdlcoghdbaaDoor.PCls
open Go.RowKit Go.Proofs.YtamhkdlcoghdbaaDoorW.PrintWords Go.Proofs.YtamhkdlcoghdbaaDoorW.PrintLast Go.Proofs.YtamhkdlcoghdbaaDoorW.PrintMore
set_option linter.unusedVariables false
set_option linter.unusedSimpArgs false
namespace Cls
end Cls
namespace Cls
/-- a range from lo to hi, without what is in a class -/
def cut (hi : Int) : Int → List S64 → List S64
 | lo, [] => [⟨lo, hi⟩]
 | lo, x :: b =>
  if hi < x.f0 then [⟨lo, hi⟩]
  else (if lo < x.f0 then [⟨lo, x.f0 - 1⟩] else []) ++ (if x.f1 < hi then cut hi (x.f1 + 1) b else [])
theorem cut_in (hi : Int) : ∀ (lo : Int) (b : List S64), lo ≤ hi → Can b → (∀ s, s ∈ b → lo ≤ s.f1) → ∀ x, x ∈ cut hi lo b → lo ≤ x.f0 ∧ x.f0 ≤ x.f1 ∧ x.f1 ≤ hi := by
 intro lo b
 induction b generalizing lo with
 | nil => intro h _ _ x hx; simp [cut] at hx; subst hx; exact ⟨Int.le_refl _, h, Int.le_refl _⟩
 | cons s b ih =>
  intro h hb hs x hx
  unfold cut at hx
  have h1 := hs s List.mem_cons_self
  have h2 := can_head hb
  split at hx
  ·simp at hx; subst hx; exact ⟨Int.le_refl _, h, Int.le_refl _⟩
  ·rcases List.mem_append.1 hx with hx | hx
   ·split at hx
    ·simp at hx; subst hx; simp only; omega
    ·simp at hx
   ·split at hx
    ·have := ih (s.f1 + 1) (by omega) (can_tail hb) (fun y hy => by have := can_gap hb y hy; have := (can_tail hb).2 y hy; omega) x hx
     omega
    ·simp at hx
theorem cut_can (hi : Int) : ∀ (lo : Int) (b : List S64), lo ≤ hi → Can b → (∀ s, s ∈ b → lo ≤ s.f1) → Can (cut hi lo b) := by
 intro lo b
 induction b generalizing lo with
 | nil => intro h _ _; simp [cut, Can, h]
 | cons s b ih =>
  intro h hb hs
  unfold cut
  have h1 := hs s List.mem_cons_self
  have h2 := can_head hb
  split
  ·simp [Can, h]
  ·split
   ·rename_i hlt
    split
    ·have hb' : ∀ y, y ∈ b → s.f1 + 1 ≤ y.f1 := fun y hy => by have := can_gap hb y hy; have := (can_tail hb).2 y hy; omega
     have hc := ih (s.f1 + 1) (by omega) (can_tail hb) hb'
     refine ⟨List.pairwise_cons.2 ⟨fun x hx => ?_, hc.1⟩, fun x hx => ?_⟩
     ·have := cut_in hi (s.f1 + 1) b (by omega) (can_tail hb) hb' x hx
      simp only
      omega
     ·rcases List.mem_cons.1 hx with rfl | hx
      ·simp only; omega
      ·exact hc.2 x hx
    ·simp [Can]; omega
   ·split
    ·exact ih (s.f1 + 1) (by omega) (can_tail hb) (fun y hy => by have := can_gap hb y hy; have := (can_tail hb).2 y hy; omega)
    ·exact can_nil
theorem cut_mem (hi : Int) : ∀ (lo : Int) (b : List S64), lo ≤ hi → Can b → (∀ s, s ∈ b → lo ≤ s.f1) → ∀ c, Mem (cut hi lo b) c ↔ (lo ≤ c ∧ c ≤ hi) ∧ ¬ Mem b c := by
 intro lo b
 induction b generalizing lo with
 | nil => intro h _ _ c; simp [cut, mem_cons, mem_nil]
 | cons s b ih =>
  intro h hb hs c
  unfold cut
  have h1 := hs s List.mem_cons_self
  have h2 := can_head hb
  have g : Mem b c → s.f1 + 1 < c := can_beyond hb
  split
  ·rename_i hlt
   simp only [mem_cons, mem_nil, or_false]
   constructor
   ·intro hc
    refine ⟨hc, ?_⟩
    rintro (k | k)
    ·omega
    ·have := g k; omega
   ·exact fun hc => hc.1
  ·rename_i hge
   rw [mem_append, mem_cons s b]
   have e1 : Mem (if lo < s.f0 then [(⟨lo, s.f0 - 1⟩ : S64)] else []) c ↔ lo ≤ c ∧ c < s.f0 := by
    split
    ·simp only [mem_cons, mem_nil, or_false]; omega
    ·simp only [mem_nil, false_iff]; omega
   rw [e1]
   split
   ·rename_i hlt
    rw [ih (s.f1 + 1) (by omega) (can_tail hb) (fun y hy => by have := can_gap hb y hy; have := (can_tail hb).2 y hy; omega) c]
    generalize Mem b c = B at *
    constructor
    ·rintro (k | ⟨k, k2⟩)
     ·refine ⟨by omega, ?_⟩
      rintro (k1 | k1)
      ·omega
      ·have := g k1; omega
     ·refine ⟨by omega, ?_⟩
      rintro (k1 | k1)
      ·omega
      ·exact k2 k1
    ·rintro ⟨k, k2⟩
     by_cases hc : c < s.f0
     ·exact .inl (by omega)
     ·refine .inr ⟨?_, fun k1 => k2 (.inr k1)⟩
      have : ¬ (s.f0 ≤ c ∧ c ≤ s.f1) := fun k1 => k2 (.inl k1)
      omega
   ·rename_i hnl
    simp only [mem_nil, or_false]
    constructor
    ·intro k
     refine ⟨by omega, ?_⟩
     rintro (k1 | k1)
     ·omega
     ·have := g k1; omega
    ·rintro ⟨k, k2⟩
     have : ¬ (s.f0 ≤ c ∧ c ≤ s.f1) := fun k1 => k2 (.inl k1)
     omega
/-- what is in the first alone: each range cut by what of the second doesn't lie ahead of it -/
def less : List S64 → List S64 → List S64
 | [], _ => []
 | r :: a, b => cut r.f1 r.f0 (b.dropWhile fun x => decide (x.f1 < r.f0)) ++ less a (b.dropWhile fun x => decide (x.f1 < r.f0))
theorem drop_can {b : List S64} (lo : Int) (h : Can b) : Can (b.dropWhile fun x => decide (x.f1 < lo)) := by
 have hs := List.dropWhile_sublist (fun x : S64 => decide (x.f1 < lo)) (l := b)
 exact ⟨h.1.sublist hs, fun r hr => h.2 r (hs.subset hr)⟩
theorem drop_from {b : List S64} (lo : Int) (h : Can b) : ∀ s, s ∈ (b.dropWhile fun x => decide (x.f1 < lo)) → lo ≤ s.f1 := by
 induction b with
 | nil => intro s hs; simp at hs
 | cons x b ih =>
  intro s hs
  rw [List.dropWhile_cons] at hs
  split at hs
  ·exact ih (can_tail h) s hs
  ·rename_i hx
   simp at hx
   rcases List.mem_cons.1 hs with rfl | hs
   ·exact hx
   ·have := can_gap h s hs
    have := (can_tail h).2 s hs
    omega
theorem drop_mem {b : List S64} (lo : Int) (h : Can b) (c : Int) (hc : lo ≤ c) : Mem (b.dropWhile fun x => decide (x.f1 < lo)) c ↔ Mem b c := by
 induction b with
 | nil => simp
 | cons x b ih =>
  rw [List.dropWhile_cons]
  split
  ·rename_i hx
   simp at hx
   rw [ih (can_tail h), mem_cons]
   constructor
   ·exact .inr
   ·rintro (k | k)
    ·omega
    ·exact k
  ·rfl
theorem less_spec : ∀ (a b : List S64), Can a → Can b → Can (less a b) ∧ (∀ c, Mem (less a b) c ↔ Mem a c ∧ ¬ Mem b c)
 | [], b, _, _ => ⟨can_nil, fun c => by simp [less, mem_nil]⟩
 | r :: a, b, ha, hb => by
  have hd := drop_can r.f0 hb
  have hf := drop_from r.f0 hb
  have h := less_spec a _ (can_tail ha) hd
  have hr := can_head ha
  have hin := cut_in r.f1 r.f0 _ hr hd hf
  refine ⟨⟨?_, ?_⟩, fun c => ?_⟩
  ·unfold less
   rw [List.pairwise_append]
   refine ⟨(cut_can r.f1 r.f0 _ hr hd hf).1, h.1.1, fun x hx y hy => ?_⟩
   have h1 := hin x hx
   have hy0 := h.1.2 y hy
   have h2 := ((h.2 y.f0).1 ⟨y, hy, Int.le_refl _, hy0⟩).1
   have := can_beyond ha h2
   omega
  ·intro x hx
   unfold less at hx
   rcases List.mem_append.1 hx with hx | hx
   ·exact (hin x hx).2.1
   ·exact h.1.2 x hx
  ·unfold less
   rw [mem_append, cut_mem r.f1 r.f0 _ hr hd hf, h.2, mem_cons]
   constructor
   ·rintro (⟨k, k2⟩ | ⟨k, k2⟩)
    ·exact ⟨.inl k, fun m => k2 ((drop_mem r.f0 hb c k.1).2 m)⟩
    ·have := can_beyond ha k
     exact ⟨.inr k, fun m => k2 ((drop_mem r.f0 hb c (by omega)).2 m)⟩
   ·rintro ⟨k | k, k2⟩
    ·exact .inl ⟨k, fun m => k2 ((drop_mem r.f0 hb c k.1).1 m)⟩
    ·have := can_beyond ha k
     exact .inr ⟨k, fun m => k2 ((drop_mem r.f0 hb c (by omega)).1 m)⟩
end Cls
namespace Cls
/-- the classes that have a name, by its bytes -/
def named (s : List UInt8) : Option (List S64) :=
 if s = [97, 108, 110, 117, 109] then some [⟨48, 57⟩, ⟨65, 90⟩, ⟨97, 122⟩]
 else if s = [97, 108, 112, 104, 97] then some [⟨65, 90⟩, ⟨97, 122⟩]
 else if s = [108, 111, 119, 101, 114] then some [⟨97, 122⟩]
 else if s = [117, 112, 112, 101, 114] then some [⟨65, 90⟩]
 else if s = [120, 100, 105, 103, 105, 116] then some [⟨48, 57⟩, ⟨65, 70⟩, ⟨97, 102⟩]
 else if s = [100, 105, 103, 105, 116] then some [⟨48, 57⟩]
 else if s = [115, 112, 97, 99, 101] then some [⟨9, 13⟩, ⟨32, 32⟩]
 else if s = [98, 108, 97, 110, 107] then some [⟨9, 9⟩, ⟨32, 32⟩]
 else if s = [99, 110, 116, 114, 108] then some [⟨0, 31⟩, ⟨127, 127⟩]
 else if s = [112, 114, 105, 110, 116] then some [⟨32, 126⟩]
 else if s = [103, 114, 97, 112, 104] then some [⟨33, 126⟩]
 else if s = [112, 117, 110, 99, 116] then some [⟨33, 47⟩, ⟨58, 64⟩, ⟨91, 96⟩, ⟨123, 126⟩]
 else none
end Cls
def classes_Named.f (s : ByteArray) : Option (List S64 × Bool) := some ((Cls.named s.data.toList).getD [], (Cls.named s.data.toList).isSome)
end Go.Proofs.YtamhkdlcoghdbaaDoor.PCls
namespace Go.Proofs.YtamhkdlcoghdbaaDoor.PCls
open Go.RowKit Go.Proofs.YtamhkdlcoghdbaaDoorW.PrintWords Go.Proofs.YtamhkdlcoghdbaaDoorW.PrintLast Go.Proofs.YtamhkdlcoghdbaaDoorW.PrintMore
set_option linter.unusedVariables false
set_option linter.unusedSimpArgs false
end Go.Proofs.YtamhkdlcoghdbaaDoor.PCls
namespace Go.Proofs.YtamhkdlcoghdbaaDoor.PCls
open Go.RowKit Go.Proofs.YtamhkdlcoghdbaaDoorW.PrintWords Go.Proofs.YtamhkdlcoghdbaaDoorW.PrintLast Go.Proofs.YtamhkdlcoghdbaaDoorW.PrintMore
open Go.ChangeShapes Go.WideShapes Go.ChangeAt
set_option linter.unusedVariables false
set_option linter.unusedSimpArgs false
end Go.Proofs.YtamhkdlcoghdbaaDoor.PCls
namespace Go.Proofs.YtamhkdlcoghdbaaDoor.PCls
open Go.RowKit Go.Proofs.YtamhkdlcoghdbaaDoorW.PrintWords Go.Proofs.YtamhkdlcoghdbaaDoorW.PrintLast Go.Proofs.YtamhkdlcoghdbaaDoorW.PrintMore
set_option linter.unusedVariables false
set_option linter.unusedSimpArgs false
end Go.Proofs.YtamhkdlcoghdbaaDoor.PCls
namespace Go.Proofs.YtamhkdlcoghdbaaDoor.PCls
open Go.RowKit Go.Proofs.YtamhkdlcoghdbaaDoorW.PrintWords Go.Proofs.YtamhkdlcoghdbaaDoorW.PrintLast Go.Proofs.YtamhkdlcoghdbaaDoorW.PrintMore
open Go.Shelf Go.Lib
set_option linter.unusedVariables false
set_option linter.unusedSimpArgs false
end Go.Proofs.YtamhkdlcoghdbaaDoor.PCls
namespace Go.Proofs.YtamhkdlcoghdbaaDoor.PCls
open Go.RowKit Go.Proofs.YtamhkdlcoghdbaaDoorW.PrintWords Go.Proofs.YtamhkdlcoghdbaaDoorW.PrintLast Go.Proofs.YtamhkdlcoghdbaaDoorW.PrintMore
open Go.Shelf Go.Lib
set_option linter.unusedVariables false
set_option linter.unusedSimpArgs false
end Go.Proofs.YtamhkdlcoghdbaaDoor.PCls
