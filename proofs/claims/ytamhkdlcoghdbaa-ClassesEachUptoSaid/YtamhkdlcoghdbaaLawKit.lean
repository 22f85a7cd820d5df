/- For the walks of the laws: a row of its own that stays, a row that is spoilt, a row's head. -/
import Derived.Test.YtamhkdlcoghdbaaGTwo
import Derived.Test.YtamhkdlcoghdbaaLThree
import Derived.Test.YtamhkdlcoghdbaaPClsx8
import Derived.Test.YtamhkdlcoghdbaaLSpoil
namespace Go.Proofs.Ytamhkdlcoghdbaa.PCls
open Go.RowKit Go.Proofs.YtamhkdlcoghdbaaW.PrintWords Go.Proofs.YtamhkdlcoghdbaaW.PrintLast Go.Proofs.YtamhkdlcoghdbaaW.PrintMore
set_option linter.unusedVariables false
set_option linter.unusedSimpArgs false

theorem own_same {w w' : World} {base : Nat} {v : Value} {n : Nat} {xs : List Value} (h : w.ownsRow base 64 2 v n xs) (hs : ∀ k, v.ownBlock = some k → w'.heap[k]? = w.heap[k]?) : w'.ownsRow base 64 2 v n xs := by
  refine ⟨h.1, ?_⟩
  rcases h.2 with hn | ⟨g, cap, cur, rfl, hb, hgg, rest⟩
  · exact .inl hn
  · exact .inr ⟨g, cap, cur, rfl, hb, by rw [hs g rfl]; exact hgg, rest⟩
theorem R_same {w w' : World} {base : Nat} {ok : Nat → Prop} {v : Value} {l : List S64} (h : Kd.R k64 64 w base ok v l) (hs : ∀ k, v.ownBlock = some k → w'.heap[k]? = w.heap[k]?) : Kd.R k64 64 w' base ok v l :=
  R_of_own (own_same (own_of_R h) hs) h.1
theorem R_lt {w : World} {base : Nat} {ok : Nat → Prop} {v : Value} {l : List S64} (h : Kd.R k64 64 w base ok v l) : ∀ k, v.ownBlock = some k → base ≤ k ∧ k < w.heap.size := (own_of_R h).lt
/-- a row stays where nothing below the world's size is written -/
theorem R_below {w w' : World} {base : Nat} {ok : Nat → Prop} {v : Value} {l : List S64} (h : Kd.R k64 64 w base ok v l) (hb : Below w.heap.size w w') : Kd.R k64 64 w' base ok v l :=
  R_same h fun k hk => hb.block k (R_lt h k hk).2
theorem R_kept {w w' : World} {base : Nat} {ok : Nat → Prop} {v : Value} {l : List S64} {P : Nat → Prop} (h : Kd.R k64 64 w base ok v l) (hk : Kept w w' P) (hP : ∀ k, v.ownBlock = some k → ¬ P k) : Kd.R k64 64 w' base ok v l :=
  R_same h fun k hk' => hk.2 k (R_lt h k hk').2 (hP k hk')
theorem spoil_at {wr w : World} {v : Value} {l : List S64} (P : Nat → Prop) (hl : l.length < 8796093022208) (hB : Below wr.heap.size wr w) (hR : Kd.R k64 64 w wr.heap.size (fun _ => True) v l) (hP : ∀ k, v.ownBlock = some k → P k) :
    Calls Try.prog 30 #[v] w fun e w' => e = .returned (.tuple #[]) ∧ Below wr.heap.size wr w' ∧ Kept w w' P := by
  obtain ⟨r, hr⟩ := spoil_ends l hl
  obtain ⟨k, hk⟩ := hr.get
  refine (dredgelaw06_spoil.calls k P v l r wr w hB (R_of_own (own_of_R hR) hP) hk).mono ?_
  rintro e w' ⟨rfl, _, hb, hkp⟩
  exact ⟨rfl, hb, hkp⟩
theorem C_take {w : World} {A : Option Addr} {l t : List S64} (h : Kd.C k64 w A (l ++ t).length (l ++ t)) : Kd.C k64 w A l.length l := by
  have hlen : (l ++ t).length = l.length + t.length := List.length_append
  refine ⟨rfl, by have := h.2.1; omega, fun hp => ?_⟩
  obtain ⟨ad, e, hc⟩ := h.2.2 (by omega)
  refine ⟨ad, e, fun j p hj => hc j p ?_⟩
  have := (List.getElem?_eq_some_iff.1 hj).1
  rw [List.getElem?_append_left this]
  exact hj
theorem C_head {w : World} {A : Option Addr} {X l t : List S64} (hX : X = l ++ t) (h : Kd.C k64 w A X.length X) : Kd.C k64 w A l.length l := by
  subst hX
  exact C_take h
theorem and_length (a b : List S64) : (Cls.and_ a b).length ≤ a.length + b.length := by
  have h := inter_length (Cls.cls a) (Cls.cls b)
  have h1 := cls_length a
  have h2 := cls_length b
  unfold Cls.and_
  omega
theorem lessI_length : ∀ (a b : List S64), (Cls.less a b).length ≤ a.length * (b.length + 1)
  | [], b => by simp [Cls.less]
  | r :: a, b => by
    have h1 := cut_length r.f1 (b.dropWhile fun x => decide (x.f1 < r.f0)) r.f0
    have h2 := drop_length r.f0 b
    have h3 := lessI_length a (b.dropWhile fun x => decide (x.f1 < r.f0))
    have h4 : a.length * ((b.dropWhile fun x => decide (x.f1 < r.f0)).length + 1) ≤ a.length * (b.length + 1) := Nat.mul_le_mul_left _ (by omega)
    rw [Cls.less, List.length_append, List.length_cons, Nat.succ_mul]
    omega
theorem less_length (a b : List S64) : (Cls.less_ a b).length ≤ a.length * (b.length + 1) := by
  have h := lessI_length (Cls.cls a) (Cls.cls b)
  have h1 := cls_length a
  have h2 := cls_length b
  exact Nat.le_trans h (Nat.mul_le_mul h1 (by omega))
theorem fold_length (l : List S64) : (Cls.fold l).length ≤ l.length + 52 := by
  have h := cls_length (Cls.toFold l)
  have h2 := toFold_length l
  unfold Cls.toFold at h h2
  unfold Cls.fold
  omega
theorem still_ends (l : List S64) (hl : l.length < 8796093022208) : Ends (fun k => dredgelaw06_still.f k (l ++ [⟨-7, 7⟩]) l) true := by
  unfold dredgelaw06_still.f
  have e1 : (0 : Int) ≤ (l.length : Int) := by omega
  have e2 : (l.length : Int) ≤ ((l ++ [(⟨-7, 7⟩ : S64)]).length : Int) := by simp; omega
  have e3 : (l.length : Int) < ((l ++ [(⟨-7, 7⟩ : S64)]).length : Int) := by simp; omega
  have e4 : (l ++ [(⟨-7, 7⟩ : S64)]).take l.length = l := List.take_left' rfl
  simp only [if_pos e1, if_pos e2, Int.toNat_natCast, e4, rd_last]
  refine Ends.bind (alike_ends l l hl) ?_
  simp only [decide_true, if_true, if_pos e3]
  exact Ends.some_ _
end Go.Proofs.Ytamhkdlcoghdbaa.PCls
