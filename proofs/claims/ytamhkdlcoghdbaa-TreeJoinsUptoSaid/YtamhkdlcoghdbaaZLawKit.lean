/- Out of LawKit (wip/tools/prune2.py): the declarations alone that the texts of the trees name. -/
import Derived.Test.YtamhkdlcoghdbaaZGTwo
import Derived.Test.YtamhkdlcoghdbaaZLThree
import Derived.Test.YtamhkdlcoghdbaaZPClsx0
import Derived.Test.YtamhkdlcoghdbaaZPClsx1
import Derived.Test.YtamhkdlcoghdbaaZLSpoil
namespace Go.Proofs.Ytamhkdlcoghdbaa.PCls
open Go.RowKit Go.Proofs.YtamhkdlcoghdbaaW.PrintWords Go.Proofs.YtamhkdlcoghdbaaW.PrintLast Go.Proofs.YtamhkdlcoghdbaaW.PrintMore
set_option linter.unusedVariables false
set_option linter.unusedSimpArgs false
theorem own_same {w w' : World} {base : Nat} {v : Value} {n : Nat} {xs : List Value} (h : w.ownsRow base 64 2 v n xs) (hs : ∀ k, v.ownBlock = some k → w'.heap[k]? = w.heap[k]?) : w'.ownsRow base 64 2 v n xs := by
  refine ⟨h.1, ?_⟩
  rcases h.2 with hn | ⟨g, cap, cur, rfl, hb, hgg, rest⟩
  · exact .inl hn
  · exact .inr ⟨g, cap, cur, rfl, hb, by rw [hs g rfl]; exact hgg, rest⟩
theorem R_same {w w' : World} {base : Nat} {ok : Nat → Prop} {v : Value} {l : List S64} (h : Kd.R k64 64 w base ok v l) (hs : ∀ k, v.ownBlock = some k → w'.heap[k]? = w.heap[k]?) : Kd.R k64 64 w' base ok v l :=
  R_of_own (own_same (own_of_R h) hs) h.1
theorem R_lt {w : World} {base : Nat} {ok : Nat → Prop} {v : Value} {l : List S64} (h : Kd.R k64 64 w base ok v l) : ∀ k, v.ownBlock = some k → base ≤ k ∧ k < w.heap.size := (own_of_R h).lt
/-- a row stays where nothing below the world's size is written -/
theorem R_below {w w' : World} {base : Nat} {ok : Nat → Prop} {v : Value} {l : List S64} (h : Kd.R k64 64 w base ok v l) (hb : Below w.heap.size w w') : Kd.R k64 64 w' base ok v l :=
  R_same h fun k hk => hb.block k (R_lt h k hk).2
theorem fold_length (l : List S64) : (Cls.fold l).length ≤ l.length + 52 := by
  have h := cls_length (Cls.toFold l)
  have h2 := toFold_length l
  unfold Cls.toFold at h h2
  unfold Cls.fold
  omega
end Go.Proofs.Ytamhkdlcoghdbaa.PCls
