/- Out of TKid (wip/tools/prune2.py): the declarations alone that the texts of the trees name. -/
import Derived.Test.YtamhkdlcoghdbaaKTEx
namespace Go.Proofs.Ytamhkdlcoghdbaa.PCls
open Go.RowKit Go.Shelf Go.Proofs.YtamhkdlcoghdbaaW.PrintWords Go.Proofs.YtamhkdlcoghdbaaW.PrintLast Go.Proofs.YtamhkdlcoghdbaaW.PrintMore
/-- node, mode boxed: what both laws here hold on to -/
structure KidSt (w wr : World) (cs : Array Value) (chars fold : Bool) : Prop where
 bel : Below w.heap.size w wr
 node : wr.heap[w.heap.size]? = some (.cells cs 44 (0, 0))
 mode : wr.heap[w.heap.size + 1]? = some (.cells #[.bool chars, .bool fold] 46 (0, 0))
 sz : w.heap.size + 2 ≤ wr.heap.size
theorem KidSt.start (w : World) (cs : Array Value) (chars fold : Bool) : KidSt w ((w.alloc (.cells cs 44)).alloc (.cells #[.bool chars, .bool fold] 46)) cs chars fold := by
 refine ⟨((Below.refl _ w).alloc (Nat.le_refl _) _).alloc (by simp) _, (Below.heap_alloc _ _ _ (by simp)).trans (World.alloc_heap_new w _), ?_, by simp⟩
 have := World.alloc_heap_new (w.alloc (.cells cs 44)) (.cells #[.bool chars, .bool fold] 46)
 rw [World.size_alloc] at this
 exact this
theorem KidSt.below {w A B : World} {cs : Array Value} {chars fold : Bool} (h : KidSt w A cs chars fold) (hb : Below A.heap.size A B) : KidSt w B cs chars fold :=
 ⟨h.bel.trans (hb.mono h.bel.size), (hb.block _ (by have := h.sz; omega)).trans h.node, (hb.block _ (by have := h.sz; omega)).trans h.mode, Nat.le_trans h.sz hb.size⟩
end Go.Proofs.Ytamhkdlcoghdbaa.PCls
