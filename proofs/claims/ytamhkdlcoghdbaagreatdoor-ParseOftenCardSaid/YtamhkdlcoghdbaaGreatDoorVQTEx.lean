/- Out of TEx (wip/tools/prune2.py): the declarations alone that the texts of the trees name. -/
import Derived.Test.YtamhkdlcoghdbaaGreatDoorVMQTOut
namespace Go.Proofs.YtamhkdlcoghdbaaGreatDoor.PCls
open Go.RowKit Go.Proofs.YtamhkdlcoghdbaaGreatDoorW.PrintWords Go.Proofs.YtamhkdlcoghdbaaGreatDoorW.PrintLast Go.Proofs.YtamhkdlcoghdbaaGreatDoorW.PrintMore
set_option linter.unusedVariables false
set_option linter.unusedSimpArgs false
theorem NIn.leaf (w : World) (P : Nat → Prop) (k m lo hi : Int) : NIn w P (.mk k m lo hi [] []) [.int .i64 k, .int .i64 m, .int .i64 lo, .int .i64 hi, .slice none 0 0, .slice none 0 0] :=
 NIn.mk k m lo hi [] [] none none 0 0 (fun _ => []) ⟨rfl, by simp, fun h => by simp at h⟩ (fun ad e => by cases e) (by simp) (by simp) rfl (by simp) (by simp) (fun j t h => by simp at h) (fun j h => by simp at h)
theorem nodes_at : ∀ (css : List (List Value)) (j : Nat) (cs : List Value) (i : Nat) (u : Value), (∀ c, c ∈ css → c.length = 6) → css[j]? = some cs → cs[i]? = some u → css.flatten[j * 6 + i]? = some u
 | [], j, cs, i, u, _, h, _ => by simp at h
 | c :: css, 0, cs, i, u, h6, h, hu => by
  simp only [List.getElem?_cons_zero, Option.some.injEq] at h
  subst h
  simp only [List.flatten_cons, Nat.zero_mul, Nat.zero_add]
  rw [List.getElem?_append_left (List.getElem?_eq_some_iff.1 hu).1]; exact hu
 | c :: css, j + 1, cs, i, u, h6, h, hu => by
  have hc := h6 c List.mem_cons_self
  simp only [List.getElem?_cons_succ] at h
  simp only [List.flatten_cons]
  rw [List.getElem?_append_right (by omega), hc, show (j + 1) * 6 + i - 6 = j * 6 + i by omega]
  exact nodes_at css j cs i u (fun c hc => h6 c (List.mem_cons_of_mem _ hc)) h hu
/-- some trees, one behind the other in a block -/
theorem args_at {w : World} {P : Nat → Prop} {b : Nat} {l : List NT} {css : List (List Value)} {ty : Nat} (hb : w.heap[b]? = some (.cells css.flatten.toArray ty)) (hl : l.length = css.length)
  (hN : ∀ (j : Nat) t cs, l[j]? = some t → css[j]? = some cs → NIn w P t cs) (h6 : ∀ c, c ∈ css → c.length = 6) :
  ∀ (j : Nat) t, l[j]? = some t → ∃ cs, NIn w P t cs ∧ ∀ i u, cs[i]? = some u → w.cell? ((⟨b, 0, none⟩ : Addr).add (j * 6 + i)) = some u := by
 intro j t ht
 have hj : j < css.length := by rw [← hl]; exact (List.getElem?_eq_some_iff.1 ht).1
 obtain ⟨cs, hcs⟩ : ∃ cs, css[j]? = some cs := ⟨css[j], List.getElem?_eq_getElem hj⟩
 refine ⟨cs, hN j t cs ht hcs, fun i u hu => ?_⟩
 rw [add_plain]
 have := nodes_at css j cs i u h6 hcs hu
 exact cell_heap hb (by simpa using this)
theorem NIn.shape {w : World} {P : Nat → Prop} {k m lo hi : Int} {r : List S64} {kids : List NT} {cs : List Value} (h : NIn w P (.mk k m lo hi r kids) cs) :
  ∃ ar ak cr ck, cs = [.int .i64 k, .int .i64 m, .int .i64 lo, .int .i64 hi, .slice ar r.length cr, .slice ak kids.length ck] := by
 cases h; exact ⟨_, _, _, _, rfl⟩
end Go.Proofs.YtamhkdlcoghdbaaGreatDoor.PCls
