/- Trees of nodes in memory: a node's cells, where its ranges and its kids lie; what stays where blocks stay. -/
import Derived.Test.YtamhkdlcoghdbaaTTree
import Derived.Test.YtamhkdlcoghdbaaZGOne
namespace Go.Proofs.Ytamhkdlcoghdbaa.PCls
open Go.RowKit Go.Proofs.YtamhkdlcoghdbaaW.PrintWords Go.Proofs.YtamhkdlcoghdbaaW.PrintLast Go.Proofs.YtamhkdlcoghdbaaW.PrintMore
set_option linter.unusedVariables false
set_option linter.unusedSimpArgs false

/-- a tree lies in memory: its node's six cells; what is behind them lies in blocks of P -/
inductive NIn (w : World) (P : Nat → Prop) : NT → List Value → Prop
  | mk (k m lo hi : Int) (r : List S64) (kids : List NT) (ar ak : Option Addr) (cr ck : Nat) (cs : Nat → List Value)
    (hr : Kd.C k64 w ar r.length r) (hrb : ∀ ad, ar = some ad → r ≠ [] → P ad.block) (hcr : r.length ≤ cr) (hrl : r.length < 2097152) (hin : inR r = true)
    (hck : kids.length ≤ ck) (hkl : kids.length < 1099511627776)
    (hk : ∀ j t, kids[j]? = some t → NIn w P t (cs j))
    (ha : ∀ j, j < kids.length → ∃ ad, ak = some ad ∧ P ad.block ∧ ∀ i u, (cs j)[i]? = some u → w.cell? (ad.add (j * 6 + i)) = some u) :
    NIn w P (.mk k m lo hi r kids) [.int .i64 k, .int .i64 m, .int .i64 lo, .int .i64 hi, .slice ar r.length cr, .slice ak kids.length ck]

theorem add_block (ad : Addr) (i : Nat) : (ad.add i).block = ad.block := by unfold Addr.add; split <;> rfl
theorem add_at (ad : Addr) (n i : Nat) (h : 0 < i) : ad.add (n + i) = ⟨(ad.add n).block, (ad.add n).off + i, none⟩ := by
  unfold Addr.add
  rw [if_neg (by omega)]
  by_cases h0 : n = 0
  · subst h0; simp
  · rw [if_neg h0]; simp [Nat.add_assoc]
/-- a struct's cells, as a load asks for them -/
theorem cell_at {w : World} {ad : Addr} {n : Nat} {cs : List Value} (h : ∀ i u, cs[i]? = some u → w.cell? (ad.add (n + i)) = some u) (i : Nat) (hi : 0 < i) {u : Value} (hu : cs[i]? = some u) : w.cell? ⟨(ad.add n).block, (ad.add n).off + i, none⟩ = some u := by
  rw [← add_at ad n i hi]; exact h i u hu
theorem C_move {w w' : World} {P : Nat → Prop} {a : Option Addr} {l : List S64} (h : Kd.C k64 w a l.length l) (hb : ∀ ad, a = some ad → l ≠ [] → P ad.block) (hm : ∀ b, P b → w'.heap[b]? = w.heap[b]?) : Kd.C k64 w' a l.length l := by
  refine ⟨h.1, h.2.1, fun hp => ?_⟩
  obtain ⟨ad, e, hc⟩ := h.2.2 hp
  have hne : l ≠ [] := by intro e; subst e; simp at hp
  have hP := hm _ (hb ad e hne)
  refine ⟨ad, e, fun j p hj => ?_⟩
  obtain ⟨cs, h1, h2, h3⟩ := hc j p hj
  exact ⟨cs, h1, h2, fun i u hu => by rw [World.cell?_of_block (w := w) (a := ad.add (j * k64.sz + i)) (by rw [add_block]; exact hP)]; exact h3 i u hu⟩
theorem NIn.move {w w' : World} {P : Nat → Prop} {t : NT} {cs : List Value} (h : NIn w P t cs) (hm : ∀ b, P b → w'.heap[b]? = w.heap[b]?) : NIn w' P t cs := by
  induction h with
  | mk k m lo hi r kids ar ak cr ck cs hr hrb hcr hrl hin hck hkl hk ha ih =>
    refine .mk k m lo hi r kids ar ak cr ck cs (C_move hr hrb hm) hrb hcr hrl hin hck hkl ih fun j hj => ?_
    obtain ⟨ad, e, hP, hc⟩ := ha j hj
    exact ⟨ad, e, hP, fun i u hu => by rw [World.cell?_of_block (w := w) (a := ad.add (j * 6 + i)) (by rw [add_block]; exact hm _ hP)]; exact hc i u hu⟩
theorem NIn.mono {w : World} {P P' : Nat → Prop} {t : NT} {cs : List Value} (h : NIn w P t cs) (hp : ∀ b, P b → P' b) : NIn w P' t cs := by
  induction h with
  | mk k m lo hi r kids ar ak cr ck cs hr hrb hcr hrl hin hck hkl hk ha ih =>
    refine .mk k m lo hi r kids ar ak cr ck cs hr (fun ad e hn => hp _ (hrb ad e hn)) hcr hrl hin hck hkl ih fun j hj => ?_
    obtain ⟨ad, e, hP, hc⟩ := ha j hj
    exact ⟨ad, e, hp _ hP, hc⟩
theorem NIn.keep {w w' : World} {n : Nat} {t : NT} {cs : List Value} (h : NIn w (· < n) t cs) (hb : Below n w w') : NIn w' (· < n) t cs := h.move fun b hp => hb.block b hp
theorem NIn.len {w : World} {P : Nat → Prop} {t : NT} {cs : List Value} (h : NIn w P t cs) : cs.length = 6 := by cases h; rfl
/-- the cells of a kid -/
theorem NIn.kid {w : World} {P : Nat → Prop} {k m lo hi : Int} {r : List S64} {kids : List NT} {ak : Option Addr} {ck : Nat} {v0 v1 v2 v3 v4 : Value}
    (h : NIn w P (.mk k m lo hi r kids) [v0, v1, v2, v3, v4, .slice ak kids.length ck]) {j : Nat} {t : NT} (hj : kids[j]? = some t) :
    ∃ ad cs, ak = some ad ∧ P ad.block ∧ NIn w P t cs ∧ ∀ i u, cs[i]? = some u → w.cell? (ad.add (j * 6 + i)) = some u := by
  cases h with
  | mk _ _ _ _ _ _ ar ak cr ck cs hr hrb hcr hrl hin hck hkl hk ha =>
    obtain ⟨ad, e, hP, hc⟩ := ha j (List.getElem?_eq_some_iff.1 hj).1
    exact ⟨ad, cs j, e, hP, hk j t hj, hc⟩
/-- a node as a value, a node on a walk as a value -/
def stepV (cs : List Value) (s : Step) : Value := .agg (cs ++ ([.int .i64 s.deep, .int .i64 s.around, .bool s.first, .bool s.last, .bool s.branch] : List Value)).toArray
end Go.Proofs.Ytamhkdlcoghdbaa.PCls
