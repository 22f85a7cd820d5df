/- Out of Qt (wip/tools/prune2.py): the declarations alone that the texts of the trees name. -/
import Derived.Test.YtamhkdlcoghdbaaGreatDoorVMQZPClsx0
namespace Go.Proofs.YtamhkdlcoghdbaaGreatDoor.PCls
open Go.RowKit Go.Proofs.YtamhkdlcoghdbaaGreatDoorW.PrintWords Go.Proofs.YtamhkdlcoghdbaaGreatDoorW.PrintLast Go.Proofs.YtamhkdlcoghdbaaGreatDoorW.PrintMore
set_option linter.unusedVariables false
/-- a plan; two: both come up -/
inductive Pln where
 | nil | t (i : Nat) (r : Pln) | p (i : Nat) (r : Pln) | o (i : Nat) (r : Pln) | two (i j : Nat) (r q : Pln)
namespace Pln
def len : Pln → Nat
 | nil => 0
 | t _ r => r.len + 1
 | p _ r => r.len + 1
 | o _ r => r.len + 1
 | two _ _ r _ => r.len + 1
def ok (T : Bool × List (List Nat × List Nat)) : Pln → List Bool → Bool
 | nil, l => readyT T.2 l == []
 | t i r, l => (T.1 && freeT T.2 l i && readyAt T.2 l i && closedT T.2 l && lastT T.2 l [] i) && r.ok T (l.set i true)
 | p i r, l => (T.1 && freeT T.2 l i && readyAt T.2 l i) && r.ok T (l.set i true)
 | o i r, l => (readyT T.2 l == [i]) && r.ok T (l.set i true)
 | two i j r q, l => (readyT T.2 l == [i, j]) && (r.len == q.len) && r.ok T (l.set i true) && q.ok T (l.set j true)
end Pln
section
variable {P : Program} {md : Region.Mode} {ops : Array Oper} {Q : Exit → Act → World → Prop} {S : World → Prop}
/-- an operation that comes up; k: what is shown behind it -/
def Up (P : Program) (ops : Array Oper) (Q : Exit → Act → World → Prop) (S : World → Prop) (i : Nat) (k : Act → World → Prop) (a : Act) (w : World) : Prop :=
 ∃ oi, ops[i]? = some oi ∧ ∀ K : Act → World → Prop, Shut (∀ a' w', S w' → (S w' → k a' w') → K a' w') → if Region.wanted oi (yielded ops a.tmps) = true then Oper.wp P oi a w K Q else K (a.put oi.dst undef) w
def GoT (P : Program) (ops : Array Oper) (Q : Exit → Act → World → Prop) (S : World → Prop) : Pln → Act → World → Prop
 | .nil, a, w => Q .normal a w
 | .t i r, a, w => ∃ oi v b, ops[i]? = some oi ∧ YieldsIf P ops S oi v a ∧ a.put oi.dst v = b ∧ GoT P ops Q S r b w
 | .p i r, a, w => ∃ oi v b, ops[i]? = some oi ∧ Yields P ops oi v a ∧ a.put oi.dst v = b ∧ GoT P ops Q S r b w
 | .o i r, a, w => Up P ops Q S i (GoT P ops Q S r) a w
 | .two i j r q, a, w => Up P ops Q S i (GoT P ops Q S r) a w ∧ Up P ops Q S j (GoT P ops Q S q) a w
theorem goT_sound {T : Bool × List (List Nat × List Nat)} (HT : rtab md ops = T) (hQ : ∀ c d v a w, Q (.panic c) (a.put d v) w → Q (.panic c) a w) :
  ∀ (plan : Pln) (l : Array Bool) (a : Act) (w : World), plan.ok T l.toList = true → S w → GoT P ops Q S plan a w → wpAnyLast P md ops Q S [] plan.len l a w
 | .nil, l, a, w, hc, hs, h => done_ (done_of HT hc) h
 | .t i r, l, a, w, hc, hs, h => by
  simp only [Pln.ok, Bool.and_eq_true] at hc
  obtain ⟨⟨⟨⟨⟨h2, h3⟩, h4⟩, h5⟩, h6⟩, h7⟩ := hc
  obtain ⟨oi, v, b, hi, hy, rfl, hk⟩ := h
  refine take_ (l.setIfInBounds i true) hi rfl (take_of HT ?_) (fun c a w => hQ c _ v a w) hy hs rfl (goT_sound HT hQ r _ _ _ (by rw [set_toList]; exact h7) hs hk)
  simp only [takeT, Bool.and_eq_true]
  exact ⟨⟨⟨⟨⟨h2, h3⟩, h4⟩, h5⟩, h6⟩, set_self l i⟩
 | .p i r, l, a, w, hc, hs, h => by
  simp only [Pln.ok, Bool.and_eq_true] at hc
  obtain ⟨⟨⟨h2, h3⟩, h4⟩, h7⟩ := hc
  obtain ⟨oi, v, b, hi, hy, rfl, hk⟩ := h
  refine pure_ (l.setIfInBounds i true) hi rfl (any_of HT ?_) (fun c a w => hQ c _ v a w) hy rfl (goT_sound HT hQ r _ _ _ (by rw [set_toList]; exact h7) hs hk)
  simp only [anyT, Bool.and_eq_true]
  exact ⟨⟨⟨h2, h3⟩, h4⟩, set_self l i⟩
 | .o i r, l, a, w, hc, hs, h => by
  simp only [Pln.ok, Bool.and_eq_true] at hc
  obtain ⟨h1, h7⟩ := hc
  obtain ⟨oi, hi, hk⟩ := h
  refine one_ (l.setIfInBounds i true) hi rfl (one_of HT ?_) (by simp) (fun K hK => hk K (show Shut _ from fun a' w' hS hw => hK.out a' w' hS fun hS' => goT_sound HT hQ r _ _ _ (by rw [set_toList]; exact h7) hS' (hw hS')))
  rw [h1, set_self]; rfl
 | .two i j r q, l, a, w, hc, hs, h => by
  simp only [Pln.ok, Bool.and_eq_true, beq_iff_eq] at hc
  obtain ⟨⟨⟨h1, h2⟩, h3⟩, h4⟩ := hc
  obtain ⟨⟨oi, hi, hk⟩, oj, hj, hl⟩ := h
  have hr : Region.ready md ops l = [i, j] := by rw [ready_eq, HT]; exact h1
  refine wpAnyLast_ready (rs := [i, j]) hr (by simp) (AllReadyL.cons hi (by simp) (fun K hK => ?_) (AllReadyL.cons hj (by simp) (fun K hK => ?_) AllReadyL.nil))
  ·exact hk K (show Shut _ from fun a' w' hS hw => hK.out a' w' hS fun hS' => goT_sound HT hQ r _ _ _ (by rw [set_toList]; exact h3) hS' (hw hS'))
  ·refine hl K (show Shut _ from fun a' w' hS hw => hK.out a' w' hS fun hS' => ?_)
   have := goT_sound HT hQ q _ _ _ (by rw [set_toList]; exact h4) hS' (hw hS')
   rw [h2]
   exact this
theorem goT_start {id : Nat} {a : Act} {w : World} (S : World → Prop) (plan : Pln) (hm : P.follows .mixedOrders = true)
  (hc : (plan.len == ops.size && plan.ok (rtab .any ops) (List.replicate ops.size false)) = true) (hQ : ∀ c d v a w, Q (.panic c) (a.put d v) w → Q (.panic c) a w)
  (hS : S w.drew) (h : ∀ w1, S w1 → GoT P ops Q S plan a w1) : (Code.region id ops true).wp P Q a w := by
 rw [Bool.and_eq_true, beq_iff_eq] at hc
 refine start_ (S := S) (ds := []) (n := plan.len) (Array.replicate plan.len false) hm hc.1.symm rfl hS fun hS' => ?_
 exact goT_sound rfl hQ plan _ _ _ (by rw [Array.toList_replicate, hc.1]; exact hc.2) hS' (h _ hS')
variable {r : Pln} {k : Act → World → Prop} {i : Nat} {a : Act} {w : World} {N : Option Tmp} {op : Op} {ty : TypeId} {ps : String} {af : Array Edge} {gd : Option (Nat × Bool)}
theorem goT_t {v : Value} {b : Act} (hi : ops[i]? = some ⟨N, op, ty, ps, af, gd⟩) (hy : YieldsIf P ops S ⟨N, op, ty, ps, af, gd⟩ v a) (ha : a.put N v = b) (h : GoT P ops Q S r b w) : GoT P ops Q S (.t i r) a w := ⟨_, v, b, hi, hy, ha, h⟩
theorem goT_p {v : Value} {b : Act} (hi : ops[i]? = some ⟨N, op, ty, ps, af, gd⟩) (hy : Yields P ops ⟨N, op, ty, ps, af, gd⟩ v a) (ha : a.put N v = b) (h : GoT P ops Q S r b w) : GoT P ops Q S (.p i r) a w := ⟨_, v, b, hi, hy, ha, h⟩
theorem goT_o (h : Up P ops Q S i (GoT P ops Q S r) a w) : GoT P ops Q S (.o i r) a w := h
theorem goT_two {j : Nat} {q : Pln} (h : Up P ops Q S i (GoT P ops Q S r) a w) (g : Up P ops Q S j (GoT P ops Q S q) a w) : GoT P ops Q S (.two i j r q) a w := ⟨h, g⟩
theorem goT_done (h : Q .normal a w) : GoT P ops Q S .nil a w := h
theorem up_call {f : FuncId} {fn : Func} {ags : Array Operand} {ts : Array TypeId} {args : Array Value} {R : Ending → World → Prop} (hi : ops[i]? = some ⟨N, .call { callee := .value (.func f), args := ags, argTypes := ts }, ty, ps, af, gd⟩)
  (hw : Region.wanted ⟨N, .call { callee := .value (.func f), args := ags, argTypes := ts }, ty, ps, af, gd⟩ (yielded ops a.tmps) = true) (hf : P.funcs[f]? = some fn) (hname : (fn.name == "runtime.NumGoroutine") = false) (hb : fn.body.isSome = true) (hargs : ags.map a.eval = args) (hcall : Calls P f args w R)
  (h : ∀ e w', R e w' → ∃ v b, e = .returned v ∧ S w' ∧ a.put N v = b ∧ k b w') : Up P ops Q S i k a w := by
 refine ⟨_, hi, fun K hK => ?_⟩
 refine goes_ hf hname hb args hw rfl rfl hargs (hcall.mono fun e w' hR => ?_)
 obtain ⟨v, b, he, hS, hp, hk⟩ := h e w' hR
 subst hp
 exact ⟨v, he, hK.out _ _ hS fun _ => hk⟩
theorem up_val {v : Value} {w1 : World} {b : Act} (hi : ops[i]? = some ⟨N, op, ty, ps, af, gd⟩) (hw : Region.wanted ⟨N, op, ty, ps, af, gd⟩ (yielded ops a.tmps) = true) (hrun : (execOp a.eval ⟨N, op, ty, ps, af, gd⟩).run P w = .ok (.value v) w1) (ha : a.put N v = b) (hS : S w1)
  (h : k b w1) : Up P ops Q S i k a w := by
 subst ha
 exact ⟨_, hi, fun K hK => value_ hw rfl hrun (hK.out _ _ hS fun _ => h)⟩
theorem up_skip {w1 : World} (hi : ops[i]? = some ⟨none, op, ty, ps, af, gd⟩) (hw : Region.wanted ⟨none, op, ty, ps, af, gd⟩ (yielded ops a.tmps) = true) (hrun : (execOp a.eval ⟨none, op, ty, ps, af, gd⟩).run P w = .ok .skip w1) (hS : S w1)
  (h : k a w1) : Up P ops Q S i k a w :=
 ⟨_, hi, fun K hK => skip_ hw rfl hrun (hK.out _ _ hS fun _ => h)⟩
end
end Go.Proofs.YtamhkdlcoghdbaaGreatDoor.PCls
