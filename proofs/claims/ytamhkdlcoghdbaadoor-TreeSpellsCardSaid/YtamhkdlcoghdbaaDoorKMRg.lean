/- Put together (wip/tools/pack.py): Rg, Spl. -/
import Derived.Test.YtamhkdlcoghdbaaDoorKSpell3
import Derived.Test.YtamhkdlcoghdbaaDoorKLiteral
import Derived.WalkLawsBesides
/- A region that draws its order, walked by a plan: the plan is checked once, what yields is run in one go. -/
namespace Go.Proofs.YtamhkdlcoghdbaaDoor.PCls
open Go.RowKit Go.Proofs.YtamhkdlcoghdbaaDoorW.PrintWords Go.Proofs.YtamhkdlcoghdbaaDoorW.PrintLast Go.Proofs.YtamhkdlcoghdbaaDoorW.PrintMore
set_option linter.unusedVariables false

/-- t: it yields in every world of S; p: in every world; o: it comes up alone, S is shown behind it; z: it comes up alone, nothing is shown. -/
inductive Stg where
 | t (i : Nat) | p (i : Nat) | o (i : Nat) | z (i : Nat)
def planOk (T : Bool × List (List Nat × List Nat)) (ds : List Nat) : List Stg → Bool → List Bool → Bool
 | [], _, l => readyT T.2 l == []
 | .t i :: r, s, l => s && (T.1 && freeT T.2 l i && readyAt T.2 l i && closedT T.2 l && lastT T.2 l ds i) && planOk T ds r s (l.set i true)
 | .p i :: r, s, l => (T.1 && freeT T.2 l i && readyAt T.2 l i) && planOk T ds r s (l.set i true)
 | .o i :: r, s, l => (readyT T.2 l == [i]) && !ds.contains i && planOk T ds r true (l.set i true)
 | .z i :: r, s, l => (readyT T.2 l == [i]) && ds.contains i && planOk T ds r false (l.set i true)
section
variable {P : Program} {md : Region.Mode} {ops : Array Oper} {Q : Exit → Act → World → Prop} {S : World → Prop} {ds : List Nat}
def Go (P : Program) (ops : Array Oper) (Q : Exit → Act → World → Prop) (S : World → Prop) : List Stg → Act → World → Prop
 | [], a, w => Q .normal a w
 | .t i :: r, a, w => ∃ oi v b, ops[i]? = some oi ∧ YieldsIf P ops S oi v a ∧ a.put oi.dst v = b ∧ Go P ops Q S r b w
 | .p i :: r, a, w => ∃ oi v b, ops[i]? = some oi ∧ Yields P ops oi v a ∧ a.put oi.dst v = b ∧ Go P ops Q S r b w
 | .o i :: r, a, w => ∃ oi, ops[i]? = some oi ∧ ∀ K : Act → World → Prop, Shut (∀ a' w', S w' → (S w' → Go P ops Q S r a' w') → K a' w') → if Region.wanted oi (yielded ops a.tmps) = true then Oper.wp P oi a w K Q else K (a.put oi.dst undef) w
 | .z i :: r, a, w => ∃ oi, ops[i]? = some oi ∧ ∀ K : Act → World → Prop, Shut (∀ a' w', Go P ops Q S r a' w' → K a' w') → if Region.wanted oi (yielded ops a.tmps) = true then Oper.wp P oi a w K Q else K (a.put oi.dst undef) w
theorem set_toList (l : Array Bool) (i : Nat) : (l.setIfInBounds i true).toList = l.toList.set i true := Array.toList_setIfInBounds
theorem set_self (l : Array Bool) (i : Nat) : (l.toList.set i true == (l.setIfInBounds i true).toList) = true := by rw [set_toList]; exact beq_self_eq_true _
theorem go_sound {T : Bool × List (List Nat × List Nat)} (HT : rtab md ops = T) (hQ : ∀ c d v a w, Q (.panic c) (a.put d v) w → Q (.panic c) a w) :
  ∀ (plan : List Stg) (s : Bool) (l : Array Bool) (a : Act) (w : World), planOk T ds plan s l.toList = true → (s = true → S w) → Go P ops Q S plan a w → wpAnyLast P md ops Q S ds plan.length l a w
 | [], s, l, a, w, hc, hs, h => done_ (done_of HT hc) h
 | .t i :: r, s, l, a, w, hc, hs, h => by
  simp only [planOk, Bool.and_eq_true] at hc
  obtain ⟨⟨h1, ⟨⟨⟨h2, h3⟩, h4⟩, h5⟩, h6⟩, h7⟩ := hc
  obtain ⟨oi, v, b, hi, hy, rfl, hk⟩ := h
  refine take_ (l.setIfInBounds i true) hi rfl (take_of HT ?_) (fun c a w => hQ c _ v a w) hy (hs h1) rfl (go_sound HT hQ r s _ _ _ (by rw [set_toList]; exact h7) hs hk)
  simp only [takeT, Bool.and_eq_true]
  exact ⟨⟨⟨⟨⟨h2, h3⟩, h4⟩, h5⟩, h6⟩, set_self l i⟩
 | .p i :: r, s, l, a, w, hc, hs, h => by
  simp only [planOk, Bool.and_eq_true] at hc
  obtain ⟨⟨⟨h2, h3⟩, h4⟩, h7⟩ := hc
  obtain ⟨oi, v, b, hi, hy, rfl, hk⟩ := h
  refine pure_ (l.setIfInBounds i true) hi rfl (any_of HT ?_) (fun c a w => hQ c _ v a w) hy rfl (go_sound HT hQ r s _ _ _ (by rw [set_toList]; exact h7) hs hk)
  simp only [anyT, Bool.and_eq_true]
  exact ⟨⟨⟨h2, h3⟩, h4⟩, set_self l i⟩
 | .o i :: r, s, l, a, w, hc, hs, h => by
  simp only [planOk, Bool.and_eq_true] at hc
  obtain ⟨⟨h1, h2⟩, h7⟩ := hc
  obtain ⟨oi, hi, hk⟩ := h
  refine one_ (l.setIfInBounds i true) hi rfl (one_of HT ?_) (by simpa using h2) (fun K hK => hk K (show Shut _ from fun a' w' hS hw => hK.out a' w' hS fun hS' => go_sound HT hQ r true _ _ _ (by rw [set_toList]; exact h7) (fun _ => hS') (hw hS')))
  rw [h1, set_self]; rfl
 | .z i :: r, s, l, a, w, hc, hs, h => by
  simp only [planOk, Bool.and_eq_true] at hc
  obtain ⟨⟨h1, h2⟩, h7⟩ := hc
  obtain ⟨oi, hi, hk⟩ := h
  refine last_ (l.setIfInBounds i true) hi rfl (one_of HT ?_) (by simpa using h2) (fun K hK => hk K (show Shut _ from fun a' w' hw => hK.out a' w' (go_sound HT hQ r false _ _ _ (by rw [set_toList]; exact h7) (fun e => by cases e) hw)))
  rw [h1, set_self]; rfl
theorem go_start {id : Nat} {a : Act} {w : World} (S : World → Prop) (ds : List Nat) (plan : List Stg) (hm : P.follows .mixedOrders = true)
  (hc : (plan.length == ops.size && planOk (rtab .any ops) ds plan true (List.replicate ops.size false)) = true) (hQ : ∀ c d v a w, Q (.panic c) (a.put d v) w → Q (.panic c) a w)
  (hS : S w.drew) (h : ∀ w1, S w1 → Go P ops Q S plan a w1) : (Code.region id ops true).wp P Q a w := by
 rw [Bool.and_eq_true, beq_iff_eq] at hc
 refine start_ (S := S) (ds := ds) (n := plan.length) (Array.replicate plan.length false) hm hc.1.symm rfl hS fun hS' => ?_
 exact go_sound rfl hQ plan true _ _ _ (by rw [Array.toList_replicate, hc.1]; exact hc.2) (fun _ => hS') (h _ hS')
variable {r : List Stg} {i : Nat} {a : Act} {w : World} {N : Option Tmp} {op : Op} {ty : TypeId} {ps : String} {af : Array Edge} {gd : Option (Nat × Bool)}
theorem go_t {v : Value} {b : Act} (hi : ops[i]? = some ⟨N, op, ty, ps, af, gd⟩) (hy : YieldsIf P ops S ⟨N, op, ty, ps, af, gd⟩ v a) (ha : a.put N v = b) (h : Go P ops Q S r b w) : Go P ops Q S (.t i :: r) a w := ⟨_, v, b, hi, hy, ha, h⟩
theorem go_p {v : Value} {b : Act} (hi : ops[i]? = some ⟨N, op, ty, ps, af, gd⟩) (hy : Yields P ops ⟨N, op, ty, ps, af, gd⟩ v a) (ha : a.put N v = b) (h : Go P ops Q S r b w) : Go P ops Q S (.p i :: r) a w := ⟨_, v, b, hi, hy, ha, h⟩
/-- A call of a Go function, by its contract. -/
theorem go_call {f : FuncId} {fn : Func} {ags : Array Operand} {ts : Array TypeId} {args : Array Value} {R : Ending → World → Prop} (hi : ops[i]? = some ⟨N, .call { callee := .value (.func f), args := ags, argTypes := ts }, ty, ps, af, gd⟩)
  (hw : Region.wanted ⟨N, .call { callee := .value (.func f), args := ags, argTypes := ts }, ty, ps, af, gd⟩ (yielded ops a.tmps) = true) (hf : P.funcs[f]? = some fn) (hname : (fn.name == "runtime.NumGoroutine") = false) (hb : fn.body.isSome = true) (hargs : ags.map a.eval = args) (hcall : Calls P f args w R)
  (h : ∀ e w', R e w' → ∃ v b, e = .returned v ∧ S w' ∧ a.put N v = b ∧ Go P ops Q S r b w') : Go P ops Q S (.o i :: r) a w := by
 refine ⟨_, hi, fun K hK => ?_⟩
 refine goes_ hf hname hb args hw rfl rfl hargs (hcall.mono fun e w' hR => ?_)
 obtain ⟨v, b, he, hS, hp, hk⟩ := h e w' hR
 subst hp
 exact ⟨v, he, hK.out _ _ hS fun _ => hk⟩
/-- The same where it may panic. -/
theorem go_callP {f : FuncId} {fn : Func} {ags : Array Operand} {ts : Array TypeId} {args : Array Value} {R : Ending → World → Prop} (hi : ops[i]? = some ⟨N, .call { callee := .value (.func f), args := ags, argTypes := ts }, ty, ps, af, gd⟩)
  (hw : Region.wanted ⟨N, .call { callee := .value (.func f), args := ags, argTypes := ts }, ty, ps, af, gd⟩ (yielded ops a.tmps) = true) (hf : P.funcs[f]? = some fn) (hname : (fn.name == "runtime.NumGoroutine") = false) (hb : fn.body.isSome = true) (hargs : ags.map a.eval = args) (hcall : Calls P f args w R)
  (h : ∀ e w', R e w' → (∃ v b, e = .returned v ∧ S w' ∧ a.put N v = b ∧ Go P ops Q S r b w') ∨ ∃ c, e = .panicked c ∧ Q (.panic c) a w') : Go P ops Q S (.o i :: r) a w := by
 refine ⟨_, hi, fun K hK => ?_⟩
 rw [if_pos hw]
 have he := enters_ hf hname hb args w
 have hrun : (execOp a.eval ⟨N, .call { callee := .value (.func f), args := ags, argTypes := ts }, ty, ps, af, gd⟩).run P w = .ok (.enter f args) w := by
  unfold execOp
  simp [resolve, Deferred.ofValue, invoke, Act.eval, hargs, he]
 unfold Oper.wp
 rw [hrun, Oper.upon_enter]
 refine hcall.mono fun e w' hR => ?_
 rcases h e w' hR with ⟨v, b, rfl, hS, hp, hk⟩ | ⟨c, rfl, hq⟩
 ·subst hp
  exact hK.out _ _ hS fun _ => hk
 ·exact hq
/-- An operation that yields a value and may make memory. -/
theorem go_val {v : Value} {w1 : World} {b : Act} (hi : ops[i]? = some ⟨N, op, ty, ps, af, gd⟩) (hw : Region.wanted ⟨N, op, ty, ps, af, gd⟩ (yielded ops a.tmps) = true) (hrun : (execOp a.eval ⟨N, op, ty, ps, af, gd⟩).run P w = .ok (.value v) w1) (ha : a.put N v = b) (hS : S w1)
  (h : Go P ops Q S r b w1) : Go P ops Q S (.o i :: r) a w := by
 subst ha
 exact ⟨_, hi, fun K hK => value_ hw rfl hrun (hK.out _ _ hS fun _ => h)⟩
theorem go_valz {v : Value} {w1 : World} {b : Act} (hi : ops[i]? = some ⟨N, op, ty, ps, af, gd⟩) (hw : Region.wanted ⟨N, op, ty, ps, af, gd⟩ (yielded ops a.tmps) = true) (hrun : (execOp a.eval ⟨N, op, ty, ps, af, gd⟩).run P w = .ok (.value v) w1) (ha : a.put N v = b)
  (h : Go P ops Q S r b w1) : Go P ops Q S (.z i :: r) a w := by
 subst ha
 exact ⟨_, hi, fun K hK => value_ hw rfl hrun (hK.out _ _ h)⟩
theorem append_run {a : Act} {w w1 : World} {s x : Operand} {t : TypeId} {v u v' : Value} (hs : a.eval s = v) (hx : a.eval x = u) (hr : (Builtin.append_ #[t, t] ty #[v, u]).run P w = .ok v' w1) :
  (execOp a.eval ⟨N, .call { callee := .builtin .append, args := #[s, x], argTypes := #[t, t] }, ty, ps, af, gd⟩).run P w = .ok (.value v') w1 := by
 unfold execOp
 simp only [resolve, invoke, builtin, Sem.run_bind, Sem.run_pure, Result.andThen_ok, List.map_toArray, List.map_cons, List.map_nil, hs, hx, hr]
/-- A store. -/
theorem go_skip {w1 : World} (hi : ops[i]? = some ⟨none, op, ty, ps, af, gd⟩) (hw : Region.wanted ⟨none, op, ty, ps, af, gd⟩ (yielded ops a.tmps) = true) (hrun : (execOp a.eval ⟨none, op, ty, ps, af, gd⟩).run P w = .ok .skip w1) (hS : S w1)
  (h : Go P ops Q S r a w1) : Go P ops Q S (.o i :: r) a w :=
 ⟨_, hi, fun K hK => skip_ hw rfl hrun (hK.out _ _ hS fun _ => h)⟩
theorem go_skipz {w1 : World} (hi : ops[i]? = some ⟨none, op, ty, ps, af, gd⟩) (hw : Region.wanted ⟨none, op, ty, ps, af, gd⟩ (yielded ops a.tmps) = true) (hrun : (execOp a.eval ⟨none, op, ty, ps, af, gd⟩).run P w = .ok .skip w1)
  (h : Go P ops Q S r a w1) : Go P ops Q S (.z i :: r) a w :=
 ⟨_, hi, fun K hK => skip_ hw rfl hrun (hK.out _ _ h)⟩
/-- An operation that is not wanted. -/
theorem go_not {b : Act} (hi : ops[i]? = some ⟨N, op, ty, ps, af, gd⟩) (hw : Region.wanted ⟨N, op, ty, ps, af, gd⟩ (yielded ops a.tmps) = false) (ha : a.put N undef = b) (hS : S w) (h : Go P ops Q S r b w) : Go P ops Q S (.o i :: r) a w := by
 subst ha
 exact ⟨_, hi, fun K hK => by rw [hw, if_neg (by simp)]; exact hK.out _ _ hS fun _ => h⟩
theorem go_notz {b : Act} (hi : ops[i]? = some ⟨N, op, ty, ps, af, gd⟩) (hw : Region.wanted ⟨N, op, ty, ps, af, gd⟩ (yielded ops a.tmps) = false) (ha : a.put N undef = b) (h : Go P ops Q S r b w) : Go P ops Q S (.z i :: r) a w := by
 subst ha
 exact ⟨_, hi, fun K hK => by rw [hw, if_neg (by simp)]; exact hK.out _ _ h⟩
theorem go_done (h : Q .normal a w) : Go P ops Q S [] a w := h
end
end Go.Proofs.YtamhkdlcoghdbaaDoor.PCls
/- TreeSpells: the law. -/
namespace Go.Proofs.YtamhkdlcoghdbaaDoor.PCls
open Go.RowKit Go.Shelf Go.Proofs.YtamhkdlcoghdbaaDoorW.PrintWords Go.Proofs.YtamhkdlcoghdbaaDoorW.PrintLast Go.Proofs.YtamhkdlcoghdbaaDoorW.PrintMore
set_option linter.unusedVariables false
set_option linter.unusedSimpArgs false

/-- is a text one? -/
def okB (chars : Bool) (s : ByteArray) : Bool := !chars || !decide (badFrom s (s.size + 1) 0 < s.size)
/-- the sets of its units -/
def unitsT (chars fold : Bool) (s : ByteArray) : List NT := if chars = true then (runesFrom s (s.size + 1) 0).map fun c : Nat => litNT fold (c : Int) else s.data.toList.map fun c => litNT fold (c.toNat : Int)
theorem literal_any (s : ByteArray) (chars fold : Bool) (w : World) (hs : s.size < 274877906) (hT : Lib.Utf8Tabs 0 1 w) :
  Calls Tryd.prog 10 #[.string s, .agg #[.bool chars, .bool fold]] w fun e w' => Below w.heap.size w w' ∧ if okB chars s = true then ∃ cs' : List Value, e = .returned (.tuple #[.agg cs'.toArray, .int .i64 0]) ∧ NIn w' (fun b => w.heap.size ≤ b ∧ b < w'.heap.size) (catT (unitsT chars fold s)) cs' else e = .returned (.tuple #[.agg #[.int .i64 0, .int .i64 0, .int .i64 0, .int .i64 0, .slice none 0 0, .slice none 0 0], .int .i64 20]) := by
 cases chars with
 | false => exact (literal_bytes s fold w hs).mono fun e w' ⟨cs, h1, h2, h3⟩ => ⟨h3, cs, h1, h2⟩
 | true =>
  refine (literal_chars s fold w hs hT).mono fun e w' ⟨h1, h2⟩ => ⟨h1, ?_⟩
  by_cases h : badFrom s (s.size + 1) 0 < s.size
  ·rw [if_pos h] at h2
   rw [if_neg (by simp [okB, h])]; exact h2
  ·rw [if_neg h] at h2
   rw [if_pos (by simp [okB, h])]
   exact h2
theorem units_leaf (chars fold : Bool) (s : ByteArray) : ∀ t, t ∈ unitsT chars fold s → Leaf chars fold t := by
 intro t ht
 unfold unitsT at ht
 split at ht
 ·next h =>
  subst h
  obtain ⟨c, hc, rfl⟩ := List.mem_map.1 ht
  exact leaf_lit _ _ _ (runes_char s _ _ c hc)
 ·next h =>
  obtain ⟨c, hc, rfl⟩ := List.mem_map.1 ht
  refine leaf_lit _ _ _ ?_
  rw [all_mem, if_neg h]
  have := c.toNat_lt
  omega
theorem units_len (chars fold : Bool) (s : ByteArray) : (unitsT chars fold s).length ≤ s.size := by
 unfold unitsT
 split
 ·rw [List.length_map]; have := runesFrom_length s (s.size + 1) 0; omega
 ·rw [List.length_map, Lib.size_eq]; exact Nat.le_refl _
theorem leaves_nodes {chars fold : Bool} : ∀ l : List NT, (∀ t, t ∈ l → Leaf chars fold t) → NT.nodesL l = l.length
 | [], _ => rfl
 | t :: l, h => by
  obtain ⟨r, rfl, _⟩ := h t List.mem_cons_self
  have := leaves_nodes l (fun x hx => h x (List.mem_cons_of_mem _ hx))
  simp only [NT.nodesL, NT.nodes, List.length_cons]
  omega
theorem leaves_plain {chars fold : Bool} {l : List NT} (h : ∀ t, t ∈ l → Leaf chars fold t) : ∀ t, t ∈ l → t.k ≠ 1 ∧ t.k ≠ 5 := fun t ht => by obtain ⟨r, rfl, _⟩ := h t ht; simp [NT.k]
theorem units_two (chars fold : Bool) (a b : ByteArray) (ha : okB chars a = true) (hb : okB chars b = true) : unitsT chars fold (a ++ b) = unitsT chars fold a ++ unitsT chars fold b ∧ okB chars (a ++ b) = true := by
 cases chars with
 | false => exact ⟨by simp [unitsT], rfl⟩
 | true =>
  have h := runes_two a b (by simpa [okB] using ha) (by simpa [okB] using hb)
  exact ⟨by simp only [unitsT, if_true]; rw [h.1, List.map_append], by simpa [okB] using h.2⟩
/-- a tree in a block of its own -/
def HeldT (W : World) (B : Nat) (t : NT) (v0 v1 v2 v3 v4 v5 : Value) : Prop := W.heap[B]? = some (.cells #[v0, v1, v2, v3, v4, v5] 28 (0, 0)) ∧ NIn W (· < W.heap.size) t [v0, v1, v2, v3, v4, v5]
theorem HeldT.below {A B : World} {b : Nat} {t : NT} {v0 v1 v2 v3 v4 v5 : Value} (h : HeldT A b t v0 v1 v2 v3 v4 v5) (hb : Below A.heap.size A B) : HeldT B b t v0 v1 v2 v3 v4 v5 :=
 ⟨(hb.block b (Array.getElem?_eq_some_iff.1 h.1).1).trans h.1, (h.2.keep hb).mono (fun b hb' => Nat.lt_of_lt_of_le hb' hb.size)⟩
theorem HeldT.lt {A : World} {b : Nat} {t : NT} {v0 v1 v2 v3 v4 v5 : Value} (h : HeldT A b t v0 v1 v2 v3 v4 v5) : b < A.heap.size := (Array.getElem?_eq_some_iff.1 h.1).1
theorem HeldT.new {W : World} {t : NT} {v0 v1 v2 v3 v4 v5 : Value} (h : NIn W (· < W.heap.size) t [v0, v1, v2, v3, v4, v5]) : HeldT (W.alloc (.cells #[v0, v1, v2, v3, v4, v5] 28)) W.heap.size t v0 v1 v2 v3 v4 v5 :=
 ⟨World.alloc_heap_new W _, (h.move (fun b hb => Below.heap_alloc _ _ _ hb)).mono (fun b hb => by simp; omega)⟩
theorem six {W : World} {P : Nat → Prop} {t : NT} {cs : List Value} (h : NIn W P t cs) : ∃ (k m lo hi : Int) (ar ak : Option Addr) (lr cr lk ck : Nat), cs = [.int .i64 k, .int .i64 m, .int .i64 lo, .int .i64 hi, .slice ar lr cr, .slice ak lk ck] := by
 cases h; exact ⟨_, _, _, _, _, _, _, _, _, _, rfl⟩
set_option maxHeartbeats 4000000 in
set_option maxRecDepth 100000 in
theorem spells_many (a b : ByteArray) (chars fold : Bool) (w : World) (ha : a.size ≤ 140737488351232) (hb : b.size ≤ 140737488351232) (hm : 1900 < a.size + b.size) :
  Calls Tryd.prog 3 #[.string a, .string b, .agg #[.bool chars, .bool fold]] w fun e w' => e = .returned (.bool true) ∧ Below w.heap.size w w' := by
 have e1 : IntKind.i64.wrap ((a.size : Int) + (b.size : Int)) = (a.size : Int) + (b.size : Int) := IntWalk.i64_in _ (by omega)
 have hm' : (1900 : Int) < (a.size : Int) + (b.size : Int) := by omega
 clear hm
 go_enter Tryd.func3, Tryd.ntmps3
 go_wp2_with fail
 refine (examples_calls _).mono ?_
 rintro e w4 ⟨rfl, hb4⟩
 have HB := Lib.hid (((Below.refl _ w).alloc (Nat.le_refl _) (.cells #[.bool chars, .bool fold] 23)).trans (hb4.mono (by simp)))
 clear hb4
 go_wp2_with fail
 go_ret
 exact ⟨rfl, HB.out⟩
theorem Below.cells' {n : Nat} {A W : World} (h : Below n A W) : ∀ b o, b < n → W.cell? ⟨b, o, none⟩ = A.cell? ⟨b, o, none⟩ := fun b o hb => h.cell (p := ⟨b, o, none⟩) hb
theorem heapCell {w : World} {b i : Nat} {cs : Array Value} {t : TypeId} {v : Value} (h : w.heap[b]? = some (.cells cs t (0, 0))) (hi : cs[i]? = some v) : w.cell? ⟨b, i, none⟩ = some v := by
 simp [World.cell?, h, hi]
/-- Cat of two trees that are handed over in a row -/
theorem cat_two_calls (W : World) (B : Nat) (t0 t1 : NT) (x0 x1 x2 x3 x4 x5 y0 y1 y2 y3 y4 y5 : Value) (hB : W.heap[B]? = some (.cells #[x0, x1, x2, x3, x4, x5, y0, y1, y2, y3, y4, y5] 28 (0, 0))) (h0 : NIn W (· < W.heap.size) t0 [x0, x1, x2, x3, x4, x5]) (h1 : NIn W (· < W.heap.size) t1 [y0, y1, y2, y3, y4, y5]) (hn : t0.nodes + t1.nodes < 274877906944) :
  Calls Tryd.prog 13 #[.slice (some ⟨B, 0, none⟩) 2 2] W fun e w' => ∃ v0 v1 v2 v3 v4 v5 : Value, e = .returned (.agg #[v0, v1, v2, v3, v4, v5]) ∧ NIn w' (fun b => W.heap.size ≤ b ∧ b < w'.heap.size) (catT [t0, t1]) [v0, v1, v2, v3, v4, v5] ∧ Below W.heap.size W w' := by
 have hlt := (Array.getElem?_eq_some_iff.1 hB).1
 refine (cat_calls (some ⟨B, 0, none⟩) 2 2 [t0, t1] W rfl (by simp only [NT.nodesL]; omega) (fun j t ht => ?_)).mono ?_
 ·obtain ⟨cs, hn, hc⟩ := args_at (P := (· < W.heap.size)) (l := [t0, t1]) (css := [[x0, x1, x2, x3, x4, x5], [y0, y1, y2, y3, y4, y5]]) (by simpa using hB) rfl (fun j t cs g1 g2 => by
   match j with
   | 0 => simp only [List.getElem?_cons_zero, Option.some.injEq] at g1 g2; subst g1 g2; exact h0
   | 1 => simp only [List.getElem?_cons_succ, List.getElem?_cons_zero, Option.some.injEq] at g1 g2; subst g1 g2; exact h1
   | j + 2 => simp at g1) (fun c h => by simp at h; rcases h with rfl | rfl <;> rfl) j t ht
  exact ⟨_, cs, rfl, hlt, hn, hc⟩
 ·rintro e w' ⟨cs, rfl, hn, hb⟩
  obtain ⟨k, m, lo, hi, ar, ak, lr, cr, lk, ck, rfl⟩ := six hn
  exact ⟨_, _, _, _, _, _, rfl, hn, hb⟩
set_option maxHeartbeats 8000000 in
set_option maxRecDepth 100000 in
theorem spells_few (a b : ByteArray) (chars fold : Bool) (w : World) (hT : Lib.Utf8Tabs 0 1 w) (hm : a.size + b.size ≤ 1900) :
  Calls Tryd.prog 3 #[.string a, .string b, .agg #[.bool chars, .bool fold]] w fun e w' => e = .returned (.bool true) ∧ Below w.heap.size w w' := by
 have e1 : IntKind.i64.wrap ((a.size : Int) + (b.size : Int)) = (a.size : Int) + (b.size : Int) := IntWalk.i64_in _ (by omega)
 have hm' : ¬ (1900 : Int) < (a.size : Int) + (b.size : Int) := by omega
 have HM := Lib.hid hm
 have HT := Lib.hid hT
 clear hm hT
 obtain ⟨M, hM⟩ : ∃ M, M = w.heap.size := ⟨_, rfl⟩
 obtain ⟨W1, hW1⟩ : ∃ X, X = w.alloc (.cells #[.bool chars, .bool fold] 23) := ⟨_, rfl⟩
 have hb1 : Below w.heap.size w W1 := by rw [hW1]; exact (Below.refl _ w).alloc (Nat.le_refl _) _
 have hk1 : W1.heap[M]? = some (.cells #[.bool chars, .bool fold] 23 (0, 0)) := by rw [hW1, hM]; exact World.alloc_heap_new w _
 have H1 := Lib.hid (And.intro hb1 (And.intro hk1 (And.intro hM hW1)))
 clear hb1 hk1 hM hW1
 go_enter Tryd.func3, Tryd.ntmps3
 go_wp2_with fail
 rw [← H1.out.2.2.2, ← H1.out.2.2.1]
 refine (examples_calls _).mono ?_
 rintro e W2 ⟨rfl, hb2⟩
 have hB2 : Below w.heap.size w W2 := H1.out.1.trans (hb2.mono H1.out.1.size)
 have hk2 : W2.heap[M]? = some (.cells #[.bool chars, .bool fold] 23 (0, 0)) := (hb2.block M (Array.getElem?_eq_some_iff.1 H1.out.2.1).1).trans H1.out.2.1
 have HB2 := Lib.hid hB2
 have HK2 := Lib.hid hk2
 have m0 := heapCell (i := 0) hk2 rfl
 have m1 := heapCell (i := 1) hk2 rfl
 clear hb2 hB2 hk2
 have HL := Lib.hid (literal_any a chars fold W2 (by have := HM.out; omega) (tabs_below HT.out HB2.out))
 go_wp2_with fail
 refine HL.out.mono ?_
 rintro e W3 ⟨hb3, hL⟩
 clear HL m0 m1 e1 hm'
 have hB3 := HB2.out.trans (hb3.mono HB2.out.size)
 have hk3 : W3.heap[M]? = some (.cells #[.bool chars, .bool fold] 23 (0, 0)) := (hb3.block M (Array.getElem?_eq_some_iff.1 HK2.out).1).trans HK2.out
 have HB3 := Lib.hid hB3
 have HK3 := Lib.hid hk3
 have m0 := heapCell (i := 0) hk3 rfl
 have m1 := heapCell (i := 1) hk3 rfl
 have hl3 := (Array.getElem?_eq_some_iff.1 hk3).1
 clear hB3 hk3
 by_cases hoa : okB chars a = true
 ·rw [if_pos hoa] at hL
  obtain ⟨cs, rfl, hN⟩ := hL
  obtain ⟨k1, k2, k3, k4, k5, k6, k7, k8, k9, k10, rfl⟩ := six hN
  have HX3 := Lib.hid hN
  have HOA := Lib.hid hoa
  clear hN hoa
  go_wp2_with fail
  obtain ⟨X, hX⟩ : ∃ X, X = W3.heap.size := ⟨_, rfl⟩
  refine (literal_any b chars fold _ (by have := HM.out; omega) (tabs_below HT.out (HB3.out.alloc HB3.out.size _))).mono ?_
  rintro e W5 ⟨hb5, hL⟩
  have hB5 := (HB3.out.alloc HB3.out.size _).trans (hb5.mono (HB3.out.alloc HB3.out.size _).size)
  have HB5 := Lib.hid hB5
  have hb35 := ((Below.refl W3.heap.size W3).alloc (Nat.le_refl _) _).trans (hb5.mono (by simp))
  have hz5 : M < W5.heap.size := Nat.lt_of_lt_of_le hl3 hb35.size
  have n0 := (Below.cells' hb35 M 0 hl3).trans m0
  have n1 := (Below.cells' hb35 M 1 hl3).trans m1
  have HK5 := Lib.hid ((hb35.block M hl3).trans HK3.out)
  have hx5 := (HeldT.new (HX3.out.mono (fun b hb => hb.2))).below hb5
  rw [← hX] at hx5 ⊢
  have HX5 := Lib.hid hx5
  have hxz := hx5.lt
  have p0 := heapCell (i := 0) hx5.1 rfl
  have p1 := heapCell (i := 1) hx5.1 rfl
  have p2 := heapCell (i := 2) hx5.1 rfl
  have p3 := heapCell (i := 3) hx5.1 rfl
  have p4 := heapCell (i := 4) hx5.1 rfl
  have p5 := heapCell (i := 5) hx5.1 rfl
  clear m0 m1 hB5 hx5 hb35 hb5 hl3 hX
  by_cases hob : okB chars b = true
  ·rw [if_pos hob] at hL
   obtain ⟨cs, rfl, hN⟩ := hL
   obtain ⟨l1, l2, l3, l4, l5, l6, l7, l8, l9, l10, rfl⟩ := six hN
   have HY5 := Lib.hid hN
   have HOB := Lib.hid hob
   clear hN hob
   go_wp2_with fail
   obtain ⟨Y, hY⟩ : ∃ Y, Y = W5.heap.size := ⟨_, rfl⟩
   have hokz := (units_two chars fold a b HOA.out HOB.out)
   have HZT := Lib.hid hokz.1
   have HOZ := Lib.hid hokz.2
   clear hokz
   refine (literal_any (a ++ b) chars fold _ (by rw [size_append']; have := HM.out; omega) (tabs_below HT.out (HB5.out.alloc HB5.out.size _))).mono ?_
   rintro e W7 ⟨hb7, hL⟩
   rw [if_pos HOZ.out] at hL
   obtain ⟨cs, rfl, hN⟩ := hL
   obtain ⟨r1, r2, r3, r4, r5, r6, r7, r8, r9, r10, rfl⟩ := six hN
   have hB7 := (HB5.out.alloc HB5.out.size _).trans (hb7.mono (HB5.out.alloc HB5.out.size _).size)
   have hb57 := ((Below.refl W5.heap.size W5).alloc (Nat.le_refl _) _).trans (hb7.mono (by simp))
   have hy7 := (HeldT.new (HY5.out.mono (fun b hb => hb.2))).below hb7
   have hx7 := HX5.out.below hb57
   have hm7 : W7.heap[M]? = some (.cells #[.bool chars, .bool fold] 23 (0, 0)) := (hb57.block M hz5).trans HK5.out
   rw [← hY] at hy7 ⊢
   have HF := Lib.hid (And.intro hB7 (And.intro hx7 (And.intro hy7 (And.intro hm7 hN))))
   clear hb57 hb7 p0 p1 p2 p3 p4 p5 n0 n1 hxz hz5 hY HX5 HY5 hx7 hy7 hm7 hN hB7
   go_wp2_with fail
   obtain ⟨Z, hZ⟩ : ∃ Z, Z = W7.heap.size := ⟨_, rfl⟩
   obtain ⟨W8, hW8⟩ : ∃ W8, W8 = W7.alloc (.cells #[.int .i64 r1, .int .i64 r2, .int .i64 r3, .int .i64 r4, .slice r5 r7 r8, .slice r6 r9 r10] 28) := ⟨_, rfl⟩
   have hb78 : Below W7.heap.size W7 W8 := by rw [hW8]; exact (Below.refl _ W7).alloc (Nat.le_refl _) _
   have hz8 : HeldT W8 Z (catT (unitsT chars fold (a ++ b))) (.int .i64 r1) (.int .i64 r2) (.int .i64 r3) (.int .i64 r4) (.slice r5 r7 r8) (.slice r6 r9 r10) := by rw [hW8, hZ]; exact HeldT.new (HF.out.2.2.2.2.mono (fun b hb => hb.2))
   have hx8 := HF.out.2.1.below hb78
   have hy8 := HF.out.2.2.1.below hb78
   have hm8 := (hb78.block M (Array.getElem?_eq_some_iff.1 HF.out.2.2.2.1).1).trans HF.out.2.2.2.1
   have HB8 := Lib.hid (HF.out.1.trans (hb78.mono HF.out.1.size))
   rw [← hW8, ← hZ]
   clear hb78 hW8 hZ HF
   obtain ⟨UA, hUA⟩ : ∃ U, U = unitsT chars fold a := ⟨_, rfl⟩
   obtain ⟨UB, hUB⟩ : ∃ U, U = unitsT chars fold b := ⟨_, rfl⟩
   have hla : ∀ t, t ∈ UA → Leaf chars fold t := by rw [hUA]; exact units_leaf chars fold a
   have hlb : ∀ t, t ∈ UB → Leaf chars fold t := by rw [hUB]; exact units_leaf chars fold b
   have hna : UA.length ≤ a.size := by rw [hUA]; exact units_len chars fold a
   have hnb : UB.length ≤ b.size := by rw [hUB]; exact units_len chars fold b
   rw [HZT.out] at hz8
   rw [← hUA] at hx8 hz8
   rw [← hUB] at hy8 hz8
   have hm := HM.out
   have hlz : ∀ t, t ∈ UA ++ UB → Leaf chars fold t := fun t ht => by rcases List.mem_append.1 ht with h | h; exact hla t h; exact hlb t h
   have hza := leaves_nodes UA hla
   have hzb := leaves_nodes UB hlb
   have hzz := leaves_nodes (UA ++ UB) hlz
   have hca := catT_nodes UA
   have hcb := catT_nodes UB
   have hcz := catT_nodes (UA ++ UB)
   have hlen : (UA ++ UB).length = UA.length + UB.length := List.length_append
   have HP := Lib.hid (show rightT (catT UA) chars fold = 0 ∧ rightT (catT (UA ++ UB)) chars fold = 0 ∧ sameT (catT (UA ++ UB)) (catT [catT UA, catT UB]) = true ∧ (catT UA).nodes < 10000 ∧ (catT UB).nodes < 10000 ∧ (catT (UA ++ UB)).nodes < 10000 ∧ (catT [catT UA, catT UB]).nodes < 10000 from by
    have e := cat_both UA UB (leaves_plain hla) (leaves_plain hlb)
    rw [e]
    exact ⟨right_sets UA hla (by omega), right_sets _ hlz (by omega), same_self _ (by omega), by omega, by omega, by omega, by omega⟩)
   clear hUA hUB hla hlb hna hnb hm hlz hza hzb hzz hca hcb hcz hlen HZT HOA HOB HOZ
   have lx := hx8.lt
   have ly := hy8.lt
   have lz := hz8.lt
   have lm := (Array.getElem?_eq_some_iff.1 hm8).1
   have x0 := heapCell (i := 0) hx8.1 rfl
   have x1 := heapCell (i := 1) hx8.1 rfl
   have x2 := heapCell (i := 2) hx8.1 rfl
   have x3 := heapCell (i := 3) hx8.1 rfl
   have x4 := heapCell (i := 4) hx8.1 rfl
   have x5 := heapCell (i := 5) hx8.1 rfl
   have y0 := heapCell (i := 0) hy8.1 rfl
   have y1 := heapCell (i := 1) hy8.1 rfl
   have y2 := heapCell (i := 2) hy8.1 rfl
   have y3 := heapCell (i := 3) hy8.1 rfl
   have y4 := heapCell (i := 4) hy8.1 rfl
   have y5 := heapCell (i := 5) hy8.1 rfl
   have z0 := heapCell (i := 0) hz8.1 rfl
   have z1 := heapCell (i := 1) hz8.1 rfl
   have z2 := heapCell (i := 2) hz8.1 rfl
   have z3 := heapCell (i := 3) hz8.1 rfl
   have z4 := heapCell (i := 4) hz8.1 rfl
   have z5 := heapCell (i := 5) hz8.1 rfl
   have m0 := heapCell (i := 0) hm8 rfl
   have m1 := heapCell (i := 1) hm8 rfl
   have HX8 := Lib.hid hx8
   have HY8 := Lib.hid hy8
   have HZ8 := Lib.hid hz8
   clear hx8 hy8 hz8 hm8
   refine go_start (fun w' => Below W8.heap.size W8 w') [] [.p 0, .p 1, .p 2, .p 3, .p 4, .p 5, .t 6, .t 7, .o 8, .p 9, .p 10, .p 11, .t 12, .t 13, .o 14, .p 15, .p 16, .p 17, .t 18, .t 19, .t 20, .o 21, .o 22, .o 23, .p 24, .p 25] (by kernel_rfl) (by kernel_rfl) (fun c d v a w h => by cases d <;> exact h) ((Below.refl _ W8).drew) (fun w2 hS2 => ?_)
   repeat
    refine go_p (v := ?_) (b := ?_) rfl (.inl ⟨by rfl, ?_⟩) ?_ ?_
    rotate_left 2
    ·intro w'; go_simp; with_reducible rfl
    ·simp only [Act.put, List.setIfInBounds_toArray, List.set_cons_zero, List.set_cons_succ]; rfl
   repeat
    refine go_t (v := ?_) (b := ?_) rfl (.inl ⟨by rfl, ?_⟩) ?_ ?_
    rotate_left 2
    ·intro w' hS; have hc := Below.cells' hS; go_simp; with_reducible rfl
    ·simp only [Act.put, List.setIfInBounds_toArray, List.set_cons_zero, List.set_cons_succ]; rfl
   have gX := HX8.out.below hS2
   refine go_call rfl (by rfl) Tryd.func11 (by kernel_rfl) rfl (by simp only [List.map_toArray, List.map_cons, List.map_nil]; rfl) (right_calls (catT UA) [_, _, _, _, _, _] chars fold w2 gX.2 (by have := HP.out; omega)) ?_
   rintro e w3 ⟨rfl, hb⟩
   rw [HP.out.1]
   have hS3 : Below W8.heap.size W8 w3 := hS2.trans (hb.mono hS2.size)
   refine ⟨_, _, rfl, hS3, (by simp only [Act.put, List.setIfInBounds_toArray, List.set_cons_zero, List.set_cons_succ]; rfl), ?_⟩
   clear hb hS2 gX
   repeat
    refine go_p (v := ?_) (b := ?_) rfl (.inl ⟨by rfl, ?_⟩) ?_ ?_
    rotate_left 2
    ·intro w'; go_simp; with_reducible rfl
    ·simp only [Act.put, List.setIfInBounds_toArray, List.set_cons_zero, List.set_cons_succ]; rfl
   repeat
    refine go_t (v := ?_) (b := ?_) rfl (.inl ⟨by rfl, ?_⟩) ?_ ?_
    rotate_left 2
    ·intro w' hS; have hc := Below.cells' hS; go_simp; with_reducible rfl
    ·simp only [Act.put, List.setIfInBounds_toArray, List.set_cons_zero, List.set_cons_succ]; rfl
   have gZ := HZ8.out.below hS3
   refine go_call rfl (by rfl) Tryd.func11 (by kernel_rfl) rfl (by simp only [List.map_toArray, List.map_cons, List.map_nil]; rfl) (right_calls (catT (UA ++ UB)) [_, _, _, _, _, _] chars fold w3 gZ.2 (by have := HP.out; omega)) ?_
   rintro e w4 ⟨rfl, hb⟩
   rw [HP.out.2.1]
   have hS4 : Below W8.heap.size W8 w4 := hS3.trans (hb.mono hS3.size)
   refine ⟨_, _, rfl, hS4, (by simp only [Act.put, List.setIfInBounds_toArray, List.set_cons_zero, List.set_cons_succ]; rfl), ?_⟩
   clear hb hS3 gZ
   repeat
    refine go_p (v := ?_) (b := ?_) rfl (.inl ⟨by rfl, ?_⟩) ?_ ?_
    rotate_left 2
    ·intro w'; go_simp; with_reducible rfl
    ·simp only [Act.put, List.setIfInBounds_toArray, List.set_cons_zero, List.set_cons_succ]; rfl
   repeat
    refine go_t (v := ?_) (b := ?_) rfl (.inl ⟨by rfl, ?_⟩) ?_ ?_
    rotate_left 2
    ·intro w' hS; have hc := Below.cells' hS; go_simp; with_reducible rfl
    ·simp only [Act.put, List.setIfInBounds_toArray, List.set_cons_zero, List.set_cons_succ]; rfl
   refine go_val (v := .slice (some ⟨w4.heap.size, 0, none⟩) 2 2) (w1 := w4.alloc (.cells #[.int .i64 k1, .int .i64 k2, .int .i64 k3, .int .i64 k4, .slice k5 k7 k8, .slice k6 k9 k10, .int .i64 l1, .int .i64 l2, .int .i64 l3, .int .i64 l4, .slice l5 l7 l8, .slice l6 l9 l10] 28)) rfl (by rfl) (by go_simp; first | done | rfl) (by simp only [Act.put, List.setIfInBounds_toArray, List.set_cons_zero, List.set_cons_succ]; rfl) (hS4.alloc hS4.size _) ?_
   obtain ⟨w5, hw5⟩ : ∃ X, X = w4.alloc (.cells #[.int .i64 k1, .int .i64 k2, .int .i64 k3, .int .i64 k4, .slice k5 k7 k8, .slice k6 k9 k10, .int .i64 l1, .int .i64 l2, .int .i64 l3, .int .i64 l4, .slice l5 l7 l8, .slice l6 l9 l10] 28) := ⟨_, rfl⟩
   have hk5 : w5.heap[w4.heap.size]? = some (.cells #[.int .i64 k1, .int .i64 k2, .int .i64 k3, .int .i64 k4, .slice k5 k7 k8, .slice k6 k9 k10, .int .i64 l1, .int .i64 l2, .int .i64 l3, .int .i64 l4, .slice l5 l7 l8, .slice l6 l9 l10] 28 (0, 0)) := by rw [hw5]; exact World.alloc_heap_new w4 _
   have hS5 : Below W8.heap.size W8 w5 := by rw [hw5]; exact hS4.alloc hS4.size _
   rw [← hw5]
   clear hw5 hS4
   refine go_call rfl (by rfl) Tryd.func13 (by kernel_rfl) rfl (by simp only [List.map_toArray, List.map_cons, List.map_nil]; rfl) (cat_two_calls w5 _ (catT UA) (catT UB) _ _ _ _ _ _ _ _ _ _ _ _ hk5 (HX8.out.below hS5).2 (HY8.out.below hS5).2 (by have := HP.out; omega)) ?_
   rintro e w6 ⟨v0, v1, v2, v3, v4, v5, rfl, hN6, hb6⟩
   have hS6 : Below W8.heap.size W8 w6 := hS5.trans (hb6.mono hS5.size)
   refine ⟨_, _, rfl, hS6, (by simp only [Act.put, List.setIfInBounds_toArray, List.set_cons_zero, List.set_cons_succ]; rfl), ?_⟩
   clear hb6 hS5 hk5
   refine go_call rfl (by rfl) Tryd.func12 (by kernel_rfl) rfl (by simp only [List.map_toArray, List.map_cons, List.map_nil]; rfl) (Same_calls w6.heap.size (catT (UA ++ UB)) (catT [catT UA, catT UB]) [_, _, _, _, _, _] [_, _, _, _, _, _] w6 (Nat.le_refl _) (HZ8.out.below hS6).2 (hN6.mono (fun b hb => hb.2)) (by have := HP.out; omega) (by have := HP.out; omega)) ?_
   rintro e w7 ⟨rfl, hb7⟩
   have hS7 : Below W8.heap.size W8 w7 := hS6.trans (hb7.mono hS6.size)
   rw [HP.out.2.2.1]
   refine ⟨_, _, rfl, hS7, (by simp only [Act.put, List.setIfInBounds_toArray, List.set_cons_zero, List.set_cons_succ]; rfl), ?_⟩
   clear hb7 hS6 hN6
   repeat
    refine go_p (v := ?_) (b := ?_) rfl (.inl ⟨by rfl, ?_⟩) ?_ ?_
    rotate_left 2
    ·intro w'; go_simp; with_reducible rfl
    ·simp only [Act.put, List.setIfInBounds_toArray, List.set_cons_zero, List.set_cons_succ]; rfl
   refine go_done ?_
   clear x0 x1 x2 x3 x4 x5 y0 y1 y2 y3 y4 y5 z0 z1 z2 z3 z4 z5 m0 m1
   go_wp2_with fail
   go_ret
   exact ⟨rfl, HB8.out.trans (hS7.mono HB8.out.size)⟩
  ·rw [if_neg hob] at hL
   subst hL
   have hch : chars = true := by cases chars; simp [okB] at hob; rfl
   subst hch
   clear hob p0 p1 p2 p3 p4 p5
   go_wp2_with fail
   go_ret
   exact ⟨rfl, HB5.out.alloc HB5.out.size _⟩
 ·rw [if_neg hoa] at hL
  subst hL
  have hch : chars = true := by cases chars; simp [okB] at hoa; rfl
  subst hch
  clear hoa
  go_wp2_with fail
  refine (literal_any b true fold _ (by have := HM.out; omega) (tabs_below HT.out (HB3.out.alloc HB3.out.size _))).mono ?_
  rintro e W5 ⟨hb5, hL⟩
  have hB5 := (HB3.out.alloc HB3.out.size _).trans (hb5.mono (HB3.out.alloc HB3.out.size _).size)
  have HB5 := Lib.hid hB5
  have hb35 := ((Below.refl W3.heap.size W3).alloc (Nat.le_refl _) _).trans (hb5.mono (by simp))
  have hz5 : M < W5.heap.size := Nat.lt_of_lt_of_le hl3 hb35.size
  have n0 := (Below.cells' hb35 M 0 hl3).trans m0
  have n1 := (Below.cells' hb35 M 1 hl3).trans m1
  clear m0 m1 hB5 hb35 hb5
  by_cases hob : okB true b = true
  ·rw [if_pos hob] at hL
   obtain ⟨cs, rfl, hN⟩ := hL
   obtain ⟨l1, l2, l3, l4, l5, l6, l7, l8, l9, l10, rfl⟩ := six hN
   clear hN hob
   go_wp2_with fail
   go_ret
   exact ⟨rfl, HB5.out.alloc HB5.out.size _⟩
  ·rw [if_neg hob] at hL
   subst hL
   clear hob
   go_wp2_with fail
   go_ret
   exact ⟨rfl, HB5.out.alloc HB5.out.size _⟩
theorem spells_calls (a b : ByteArray) (chars fold : Bool) (w : World) (hT : Lib.Utf8Tabs 0 1 w) (ha : a.size ≤ 140737488351232) (hb : b.size ≤ 140737488351232) :
  Calls Tryd.prog 3 #[.string a, .string b, .agg #[.bool chars, .bool fold]] w fun e w' => e = .returned (.bool true) ∧ Below w.heap.size w w' := by
 by_cases hm : 1900 < a.size + b.size
 ·exact spells_many a b chars fold w ha hb hm
 ·exact spells_few a b chars fold w hT (by omega)
end Go.Proofs.YtamhkdlcoghdbaaDoor.PCls
