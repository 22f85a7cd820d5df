/- Put together (wip/tools/pack.py): QPd, QPe. -/
import Derived.Test.YtamhkdlcoghdbaaGreatDoorVMQLw
import Derived.Maps.OwnOps
import Derived.Maps.Views
/- Out of Pd (wip/tools/prune2.py): the declarations alone that the texts of the trees name. -/
namespace Go.Proofs.YtamhkdlcoghdbaaGreatDoor.PCls
open Go.RowKit Go.Shelf Go.Proofs.YtamhkdlcoghdbaaGreatDoorW.PrintWords Go.Proofs.YtamhkdlcoghdbaaGreatDoorW.PrintLast Go.Proofs.YtamhkdlcoghdbaaGreatDoorW.PrintMore
set_option linter.unusedVariables false
set_option linter.unusedSimpArgs false
def brV (b : Nat) : Value := .iface 150 (.pointer (some ⟨b, 0, none⟩))
def chV (g : Nat) : Value := .iface 101 (.pointer (some ⟨g, 2, none⟩))
def grV (g : Nat) : Value := .iface 99 (.pointer (some ⟨g, 0, none⟩))
def ofV (v : Value) (lo hi : Int) : Value := .iface 157 (.agg #[v, .int .i64 lo, .int .i64 hi])
def lfV (cs : List Value) : Value := .iface 159 (.agg cs.toArray)
/-- a part lies in memory, in blocks of P -/
inductive PIn (w : World) (P : Nat → Prop) : PT → Value → Prop
 | leaf (t : NT) (cs : List Value) (h : NIn w P t cs) : PIn w P (.leaf t) (lfV cs)
 | often (p : PT) (lo hi : Int) (v : Value) (h : PIn w P p v) : PIn w P (.often p lo hi) (ofV v lo hi)
 | group (n pl : Int) (c : PT) (g : Nat) (hg : P g) (h0 : w.cell? ⟨g, 0, none⟩ = some (.int .i64 n)) (h1 : w.cell? ⟨g, 1, none⟩ = some (.int .i64 pl)) (h : PIn w P c (chV g)) : PIn w P (.group n pl c) (grV g)
 | branch (l : List PT) (b : Nat) (A : Option Addr) (c : Nat) (vs : Nat → Value) (hb : P b) (h0 : w.cell? ⟨b, 0, none⟩ = some (.slice A l.length c)) (hc : l.length ≤ c)
   (hr : ∀ j, j < l.length → ∃ g, A = some ⟨g, 0, none⟩ ∧ P g ∧ w.cell? ⟨g, j, none⟩ = some (vs j)) (h : ∀ j p, l[j]? = some p → PIn w P p (vs j)) : PIn w P (.branch l) (brV b)
 | choice (l : List PT) (b : Nat) (A : Option Addr) (c : Nat) (vs : Nat → Value) (hb : P b) (h0 : w.cell? ⟨b, 2, none⟩ = some (.slice A l.length c)) (hc : l.length ≤ c)
   (hr : ∀ j, j < l.length → ∃ g, A = some ⟨g, 0, none⟩ ∧ P g ∧ w.cell? ⟨g, j, none⟩ = some (vs j)) (h : ∀ j p, l[j]? = some p → PIn w P p (vs j)) : PIn w P (.choice l) (chV b)
theorem cell_same {w w' : World} {g o : Nat} {v : Value} (h : w.cell? ⟨g, o, none⟩ = some v) (hm : w'.heap[g]? = w.heap[g]?) : w'.cell? ⟨g, o, none⟩ = some v := by
 rw [World.cell?_of_block (w := w) (a := ⟨g, o, none⟩) hm]; exact h
theorem PIn.move {w w' : World} {P : Nat → Prop} {p : PT} {v : Value} (h : PIn w P p v) (hm : ∀ b, P b → w'.heap[b]? = w.heap[b]?) : PIn w' P p v := by
 induction h with
 | leaf t cs h => exact .leaf t cs (h.move hm)
 | often p lo hi v h ih => exact .often p lo hi v ih
 | group n pl c g hg h0 h1 h ih => exact .group n pl c g hg (cell_same h0 (hm g hg)) (cell_same h1 (hm g hg)) ih
 | branch l b A c vs hb h0 hc hr h ih => exact .branch l b A c vs hb (cell_same h0 (hm b hb)) hc (fun j hj => by obtain ⟨g, e, hP, hcl⟩ := hr j hj; exact ⟨g, e, hP, cell_same hcl (hm g hP)⟩) ih
 | choice l b A c vs hb h0 hc hr h ih => exact .choice l b A c vs hb (cell_same h0 (hm b hb)) hc (fun j hj => by obtain ⟨g, e, hP, hcl⟩ := hr j hj; exact ⟨g, e, hP, cell_same hcl (hm g hP)⟩) ih
theorem PIn.mono {w : World} {P P' : Nat → Prop} {p : PT} {v : Value} (h : PIn w P p v) (hp : ∀ b, P b → P' b) : PIn w P' p v := by
 induction h with
 | leaf t cs h => exact .leaf t cs (h.mono hp)
 | often p lo hi v h ih => exact .often p lo hi v ih
 | group n pl c g hg h0 h1 h ih => exact .group n pl c g (hp g hg) h0 h1 ih
 | branch l b A c vs hb h0 hc hr h ih => exact .branch l b A c vs (hp b hb) h0 hc (fun j hj => by obtain ⟨g, e, hP, hcl⟩ := hr j hj; exact ⟨g, e, hp g hP, hcl⟩) ih
 | choice l b A c vs hb h0 hc hr h ih => exact .choice l b A c vs (hp b hb) h0 hc (fun j hj => by obtain ⟨g, e, hP, hcl⟩ := hr j hj; exact ⟨g, e, hp g hP, hcl⟩) ih
theorem PIn.keep {w w' : World} {n : Nat} {p : PT} {v : Value} (h : PIn w (· < n) p v) (hb : Below n w w') : PIn w' (· < n) p v := h.move fun b hp => hb.block b hp
/-- parts, and their values -/
def PsIn (w : World) (P : Nat → Prop) (l : List PT) (vs : List Value) : Prop := vs.length = l.length ∧ ∀ (j : Nat) (p : PT), l[j]? = some p → ∃ v, vs[j]? = some v ∧ PIn w P p v
theorem PsIn.move {w w' : World} {P P' : Nat → Prop} {l : List PT} {vs : List Value} (h : PsIn w P l vs) (hm : ∀ b, P b → w'.heap[b]? = w.heap[b]?) (hp : ∀ b, P b → P' b) : PsIn w' P' l vs :=
 ⟨h.1, fun j p hj => by obtain ⟨v, e, hP⟩ := h.2 j p hj; exact ⟨v, e, (hP.move hm).mono hp⟩⟩
theorem PsIn.nil (w : World) (P : Nat → Prop) : PsIn w P [] [] := ⟨rfl, fun j p h => by simp at h⟩
theorem PsIn.snoc {w : World} {P : Nat → Prop} {l : List PT} {vs : List Value} (h : PsIn w P l vs) {p : PT} {v : Value} (hp : PIn w P p v) : PsIn w P (l ++ [p]) (vs ++ [v]) := by
 refine ⟨by simp [h.1], fun j q hj => ?_⟩
 have hlt := (List.getElem?_eq_some_iff.1 hj).1
 simp only [List.length_append, List.length_singleton] at hlt
 rcases Nat.lt_or_ge j l.length with hlj | hlj
 ·rw [List.getElem?_append_left hlj] at hj
  obtain ⟨u, e, hu⟩ := h.2 j q hj
  exact ⟨u, by rw [List.getElem?_append_left (by rw [h.1]; exact hlj)]; exact e, hu⟩
 ·obtain rfl : j = l.length := by omega
  rw [List.getElem?_append_right (Nat.le_refl _), Nat.sub_self] at hj
  obtain rfl : p = q := by simpa using hj
  exact ⟨v, by rw [← h.1]; simp, hp⟩
/-- the last part is another -/
theorem PsIn.last {w : World} {P : Nat → Prop} {l : List PT} {vs : List Value} (h : PsIn w P l vs) (hl : l ≠ []) {p : PT} {v : Value} (hp : PIn w P p v) : PsIn w P (l.dropLast ++ [p]) (vs.set (l.length - 1) v) := by
 have h0 : 0 < l.length := List.length_pos_iff.2 hl
 refine ⟨by simp [h.1]; omega, fun j q hj => ?_⟩
 have hlt := (List.getElem?_eq_some_iff.1 hj).1
 simp only [List.length_append, List.length_singleton, List.length_dropLast] at hlt
 rcases Nat.lt_or_ge j (l.length - 1) with hlj | hlj
 ·rw [List.getElem?_append_left (by rw [List.length_dropLast]; exact hlj), List.getElem?_dropLast, if_pos (by omega)] at hj
  obtain ⟨u, e, hu⟩ := h.2 j q hj
  exact ⟨u, by rw [List.getElem?_set, if_neg (by omega)]; exact e, hu⟩
 ·obtain rfl : j = l.length - 1 := by omega
  rw [List.getElem?_append_right (by rw [List.length_dropLast]; exact Nat.le_refl _), List.length_dropLast, Nat.sub_self] at hj
  obtain rfl : p = q := by simpa using hj
  exact ⟨v, by rw [List.getElem?_set, if_pos rfl, if_pos (by rw [h.1]; omega)], hp⟩
/-- blocks of what is whole -/
def Fz (W : World) (base : Nat) (τ : Nat → Nat) (k : Nat) : Prop := base ≤ k ∧ k < W.heap.size ∧ τ k = 0
/-- whose a block is: a group's (d: how many groups are around it): itself, its branch, the row of its branches, the row of its branch -/
def tg (d j : Nat) : Nat := 10 + 4 * d + j
/-- an open group in memory -/
structure GAt (W : World) (base : Nat) (τ : Nat → Nat) (d : Nat) (g : GS) (a : Nat) (V U : Value) (b : Nat) (ds us : List Value) : Prop where
 ta : τ a = tg d 0
 tb : τ b = tg d 1
 tV : ∀ k, V.ownBlock = some k → τ k = tg d 2
 tU : ∀ k, U.ownBlock = some k → τ k = tg d 3
 la : base ≤ a
 lb : base ≤ b
 ha : W.heap[a]? = some (.cells #[.int .i64 g.n, .int .i64 g.pl, V] 98 (0, 0))
 hV : W.ownsRow base 155 1 V (g.done.length + 1) (ds ++ [brV b])
 hb : W.heap[b]? = some (.cells #[U] 151 (0, 0))
 hU : W.ownsRow base 155 1 U g.cur.length us
 pd : PsIn W (Fz W base τ) g.done ds
 pu : PsIn W (Fz W base τ) g.cur us
theorem GAt.keep {W W' : World} {base : Nat} {τ τ' : Nat → Nat} {d : Nat} {g : GS} {a b : Nat} {V U : Value} {ds us : List Value} (h : GAt W base τ d g a V U b ds us) (hs : W.heap.size ≤ W'.heap.size)
  (hm : ∀ k, base ≤ k → k < W.heap.size → (τ k = 0 ∨ ∃ j, j < 4 ∧ τ k = tg d j) → W'.heap[k]? = W.heap[k]? ∧ τ' k = τ k) : GAt W' base τ' d g a V U b ds us := by
 have lt : ∀ {k : Nat} {o : Obj}, W.heap[k]? = some o → k < W.heap.size := fun h => (Array.getElem?_eq_some_iff.1 h).1
 have ka := hm a h.la (lt h.ha) (.inr ⟨0, by omega, h.ta⟩)
 have kb := hm b h.lb (lt h.hb) (.inr ⟨1, by omega, h.tb⟩)
 have kV : ∀ k, V.ownBlock = some k → W'.heap[k]? = W.heap[k]? ∧ τ' k = τ k := fun k hk => hm k (h.hV.lt k hk).1 (h.hV.lt k hk).2 (.inr ⟨2, by omega, h.tV k hk⟩)
 have kU : ∀ k, U.ownBlock = some k → W'.heap[k]? = W.heap[k]? ∧ τ' k = τ k := fun k hk => hm k (h.hU.lt k hk).1 (h.hU.lt k hk).2 (.inr ⟨3, by omega, h.tU k hk⟩)
 have kz : ∀ k, Fz W base τ k → W'.heap[k]? = W.heap[k]? := fun k hk => (hm k hk.1 hk.2.1 (.inl hk.2.2)).1
 have kz2 : ∀ k, Fz W base τ k → Fz W' base τ' k := fun k hk => ⟨hk.1, Nat.lt_of_lt_of_le hk.2.1 hs, (hm k hk.1 hk.2.1 (.inl hk.2.2)).2.trans hk.2.2⟩
 exact ⟨ka.2.trans h.ta, kb.2.trans h.tb, fun k hk => (kV k hk).2.trans (h.tV k hk), fun k hk => (kU k hk).2.trans (h.tU k hk), h.la, h.lb, ka.1.trans h.ha, ownMove h.hV (fun k hk => (kV k hk).1), kb.1.trans h.hb, ownMove h.hU (fun k hk => (kU k hk).1), h.pd.move kz kz2, h.pu.move kz kz2⟩
/-- open groups in memory, the innermost first -/
def GsAt (W : World) (base : Nat) (τ : Nat → Nat) : List GS → List Nat → Prop
 | [], [] => True
 | g :: gs, a :: al => (∃ V U b ds us, GAt W base τ gs.length g a V U b ds us) ∧ GsAt W base τ gs al
 | _, _ => False
theorem GsAt.length {W : World} {base : Nat} {τ : Nat → Nat} : ∀ {gs : List GS} {al : List Nat}, GsAt W base τ gs al → al.length = gs.length
 | [], [], _ => rfl
 | g :: gs, a :: al, h => by simp only [List.length_cons, GsAt.length h.2]
 | [], _ :: _, h => h.elim
 | _ :: _, [], h => h.elim
theorem GsAt.keep {W W' : World} {base : Nat} {τ τ' : Nat → Nat} (hs : W.heap.size ≤ W'.heap.size) : ∀ {gs : List GS} {al : List Nat}, GsAt W base τ gs al →
  (∀ k, base ≤ k → k < W.heap.size → (τ k = 0 ∨ (10 ≤ τ k ∧ τ k < 10 + 4 * gs.length)) → W'.heap[k]? = W.heap[k]? ∧ τ' k = τ k) → GsAt W' base τ' gs al
 | [], [], _, _ => trivial
 | g :: gs, a :: al, h, hm => by
  obtain ⟨⟨V, U, b, ds, us, hg⟩, hr⟩ := h
  refine ⟨⟨V, U, b, ds, us, hg.keep hs (fun k h1 h2 h3 => hm k h1 h2 ?_)⟩, GsAt.keep hs hr (fun k h1 h2 h3 => hm k h1 h2 ?_)⟩
  ·rcases h3 with h3 | ⟨j, hj, h3⟩
   ·exact .inl h3
   ·refine .inr ?_
    simp only [List.length_cons, h3, tg]; omega
  ·rcases h3 with h3 | h3
   ·exact .inl h3
   ·refine .inr ?_
    simp only [List.length_cons]; omega
 | [], _ :: _, h, _ => h.elim
 | _ :: _, [], h, _ => h.elim
/-- which groups have ended, in memory -/
def EndAt (W : World) (mb : Nat) (ended : List Int) : Prop := ∃ (n : Nat) (D : DataW Unit), W.ownsMap Tryz.prog 3 (plainElem Tryz.prog 3) mb n D ∧ n ≤ ended.length ∧ Maps.IsMap D ∧
 ∀ q : Int, (Lit.int .i64 q).wf = true → ∃ x : Int, D.atKey (.int .i64 q) (.lit (.int .i64 0)) = .lit (.int .i64 x) ∧ (x = 0 ↔ q ∉ ended)
theorem EndAt.move {W W' : World} {mb : Nat} {ended : List Int} (h : EndAt W mb ended) (hm : W'.heap[mb]? = W.heap[mb]?) : EndAt W' mb ended := by
 obtain ⟨n, D, ⟨es, clock, hb, hr⟩, h2⟩ := h
 exact ⟨n, D, ⟨es, clock, hm.trans hb, hr⟩, h2⟩
theorem keyLaw : Maps.Keyed Tryz.prog 3 := Maps.int_keyed Tryz.underlying3
theorem zeroE (w : World) : (zeroValue 3).run Tryz.prog w = .ok (.int .i64 0) w := by kernel_rfl
theorem wf64 {q : Int} (h0 : -9223372036854775808 ≤ q) (h1 : q ≤ 9223372036854775807) : (Lit.int .i64 q).wf = true := WalkArith.wf_i64 ⟨h0, h1⟩
theorem EndAt.look {W : World} {mb : Nat} {ended : List Int} (h : EndAt W mb ended) {q : Int} (h0 : -9223372036854775808 ≤ q) (h1 : q ≤ 9223372036854775807) :
  ∃ x : Int, (Instr.lookup 88 (.map (some mb)) (.int .i64 q) false).run Tryz.prog W = .ok (.int .i64 x) W ∧ (x = 0 ↔ q ∉ ended) := by
 obtain ⟨n, D, hown, hn, _, hD⟩ := h
 obtain ⟨c, hrun, hat, _⟩ := hown.lookup_int keyLaw Tryz.underlying88 Tryz.underlying3 (zeroE _) (key := .int .i64 q) (Maps.keyOf_int_mk Tryz.underlying3 (wf64 h0 h1))
 obtain ⟨x, hx, hi⟩ := hD q (wf64 h0 h1)
 rw [hx] at hat
 cases hat
 exact ⟨_, hrun, hi⟩
theorem EndAt.put {W : World} {mb : Nat} {ended : List Int} (h : EndAt W mb ended) {q x : Int} (h0 : -9223372036854775808 ≤ q) (h1 : q ≤ 9223372036854775807) (g0 : -9223372036854775808 ≤ x) (g1 : x ≤ 9223372036854775807) (hx : x ≠ 0) (hl : ended.length < 100000) :
  ∃ W', (Instr.mapUpdate 88 (.map (some mb)) (.int .i64 q) (.int .i64 x)).run Tryz.prog W = .ok () W' ∧ EndAt W' mb (q :: ended) ∧ W.grownBy W' (some mb) := by
 obtain ⟨n, D, hown, hn, hm, hD⟩ := h
 obtain ⟨W', hrun, hown', hg⟩ := hown.update keyLaw Tryz.underlying88 (by unfold maxLen; omega) (key := .int .i64 q) (Maps.keyOf_int_mk Tryz.underlying3 (wf64 h0 h1)) (plainElem_int Tryz.underlying3 (wf64 g0 g1))
 refine ⟨W', hrun, ⟨n + 1, _, hown', by simp only [List.length_cons]; omega, hm.put _ _, fun y hy => ?_⟩, hg⟩
 by_cases e : y = q
 ·subst e
  refine ⟨x, Maps.atKey_put_same hm ?_ _ _, by simp [hx]⟩
  exact trivial
 ·obtain ⟨z, hz, hi⟩ := hD y hy
  refine ⟨z, (Maps.atKey_put_other (by intro h; cases h; exact e rfl) _ _).trans hz, by rw [hi]; simp [e]⟩
def grP (a : Nat) : Value := .pointer (some ⟨a, 0, none⟩)
/-- what puts a tree together, in memory -/
structure MkAt (W : World) (base : Nat) (τ : Nat → Nat) (B : Nat) (m : MS) (al : List Nat) (O : Value) (mb : Nat) : Prop where
 tB : τ B = 1
 lB : base ≤ B
 tO : ∀ k, O.ownBlock = some k → τ k = 2
 tm : τ mb = 3
 lm : base ≤ mb
 hB : W.heap[B]? = some (.cells #[O, .int .i64 m.many, .map (some mb)] 91 (0, 0))
 hO : W.ownsRow base 99 1 O (m.below.length + 1) (al.reverse.map grP)
 hm : EndAt W mb m.ended
 gs : GsAt W base τ (m.top :: m.below) al
/-- a step of it -/
structure MkStp (W W' : World) (base : Nat) (τ τ' : Nat → Nat) : Prop where
 os : W'.os = W.os
 tape : W'.tape = W.tape
 output : W'.output = W.output
 size : W.heap.size ≤ W'.heap.size
 block : ∀ k, k < W.heap.size → (k < base ∨ τ k = 0) → W'.heap[k]? = W.heap[k]?
 zero : ∀ k, base ≤ k → k < W.heap.size → τ k = 0 → τ' k = 0
theorem MkStp.refl (W : World) (base : Nat) (τ : Nat → Nat) : MkStp W W base τ τ := ⟨rfl, rfl, rfl, Nat.le_refl _, fun _ _ _ => rfl, fun _ _ _ h => h⟩
theorem MkStp.trans {A B C : World} {base : Nat} {τ τ' τ'' : Nat → Nat} (h : MkStp A B base τ τ') (h' : MkStp B C base τ' τ'') : MkStp A C base τ τ'' :=
 ⟨h'.os.trans h.os, h'.tape.trans h.tape, h'.output.trans h.output, Nat.le_trans h.size h'.size, fun k hk hb => (h'.block k (Nat.lt_of_lt_of_le hk h.size) (by
  rcases Nat.lt_or_ge k base with h1 | h1
  ·exact .inl h1
  ·exact .inr (h.zero k h1 hk (hb.resolve_left (by omega))))).trans (h.block k hk hb), fun k h1 hk hz => h'.zero k h1 (Nat.lt_of_lt_of_le hk h.size) (h.zero k h1 hk hz)⟩
theorem MkStp.of_below {W W' : World} {base : Nat} {τ : Nat → Nat} (h : Below W.heap.size W W') : MkStp W W' base τ τ := ⟨h.os, h.tape, h.output, h.size, fun k hk _ => h.block k hk, fun _ _ _ h => h⟩
theorem MkStp.below {W W' : World} {base : Nat} {τ τ' : Nat → Nat} (h : MkStp W W' base τ τ') (hb : base ≤ W.heap.size) : Below base W W' := ⟨h.os, h.tape, h.output, h.size, fun k hk => h.block k (by omega) (.inl hk)⟩
theorem MkAt.keep {W W' : World} {base : Nat} {τ : Nat → Nat} {B : Nat} {m : MS} {al : List Nat} {O : Value} {mb : Nat} (h : MkAt W base τ B m al O mb) (hb : Below W.heap.size W W') : MkAt W' base τ B m al O mb := by
 obtain ⟨n, D, hown, _⟩ := h.hm
 exact ⟨h.tB, h.lB, h.tO, h.tm, h.lm, (hb.block B (Array.getElem?_eq_some_iff.1 h.hB).1).trans h.hB, ownMove h.hO (fun k hk => hb.block k (ownLt h.hO k hk).2), h.hm.move (hb.block mb hown.lt), h.gs.keep hb.size (fun k _ hk _ => ⟨hb.block k hk, rfl⟩)⟩
end Go.Proofs.YtamhkdlcoghdbaaGreatDoor.PCls
/- Out of Pe (wip/tools/prune2.py): the declarations alone that the texts of the trees name. -/
namespace Go.Proofs.YtamhkdlcoghdbaaGreatDoor.PCls
open Go.RowKit Go.Shelf Go.Proofs.YtamhkdlcoghdbaaGreatDoorW.PrintWords Go.Proofs.YtamhkdlcoghdbaaGreatDoorW.PrintLast Go.Proofs.YtamhkdlcoghdbaaGreatDoorW.PrintMore
set_option linter.unusedVariables false
set_option linter.unusedSimpArgs false
/-- nothing has turned but what belongs to the innermost group -/
structure TopOnly (W W' : World) (base : Nat) (τ τ' : Nat → Nat) (d : Nat) : Prop where
 os : W'.os = W.os
 tape : W'.tape = W.tape
 output : W'.output = W.output
 size : W.heap.size ≤ W'.heap.size
 low : ∀ k, k < W.heap.size → k < base → W'.heap[k]? = W.heap[k]?
 keep : ∀ k, base ≤ k → k < W.heap.size → (τ k ≤ 3 ∨ (10 ≤ τ k ∧ τ k < 10 + 4 * d)) → W'.heap[k]? = W.heap[k]? ∧ τ' k = τ k
theorem MkAt.retop {W W' : World} {base : Nat} {τ τ' : Nat → Nat} {B : Nat} {m : MS} {a : Nat} {al : List Nat} {O : Value} {mb : Nat} (h : MkAt W base τ B m (a :: al) O mb) (hf : TopOnly W W' base τ τ' m.below.length) (g : GS) (ht : ∃ V U b ds us, GAt W' base τ' m.below.length g a V U b ds us) :
  MkAt W' base τ' B { m with top := g } (a :: al) O mb ∧ MkStp W W' base τ τ' := by
 have lt : ∀ {k : Nat} {o : Obj}, W.heap[k]? = some o → k < W.heap.size := fun h => (Array.getElem?_eq_some_iff.1 h).1
 have hm := h.hm
 obtain ⟨n, D, hown, _⟩ := hm
 have kB := hf.keep B h.lB (lt h.hB) (.inl (by rw [h.tB]; decide))
 have km := hf.keep mb h.lm hown.lt (.inl (by rw [h.tm]; decide))
 have kO : ∀ k, O.ownBlock = some k → W'.heap[k]? = W.heap[k]? ∧ τ' k = τ k := fun k hk => hf.keep k (ownLt h.hO k hk).1 (ownLt h.hO k hk).2 (.inl (by rw [h.tO k hk]; decide))
 refine ⟨⟨kB.2.trans h.tB, h.lB, fun k hk => (kO k hk).2.trans (h.tO k hk), km.2.trans h.tm, h.lm, kB.1.trans h.hB, ownMove h.hO (fun k hk => (kO k hk).1), h.hm.move km.1, ht, h.gs.2.keep hf.size (fun k h1 h2 h3 => hf.keep k h1 h2 ?_)⟩, ⟨hf.os, hf.tape, hf.output, hf.size, fun k hk hb => ?_, fun k hlb hk hz => ?_⟩⟩
 ·rcases h3 with h3 | h3
  ·exact .inl (by omega)
  ·exact .inr h3
 ·rcases Nat.lt_or_ge k base with hlb | hlb
  ·exact hf.low k hk hlb
  ·rcases hb with hb | hb
   ·omega
   ·exact (hf.keep k hlb hk (.inl (by omega))).1
 ·exact (hf.keep k hlb hk (.inl (by omega))).2.trans hz
theorem blk_lt {W : World} {k : Nat} {o : Obj} (h : W.heap[k]? = some o) : k < W.heap.size := (Array.getElem?_eq_some_iff.1 h).1
/-- a part more: the branch's row has been appended to, the branch's slice written -/
theorem put_mem {W X W4 : World} {base : Nat} {τ : Nat → Nat} {B : Nat} {m : MS} {a : Nat} {al : List Nat} {O : Value} {mb : Nat} (h : MkAt W base τ B m (a :: al) O mb) {V U : Value} {b : Nat} {ds us : List Value} (ht : GAt W base τ m.below.length m.top a V U b ds us) (hbase : base ≤ W.heap.size)
  {p : PT} {v U' : Value} (hp : PIn W (Fz W base τ) p v) (hX : Below W.heap.size W X) (hg : X.grownBy W4 U.ownBlock) (hown : W4.ownsRow base 155 1 U' (m.top.cur.length + 1) (us ++ [v])) (hat : U'.ownBlock = U.ownBlock ∨ U'.ownBlock = some X.heap.size) :
  ∃ τ', MkAt (W4.setCell ⟨b, 0, none⟩ U') base τ' B (m.put p) (a :: al) O mb ∧ MkStp W (W4.setCell ⟨b, 0, none⟩ U') base τ τ' := by
 have la := blk_lt ht.ha
 have lb := blk_lt ht.hb
 have hsz := hX.size
 have hsg := hg.size
 have hfr : ∀ k, k < W.heap.size → k ≠ b → some k ≠ U.ownBlock → (W4.setCell ⟨b, 0, none⟩ U').heap[k]? = W.heap[k]? := fun k hk hkb hkU => (Below.heap_setCell W4 ⟨b, 0, none⟩ U' k hkb).trans ((hg.block k (by omega) hkU).trans (hX.block k hk))
 obtain ⟨τ', hτ⟩ : ∃ τ' : Nat → Nat, τ' = fun k => if U'.ownBlock = some k then tg m.below.length 3 else τ k := ⟨_, rfl⟩
 have hτs : ∀ k, k < W.heap.size → τ' k = τ k := fun k hk => by
  rw [hτ]
  simp only
  split
  ·rename_i e
   rcases hat with h1 | h1
   ·rw [h1] at e; exact (ht.tU k e).symm
   ·rw [h1] at e; cases e; omega
  ·rfl
 have hnU : ∀ k, (∀ j, τ k = tg m.below.length j → j ≠ 3) → some k ≠ U.ownBlock := fun k hk e => hk 3 (ht.tU k e.symm) rfl
 have tgi : ∀ i j, tg m.below.length i = tg m.below.length j → i = j := fun i j e => by simp only [tg] at e; omega
 have hUb : U.ownBlock ≠ some b := fun e => by have := ht.tU b e; rw [ht.tb] at this; have := tgi _ _ this; omega
 have hU'b : U'.ownBlock ≠ some b := fun e => by
  rcases hat with h1 | h1
  ·rw [h1] at e; exact hUb e
  ·rw [h1] at e; cases e; omega
 have hb4 : W4.heap[b]? = some (.cells #[U] 151 (0, 0)) := (hg.block b (by omega) (fun e => hUb e.symm)).trans ((hX.block b lb).trans ht.hb)
 have hTop : TopOnly W (W4.setCell ⟨b, 0, none⟩ U') base τ τ' m.below.length := by
  refine ⟨hg.os.trans hX.os, hg.tape.trans hX.tape, hg.output.trans hX.output, by simp [World.setCell]; omega, fun k hk hkb => hfr k hk (by have := ht.lb; omega) (fun e => by have := (ownLt ht.hU k e.symm).1; omega), fun k h1 h2 h3 => ⟨hfr k h2 (fun e => ?_) (fun e => ?_), hτs k h2⟩⟩
  ·subst e; rw [ht.tb] at h3; simp only [tg] at h3; omega
  ·rw [ht.tU k e.symm] at h3; simp only [tg] at h3; omega
 have hz : ∀ k, Fz W base τ k → (W4.setCell ⟨b, 0, none⟩ U').heap[k]? = W.heap[k]? := fun k hk => (hTop.keep k hk.1 hk.2.1 (.inl (by rw [hk.2.2]; decide))).1
 have hz2 : ∀ k, Fz W base τ k → Fz (W4.setCell ⟨b, 0, none⟩ U') base τ' k := fun k hk => ⟨hk.1, Nat.lt_of_lt_of_le hk.2.1 hTop.size, (hτs k hk.2.1).trans hk.2.2⟩
 have hVne : ∀ k, V.ownBlock = some k → k ≠ b ∧ some k ≠ U.ownBlock := fun k hk => ⟨fun e => by have h1 := ht.tV k hk; rw [e, ht.tb] at h1; have := tgi _ _ h1; omega, fun e => by have h1 := ht.tV k hk; rw [ht.tU k e.symm] at h1; have := tgi _ _ h1; omega⟩
 have hU5 : (W4.setCell ⟨b, 0, none⟩ U').ownsRow base 155 1 U' (m.top.put p).cur.length (us ++ [v]) := by
  have e : (m.top.put p).cur.length = m.top.cur.length + 1 := by simp [GS.put]
  rw [e]
  exact ownMove hown (fun k hk => Below.heap_setCell W4 ⟨b, 0, none⟩ U' k (fun e => hU'b (by rw [hk]; exact congrArg some e)))
 obtain ⟨h1, h2⟩ := h.retop hTop (m.top.put p) ⟨V, U', b, ds, us ++ [v], (hτs a la).trans ht.ta, (hτs b lb).trans ht.tb, fun k hk => (hτs k (ownLt ht.hV k hk).2).trans (ht.tV k hk), fun k hk => by rw [hτ]; simp only [if_pos hk], ht.la, ht.lb, (hfr a la (fun e => by have h1 := ht.ta; rw [e, ht.tb] at h1; have := tgi _ _ h1; omega) (fun e => by have h1 := ht.tU a e.symm; rw [ht.ta] at h1; have := tgi _ _ h1; omega)).trans ht.ha, ownMove ht.hV (fun k hk => hfr k (ownLt ht.hV k hk).2 (hVne k hk).1 (hVne k hk).2), set_blk hb4 0 U', hU5, ht.pd.move hz hz2, (ht.pu.move hz hz2).snoc ((hp.move hz).mono hz2)⟩
 exact ⟨τ', h1, h2⟩
theorem PIn.form {w : World} {P : Nat → Prop} {p : PT} {v : Value} (h : PIn w P p v) : ∃ ty x, v = .iface ty x := by
 cases h <;> exact ⟨_, _, rfl⟩
/-- a sign of how often: the last part is another -/
theorem rep_mem {W X : World} {base : Nat} {τ : Nat → Nat} {B : Nat} {m : MS} {a : Nat} {al : List Nat} {O : Value} {mb : Nat} (h : MkAt W base τ B m (a :: al) O mb) {V : Value} {u n c : Nat} {b : Nat} {ds us : List Value} (ht : GAt W base τ m.below.length m.top a V (.slice (some ⟨u, 0, none⟩) n c) b ds us) (hbase : base ≤ W.heap.size)
  (hn : n = m.top.cur.length) (hl : m.top.cur ≠ []) {p : PT} {lo hi : Int} (hlast : m.top.cur.getLast? = some p) (hX : Below W.heap.size W X) :
  ∃ v, X.cell? ⟨u, n - 1, none⟩ = some v ∧ (∃ ty x, v = .iface ty x) ∧ ∃ τ', MkAt (X.setCell ⟨u, n - 1, none⟩ (ofV v lo hi)) base τ' B (m.rep p lo hi) (a :: al) O mb ∧ MkStp W (X.setCell ⟨u, n - 1, none⟩ (ofV v lo hi)) base τ τ' := by
 have la := blk_lt ht.ha
 have lb := blk_lt ht.hb
 have hsz := hX.size
 have tgi : ∀ i j, tg m.below.length i = tg m.below.length j → i = j := fun i j e => by simp only [tg] at e; omega
 have h0 : 0 < m.top.cur.length := List.length_pos_iff.2 hl
 have tu := ht.tU u rfl
 obtain ⟨v, hv, hpv⟩ := ht.pu.2 (m.top.cur.length - 1) p (by rw [← List.getLast?_eq_getElem?]; exact hlast)
 have hownX : X.ownsRow base 155 1 (.slice (some ⟨u, 0, none⟩) n c) n us := by
  rw [hn]
  exact ownMove (by rw [← hn]; exact hn ▸ ht.hU) (fun k hk => hX.block k (ownLt ht.hU k hk).2)
 obtain ⟨cur, hcur, _, htk, _, _⟩ := own_block hownX
 have hcell : X.cell? ⟨u, n - 1, none⟩ = some v := by
  rw [← htk, ← hn, List.getElem?_take] at hv
  split at hv
  ·exact lk_cell hcur (by simpa using hv)
  ·cases hv
 refine ⟨v, hcell, hpv.form, ?_⟩
 have hfr : ∀ k, k < W.heap.size → k ≠ u → (X.setCell ⟨u, n - 1, none⟩ (ofV v lo hi)).heap[k]? = W.heap[k]? := fun k hk hku => (Below.heap_setCell X ⟨u, n - 1, none⟩ _ k hku).trans (hX.block k hk)
 have hTop : TopOnly W (X.setCell ⟨u, n - 1, none⟩ (ofV v lo hi)) base τ τ m.below.length := by
  refine ⟨hX.os, hX.tape, hX.output, by simp [World.setCell]; omega, fun k hk hkb => hfr k hk (fun e => by have := (ownLt ht.hU u rfl).1; omega), fun k h1 h2 h3 => ⟨hfr k h2 (fun e => ?_), rfl⟩⟩
  subst e; rw [tu] at h3; simp only [tg] at h3; omega
 have hz : ∀ k, Fz W base τ k → (X.setCell ⟨u, n - 1, none⟩ (ofV v lo hi)).heap[k]? = W.heap[k]? := fun k hk => (hTop.keep k hk.1 hk.2.1 (.inl (by rw [hk.2.2]; decide))).1
 have hz2 : ∀ k, Fz W base τ k → Fz (X.setCell ⟨u, n - 1, none⟩ (ofV v lo hi)) base τ k := fun k hk => ⟨hk.1, Nat.lt_of_lt_of_le hk.2.1 hTop.size, hk.2.2⟩
 have hne : ∀ k j, τ k = tg m.below.length j → j ≠ 3 → k ≠ u := fun k j h1 h2 e => by rw [e, tu] at h1; exact h2 (tgi _ _ h1).symm
 have hU5 : (X.setCell ⟨u, n - 1, none⟩ (ofV v lo hi)).ownsRow base 155 1 (.slice (some ⟨u, 0, none⟩) n c) (m.top.cur.dropLast ++ [PT.often p lo hi]).length (us.set (n - 1) (ofV v lo hi)) := by
  have e : (m.top.cur.dropLast ++ [PT.often p lo hi]).length = n := by simp; omega
  rw [e]
  exact own_set hownX (n - 1) (ofV v lo hi)
 have hP5 : PsIn (X.setCell ⟨u, n - 1, none⟩ (ofV v lo hi)) (Fz (X.setCell ⟨u, n - 1, none⟩ (ofV v lo hi)) base τ) (m.top.cur.dropLast ++ [PT.often p lo hi]) (us.set (n - 1) (ofV v lo hi)) := by
  have h9 := (ht.pu.move hz hz2).last hl (.often p lo hi v ((hpv.move hz).mono hz2))
  rwa [← hn] at h9
 obtain ⟨h1, h2⟩ := h.retop hTop { m.top with cur := m.top.cur.dropLast ++ [.often p lo hi] } ⟨V, .slice (some ⟨u, 0, none⟩) n c, b, ds, us.set (n - 1) (ofV v lo hi), ht.ta, ht.tb, ht.tV, ht.tU, ht.la, ht.lb, (hfr a la (hne a 0 ht.ta (by decide))).trans ht.ha, ownMove ht.hV (fun k hk => hfr k (ownLt ht.hV k hk).2 (hne k 2 (ht.tV k hk) (by decide))), (hfr b lb (hne b 1 ht.tb (by decide))).trans ht.hb, hU5, ht.pd.move hz hz2, hP5⟩
 exact ⟨τ, h1, h2⟩
end Go.Proofs.YtamhkdlcoghdbaaGreatDoor.PCls
