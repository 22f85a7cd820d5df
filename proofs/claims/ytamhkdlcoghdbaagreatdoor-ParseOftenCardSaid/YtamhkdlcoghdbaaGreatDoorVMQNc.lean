/- Put together (wip/tools/pack.py): QNc, QPo, QPp, QNq. -/
import Derived.Test.YtamhkdlcoghdbaaGreatDoorVMQPn
/- Out of Nc (wip/tools/prune2.py): the declarations alone that the texts of the trees name. -/
namespace Go.Proofs.YtamhkdlcoghdbaaGreatDoor.PCls
open Go.RowKit Go.Shelf Go.Proofs.YtamhkdlcoghdbaaGreatDoorW.PrintWords Go.Proofs.YtamhkdlcoghdbaaGreatDoorW.PrintLast Go.Proofs.YtamhkdlcoghdbaaGreatDoorW.PrintMore
set_option linter.unusedVariables false
set_option linter.unusedSimpArgs false
/-- a slice that owns a row of trees (from rb on); what is behind them lies in blocks of P, in no row of the slice's -/
def TreesP (W : World) (rb : Nat) (P : Nat → Prop) (v : Value) (l : List NT) : Prop :=
 ∃ cs : Nat → List Value, (∀ i, i < l.length → (cs i).length = 6) ∧ W.ownsRow rb 43 6 v l.length (flat6 cs l.length) ∧ ∀ i t, l[i]? = some t → NIn W (fun b => P b ∧ b < W.heap.size ∧ some b ≠ v.ownBlock) t (cs i)
theorem TreesAt.p {W : World} {base : Nat} {V : Value} {l : List NT} (h : TreesAt W base V l) : TreesP W base (base ≤ ·) V l := h
theorem TreesP.at_ {W : World} {base : Nat} {V : Value} {l : List NT} (h : TreesP W base (base ≤ ·) V l) : TreesAt W base V l := h
theorem TreesP.nil (W : World) (rb : Nat) (P : Nat → Prop) : TreesP W rb P (.slice none 0 0) [] := ⟨fun _ => [], fun i h => by simp at h, ⟨rfl, .inl ⟨rfl, rfl⟩⟩, fun i t h => by simp at h⟩
theorem TreesP.form {W : World} {rb : Nat} {P : Nat → Prop} {V : Value} {l : List NT} (h : TreesP W rb P V l) : ∃ A c, V = .slice A l.length c := by
 obtain ⟨cs, _, h2, _⟩ := h
 rcases h2.2 with ⟨e, e0⟩ | ⟨g, cap, cur, e, _⟩
 ·exact ⟨none, 0, by rw [e, e0]⟩
 ·exact ⟨_, _, e⟩
theorem TreesP.own {W : World} {rb : Nat} {P : Nat → Prop} {V : Value} {l : List NT} (h : TreesP W rb P V l) : ∀ k, V.ownBlock = some k → rb ≤ k ∧ k < W.heap.size := by
 obtain ⟨cs, _, h2, _⟩ := h
 exact fun k hk => h2.lt k hk
theorem TreesP.below {A B : World} {rb : Nat} {P : Nat → Prop} {v : Value} {l : List NT} (h : TreesP A rb P v l) (hb : Below A.heap.size A B) : TreesP B rb P v l := by
 obtain ⟨cs, h1, h2, h3⟩ := h
 exact ⟨cs, h1, own_move h2 (fun k hk => hb.block k (h2.lt k hk).2), fun i t ht => ((h3 i t ht).move (fun b hb' => hb.block b hb'.2.1)).mono (fun b hb' => ⟨hb'.1, Nat.lt_of_lt_of_le hb'.2.1 hb.size, hb'.2.2⟩)⟩
/-- the cells of a tree of a row -/
theorem TreesP.at {W : World} {rb : Nat} {P : Nat → Prop} {A : Option Addr} {n c : Nat} {l : List NT} (h : TreesP W rb P (.slice A n c) l) (hn : l.length = n) (j : Nat) (t : NT) (hj : l[j]? = some t) :
  ∃ g cs, A = some ⟨g, 0, none⟩ ∧ g < W.heap.size ∧ NIn W (fun b => P b ∧ b < W.heap.size) t cs ∧ ∀ i u, cs[i]? = some u → W.cell? ⟨g, j * 6 + i, none⟩ = some u := by
 obtain ⟨cs, h1, h2, h3⟩ := h
 have hjl := (List.getElem?_eq_some_iff.1 hj).1
 have hN := h3 j t hj
 rcases h2.2 with ⟨_, e0⟩ | ⟨g, cap, cur, e, hb, hg, hcl, hcm, hcs, htk⟩
 ·omega
 ·simp only [Value.slice.injEq] at e
  obtain ⟨rfl, hn2, rfl⟩ := e
  refine ⟨g, cs j, rfl, (Array.getElem?_eq_some_iff.1 hg).1, hN.mono (fun b hb => ⟨hb.1, hb.2.1⟩), fun i u hu => ?_⟩
  have hi : i < 6 := by have := (List.getElem?_eq_some_iff.1 hu).1; rw [h1 j hjl] at this; exact this
  have h4 := flat6_at cs l.length h1 j hjl i hi
  rw [hu, ← htk] at h4
  rw [List.getElem?_take] at h4
  split at h4
  ·exact cell_heap hg (by simpa using h4)
  ·cases h4
/-- the row as the Kids of a node -/
theorem TreesP.kids {W : World} {rb : Nat} {P P' : Nat → Prop} {A : Option Addr} {c : Nat} {l : List NT} (h : TreesP W rb P (.slice A l.length c) l) (hP : ∀ b, P b → b < W.heap.size → P' b) (hR : ∀ b, rb ≤ b → b < W.heap.size → P' b) (hl : l.length < 1099511627776) (k m lo hi : Int) :
  NIn W P' (.mk k m lo hi [] l) [.int .i64 k, .int .i64 m, .int .i64 lo, .int .i64 hi, .slice none 0 0, .slice A l.length c] := by
 obtain ⟨cs, h1, h2, h3⟩ := h
 rcases h2.2 with ⟨e, e0⟩ | ⟨g, cap, cur, e, hb, hg, hcl, hcm, hcs, htk⟩
 ·simp only [Value.slice.injEq] at e
  obtain ⟨rfl, _, rfl⟩ := e
  have : l = [] := List.length_eq_zero_iff.1 e0
  subst this
  exact NIn.mk k m lo hi [] [] none none 0 0 (fun _ => []) ⟨rfl, by simp, fun h => by simp at h⟩ (fun ad e => by cases e) (by simp) (by simp) rfl (by simp) (by simp) (fun j t h => by simp at h) (fun j h => by simp at h)
 ·simp only [Value.slice.injEq] at e
  obtain ⟨rfl, _, rfl⟩ := e
  have hgl := (Array.getElem?_eq_some_iff.1 hg).1
  refine NIn.mk k m lo hi [] l none (some ⟨g, 0, none⟩) 0 c cs ⟨rfl, by simp, fun h => by simp at h⟩ (fun ad e => by cases e) (by simp) (by simp) rfl hcl hl (fun j t ht => (h3 j t ht).mono (fun b hb => hP b hb.1 hb.2.1)) (fun j hj => ⟨⟨g, 0, none⟩, rfl, hR g hb hgl, fun i u hu => ?_⟩)
  have hi : i < 6 := by have := (List.getElem?_eq_some_iff.1 hu).1; rw [h1 j hj] at this; exact this
  have h4 := flat6_at cs l.length h1 j hj i hi
  rw [hu, ← htk] at h4
  rw [add_plain]
  rw [List.getElem?_take] at h4
  split at h4
  ·exact cell_heap hg (by simpa using h4)
  ·cases h4
/-- a tree more -/
theorem TreesP.snoc {W0 X : World} {rb : Nat} {P : Nat → Prop} {V : Value} {out : List NT} (h0 : TreesP W0 rb P V out) (hb0 : Below W0.heap.size W0 X) (hbase : rb ≤ W0.heap.size) (hlen : out.length < 1000000000) (ad : Addr) (t : NT) (c : List Value)
  (hz : ∀ j u, c[j]? = some u → X.cell? (ad.add j) = some u) (hN : NIn X (fun b => P b ∧ b < X.heap.size ∧ some b ≠ V.ownBlock) t c) :
  ∃ (v' : Value) (W : World), (Builtin.append_ #[41, 41] 41 #[V, .slice (some ad) 1 1]).run Tryz.prog X = .ok v' W ∧ TreesP W rb P v' (out ++ [t]) ∧ X.grownBy W V.ownBlock ∧ (v'.ownBlock = V.ownBlock ∨ v'.ownBlock = some X.heap.size) := by
 obtain ⟨i0, hi, hz0, hz1, hz2⟩ := info_parts info44
 obtain ⟨cs, h1, h2, h3⟩ := h0
 have h2X : X.ownsRow rb 43 6 V out.length (flat6 cs out.length) := own_move h2 (fun k hk => hb0.block k (h2.lt k hk).2)
 obtain ⟨v', W, hrun, hown, hgrow, hnil, hat⟩ := run_append_own_at X rb 41 41 43 i0 _ 6 80 Tryz.underlying41 hi hz0 hz1 hz2 rfl (by decide) V out.length (flat6 cs out.length) h2X ad 1 1 c hN.len hz hN.one (by unfold maxLen; omega) (by omega) (by have := hb0.size; omega)
 have hV : ∀ k, V.ownBlock = some k → k < W0.heap.size := fun k hk => (h2.lt k hk).2
 have hne : ∀ k, k < X.heap.size → some k ≠ V.ownBlock → some k ≠ v'.ownBlock := fun k hk hn e => by
  rcases hat with ha | ha
  ·rw [ha] at e; exact hn e
  ·rw [ha] at e; cases e; omega
 have hgs := hgrow.size
 refine ⟨v', W, hrun, ⟨fun j => if j = out.length then c else cs j, ?_, ?_, ?_⟩, hgrow, hat⟩
 ·intro j hj
  simp only
  split
  ·exact hN.len
  ·rw [List.length_append, List.length_singleton] at hj; exact h1 j (by omega)
 ·rw [List.length_append, List.length_singleton]
  show W.ownsRow rb 43 6 v' (out.length + 1) (flat6 _ out.length ++ _)
  rw [show (fun j => if j = out.length then c else cs j) out.length = c from if_pos rfl, flat6_congr (cs' := cs) out.length (fun i hi => if_neg (by omega))]
  exact hown
 ·intro j u hj
  rcases Nat.lt_or_ge j out.length with hlt | hge
  ·rw [List.getElem?_append_left hlt] at hj
   simp only
   rw [if_neg (by omega)]
   refine ((h3 j u hj).move (fun b hb => ?_)).mono (fun b hb => ⟨hb.1, ?_, hne b (Nat.lt_of_lt_of_le hb.2.1 hb0.size) hb.2.2⟩)
   ·exact (hgrow.block b (Nat.lt_of_lt_of_le hb.2.1 hb0.size) hb.2.2).trans (hb0.block b hb.2.1)
   ·have := hb0.size; have := hb.2.1; omega
  ·have hjl := (List.getElem?_eq_some_iff.1 hj).1
   rw [List.length_append, List.length_singleton] at hjl
   obtain rfl : j = out.length := by omega
   rw [List.getElem?_append_right (Nat.le_refl _), Nat.sub_self] at hj
   obtain rfl : t = u := by simpa using hj
   simp only [if_true]
   exact (hN.move (fun b hb => hgrow.block b hb.2.1 hb.2.2)).mono (fun b hb => ⟨hb.1, by have := hb.2.1; omega, hne b hb.2.1 hb.2.2⟩)
end Go.Proofs.YtamhkdlcoghdbaaGreatDoor.PCls
/- Out of Po (wip/tools/prune2.py): the declarations alone that the texts of the trees name. -/
namespace Go.Proofs.YtamhkdlcoghdbaaGreatDoor.PCls
open Go.RowKit Go.Shelf Go.Proofs.YtamhkdlcoghdbaaGreatDoorW.PrintWords Go.Proofs.YtamhkdlcoghdbaaGreatDoorW.PrintLast Go.Proofs.YtamhkdlcoghdbaaGreatDoorW.PrintMore
set_option linter.unusedVariables false
set_option linter.unusedSimpArgs false
namespace PT
mutual
/-- how large a part is, its leaves reckoned as they are -/
def nsz : PT → Nat
 | .leaf t => t.nodes
 | .often p _ _ => 1 + nsz p
 | .group _ _ c => 1 + nsz c
 | .branch l => 1 + nszL l
 | .choice l => 1 + nszL l
def nszL : List PT → Nat
 | [] => 0
 | p :: l => nsz p + nszL l
end
theorem nsz_mem {l : List PT} {p : PT} (h : p ∈ l) : nsz p ≤ nszL l := by
 induction l with
 | nil => cases h
 | cons a l ih =>
  simp only [nszL]
  rcases List.mem_cons.1 h with rfl | h
  ·omega
  ·have := ih h; omega
theorem nszL_append (a b : List PT) : nszL (a ++ b) = nszL a + nszL b := by
 induction a with
 | nil => simp [nszL]
 | cons p a ih => simp only [List.cons_append, nszL, ih]; omega
theorem psz_nsz (p : PT) : psz p ≤ nsz p := by
 have hL : ∀ l : List PT, (∀ p, p ∈ l → psz p ≤ nsz p) → pszL l ≤ nszL l := by
  intro l
  induction l with
  | nil => intro _; simp [pszL, nszL]
  | cons a l ih =>
   intro h
   have h1 := h a List.mem_cons_self
   have h2 := ih (fun p hp => h p (List.mem_cons_of_mem _ hp))
   simp only [pszL, nszL]; omega
 refine ind (P := fun p => psz p ≤ nsz p) ?_ ?_ ?_ ?_ ?_ p
 ·intro t; have := t.nodes_pos; simp only [psz, nsz]; omega
 ·intro p lo hi ih; simp only [psz, nsz]; omega
 ·intro n pl c ih; simp only [psz, nsz]; omega
 ·intro l ih; have := hL l ih; simp only [psz, nsz]; omega
 ·intro l ih; have := hL l ih; simp only [psz, nsz]; omega
theorem nodesL_le (l : List PT) (h : ∀ p, p ∈ l → p.node.nodes ≤ nsz p) : NT.nodesL (nodes l) ≤ nszL l := by
 induction l with
 | nil => simp [nodes, NT.nodesL, nszL]
 | cons a l ih =>
  have h1 := h a List.mem_cons_self
  have h2 := ih (fun p hp => h p (List.mem_cons_of_mem _ hp))
  simp only [nodes, NT.nodesL, nszL]; omega
theorem node_nodes (p : PT) : p.node.nodes ≤ nsz p := by
 refine ind (P := fun p => p.node.nodes ≤ nsz p) ?_ ?_ ?_ ?_ ?_ p
 ·intro t; simp only [node, nsz]; omega
 ·intro p lo hi ih; simp only [node, nsz, NT.nodes, NT.nodesL]; omega
 ·intro n pl c ih; simp only [node, nsz, NT.nodes, NT.nodesL]; omega
 ·intro l ih; have h1 := nodesL_le l ih; have h2 := catT_nodes (nodes l); simp only [node, nsz]; omega
 ·intro l ih; have h1 := nodesL_le l ih; have h2 := altT_nodes (nodes l); simp only [node, nsz]; omega
theorem nodesL_nsz (l : List PT) : NT.nodesL (nodes l) ≤ nszL l := nodesL_le l fun p _ => node_nodes p
end PT
theorem inv_often (x : Value) (w : World) : (invoke (.fn (.method "dredge/parse.node") #[]) #[.iface 157 x]).run Tryz.prog w = .ok (.enter 270 #[x]) w := by kernel_rfl
theorem inv_leaf (x : Value) (w : World) : (invoke (.fn (.method "dredge/parse.node") #[]) #[.iface 159 x]).run Tryz.prog w = .ok (.enter 271 #[x]) w := by kernel_rfl
theorem inv_group (x : Value) (w : World) : (invoke (.fn (.method "dredge/parse.node") #[]) #[.iface 99 x]).run Tryz.prog w = .ok (.enter 267 #[x]) w := by kernel_rfl
theorem inv_branch (x : Value) (w : World) : (invoke (.fn (.method "dredge/parse.node") #[]) #[.iface 150 x]).run Tryz.prog w = .ok (.enter 269 #[x]) w := by kernel_rfl
theorem inv_choice (x : Value) (w : World) : (invoke (.fn (.method "dredge/parse.node") #[]) #[.iface 101 x]).run Tryz.prog w = .ok (.enter 53 #[x]) w := by kernel_rfl
theorem invoke_run {a : Act} {w : World} {recv : Operand} {nm : String} {v : Value} {f : FuncId} {args : Array Value} {N : Option Tmp} {ty : TypeId} {ps : String} {af : Array Edge} {gd : Option (Nat × Bool)} (hr : a.eval recv = v) (hi : (invoke (.fn (.method nm) #[]) #[v]).run Tryz.prog w = .ok (.enter f args) w) :
  (execOp a.eval ⟨N, .call { callee := .invoke recv nm, args := #[], argTypes := #[] }, ty, ps, af, gd⟩).run Tryz.prog w = .ok (.enter f args) w := by
 subst hr
 unfold execOp
 simp only [resolve, Sem.run_bind, Sem.run_pure, Result.andThen_ok]
 simpa using hi
section
variable {ops : Array Oper} {Q : Exit → Act → World → Prop}
theorem goesI_ {rest : List Oper} {oi : Oper} {a : Act} {w : World} (N : Option Tmp) (hd : oi.dst = N) (hg : oi.guard = none) {f : FuncId} {args : Array Value}
  (hrun : (execOp a.eval oi).run Tryz.prog w = .ok (.enter f args) w)
  (h : Calls Tryz.prog f args w fun e w' => ∃ v, e = .returned v ∧ wpList Tryz.prog ops Q rest (a.put N v) w') : wpList Tryz.prog ops Q (oi :: rest) a w := by
 refine wpList_plain hg fun K hK => ?_
 unfold Oper.wp
 rw [hrun, Oper.upon_enter]
 refine h.mono fun e w'' hh => ?_
 obtain ⟨v, rfl, hk⟩ := hh
 subst hd
 exact hK _ _ hk
end
end Go.Proofs.YtamhkdlcoghdbaaGreatDoor.PCls
/- Out of Pp (wip/tools/prune2.py): the declarations alone that the texts of the trees name. -/
namespace Go.Proofs.YtamhkdlcoghdbaaGreatDoor.PCls
open Go.RowKit Go.Shelf Go.Proofs.YtamhkdlcoghdbaaGreatDoorW.PrintWords Go.Proofs.YtamhkdlcoghdbaaGreatDoorW.PrintLast Go.Proofs.YtamhkdlcoghdbaaGreatDoorW.PrintMore
set_option linter.unusedVariables false
set_option linter.unusedSimpArgs false
theorem nin_six {W : World} {P : Nat → Prop} {t : NT} {cs : List Value} (h : NIn W P t cs) : ∃ (k m lo hi : Int) (ar ak : Option Addr) (lr cr lk ck : Nat), cs = [.int .i64 k, .int .i64 m, .int .i64 lo, .int .i64 hi, .slice ar lr cr, .slice ak lk ck] := by
 cases h; exact ⟨_, _, _, _, _, _, _, _, _, _, rfl⟩
/-- the tree of a part -/
def NdPost (n0 : Nat) (w : World) (t : NT) (e : Ending) (w' : World) : Prop := ∃ cs : List Value, e = .returned (.agg cs.toArray) ∧ NIn w' (fun b => b < n0 ∨ (w.heap.size ≤ b ∧ b < w'.heap.size)) t cs ∧ Below w.heap.size w w'
def NodeOk (n0 : Nat) (p : PT) : Prop := ∀ (v : Value) (w : World), n0 ≤ w.heap.size → PIn w (· < n0) p v → ∃ (f : FuncId) (args : Array Value), (∀ w', (invoke (.fn (.method "dredge/parse.node") #[]) #[v]).run Tryz.prog w' = .ok (.enter f args) w') ∧ Calls Tryz.prog f args w (NdPost n0 w p.node)
/-- the trees of parts -/
def NdsPost (n0 : Nat) (w : World) (l : List PT) (e : Ending) (w' : World) : Prop := ∃ v, e = .returned v ∧ TreesP w' w.heap.size (fun b => b < n0 ∨ w.heap.size ≤ b) v (PT.nodes l) ∧ Below w.heap.size w w'
theorem nodes_take (l : List PT) (j : Nat) (p : PT) (h : l[j]? = some p) : PT.nodes (l.take (j + 1)) = PT.nodes (l.take j) ++ [p.node] := by
 obtain ⟨hj, e⟩ := List.getElem?_eq_some_iff.1 h
 rw [PT.nodes_map, PT.nodes_map, List.take_succ_eq_append_getElem hj, e, List.map_append]; rfl
set_option maxHeartbeats 4000000 in
set_option maxRecDepth 100000 in
theorem nodes_calls (n0 : Nat) (l : List PT) (ih : ∀ p, p ∈ l → NodeOk n0 p) (A : Option Addr) (c : Nat) (vs : Nat → Value) (w : World) (hw : n0 ≤ w.heap.size) (hll : l.length < 1000000)
  (hr : ∀ j, j < l.length → ∃ g, A = some ⟨g, 0, none⟩ ∧ g < n0 ∧ w.cell? ⟨g, j, none⟩ = some (vs j)) (hp : ∀ j p, l[j]? = some p → PIn w (· < n0) p (vs j)) :
  Calls Tryz.prog 108 #[.slice A l.length c] w (NdsPost n0 w l) := by
 have HH := Lib.hid (And.intro ih (And.intro hr hp))
 clear ih hr hp
 go_enter Tryz.func108, Tryz.ntmps108
 go_wp2_with fail
 go_loopg [3, 5, 8] l.length (fun gg s3 s5 s8 wr => ∃ (j : Nat), j ≤ l.length ∧ s8 = .int .i64 j ∧ Aside0 (TreesP wr w.heap.size (fun b => b < n0 ∨ w.heap.size ≤ b) s3 (PT.nodes (l.take j)) ∧ Below w.heap.size w wr) ∧ l.length - j ≤ gg)
 case atStart => exact ⟨0, Nat.zero_le _, rfl, ⟨TreesP.nil _ _ _, Below.refl _ _⟩, by omega⟩
 case round =>
  obtain ⟨j, hj, rfl, HS, hgg⟩ := hrel
  by_cases hlt : j < l.length
  ·obtain ⟨p, hp⟩ : ∃ p, l[j]? = some p := ⟨_, List.getElem?_eq_getElem hlt⟩
   obtain ⟨g, rfl, hg, hcell⟩ := HH.out.2.1 j hlt
   have hin := HH.out.2.2 j p hp
   have hcr : wr.cell? ⟨g, j, none⟩ = some (vs j) := (HS.out.2.cell (p := ⟨g, j, none⟩) (by simp only; omega)).trans hcell
   have hgr : g < wr.heap.size := by have := HS.out.2.size; omega
   obtain ⟨f, args, hinv, hcall⟩ := HH.out.1 p (List.mem_of_getElem? hp) (vs j) wr (Nat.le_trans hw HS.out.2.size) (hin.keep (HS.out.2.mono hw))
   have HT := Lib.hid (nodes_take l j p hp)
   obtain ⟨ty, x, hv⟩ := hin.form
   rw [hv] at hcr hinv
   have HC := Lib.hid (And.intro hinv hcall)
   have hlz : (j : Int) < (l.length : Int) := by omega
   have hj9 : j + 1 < 900000000000000 := by omega
   obtain ⟨A3, c3, rfl⟩ := HS.out.1.form
   clear hp hin hcell hv hinv hcall
   go_wp2_with (refine goesI_ (some 14) rfl rfl (invoke_run rfl (HC.out.1 _)) ?_)
   refine HC.out.2.mono ?_
   rintro e w2 ⟨cs, rfl, hN, hb2⟩
   obtain ⟨kk, m, lo, hi', ar, ak, lr, cr, lk, ck, rfl⟩ := nin_six hN
   have hs1 := HS.out.1.below hb2
   have HB2 := Lib.hid (HS.out.2.trans (hb2.mono HS.out.2.size))
   obtain ⟨v', W5, hrun, hts, hgrow, hat⟩ := TreesP.snoc (X := w2.alloc (.cells #[.int .i64 kk, .int .i64 m, .int .i64 lo, .int .i64 hi', .slice ar lr cr, .slice ak lk ck] 43)) hs1 ((Below.refl _ _).alloc (Nat.le_refl _) _) HB2.out.size (by rw [PT.nodes_length, List.length_take]; omega) ⟨w2.heap.size, 0, none⟩ p.node [.int .i64 kk, .int .i64 m, .int .i64 lo, .int .i64 hi', .slice ar lr cr, .slice ak lk ck]
    (fun i u hu => by
     rw [show (⟨w2.heap.size, 0, none⟩ : Addr).add i = ⟨w2.heap.size, i, none⟩ by unfold Addr.add; split <;> simp_all]
     exact lk_cell (heap_alloc_new w2 _) (by simpa using hu))
    (((hN.move (w' := w2.alloc _) (fun b hb => heap_alloc_old _ _ (by rcases hb with hb | hb; have := HB2.out.size; omega; exact hb.2)))).mono (fun b hb => ⟨by rcases hb with hb | hb; exact .inl hb; exact .inr (Nat.le_trans HS.out.2.size hb.1), by
     have := HB2.out.size
     rcases hb with hb | hb <;> simp <;> omega, fun e => by
     have h1 := HS.out.1.own b e.symm
     rcases hb with hb | hb <;> omega⟩))
   have HRUN := Lib.hid hrun
   have HF := Lib.hid (And.intro hts ((HB2.out.alloc HB2.out.size _).grown hgrow (by have := HB2.out.size; simp; omega) (fun k hk => (HS.out.1.own k hk).1)))
   clear hrun hts hgrow hat hs1 hN hb2 HC hcr
   refine ⟨_, rfl, ?_⟩
   go_wp2_with (at_builtin; refine Lib.wpList_append_run _ rfl _ _ _ _ rfl _ _ rfl rfl _ _ HRUN.out ?_)
   go_roundg (l.length - (j + 1))
   case measure => omega
   case rel => exact ⟨j + 1, hlt, by go_num, ⟨by rw [HT.out]; exact HF.out.1, HF.out.2⟩, Nat.le_refl _⟩
  ·have hlz : ¬ (j : Int) < (l.length : Int) := by omega
   obtain rfl : j = l.length := by omega
   have HF := Lib.hid (show NdsPost n0 w l (.returned u3) wr from ⟨_, rfl, by have h := HS.out.1; rw [List.take_length] at h; exact h, HS.out.2⟩)
   clear HS HH
   go_wp2_with fail
   go_ret
   exact HF.out
end Go.Proofs.YtamhkdlcoghdbaaGreatDoor.PCls
/- Out of Nq (wip/tools/prune2.py): the declarations alone that the texts of the trees name. -/
namespace Go.Proofs.YtamhkdlcoghdbaaGreatDoor.PCls
open Go.RowKit Go.Shelf Go.Proofs.YtamhkdlcoghdbaaGreatDoorW.PrintWords Go.Proofs.YtamhkdlcoghdbaaGreatDoorW.PrintLast Go.Proofs.YtamhkdlcoghdbaaGreatDoorW.PrintMore
set_option linter.unusedVariables false
set_option linter.unusedSimpArgs false
theorem six' {W : World} {P : Nat → Prop} {t : NT} {cs : List Value} (h : NIn W P t cs) : ∃ (m lo hi : Int) (ar ak : Option Addr) (lr cr lk ck : Nat), cs = [.int .i64 t.k, .int .i64 m, .int .i64 lo, .int .i64 hi, .slice ar lr cr, .slice ak lk ck] := by
 cases h; exact ⟨_, _, _, _, _, _, _, _, _, rfl⟩
theorem put6_res {w : World} {g : Nat} {o0 o1 o2 o3 o4 o5 : Value} {t : TypeId} (h : w.heap[g]? = some (.cells #[o0, o1, o2, o3, o4, o5] t (0, 0))) (v0 v1 v2 v3 v4 v5 : Value) : (put6 w g 0 v0 v1 v2 v3 v4 v5).heap[g]? = some (.cells #[v0, v1, v2, v3, v4, v5] t (0, 0)) := by
 unfold put6
 exact set_row (set_row (set_row (set_row (set_row (set_row h _ _) _ _) _ _) _ _) _ _) _ _
/-- what is in the result's block, out of it -/
theorem ret6 {fn : Func} {tmps : Array Value} {w : World} {g : Nat} {v0 v1 v2 v3 v4 v5 : Value} {i : Nat} (hr : fn.results = #[.cell i 43]) (hi : tmps.getD i undef = .pointer (some ⟨g, 0, none⟩)) (h : w.heap[g]? = some (.cells #[v0, v1, v2, v3, v4, v5] 43 (0, 0))) :
  (results fn tmps).run Tryz.prog w = .ok (.agg #[v0, v1, v2, v3, v4, v5]) w := by
 have r0 := cell_heap (i := 0) h rfl
 have r1 := cell_heap (i := 1) h rfl
 have r2 := cell_heap (i := 2) h rfl
 have r3 := cell_heap (i := 3) h rfl
 have r4 := cell_heap (i := 4) h rfl
 have r5 := cell_heap (i := 5) h rfl
 have hi' : tmps[i]?.getD undef = .pointer (some ⟨g, 0, none⟩) := by simpa using hi
 simp only [results, hr]
 simp [hi', go_sem, r0, r1, r2, r3, r4, r5]
end Go.Proofs.YtamhkdlcoghdbaaGreatDoor.PCls
