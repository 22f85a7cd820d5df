/- Put together (wip/tools/pack.py): ZPClsx0, TTree, Rg, Rp, ZShelf. -/
import Derived.Test.YtamhkdlcoghdbaaDoorProg
import Derived.Test.YtamhkdlcoghdbaaDoorKZWp
import Derived.Shelf.SlGeneric
import Derived.Ground.SlsfProg
import Derived.Ground.SlgfProg
import Derived.Ground.SlgcProg
import Derived.Shelf.SlSortCmp.WholeK
import Derived.Shelf.SlicesQ.IndexFunc
import Derived.Shelf.SlicesG.Cmp
/- Out of ZPClsx0 (wip/tools/prune2.py): the declarations alone that the texts of the trees name. -/
namespace Go.Proofs.YtamhkdlcoghdbaaDoor.PCls
open Go.RowKit Go.Proofs.YtamhkdlcoghdbaaDoorW.PrintWords Go.Proofs.YtamhkdlcoghdbaaDoorW.PrintLast Go.Proofs.YtamhkdlcoghdbaaDoorW.PrintMore
attribute [local go_sem] max2_int min2_int max_two min_two max_three min_three max_four min_four   -- for this text's walks alone
set_option linter.unusedVariables false
set_option linter.unusedSimpArgs false
def errW : Option Int → Value
 | none => .nilIface
 | some c => .iface 0 (.int .i64 c)
theorem errW_none : errW none = .nilIface := rfl
theorem errW_some (c : Int) : errW (some c) = .iface 0 (.int .i64 c) := rfl
theorem info64 : (Tryd.prog.info? 50).map (fun i => (i.zero, i.size, i.bytes)) = some (some (.agg #[(.int .i64 0), (.int .i64 0)]), 2, 16) := by kernel_rfl
structure S64 where
 f0 : Int
 f1 : Int
def z64 : S64 := ⟨(0 : Int), (0 : Int)⟩
def k64 : Kd S64 := Kd.iso (Kd.pair (Kd.int .i64) (Kd.int .i64)) (fun x : S64 => (x.f0, x.f1))
theorem k64_open {w : World} {x : S64} {cs : List Value} (h : k64.K w x cs) : cs = [.int .i64 x.f0, .int .i64 x.f1] := by
 obtain ⟨_, _, rfl, rfl, rfl⟩ := h
 exact rfl
theorem k64_openM {w : World} {base : Nat} {ok : Nat → Prop} {x : S64} {cs : List Value} (h : k64.M w base ok x cs) : cs = [.int .i64 x.f0, .int .i64 x.f1] := by
 obtain ⟨_, _, rfl, rfl, rfl⟩ := h
 exact rfl
theorem k64_mk (w : World) (x : S64)  : k64.K w x [.int .i64 x.f0, .int .i64 x.f1] := ⟨[.int .i64 x.f0], [.int .i64 x.f1], rfl, rfl, rfl⟩
theorem k64_mkM (w : World) (base : Nat) (ok : Nat → Prop) (x : S64)  : k64.M w base ok x [.int .i64 x.f0, .int .i64 x.f1] := ⟨[.int .i64 x.f0], [.int .i64 x.f1], rfl, rfl, rfl⟩
def rd_T64 (xs : List S64) (i : Int) : S64 := xs.getD i.toNat z64
theorem at_T64 {w : World} {A : Option Addr} {n : Nat} {xs : List S64} (h : Kd.C k64 w A n xs) (i : Int) (h0 : 0 ≤ i) (h1 : i < n) : ∃ ad , A = some ad ∧ w.cell? (ad.add (i.toNat * 2)) = some (.int .i64 (rd_T64 xs i).f0) ∧ w.cell? ⟨(ad.add (i.toNat * 2)).block, (ad.add (i.toNat * 2)).off + 1, none⟩ = some (.int .i64 (rd_T64 xs i).f1) := by
 obtain ⟨ad, c, e, _, hK, hc0⟩ := Kd.C_get h z64 i h0 h1
 have hc : ∀ j u, c[j]? = some u → w.cell? (ad.add (i.toNat * 2 + j)) = some u := hc0
 obtain rfl := k64_open hK
 exact ⟨ad, e, hc 0 _ rfl, by rw [← add_field _ _ 1 (by omega)]; exact hc 1 _ rfl⟩
theorem rA {α : Type} {d : Kd α} {e : Nat} {w : World} {base : Nat} {ok : Nat → Prop} {v : Value} {xs : List α} (h : d.R e w base ok v xs) (o : Obj) : d.R e (w.alloc o) base ok v xs := Kd.R_alloc h o
theorem rN {α : Type} {d : Kd α} {e : Nat} {w : World} {base : Nat} {ok : Nat → Prop} {v : Value} {xs : List α} (h : d.R e w base ok v xs) (m : Nat) : d.R e (w.drewN m) base ok v xs := Kd.R_drewN h m
theorem rD {α : Type} {d : Kd α} {e : Nat} {w : World} {base : Nat} {ok : Nat → Prop} {v : Value} {xs : List α} (h : d.R e w base ok v xs) : d.R e w.drew base ok v xs := Kd.R_drew h
theorem qA {α : Type} {d : Kd α} {e : Nat} {w : World} {base : Nat} {ok : Nat → Prop} {v : Value} {xs : List α} (h : d.Q e w base ok v xs) (o : Obj) : d.Q e (w.alloc o) base ok v xs := Kd.Q_alloc h o
theorem qN {α : Type} {d : Kd α} {e : Nat} {w : World} {base : Nat} {ok : Nat → Prop} {v : Value} {xs : List α} (h : d.Q e w base ok v xs) (m : Nat) : d.Q e (w.drewN m) base ok v xs := Kd.Q_drewN h m
theorem qD {α : Type} {d : Kd α} {e : Nat} {w : World} {base : Nat} {ok : Nat → Prop} {v : Value} {xs : List α} (h : d.Q e w base ok v xs) : d.Q e w.drew base ok v xs := Kd.Q_drew h
theorem bN {w : World} {g : Nat} {o : Obj} (h : w.heap[g]? = some o) (n : Nat) : (w.drewN n).heap[g]? = some o := blk_drewN h n
theorem bD {w : World} {g : Nat} {o : Obj} (h : w.heap[g]? = some o) : w.drew.heap[g]? = some o := blk_drew h
theorem bA {w : World} {g : Nat} {o : Obj} (h : w.heap[g]? = some o) (o' : Obj) : (w.alloc o').heap[g]? = some o := blk_alloc h o'
theorem wN {B : Nat} {w W : World} (h : Below B w W) (n : Nat) : Below B w (W.drewN n) := pw_below_drewN h n
theorem wA {w W : World} (h : Below w.heap.size w W) (o : Obj) : Below w.heap.size w (W.alloc o) := below_alloc h o
theorem wD {base : Nat} {w W : World} (h : Below base w W) : Below base w W.drew := below_drew1 h
theorem wS {w W : World} {g j : Nat} {v : Value} (h : Below w.heap.size w W) (k : w.heap.size ≤ g) : Below w.heap.size w (W.setCell { block := g, off := j } v) := below_set h k
theorem rE {α : Type} {d : Kd α} {e : Nat} {w1 W : World} {base : Nat} {ok : Nat → Prop} {u v : Value} {xs : List α} (h : d.R e W base ok u xs) (k : ∀ (k : Nat), v.ownBlock = some k → W.heap.size ≤ k) (b : Below W.heap.size W w1) : d.R e w1 base (fun k => ok k ∧ some k ≠ v.ownBlock) u xs := Kd.R_elder' h k b
theorem rB {α : Type} {d : Kd α} {e : Nat} {w : World} {base : Nat} {ok : Nat → Prop} {v : Value} {xs : List α} (h : d.R e w base ok v xs) : ∀ (k : Nat), v.ownBlock = some k → base ≤ k := Kd.R_base h
theorem rW {α : Type} {d : Kd α} {e : Nat} {w1 W : World} {ok : Nat → Prop} {u v : Value} {xs : List α} (h : d.R e w1 W.heap.size ok v xs) (k : ∀ (k : Nat), u.ownBlock = some k → k < W.heap.size) : d.R e w1 W.heap.size (fun k => ok k ∧ some k ≠ u.ownBlock) v xs := Kd.R_new' h k
theorem rL {α : Type} {d : Kd α} {e : Nat} {w : World} {base : Nat} {ok : Nat → Prop} {v : Value} {xs : List α} (h : d.R e w base ok v xs) : ∀ (k : Nat), v.ownBlock = some k → k < w.heap.size := Kd.R_lt h
theorem rR {α : Type} {d : Kd α} {e : Nat} {w : World} {base : Nat} {ok : Nat → Prop} {xs : List α} {A : Option Addr} {n c : Nat} (h : d.R e w base ok (Value.slice A n c) xs) : n = xs.length ∧ n ≤ c ∧ d.C w A xs.length xs := Kd.R_reads' h
theorem cA {α : Type} {d : Kd α} {w : World} {xs : List α} {A : Option Addr} {n : Nat} (h : d.C w A n xs) (o : Obj) : d.C (w.alloc o) A n xs := Kd.C_alloc h o
theorem cN {α : Type} {d : Kd α} {w : World} {xs : List α} {A : Option Addr} {n : Nat} (h : d.C w A n xs) (m : Nat) : d.C (w.drewN m) A n xs := Kd.C_drewN h m
theorem cD {α : Type} {d : Kd α} {w : World} {xs : List α} {A : Option Addr} {n : Nat} (h : d.C w A n xs) : d.C w.drew A n xs := Kd.C_drew h
end Go.Proofs.YtamhkdlcoghdbaaDoor.PCls
/- Out of TTree (wip/tools/prune2.py): the declarations alone that the texts of the trees name. -/
namespace Go.Proofs.YtamhkdlcoghdbaaDoor.PCls
open Go.RowKit
set_option linter.unusedVariables false
set_option linter.unusedSimpArgs false
/-- a node of a pattern's tree: its kind, its number, its bounds, its ranges, its kids -/
inductive NT where
 | mk (k m lo hi : Int) (r : List S64) (kids : List NT)
namespace NT
def k : NT → Int | .mk a _ _ _ _ _ => a
def m : NT → Int | .mk _ a _ _ _ _ => a
def lo : NT → Int | .mk _ _ a _ _ _ => a
def hi : NT → Int | .mk _ _ _ a _ _ => a
def r : NT → List S64 | .mk _ _ _ _ a _ => a
def kids : NT → List NT | .mk _ _ _ _ _ a => a
theorem eta (t : NT) : NT.mk t.k t.m t.lo t.hi t.r t.kids = t := by cases t; rfl
instance : Inhabited NT := ⟨.mk 0 0 0 0 [] []⟩
theorem ind {P : NT → Prop} (h : ∀ k m lo hi r kids, (∀ t, t ∈ kids → P t) → P (.mk k m lo hi r kids)) (t : NT) : P t := by
 refine NT.rec (motive_1 := P) (motive_2 := fun l => ∀ t, t ∈ l → P t) ?_ ?_ ?_ t
 ·intro k m lo hi r kids ih
  exact h k m lo hi r kids ih
 ·intro t ht
  cases ht
 ·intro a l iha ihl t ht
  rcases List.mem_cons.1 ht with rfl | ht
  ·exact iha
  ·exact ihl t ht
mutual
/-- how many nodes -/
def nodes : NT → Nat
 | .mk _ _ _ _ _ kids => 1 + nodesL kids
def nodesL : List NT → Nat
 | [] => 0
 | t :: ts => nodes t + nodesL ts
end
theorem nodes_pos (t : NT) : 1 ≤ nodes t := by cases t; simp [nodes]
theorem nodes_kid {l : List NT} {t : NT} (h : t ∈ l) : nodes t ≤ nodesL l := by
 induction l with
 | nil => cases h
 | cons a l ih =>
  simp only [nodesL]
  rcases List.mem_cons.1 h with rfl | h
  ·omega
  ·have := ih h; omega
theorem nodesL_length (l : List NT) : l.length ≤ nodesL l := by
 induction l with
 | nil => simp [nodesL]
 | cons a l ih => have := nodes_pos a; simp only [nodesL, List.length_cons]; omega
theorem nodesL_append (a b : List NT) : nodesL (a ++ b) = nodesL a + nodesL b := by
 induction a with
 | nil => simp [nodesL]
 | cons x a ih => simp only [nodesL, List.cons_append, ih]; omega
end NT
/-- a node on a walk -/
structure Step where
 n : NT
 deep : Int
 around : Int
 first : Bool
 last : Bool
 branch : Bool
def branchOf (k : Int) (b : Bool) : Bool := decide (k = 7) || decide (k = 6) || (decide (k = 5) && b)
def Step.kid (s : Step) (i : Nat) (t : NT) : Step := ⟨t, s.deep + 1, s.n.k, decide (i = 0), decide (i + 1 = s.n.kids.length), branchOf s.n.k s.branch⟩
def Step.top (t : NT) : Step := ⟨t, 1, 0, true, true, true⟩
inductive Ev where
 | enter (s : Step)
 | leave (s : Step)
mutual
/-- the comings and leavings of a walk -/
def evs : NT → Int → Int → Bool → Bool → Bool → List Ev
 | .mk k m lo hi r kids, d, a, f, l, b => .enter ⟨.mk k m lo hi r kids, d, a, f, l, b⟩ :: (evsL kids (d + 1) k kids.length 0 (branchOf k b) ++ [.leave ⟨.mk k m lo hi r kids, d, a, f, l, b⟩])
def evsL : List NT → Int → Int → Nat → Nat → Bool → List Ev
 | [], _, _, _, _, _ => []
 | t :: ts, d, a, n, i, b => evs t d a (decide (i = 0)) (decide (i + 1 = n)) b ++ evsL ts d a n (i + 1) b
end
def Step.evs (s : Step) : List Ev := PCls.evs s.n s.deep s.around s.first s.last s.branch
/-- a walk's list: the node, its kids' lists, the node -/
def Step.kidsFrom (s : Step) (i : Nat) : List Ev := evsL (s.n.kids.drop i) (s.deep + 1) s.n.k s.n.kids.length i (branchOf s.n.k s.branch)
theorem Step.evs_eq (s : Step) : s.evs = .enter s :: (s.kidsFrom 0 ++ [.leave s]) := by
 obtain ⟨n, d, a, f, l, b⟩ := s
 cases n
 rfl
theorem Step.kidsFrom_end (s : Step) (i : Nat) (h : s.n.kids.length ≤ i) : s.kidsFrom i = [] := by
 unfold Step.kidsFrom
 rw [List.drop_eq_nil_of_le h]
 rfl
theorem Step.kidsFrom_next (s : Step) (i : Nat) (t : NT) (h : s.n.kids[i]? = some t) : s.kidsFrom i = (s.kid i t).evs ++ s.kidsFrom (i + 1) := by
 unfold Step.kidsFrom
 obtain ⟨hi, e⟩ := List.getElem?_eq_some_iff.1 h
 rw [List.drop_eq_getElem_cons hi, e]
 rfl
/-- a walk with a state: what each coming and each leaving makes of it, as long as it is wanted -/
def run {σ : Type} (vis : σ → Step → Bool × σ) (lv : σ → Step → σ) : List Ev → σ → Bool × σ
 | [], s => (true, s)
 | .enter t :: l, s => if (vis s t).1 = true then run vis lv l (vis s t).2 else (false, (vis s t).2)
 | .leave t :: l, s => run vis lv l (lv s t)
theorem run_enter {σ : Type} {vis : σ → Step → Bool × σ} {lv : σ → Step → σ} {t : Step} {l : List Ev} {s : σ} (h : (vis s t).1 = true) : run vis lv (.enter t :: l) s = run vis lv l (vis s t).2 := by simp only [run]; rw [if_pos h]
theorem run_stop {σ : Type} {vis : σ → Step → Bool × σ} {lv : σ → Step → σ} {t : Step} {l : List Ev} {s : σ} (h : (vis s t).1 = false) : run vis lv (.enter t :: l) s = (false, (vis s t).2) := by simp only [run]; rw [if_neg (by rw [h]; simp)]
theorem run_append {σ : Type} (vis : σ → Step → Bool × σ) (lv : σ → Step → σ) (b : List Ev) : ∀ (a : List Ev) (s : σ), ((run vis lv a s).1 = true → run vis lv (a ++ b) s = run vis lv b (run vis lv a s).2) ∧ ((run vis lv a s).1 = false → run vis lv (a ++ b) s = run vis lv a s) := by
 intro a
 induction a with
 | nil => intro s; exact ⟨fun _ => rfl, fun h => by simp [run] at h⟩
 | cons x a ih =>
  intro s
  cases x with
  | enter t =>
   rw [List.cons_append]
   cases h : (vis s t).1
   ·rw [run_stop h, run_stop h]
    exact ⟨fun h => by simp at h, fun _ => rfl⟩
   ·rw [run_enter h, run_enter h]
    exact ih _
  | leave t => exact ih _
/-- the comings alone -/
def enters : List Ev → List Step
 | [] => []
 | .enter s :: l => s :: enters l
 | .leave _ :: l => enters l
theorem enters_append (a b : List Ev) : enters (a ++ b) = enters a ++ enters b := by
 induction a with
 | nil => rfl
 | cons x a ih => cases x <;> simp [enters, ih]
theorem enters_length : ∀ (t : NT) (d a : Int) (f l b : Bool), (enters (evs t d a f l b)).length = t.nodes := by
 have hL : ∀ l : List NT, (∀ t, t ∈ l → ∀ d a f l b, (enters (evs t d a f l b)).length = t.nodes) → ∀ d a n i b, (enters (evsL l d a n i b)).length = NT.nodesL l := by
  intro l
  induction l with
  | nil => intro _ d a n i b; rfl
  | cons x l ih =>
   intro h d a n i b
   simp only [evsL, enters_append, List.length_append, NT.nodesL]
   rw [h x List.mem_cons_self, ih (fun t ht => h t (List.mem_cons_of_mem _ ht))]
 refine fun t => NT.ind (P := fun t => ∀ (d a : Int) (f l b : Bool), (enters (evs t d a f l b)).length = t.nodes) (fun k m lo hi r kids ih d a f l b => ?_) t
 simp only [evs, enters, enters_append, List.length_cons, List.length_append, NT.nodes, hL kids ih, List.append_nil]
 simp [Nat.add_comm]
end Go.Proofs.YtamhkdlcoghdbaaDoor.PCls
/- A region that draws its order, walked by a plan: the plan is checked once, what yields is run in one go. -/
namespace Go.Proofs.YtamhkdlcoghdbaaDoor.PCls
open Go.RowKit Go.Proofs.YtamhkdlcoghdbaaDoorW.PrintWords Go.Proofs.YtamhkdlcoghdbaaDoorW.PrintLast Go.Proofs.YtamhkdlcoghdbaaDoorW.PrintMore
set_option linter.unusedVariables false

/-- t: it yields in every world of S; p: in every world; o: it comes up alone, S is shown behind it; z: it comes up alone, nothing is shown. -/
inductive Stg where
 | t (i : Nat) | p (i : Nat) | o (i : Nat) | z (i : Nat)
def planOk (T : Bool × List (List Nat × List Nat)) (ds : List Nat) : List Stg → Bool → List Bool → Bool
 | [], _, l => readyT T.2 l == []
 | .t i :: r, s, l => s && (T.1 && freeT T.2 l i && readyAt T.2 l i && closedT T.2 l && lastT T.2 l ds i) && planOk T ds r s (l.set i true)
 | .p i :: r, s, l => (T.1 && freeT T.2 l i && readyAt T.2 l i) && planOk T ds r s (l.set i true)
 | .o i :: r, s, l => (readyT T.2 l == [i]) && !ds.contains i && planOk T ds r true (l.set i true)
 | .z i :: r, s, l => (readyT T.2 l == [i]) && ds.contains i && planOk T ds r false (l.set i true)
section
variable {P : Program} {md : Region.Mode} {ops : Array Oper} {Q : Exit → Act → World → Prop} {S : World → Prop} {ds : List Nat}
def Go (P : Program) (ops : Array Oper) (Q : Exit → Act → World → Prop) (S : World → Prop) : List Stg → Act → World → Prop
 | [], a, w => Q .normal a w
 | .t i :: r, a, w => ∃ oi v b, ops[i]? = some oi ∧ YieldsIf P ops S oi v a ∧ a.put oi.dst v = b ∧ Go P ops Q S r b w
 | .p i :: r, a, w => ∃ oi v b, ops[i]? = some oi ∧ Yields P ops oi v a ∧ a.put oi.dst v = b ∧ Go P ops Q S r b w
 | .o i :: r, a, w => ∃ oi, ops[i]? = some oi ∧ ∀ K : Act → World → Prop, Shut (∀ a' w', S w' → (S w' → Go P ops Q S r a' w') → K a' w') → if Region.wanted oi (yielded ops a.tmps) = true then Oper.wp P oi a w K Q else K (a.put oi.dst undef) w
 | .z i :: r, a, w => ∃ oi, ops[i]? = some oi ∧ ∀ K : Act → World → Prop, Shut (∀ a' w', Go P ops Q S r a' w' → K a' w') → if Region.wanted oi (yielded ops a.tmps) = true then Oper.wp P oi a w K Q else K (a.put oi.dst undef) w
theorem set_toList (l : Array Bool) (i : Nat) : (l.setIfInBounds i true).toList = l.toList.set i true := Array.toList_setIfInBounds
theorem set_self (l : Array Bool) (i : Nat) : (l.toList.set i true == (l.setIfInBounds i true).toList) = true := by rw [set_toList]; exact beq_self_eq_true _
theorem go_sound {T : Bool × List (List Nat × List Nat)} (HT : rtab md ops = T) (hQ : ∀ c d v a w, Q (.panic c) (a.put d v) w → Q (.panic c) a w) :
  ∀ (plan : List Stg) (s : Bool) (l : Array Bool) (a : Act) (w : World), planOk T ds plan s l.toList = true → (s = true → S w) → Go P ops Q S plan a w → wpAnyLast P md ops Q S ds plan.length l a w
 | [], s, l, a, w, hc, hs, h => done_ (done_of HT hc) h
 | .t i :: r, s, l, a, w, hc, hs, h => by
  simp only [planOk, Bool.and_eq_true] at hc
  obtain ⟨⟨h1, ⟨⟨⟨h2, h3⟩, h4⟩, h5⟩, h6⟩, h7⟩ := hc
  obtain ⟨oi, v, b, hi, hy, rfl, hk⟩ := h
  refine take_ (l.setIfInBounds i true) hi rfl (take_of HT ?_) (fun c a w => hQ c _ v a w) hy (hs h1) rfl (go_sound HT hQ r s _ _ _ (by rw [set_toList]; exact h7) hs hk)
  simp only [takeT, Bool.and_eq_true]
  exact ⟨⟨⟨⟨⟨h2, h3⟩, h4⟩, h5⟩, h6⟩, set_self l i⟩
 | .p i :: r, s, l, a, w, hc, hs, h => by
  simp only [planOk, Bool.and_eq_true] at hc
  obtain ⟨⟨⟨h2, h3⟩, h4⟩, h7⟩ := hc
  obtain ⟨oi, v, b, hi, hy, rfl, hk⟩ := h
  refine pure_ (l.setIfInBounds i true) hi rfl (any_of HT ?_) (fun c a w => hQ c _ v a w) hy rfl (go_sound HT hQ r s _ _ _ (by rw [set_toList]; exact h7) hs hk)
  simp only [anyT, Bool.and_eq_true]
  exact ⟨⟨⟨h2, h3⟩, h4⟩, set_self l i⟩
 | .o i :: r, s, l, a, w, hc, hs, h => by
  simp only [planOk, Bool.and_eq_true] at hc
  obtain ⟨⟨h1, h2⟩, h7⟩ := hc
  obtain ⟨oi, hi, hk⟩ := h
  refine one_ (l.setIfInBounds i true) hi rfl (one_of HT ?_) (by simpa using h2) (fun K hK => hk K (show Shut _ from fun a' w' hS hw => hK.out a' w' hS fun hS' => go_sound HT hQ r true _ _ _ (by rw [set_toList]; exact h7) (fun _ => hS') (hw hS')))
  rw [h1, set_self]; rfl
 | .z i :: r, s, l, a, w, hc, hs, h => by
  simp only [planOk, Bool.and_eq_true] at hc
  obtain ⟨⟨h1, h2⟩, h7⟩ := hc
  obtain ⟨oi, hi, hk⟩ := h
  refine last_ (l.setIfInBounds i true) hi rfl (one_of HT ?_) (by simpa using h2) (fun K hK => hk K (show Shut _ from fun a' w' hw => hK.out a' w' (go_sound HT hQ r false _ _ _ (by rw [set_toList]; exact h7) (fun e => by cases e) hw)))
  rw [h1, set_self]; rfl
theorem go_start {id : Nat} {a : Act} {w : World} (S : World → Prop) (ds : List Nat) (plan : List Stg) (hm : P.follows .mixedOrders = true)
  (hc : (plan.length == ops.size && planOk (rtab .any ops) ds plan true (List.replicate ops.size false)) = true) (hQ : ∀ c d v a w, Q (.panic c) (a.put d v) w → Q (.panic c) a w)
  (hS : S w.drew) (h : ∀ w1, S w1 → Go P ops Q S plan a w1) : (Code.region id ops true).wp P Q a w := by
 rw [Bool.and_eq_true, beq_iff_eq] at hc
 refine start_ (S := S) (ds := ds) (n := plan.length) (Array.replicate plan.length false) hm hc.1.symm rfl hS fun hS' => ?_
 exact go_sound rfl hQ plan true _ _ _ (by rw [Array.toList_replicate, hc.1]; exact hc.2) (fun _ => hS') (h _ hS')
variable {r : List Stg} {i : Nat} {a : Act} {w : World} {N : Option Tmp} {op : Op} {ty : TypeId} {ps : String} {af : Array Edge} {gd : Option (Nat × Bool)}
theorem go_t {v : Value} {b : Act} (hi : ops[i]? = some ⟨N, op, ty, ps, af, gd⟩) (hy : YieldsIf P ops S ⟨N, op, ty, ps, af, gd⟩ v a) (ha : a.put N v = b) (h : Go P ops Q S r b w) : Go P ops Q S (.t i :: r) a w := ⟨_, v, b, hi, hy, ha, h⟩
theorem go_p {v : Value} {b : Act} (hi : ops[i]? = some ⟨N, op, ty, ps, af, gd⟩) (hy : Yields P ops ⟨N, op, ty, ps, af, gd⟩ v a) (ha : a.put N v = b) (h : Go P ops Q S r b w) : Go P ops Q S (.p i :: r) a w := ⟨_, v, b, hi, hy, ha, h⟩
/-- A call of a Go function, by its contract. -/
theorem go_call {f : FuncId} {fn : Func} {ags : Array Operand} {ts : Array TypeId} {args : Array Value} {R : Ending → World → Prop} (hi : ops[i]? = some ⟨N, .call { callee := .value (.func f), args := ags, argTypes := ts }, ty, ps, af, gd⟩)
  (hw : Region.wanted ⟨N, .call { callee := .value (.func f), args := ags, argTypes := ts }, ty, ps, af, gd⟩ (yielded ops a.tmps) = true) (hf : P.funcs[f]? = some fn) (hname : (fn.name == "runtime.NumGoroutine") = false) (hb : fn.body.isSome = true) (hargs : ags.map a.eval = args) (hcall : Calls P f args w R)
  (h : ∀ e w', R e w' → ∃ v b, e = .returned v ∧ S w' ∧ a.put N v = b ∧ Go P ops Q S r b w') : Go P ops Q S (.o i :: r) a w := by
 refine ⟨_, hi, fun K hK => ?_⟩
 refine goes_ hf hname hb args hw rfl rfl hargs (hcall.mono fun e w' hR => ?_)
 obtain ⟨v, b, he, hS, hp, hk⟩ := h e w' hR
 subst hp
 exact ⟨v, he, hK.out _ _ hS fun _ => hk⟩
/-- The same where it may panic. -/
theorem go_callP {f : FuncId} {fn : Func} {ags : Array Operand} {ts : Array TypeId} {args : Array Value} {R : Ending → World → Prop} (hi : ops[i]? = some ⟨N, .call { callee := .value (.func f), args := ags, argTypes := ts }, ty, ps, af, gd⟩)
  (hw : Region.wanted ⟨N, .call { callee := .value (.func f), args := ags, argTypes := ts }, ty, ps, af, gd⟩ (yielded ops a.tmps) = true) (hf : P.funcs[f]? = some fn) (hname : (fn.name == "runtime.NumGoroutine") = false) (hb : fn.body.isSome = true) (hargs : ags.map a.eval = args) (hcall : Calls P f args w R)
  (h : ∀ e w', R e w' → (∃ v b, e = .returned v ∧ S w' ∧ a.put N v = b ∧ Go P ops Q S r b w') ∨ ∃ c, e = .panicked c ∧ Q (.panic c) a w') : Go P ops Q S (.o i :: r) a w := by
 refine ⟨_, hi, fun K hK => ?_⟩
 rw [if_pos hw]
 have he := enters_ hf hname hb args w
 have hrun : (execOp a.eval ⟨N, .call { callee := .value (.func f), args := ags, argTypes := ts }, ty, ps, af, gd⟩).run P w = .ok (.enter f args) w := by
  unfold execOp
  simp [resolve, Deferred.ofValue, invoke, Act.eval, hargs, he]
 unfold Oper.wp
 rw [hrun, Oper.upon_enter]
 refine hcall.mono fun e w' hR => ?_
 rcases h e w' hR with ⟨v, b, rfl, hS, hp, hk⟩ | ⟨c, rfl, hq⟩
 ·subst hp
  exact hK.out _ _ hS fun _ => hk
 ·exact hq
/-- An operation that yields a value and may make memory. -/
theorem go_val {v : Value} {w1 : World} {b : Act} (hi : ops[i]? = some ⟨N, op, ty, ps, af, gd⟩) (hw : Region.wanted ⟨N, op, ty, ps, af, gd⟩ (yielded ops a.tmps) = true) (hrun : (execOp a.eval ⟨N, op, ty, ps, af, gd⟩).run P w = .ok (.value v) w1) (ha : a.put N v = b) (hS : S w1)
  (h : Go P ops Q S r b w1) : Go P ops Q S (.o i :: r) a w := by
 subst ha
 exact ⟨_, hi, fun K hK => value_ hw rfl hrun (hK.out _ _ hS fun _ => h)⟩
theorem go_valz {v : Value} {w1 : World} {b : Act} (hi : ops[i]? = some ⟨N, op, ty, ps, af, gd⟩) (hw : Region.wanted ⟨N, op, ty, ps, af, gd⟩ (yielded ops a.tmps) = true) (hrun : (execOp a.eval ⟨N, op, ty, ps, af, gd⟩).run P w = .ok (.value v) w1) (ha : a.put N v = b)
  (h : Go P ops Q S r b w1) : Go P ops Q S (.z i :: r) a w := by
 subst ha
 exact ⟨_, hi, fun K hK => value_ hw rfl hrun (hK.out _ _ h)⟩
theorem append_run {a : Act} {w w1 : World} {s x : Operand} {t : TypeId} {v u v' : Value} (hs : a.eval s = v) (hx : a.eval x = u) (hr : (Builtin.append_ #[t, t] ty #[v, u]).run P w = .ok v' w1) :
  (execOp a.eval ⟨N, .call { callee := .builtin .append, args := #[s, x], argTypes := #[t, t] }, ty, ps, af, gd⟩).run P w = .ok (.value v') w1 := by
 unfold execOp
 simp only [resolve, invoke, builtin, Sem.run_bind, Sem.run_pure, Result.andThen_ok, List.map_toArray, List.map_cons, List.map_nil, hs, hx, hr]
/-- A store. -/
theorem go_skip {w1 : World} (hi : ops[i]? = some ⟨none, op, ty, ps, af, gd⟩) (hw : Region.wanted ⟨none, op, ty, ps, af, gd⟩ (yielded ops a.tmps) = true) (hrun : (execOp a.eval ⟨none, op, ty, ps, af, gd⟩).run P w = .ok .skip w1) (hS : S w1)
  (h : Go P ops Q S r a w1) : Go P ops Q S (.o i :: r) a w :=
 ⟨_, hi, fun K hK => skip_ hw rfl hrun (hK.out _ _ hS fun _ => h)⟩
theorem go_skipz {w1 : World} (hi : ops[i]? = some ⟨none, op, ty, ps, af, gd⟩) (hw : Region.wanted ⟨none, op, ty, ps, af, gd⟩ (yielded ops a.tmps) = true) (hrun : (execOp a.eval ⟨none, op, ty, ps, af, gd⟩).run P w = .ok .skip w1)
  (h : Go P ops Q S r a w1) : Go P ops Q S (.z i :: r) a w :=
 ⟨_, hi, fun K hK => skip_ hw rfl hrun (hK.out _ _ h)⟩
/-- An operation that is not wanted. -/
theorem go_not {b : Act} (hi : ops[i]? = some ⟨N, op, ty, ps, af, gd⟩) (hw : Region.wanted ⟨N, op, ty, ps, af, gd⟩ (yielded ops a.tmps) = false) (ha : a.put N undef = b) (hS : S w) (h : Go P ops Q S r b w) : Go P ops Q S (.o i :: r) a w := by
 subst ha
 exact ⟨_, hi, fun K hK => by rw [hw, if_neg (by simp)]; exact hK.out _ _ hS fun _ => h⟩
theorem go_notz {b : Act} (hi : ops[i]? = some ⟨N, op, ty, ps, af, gd⟩) (hw : Region.wanted ⟨N, op, ty, ps, af, gd⟩ (yielded ops a.tmps) = false) (ha : a.put N undef = b) (h : Go P ops Q S r b w) : Go P ops Q S (.z i :: r) a w := by
 subst ha
 exact ⟨_, hi, fun K hK => by rw [hw, if_neg (by simp)]; exact hK.out _ _ h⟩
theorem go_done (h : Q .normal a w) : Go P ops Q S [] a w := h
end
end Go.Proofs.YtamhkdlcoghdbaaDoor.PCls
/- A stretch of a region that draws its order, walked by a plan. -/
namespace Go.Proofs.YtamhkdlcoghdbaaDoor.PCls
open Go.RowKit Go.Proofs.YtamhkdlcoghdbaaDoorW.PrintWords Go.Proofs.YtamhkdlcoghdbaaDoorW.PrintLast Go.Proofs.YtamhkdlcoghdbaaDoorW.PrintMore
set_option linter.unusedVariables false

/-- a mask, by its bits -/
def mk_ (n : Nat) (b : Nat) : Array Bool := ((List.range n).map fun i => b.testBit i).toArray
def preOk (T : Bool × List (List Nat × List Nat)) (ds : List Nat) : List Stg → List Bool → List Bool → Bool
 | [], l, l' => l == l'
 | .t i :: r, l, l' => (T.1 && freeT T.2 l i && readyAt T.2 l i && closedT T.2 l && lastT T.2 l ds i) && preOk T ds r (l.set i true) l'
 | .p i :: r, l, l' => (T.1 && freeT T.2 l i && readyAt T.2 l i) && preOk T ds r (l.set i true) l'
 | _ :: _, _, _ => false
section
variable {P : Program} {md : Region.Mode} {ops : Array Oper} {Q : Exit → Act → World → Prop} {S : World → Prop} {ds : List Nat}
def GoK (P : Program) (ops : Array Oper) (S : World → Prop) : List Stg → (Act → Prop) → Act → Prop
 | .t i :: r, K, a => ∃ oi v b, ops[i]? = some oi ∧ YieldsIf P ops S oi v a ∧ a.put oi.dst v = b ∧ GoK P ops S r K b
 | .p i :: r, K, a => ∃ oi v b, ops[i]? = some oi ∧ Yields P ops oi v a ∧ a.put oi.dst v = b ∧ GoK P ops S r K b
 | [], K, a => K a
 | _ :: _, _, _ => False
theorem run_sound {T : Bool × List (List Nat × List Nat)} (HT : rtab md ops = T) (hQ : ∀ c d v a w, Q (.panic c) (a.put d v) w → Q (.panic c) a w) (l' : Array Bool) (fuel : Nat) (w : World) (hS : S w) :
  ∀ (plan : List Stg) (l : Array Bool) (a : Act), preOk T ds plan l.toList l'.toList = true → GoK P ops S plan (fun b => wpAnyLast P md ops Q S ds fuel l' b w) a → wpAnyLast P md ops Q S ds (plan.length + fuel) l a w
 | [], l, a, hc, h => by
  simp only [preOk, beq_iff_eq] at hc
  have e : l = l' := Array.ext' hc
  subst e
  show wpAnyLast P md ops Q S ds (0 + fuel) l a w
  rw [Nat.zero_add]
  exact h
 | .t i :: r, l, a, hc, h => by
  simp only [preOk, Bool.and_eq_true] at hc
  obtain ⟨⟨⟨⟨⟨h2, h3⟩, h4⟩, h5⟩, h6⟩, h7⟩ := hc
  obtain ⟨oi, v, b, hi, hy, rfl, hk⟩ := h
  rw [show (Stg.t i :: r).length + fuel = (r.length + fuel) + 1 by simp only [List.length_cons]; omega]
  refine take_ (l.setIfInBounds i true) hi rfl (take_of HT ?_) (fun c a w => hQ c _ v a w) hy hS rfl (run_sound HT hQ l' fuel w hS r _ _ (by rw [set_toList]; exact h7) hk)
  simp only [takeT, Bool.and_eq_true]
  exact ⟨⟨⟨⟨⟨h2, h3⟩, h4⟩, h5⟩, h6⟩, set_self l i⟩
 | .p i :: r, l, a, hc, h => by
  simp only [preOk, Bool.and_eq_true] at hc
  obtain ⟨⟨⟨h2, h3⟩, h4⟩, h7⟩ := hc
  obtain ⟨oi, v, b, hi, hy, rfl, hk⟩ := h
  rw [show (Stg.p i :: r).length + fuel = (r.length + fuel) + 1 by simp only [List.length_cons]; omega]
  refine pure_ (l.setIfInBounds i true) hi rfl (any_of HT ?_) (fun c a w => hQ c _ v a w) hy rfl (run_sound HT hQ l' fuel w hS r _ _ (by rw [set_toList]; exact h7) hk)
  simp only [anyT, Bool.and_eq_true]
  exact ⟨⟨⟨h2, h3⟩, h4⟩, set_self l i⟩
 | .o i :: r, l, a, hc, h => by cases hc
 | .z i :: r, l, a, hc, h => by cases hc
/-- a stretch of a region: what yields in any order, in one go -/
theorem run_ {T : Bool × List (List Nat × List Nat)} {l : Array Bool} {n : Nat} {a : Act} {w : World} (plan : List Stg) (fuel : Nat) (l' : Array Bool) (HT : rtab md ops = T) (hQ : ∀ c d v a w, Q (.panic c) (a.put d v) w → Q (.panic c) a w) (hS : S w) (hn : n = plan.length + fuel)
  (hc : preOk T ds plan l.toList l'.toList = true) (h : GoK P ops S plan (fun b => wpAnyLast P md ops Q S ds fuel l' b w) a) : wpAnyLast P md ops Q S ds n l a w := by
 subst hn
 exact run_sound HT hQ l' fuel w hS plan l a hc h
variable {r : List Stg} {i : Nat} {a : Act} {N : Option Tmp} {op : Op} {ty : TypeId} {ps : String} {af : Array Edge} {gd : Option (Nat × Bool)} {K : Act → Prop}
theorem kt_ {v : Value} {b : Act} (hi : ops[i]? = some ⟨N, op, ty, ps, af, gd⟩) (hy : YieldsIf P ops S ⟨N, op, ty, ps, af, gd⟩ v a) (ha : a.put N v = b) (h : GoK P ops S r K b) : GoK P ops S (.t i :: r) K a := ⟨_, v, b, hi, hy, ha, h⟩
theorem kp_ {v : Value} {b : Act} (hi : ops[i]? = some ⟨N, op, ty, ps, af, gd⟩) (hy : Yields P ops ⟨N, op, ty, ps, af, gd⟩ v a) (ha : a.put N v = b) (h : GoK P ops S r K b) : GoK P ops S (.p i :: r) K a := ⟨_, v, b, hi, hy, ha, h⟩
theorem kd_ (h : K a) : GoK P ops S [] K a := h
end
end Go.Proofs.YtamhkdlcoghdbaaDoor.PCls
/- Out of ZShelf (wip/tools/prune2.py): the declarations alone that the texts of the trees name. -/
/-
 DERIVED: THE SHELF's CONTRACTS AT THIS DUMP, IN PLAIN WORDS (tools/lay-plain.mjs out of 'YtamhkdlcoghdbaaDoorShelf.lean', which tools/lay-shelf.mjs wrote): THE SAME DECLARATIONS UNDER THE SAME NAMES: 'import', 'namespace', 'open', 'def', 'theorem' AND NOTHING ELSE: no command of the shelf's: FOR A HAND-IN. Each laying: the table of numbers ('.._ren') and one theorem, a field a fact of the dump's own or the kernel's comparison; each contract: ONE APPLICATION.
-/
namespace Go.Proofs
open Go.Shelf
def Tryd.sort82_ren : Go.Shelf.Ren := ⟨fun | 6 => 82 | 15 => 103 | 14 => 102 | 28 => 118 | 29 => 119 | 20 => 110 | 21 => 111 | 22 => 112 | 23 => 113 | 24 => 114 | 25 => 115 | 26 => 116 | 27 => 117 | 46 => 123 | 47 => 124 | 48 => 125 | 49 => 126 | 50 => 127 | 57 => 130 | n => n, fun | 22 => 25 | 24 => 50 | 25 => 115 | 3 => 3 | 39 => 132 | 0 => 0 | 53 => 146 | 55 => 148 | 4 => 4 | 46 => 139 | 45 => 138 | 50 => 143 | 5 => 5 | 9 => 9 | 66 => 156 | 70 => 160 | 76 => 162 | 77 => 73 | n => n, fun | n => n⟩
theorem Tryd.sort82 : Go.Proofs.SlLaysF0.n6 Tryd.prog Tryd.sort82_ren := {
 mixed := by kernel_rfl
 f6 := ⟨Tryd.f82.name, by decide, Tryd.func82.trans (congrArg some (by kernel_rfl))⟩
 f14 := ⟨Tryd.f102.name, by decide, Tryd.func102.trans (congrArg some (by kernel_rfl))⟩
 f15 := Tryd.func103.trans (congrArg some (by kernel_rfl))
 f20 := ⟨Tryd.f110.name, by decide, Tryd.func110.trans (congrArg some (by kernel_rfl))⟩
 f21 := ⟨Tryd.f111.name, by decide, Tryd.func111.trans (congrArg some (by kernel_rfl))⟩
 f22 := ⟨Tryd.f112.name, by decide, Tryd.func112.trans (congrArg some (by kernel_rfl))⟩
 f23 := ⟨Tryd.f113.name, by decide, Tryd.func113.trans (congrArg some (by kernel_rfl))⟩
 f24 := ⟨Tryd.f114.name, by decide, Tryd.func114.trans (congrArg some (by kernel_rfl))⟩
 f25 := ⟨Tryd.f115.name, by decide, Tryd.func115.trans (congrArg some (by kernel_rfl))⟩
 f26 := ⟨Tryd.f116.name, by decide, Tryd.func116.trans (congrArg some (by kernel_rfl))⟩
 f27 := ⟨Tryd.f117.name, by decide, Tryd.func117.trans (congrArg some (by kernel_rfl))⟩
 f28 := Tryd.func118.trans (congrArg some (by kernel_rfl))
 f29 := Tryd.func119.trans (congrArg some (by kernel_rfl))
 f46 := ⟨Tryd.f123.name, by decide, Tryd.func123.trans (congrArg some (by kernel_rfl))⟩
 f47 := Tryd.func124.trans (congrArg some (by kernel_rfl))
 f48 := Tryd.func125.trans (congrArg some (by kernel_rfl))
 f49 := ⟨Tryd.f126.name, by decide, Tryd.func126.trans (congrArg some (by kernel_rfl))⟩
 f50 := ⟨Tryd.f127.name, by decide, Tryd.func127.trans (congrArg some (by kernel_rfl))⟩
 f57 := ⟨Tryd.f130.name, by decide, Tryd.func130.trans (congrArg some (by kernel_rfl))⟩
 t0 := Tryd.underlying0
 a0 := Tryd.isAgg0
 z0 := Tryd.sizeOf0
 v0 := Tryd.zeroValue0
 t3 := Tryd.underlying3
 a3 := Tryd.isAgg3
 z3 := Tryd.sizeOf3
 v3 := Tryd.zeroValue3
 t4 := Tryd.underlying4
 a4 := Tryd.isAgg4
 z4 := Tryd.sizeOf4
 v4 := Tryd.zeroValue4
 t5 := Tryd.underlying5
 a5 := Tryd.isAgg5
 z5 := Tryd.sizeOf5
 v5 := Tryd.zeroValue5
 t9 := Tryd.underlying9
 a9 := Tryd.isAgg9
 z9 := Tryd.sizeOf9
 v9 := Tryd.zeroValue9
 t22 := Tryd.underlying25
 a22 := Tryd.isAgg25
 z22 := Tryd.sizeOf25
 v22 := Tryd.zeroValue25
 t25 := Tryd.underlying115
 a25 := Tryd.isAgg115
 z25 := Tryd.sizeOf115
 v25 := Tryd.zeroValue115
 t39 := Tryd.underlying132
 a39 := Tryd.isAgg132
 z39 := Tryd.sizeOf132
 v39 := Tryd.zeroValue132
 t45 := Tryd.underlying138
 a45 := Tryd.isAgg138
 z45 := Tryd.sizeOf138
 v45 := Tryd.zeroValue138
 t46 := Tryd.underlying139
 a46 := Tryd.isAgg139
 z46 := Tryd.sizeOf139
 v46 := Tryd.zeroValue139
 t50 := Tryd.underlying143
 a50 := Tryd.isAgg143
 z50 := Tryd.sizeOf143
 v50 := Tryd.zeroValue143
 t53 := Tryd.underlying146
 a53 := Tryd.isAgg146
 z53 := Tryd.sizeOf146
 v53 := Tryd.zeroValue146
 t55 := Tryd.underlying148
 a55 := Tryd.isAgg148
 z55 := Tryd.sizeOf148
 v55 := Tryd.zeroValue148
 t66 := Tryd.underlying156
 a66 := Tryd.isAgg156
 z66 := Tryd.sizeOf156
 v66 := Tryd.zeroValue156
 t70 := Tryd.underlying160
 a70 := Tryd.isAgg160
 z70 := Tryd.sizeOf160
 v70 := Tryd.zeroValue160
 t76 := Tryd.underlying162
 a76 := Tryd.isAgg162
 z76 := Tryd.sizeOf162
 v76 := Tryd.zeroValue162
 t77 := Tryd.underlying73
 a77 := Tryd.isAgg73
 z77 := Tryd.sizeOf73
 v77 := Tryd.zeroValue73 }
def Tryd.index101_ren : Go.Shelf.Ren := ⟨fun | 6 => 101 | n => n, fun | 22 => 25 | 23 => 50 | 25 => 112 | 3 => 3 | 0 => 0 | 4 => 4 | n => n, fun | n => n⟩
theorem Tryd.index101 : Go.Proofs.SlLaysH0.n6 Tryd.prog Tryd.index101_ren := {
 mixed := by kernel_rfl
 f6 := ⟨Tryd.f101.name, by decide, Tryd.func101.trans (congrArg some (by kernel_rfl))⟩
 t0 := Tryd.underlying0
 a0 := Tryd.isAgg0
 z0 := Tryd.sizeOf0
 v0 := Tryd.zeroValue0
 t3 := Tryd.underlying3
 a3 := Tryd.isAgg3
 z3 := Tryd.sizeOf3
 v3 := Tryd.zeroValue3
 t4 := Tryd.underlying4
 a4 := Tryd.isAgg4
 z4 := Tryd.sizeOf4
 v4 := Tryd.zeroValue4
 t22 := Tryd.underlying25
 a22 := Tryd.isAgg25
 z22 := Tryd.sizeOf25
 v22 := Tryd.zeroValue25
 t25 := Tryd.underlying112
 a25 := Tryd.isAgg112
 z25 := Tryd.sizeOf112
 v25 := Tryd.zeroValue112 }
def Tryd.cmp84_ren : Go.Shelf.Ren := ⟨fun | 5 => 84 | 7 => 104 | n => n, fun | 22 => 3 | 3 => 3 | 4 => 4 | n => n, fun | n => n⟩
theorem Tryd.cmp84 : Go.Proofs.SlLaysC2.n5 Tryd.prog Tryd.cmp84_ren := {
 mixed := by kernel_rfl
 f5 := ⟨Tryd.f84.name, by decide, Tryd.func84.trans (congrArg some (by kernel_rfl))⟩
 f7 := ⟨Tryd.f104.name, by decide, Tryd.func104.trans (congrArg some (by kernel_rfl))⟩
 t3 := Tryd.underlying3
 a3 := Tryd.isAgg3
 z3 := Tryd.sizeOf3
 v3 := Tryd.zeroValue3
 t4 := Tryd.underlying4
 a4 := Tryd.isAgg4
 z4 := Tryd.sizeOf4
 v4 := Tryd.zeroValue4
 t22 := Tryd.underlying3
 a22 := Tryd.isAgg3
 z22 := Tryd.sizeOf3
 v22 := Tryd.zeroValue3 }
end Go.Proofs
