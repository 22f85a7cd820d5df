/- Put together (wip/tools/pack.py): ZPClsx0, TTree, ZShelf. -/
import Derived.Test.YtamhkdlcoghdbaaDoorProg
import Derived.Test.YtamhkdlcoghdbaaDoorKZWp
import Derived.Shelf.SlGeneric
import Derived.Ground.SlsfProg
import Derived.Ground.SlgfProg
import Derived.Ground.SlgcProg
import Derived.Shelf.SlSortCmp.WholeK
import Derived.Shelf.SlicesQ.IndexFunc
import Derived.Shelf.SlicesG.Cmp
/- Out of ZPClsx0 (wip/tools/prune2.py): the declarations alone that the texts of the trees name. -/
namespace Go.Proofs.YtamhkdlcoghdbaaDoor.PCls
open Go.RowKit Go.Proofs.YtamhkdlcoghdbaaDoorW.PrintWords Go.Proofs.YtamhkdlcoghdbaaDoorW.PrintLast Go.Proofs.YtamhkdlcoghdbaaDoorW.PrintMore
attribute [local go_sem] max2_int min2_int max_two min_two max_three min_three max_four min_four   -- for this text's walks alone
set_option linter.unusedVariables false
set_option linter.unusedSimpArgs false
def errW : Option Int → Value
 | none => .nilIface
 | some c => .iface 0 (.int .i64 c)
theorem errW_none : errW none = .nilIface := rfl
theorem errW_some (c : Int) : errW (some c) = .iface 0 (.int .i64 c) := rfl
theorem info64 : (Tryd.prog.info? 50).map (fun i => (i.zero, i.size, i.bytes)) = some (some (.agg #[(.int .i64 0), (.int .i64 0)]), 2, 16) := by kernel_rfl
structure S64 where
 f0 : Int
 f1 : Int
def z64 : S64 := ⟨(0 : Int), (0 : Int)⟩
def k64 : Kd S64 := Kd.iso (Kd.pair (Kd.int .i64) (Kd.int .i64)) (fun x : S64 => (x.f0, x.f1))
theorem k64_open {w : World} {x : S64} {cs : List Value} (h : k64.K w x cs) : cs = [.int .i64 x.f0, .int .i64 x.f1] := by
 obtain ⟨_, _, rfl, rfl, rfl⟩ := h
 exact rfl
theorem k64_openM {w : World} {base : Nat} {ok : Nat → Prop} {x : S64} {cs : List Value} (h : k64.M w base ok x cs) : cs = [.int .i64 x.f0, .int .i64 x.f1] := by
 obtain ⟨_, _, rfl, rfl, rfl⟩ := h
 exact rfl
theorem k64_mk (w : World) (x : S64)  : k64.K w x [.int .i64 x.f0, .int .i64 x.f1] := ⟨[.int .i64 x.f0], [.int .i64 x.f1], rfl, rfl, rfl⟩
theorem k64_mkM (w : World) (base : Nat) (ok : Nat → Prop) (x : S64)  : k64.M w base ok x [.int .i64 x.f0, .int .i64 x.f1] := ⟨[.int .i64 x.f0], [.int .i64 x.f1], rfl, rfl, rfl⟩
def rd_T64 (xs : List S64) (i : Int) : S64 := xs.getD i.toNat z64
theorem at_T64 {w : World} {A : Option Addr} {n : Nat} {xs : List S64} (h : Kd.C k64 w A n xs) (i : Int) (h0 : 0 ≤ i) (h1 : i < n) : ∃ ad , A = some ad ∧ w.cell? (ad.add (i.toNat * 2)) = some (.int .i64 (rd_T64 xs i).f0) ∧ w.cell? ⟨(ad.add (i.toNat * 2)).block, (ad.add (i.toNat * 2)).off + 1, none⟩ = some (.int .i64 (rd_T64 xs i).f1) := by
 obtain ⟨ad, c, e, _, hK, hc0⟩ := Kd.C_get h z64 i h0 h1
 have hc : ∀ j u, c[j]? = some u → w.cell? (ad.add (i.toNat * 2 + j)) = some u := hc0
 obtain rfl := k64_open hK
 exact ⟨ad, e, hc 0 _ rfl, by rw [← add_field _ _ 1 (by omega)]; exact hc 1 _ rfl⟩
theorem rA {α : Type} {d : Kd α} {e : Nat} {w : World} {base : Nat} {ok : Nat → Prop} {v : Value} {xs : List α} (h : d.R e w base ok v xs) (o : Obj) : d.R e (w.alloc o) base ok v xs := Kd.R_alloc h o
theorem rN {α : Type} {d : Kd α} {e : Nat} {w : World} {base : Nat} {ok : Nat → Prop} {v : Value} {xs : List α} (h : d.R e w base ok v xs) (m : Nat) : d.R e (w.drewN m) base ok v xs := Kd.R_drewN h m
theorem rD {α : Type} {d : Kd α} {e : Nat} {w : World} {base : Nat} {ok : Nat → Prop} {v : Value} {xs : List α} (h : d.R e w base ok v xs) : d.R e w.drew base ok v xs := Kd.R_drew h
theorem qA {α : Type} {d : Kd α} {e : Nat} {w : World} {base : Nat} {ok : Nat → Prop} {v : Value} {xs : List α} (h : d.Q e w base ok v xs) (o : Obj) : d.Q e (w.alloc o) base ok v xs := Kd.Q_alloc h o
theorem qN {α : Type} {d : Kd α} {e : Nat} {w : World} {base : Nat} {ok : Nat → Prop} {v : Value} {xs : List α} (h : d.Q e w base ok v xs) (m : Nat) : d.Q e (w.drewN m) base ok v xs := Kd.Q_drewN h m
theorem qD {α : Type} {d : Kd α} {e : Nat} {w : World} {base : Nat} {ok : Nat → Prop} {v : Value} {xs : List α} (h : d.Q e w base ok v xs) : d.Q e w.drew base ok v xs := Kd.Q_drew h
theorem bN {w : World} {g : Nat} {o : Obj} (h : w.heap[g]? = some o) (n : Nat) : (w.drewN n).heap[g]? = some o := blk_drewN h n
theorem bD {w : World} {g : Nat} {o : Obj} (h : w.heap[g]? = some o) : w.drew.heap[g]? = some o := blk_drew h
theorem bA {w : World} {g : Nat} {o : Obj} (h : w.heap[g]? = some o) (o' : Obj) : (w.alloc o').heap[g]? = some o := blk_alloc h o'
theorem wN {B : Nat} {w W : World} (h : Below B w W) (n : Nat) : Below B w (W.drewN n) := pw_below_drewN h n
theorem wA {w W : World} (h : Below w.heap.size w W) (o : Obj) : Below w.heap.size w (W.alloc o) := below_alloc h o
theorem wD {base : Nat} {w W : World} (h : Below base w W) : Below base w W.drew := below_drew1 h
theorem wS {w W : World} {g j : Nat} {v : Value} (h : Below w.heap.size w W) (k : w.heap.size ≤ g) : Below w.heap.size w (W.setCell { block := g, off := j } v) := below_set h k
theorem rE {α : Type} {d : Kd α} {e : Nat} {w1 W : World} {base : Nat} {ok : Nat → Prop} {u v : Value} {xs : List α} (h : d.R e W base ok u xs) (k : ∀ (k : Nat), v.ownBlock = some k → W.heap.size ≤ k) (b : Below W.heap.size W w1) : d.R e w1 base (fun k => ok k ∧ some k ≠ v.ownBlock) u xs := Kd.R_elder' h k b
theorem rB {α : Type} {d : Kd α} {e : Nat} {w : World} {base : Nat} {ok : Nat → Prop} {v : Value} {xs : List α} (h : d.R e w base ok v xs) : ∀ (k : Nat), v.ownBlock = some k → base ≤ k := Kd.R_base h
theorem rW {α : Type} {d : Kd α} {e : Nat} {w1 W : World} {ok : Nat → Prop} {u v : Value} {xs : List α} (h : d.R e w1 W.heap.size ok v xs) (k : ∀ (k : Nat), u.ownBlock = some k → k < W.heap.size) : d.R e w1 W.heap.size (fun k => ok k ∧ some k ≠ u.ownBlock) v xs := Kd.R_new' h k
theorem rL {α : Type} {d : Kd α} {e : Nat} {w : World} {base : Nat} {ok : Nat → Prop} {v : Value} {xs : List α} (h : d.R e w base ok v xs) : ∀ (k : Nat), v.ownBlock = some k → k < w.heap.size := Kd.R_lt h
theorem rR {α : Type} {d : Kd α} {e : Nat} {w : World} {base : Nat} {ok : Nat → Prop} {xs : List α} {A : Option Addr} {n c : Nat} (h : d.R e w base ok (Value.slice A n c) xs) : n = xs.length ∧ n ≤ c ∧ d.C w A xs.length xs := Kd.R_reads' h
theorem cA {α : Type} {d : Kd α} {w : World} {xs : List α} {A : Option Addr} {n : Nat} (h : d.C w A n xs) (o : Obj) : d.C (w.alloc o) A n xs := Kd.C_alloc h o
theorem cN {α : Type} {d : Kd α} {w : World} {xs : List α} {A : Option Addr} {n : Nat} (h : d.C w A n xs) (m : Nat) : d.C (w.drewN m) A n xs := Kd.C_drewN h m
theorem cD {α : Type} {d : Kd α} {w : World} {xs : List α} {A : Option Addr} {n : Nat} (h : d.C w A n xs) : d.C w.drew A n xs := Kd.C_drew h
end Go.Proofs.YtamhkdlcoghdbaaDoor.PCls
/- Out of TTree (wip/tools/prune2.py): the declarations alone that the texts of the trees name. -/
namespace Go.Proofs.YtamhkdlcoghdbaaDoor.PCls
open Go.RowKit
set_option linter.unusedVariables false
set_option linter.unusedSimpArgs false
/-- a node of a pattern's tree: its kind, its number, its bounds, its ranges, its kids -/
inductive NT where
 | mk (k m lo hi : Int) (r : List S64) (kids : List NT)
namespace NT
def k : NT → Int | .mk a _ _ _ _ _ => a
def m : NT → Int | .mk _ a _ _ _ _ => a
def lo : NT → Int | .mk _ _ a _ _ _ => a
def hi : NT → Int | .mk _ _ _ a _ _ => a
def r : NT → List S64 | .mk _ _ _ _ a _ => a
def kids : NT → List NT | .mk _ _ _ _ _ a => a
theorem eta (t : NT) : NT.mk t.k t.m t.lo t.hi t.r t.kids = t := by cases t; rfl
instance : Inhabited NT := ⟨.mk 0 0 0 0 [] []⟩
theorem ind {P : NT → Prop} (h : ∀ k m lo hi r kids, (∀ t, t ∈ kids → P t) → P (.mk k m lo hi r kids)) (t : NT) : P t := by
 refine NT.rec (motive_1 := P) (motive_2 := fun l => ∀ t, t ∈ l → P t) ?_ ?_ ?_ t
 ·intro k m lo hi r kids ih
  exact h k m lo hi r kids ih
 ·intro t ht
  cases ht
 ·intro a l iha ihl t ht
  rcases List.mem_cons.1 ht with rfl | ht
  ·exact iha
  ·exact ihl t ht
mutual
/-- how many nodes -/
def nodes : NT → Nat
 | .mk _ _ _ _ _ kids => 1 + nodesL kids
def nodesL : List NT → Nat
 | [] => 0
 | t :: ts => nodes t + nodesL ts
end
theorem nodes_pos (t : NT) : 1 ≤ nodes t := by cases t; simp [nodes]
theorem nodes_kid {l : List NT} {t : NT} (h : t ∈ l) : nodes t ≤ nodesL l := by
 induction l with
 | nil => cases h
 | cons a l ih =>
  simp only [nodesL]
  rcases List.mem_cons.1 h with rfl | h
  ·omega
  ·have := ih h; omega
theorem nodesL_length (l : List NT) : l.length ≤ nodesL l := by
 induction l with
 | nil => simp [nodesL]
 | cons a l ih => have := nodes_pos a; simp only [nodesL, List.length_cons]; omega
theorem nodesL_append (a b : List NT) : nodesL (a ++ b) = nodesL a + nodesL b := by
 induction a with
 | nil => simp [nodesL]
 | cons x a ih => simp only [nodesL, List.cons_append, ih]; omega
end NT
/-- a node on a walk -/
structure Step where
 n : NT
 deep : Int
 around : Int
 first : Bool
 last : Bool
 branch : Bool
def branchOf (k : Int) (b : Bool) : Bool := decide (k = 7) || decide (k = 6) || (decide (k = 5) && b)
def Step.kid (s : Step) (i : Nat) (t : NT) : Step := ⟨t, s.deep + 1, s.n.k, decide (i = 0), decide (i + 1 = s.n.kids.length), branchOf s.n.k s.branch⟩
def Step.top (t : NT) : Step := ⟨t, 1, 0, true, true, true⟩
inductive Ev where
 | enter (s : Step)
 | leave (s : Step)
mutual
/-- the comings and leavings of a walk -/
def evs : NT → Int → Int → Bool → Bool → Bool → List Ev
 | .mk k m lo hi r kids, d, a, f, l, b => .enter ⟨.mk k m lo hi r kids, d, a, f, l, b⟩ :: (evsL kids (d + 1) k kids.length 0 (branchOf k b) ++ [.leave ⟨.mk k m lo hi r kids, d, a, f, l, b⟩])
def evsL : List NT → Int → Int → Nat → Nat → Bool → List Ev
 | [], _, _, _, _, _ => []
 | t :: ts, d, a, n, i, b => evs t d a (decide (i = 0)) (decide (i + 1 = n)) b ++ evsL ts d a n (i + 1) b
end
def Step.evs (s : Step) : List Ev := PCls.evs s.n s.deep s.around s.first s.last s.branch
/-- a walk's list: the node, its kids' lists, the node -/
def Step.kidsFrom (s : Step) (i : Nat) : List Ev := evsL (s.n.kids.drop i) (s.deep + 1) s.n.k s.n.kids.length i (branchOf s.n.k s.branch)
theorem Step.evs_eq (s : Step) : s.evs = .enter s :: (s.kidsFrom 0 ++ [.leave s]) := by
 obtain ⟨n, d, a, f, l, b⟩ := s
 cases n
 rfl
theorem Step.kidsFrom_end (s : Step) (i : Nat) (h : s.n.kids.length ≤ i) : s.kidsFrom i = [] := by
 unfold Step.kidsFrom
 rw [List.drop_eq_nil_of_le h]
 rfl
theorem Step.kidsFrom_next (s : Step) (i : Nat) (t : NT) (h : s.n.kids[i]? = some t) : s.kidsFrom i = (s.kid i t).evs ++ s.kidsFrom (i + 1) := by
 unfold Step.kidsFrom
 obtain ⟨hi, e⟩ := List.getElem?_eq_some_iff.1 h
 rw [List.drop_eq_getElem_cons hi, e]
 rfl
/-- a walk with a state: what each coming and each leaving makes of it, as long as it is wanted -/
def run {σ : Type} (vis : σ → Step → Bool × σ) (lv : σ → Step → σ) : List Ev → σ → Bool × σ
 | [], s => (true, s)
 | .enter t :: l, s => if (vis s t).1 = true then run vis lv l (vis s t).2 else (false, (vis s t).2)
 | .leave t :: l, s => run vis lv l (lv s t)
theorem run_enter {σ : Type} {vis : σ → Step → Bool × σ} {lv : σ → Step → σ} {t : Step} {l : List Ev} {s : σ} (h : (vis s t).1 = true) : run vis lv (.enter t :: l) s = run vis lv l (vis s t).2 := by simp only [run]; rw [if_pos h]
theorem run_stop {σ : Type} {vis : σ → Step → Bool × σ} {lv : σ → Step → σ} {t : Step} {l : List Ev} {s : σ} (h : (vis s t).1 = false) : run vis lv (.enter t :: l) s = (false, (vis s t).2) := by simp only [run]; rw [if_neg (by rw [h]; simp)]
theorem run_append {σ : Type} (vis : σ → Step → Bool × σ) (lv : σ → Step → σ) (b : List Ev) : ∀ (a : List Ev) (s : σ), ((run vis lv a s).1 = true → run vis lv (a ++ b) s = run vis lv b (run vis lv a s).2) ∧ ((run vis lv a s).1 = false → run vis lv (a ++ b) s = run vis lv a s) := by
 intro a
 induction a with
 | nil => intro s; exact ⟨fun _ => rfl, fun h => by simp [run] at h⟩
 | cons x a ih =>
  intro s
  cases x with
  | enter t =>
   rw [List.cons_append]
   cases h : (vis s t).1
   ·rw [run_stop h, run_stop h]
    exact ⟨fun h => by simp at h, fun _ => rfl⟩
   ·rw [run_enter h, run_enter h]
    exact ih _
  | leave t => exact ih _
/-- the comings alone -/
def enters : List Ev → List Step
 | [] => []
 | .enter s :: l => s :: enters l
 | .leave _ :: l => enters l
theorem enters_append (a b : List Ev) : enters (a ++ b) = enters a ++ enters b := by
 induction a with
 | nil => rfl
 | cons x a ih => cases x <;> simp [enters, ih]
theorem enters_length : ∀ (t : NT) (d a : Int) (f l b : Bool), (enters (evs t d a f l b)).length = t.nodes := by
 have hL : ∀ l : List NT, (∀ t, t ∈ l → ∀ d a f l b, (enters (evs t d a f l b)).length = t.nodes) → ∀ d a n i b, (enters (evsL l d a n i b)).length = NT.nodesL l := by
  intro l
  induction l with
  | nil => intro _ d a n i b; rfl
  | cons x l ih =>
   intro h d a n i b
   simp only [evsL, enters_append, List.length_append, NT.nodesL]
   rw [h x List.mem_cons_self, ih (fun t ht => h t (List.mem_cons_of_mem _ ht))]
 refine fun t => NT.ind (P := fun t => ∀ (d a : Int) (f l b : Bool), (enters (evs t d a f l b)).length = t.nodes) (fun k m lo hi r kids ih d a f l b => ?_) t
 simp only [evs, enters, enters_append, List.length_cons, List.length_append, NT.nodes, hL kids ih, List.append_nil]
 simp [Nat.add_comm]
end Go.Proofs.YtamhkdlcoghdbaaDoor.PCls
/- Out of ZShelf (wip/tools/prune2.py): the declarations alone that the texts of the trees name. -/
/-
 DERIVED: THE SHELF's CONTRACTS AT THIS DUMP, IN PLAIN WORDS (tools/lay-plain.mjs out of 'YtamhkdlcoghdbaaDoorShelf.lean', which tools/lay-shelf.mjs wrote): THE SAME DECLARATIONS UNDER THE SAME NAMES: 'import', 'namespace', 'open', 'def', 'theorem' AND NOTHING ELSE: no command of the shelf's: FOR A HAND-IN. Each laying: the table of numbers ('.._ren') and one theorem, a field a fact of the dump's own or the kernel's comparison; each contract: ONE APPLICATION.
-/
namespace Go.Proofs
open Go.Shelf
def Tryd.sort82_ren : Go.Shelf.Ren := ⟨fun | 6 => 82 | 15 => 103 | 14 => 102 | 28 => 118 | 29 => 119 | 20 => 110 | 21 => 111 | 22 => 112 | 23 => 113 | 24 => 114 | 25 => 115 | 26 => 116 | 27 => 117 | 46 => 123 | 47 => 124 | 48 => 125 | 49 => 126 | 50 => 127 | 57 => 130 | n => n, fun | 22 => 25 | 24 => 50 | 25 => 115 | 3 => 3 | 39 => 132 | 0 => 0 | 53 => 146 | 55 => 148 | 4 => 4 | 46 => 139 | 45 => 138 | 50 => 143 | 5 => 5 | 9 => 9 | 66 => 156 | 70 => 160 | 76 => 162 | 77 => 73 | n => n, fun | n => n⟩
theorem Tryd.sort82 : Go.Proofs.SlLaysF0.n6 Tryd.prog Tryd.sort82_ren := {
 mixed := by kernel_rfl
 f6 := ⟨Tryd.f82.name, by decide, Tryd.func82.trans (congrArg some (by kernel_rfl))⟩
 f14 := ⟨Tryd.f102.name, by decide, Tryd.func102.trans (congrArg some (by kernel_rfl))⟩
 f15 := Tryd.func103.trans (congrArg some (by kernel_rfl))
 f20 := ⟨Tryd.f110.name, by decide, Tryd.func110.trans (congrArg some (by kernel_rfl))⟩
 f21 := ⟨Tryd.f111.name, by decide, Tryd.func111.trans (congrArg some (by kernel_rfl))⟩
 f22 := ⟨Tryd.f112.name, by decide, Tryd.func112.trans (congrArg some (by kernel_rfl))⟩
 f23 := ⟨Tryd.f113.name, by decide, Tryd.func113.trans (congrArg some (by kernel_rfl))⟩
 f24 := ⟨Tryd.f114.name, by decide, Tryd.func114.trans (congrArg some (by kernel_rfl))⟩
 f25 := ⟨Tryd.f115.name, by decide, Tryd.func115.trans (congrArg some (by kernel_rfl))⟩
 f26 := ⟨Tryd.f116.name, by decide, Tryd.func116.trans (congrArg some (by kernel_rfl))⟩
 f27 := ⟨Tryd.f117.name, by decide, Tryd.func117.trans (congrArg some (by kernel_rfl))⟩
 f28 := Tryd.func118.trans (congrArg some (by kernel_rfl))
 f29 := Tryd.func119.trans (congrArg some (by kernel_rfl))
 f46 := ⟨Tryd.f123.name, by decide, Tryd.func123.trans (congrArg some (by kernel_rfl))⟩
 f47 := Tryd.func124.trans (congrArg some (by kernel_rfl))
 f48 := Tryd.func125.trans (congrArg some (by kernel_rfl))
 f49 := ⟨Tryd.f126.name, by decide, Tryd.func126.trans (congrArg some (by kernel_rfl))⟩
 f50 := ⟨Tryd.f127.name, by decide, Tryd.func127.trans (congrArg some (by kernel_rfl))⟩
 f57 := ⟨Tryd.f130.name, by decide, Tryd.func130.trans (congrArg some (by kernel_rfl))⟩
 t0 := Tryd.underlying0
 a0 := Tryd.isAgg0
 z0 := Tryd.sizeOf0
 v0 := Tryd.zeroValue0
 t3 := Tryd.underlying3
 a3 := Tryd.isAgg3
 z3 := Tryd.sizeOf3
 v3 := Tryd.zeroValue3
 t4 := Tryd.underlying4
 a4 := Tryd.isAgg4
 z4 := Tryd.sizeOf4
 v4 := Tryd.zeroValue4
 t5 := Tryd.underlying5
 a5 := Tryd.isAgg5
 z5 := Tryd.sizeOf5
 v5 := Tryd.zeroValue5
 t9 := Tryd.underlying9
 a9 := Tryd.isAgg9
 z9 := Tryd.sizeOf9
 v9 := Tryd.zeroValue9
 t22 := Tryd.underlying25
 a22 := Tryd.isAgg25
 z22 := Tryd.sizeOf25
 v22 := Tryd.zeroValue25
 t25 := Tryd.underlying115
 a25 := Tryd.isAgg115
 z25 := Tryd.sizeOf115
 v25 := Tryd.zeroValue115
 t39 := Tryd.underlying132
 a39 := Tryd.isAgg132
 z39 := Tryd.sizeOf132
 v39 := Tryd.zeroValue132
 t45 := Tryd.underlying138
 a45 := Tryd.isAgg138
 z45 := Tryd.sizeOf138
 v45 := Tryd.zeroValue138
 t46 := Tryd.underlying139
 a46 := Tryd.isAgg139
 z46 := Tryd.sizeOf139
 v46 := Tryd.zeroValue139
 t50 := Tryd.underlying143
 a50 := Tryd.isAgg143
 z50 := Tryd.sizeOf143
 v50 := Tryd.zeroValue143
 t53 := Tryd.underlying146
 a53 := Tryd.isAgg146
 z53 := Tryd.sizeOf146
 v53 := Tryd.zeroValue146
 t55 := Tryd.underlying148
 a55 := Tryd.isAgg148
 z55 := Tryd.sizeOf148
 v55 := Tryd.zeroValue148
 t66 := Tryd.underlying156
 a66 := Tryd.isAgg156
 z66 := Tryd.sizeOf156
 v66 := Tryd.zeroValue156
 t70 := Tryd.underlying160
 a70 := Tryd.isAgg160
 z70 := Tryd.sizeOf160
 v70 := Tryd.zeroValue160
 t76 := Tryd.underlying162
 a76 := Tryd.isAgg162
 z76 := Tryd.sizeOf162
 v76 := Tryd.zeroValue162
 t77 := Tryd.underlying73
 a77 := Tryd.isAgg73
 z77 := Tryd.sizeOf73
 v77 := Tryd.zeroValue73 }
def Tryd.index101_ren : Go.Shelf.Ren := ⟨fun | 6 => 101 | n => n, fun | 22 => 25 | 23 => 50 | 25 => 112 | 3 => 3 | 0 => 0 | 4 => 4 | n => n, fun | n => n⟩
theorem Tryd.index101 : Go.Proofs.SlLaysH0.n6 Tryd.prog Tryd.index101_ren := {
 mixed := by kernel_rfl
 f6 := ⟨Tryd.f101.name, by decide, Tryd.func101.trans (congrArg some (by kernel_rfl))⟩
 t0 := Tryd.underlying0
 a0 := Tryd.isAgg0
 z0 := Tryd.sizeOf0
 v0 := Tryd.zeroValue0
 t3 := Tryd.underlying3
 a3 := Tryd.isAgg3
 z3 := Tryd.sizeOf3
 v3 := Tryd.zeroValue3
 t4 := Tryd.underlying4
 a4 := Tryd.isAgg4
 z4 := Tryd.sizeOf4
 v4 := Tryd.zeroValue4
 t22 := Tryd.underlying25
 a22 := Tryd.isAgg25
 z22 := Tryd.sizeOf25
 v22 := Tryd.zeroValue25
 t25 := Tryd.underlying112
 a25 := Tryd.isAgg112
 z25 := Tryd.sizeOf112
 v25 := Tryd.zeroValue112 }
def Tryd.cmp84_ren : Go.Shelf.Ren := ⟨fun | 5 => 84 | 7 => 104 | n => n, fun | 22 => 3 | 3 => 3 | 4 => 4 | n => n, fun | n => n⟩
theorem Tryd.cmp84 : Go.Proofs.SlLaysC2.n5 Tryd.prog Tryd.cmp84_ren := {
 mixed := by kernel_rfl
 f5 := ⟨Tryd.f84.name, by decide, Tryd.func84.trans (congrArg some (by kernel_rfl))⟩
 f7 := ⟨Tryd.f104.name, by decide, Tryd.func104.trans (congrArg some (by kernel_rfl))⟩
 t3 := Tryd.underlying3
 a3 := Tryd.isAgg3
 z3 := Tryd.sizeOf3
 v3 := Tryd.zeroValue3
 t4 := Tryd.underlying4
 a4 := Tryd.isAgg4
 z4 := Tryd.sizeOf4
 v4 := Tryd.zeroValue4
 t22 := Tryd.underlying3
 a22 := Tryd.isAgg3
 z22 := Tryd.sizeOf3
 v22 := Tryd.zeroValue3 }
end Go.Proofs
