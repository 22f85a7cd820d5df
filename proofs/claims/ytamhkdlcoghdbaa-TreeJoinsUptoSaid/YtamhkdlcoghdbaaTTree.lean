/- Trees of nodes: what they are, the walk over one as a list of comings and leavings. No program in it. -/
import Derived.Test.YtamhkdlcoghdbaaZPClsx0
namespace Go.Proofs.Ytamhkdlcoghdbaa.PCls
open Go.RowKit
set_option linter.unusedVariables false
set_option linter.unusedSimpArgs false

/-- a node of a pattern's tree: its kind, its number, its bounds, its ranges, its kids -/
inductive NT where
  | mk (k m lo hi : Int) (r : List S64) (kids : List NT)
namespace NT
def k : NT → Int | .mk a _ _ _ _ _ => a
def m : NT → Int | .mk _ a _ _ _ _ => a
def lo : NT → Int | .mk _ _ a _ _ _ => a
def hi : NT → Int | .mk _ _ _ a _ _ => a
def r : NT → List S64 | .mk _ _ _ _ a _ => a
def kids : NT → List NT | .mk _ _ _ _ _ a => a
theorem eta (t : NT) : NT.mk t.k t.m t.lo t.hi t.r t.kids = t := by cases t; rfl
instance : Inhabited NT := ⟨.mk 0 0 0 0 [] []⟩

theorem ind {P : NT → Prop} (h : ∀ k m lo hi r kids, (∀ t, t ∈ kids → P t) → P (.mk k m lo hi r kids)) (t : NT) : P t := by
  refine NT.rec (motive_1 := P) (motive_2 := fun l => ∀ t, t ∈ l → P t) ?_ ?_ ?_ t
  · intro k m lo hi r kids ih
    exact h k m lo hi r kids ih
  · intro t ht
    cases ht
  · intro a l iha ihl t ht
    rcases List.mem_cons.1 ht with rfl | ht
    · exact iha
    · exact ihl t ht

mutual
/-- how many nodes -/
def nodes : NT → Nat
  | .mk _ _ _ _ _ kids => 1 + nodesL kids
def nodesL : List NT → Nat
  | [] => 0
  | t :: ts => nodes t + nodesL ts
end
mutual
/-- how deep -/
def height : NT → Nat
  | .mk _ _ _ _ _ kids => 1 + heightL kids
def heightL : List NT → Nat
  | [] => 0
  | t :: ts => max (height t) (heightL ts)
end
theorem nodes_pos (t : NT) : 1 ≤ nodes t := by cases t; simp [nodes]
theorem height_le (t : NT) : height t ≤ nodes t := by
  have : ∀ l : List NT, (∀ t, t ∈ l → height t ≤ nodes t) → heightL l ≤ nodesL l := by
    intro l
    induction l with
    | nil => intro _; simp [heightL, nodesL]
    | cons a l ih =>
      intro h
      have h1 := h a List.mem_cons_self
      have h2 := ih fun t ht => h t (List.mem_cons_of_mem _ ht)
      simp only [heightL, nodesL]
      omega
  refine ind (P := fun t => height t ≤ nodes t) (fun k m lo hi r kids ih => ?_) t
  have := this kids ih
  simp only [height, nodes]
  omega
theorem height_kid {l : List NT} {t : NT} (h : t ∈ l) : height t ≤ heightL l := by
  induction l with
  | nil => cases h
  | cons a l ih =>
    simp only [heightL]
    rcases List.mem_cons.1 h with rfl | h
    · omega
    · have := ih h; omega
theorem nodes_kid {l : List NT} {t : NT} (h : t ∈ l) : nodes t ≤ nodesL l := by
  induction l with
  | nil => cases h
  | cons a l ih =>
    simp only [nodesL]
    rcases List.mem_cons.1 h with rfl | h
    · omega
    · have := ih h; omega
theorem nodesL_length (l : List NT) : l.length ≤ nodesL l := by
  induction l with
  | nil => simp [nodesL]
  | cons a l ih => have := nodes_pos a; simp only [nodesL, List.length_cons]; omega
theorem nodesL_append (a b : List NT) : nodesL (a ++ b) = nodesL a + nodesL b := by
  induction a with
  | nil => simp [nodesL]
  | cons x a ih => simp only [nodesL, List.cons_append, ih]; omega

end NT

/-- a node on a walk -/
structure Step where
  n : NT
  deep : Int
  around : Int
  first : Bool
  last : Bool
  branch : Bool
def branchOf (k : Int) (b : Bool) : Bool := decide (k = 7) || decide (k = 6) || (decide (k = 5) && b)
def Step.kid (s : Step) (i : Nat) (t : NT) : Step := ⟨t, s.deep + 1, s.n.k, decide (i = 0), decide (i + 1 = s.n.kids.length), branchOf s.n.k s.branch⟩
def Step.top (t : NT) : Step := ⟨t, 1, 0, true, true, true⟩
inductive Ev where
  | enter (s : Step)
  | leave (s : Step)
mutual
/-- the comings and leavings of a walk -/
def evs : NT → Int → Int → Bool → Bool → Bool → List Ev
  | .mk k m lo hi r kids, d, a, f, l, b => .enter ⟨.mk k m lo hi r kids, d, a, f, l, b⟩ :: (evsL kids (d + 1) k kids.length 0 (branchOf k b) ++ [.leave ⟨.mk k m lo hi r kids, d, a, f, l, b⟩])
def evsL : List NT → Int → Int → Nat → Nat → Bool → List Ev
  | [], _, _, _, _, _ => []
  | t :: ts, d, a, n, i, b => evs t d a (decide (i = 0)) (decide (i + 1 = n)) b ++ evsL ts d a n (i + 1) b
end
def Step.evs (s : Step) : List Ev := PCls.evs s.n s.deep s.around s.first s.last s.branch
/-- a walk's list: the node, its kids' lists, the node -/
def Step.kidsFrom (s : Step) (i : Nat) : List Ev := evsL (s.n.kids.drop i) (s.deep + 1) s.n.k s.n.kids.length i (branchOf s.n.k s.branch)
theorem Step.evs_eq (s : Step) : s.evs = .enter s :: (s.kidsFrom 0 ++ [.leave s]) := by
  obtain ⟨n, d, a, f, l, b⟩ := s
  cases n
  rfl
theorem Step.kidsFrom_end (s : Step) (i : Nat) (h : s.n.kids.length ≤ i) : s.kidsFrom i = [] := by
  unfold Step.kidsFrom
  rw [List.drop_eq_nil_of_le h]
  rfl
theorem Step.kidsFrom_next (s : Step) (i : Nat) (t : NT) (h : s.n.kids[i]? = some t) : s.kidsFrom i = (s.kid i t).evs ++ s.kidsFrom (i + 1) := by
  unfold Step.kidsFrom
  obtain ⟨hi, e⟩ := List.getElem?_eq_some_iff.1 h
  rw [List.drop_eq_getElem_cons hi, e]
  rfl

/-- a walk with a state: what each coming and each leaving makes of it, as long as it is wanted -/
def run {σ : Type} (vis : σ → Step → Bool × σ) (lv : σ → Step → σ) : List Ev → σ → Bool × σ
  | [], s => (true, s)
  | .enter t :: l, s => if (vis s t).1 = true then run vis lv l (vis s t).2 else (false, (vis s t).2)
  | .leave t :: l, s => run vis lv l (lv s t)
theorem run_enter {σ : Type} {vis : σ → Step → Bool × σ} {lv : σ → Step → σ} {t : Step} {l : List Ev} {s : σ} (h : (vis s t).1 = true) : run vis lv (.enter t :: l) s = run vis lv l (vis s t).2 := by simp only [run]; rw [if_pos h]
theorem run_stop {σ : Type} {vis : σ → Step → Bool × σ} {lv : σ → Step → σ} {t : Step} {l : List Ev} {s : σ} (h : (vis s t).1 = false) : run vis lv (.enter t :: l) s = (false, (vis s t).2) := by simp only [run]; rw [if_neg (by rw [h]; simp)]
theorem run_leave {σ : Type} {vis : σ → Step → Bool × σ} {lv : σ → Step → σ} {t : Step} {l : List Ev} {s : σ} : run vis lv (.leave t :: l) s = run vis lv l (lv s t) := rfl
theorem run_append {σ : Type} (vis : σ → Step → Bool × σ) (lv : σ → Step → σ) (b : List Ev) : ∀ (a : List Ev) (s : σ), ((run vis lv a s).1 = true → run vis lv (a ++ b) s = run vis lv b (run vis lv a s).2) ∧ ((run vis lv a s).1 = false → run vis lv (a ++ b) s = run vis lv a s) := by
  intro a
  induction a with
  | nil => intro s; exact ⟨fun _ => rfl, fun h => by simp [run] at h⟩
  | cons x a ih =>
    intro s
    cases x with
    | enter t =>
      rw [List.cons_append]
      cases h : (vis s t).1
      · rw [run_stop h, run_stop h]
        exact ⟨fun h => by simp at h, fun _ => rfl⟩
      · rw [run_enter h, run_enter h]
        exact ih _
    | leave t => exact ih _

/-- the comings alone -/
def enters : List Ev → List Step
  | [] => []
  | .enter s :: l => s :: enters l
  | .leave _ :: l => enters l
theorem enters_append (a b : List Ev) : enters (a ++ b) = enters a ++ enters b := by
  induction a with
  | nil => rfl
  | cons x a ih => cases x <;> simp [enters, ih]
theorem enters_length : ∀ (t : NT) (d a : Int) (f l b : Bool), (enters (evs t d a f l b)).length = t.nodes := by
  have hL : ∀ l : List NT, (∀ t, t ∈ l → ∀ d a f l b, (enters (evs t d a f l b)).length = t.nodes) → ∀ d a n i b, (enters (evsL l d a n i b)).length = NT.nodesL l := by
    intro l
    induction l with
    | nil => intro _ d a n i b; rfl
    | cons x l ih =>
      intro h d a n i b
      simp only [evsL, enters_append, List.length_append, NT.nodesL]
      rw [h x List.mem_cons_self, ih (fun t ht => h t (List.mem_cons_of_mem _ ht))]
  refine fun t => NT.ind (P := fun t => ∀ (d a : Int) (f l b : Bool), (enters (evs t d a f l b)).length = t.nodes) (fun k m lo hi r kids ih d a f l b => ?_) t
  simp only [evs, enters, enters_append, List.length_cons, List.length_append, NT.nodes, hL kids ih, List.append_nil]
  simp [Nat.add_comm]

end Go.Proofs.Ytamhkdlcoghdbaa.PCls
