/- Out of Pa (wip/tools/prune2.py): the declarations alone that the texts of the trees name. -/
import Derived.Test.YtamhkdlcoghdbaaGreatDoorKQTAltG
namespace Go.Proofs.YtamhkdlcoghdbaaGreatDoor.PCls
set_option linter.unusedVariables false
/-- a part of a pattern's tree, as it is put together -/
inductive PT where
 | leaf (t : NT)
 | often (p : PT) (lo hi : Int)
 | group (n pl : Int) (c : PT)
 | branch (l : List PT)
 | choice (l : List PT)
namespace PT
theorem ind {P : PT → Prop} (h1 : ∀ t, P (.leaf t)) (h2 : ∀ p lo hi, P p → P (.often p lo hi)) (h3 : ∀ n pl c, P c → P (.group n pl c)) (h4 : ∀ l, (∀ p, p ∈ l → P p) → P (.branch l)) (h5 : ∀ l, (∀ p, p ∈ l → P p) → P (.choice l)) (p : PT) : P p := by
 refine PT.rec (motive_1 := P) (motive_2 := fun l => ∀ p, p ∈ l → P p) h1 h2 h3 h4 h5 ?_ ?_ p
 ·intro p hp; cases hp
 ·intro a l iha ihl p hp
  rcases List.mem_cons.1 hp with rfl | hp
  ·exact iha
  ·exact ihl p hp
mutual
/-- a part's tree -/
def node : PT → NT
 | .leaf t => t
 | .often p lo hi => .mk 9 0 lo hi [] [node p]
 | .group n _ c => .mk 7 n 0 0 [] [node c]
 | .branch l => catT (nodes l)
 | .choice l => altT (nodes l)
def nodes : List PT → List NT
 | [] => []
 | p :: l => node p :: nodes l
end
mutual
/-- how deep it is -/
def deep : PT → Int
 | .leaf _ => 1
 | .often p _ _ => 1 + deep p
 | .group _ _ c => 1 + deep c
 | .branch l => if 1 < l.length then 1 + most l else max (most l) 1
 | .choice l => if 1 < l.length then 1 + most l else most l
def most : List PT → Int
 | [] => 0
 | p :: l => max (deep p) (most l)
end
theorem nodes_map (l : List PT) : nodes l = l.map node := by
 induction l with
 | nil => rfl
 | cons p l ih => simp only [nodes, List.map_cons, ih]
theorem most_nonneg (l : List PT) : 0 ≤ most l := by
 induction l with
 | nil => simp [most]
 | cons p l ih => simp only [most]; omega
theorem most_append (a b : List PT) : most (a ++ b) = max (most a) (most b) := by
 induction a with
 | nil => have := most_nonneg b; simp only [List.nil_append, most]; omega
 | cons p a ih => simp only [List.cons_append, most, ih]; omega
theorem most_snoc (l : List PT) (p : PT) : most (l ++ [p]) = max (most l) (deep p) := by
 have := most_nonneg l
 rw [most_append]; simp only [most]; omega
end PT
/-- a group that is open: its number, its place, its branches that are whole, the one that is being put together -/
structure GS where
 n : Int
 pl : Int
 done : List PT
 cur : List PT
def GS.all (g : GS) : List PT := g.done ++ [.branch g.cur]
def GS.put (g : GS) (p : PT) : GS := { g with cur := g.cur ++ [p] }
def GS.whole (g : GS) : PT := .group g.n g.pl (.choice g.all)
/-- what puts a tree together: the innermost open group, those around it, how many groups, which have ended -/
structure MS where
 top : GS
 below : List GS
 many : Int
 ended : List Int
def leafN (k n : Int) (r : List S64) : PT := .leaf (.mk k n 0 0 r [])
namespace MS
def put (m : MS) (p : PT) : MS := { m with top := m.top.put p }
def start : MS := ⟨⟨0, 0, [], []⟩, [], 0, []⟩
def rep (m : MS) (p : PT) (lo hi : Int) : MS := { m with top := { m.top with cur := m.top.cur.dropLast ++ [.often p lo hi] } }
/-- a token -/
def tok (m : MS) (t : Tok) : Except Int MS :=
 if t.kind = 3 then (if m.many = 30 then .error 42 else .ok ⟨⟨m.many + 1, t.sat, [], []⟩, m.top :: m.below, m.many + 1, m.ended⟩)
 else if t.kind = 4 then (match m.below with
  | [] => .error 40
  | g :: b => .ok ⟨g.put m.top.whole, b, m.many, m.top.n :: m.ended⟩)
 else if t.kind = 5 then .ok { m with top := ⟨m.top.n, m.top.pl, m.top.all, []⟩ }
 else if t.kind = 2 then (match m.top.cur.getLast? with
  | none => .error 0
  | some p => .ok (m.rep p t.lo t.hi))
 else if t.kind = 6 then (if m.ended.contains t.n = true then .ok (m.put (leafN 8 t.n [])) else .error 41)
 else if t.kind = 7 then .ok (m.put (leafN 3 0 []))
 else if t.kind = 8 then .ok (m.put (leafN 4 0 []))
 else .ok (m.put (leafN 2 0 t.r))
def run : List Tok → MS → Except Er MS
 | [], m => .ok m
 | t :: l, m => match m.tok t with
  | .error e => .error (e, t.sat)
  | .ok m' => run l m'
theorem run_cons {t : Tok} {l : List Tok} {m f : MS} (h : run (t :: l) m = .ok f) : ∃ m', m.tok t = .ok m' ∧ run l m' = .ok f := by
 unfold run at h
 split at h
 ·cases h
 ·exact ⟨_, by assumption, h⟩
/-- the place of the outermost group that is open -/
def second : GS → List GS → Int
 | t, [] => t.pl
 | t, [_] => t.pl
 | _, g :: b => second g b
end MS
/-- a pattern's tokens put together -/
def partsT (l : List Tok) : Except Er PT := match MS.run l MS.start with
 | .error e => .error e
 | .ok m => if m.below.isEmpty = true then .ok (.choice m.top.all) else .error (39, MS.second m.top m.below)
def wholeT (p : PT) : Except Er NT := if 40 < p.deep then .error (43, 0) else if 2000 < countT p.node then .error (42, 0) else .ok p.node
def parseT (l : List Tok) : Except Er NT := match partsT l with
 | .error e => .error e
 | .ok p => wholeT p
/-- a sign of how often stands behind what may be repeated -/
def okSeq : Int → List Tok → Prop
 | _, [] => True
 | q, t :: l => (t.kind = 2 → q ≠ 0 ∧ q ≠ 3 ∧ q ≠ 5 ∧ q ≠ 7 ∧ q ≠ 8) ∧ 1 ≤ t.kind ∧ t.kind ≤ 8 ∧ okSeq t.kind l
/-- the kind of the next token; 0: there is none -/
def hk : List Tok → Int
 | [] => 0
 | t :: _ => t.kind
/-- the document's: what is wrong with tokens: the groups that are open (the outermost first; number, place), how many, which have ended -/
structure HS where
 gs : List (Int × Int)
 many : Int
 ended : List Int
namespace HS
def tok (h : HS) (t : Tok) : Except Int HS :=
 if t.kind = 3 then (if 30 ≤ h.many then .error 42 else .ok ⟨h.gs ++ [(h.many + 1, t.sat)], h.many + 1, h.ended⟩)
 else if t.kind = 4 then (match h.gs.getLast? with
  | none => .error 40
  | some x => .ok ⟨h.gs.dropLast, h.many, x.1 :: h.ended⟩)
 else if t.kind = 6 then (if h.ended.contains t.n = true then .ok h else .error 41)
 else .ok h
def run : List Tok → HS → Except Er HS
 | [], h => .ok h
 | t :: l, h => match h.tok t with
  | .error e => .error (e, t.sat)
  | .ok h' => run l h'
end HS
def opensL : GS → List GS → List (Int × Int)
 | _, [] => []
 | t, g :: b => opensL g b ++ [(t.n, t.pl)]
def MS.held (m : MS) : HS := ⟨opensL m.top m.below, m.many, m.ended⟩
namespace NT
mutual
/-- how deep a tree is -/
def dep : NT → Int
 | .mk _ _ _ _ _ kids => 1 + depL kids
def depL : List NT → Int
 | [] => 0
 | t :: l => max (dep t) (depL l)
end
theorem depL_nonneg : ∀ l : List NT, 0 ≤ depL l
 | [] => by simp [depL]
 | t :: l => by have := depL_nonneg l; simp only [depL]; omega
theorem dep_pos (t : NT) : 1 ≤ dep t := by cases t with | mk k m lo hi r kids => have := depL_nonneg kids; simp only [dep]; omega
end NT
namespace PT
/-- which sort of part: 0: a thing of a branch; 1: a branch; 2: a choice -/
def tag : PT → Nat
 | .leaf _ => 0
 | .often _ _ _ => 0
 | .group _ _ _ => 0
 | .branch _ => 1
 | .choice _ => 2
mutual
/-- a part as the maker makes it -/
def gd : PT → Prop
 | .leaf t => t.kids = [] ∧ (t.k = 2 ∨ t.k = 3 ∨ t.k = 4 ∨ t.k = 8)
 | .often p _ _ => gd p ∧ tag p = 0
 | .group _ _ c => gd c ∧ tag c = 2
 | .branch l => gdL l 0
 | .choice l => gdL l 1 ∧ l ≠ []
def gdL : List PT → Nat → Prop
 | [], _ => True
 | p :: l, i => gd p ∧ tag p = i ∧ gdL l i
end
theorem gdL_iff (l : List PT) (i : Nat) : gdL l i ↔ ∀ p, p ∈ l → gd p ∧ tag p = i := by
 induction l with
 | nil => simp [gdL]
 | cons p l ih => simp only [gdL, ih, List.mem_cons, forall_eq_or_imp, and_assoc]
theorem some6_of {l : List NT} (h : ∀ t, t ∈ l → t.k ≠ 1) : some6 l = l := by
 unfold some6
 rw [List.filter_eq_self]
 intro t ht
 simp [h t ht]
theorem catOut_of : ∀ {l : List NT}, (∀ t, t ∈ l → t.k ≠ 1 ∧ t.k ≠ 5) → catOut l = l
 | [], _ => rfl
 | t :: l, h => by
  have h1 := h t List.mem_cons_self
  have h2 := catOut_of (l := l) (fun t ht => h t (List.mem_cons_of_mem _ ht))
  unfold catOut at h2 ⊢
  rw [List.flatMap_cons, h2, catOne, if_neg h1.2, some6_of (by intro t' ht'; simp at ht'; subst ht'; exact h1.1)]
  rfl
theorem altOut_of : ∀ {l : List NT}, (∀ t, t ∈ l → t.k ≠ 6) → altOut l = l
 | [], _ => rfl
 | t :: l, h => by
  have h1 := h t List.mem_cons_self
  have h2 := altOut_of (l := l) (fun t ht => h t (List.mem_cons_of_mem _ ht))
  unfold altOut at h2 ⊢
  rw [List.flatMap_cons, h2, altOne, if_neg h1]
  rfl
theorem depL_nodes (l : List PT) (h : ∀ p, p ∈ l → p.deep = p.node.dep) : most l = NT.depL (nodes l) := by
 induction l with
 | nil => rfl
 | cons p l ih => simp only [most, nodes, NT.depL]; rw [h p List.mem_cons_self, ih (fun p hp => h p (List.mem_cons_of_mem _ hp))]
theorem nodes_mem {l : List PT} {t : NT} (h : t ∈ nodes l) : ∃ p, p ∈ l ∧ t = p.node := by
 rw [nodes_map] at h
 obtain ⟨p, hp, e⟩ := List.mem_map.1 h
 exact ⟨p, hp, e.symm⟩
theorem nodes_length (l : List PT) : (nodes l).length = l.length := by rw [nodes_map, List.length_map]
theorem oneT_dep (l : List NT) (k : Int) (no : NT) : (oneT l k no).dep = if l.length = 0 then no.dep else if l.length = 1 then NT.depL l else 1 + NT.depL l := by
 match l with
 | [] => rfl
 | [t] => have := t.dep_pos; simp only [oneT, List.length_singleton, NT.depL]; simp; omega
 | a :: b :: l => simp [oneT, NT.dep]
theorem oneT_k (l : List NT) (k : Int) (no : NT) : (oneT l k no).k = no.k ∨ (oneT l k no).k = k ∨ ∃ t, t ∈ l ∧ (oneT l k no).k = t.k := by
 match l with
 | [] => exact .inl rfl
 | [t] => exact .inr (.inr ⟨t, by simp, rfl⟩)
 | a :: b :: l => exact .inr (.inl rfl)
/-- the kinds of nodes; how deep they are -/
theorem gd_node (p : PT) : gd p → p.deep = p.node.dep ∧ (tag p = 0 → p.node.k = 2 ∨ p.node.k = 3 ∨ p.node.k = 4 ∨ p.node.k = 7 ∨ p.node.k = 8 ∨ p.node.k = 9) ∧ (tag p = 1 → p.node.k ≠ 6) := by
 refine ind (P := fun p => gd p → p.deep = p.node.dep ∧ (tag p = 0 → p.node.k = 2 ∨ p.node.k = 3 ∨ p.node.k = 4 ∨ p.node.k = 7 ∨ p.node.k = 8 ∨ p.node.k = 9) ∧ (tag p = 1 → p.node.k ≠ 6)) ?_ ?_ ?_ ?_ ?_ p
 ·intro t h
  obtain ⟨h1, h2⟩ := h
  refine ⟨?_, fun _ => ?_, fun h => by simp [tag] at h⟩
  ·obtain ⟨k, m, lo, hi, r, kids⟩ := t
   simp only [NT.kids] at h1
   subst h1
   rfl
  ·simp only [node]; omega
 ·intro p lo hi ih h
  have := ih h.1
  refine ⟨?_, fun _ => ?_, fun h => by simp [tag] at h⟩
  ·have h1 := p.node.dep_pos
   simp only [deep, node, NT.dep, NT.depL]; omega
  ·simp [node, NT.k]
 ·intro n pl c ih h
  have := ih h.1
  refine ⟨?_, fun _ => ?_, fun h => by simp [tag] at h⟩
  ·have h1 := c.node.dep_pos
   simp only [deep, node, NT.dep, NT.depL]; omega
  ·simp [node, NT.k]
 ·intro l ih h
  simp only [gd] at h
  have hg := (gdL_iff l 0).1 h
  have hd := depL_nodes l (fun p hp => (ih p hp (hg p hp).1).1)
  have hk : ∀ t, t ∈ nodes l → t.k = 2 ∨ t.k = 3 ∨ t.k = 4 ∨ t.k = 7 ∨ t.k = 8 ∨ t.k = 9 := fun t ht => by
   obtain ⟨p, hp, rfl⟩ := nodes_mem ht
   exact (ih p hp (hg p hp).1).2.1 (hg p hp).2
  have hc : catOut (nodes l) = nodes l := catOut_of (fun t ht => by have := hk t ht; omega)
  refine ⟨?_, fun h => by simp [tag] at h, fun _ => ?_⟩
  ·simp only [deep, node, catT, hc, oneT_dep, nodes_length]
   rw [hd]
   have h0 := NT.depL_nonneg (nodes l)
   by_cases e0 : l.length = 0
   ·rw [if_neg (by omega), if_pos e0]
    have : l = [] := List.length_eq_zero_iff.1 e0
    subst this
    rfl
   ·rw [if_neg e0]
    by_cases e1 : l.length = 1
    ·rw [if_neg (by omega), if_pos e1]
     cases l with
     | nil => simp at e0
     | cons p l => have := p.node.dep_pos; simp only [nodes, NT.depL]; omega
    ·rw [if_pos (by omega), if_neg e1]
  ·simp only [node, catT, hc]
   rcases oneT_k (nodes l) 5 (.mk 1 0 0 0 [] []) with e | e | ⟨t, ht, e⟩
   ·rw [e]; simp [NT.k]
   ·rw [e]; decide
   ·rw [e]; have := hk t ht; omega
 ·intro l ih h
  simp only [gd] at h
  have hg := (gdL_iff l 1).1 h.1
  have hd := depL_nodes l (fun p hp => (ih p hp (hg p hp).1).1)
  have hk : ∀ t, t ∈ nodes l → t.k ≠ 6 := fun t ht => by
   obtain ⟨p, hp, rfl⟩ := nodes_mem ht
   exact (ih p hp (hg p hp).1).2.2 (hg p hp).2
  have hc : altOut (nodes l) = nodes l := altOut_of hk
  refine ⟨?_, fun h => by simp [tag] at h, fun h => by simp [tag] at h⟩
  have hne : l.length ≠ 0 := fun e => h.2 (List.length_eq_zero_iff.1 e)
  simp only [deep, node, altT, hc, oneT_dep, nodes_length]
  rw [hd, if_neg hne]
  by_cases e1 : l.length = 1
  ·rw [if_neg (by omega), if_pos e1]
  ·rw [if_pos (by omega), if_neg e1]
end PT
/-- all parts of a maker are as a maker makes them -/
def GS.gd (g : GS) : Prop := PT.gdL g.done 1 ∧ PT.gdL g.cur 0
def MS.gd (m : MS) : Prop := m.top.gd ∧ ∀ g, g ∈ m.below → g.gd
theorem PT.gdL_append {a b : List PT} {i : Nat} : PT.gdL (a ++ b) i ↔ PT.gdL a i ∧ PT.gdL b i := by
 simp only [PT.gdL_iff, List.mem_append]
 exact ⟨fun h => ⟨fun p hp => h p (.inl hp), fun p hp => h p (.inr hp)⟩, fun h p hp => hp.elim (h.1 p) (h.2 p)⟩
theorem GS.gd.all {g : GS} (h : g.gd) : PT.gdL g.all 1 := by
 unfold GS.all
 rw [PT.gdL_append]
 exact ⟨h.1, by simp only [PT.gdL, PT.gd, PT.tag]; exact ⟨h.2, trivial, trivial⟩⟩
theorem GS.gd.put {g : GS} (h : g.gd) {p : PT} (hp : PT.gd p) (ht : p.tag = 0) : (g.put p).gd := ⟨h.1, by show PT.gdL (g.cur ++ [p]) 0; rw [PT.gdL_append]; exact ⟨h.2, hp, ht, trivial⟩⟩
theorem GS.gd.whole {g : GS} (h : g.gd) : PT.gd g.whole := by
 unfold GS.whole
 simp only [PT.gd, PT.tag, and_true]
 exact ⟨h.all, by simp [GS.all]⟩
theorem MS.gd.tok {m m' : MS} {t : Tok} (h : m.gd) (hm : m.tok t = .ok m') : m'.gd := by
 unfold MS.tok at hm
 have hput : ∀ p, PT.gd p → p.tag = 0 → (m.put p).gd := fun p h1 h2 => ⟨h.1.put h1 h2, h.2⟩
 have hleaf : ∀ k n r, (k = 2 ∨ k = 3 ∨ k = 4 ∨ k = 8) → (m.put (leafN k n r)).gd := fun k n r hk => hput _ ⟨rfl, hk⟩ rfl
 split at hm
 ·split at hm
  ·cases hm
  ·cases hm
   exact ⟨⟨by simp [PT.gdL], by simp [PT.gdL]⟩, fun g hg => by rcases List.mem_cons.1 hg with rfl | hg; exact h.1; exact h.2 g hg⟩
 split at hm
 ·split at hm
  ·cases hm
  ·rename_i g b hb
   cases hm
   have hg := h.2 g (by rw [hb]; exact List.mem_cons_self)
   exact ⟨hg.put h.1.whole rfl, fun g' hg' => h.2 g' (by rw [hb]; exact List.mem_cons_of_mem _ hg')⟩
 split at hm
 ·cases hm
  exact ⟨⟨h.1.all, by simp [PT.gdL]⟩, h.2⟩
 split at hm
 ·split at hm
  ·cases hm
  ·rename_i p hp
   cases hm
   refine ⟨⟨h.1.1, ?_⟩, h.2⟩
   have hc := (PT.gdL_iff _ _).1 h.1.2
   show PT.gdL (m.top.cur.dropLast ++ [.often p t.lo t.hi]) 0
   rw [PT.gdL_append]
   have hp2 := hc p (List.mem_of_getLast? hp)
   exact ⟨(PT.gdL_iff _ _).2 (fun x hx => hc x ((List.dropLast_sublist _).subset hx)), ⟨hp2.1, hp2.2⟩, rfl, trivial⟩
 split at hm
 ·split at hm
  ·cases hm; exact hleaf _ _ _ (by simp)
  ·cases hm
 split at hm
 ·cases hm; exact hleaf _ _ _ (by simp)
 split at hm
 ·cases hm; exact hleaf _ _ _ (by simp)
 ·cases hm; exact hleaf _ _ _ (by simp)
theorem MS.gd.run : ∀ {l : List Tok} {m m' : MS}, m.gd → MS.run l m = .ok m' → m'.gd
 | [], m, m', h, hr => by cases hr; exact h
 | t :: l, m, m', h, hr => by
  obtain ⟨m1, h1, h2⟩ := MS.run_cons hr
  exact MS.gd.run (h.tok h1) h2
theorem parts_gd {l : List Tok} {p : PT} (h : partsT l = .ok p) : p.gd ∧ p.tag = 2 := by
 unfold partsT at h
 split at h
 ·cases h
 ·rename_i m hm
  split at h
  ·cases h
   have hg := MS.gd.run (l := l) (m := MS.start) ⟨⟨by simp [MS.start, PT.gdL], by simp [MS.start, PT.gdL]⟩, fun g hg => by simp [MS.start] at hg⟩ hm
   exact ⟨⟨hg.1.all, by simp [GS.all]⟩, rfl⟩
  ·cases h
end Go.Proofs.YtamhkdlcoghdbaaGreatDoor.PCls
