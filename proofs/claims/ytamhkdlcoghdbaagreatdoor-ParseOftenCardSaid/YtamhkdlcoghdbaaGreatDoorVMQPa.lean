/- Put together (wip/tools/pack.py): QPa, QPb, QStr, QLa. -/
import Derived.Test.YtamhkdlcoghdbaaGreatDoorVQTAltG
import Derived.Shelf.Strings.Search1
import Derived.Shelf.Strings.Search2
import Derived.Shelf.Strings.Search3
import Derived.Shelf.Strings.Prefix
import Derived.WalkLawsBesides
import Derived.Lib.IndexBytes
/- Out of Pa (wip/tools/prune2.py): the declarations alone that the texts of the trees name. -/
namespace Go.Proofs.YtamhkdlcoghdbaaGreatDoor.PCls
set_option linter.unusedVariables false
/-- a part of a pattern's tree, as it is put together -/
inductive PT where
 | leaf (t : NT)
 | often (p : PT) (lo hi : Int)
 | group (n pl : Int) (c : PT)
 | branch (l : List PT)
 | choice (l : List PT)
namespace PT
theorem ind {P : PT → Prop} (h1 : ∀ t, P (.leaf t)) (h2 : ∀ p lo hi, P p → P (.often p lo hi)) (h3 : ∀ n pl c, P c → P (.group n pl c)) (h4 : ∀ l, (∀ p, p ∈ l → P p) → P (.branch l)) (h5 : ∀ l, (∀ p, p ∈ l → P p) → P (.choice l)) (p : PT) : P p := by
 refine PT.rec (motive_1 := P) (motive_2 := fun l => ∀ p, p ∈ l → P p) h1 h2 h3 h4 h5 ?_ ?_ p
 ·intro p hp; cases hp
 ·intro a l iha ihl p hp
  rcases List.mem_cons.1 hp with rfl | hp
  ·exact iha
  ·exact ihl p hp
mutual
/-- a part's tree -/
def node : PT → NT
 | .leaf t => t
 | .often p lo hi => .mk 9 0 lo hi [] [node p]
 | .group n _ c => .mk 7 n 0 0 [] [node c]
 | .branch l => catT (nodes l)
 | .choice l => altT (nodes l)
def nodes : List PT → List NT
 | [] => []
 | p :: l => node p :: nodes l
end
mutual
/-- how deep it is -/
def deep : PT → Int
 | .leaf _ => 1
 | .often p _ _ => 1 + deep p
 | .group _ _ c => 1 + deep c
 | .branch l => if 1 < l.length then 1 + most l else max (most l) 1
 | .choice l => if 1 < l.length then 1 + most l else most l
def most : List PT → Int
 | [] => 0
 | p :: l => max (deep p) (most l)
end
theorem nodes_map (l : List PT) : nodes l = l.map node := by
 induction l with
 | nil => rfl
 | cons p l ih => simp only [nodes, List.map_cons, ih]
theorem most_nonneg (l : List PT) : 0 ≤ most l := by
 induction l with
 | nil => simp [most]
 | cons p l ih => simp only [most]; omega
theorem most_append (a b : List PT) : most (a ++ b) = max (most a) (most b) := by
 induction a with
 | nil => have := most_nonneg b; simp only [List.nil_append, most]; omega
 | cons p a ih => simp only [List.cons_append, most, ih]; omega
theorem most_snoc (l : List PT) (p : PT) : most (l ++ [p]) = max (most l) (deep p) := by
 have := most_nonneg l
 rw [most_append]; simp only [most]; omega
end PT
/-- a group that is open: its number, its place, its branches that are whole, the one that is being put together -/
structure GS where
 n : Int
 pl : Int
 done : List PT
 cur : List PT
def GS.all (g : GS) : List PT := g.done ++ [.branch g.cur]
def GS.put (g : GS) (p : PT) : GS := { g with cur := g.cur ++ [p] }
def GS.whole (g : GS) : PT := .group g.n g.pl (.choice g.all)
/-- what puts a tree together: the innermost open group, those around it, how many groups, which have ended -/
structure MS where
 top : GS
 below : List GS
 many : Int
 ended : List Int
def leafN (k n : Int) (r : List S64) : PT := .leaf (.mk k n 0 0 r [])
namespace MS
def put (m : MS) (p : PT) : MS := { m with top := m.top.put p }
def start : MS := ⟨⟨0, 0, [], []⟩, [], 0, []⟩
def rep (m : MS) (p : PT) (lo hi : Int) : MS := { m with top := { m.top with cur := m.top.cur.dropLast ++ [.often p lo hi] } }
/-- a token -/
def tok (m : MS) (t : Tok) : Except Int MS :=
 if t.kind = 3 then (if m.many = 30 then .error 42 else .ok ⟨⟨m.many + 1, t.sat, [], []⟩, m.top :: m.below, m.many + 1, m.ended⟩)
 else if t.kind = 4 then (match m.below with
  | [] => .error 40
  | g :: b => .ok ⟨g.put m.top.whole, b, m.many, m.top.n :: m.ended⟩)
 else if t.kind = 5 then .ok { m with top := ⟨m.top.n, m.top.pl, m.top.all, []⟩ }
 else if t.kind = 2 then (match m.top.cur.getLast? with
  | none => .error 0
  | some p => .ok (m.rep p t.lo t.hi))
 else if t.kind = 6 then (if m.ended.contains t.n = true then .ok (m.put (leafN 8 t.n [])) else .error 41)
 else if t.kind = 7 then .ok (m.put (leafN 3 0 []))
 else if t.kind = 8 then .ok (m.put (leafN 4 0 []))
 else .ok (m.put (leafN 2 0 t.r))
def run : List Tok → MS → Except Er MS
 | [], m => .ok m
 | t :: l, m => match m.tok t with
  | .error e => .error (e, t.sat)
  | .ok m' => run l m'
theorem run_cons {t : Tok} {l : List Tok} {m f : MS} (h : run (t :: l) m = .ok f) : ∃ m', m.tok t = .ok m' ∧ run l m' = .ok f := by
 unfold run at h
 split at h
 ·cases h
 ·exact ⟨_, by assumption, h⟩
/-- the place of the outermost group that is open -/
def second : GS → List GS → Int
 | t, [] => t.pl
 | t, [_] => t.pl
 | _, g :: b => second g b
end MS
/-- a pattern's tokens put together -/
def partsT (l : List Tok) : Except Er PT := match MS.run l MS.start with
 | .error e => .error e
 | .ok m => if m.below.isEmpty = true then .ok (.choice m.top.all) else .error (39, MS.second m.top m.below)
def wholeT (p : PT) : Except Er NT := if 40 < p.deep then .error (43, 0) else if 2000 < countT p.node then .error (42, 0) else .ok p.node
def parseT (l : List Tok) : Except Er NT := match partsT l with
 | .error e => .error e
 | .ok p => wholeT p
/-- a sign of how often stands behind what may be repeated -/
def okSeq : Int → List Tok → Prop
 | _, [] => True
 | q, t :: l => (t.kind = 2 → q ≠ 0 ∧ q ≠ 3 ∧ q ≠ 5 ∧ q ≠ 7 ∧ q ≠ 8) ∧ 1 ≤ t.kind ∧ t.kind ≤ 8 ∧ okSeq t.kind l
/-- the kind of the next token; 0: there is none -/
def hk : List Tok → Int
 | [] => 0
 | t :: _ => t.kind
/-- the document's: what is wrong with tokens: the groups that are open (the outermost first; number, place), how many, which have ended -/
structure HS where
 gs : List (Int × Int)
 many : Int
 ended : List Int
namespace HS
def tok (h : HS) (t : Tok) : Except Int HS :=
 if t.kind = 3 then (if 30 ≤ h.many then .error 42 else .ok ⟨h.gs ++ [(h.many + 1, t.sat)], h.many + 1, h.ended⟩)
 else if t.kind = 4 then (match h.gs.getLast? with
  | none => .error 40
  | some x => .ok ⟨h.gs.dropLast, h.many, x.1 :: h.ended⟩)
 else if t.kind = 6 then (if h.ended.contains t.n = true then .ok h else .error 41)
 else .ok h
def run : List Tok → HS → Except Er HS
 | [], h => .ok h
 | t :: l, h => match h.tok t with
  | .error e => .error (e, t.sat)
  | .ok h' => run l h'
end HS
namespace NT
mutual
/-- how deep a tree is -/
def dep : NT → Int
 | .mk _ _ _ _ _ kids => 1 + depL kids
def depL : List NT → Int
 | [] => 0
 | t :: l => max (dep t) (depL l)
end
theorem depL_nonneg : ∀ l : List NT, 0 ≤ depL l
 | [] => by simp [depL]
 | t :: l => by have := depL_nonneg l; simp only [depL]; omega
theorem dep_pos (t : NT) : 1 ≤ dep t := by cases t with | mk k m lo hi r kids => have := depL_nonneg kids; simp only [dep]; omega
end NT
namespace PT
/-- which sort of part: 0: a thing of a branch; 1: a branch; 2: a choice -/
def tag : PT → Nat
 | .leaf _ => 0
 | .often _ _ _ => 0
 | .group _ _ _ => 0
 | .branch _ => 1
 | .choice _ => 2
mutual
/-- a part as the maker makes it -/
def gd : PT → Prop
 | .leaf t => t.kids = [] ∧ (t.k = 2 ∨ t.k = 3 ∨ t.k = 4 ∨ t.k = 8)
 | .often p _ _ => gd p ∧ tag p = 0
 | .group _ _ c => gd c ∧ tag c = 2
 | .branch l => gdL l 0
 | .choice l => gdL l 1 ∧ l ≠ []
def gdL : List PT → Nat → Prop
 | [], _ => True
 | p :: l, i => gd p ∧ tag p = i ∧ gdL l i
end
theorem gdL_iff (l : List PT) (i : Nat) : gdL l i ↔ ∀ p, p ∈ l → gd p ∧ tag p = i := by
 induction l with
 | nil => simp [gdL]
 | cons p l ih => simp only [gdL, ih, List.mem_cons, forall_eq_or_imp, and_assoc]
theorem some6_of {l : List NT} (h : ∀ t, t ∈ l → t.k ≠ 1) : some6 l = l := by
 unfold some6
 rw [List.filter_eq_self]
 intro t ht
 simp [h t ht]
theorem catOut_of : ∀ {l : List NT}, (∀ t, t ∈ l → t.k ≠ 1 ∧ t.k ≠ 5) → catOut l = l
 | [], _ => rfl
 | t :: l, h => by
  have h1 := h t List.mem_cons_self
  have h2 := catOut_of (l := l) (fun t ht => h t (List.mem_cons_of_mem _ ht))
  unfold catOut at h2 ⊢
  rw [List.flatMap_cons, h2, catOne, if_neg h1.2, some6_of (by intro t' ht'; simp at ht'; subst ht'; exact h1.1)]
  rfl
theorem altOut_of : ∀ {l : List NT}, (∀ t, t ∈ l → t.k ≠ 6) → altOut l = l
 | [], _ => rfl
 | t :: l, h => by
  have h1 := h t List.mem_cons_self
  have h2 := altOut_of (l := l) (fun t ht => h t (List.mem_cons_of_mem _ ht))
  unfold altOut at h2 ⊢
  rw [List.flatMap_cons, h2, altOne, if_neg h1]
  rfl
theorem depL_nodes (l : List PT) (h : ∀ p, p ∈ l → p.deep = p.node.dep) : most l = NT.depL (nodes l) := by
 induction l with
 | nil => rfl
 | cons p l ih => simp only [most, nodes, NT.depL]; rw [h p List.mem_cons_self, ih (fun p hp => h p (List.mem_cons_of_mem _ hp))]
theorem nodes_mem {l : List PT} {t : NT} (h : t ∈ nodes l) : ∃ p, p ∈ l ∧ t = p.node := by
 rw [nodes_map] at h
 obtain ⟨p, hp, e⟩ := List.mem_map.1 h
 exact ⟨p, hp, e.symm⟩
theorem nodes_length (l : List PT) : (nodes l).length = l.length := by rw [nodes_map, List.length_map]
theorem oneT_dep (l : List NT) (k : Int) (no : NT) : (oneT l k no).dep = if l.length = 0 then no.dep else if l.length = 1 then NT.depL l else 1 + NT.depL l := by
 match l with
 | [] => rfl
 | [t] => have := t.dep_pos; simp only [oneT, List.length_singleton, NT.depL]; simp; omega
 | a :: b :: l => simp [oneT, NT.dep]
theorem oneT_k (l : List NT) (k : Int) (no : NT) : (oneT l k no).k = no.k ∨ (oneT l k no).k = k ∨ ∃ t, t ∈ l ∧ (oneT l k no).k = t.k := by
 match l with
 | [] => exact .inl rfl
 | [t] => exact .inr (.inr ⟨t, by simp, rfl⟩)
 | a :: b :: l => exact .inr (.inl rfl)
/-- the kinds of nodes; how deep they are -/
theorem gd_node (p : PT) : gd p → p.deep = p.node.dep ∧ (tag p = 0 → p.node.k = 2 ∨ p.node.k = 3 ∨ p.node.k = 4 ∨ p.node.k = 7 ∨ p.node.k = 8 ∨ p.node.k = 9) ∧ (tag p = 1 → p.node.k ≠ 6) := by
 refine ind (P := fun p => gd p → p.deep = p.node.dep ∧ (tag p = 0 → p.node.k = 2 ∨ p.node.k = 3 ∨ p.node.k = 4 ∨ p.node.k = 7 ∨ p.node.k = 8 ∨ p.node.k = 9) ∧ (tag p = 1 → p.node.k ≠ 6)) ?_ ?_ ?_ ?_ ?_ p
 ·intro t h
  obtain ⟨h1, h2⟩ := h
  refine ⟨?_, fun _ => ?_, fun h => by simp [tag] at h⟩
  ·obtain ⟨k, m, lo, hi, r, kids⟩ := t
   simp only [NT.kids] at h1
   subst h1
   rfl
  ·simp only [node]; omega
 ·intro p lo hi ih h
  have := ih h.1
  refine ⟨?_, fun _ => ?_, fun h => by simp [tag] at h⟩
  ·have h1 := p.node.dep_pos
   simp only [deep, node, NT.dep, NT.depL]; omega
  ·simp [node, NT.k]
 ·intro n pl c ih h
  have := ih h.1
  refine ⟨?_, fun _ => ?_, fun h => by simp [tag] at h⟩
  ·have h1 := c.node.dep_pos
   simp only [deep, node, NT.dep, NT.depL]; omega
  ·simp [node, NT.k]
 ·intro l ih h
  simp only [gd] at h
  have hg := (gdL_iff l 0).1 h
  have hd := depL_nodes l (fun p hp => (ih p hp (hg p hp).1).1)
  have hk : ∀ t, t ∈ nodes l → t.k = 2 ∨ t.k = 3 ∨ t.k = 4 ∨ t.k = 7 ∨ t.k = 8 ∨ t.k = 9 := fun t ht => by
   obtain ⟨p, hp, rfl⟩ := nodes_mem ht
   exact (ih p hp (hg p hp).1).2.1 (hg p hp).2
  have hc : catOut (nodes l) = nodes l := catOut_of (fun t ht => by have := hk t ht; omega)
  refine ⟨?_, fun h => by simp [tag] at h, fun _ => ?_⟩
  ·simp only [deep, node, catT, hc, oneT_dep, nodes_length]
   rw [hd]
   have h0 := NT.depL_nonneg (nodes l)
   by_cases e0 : l.length = 0
   ·rw [if_neg (by omega), if_pos e0]
    have : l = [] := List.length_eq_zero_iff.1 e0
    subst this
    rfl
   ·rw [if_neg e0]
    by_cases e1 : l.length = 1
    ·rw [if_neg (by omega), if_pos e1]
     cases l with
     | nil => simp at e0
     | cons p l => have := p.node.dep_pos; simp only [nodes, NT.depL]; omega
    ·rw [if_pos (by omega), if_neg e1]
  ·simp only [node, catT, hc]
   rcases oneT_k (nodes l) 5 (.mk 1 0 0 0 [] []) with e | e | ⟨t, ht, e⟩
   ·rw [e]; simp [NT.k]
   ·rw [e]; decide
   ·rw [e]; have := hk t ht; omega
 ·intro l ih h
  simp only [gd] at h
  have hg := (gdL_iff l 1).1 h.1
  have hd := depL_nodes l (fun p hp => (ih p hp (hg p hp).1).1)
  have hk : ∀ t, t ∈ nodes l → t.k ≠ 6 := fun t ht => by
   obtain ⟨p, hp, rfl⟩ := nodes_mem ht
   exact (ih p hp (hg p hp).1).2.2 (hg p hp).2
  have hc : altOut (nodes l) = nodes l := altOut_of hk
  refine ⟨?_, fun h => by simp [tag] at h, fun h => by simp [tag] at h⟩
  have hne : l.length ≠ 0 := fun e => h.2 (List.length_eq_zero_iff.1 e)
  simp only [deep, node, altT, hc, oneT_dep, nodes_length]
  rw [hd, if_neg hne]
  by_cases e1 : l.length = 1
  ·rw [if_neg (by omega), if_pos e1]
  ·rw [if_pos (by omega), if_neg e1]
end PT
/-- all parts of a maker are as a maker makes them -/
def GS.gd (g : GS) : Prop := PT.gdL g.done 1 ∧ PT.gdL g.cur 0
def MS.gd (m : MS) : Prop := m.top.gd ∧ ∀ g, g ∈ m.below → g.gd
theorem PT.gdL_append {a b : List PT} {i : Nat} : PT.gdL (a ++ b) i ↔ PT.gdL a i ∧ PT.gdL b i := by
 simp only [PT.gdL_iff, List.mem_append]
 exact ⟨fun h => ⟨fun p hp => h p (.inl hp), fun p hp => h p (.inr hp)⟩, fun h p hp => hp.elim (h.1 p) (h.2 p)⟩
theorem GS.gd.all {g : GS} (h : g.gd) : PT.gdL g.all 1 := by
 unfold GS.all
 rw [PT.gdL_append]
 exact ⟨h.1, by simp only [PT.gdL, PT.gd, PT.tag]; exact ⟨h.2, trivial, trivial⟩⟩
theorem GS.gd.put {g : GS} (h : g.gd) {p : PT} (hp : PT.gd p) (ht : p.tag = 0) : (g.put p).gd := ⟨h.1, by show PT.gdL (g.cur ++ [p]) 0; rw [PT.gdL_append]; exact ⟨h.2, hp, ht, trivial⟩⟩
theorem GS.gd.whole {g : GS} (h : g.gd) : PT.gd g.whole := by
 unfold GS.whole
 simp only [PT.gd, PT.tag, and_true]
 exact ⟨h.all, by simp [GS.all]⟩
theorem MS.gd.tok {m m' : MS} {t : Tok} (h : m.gd) (hm : m.tok t = .ok m') : m'.gd := by
 unfold MS.tok at hm
 have hput : ∀ p, PT.gd p → p.tag = 0 → (m.put p).gd := fun p h1 h2 => ⟨h.1.put h1 h2, h.2⟩
 have hleaf : ∀ k n r, (k = 2 ∨ k = 3 ∨ k = 4 ∨ k = 8) → (m.put (leafN k n r)).gd := fun k n r hk => hput _ ⟨rfl, hk⟩ rfl
 split at hm
 ·split at hm
  ·cases hm
  ·cases hm
   exact ⟨⟨by simp [PT.gdL], by simp [PT.gdL]⟩, fun g hg => by rcases List.mem_cons.1 hg with rfl | hg; exact h.1; exact h.2 g hg⟩
 split at hm
 ·split at hm
  ·cases hm
  ·rename_i g b hb
   cases hm
   have hg := h.2 g (by rw [hb]; exact List.mem_cons_self)
   exact ⟨hg.put h.1.whole rfl, fun g' hg' => h.2 g' (by rw [hb]; exact List.mem_cons_of_mem _ hg')⟩
 split at hm
 ·cases hm
  exact ⟨⟨h.1.all, by simp [PT.gdL]⟩, h.2⟩
 split at hm
 ·split at hm
  ·cases hm
  ·rename_i p hp
   cases hm
   refine ⟨⟨h.1.1, ?_⟩, h.2⟩
   have hc := (PT.gdL_iff _ _).1 h.1.2
   show PT.gdL (m.top.cur.dropLast ++ [.often p t.lo t.hi]) 0
   rw [PT.gdL_append]
   have hp2 := hc p (List.mem_of_getLast? hp)
   exact ⟨(PT.gdL_iff _ _).2 (fun x hx => hc x ((List.dropLast_sublist _).subset hx)), ⟨hp2.1, hp2.2⟩, rfl, trivial⟩
 split at hm
 ·split at hm
  ·cases hm; exact hleaf _ _ _ (by simp)
  ·cases hm
 split at hm
 ·cases hm; exact hleaf _ _ _ (by simp)
 split at hm
 ·cases hm; exact hleaf _ _ _ (by simp)
 ·cases hm; exact hleaf _ _ _ (by simp)
theorem MS.gd.run : ∀ {l : List Tok} {m m' : MS}, m.gd → MS.run l m = .ok m' → m'.gd
 | [], m, m', h, hr => by cases hr; exact h
 | t :: l, m, m', h, hr => by
  obtain ⟨m1, h1, h2⟩ := MS.run_cons hr
  exact MS.gd.run (h.tok h1) h2
theorem parts_gd {l : List Tok} {p : PT} (h : partsT l = .ok p) : p.gd ∧ p.tag = 2 := by
 unfold partsT at h
 split at h
 ·cases h
 ·rename_i m hm
  split at h
  ·cases h
   have hg := MS.gd.run (l := l) (m := MS.start) ⟨⟨by simp [MS.start, PT.gdL], by simp [MS.start, PT.gdL]⟩, fun g hg => by simp [MS.start] at hg⟩ hm
   exact ⟨⟨hg.1.all, by simp [GS.all]⟩, rfl⟩
  ·cases h
end Go.Proofs.YtamhkdlcoghdbaaGreatDoor.PCls
/- Out of Pb (wip/tools/prune2.py): the declarations alone that the texts of the trees name. -/
namespace Go.Proofs.YtamhkdlcoghdbaaGreatDoor.PCls
set_option linter.unusedVariables false
set_option linter.unusedSimpArgs false
/-- what is seen of groups and of backreferences -/
inductive Sg where
 | op (n : Int)
 | cl (n : Int)
 | bk (n : Int)
def runSg : List Sg → Int × List Int → Option (Int × List Int)
 | [], s => some s
 | .op n :: l, s => if n = s.1 + 1 ∧ s.1 < 30 then runSg l (s.1 + 1, s.2) else none
 | .cl n :: l, s => runSg l (s.1, s.2 ++ [n])
 | .bk n :: l, s => if s.2.contains n = true then runSg l s else none
theorem runSg_append (b : List Sg) : ∀ (a : List Sg) (s : Int × List Int), runSg (a ++ b) s = (runSg a s).bind (runSg b)
 | [], _ => rfl
 | .op n :: a, s => by
  simp only [List.cons_append, runSg]
  split
  ·exact runSg_append b a _
  ·rfl
 | .cl n :: a, s => runSg_append b a _
 | .bk n :: a, s => by
  simp only [List.cons_append, runSg]
  split
  ·exact runSg_append b a _
  ·rfl
namespace PT
mutual
def sig : PT → List Sg
 | .leaf t => if t.k = 8 then [.bk t.m] else []
 | .often p _ _ => sig p
 | .group n _ c => .op n :: (sig c ++ [.cl n])
 | .branch l => sigL l
 | .choice l => sigL l
def sigL : List PT → List Sg
 | [] => []
 | p :: l => sig p ++ sigL l
end
theorem sigL_append (a b : List PT) : sigL (a ++ b) = sigL a ++ sigL b := by
 induction a with
 | nil => rfl
 | cons p a ih => simp only [List.cons_append, sigL, ih, List.append_assoc]
end PT
def sigE : List Ev → List Sg
 | [] => []
 | .enter s :: l => (if s.n.k = 7 then [.op s.n.m] else if s.n.k = 8 then [.bk s.n.m] else []) ++ sigE l
 | .leave s :: l => (if s.n.k = 7 then [.cl s.n.m] else []) ++ sigE l
theorem sigE_append (a b : List Ev) : sigE (a ++ b) = sigE a ++ sigE b := by
 induction a with
 | nil => rfl
 | cons x a ih => cases x <;> simp only [List.cons_append, sigE, ih, List.append_assoc]
/-- the same, whatever stands around -/
def SigIs (t : NT) (g : List Sg) : Prop := ∀ (d a : Int) (f l b : Bool), sigE (evs t d a f l b) = g
theorem sigE_kids : ∀ (l : List PT), (∀ p, p ∈ l → SigIs p.node p.sig) → ∀ (d a : Int) (n i : Nat) (b : Bool), sigE (evsL (PT.nodes l) d a n i b) = PT.sigL l
 | [], _, _, _, _, _, _ => rfl
 | p :: l, h, d, a, n, i, b => by
  simp only [PT.nodes, evsL, sigE_append, PT.sigL]
  rw [h p List.mem_cons_self, sigE_kids l (fun p hp => h p (List.mem_cons_of_mem _ hp))]
theorem sig_one (l : List PT) (k : Int) (hk : k ≠ 7 ∧ k ≠ 8) (no : NT) (hno : no.k ≠ 7 ∧ no.k ≠ 8 ∧ no.kids = []) (h : ∀ p, p ∈ l → SigIs p.node p.sig) : SigIs (oneT (PT.nodes l) k no) (PT.sigL l) := by
 intro d a f ll b
 match l, h with
 | [], _ =>
  obtain ⟨k0, m, lo, hi, r, kids⟩ := no
  simp only [NT.k, NT.kids] at hno
  obtain ⟨h7, h8, rfl⟩ := hno
  simp [PT.nodes, oneT, evs, evsL, sigE, PT.sigL, NT.k, h7, h8]
 | [p], h =>
  simp only [PT.nodes, oneT, PT.sigL, List.append_nil]
  exact h p (by simp) d a f ll b
 | p :: q :: l, h =>
  have hh := sigE_kids (p :: q :: l) h
  simp only [PT.nodes, oneT, evs, sigE, sigE_append, NT.k] at hh ⊢
  rw [hh]
  simp [hk.1, hk.2]
theorem PT.gd_sig (p : PT) : p.gd → SigIs p.node p.sig := by
 refine PT.ind (P := fun p => p.gd → SigIs p.node p.sig) ?_ ?_ ?_ ?_ ?_ p
 ·intro t h d a f l b
  obtain ⟨h1, h2⟩ := h
  obtain ⟨k, m, lo, hi, r, kids⟩ := t
  simp only [NT.kids, NT.k] at h1 h2
  subst h1
  rcases h2 with rfl | rfl | rfl | rfl <;> rfl
 ·intro p lo hi ih h d a f l b
  have h1 := ih h.1
  simp only [PT.node, evs, evsL, sigE, sigE_append, PT.sig, NT.k]
  rw [h1]
  simp
 ·intro n pl c ih h d a f l b
  have h1 := ih h.1
  simp only [PT.node, evs, evsL, sigE, sigE_append, PT.sig, NT.k, NT.m]
  rw [h1]
  simp
 ·intro l ih h
  simp only [PT.gd] at h
  have hg := (PT.gdL_iff l 0).1 h
  have hk : ∀ t, t ∈ PT.nodes l → t.k ≠ 1 ∧ t.k ≠ 5 := fun t ht => by
   obtain ⟨p, hp, rfl⟩ := PT.nodes_mem ht
   have := (PT.gd_node p (hg p hp).1).2.1 (hg p hp).2
   omega
  simp only [PT.node, catT, PT.catOut_of hk, PT.sig]
  exact sig_one l 5 (by decide) _ (by simp [NT.k, NT.kids]) (fun p hp => ih p hp (hg p hp).1)
 ·intro l ih h
  simp only [PT.gd] at h
  have hg := (PT.gdL_iff l 1).1 h.1
  have hk : ∀ t, t ∈ PT.nodes l → t.k ≠ 6 := fun t ht => by
   obtain ⟨p, hp, rfl⟩ := PT.nodes_mem ht
   exact (PT.gd_node p (hg p hp).1).2.2 (hg p hp).2
  simp only [PT.node, altT, PT.altOut_of hk, PT.sig]
  exact sig_one l 6 (by decide) _ (by simp [NT.k, NT.kids]) (fun p hp => ih p hp (hg p hp).1)
/-- what a maker has seen -/
def sigS : GS → List GS → List Sg
 | t, [] => PT.sigL t.done ++ PT.sigL t.cur
 | t, g :: b => sigS g b ++ (.op t.n :: (PT.sigL t.done ++ PT.sigL t.cur))
theorem sigS_put {g : GS} {b : List GS} {p : PT} : sigS (g.put p) b = sigS g b ++ p.sig := by
 cases b with
 | nil => simp only [sigS, GS.put, PT.sigL_append, PT.sigL, List.append_nil, List.append_assoc]
 | cons x b => simp only [sigS, GS.put, PT.sigL_append, PT.sigL, List.append_nil, List.append_assoc, List.cons_append]
theorem sigS_same {g g' : GS} {b : List GS} (h1 : g'.n = g.n) (h2 : PT.sigL g'.done ++ PT.sigL g'.cur = PT.sigL g.done ++ PT.sigL g.cur) : sigS g' b = sigS g b := by
 cases b <;> simp only [sigS, h1, h2]
theorem sigL_all (g : GS) : PT.sigL g.all = PT.sigL g.done ++ PT.sigL g.cur := by simp only [GS.all, PT.sigL_append, PT.sigL, PT.sig, List.append_nil]
def MS.seen (m : MS) : Prop := m.many ≤ 30 ∧ ∃ E : List Int, runSg (sigS m.top m.below) (0, []) = some (m.many, E) ∧ ∀ n, n ∈ E ↔ n ∈ m.ended
theorem MS.seen.tok {m m' : MS} {t : Tok} (h : m.seen) (hm : m.tok t = .ok m') : m'.seen := by
 obtain ⟨h30, E, hE, hmem⟩ := h
 have hleaf : ∀ k n r, k ≠ 8 → (m.put (leafN k n r)).seen := fun k n r hk => ⟨h30, E, by
  show runSg (sigS (m.top.put (leafN k n r)) m.below) (0, []) = _
  rw [sigS_put, show (leafN k n r).sig = [] from if_neg hk, List.append_nil]
  exact hE, hmem⟩
 unfold MS.tok at hm
 split at hm
 ·split at hm
  ·cases hm
  ·cases hm
   refine ⟨by simp only; omega, E, ?_, hmem⟩
   simp only [sigS, PT.sigL, List.append_nil, runSg_append, hE, Option.bind, runSg]
   rw [if_pos ⟨trivial, by omega⟩]
 split at hm
 ·split at hm
  ·cases hm
  ·rename_i g b hb
   cases hm
   refine ⟨h30, E ++ [m.top.n], ?_, fun n => by simp [hmem n, or_comm]⟩
   rw [hb] at hE
   simp only [sigS_put, GS.whole, PT.sig, sigL_all]
   simp only [sigS] at hE
   rw [← List.cons_append, ← List.append_assoc, runSg_append, hE]
   rfl
 split at hm
 ·cases hm
  refine ⟨h30, E, ?_, hmem⟩
  show runSg (sigS ⟨m.top.n, m.top.pl, m.top.all, []⟩ m.below) (0, []) = _
  rw [sigS_same (g := m.top) (g' := ⟨m.top.n, m.top.pl, m.top.all, []⟩) rfl (by simp only [sigL_all, PT.sigL, List.append_nil])]
  exact hE
 split at hm
 ·split at hm
  ·cases hm
  ·rename_i p hp
   cases hm
   refine ⟨h30, E, ?_, hmem⟩
   show runSg (sigS ⟨m.top.n, m.top.pl, m.top.done, m.top.cur.dropLast ++ [.often p t.lo t.hi]⟩ m.below) (0, []) = _
   rw [sigS_same (g := m.top) (g' := ⟨m.top.n, m.top.pl, m.top.done, m.top.cur.dropLast ++ [PT.often p t.lo t.hi]⟩) rfl ?_]
   ·exact hE
   ·obtain ⟨ys, e⟩ := List.getLast?_eq_some_iff.1 hp
    rw [e, List.dropLast_concat]
    simp only [PT.sigL_append, PT.sigL, PT.sig]
 split at hm
 ·split at hm
  ·rename_i hc
   cases hm
   refine ⟨h30, E, ?_, hmem⟩
   show runSg (sigS (m.top.put (leafN 8 t.n [])) m.below) (0, []) = _
   rw [sigS_put, runSg_append, hE, show (leafN 8 t.n []).sig = [.bk t.n] from rfl]
   simp only [Option.bind, runSg]
   rw [if_pos (by simpa using (hmem t.n).2 (by simpa using hc))]
   rfl
  ·cases hm
 split at hm
 ·cases hm; exact hleaf _ _ _ (by decide)
 split at hm
 ·cases hm; exact hleaf _ _ _ (by decide)
 ·cases hm; exact hleaf _ _ _ (by decide)
theorem MS.seen.run : ∀ {l : List Tok} {m m' : MS}, m.seen → MS.run l m = .ok m' → m'.seen
 | [], m, m', h, hr => by cases hr; exact h
 | t :: l, m, m', h, hr => by
  obtain ⟨m1, h1, h2⟩ := MS.run_cons hr
  exact MS.seen.run (h.tok h1) h2
/-- tokens as the lexer makes them: where an anchor stands, a sign's bounds, a backreference's number, a set's ranges -/
def okMore (chars fold : Bool) : Int → List Tok → Prop
 | _, [] => True
 | q, t :: l => (t.kind = 7 → q = 0 ∨ q = 3 ∨ q = 5) ∧ (q = 8 → t.kind = 4 ∨ t.kind = 5) ∧ (t.kind = 2 → bounds t.lo t.hi = true) ∧ (t.kind = 6 → 1 ≤ t.n ∧ t.n ≤ 9) ∧ (t.kind = 1 → setOk t.r chars fold = true) ∧ okMore chars fold t.kind l
namespace PT
section
variable (chars fold : Bool)
mutual
/-- a part whose nodes have the fields of their kinds, and may stand where they do -/
def fm : PT → Prop
 | .leaf t => formed t chars fold = true
 | .often p lo hi => fm p ∧ bounds lo hi = true ∧ p.node.k ≠ 3 ∧ p.node.k ≠ 4
 | .group _ _ c => fm c
 | .branch l => fmL l ∧ ∀ i p, l[i]? = some p → (p.node.k = 3 → i = 0) ∧ (p.node.k = 4 → i + 1 = l.length)
 | .choice l => fmL l
def fmL : List PT → Prop
 | [] => True
 | p :: l => fm p ∧ fmL l
end
theorem fmL_iff (l : List PT) : fmL chars fold l ↔ ∀ p, p ∈ l → fm chars fold p := by
 induction l with
 | nil => simp [fmL]
 | cons p l ih => simp only [fmL, ih, List.mem_cons, forall_eq_or_imp]
end
end PT
/-- a branch so far; q: the kind of the token ahead -/
structure CurOk (chars fold : Bool) (q : Int) (l : List PT) : Prop where
 fm : PT.fmL chars fold l
 pos : ∀ (i : Nat) (p : PT), l[i]? = some p → (p.node.k = 3 → i = 0 ∧ (i + 1 = l.length → q = 7)) ∧ (p.node.k = 4 → i + 1 = l.length ∧ q = 8)
 emp : l = [] ↔ q = 0 ∨ q = 3 ∨ q = 5
structure GOk (chars fold : Bool) (g : GS) : Prop where
 done : PT.fmL chars fold g.done
 fm : PT.fmL chars fold g.cur
 pos : ∀ (i : Nat) (p : PT), g.cur[i]? = some p → (p.node.k = 3 → i = 0) ∧ p.node.k ≠ 4
structure MOk (chars fold : Bool) (q : Int) (m : MS) : Prop where
 done : PT.fmL chars fold m.top.done
 cur : CurOk chars fold q m.top.cur
 below : ∀ g, g ∈ m.below → GOk chars fold g
theorem PT.fmL_append {chars fold : Bool} {a b : List PT} : PT.fmL chars fold (a ++ b) ↔ PT.fmL chars fold a ∧ PT.fmL chars fold b := by
 simp only [PT.fmL_iff, List.mem_append]
 exact ⟨fun h => ⟨fun p hp => h p (.inl hp), fun p hp => h p (.inr hp)⟩, fun h p hp => hp.elim (h.1 p) (h.2 p)⟩
theorem CurOk.branch {chars fold : Bool} {q : Int} {l : List PT} (h : CurOk chars fold q l) : PT.fm chars fold (.branch l) := ⟨h.fm, fun i p hp => ⟨fun h3 => ((h.pos i p hp).1 h3).1, fun h4 => ((h.pos i p hp).2 h4).1⟩⟩
theorem MOk.all {chars fold : Bool} {q : Int} {m : MS} (h : MOk chars fold q m) : PT.fmL chars fold m.top.all := by
 unfold GS.all
 rw [PT.fmL_append]
 exact ⟨h.done, h.cur.branch, trivial⟩
theorem CurOk.snoc {chars fold : Bool} {l : List PT} {p : PT} {q' : Int} (h : PT.fmL chars fold l) (hpos : ∀ (i : Nat) (p : PT), l[i]? = some p → (p.node.k = 3 → i = 0) ∧ p.node.k ≠ 4) (hp : p.fm chars fold) (h3 : p.node.k = 3 → l = [] ∧ q' = 7) (h4 : p.node.k = 4 → q' = 8) (hq : ¬ (q' = 0 ∨ q' = 3 ∨ q' = 5)) : CurOk chars fold q' (l ++ [p]) := by
 refine ⟨?_, fun i x hx => ?_, by simp [hq]⟩
 ·rw [PT.fmL_append]; exact ⟨h, hp, trivial⟩
 ·have hlt := (List.getElem?_eq_some_iff.1 hx).1
  simp only [List.length_append, List.length_singleton] at hlt ⊢
  rcases Nat.lt_or_ge i l.length with hi | hi
  ·rw [List.getElem?_append_left hi] at hx
   have := hpos i x hx
   exact ⟨fun e => ⟨this.1 e, fun e2 => by omega⟩, fun e => absurd e this.2⟩
  ·obtain rfl : i = l.length := by omega
   rw [List.getElem?_append_right (Nat.le_refl _), Nat.sub_self] at hx
   obtain rfl : p = x := by simpa using hx
   exact ⟨fun e => ⟨by rw [(h3 e).1]; rfl, fun _ => (h3 e).2⟩, fun e => ⟨rfl, h4 e⟩⟩
theorem CurOk.soft {chars fold : Bool} {q : Int} {l : List PT} (h : CurOk chars fold q l) (h8 : q ≠ 8) : ∀ (i : Nat) (p : PT), l[i]? = some p → (p.node.k = 3 → i = 0) ∧ p.node.k ≠ 4 := fun i p hp => ⟨fun e => ((h.pos i p hp).1 e).1, fun e => h8 ((h.pos i p hp).2 e).2⟩
theorem MOk.tok {chars fold : Bool} {q : Int} {m m' : MS} {t : Tok} {l : List Tok} (h : MOk chars fold q m) (hs : okSeq q (t :: l)) (hm_ : okMore chars fold q (t :: l)) (hm : m.tok t = .ok m') : MOk chars fold t.kind m' := by
 obtain ⟨s1, s2, s3, _⟩ := hs
 obtain ⟨o1, o2, o3, o4, o5, _⟩ := hm_
 unfold MS.tok at hm
 have hput : ∀ p, PT.fm chars fold p → (p.node.k = 3 → t.kind = 7) → (p.node.k = 4 → t.kind = 8) → t.kind ≠ 3 → t.kind ≠ 4 → t.kind ≠ 5 → MOk chars fold t.kind (m.put p) := fun p h1 h2 h3 h4 h5 h6 =>
  ⟨h.done, CurOk.snoc h.cur.fm (h.cur.soft (by omega)) h1 (fun e => ⟨h.cur.emp.2 (o1 (h2 e)), h2 e⟩) h3 (by omega), h.below⟩
 split at hm
 ·rename_i k3
  split at hm
  ·cases hm
  ·cases hm
   refine ⟨trivial, ⟨trivial, fun i p hp => by simp at hp, by simp [k3]⟩, fun g hg => ?_⟩
   rcases List.mem_cons.1 hg with rfl | hg
   ·exact ⟨h.done, h.cur.fm, h.cur.soft (by omega)⟩
   ·exact h.below g hg
 split at hm
 ·rename_i k4
  split at hm
  ·cases hm
  ·rename_i g b hb
   cases hm
   have hg := h.below g (by rw [hb]; exact List.mem_cons_self)
   have hw : PT.fm chars fold m.top.whole := h.all
   refine ⟨hg.done, CurOk.snoc hg.fm hg.pos hw (fun e => ?_) (fun e => ?_) (by omega), fun g' hg' => h.below g' (by rw [hb]; exact List.mem_cons_of_mem _ hg')⟩
   ·simp [GS.whole, PT.node, NT.k] at e
   ·simp [GS.whole, PT.node, NT.k] at e
 split at hm
 ·rename_i k5
  cases hm
  exact ⟨h.all, ⟨trivial, fun i p hp => by simp at hp, by simp [k5]⟩, h.below⟩
 split at hm
 ·rename_i k2
  split at hm
  ·cases hm
  ·rename_i p hp
   cases hm
   obtain ⟨q0, q3, q5, q7, q8⟩ := s1 k2
   obtain ⟨ys, e⟩ := List.getLast?_eq_some_iff.1 hp
   have hc := h.cur
   rw [e] at hc
   have hfm := PT.fmL_append.1 hc.fm
   have hpos : ∀ (i : Nat) (x : PT), ys[i]? = some x → (x.node.k = 3 → i = 0) ∧ x.node.k ≠ 4 := fun i x hx => hc.soft q8 i x (by rw [List.getElem?_append_left (List.getElem?_eq_some_iff.1 hx).1]; exact hx)
   have hlast := hc.pos ys.length p (by simp)
   have hn3 : p.node.k ≠ 3 := fun e3 => q7 ((hlast.1 e3).2 (by simp))
   have hn4 : p.node.k ≠ 4 := fun e4 => q8 (hlast.2 e4).2
   refine ⟨h.done, ?_, h.below⟩
   show CurOk chars fold t.kind (m.top.cur.dropLast ++ [PT.often p t.lo t.hi])
   rw [e, List.dropLast_concat]
   refine CurOk.snoc hfm.1 hpos ⟨hfm.2.1, o3 k2, hn3, hn4⟩ (fun e => ?_) (fun e => ?_) (by omega)
   ·simp [PT.node, NT.k] at e
   ·simp [PT.node, NT.k] at e
 split at hm
 ·rename_i k6
  split at hm
  ·cases hm
   have := o4 k6
   exact hput _ (by simp [leafN, PT.fm, formed, NT.k, NT.kids, NT.r, NT.m, NT.lo, NT.hi, this]) (fun e => by simp [leafN, PT.node, NT.k] at e) (fun e => by simp [leafN, PT.node, NT.k] at e) (by omega) (by omega) (by omega)
  ·cases hm
 split at hm
 ·rename_i k7
  cases hm
  exact hput _ (by simp [leafN, PT.fm, formed, NT.k, NT.kids, NT.r, NT.m, NT.lo, NT.hi]) (fun _ => k7) (fun e => by simp [leafN, PT.node, NT.k] at e) (by omega) (by omega) (by omega)
 split at hm
 ·rename_i k8
  cases hm
  exact hput _ (by simp [leafN, PT.fm, formed, NT.k, NT.kids, NT.r, NT.m, NT.lo, NT.hi]) (fun e => by simp [leafN, PT.node, NT.k] at e) (fun _ => k8) (by omega) (by omega) (by omega)
 ·cases hm
  have := o5 (by omega)
  exact hput _ (by simp [leafN, PT.fm, formed, NT.k, NT.kids, NT.r, NT.m, NT.lo, NT.hi, this]) (fun e => by simp [leafN, PT.node, NT.k] at e) (fun e => by simp [leafN, PT.node, NT.k] at e) (by omega) (by omega) (by omega)
theorem MOk.run {chars fold : Bool} : ∀ {l : List Tok} {q : Int} {m m' : MS}, MOk chars fold q m → okSeq q l → okMore chars fold q l → MS.run l m = .ok m' → ∃ q', MOk chars fold q' m'
 | [], q, m, m', h, _, _, hr => by cases hr; exact ⟨q, h⟩
 | t :: l, q, m, m', h, hs, ho, hr => by
  obtain ⟨m1, h1, h2⟩ := MS.run_cons hr
  exact MOk.run (h.tok hs ho h1) hs.2.2.2 ho.2.2.2.2.2 h2
end Go.Proofs.YtamhkdlcoghdbaaGreatDoor.PCls
/- Out of Str (wip/tools/prune2.py): the declarations alone that the texts of the trees name. -/
/-
 DERIVED: THE SHELF's CONTRACTS AT THIS DUMP, IN PLAIN WORDS (tools/lay-plain.mjs out of 'YtamhkdlcoghdbaaGreatDoorStr0.lean', which tools/lay-shelf.mjs wrote): THE SAME DECLARATIONS UNDER THE SAME NAMES: 'import', 'namespace', 'open', 'def', 'theorem' AND NOTHING ELSE: no command of the shelf's: FOR A HAND-IN. Each laying: the table of numbers ('.._ren') and one theorem, a field a fact of the dump's own or the kernel's comparison; each contract: ONE APPLICATION.
-/
namespace Go.Proofs
open Go.Shelf
def Tryz.lays143_ren : Go.Shelf.Ren := ⟨fun | 143 => 211 | 219 => 232 | 217 => 239 | 225 => 226 | 224 => 225 | 267 => 244 | 266 => 246 | 314 => 249 | n => n, fun | 9 => 9 | 3 => 3 | 4 => 4 | 5 => 5 | 46 => 178 | 146 => 214 | 51 => 213 | n => n, fun | 1 => 2 | n => n⟩
theorem Tryz.lays143 : Go.Proofs.Lays.n143 Tryz.prog Tryz.lays143_ren := {
 mixed := by kernel_rfl
 f143 := Tryz.func211.trans (congrArg some (by kernel_rfl))
 f217 := Tryz.func239.trans (congrArg some (by kernel_rfl))
 f219 := Tryz.func232.trans (congrArg some (by kernel_rfl))
 f224 := Tryz.func225.trans (congrArg some (by kernel_rfl))
 f225 := Tryz.func226.trans (congrArg some (by kernel_rfl))
 f266 := Tryz.func246.trans (congrArg some (by kernel_rfl))
 f267 := Tryz.func244.trans (congrArg some (by kernel_rfl))
 f314 := Tryz.func249.trans (congrArg some (by kernel_rfl))
 t3 := Tryz.underlying3
 a3 := Tryz.isAgg3
 z3 := Tryz.sizeOf3
 v3 := Tryz.zeroValue3
 t4 := Tryz.underlying4
 a4 := Tryz.isAgg4
 z4 := Tryz.sizeOf4
 v4 := Tryz.zeroValue4
 t5 := Tryz.underlying5
 a5 := Tryz.isAgg5
 z5 := Tryz.sizeOf5
 v5 := Tryz.zeroValue5
 t9 := Tryz.underlying9
 a9 := Tryz.isAgg9
 z9 := Tryz.sizeOf9
 v9 := Tryz.zeroValue9
 t46 := Tryz.underlying178
 a46 := Tryz.isAgg178
 z46 := Tryz.sizeOf178
 v46 := Tryz.zeroValue178
 t51 := Tryz.underlying213
 a51 := Tryz.isAgg213
 z51 := Tryz.sizeOf213
 v51 := Tryz.zeroValue213
 t146 := Tryz.underlying214
 a146 := Tryz.isAgg214
 z146 := Tryz.sizeOf214
 v146 := Tryz.zeroValue214
 g1 := by kernel_rfl }
open Go.RowKit Go.Lib in
/-- strings.Index: "Index returns the index of the first instance of substr in s, or -1 if substr is not present in s.": IT RETURNS 'Lib.index s substr'; the world is as it was. (LAID: no walk: one application.) -/
theorem Tryz.strings_Index (s sub : ByteArray) (m : Int) (w : World) (hs : s.size < 4294967281) (hm : w.cell? ⟨2, 0, none⟩ = some (.int .i64 m)) :
  Calls Tryz.prog 211 #[.string s, .string sub] w fun e w' => e = .returned (.int .i64 (Lib.index s.data.toList sub.data.toList)) ∧ w' = w := Any.strings_Index Tryz.lays143 s sub m w hs hm
open Go.RowKit Go.Lib in
def Tryz.lays99_ren : Go.Shelf.Ren := ⟨fun | 99 => 135 | 206 => 178 | n => n, fun | 9 => 9 | 4 => 4 | 3 => 3 | n => n, fun | n => n⟩
theorem Tryz.lays99 : Go.Proofs.Lays.n99 Tryz.prog Tryz.lays99_ren := {
 mixed := by kernel_rfl
 f99 := Tryz.func135.trans (congrArg some (by kernel_rfl))
 f206 := Tryz.func178.trans (congrArg some (by kernel_rfl))
 t3 := Tryz.underlying3
 a3 := Tryz.isAgg3
 z3 := Tryz.sizeOf3
 v3 := Tryz.zeroValue3
 t4 := Tryz.underlying4
 a4 := Tryz.isAgg4
 z4 := Tryz.sizeOf4
 v4 := Tryz.zeroValue4
 t9 := Tryz.underlying9
 a9 := Tryz.isAgg9
 z9 := Tryz.sizeOf9
 v9 := Tryz.zeroValue9 }
open Go.RowKit Go.Lib in
/-- strings.HasPrefix: "HasPrefix reports whether the string s begins with prefix.": IT RETURNS 'Lib.hasPrefix s prefix'; the world is as it was. (LAID: no walk: one application.) -/
theorem Tryz.strings_HasPrefix (s p : ByteArray) (w : World) :
  Calls Tryz.prog 135 #[.string s, .string p] w fun e w' => e = .returned (.bool (Lib.hasPrefix s.data.toList p.data.toList)) ∧ w' = w := Any.strings_HasPrefix Tryz.lays99 s p w
end Go.Proofs
/- Out of La (wip/tools/prune2.py): the declarations alone that the texts of the trees name. -/
namespace Go.Proofs.YtamhkdlcoghdbaaGreatDoor.PCls
open Go.RowKit Go.Shelf Go.Proofs.YtamhkdlcoghdbaaGreatDoorW.PrintWords Go.Proofs.YtamhkdlcoghdbaaGreatDoorW.PrintLast Go.Proofs.YtamhkdlcoghdbaaGreatDoorW.PrintMore
set_option linter.unusedVariables false
set_option linter.unusedSimpArgs false
theorem lk_cell {w : World} {b i : Nat} {cs : Array Value} {t : TypeId} {v : Value} (h : w.heap[b]? = some (.cells cs t (0, 0))) (hi : cs[i]? = some v) : w.cell? ⟨b, i, none⟩ = some v := by
 simp [World.cell?, h, hi]
theorem w64_in (n : Int) (h0 : -9223372036854775808 ≤ n) (h1 : n ≤ 9223372036854775807) : wrap64 n = n := by
 unfold wrap64; omega
theorem blk_tail (s : ByteArray) (p : Nat) : (s.extract p s.size).data.toList = s.data.toList.drop p := Lib.extract_to_end s p
theorem byt_at (s : ByteArray) (p : Nat) (h : p < s.size) : Lx.byt s p = (s[p]'h).toNat := by
 have h' : p < s.data.toList.length := by simpa using h
 unfold Lx.byt
 rw [List.getD_eq_getElem?_getD, List.getElem?_eq_getElem h']
 rfl
/-- a scanner in memory -/
def Sc (W : World) (B : Nat) (s : ByteArray) (chars fold : Bool) (p : Nat) (V : Value) : Prop := W.heap[B]? = some (.cells #[.string s, .bool chars, .bool fold, .int .i64 p, V] 75 (0, 0))
theorem Sc.below {A W : World} {B : Nat} {s : ByteArray} {chars fold : Bool} {p : Nat} {V : Value} (h : Sc A B s chars fold p V) (hb : Below A.heap.size A W) : Sc W B s chars fold p V :=
 (hb.block B (Array.getElem?_eq_some_iff.1 h).1).trans h
theorem Sc.c0 {W : World} {B : Nat} {s : ByteArray} {chars fold : Bool} {p : Nat} {V : Value} (h : Sc W B s chars fold p V) : W.cell? ⟨B, 0, none⟩ = some (.string s) := lk_cell (i := 0) h rfl
theorem Sc.c1 {W : World} {B : Nat} {s : ByteArray} {chars fold : Bool} {p : Nat} {V : Value} (h : Sc W B s chars fold p V) : W.cell? ⟨B, 1, none⟩ = some (.bool chars) := lk_cell (i := 1) h rfl
theorem Sc.c2 {W : World} {B : Nat} {s : ByteArray} {chars fold : Bool} {p : Nat} {V : Value} (h : Sc W B s chars fold p V) : W.cell? ⟨B, 2, none⟩ = some (.bool fold) := lk_cell (i := 2) h rfl
theorem Sc.c3 {W : World} {B : Nat} {s : ByteArray} {chars fold : Bool} {p : Nat} {V : Value} (h : Sc W B s chars fold p V) : W.cell? ⟨B, 3, none⟩ = some (.int .i64 p) := lk_cell (i := 3) h rfl
theorem Sc.c4 {W : World} {B : Nat} {s : ByteArray} {chars fold : Bool} {p : Nat} {V : Value} (h : Sc W B s chars fold p V) : W.cell? ⟨B, 4, none⟩ = some V := lk_cell (i := 4) h rfl
/-- the error that is given up with -/
def Bad (n : Nat) (w' : World) (e : Ending) (c p : Int) : Prop := ∃ g, e = .panicked [⟨.iface 71 (.pointer (some ⟨g, 0, none⟩)), false, false⟩] ∧ n ≤ g ∧ w'.heap[g]? = some (.cells #[.int .i64 c, .int .i64 p] 78 (0, 0))
set_option maxHeartbeats 2000000 in
theorem fail_calls (c p : Int) (w : World) : Calls Tryz.prog 41 #[.int .i64 c, .int .i64 p] w fun e w' => Bad w.heap.size w' e c p ∧ Below w.heap.size w w' := by
 go_enter Tryz.func41, Tryz.ntmps41
 go_wp2
 have h1 : Bad w.heap.size (w.alloc (.cells #[.int .i64 c, .int .i64 p] 78)) (.panicked [⟨.iface 71 (.pointer (some ⟨w.heap.size, 0, none⟩)), false, false⟩]) c p := ⟨_, rfl, Nat.le_refl _, heap_alloc_new w _⟩
 have h2 := And.intro h1 ((Below.refl w.heap.size w).alloc (Nat.le_refl _) (.cells #[.int .i64 c, .int .i64 p] 78))
 exact ⟨rfl, h2⟩
theorem Bad.mono {n m : Nat} {w' : World} {e : Ending} {c p : Int} (h : Bad n w' e c p) (hm : m ≤ n) : Bad m w' e c p := by
 obtain ⟨g, h1, h2, h3⟩ := h
 exact ⟨g, h1, Nat.le_trans hm h2, h3⟩
set_option maxHeartbeats 2000000 in
theorem here_calls (W : World) (B p : Nat) (s t : ByteArray) (c0 : W.cell? ⟨B, 0, none⟩ = some (.string s)) (hs : s.size ≤ 9223372036854775807) :
  Calls Tryz.prog 100 #[.pointer (some ⟨B, 0, none⟩), .int .i64 p, .string t] W fun e w' => e = .returned (.bool (Lx.here s p t.data.toList)) ∧ w' = W := by
 by_cases hp : p ≤ s.size
 ·have h0 : (0 : Int) ≤ (p : Int) := by omega
  have h1 : (p : Int) ≤ (s.size : Int) := by omega
  have hb : decide ((p : Int) ≤ (s.size : Int)) = true := decide_eq_true h1
  have HX := Lib.hid (show Lx.here s p t.data.toList = Lib.hasPrefix (s.extract p s.size).data.toList t.data.toList by rw [blk_tail]; simp [Lx.here, hp])
  clear hp
  go_enter Tryz.func100, Tryz.ntmps100
  go_wp2_with fail
  refine (Tryz.strings_HasPrefix _ _ _).mono ?_
  rw [← HX.out]
  rintro e w' ⟨rfl, rfl⟩
  go_wp2_with fail
  go_ret
  exact ⟨rfl, rfl⟩
 ·have h1 : ¬ (p : Int) ≤ (s.size : Int) := by omega
  have HX := Lib.hid (show Lx.here s p t.data.toList = false by simp [Lx.here, hp])
  clear hp
  go_enter Tryz.func100, Tryz.ntmps100
  go_wp2_with fail
  go_ret
  exact ⟨by rw [HX.out]; rfl, rfl⟩
set_option maxHeartbeats 2000000 in
theorem Next_calls (s : ByteArray) (p : Nat) (w : World) (hT : Lib.Utf8Tabs 0 1 w) (hs : s.size ≤ 9223372036854775807) (hp : p ≤ 9223372036854775807) : Calls Tryz.prog 145 #[.string s, .int .i64 p] w fun e w' =>
  e = .returned (.tuple #[.int .i64 (Lx.unit s true p).1, .int .i64 (Lx.unit s true p).2]) ∧ Below w.heap.size w w' := by
 by_cases hp : p < s.size
 ·have h0 : (0 : Int) ≤ (p : Int) := by omega
  have h1 : (p : Int) ≤ (s.size : Int) := by omega
  have h2 : ¬ (s.size : Int) ≤ (p : Int) := by omega
  have h3 : decide ((p : Int) < 0) = false := decide_eq_false (by omega)
  have h4 : decide (s.size ≤ p) = false := decide_eq_false (by omega)
  have h5 : ¬ s.size ≤ p := by omega
  have hc := Tryz.utf8_DecodeRuneInString (s.extract p s.size) w hT
  rw [go_tail s p hp] at hc
  have hu : Lx.unit s true p = (if okAt s p = true then ((((Utf8.decode s p).1 : Nat) : Int), (Utf8.decode s p).2) else ((-1 : Int), 1) : Int × Nat) := by simp [Lx.unit, hp]
  have hle := Lib.rune_le s p
  have hok : okAt s p = (decide (((Utf8.decode s p).1 : Int) ≠ 65533) || decide (1 < ((Utf8.decode s p).2 : Int))) := by
   unfold okAt
   rw [Bool.eq_iff_iff]
   simp
   omega
  generalize Lx.unit s true p = u at hu ⊢
  obtain ⟨r, hr⟩ : ∃ r, r = (Utf8.decode s p).1 := ⟨_, rfl⟩
  obtain ⟨n, hn⟩ : ∃ n, n = (Utf8.decode s p).2 := ⟨_, rfl⟩
  rw [← hr, ← hn] at hu hc hok
  rw [← hr] at hle
  have HC := Lib.hid hc
  have HU := Lib.hid hu
  have HOK := Lib.hid hok
  clear hr hn hc hu hp hok
  go_enter Tryz.func145, Tryz.ntmps145
  go_wp2_with fail
  refine HC.out.mono ?_
  rintro e w5 ⟨rfl, hb5⟩
  have HB := Lib.hid hb5
  clear hb5 HC
  go_wp2_with fail
  refine (valid_calls _ _ _).mono ?_
  rintro e w6 ⟨rfl, rfl⟩
  rw [← HOK.out]
  cases hok : okAt s p
  ·have HV := Lib.hid (show u = (-1, 1) by rw [HU.out, hok]; rfl)
   clear hok
   go_wp2_with fail
   go_ret2
   exact ⟨by rw [HV.out]; rfl, HB.out⟩
  ·have HV := Lib.hid (show u = ((r : Int), n) by rw [HU.out, hok]; rfl)
   clear hok
   go_wp2_with fail
   go_ret2
   exact ⟨by rw [HV.out]; rfl, HB.out⟩
 ·have h1 : s.size ≤ p := by omega
  have h4 : decide (s.size ≤ p) = true := decide_eq_true h1
  have h3 : decide ((p : Int) < 0) = false := decide_eq_false (by omega)
  have HX := Lib.hid (show Lx.unit s true p = (0, 0) by simp [Lx.unit, hp])
  clear hp
  go_enter Tryz.func145, Tryz.ntmps145
  go_wp2_with fail
  go_ret2
  exact ⟨by rw [HX.out]; rfl, Below.refl _ _⟩
set_option maxHeartbeats 2000000 in
theorem unit_calls (W : World) (B p q : Nat) (s : ByteArray) (chars fold : Bool) (V : Value) (hT : Lib.Utf8Tabs 0 1 W) (h : Sc W B s chars fold q V) (hs : s.size ≤ 9223372036854775807) (hp : p ≤ 9223372036854775807) :
  Calls Tryz.prog 93 #[.pointer (some ⟨B, 0, none⟩), .int .i64 p] W fun e w' => e = .returned (.tuple #[.int .i64 (Lx.unit s chars p).1, .int .i64 (Lx.unit s chars p).2]) ∧ Below W.heap.size W w' := by
 have c0 := h.c0
 have c1 := h.c1
 clear h
 cases chars with
 | true =>
  obtain ⟨u, hu⟩ : ∃ u, u = Lx.unit s true p := ⟨_, rfl⟩
  have HC := Lib.hid (Next_calls s p W hT hs hp)
  rw [← hu] at HC ⊢
  clear hu
  go_enter Tryz.func93, Tryz.ntmps93
  go_wp2_with fail
  refine HC.out.mono ?_
  rintro e w5 ⟨rfl, hb5⟩
  have HB := Lib.hid hb5
  clear hb5 HC
  go_wp2_with fail
  go_ret2
  exact ⟨rfl, HB.out⟩
 | false =>
  by_cases hlt : p < s.size
  ·have h0 : (0 : Int) ≤ (p : Int) := by omega
   have h1 : (p : Int) < (s.size : Int) := by omega
   have h2 : ¬ s.size ≤ p := by omega
   have HX := Lib.hid (show Lx.unit s false p = ((Lx.byt s p : Int), 1) by simp [Lx.unit, hlt])
   have hb : (s.data.toList.getD p 0).toNat = Lx.byt s p := rfl
   clear hlt
   go_enter Tryz.func93, Tryz.ntmps93
   go_wp2_with fail
   go_ret2
   exact ⟨by rw [HX.out, byt_at s p (by omega)]; exact congrArg (fun z => Ending.returned (Value.tuple #[Value.int .i64 z, Value.int .i64 1])) (w64_in _ (by omega) (by have := s[p].toNat_lt; omega)), Below.refl _ _⟩
  ·have h2 : s.size ≤ p := by omega
   have HX := Lib.hid (show Lx.unit s false p = (0, 0) by simp [Lx.unit, hlt])
   clear hlt
   go_enter Tryz.func93, Tryz.ntmps93
   go_wp2_with fail
   go_ret2
   exact ⟨by rw [HX.out]; rfl, Below.refl _ _⟩
end Go.Proofs.YtamhkdlcoghdbaaGreatDoor.PCls
