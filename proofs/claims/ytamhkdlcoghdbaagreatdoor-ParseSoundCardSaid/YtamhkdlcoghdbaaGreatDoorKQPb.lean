/- Out of Pb (wip/tools/prune2.py): the declarations alone that the texts of the trees name. -/
import Derived.Test.YtamhkdlcoghdbaaGreatDoorKQPa
namespace Go.Proofs.YtamhkdlcoghdbaaGreatDoor.PCls
set_option linter.unusedVariables false
set_option linter.unusedSimpArgs false
/-- what is seen of groups and of backreferences -/
inductive Sg where
 | op (n : Int)
 | cl (n : Int)
 | bk (n : Int)
def runSg : List Sg → Int × List Int → Option (Int × List Int)
 | [], s => some s
 | .op n :: l, s => if n = s.1 + 1 ∧ s.1 < 30 then runSg l (s.1 + 1, s.2) else none
 | .cl n :: l, s => runSg l (s.1, s.2 ++ [n])
 | .bk n :: l, s => if s.2.contains n = true then runSg l s else none
theorem runSg_append (b : List Sg) : ∀ (a : List Sg) (s : Int × List Int), runSg (a ++ b) s = (runSg a s).bind (runSg b)
 | [], _ => rfl
 | .op n :: a, s => by
  simp only [List.cons_append, runSg]
  split
  ·exact runSg_append b a _
  ·rfl
 | .cl n :: a, s => runSg_append b a _
 | .bk n :: a, s => by
  simp only [List.cons_append, runSg]
  split
  ·exact runSg_append b a _
  ·rfl
namespace PT
mutual
def sig : PT → List Sg
 | .leaf t => if t.k = 8 then [.bk t.m] else []
 | .often p _ _ => sig p
 | .group n _ c => .op n :: (sig c ++ [.cl n])
 | .branch l => sigL l
 | .choice l => sigL l
def sigL : List PT → List Sg
 | [] => []
 | p :: l => sig p ++ sigL l
end
theorem sigL_append (a b : List PT) : sigL (a ++ b) = sigL a ++ sigL b := by
 induction a with
 | nil => rfl
 | cons p a ih => simp only [List.cons_append, sigL, ih, List.append_assoc]
end PT
def sigE : List Ev → List Sg
 | [] => []
 | .enter s :: l => (if s.n.k = 7 then [.op s.n.m] else if s.n.k = 8 then [.bk s.n.m] else []) ++ sigE l
 | .leave s :: l => (if s.n.k = 7 then [.cl s.n.m] else []) ++ sigE l
theorem sigE_append (a b : List Ev) : sigE (a ++ b) = sigE a ++ sigE b := by
 induction a with
 | nil => rfl
 | cons x a ih => cases x <;> simp only [List.cons_append, sigE, ih, List.append_assoc]
/-- the same, whatever stands around -/
def SigIs (t : NT) (g : List Sg) : Prop := ∀ (d a : Int) (f l b : Bool), sigE (evs t d a f l b) = g
theorem sigE_kids : ∀ (l : List PT), (∀ p, p ∈ l → SigIs p.node p.sig) → ∀ (d a : Int) (n i : Nat) (b : Bool), sigE (evsL (PT.nodes l) d a n i b) = PT.sigL l
 | [], _, _, _, _, _, _ => rfl
 | p :: l, h, d, a, n, i, b => by
  simp only [PT.nodes, evsL, sigE_append, PT.sigL]
  rw [h p List.mem_cons_self, sigE_kids l (fun p hp => h p (List.mem_cons_of_mem _ hp))]
theorem sig_one (l : List PT) (k : Int) (hk : k ≠ 7 ∧ k ≠ 8) (no : NT) (hno : no.k ≠ 7 ∧ no.k ≠ 8 ∧ no.kids = []) (h : ∀ p, p ∈ l → SigIs p.node p.sig) : SigIs (oneT (PT.nodes l) k no) (PT.sigL l) := by
 intro d a f ll b
 match l, h with
 | [], _ =>
  obtain ⟨k0, m, lo, hi, r, kids⟩ := no
  simp only [NT.k, NT.kids] at hno
  obtain ⟨h7, h8, rfl⟩ := hno
  simp [PT.nodes, oneT, evs, evsL, sigE, PT.sigL, NT.k, h7, h8]
 | [p], h =>
  simp only [PT.nodes, oneT, PT.sigL, List.append_nil]
  exact h p (by simp) d a f ll b
 | p :: q :: l, h =>
  have hh := sigE_kids (p :: q :: l) h
  simp only [PT.nodes, oneT, evs, sigE, sigE_append, NT.k] at hh ⊢
  rw [hh]
  simp [hk.1, hk.2]
theorem PT.gd_sig (p : PT) : p.gd → SigIs p.node p.sig := by
 refine PT.ind (P := fun p => p.gd → SigIs p.node p.sig) ?_ ?_ ?_ ?_ ?_ p
 ·intro t h d a f l b
  obtain ⟨h1, h2⟩ := h
  obtain ⟨k, m, lo, hi, r, kids⟩ := t
  simp only [NT.kids, NT.k] at h1 h2
  subst h1
  rcases h2 with rfl | rfl | rfl | rfl <;> rfl
 ·intro p lo hi ih h d a f l b
  have h1 := ih h.1
  simp only [PT.node, evs, evsL, sigE, sigE_append, PT.sig, NT.k]
  rw [h1]
  simp
 ·intro n pl c ih h d a f l b
  have h1 := ih h.1
  simp only [PT.node, evs, evsL, sigE, sigE_append, PT.sig, NT.k, NT.m]
  rw [h1]
  simp
 ·intro l ih h
  simp only [PT.gd] at h
  have hg := (PT.gdL_iff l 0).1 h
  have hk : ∀ t, t ∈ PT.nodes l → t.k ≠ 1 ∧ t.k ≠ 5 := fun t ht => by
   obtain ⟨p, hp, rfl⟩ := PT.nodes_mem ht
   have := (PT.gd_node p (hg p hp).1).2.1 (hg p hp).2
   omega
  simp only [PT.node, catT, PT.catOut_of hk, PT.sig]
  exact sig_one l 5 (by decide) _ (by simp [NT.k, NT.kids]) (fun p hp => ih p hp (hg p hp).1)
 ·intro l ih h
  simp only [PT.gd] at h
  have hg := (PT.gdL_iff l 1).1 h.1
  have hk : ∀ t, t ∈ PT.nodes l → t.k ≠ 6 := fun t ht => by
   obtain ⟨p, hp, rfl⟩ := PT.nodes_mem ht
   exact (PT.gd_node p (hg p hp).1).2.2 (hg p hp).2
  simp only [PT.node, altT, PT.altOut_of hk, PT.sig]
  exact sig_one l 6 (by decide) _ (by simp [NT.k, NT.kids]) (fun p hp => ih p hp (hg p hp).1)
/-- what a maker has seen -/
def sigS : GS → List GS → List Sg
 | t, [] => PT.sigL t.done ++ PT.sigL t.cur
 | t, g :: b => sigS g b ++ (.op t.n :: (PT.sigL t.done ++ PT.sigL t.cur))
theorem sigS_put {g : GS} {b : List GS} {p : PT} : sigS (g.put p) b = sigS g b ++ p.sig := by
 cases b with
 | nil => simp only [sigS, GS.put, PT.sigL_append, PT.sigL, List.append_nil, List.append_assoc]
 | cons x b => simp only [sigS, GS.put, PT.sigL_append, PT.sigL, List.append_nil, List.append_assoc, List.cons_append]
theorem sigS_same {g g' : GS} {b : List GS} (h1 : g'.n = g.n) (h2 : PT.sigL g'.done ++ PT.sigL g'.cur = PT.sigL g.done ++ PT.sigL g.cur) : sigS g' b = sigS g b := by
 cases b <;> simp only [sigS, h1, h2]
theorem sigL_all (g : GS) : PT.sigL g.all = PT.sigL g.done ++ PT.sigL g.cur := by simp only [GS.all, PT.sigL_append, PT.sigL, PT.sig, List.append_nil]
def MS.seen (m : MS) : Prop := m.many ≤ 30 ∧ ∃ E : List Int, runSg (sigS m.top m.below) (0, []) = some (m.many, E) ∧ ∀ n, n ∈ E ↔ n ∈ m.ended
theorem MS.seen.tok {m m' : MS} {t : Tok} (h : m.seen) (hm : m.tok t = .ok m') : m'.seen := by
 obtain ⟨h30, E, hE, hmem⟩ := h
 have hleaf : ∀ k n r, k ≠ 8 → (m.put (leafN k n r)).seen := fun k n r hk => ⟨h30, E, by
  show runSg (sigS (m.top.put (leafN k n r)) m.below) (0, []) = _
  rw [sigS_put, show (leafN k n r).sig = [] from if_neg hk, List.append_nil]
  exact hE, hmem⟩
 unfold MS.tok at hm
 split at hm
 ·split at hm
  ·cases hm
  ·cases hm
   refine ⟨by simp only; omega, E, ?_, hmem⟩
   simp only [sigS, PT.sigL, List.append_nil, runSg_append, hE, Option.bind, runSg]
   rw [if_pos ⟨trivial, by omega⟩]
 split at hm
 ·split at hm
  ·cases hm
  ·rename_i g b hb
   cases hm
   refine ⟨h30, E ++ [m.top.n], ?_, fun n => by simp [hmem n, or_comm]⟩
   rw [hb] at hE
   simp only [sigS_put, GS.whole, PT.sig, sigL_all]
   simp only [sigS] at hE
   rw [← List.cons_append, ← List.append_assoc, runSg_append, hE]
   rfl
 split at hm
 ·cases hm
  refine ⟨h30, E, ?_, hmem⟩
  show runSg (sigS ⟨m.top.n, m.top.pl, m.top.all, []⟩ m.below) (0, []) = _
  rw [sigS_same (g := m.top) (g' := ⟨m.top.n, m.top.pl, m.top.all, []⟩) rfl (by simp only [sigL_all, PT.sigL, List.append_nil])]
  exact hE
 split at hm
 ·split at hm
  ·cases hm
  ·rename_i p hp
   cases hm
   refine ⟨h30, E, ?_, hmem⟩
   show runSg (sigS ⟨m.top.n, m.top.pl, m.top.done, m.top.cur.dropLast ++ [.often p t.lo t.hi]⟩ m.below) (0, []) = _
   rw [sigS_same (g := m.top) (g' := ⟨m.top.n, m.top.pl, m.top.done, m.top.cur.dropLast ++ [PT.often p t.lo t.hi]⟩) rfl ?_]
   ·exact hE
   ·obtain ⟨ys, e⟩ := List.getLast?_eq_some_iff.1 hp
    rw [e, List.dropLast_concat]
    simp only [PT.sigL_append, PT.sigL, PT.sig]
 split at hm
 ·split at hm
  ·rename_i hc
   cases hm
   refine ⟨h30, E, ?_, hmem⟩
   show runSg (sigS (m.top.put (leafN 8 t.n [])) m.below) (0, []) = _
   rw [sigS_put, runSg_append, hE, show (leafN 8 t.n []).sig = [.bk t.n] from rfl]
   simp only [Option.bind, runSg]
   rw [if_pos (by simpa using (hmem t.n).2 (by simpa using hc))]
   rfl
  ·cases hm
 split at hm
 ·cases hm; exact hleaf _ _ _ (by decide)
 split at hm
 ·cases hm; exact hleaf _ _ _ (by decide)
 ·cases hm; exact hleaf _ _ _ (by decide)
theorem MS.seen.run : ∀ {l : List Tok} {m m' : MS}, m.seen → MS.run l m = .ok m' → m'.seen
 | [], m, m', h, hr => by cases hr; exact h
 | t :: l, m, m', h, hr => by
  obtain ⟨m1, h1, h2⟩ := MS.run_cons hr
  exact MS.seen.run (h.tok h1) h2
theorem parts_seen {l : List Tok} {p : PT} (h : partsT l = .ok p) : ∃ s, runSg p.sig (0, []) = some s := by
 unfold partsT at h
 split at h
 ·cases h
 ·rename_i m hm
  split at h
  ·rename_i hb
   cases h
   have hb' : m.below = [] := by simpa using hb
   obtain ⟨_, E, hE, _⟩ := MS.seen.run (l := l) (m := MS.start) ⟨by decide, [], rfl, fun n => Iff.rfl⟩ hm
   rw [hb'] at hE
   exact ⟨_, by simp only [PT.sig, sigL_all]; exact hE⟩
  ·cases h
/-- a walk that is right from end to end -/
theorem run_right (chars fold : Bool) : ∀ (l : List Ev) (st : SR) (s' : Int × List Int), st.wrong = 0 → st.many + ((enters l).length : Int) ≤ 2000 → (∀ s, s ∈ enters l → s.deep ≤ 40 ∧ stands s = true ∧ formed s.n chars fold = true) → runSg (sigE l) (st.groups, st.ended) = some s' →
  (run (visR chars fold) lvR l st).2.wrong = 0
 | [], st, s', h, _, _, _ => h
 | .leave s :: l, st, s', h, hm, hf, hs => by
  simp only [run]
  simp only [sigE] at hs
  by_cases h7 : s.n.k = 7
  ·rw [if_pos h7] at hs
   have e : lvR st s = ⟨st.wrong, st.many, st.groups, st.ended ++ [s.n.m]⟩ := by unfold lvR; rw [if_pos h7]
   rw [e]
   exact run_right chars fold l ⟨st.wrong, st.many, st.groups, st.ended ++ [s.n.m]⟩ s' h hm hf hs
  ·rw [if_neg h7] at hs
   have e : lvR st s = st := by unfold lvR; rw [if_neg h7]
   rw [e]
   exact run_right chars fold l st s' h hm hf hs
 | .enter s :: l, st, s', h, hm, hf, hs => by
  simp only [enters, List.length_cons] at hm
  obtain ⟨f1, f2, f3⟩ := hf s (by simp [enters])
  have hf' : ∀ s, s ∈ enters l → s.deep ≤ 40 ∧ stands s = true ∧ formed s.n chars fold = true := fun x hx => hf x (by simp [enters, hx])
  have e : visR chars fold st s = (if s.n.k = 7 then (if s.n.m ≠ st.groups + 1 then (false, ⟨50, st.many + 1, st.groups + 1, st.ended⟩) else if 30 < st.groups + 1 then (false, ⟨42, st.many + 1, st.groups + 1, st.ended⟩) else (decide (st.wrong = 0), ⟨st.wrong, st.many + 1, st.groups + 1, st.ended⟩))
    else if s.n.k = 8 ∧ st.ended.contains s.n.m = false then (false, ⟨41, st.many + 1, st.groups, st.ended⟩) else (decide (st.wrong = 0), ⟨st.wrong, st.many + 1, st.groups, st.ended⟩)) := by
   unfold visR
   rw [if_neg (by omega), if_neg (by omega), if_neg (by rw [f2, f3]; decide)]
  simp only [sigE] at hs
  by_cases h7 : s.n.k = 7
  ·rw [if_pos h7] at hs e
   simp only [List.singleton_append, runSg] at hs
   split at hs
   ·rename_i hc
    rw [if_neg (by omega), if_neg (by omega), h] at e
    rw [run_enter (by rw [e]; rfl), e]
    exact run_right chars fold l ⟨0, st.many + 1, st.groups + 1, st.ended⟩ s' rfl (by simp only; omega) hf' hs
   ·cases hs
  ·rw [if_neg h7] at hs e
   by_cases h8 : s.n.k = 8
   ·rw [if_pos h8] at hs
    simp only [List.singleton_append, runSg] at hs
    split at hs
    ·rename_i hc
     rw [if_neg (by rw [hc]; simp), h] at e
     rw [run_enter (by rw [e]; rfl), e]
     exact run_right chars fold l ⟨0, st.many + 1, st.groups, st.ended⟩ s' rfl (by simp only; omega) hf' hs
    ·cases hs
   ·rw [if_neg h8] at hs
    rw [if_neg (fun hh => h8 hh.1), h] at e
    rw [run_enter (by rw [e]; rfl), e]
    exact run_right chars fold l ⟨0, st.many + 1, st.groups, st.ended⟩ s' rfl (by simp only; omega) hf' hs
/-- tokens as the lexer makes them: where an anchor stands, a sign's bounds, a backreference's number, a set's ranges -/
def okMore (chars fold : Bool) : Int → List Tok → Prop
 | _, [] => True
 | q, t :: l => (t.kind = 7 → q = 0 ∨ q = 3 ∨ q = 5) ∧ (q = 8 → t.kind = 4 ∨ t.kind = 5) ∧ (t.kind = 2 → bounds t.lo t.hi = true) ∧ (t.kind = 6 → 1 ≤ t.n ∧ t.n ≤ 9) ∧ (t.kind = 1 → setOk t.r chars fold = true) ∧ okMore chars fold t.kind l
namespace PT
section
variable (chars fold : Bool)
mutual
/-- a part whose nodes have the fields of their kinds, and may stand where they do -/
def fm : PT → Prop
 | .leaf t => formed t chars fold = true
 | .often p lo hi => fm p ∧ bounds lo hi = true ∧ p.node.k ≠ 3 ∧ p.node.k ≠ 4
 | .group _ _ c => fm c
 | .branch l => fmL l ∧ ∀ i p, l[i]? = some p → (p.node.k = 3 → i = 0) ∧ (p.node.k = 4 → i + 1 = l.length)
 | .choice l => fmL l
def fmL : List PT → Prop
 | [] => True
 | p :: l => fm p ∧ fmL l
end
theorem fmL_iff (l : List PT) : fmL chars fold l ↔ ∀ p, p ∈ l → fm chars fold p := by
 induction l with
 | nil => simp [fmL]
 | cons p l ih => simp only [fmL, ih, List.mem_cons, forall_eq_or_imp]
end
end PT
/-- may a node stand there? -/
def MaySt (k a : Int) (f l b : Bool) : Prop := (a = 0 ∨ a = 7 ∨ (a = 6 ∧ k ≠ 6) ∨ (a = 9 ∧ thing k = true) ∨ (a = 5 ∧ b = true ∧ (k = 3 → f = true) ∧ (k = 4 → l = true) ∧ (k ≠ 3 → k ≠ 4 → thing k = true)))
theorem stands_of {t : NT} {d a : Int} {f l b : Bool} (h : MaySt t.k a f l b) : stands ⟨t, d, a, f, l, b⟩ = true := by
 unfold stands
 simp only
 rcases h with rfl | rfl | ⟨rfl, h⟩ | ⟨rfl, h⟩ | ⟨rfl, hb, h3, h4, h5⟩
 ·rfl
 ·rfl
 ·simpa using h
 ·simpa using h
 ·simp only [if_neg (show ¬ (5 : Int) = 9 by decide), if_neg (show ¬ (5 : Int) = 6 by decide), if_true]
  by_cases k3 : t.k = 3
  ·rw [if_pos k3, hb, h3 k3]; rfl
  ·rw [if_neg k3]
   by_cases k4 : t.k = 4
   ·rw [if_pos k4, hb, h4 k4]; rfl
   ·rw [if_neg k4]; exact h5 k3 k4
/-- all nodes from here on are as they are to be -/
def AllFine (chars fold : Bool) (t : NT) (d a : Int) (f l b : Bool) : Prop := ∀ s, s ∈ enters (evs t d a f l b) → stands s = true ∧ formed s.n chars fold = true
theorem fine_kids (chars fold : Bool) : ∀ (ts : List NT) (d a : Int) (n i : Nat) (b : Bool), (∀ j t, ts[j]? = some t → AllFine chars fold t d a (decide (i + j = 0)) (decide (i + j + 1 = n)) b) → ∀ s, s ∈ enters (evsL ts d a n i b) → stands s = true ∧ formed s.n chars fold = true
 | [], _, _, _, _, _, _, s, hs => by simp [evsL, enters] at hs
 | t :: ts, d, a, n, i, b, h, s, hs => by
  simp only [evsL, enters_append, List.mem_append] at hs
  rcases hs with hs | hs
  ·exact h 0 t rfl s hs
  ·refine fine_kids chars fold ts d a n (i + 1) b (fun j t' hj => ?_) s hs
   have := h (j + 1) t' (by simpa using hj)
   rwa [show i + (j + 1) = i + 1 + j by omega] at this
theorem fine_mk {chars fold : Bool} {k m lo hi : Int} {r : List S64} {kids : List NT} {d a : Int} {f l b : Bool} (h1 : MaySt k a f l b) (h2 : formed (.mk k m lo hi r kids) chars fold = true) (h3 : ∀ j t, kids[j]? = some t → AllFine chars fold t (d + 1) k (decide (j = 0)) (decide (j + 1 = kids.length)) (branchOf k b)) :
  AllFine chars fold (.mk k m lo hi r kids) d a f l b := by
 intro s hs
 simp only [evs, enters, enters_append, List.append_nil, List.mem_cons] at hs
 rcases hs with rfl | hs
 ·exact ⟨stands_of (t := .mk k m lo hi r kids) h1, h2⟩
 ·exact fine_kids chars fold kids (d + 1) k kids.length 0 (branchOf k b) (fun j t hj => by simpa using h3 j t hj) s hs
theorem formed_many (chars fold : Bool) (k : Int) (hk : k = 5 ∨ k = 6) (l : List NT) (h : 2 ≤ l.length) : formed (.mk k 0 0 0 [] l) chars fold = true := by
 rcases hk with rfl | rfl <;> simp [formed, NT.k, NT.kids, NT.r, NT.m, NT.lo, NT.hi, h]
theorem fine_many (chars fold : Bool) (l : List NT) (k : Int) (hk : k = 5 ∨ k = 6) (no : NT) (hno : ∀ d a f ll b, MaySt no.k a f ll b → AllFine chars fold no d a f ll b) (d a : Int) (f ll b : Bool) (hmay : MaySt (oneT l k no).k a f ll b) (hb : k = 5 → b = true)
  (h1 : ∀ t, l = [t] → AllFine chars fold t d a f ll b) (h2 : ∀ j t, l[j]? = some t → 2 ≤ l.length → AllFine chars fold t (d + 1) k (decide (j = 0)) (decide (j + 1 = l.length)) true) : AllFine chars fold (oneT l k no) d a f ll b := by
 match l, hmay, h1, h2 with
 | [], hmay, _, _ => exact hno d a f ll b hmay
 | [t], _, h1, _ => exact h1 t rfl
 | x :: y :: l, hmay, _, h2 =>
  refine fine_mk hmay (formed_many chars fold k hk _ (by simp)) (fun j t hj => ?_)
  have hbr : branchOf k b = true := by rcases hk with rfl | rfl; rw [hb rfl]; rfl; rfl
  rw [hbr]
  exact h2 j t hj (by simp)
/-- a part's nodes are as they are to be, wherever it may stand -/
def FineP (chars fold : Bool) (p : PT) : Prop := ∀ (d a : Int) (f l b : Bool), MaySt p.node.k a f l b → (p.tag ≠ 0 → b = true) → AllFine chars fold p.node d a f l b
theorem thing_of {k : Int} (h : k = 2 ∨ k = 3 ∨ k = 4 ∨ k = 7 ∨ k = 8 ∨ k = 9) (h3 : k ≠ 3) (h4 : k ≠ 4) : thing k = true := by
 unfold thing
 rcases h with rfl | rfl | rfl | rfl | rfl | rfl <;> simp at h3 h4 ⊢
theorem leaf_fine {chars fold : Bool} {t : NT} (hk : t.kids = []) (hf : formed t chars fold = true) (d a : Int) (f l b : Bool) (h : MaySt t.k a f l b) : AllFine chars fold t d a f l b := by
 obtain ⟨k, m, lo, hi, r, kids⟩ := t
 simp only [NT.kids] at hk
 subst hk
 exact fine_mk h hf (fun j t hj => by simp at hj)
theorem PT.fine (chars fold : Bool) (p : PT) : p.gd → p.fm chars fold → FineP chars fold p := by
 refine PT.ind (P := fun p => p.gd → p.fm chars fold → FineP chars fold p) ?_ ?_ ?_ ?_ ?_ p
 ·intro t hg hf d a f l b hm _
  exact leaf_fine hg.1 hf d a f l b hm
 ·intro p lo hi ih hg hf d a f l b hm _
  obtain ⟨f1, f2, f3, f4⟩ := hf
  have hk := (PT.gd_node p hg.1).2.1 hg.2
  refine fine_mk hm (by simp [formed, NT.k, NT.kids, NT.r, NT.m, NT.lo, NT.hi, f2]) (fun j t hj => ?_)
  have : t = p.node := by
   cases j with
   | zero => simpa using hj.symm
   | succ j => simp at hj
  subst this
  exact ih hg.1 f1 _ _ _ _ _ (.inr (.inr (.inr (.inl ⟨rfl, thing_of hk f3 f4⟩)))) (fun h => absurd hg.2 h)
 ·intro n pl c ih hg hf d a f l b hm _
  refine fine_mk hm (by simp [formed, NT.k, NT.kids, NT.r, NT.m, NT.lo, NT.hi]) (fun j t hj => ?_)
  have : t = c.node := by
   cases j with
   | zero => simpa using hj.symm
   | succ j => simp at hj
  subst this
  exact ih hg.1 hf _ _ _ _ _ (.inr (.inl rfl)) (fun _ => rfl)
 ·intro l ih hg hf d a f ll b hm hb
  have hb' := hb (by simp [PT.tag])
  simp only [PT.gd] at hg
  obtain ⟨hfl, hpos⟩ := hf
  have hg' := (PT.gdL_iff l 0).1 hg
  have hf' := (PT.fmL_iff chars fold l).1 hfl
  have hkk : ∀ p, p ∈ l → p.node.k = 2 ∨ p.node.k = 3 ∨ p.node.k = 4 ∨ p.node.k = 7 ∨ p.node.k = 8 ∨ p.node.k = 9 := fun p hp => (PT.gd_node p (hg' p hp).1).2.1 (hg' p hp).2
  have hk : ∀ t, t ∈ PT.nodes l → t.k ≠ 1 ∧ t.k ≠ 5 := fun t ht => by
   obtain ⟨p, hp, rfl⟩ := PT.nodes_mem ht
   have := hkk p hp
   omega
  simp only [PT.node, catT, PT.catOut_of hk] at hm ⊢
  refine fine_many chars fold _ 5 (.inl rfl) _ (fun d a f ll b h => leaf_fine rfl (by simp [formed, NT.k, NT.kids, NT.r, NT.m, NT.lo, NT.hi]) d a f ll b h) d a f ll b hm (fun _ => hb') (fun t ht => ?_) (fun j t hj h2 => ?_)
  ·obtain ⟨p, hp, rfl⟩ := PT.nodes_mem (show t ∈ PT.nodes l by rw [ht]; simp)
   rw [ht] at hm
   exact ih p hp (hg' p hp).1 (hf' p hp) d a f ll b hm (fun h => absurd (hg' p hp).2 h)
  ·rw [PT.nodes_map, List.getElem?_map, Option.map_eq_some_iff] at hj
   obtain ⟨p, hp, rfl⟩ := hj
   have hpm := List.mem_of_getElem? hp
   have hps := hpos j p hp
   refine ih p hpm (hg' p hpm).1 (hf' p hpm) _ _ _ _ _ (.inr (.inr (.inr (.inr ⟨rfl, rfl, fun h => by simp [hps.1 h], fun h => by simp [PT.nodes_length, hps.2 h], fun h3 h4 => thing_of (hkk p hpm) h3 h4⟩)))) (fun h => absurd (hg' p hpm).2 h)
 ·intro l ih hg hf d a f ll b hm hb
  have hb' := hb (by simp [PT.tag])
  simp only [PT.gd] at hg
  have hg' := (PT.gdL_iff l 1).1 hg.1
  have hf' := (PT.fmL_iff chars fold l).1 hf
  have hk : ∀ t, t ∈ PT.nodes l → t.k ≠ 6 := fun t ht => by
   obtain ⟨p, hp, rfl⟩ := PT.nodes_mem ht
   exact (PT.gd_node p (hg' p hp).1).2.2 (hg' p hp).2
  simp only [PT.node, altT, PT.altOut_of hk] at hm ⊢
  have hne : PT.nodes l ≠ [] := fun e => hg.2 (by have := PT.nodes_length l; rw [e] at this; exact List.length_eq_zero_iff.1 this.symm)
  match hl : PT.nodes l, hne, hm with
  | [t], _, hm =>
   obtain ⟨p, hp, e⟩ := PT.nodes_mem (show t ∈ PT.nodes l by rw [hl]; simp)
   subst e
   exact ih p hp (hg' p hp).1 (hf' p hp) d a f ll b hm (fun _ => hb')
  | x :: y :: r, _, hm =>
   refine fine_mk hm (formed_many chars fold 6 (.inr rfl) _ (by simp)) (fun j t hj => ?_)
   obtain ⟨p, hp, e⟩ := PT.nodes_mem (show t ∈ PT.nodes l by rw [hl]; exact List.mem_of_getElem? hj)
   subst e
   exact ih p hp (hg' p hp).1 (hf' p hp) _ _ _ _ _ (.inr (.inr (.inl ⟨rfl, hk _ (by rw [hl]; exact List.mem_of_getElem? hj)⟩))) (fun _ => rfl)
/-- a branch so far; q: the kind of the token ahead -/
structure CurOk (chars fold : Bool) (q : Int) (l : List PT) : Prop where
 fm : PT.fmL chars fold l
 pos : ∀ (i : Nat) (p : PT), l[i]? = some p → (p.node.k = 3 → i = 0 ∧ (i + 1 = l.length → q = 7)) ∧ (p.node.k = 4 → i + 1 = l.length ∧ q = 8)
 emp : l = [] ↔ q = 0 ∨ q = 3 ∨ q = 5
structure GOk (chars fold : Bool) (g : GS) : Prop where
 done : PT.fmL chars fold g.done
 fm : PT.fmL chars fold g.cur
 pos : ∀ (i : Nat) (p : PT), g.cur[i]? = some p → (p.node.k = 3 → i = 0) ∧ p.node.k ≠ 4
structure MOk (chars fold : Bool) (q : Int) (m : MS) : Prop where
 done : PT.fmL chars fold m.top.done
 cur : CurOk chars fold q m.top.cur
 below : ∀ g, g ∈ m.below → GOk chars fold g
theorem PT.fmL_append {chars fold : Bool} {a b : List PT} : PT.fmL chars fold (a ++ b) ↔ PT.fmL chars fold a ∧ PT.fmL chars fold b := by
 simp only [PT.fmL_iff, List.mem_append]
 exact ⟨fun h => ⟨fun p hp => h p (.inl hp), fun p hp => h p (.inr hp)⟩, fun h p hp => hp.elim (h.1 p) (h.2 p)⟩
theorem CurOk.branch {chars fold : Bool} {q : Int} {l : List PT} (h : CurOk chars fold q l) : PT.fm chars fold (.branch l) := ⟨h.fm, fun i p hp => ⟨fun h3 => ((h.pos i p hp).1 h3).1, fun h4 => ((h.pos i p hp).2 h4).1⟩⟩
theorem MOk.all {chars fold : Bool} {q : Int} {m : MS} (h : MOk chars fold q m) : PT.fmL chars fold m.top.all := by
 unfold GS.all
 rw [PT.fmL_append]
 exact ⟨h.done, h.cur.branch, trivial⟩
theorem CurOk.snoc {chars fold : Bool} {l : List PT} {p : PT} {q' : Int} (h : PT.fmL chars fold l) (hpos : ∀ (i : Nat) (p : PT), l[i]? = some p → (p.node.k = 3 → i = 0) ∧ p.node.k ≠ 4) (hp : p.fm chars fold) (h3 : p.node.k = 3 → l = [] ∧ q' = 7) (h4 : p.node.k = 4 → q' = 8) (hq : ¬ (q' = 0 ∨ q' = 3 ∨ q' = 5)) : CurOk chars fold q' (l ++ [p]) := by
 refine ⟨?_, fun i x hx => ?_, by simp [hq]⟩
 ·rw [PT.fmL_append]; exact ⟨h, hp, trivial⟩
 ·have hlt := (List.getElem?_eq_some_iff.1 hx).1
  simp only [List.length_append, List.length_singleton] at hlt ⊢
  rcases Nat.lt_or_ge i l.length with hi | hi
  ·rw [List.getElem?_append_left hi] at hx
   have := hpos i x hx
   exact ⟨fun e => ⟨this.1 e, fun e2 => by omega⟩, fun e => absurd e this.2⟩
  ·obtain rfl : i = l.length := by omega
   rw [List.getElem?_append_right (Nat.le_refl _), Nat.sub_self] at hx
   obtain rfl : p = x := by simpa using hx
   exact ⟨fun e => ⟨by rw [(h3 e).1]; rfl, fun _ => (h3 e).2⟩, fun e => ⟨rfl, h4 e⟩⟩
theorem CurOk.soft {chars fold : Bool} {q : Int} {l : List PT} (h : CurOk chars fold q l) (h8 : q ≠ 8) : ∀ (i : Nat) (p : PT), l[i]? = some p → (p.node.k = 3 → i = 0) ∧ p.node.k ≠ 4 := fun i p hp => ⟨fun e => ((h.pos i p hp).1 e).1, fun e => h8 ((h.pos i p hp).2 e).2⟩
theorem MOk.tok {chars fold : Bool} {q : Int} {m m' : MS} {t : Tok} {l : List Tok} (h : MOk chars fold q m) (hs : okSeq q (t :: l)) (hm_ : okMore chars fold q (t :: l)) (hm : m.tok t = .ok m') : MOk chars fold t.kind m' := by
 obtain ⟨s1, s2, s3, _⟩ := hs
 obtain ⟨o1, o2, o3, o4, o5, _⟩ := hm_
 unfold MS.tok at hm
 have hput : ∀ p, PT.fm chars fold p → (p.node.k = 3 → t.kind = 7) → (p.node.k = 4 → t.kind = 8) → t.kind ≠ 3 → t.kind ≠ 4 → t.kind ≠ 5 → MOk chars fold t.kind (m.put p) := fun p h1 h2 h3 h4 h5 h6 =>
  ⟨h.done, CurOk.snoc h.cur.fm (h.cur.soft (by omega)) h1 (fun e => ⟨h.cur.emp.2 (o1 (h2 e)), h2 e⟩) h3 (by omega), h.below⟩
 split at hm
 ·rename_i k3
  split at hm
  ·cases hm
  ·cases hm
   refine ⟨trivial, ⟨trivial, fun i p hp => by simp at hp, by simp [k3]⟩, fun g hg => ?_⟩
   rcases List.mem_cons.1 hg with rfl | hg
   ·exact ⟨h.done, h.cur.fm, h.cur.soft (by omega)⟩
   ·exact h.below g hg
 split at hm
 ·rename_i k4
  split at hm
  ·cases hm
  ·rename_i g b hb
   cases hm
   have hg := h.below g (by rw [hb]; exact List.mem_cons_self)
   have hw : PT.fm chars fold m.top.whole := h.all
   refine ⟨hg.done, CurOk.snoc hg.fm hg.pos hw (fun e => ?_) (fun e => ?_) (by omega), fun g' hg' => h.below g' (by rw [hb]; exact List.mem_cons_of_mem _ hg')⟩
   ·simp [GS.whole, PT.node, NT.k] at e
   ·simp [GS.whole, PT.node, NT.k] at e
 split at hm
 ·rename_i k5
  cases hm
  exact ⟨h.all, ⟨trivial, fun i p hp => by simp at hp, by simp [k5]⟩, h.below⟩
 split at hm
 ·rename_i k2
  split at hm
  ·cases hm
  ·rename_i p hp
   cases hm
   obtain ⟨q0, q3, q5, q7, q8⟩ := s1 k2
   obtain ⟨ys, e⟩ := List.getLast?_eq_some_iff.1 hp
   have hc := h.cur
   rw [e] at hc
   have hfm := PT.fmL_append.1 hc.fm
   have hpos : ∀ (i : Nat) (x : PT), ys[i]? = some x → (x.node.k = 3 → i = 0) ∧ x.node.k ≠ 4 := fun i x hx => hc.soft q8 i x (by rw [List.getElem?_append_left (List.getElem?_eq_some_iff.1 hx).1]; exact hx)
   have hlast := hc.pos ys.length p (by simp)
   have hn3 : p.node.k ≠ 3 := fun e3 => q7 ((hlast.1 e3).2 (by simp))
   have hn4 : p.node.k ≠ 4 := fun e4 => q8 (hlast.2 e4).2
   refine ⟨h.done, ?_, h.below⟩
   show CurOk chars fold t.kind (m.top.cur.dropLast ++ [PT.often p t.lo t.hi])
   rw [e, List.dropLast_concat]
   refine CurOk.snoc hfm.1 hpos ⟨hfm.2.1, o3 k2, hn3, hn4⟩ (fun e => ?_) (fun e => ?_) (by omega)
   ·simp [PT.node, NT.k] at e
   ·simp [PT.node, NT.k] at e
 split at hm
 ·rename_i k6
  split at hm
  ·cases hm
   have := o4 k6
   exact hput _ (by simp [leafN, PT.fm, formed, NT.k, NT.kids, NT.r, NT.m, NT.lo, NT.hi, this]) (fun e => by simp [leafN, PT.node, NT.k] at e) (fun e => by simp [leafN, PT.node, NT.k] at e) (by omega) (by omega) (by omega)
  ·cases hm
 split at hm
 ·rename_i k7
  cases hm
  exact hput _ (by simp [leafN, PT.fm, formed, NT.k, NT.kids, NT.r, NT.m, NT.lo, NT.hi]) (fun _ => k7) (fun e => by simp [leafN, PT.node, NT.k] at e) (by omega) (by omega) (by omega)
 split at hm
 ·rename_i k8
  cases hm
  exact hput _ (by simp [leafN, PT.fm, formed, NT.k, NT.kids, NT.r, NT.m, NT.lo, NT.hi]) (fun e => by simp [leafN, PT.node, NT.k] at e) (fun _ => k8) (by omega) (by omega) (by omega)
 ·cases hm
  have := o5 (by omega)
  exact hput _ (by simp [leafN, PT.fm, formed, NT.k, NT.kids, NT.r, NT.m, NT.lo, NT.hi, this]) (fun e => by simp [leafN, PT.node, NT.k] at e) (fun e => by simp [leafN, PT.node, NT.k] at e) (by omega) (by omega) (by omega)
theorem MOk.run {chars fold : Bool} : ∀ {l : List Tok} {q : Int} {m m' : MS}, MOk chars fold q m → okSeq q l → okMore chars fold q l → MS.run l m = .ok m' → ∃ q', MOk chars fold q' m'
 | [], q, m, m', h, _, _, hr => by cases hr; exact ⟨q, h⟩
 | t :: l, q, m, m', h, hs, ho, hr => by
  obtain ⟨m1, h1, h2⟩ := MS.run_cons hr
  exact MOk.run (h.tok hs ho h1) hs.2.2.2 ho.2.2.2.2.2 h2
theorem parts_fm {chars fold : Bool} {l : List Tok} {p : PT} (hs : okSeq 0 l) (ho : okMore chars fold 0 l) (h : partsT l = .ok p) : p.fm chars fold := by
 unfold partsT at h
 split at h
 ·cases h
 ·rename_i m hm
  split at h
  ·cases h
   obtain ⟨q, hq⟩ := MOk.run (chars := chars) (fold := fold) (l := l) (q := 0) (m := MS.start) ⟨trivial, ⟨trivial, fun i p hp => by simp [MS.start] at hp, by simp [MS.start]⟩, fun g hg => by simp [MS.start] at hg⟩ hs ho hm
   exact hq.all
  ·cases h
theorem enters_deep : ∀ (t : NT) (d a : Int) (f l b : Bool) (s : Step), s ∈ enters (evs t d a f l b) → s.deep ≤ d + t.dep - 1 := by
 intro t
 refine NT.ind (P := fun t => ∀ (d a : Int) (f l b : Bool) (s : Step), s ∈ enters (evs t d a f l b) → s.deep ≤ d + t.dep - 1) ?_ t
 intro k m lo hi r kids ih d a f l b s hs
 have hL : ∀ (ts : List NT), (∀ t, t ∈ ts → t ∈ kids) → ∀ (d a : Int) (n i : Nat) (b : Bool) (s : Step), s ∈ enters (evsL ts d a n i b) → s.deep ≤ d + NT.depL ts - 1 := by
  intro ts
  induction ts with
  | nil => intro _ d a n i b s hs; simp [evsL, enters] at hs
  | cons t ts iht =>
   intro hsub d a n i b s hs
   simp only [evsL, enters_append, List.mem_append] at hs
   simp only [NT.depL]
   rcases hs with hs | hs
   ·have := ih t (hsub t List.mem_cons_self) _ _ _ _ _ s hs; omega
   ·have := iht (fun t ht => hsub t (List.mem_cons_of_mem _ ht)) _ _ _ _ _ s hs; omega
 have h0 := NT.depL_nonneg kids
 simp only [evs, enters, enters_append, List.append_nil, List.mem_cons] at hs
 simp only [NT.dep]
 rcases hs with rfl | hs
 ·simp only; omega
 ·have := hL kids (fun t h => h) _ _ _ _ _ s hs; omega
/-- what is put together is right -/
theorem parse_right {chars fold : Bool} {l : List Tok} {t : NT} (hs : okSeq 0 l) (ho : okMore chars fold 0 l) (h : parseT l = .ok t) : rightT t chars fold = 0 := by
 unfold parseT at h
 split at h
 ·cases h
 ·rename_i p hp
  obtain ⟨hg, htag⟩ := parts_gd hp
  have hf := parts_fm hs ho hp
  obtain ⟨s', hsig⟩ := parts_seen hp
  unfold wholeT at h
  split at h
  ·cases h
  split at h
  ·cases h
  rename_i hd hc
  cases h
  rw [(PT.gd_node p hg).1] at hd
  unfold rightT Step.evs
  have hlen := enters_length p.node (Step.top p.node).deep (Step.top p.node).around (Step.top p.node).first (Step.top p.node).last (Step.top p.node).branch
  refine run_right chars fold _ ⟨0, 0, 0, []⟩ s' rfl ?_ (fun s hs => ?_) ?_
  ·show (0 : Int) + _ ≤ 2000
   have e : (Step.top p.node).n = p.node := rfl
   rw [e, hlen]
   unfold countT at hc
   omega
  ·have h1 := enters_deep p.node _ _ _ _ _ s hs
   have h2 := PT.fine chars fold p hg hf _ _ _ _ _ (.inl rfl) (fun _ => rfl) s hs
   simp only [Step.top] at h1
   exact ⟨by omega, h2⟩
  ·rw [show (Step.top p.node).n = p.node from rfl, PT.gd_sig p hg]
   exact hsig
end Go.Proofs.YtamhkdlcoghdbaaGreatDoor.PCls
