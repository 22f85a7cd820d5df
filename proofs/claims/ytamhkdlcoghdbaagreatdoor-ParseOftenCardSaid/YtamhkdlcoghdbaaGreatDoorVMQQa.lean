/- Put together (wip/tools/pack.py): QQa, QQb. -/
import Derived.Test.YtamhkdlcoghdbaaGreatDoorVQLj
/- Out of Qa (wip/tools/prune2.py): the declarations alone that the texts of the trees name. -/
namespace Go.Proofs.YtamhkdlcoghdbaaGreatDoor.PCls
set_option linter.unusedVariables false
set_option linter.unusedSimpArgs false
theorem mrun_step {t : Tok} {l : List Tok} {m m' : MS} (h : m.tok t = .ok m') : MS.run (t :: l) m = MS.run l m' := by
 conv => lhs; unfold MS.run
 rw [h]
theorem mrun_app {b : List Tok} : ∀ {a : List Tok} {m m' : MS}, MS.run a m = .ok m' → MS.run (a ++ b) m = MS.run b m'
 | [], m, m', h => by cases h; rfl
 | t :: a, m, m', h => by
  obtain ⟨m1, h1, h2⟩ := MS.run_cons h
  rw [List.cons_append, mrun_step h1]
  exact mrun_app h2
theorem tok_many {m m' : MS} {t : Tok} (hm : m.tok t = .ok m') : m'.many = m.many + (if t.kind = 3 then 1 else 0) := by
 unfold MS.tok at hm
 by_cases h3 : t.kind = 3
 ·rw [if_pos h3] at hm ⊢
  split at hm
  ·cases hm
  ·cases hm; rfl
 ·rw [if_neg h3] at hm ⊢
  rw [Int.add_zero]
  repeat' split at hm
  all_goals first | (cases hm; done) | (cases hm; rfl)
theorem many_le : ∀ {l : List Tok} {m f : MS}, MS.run l m = .ok f → m.many ≤ f.many
 | [], m, f, h => by cases h; exact Int.le_refl _
 | t :: l, m, f, h => by
  obtain ⟨m1, h1, h2⟩ := MS.run_cons h
  have h3 := many_le h2
  have h4 := tok_many h1
  split at h4 <;> omega
/-- a token that has nothing to do with groups -/
def flatK (t : Tok) : Prop := t.kind ≠ 3 ∧ t.kind ≠ 4 ∧ t.kind ≠ 6
theorem flat_of : ∀ {l : List Tok} {m f : MS}, m.below = [] → m.ended = [] → f.many ≤ m.many → MS.run l m = .ok f → ∀ t, t ∈ l → flatK t
 | [], m, f, _, _, _, _, t, ht => by cases ht
 | u :: l, m, f, hb, he, hm, h, t, ht => by
  obtain ⟨m1, h1, h2⟩ := MS.run_cons h
  have h3 := many_le h2
  have h4 := tok_many h1
  have k3 : u.kind ≠ 3 := fun e => by rw [if_pos e] at h4; omega
  rw [if_neg k3] at h4
  have hu : flatK u ∧ m1.below = [] ∧ m1.ended = [] := by
   unfold MS.tok at h1
   rw [if_neg k3, hb] at h1
   split at h1
   ·cases h1
   rename_i k4
   split at h1
   ·rename_i k5; cases h1; exact ⟨⟨k3, k4, by omega⟩, rfl, he⟩
   split at h1
   ·rename_i k2
    split at h1
    ·cases h1
    ·cases h1; exact ⟨⟨k3, k4, by omega⟩, hb, he⟩
   split at h1
   ·rw [he] at h1; simp at h1
   rename_i k6
   split at h1
   ·cases h1; exact ⟨⟨k3, k4, k6⟩, hb, he⟩
   split at h1
   ·cases h1; exact ⟨⟨k3, k4, k6⟩, hb, he⟩
   ·cases h1; exact ⟨⟨k3, k4, k6⟩, hb, he⟩
  rcases List.mem_cons.1 ht with rfl | ht
  ·exact hu.1
  ·exact flat_of hu.2.1 hu.2.2 (by omega) h2 t ht
/-- such tokens are taken alike, whatever is around -/
theorem flat_tok {D : List PT} {a b M : Int} {B : List GS} {E : List Int} {m m' : MS} {t : Tok} (hf : flatK t) (hm : m.tok t = .ok m') :
  (⟨⟨a, b, D ++ m.top.done, m.top.cur⟩, B, M, E⟩ : MS).tok t = .ok ⟨⟨a, b, D ++ m'.top.done, m'.top.cur⟩, B, M, E⟩ := by
 obtain ⟨k3, k4, k6⟩ := hf
 unfold MS.tok at hm ⊢
 rw [if_neg k3, if_neg k4] at hm ⊢
 by_cases k5 : t.kind = 5
 ·rw [if_pos k5] at hm ⊢
  cases hm
  simp [GS.all]
 rw [if_neg k5] at hm ⊢
 by_cases k2 : t.kind = 2
 ·rw [if_pos k2] at hm ⊢
  simp only
  cases hl : m.top.cur.getLast? with
  | none => rw [hl] at hm; cases hm
  | some p => rw [hl] at hm; cases hm; rfl
 rw [if_neg k2, if_neg k6] at hm ⊢
 by_cases k7 : t.kind = 7
 ·rw [if_pos k7] at hm ⊢; cases hm; rfl
 rw [if_neg k7] at hm ⊢
 by_cases k8 : t.kind = 8
 ·rw [if_pos k8] at hm ⊢; cases hm; rfl
 rw [if_neg k8] at hm ⊢
 cases hm
 rfl
theorem flat_run {D : List PT} {a b M : Int} {B : List GS} {E : List Int} : ∀ {l : List Tok} {m f : MS}, (∀ t, t ∈ l → flatK t) → MS.run l m = .ok f →
  MS.run l ⟨⟨a, b, D ++ m.top.done, m.top.cur⟩, B, M, E⟩ = .ok ⟨⟨a, b, D ++ f.top.done, f.top.cur⟩, B, M, E⟩
 | [], m, f, _, h => by cases h; rfl
 | t :: l, m, f, hf, h => by
  obtain ⟨m1, h1, h2⟩ := MS.run_cons h
  rw [mrun_step (flat_tok (hf t List.mem_cons_self) h1)]
  exact flat_run (fun u hu => hf u (List.mem_cons_of_mem _ hu)) h2
/-- so many bytes further on: the same -/
theorem tok_X {d : Nat} {m : MS} {t : Tok} (h : t.kind ≠ 3) : m.tok (tokX d t) = m.tok t := by
 unfold MS.tok
 simp only [show (tokX d t).kind = t.kind from rfl, show (tokX d t).n = t.n from rfl, show (tokX d t).lo = t.lo from rfl, show (tokX d t).hi = t.hi from rfl, show (tokX d t).r = t.r from rfl]
 rw [if_neg h, if_neg h]
theorem run_X {d : Nat} : ∀ {l : List Tok} {m f : MS}, (∀ t, t ∈ l → t.kind ≠ 3) → MS.run l m = .ok f → MS.run (l.map (tokX d)) m = .ok f
 | [], m, f, _, h => h
 | t :: l, m, f, hf, h => by
  obtain ⟨m1, h1, h2⟩ := MS.run_cons h
  rw [List.map_cons, mrun_step (by rw [tok_X (hf t List.mem_cons_self)]; exact h1)]
  exact run_X (fun u hu => hf u (List.mem_cons_of_mem _ hu)) h2
/-- how many groups there are -/
def Sg.isOp : Sg → Bool
 | .op _ => true
 | _ => false
theorem groups_sig : ∀ l : List Ev, groupsIn (enters l) = ((sigE l).filter Sg.isOp).length
 | [] => rfl
 | .enter s :: l => by
  have ih := groups_sig l
  rw [enters, show groupsIn (s :: enters l) = (if s.n.k = 7 then 1 else 0) + groupsIn (enters l) by
   unfold groupsIn; by_cases h : s.n.k = 7 <;> simp [h]; omega, ih]
  simp only [sigE, List.filter_append, List.length_append]
  congr 1
  by_cases h : s.n.k = 7
  ·rw [if_pos h, if_pos h]; rfl
  ·rw [if_neg h, if_neg h]; split <;> rfl
 | .leave s :: l => by
  have ih := groups_sig l
  rw [enters, ih]
  simp only [sigE, List.filter_append, List.length_append]
  split <;> simp [Sg.isOp]
theorem runSg_count : ∀ (l : List Sg) (s s' : Int × List Int), runSg l s = some s' → s'.1 = s.1 + (l.filter Sg.isOp).length
 | [], s, s', h => by cases h; simp
 | .op n :: l, s, s', h => by
  unfold runSg at h
  split at h
  ·have := runSg_count l _ _ h
   simp only [List.filter_cons, Sg.isOp, if_true, List.length_cons] at this ⊢
   omega
  ·cases h
 | .cl n :: l, s, s', h => by
  have := runSg_count l _ _ h
  simpa [List.filter_cons, Sg.isOp] using this
 | .bk n :: l, s, s', h => by
  unfold runSg at h
  split at h
  ·have := runSg_count l _ _ h
   simpa [List.filter_cons, Sg.isOp] using this
  ·cases h
/-- how deep a tree is -/
theorem deep_max : ∀ (t : NT) (d a : Int) (f l b : Bool), ∃ s, s ∈ enters (evs t d a f l b) ∧ s.deep = d + t.dep - 1 := by
 intro t
 refine NT.ind (P := fun t => ∀ (d a : Int) (f l b : Bool), ∃ s, s ∈ enters (evs t d a f l b) ∧ s.deep = d + t.dep - 1) ?_ t
 intro k m lo hi r kids ih d a f l b
 have hL : ∀ (ts : List NT), (∀ t, t ∈ ts → t ∈ kids) → ts ≠ [] → ∀ (d a : Int) (n i : Nat) (b : Bool), ∃ s, s ∈ enters (evsL ts d a n i b) ∧ s.deep = d + NT.depL ts - 1 := by
  intro ts
  induction ts with
  | nil => intro _ h; exact absurd rfl h
  | cons t ts iht =>
   intro hsub _ d a n i b
   simp only [evsL, enters_append, List.mem_append, NT.depL]
   obtain ⟨s, h1, h2⟩ := ih t (hsub t List.mem_cons_self) d a (decide (i = 0)) (decide (i + 1 = n)) b
   by_cases hts : ts = []
   ·subst hts
    refine ⟨s, .inl h1, ?_⟩
    have := t.dep_pos
    simp only [NT.depL]; omega
   ·obtain ⟨s2, h3, h4⟩ := iht (fun t ht => hsub t (List.mem_cons_of_mem _ ht)) hts d a n (i + 1) b
    by_cases hle : NT.depL ts ≤ t.dep
    ·exact ⟨s, .inl h1, by omega⟩
    ·exact ⟨s2, .inr h3, by omega⟩
 simp only [evs, enters, enters_append, List.append_nil, List.mem_cons, NT.dep]
 by_cases hk : kids = []
 ·subst hk
  exact ⟨_, .inl rfl, by simp only [NT.depL]; omega⟩
 ·obtain ⟨s, h1, h2⟩ := hL kids (fun t h => h) hk (d + 1) k kids.length 0 (branchOf k b)
  exact ⟨s, .inr h1, by omega⟩
theorem deepOf_le : ∀ (l : List Step) (s : Step) (d : Int), s ∈ l → d ≤ l.foldl (fun d s => max d s.deep) d ∧ s.deep ≤ l.foldl (fun d s => max d s.deep) d := by
 have h0 : ∀ (l : List Step) (d : Int), d ≤ l.foldl (fun d s => max d s.deep) d := by
  intro l
  induction l with
  | nil => intro d; exact Int.le_refl _
  | cons x l ih => intro d; have := ih (max d x.deep); simp only [List.foldl_cons]; omega
 intro l
 induction l with
 | nil => intro s d h; cases h
 | cons x l ih =>
  intro s d h
  refine ⟨h0 _ d, ?_⟩
  simp only [List.foldl_cons]
  rcases List.mem_cons.1 h with rfl | h
  ·have := h0 l (max d s.deep); omega
  ·exact (ih s _ h).2
theorem dep_le {t : NT} (hn : t.nodes ≤ 2000) : t.dep ≤ depthT t := by
 obtain ⟨s, h1, h2⟩ := deep_max t 1 0 true true true
 have h3 := (deepOf_le _ s 0 h1).2
 unfold depthT
 rw [if_neg (by omega)]
 have e : deepOf (enters (Step.top t).evs) = (enters (evs t 1 0 true true true)).foldl (fun d s => max d s.deep) 0 := rfl
 rw [e]; omega
/-- how large what is put together is -/
def MS.szm (m : MS) : Int := szs (m.top :: m.below) + 3 * (m.below.length + 1)
theorem szm_step {m m' : MS} {t : Tok} (hm : m.tok t = .ok m') : m'.szm ≤ m.szm + 1 + 2 * (m'.many - m.many) := by
 have hput : ∀ k n r, (m.put (leafN k n r)).szm ≤ m.szm + 1 + 2 * ((m.put (leafN k n r)).many - m.many) := fun k n r => by
  simp only [MS.szm, szs, GS.sz, MS.put, GS.put, PT.nszL_append, PT.nszL, leafN, PT.nsz, NT.nodes, NT.nodesL]; omega
 unfold MS.tok at hm
 split at hm
 ·split at hm
  ·cases hm
  ·cases hm
   simp only [MS.szm, szs, GS.sz, PT.nszL, List.length_cons]; omega
 split at hm
 ·split at hm
  ·cases hm
  ·rename_i g b hb
   cases hm
   simp only [MS.szm, hb, szs, GS.sz, GS.put, GS.whole, GS.all, PT.nszL_append, PT.nszL, PT.nsz, List.length_cons]; omega
 split at hm
 ·cases hm
  simp only [MS.szm, szs, GS.sz, GS.all, PT.nszL_append, PT.nszL, PT.nsz]; omega
 split at hm
 ·split at hm
  ·cases hm
  ·rename_i p hp
   cases hm
   have := nszL_last _ _ hp
   simp only [MS.szm, szs, GS.sz, MS.rep, PT.nszL_append, PT.nszL, PT.nsz]; omega
 split at hm
 ·split at hm
  ·cases hm; exact hput _ _ _
  ·cases hm
 split at hm
 ·cases hm; exact hput _ _ _
 split at hm
 ·cases hm; exact hput _ _ _
 ·cases hm; exact hput _ _ _
theorem szm_run : ∀ {l : List Tok} {m f : MS}, MS.run l m = .ok f → f.szm ≤ m.szm + l.length + 2 * (f.many - m.many)
 | [], m, f, h => by cases h; simp
 | t :: l, m, f, h => by
  obtain ⟨m1, h1, h2⟩ := MS.run_cons h
  have h3 := szm_run h2
  have h4 := szm_step h1
  simp only [List.length_cons]; omega
theorem all_nodes {l : List Tok} {f : MS} (h : MS.run l MS.start = .ok f) (hb : f.below = []) : (PT.choice f.top.all).node.nodes ≤ l.length + 62 := by
 have h1 := szm_run h
 have h2 := (MS.seen.run (l := l) (m := MS.start) ⟨by decide, [], rfl, fun n => Iff.rfl⟩ h).1
 have h3 := PT.node_nodes (.choice f.top.all)
 simp only [PT.nsz, GS.all, PT.nszL_append, PT.nszL] at h3
 have e0 : MS.start.szm = 3 := rfl
 have e1 : MS.start.many = 0 := rfl
 rw [e0, e1] at h1
 simp only [MS.szm, hb, szs, GS.sz, List.length_nil] at h1
 simp only [GS.all]
 omega
/-- what a pattern's tree is put together of -/
structure Put (s : ByteArray) (chars fold : Bool) (ts : List Tok) (f : MS) (t : NT) : Prop where
 lex : Lx.lex clC s chars fold = .ok ts
 run : MS.run ts MS.start = .ok f
 below : f.below = []
 node : t = (PT.choice f.top.all).node
 nodes : t.nodes ≤ 2000
 len : ts.length ≤ s.size
 groups : groupsT t = f.many
theorem parse_put {s : ByteArray} {chars fold : Bool} {t : NT} (h : parseS s chars fold = .ok t) : ∃ ts f, Put s chars fold ts f t := by
 have hlt := lex_told s chars fold
 unfold parseS at h
 cases hlex : Lx.lex clC s chars fold with
 | error e => rw [hlex] at h; cases h
 | ok out =>
  rw [hlex] at h hlt
  have hp : parseT out = .ok t := h
  unfold parseT at hp
  cases hpt : partsT out with
  | error e => rw [hpt] at hp; cases hp
  | ok p =>
   rw [hpt] at hp
   simp only at hp
   have hgd := (parts_gd hpt).1
   unfold partsT at hpt
   cases hrun : MS.run out MS.start with
   | error e => rw [hrun] at hpt; cases hpt
   | ok f =>
    rw [hrun] at hpt
    simp only at hpt
    split at hpt
    ·rename_i hb
     have hb' : f.below = [] := by simpa using hb
     cases hpt
     unfold wholeT at hp
     split at hp
     ·cases hp
     split at hp
     ·cases hp
     rename_i h1 h2
     cases hp
     have hn : (PT.choice f.top.all).node.nodes ≤ 2000 := by unfold countT at h2; omega
     refine ⟨out, f, hlex, hrun, hb', rfl, hn, by have := stands_len hlt; omega, ?_⟩
     obtain ⟨_, E, hE, _⟩ := MS.seen.run (l := out) (m := MS.start) ⟨by decide, [], rfl, fun n => Iff.rfl⟩ hrun
     rw [hb'] at hE
     have h3 := runSg_count _ _ _ hE
     have h4 := PT.gd_sig _ hgd 1 0 true true true
     have h5 := groups_sig (evs (PT.choice f.top.all).node 1 0 true true true)
     rw [h4] at h5
     have e : sigS f.top [] = (PT.choice f.top.all).sig := by simp only [sigS, PT.sig, sigL_all]
     rw [e] at h3
     unfold groupsT
     rw [if_neg (by omega), show enters (Step.top (PT.choice f.top.all).node).evs = enters (evs (PT.choice f.top.all).node 1 0 true true true) from rfl, h5]
     simp only at h3
     omega
    ·cases hpt
theorem parse_of {s : ByteArray} {chars fold : Bool} {ts : List Tok} {f : MS} (h1 : Lx.lex clC s chars fold = .ok ts) (h2 : MS.run ts MS.start = .ok f) (h3 : f.below = []) (hd : (PT.choice f.top.all).node.dep ≤ 40) (hn : ts.length ≤ 1900) : parseS s chars fold = .ok (PT.choice f.top.all).node := by
 have hp : partsT ts = .ok (.choice f.top.all) := by
  unfold partsT
  rw [h2]
  simp [h3]
 have hgd := (parts_gd hp).1
 have h4 := (PT.gd_node _ hgd).1
 have h5 := all_nodes h2 h3
 unfold parseS
 rw [h1]
 show parseT ts = _
 unfold parseT
 rw [hp]
 simp only
 unfold wholeT
 rw [if_neg (by omega), if_neg (by unfold countT; omega)]
end Go.Proofs.YtamhkdlcoghdbaaGreatDoor.PCls
/- Out of Qb (wip/tools/prune2.py): the declarations alone that the texts of the trees name. -/
namespace Go.Proofs.YtamhkdlcoghdbaaGreatDoor.PCls
set_option linter.unusedVariables false
set_option linter.unusedSimpArgs false
/-- a sign of two bytes that makes a token of its own -/
theorem next_sign {z : ByteArray} {chars fold : Bool} {y : Lx.St} {c : UInt8} {l : List UInt8} {k : Int} (h : z.data.toList.drop y.sat = 92 :: c :: l) (hc : (c = 40 ∧ k = 3) ∨ (c = 41 ∧ k = 4) ∨ (c = 124 ∧ k = 5)) :
  Lx.next clC z chars fold y = .ok (Lx.put y (Lx.tok k) (y.sat + 2)) ∧ y.sat + 2 ≤ z.size := by
 obtain ⟨e1, e2, e3⟩ := byt_drop h
 obtain ⟨e4, e5, e6⟩ := byt_drop e3
 refine ⟨?_, by omega⟩
 have hu := unit_ascii z chars y.sat e1 (by rw [e2]; decide)
 rw [next_eq, hu, e2, if_neg (by decide), if_pos (by decide)]
 unfold Lx.escape
 rw [if_neg (by omega)]
 simp only [e5]
 rcases hc with ⟨rfl, rfl⟩ | ⟨rfl, rfl⟩ | ⟨rfl, rfl⟩
 ·rw [if_pos (by decide)]
 ·rw [if_neg (by decide), if_pos (by decide)]
 ·rw [if_neg (by decide), if_neg (by decide), if_pos (by decide)]
theorem lex_run {s : ByteArray} {chars fold : Bool} (h : s.size ≤ 2000) : Lx.lex clC s chars fold = Lx.run clC s chars fold (s.size + 1) ⟨0, []⟩ := by
 unfold Lx.lex
 rw [if_neg (by omega)]
def opT : Tok := ⟨3, 0, 2, 0, 0, 0, []⟩
theorem lex_group {a z : ByteArray} {chars fold : Bool} {ts : List Tok} (hz : z.data.toList = 92 :: 40 :: (a.data.toList ++ [92, 41])) (h : Lx.lex clC a chars fold = .ok ts) (hs : a.size ≤ 1900) :
  ∃ c : Tok, c.kind = 4 ∧ Lx.lex clC z chars fold = .ok (opT :: ts.map (tokX 2) ++ [c]) := by
 have hE : Ext a z 2 [92, 41] := ⟨⟨[92, 40], rfl, hz⟩, .inr ⟨92, [41], rfl, .inl rfl⟩⟩
 have hsz := hE.size
 simp only [List.length_cons, List.length_nil] at hsz
 rw [lex_run (by omega)] at h ⊢
 obtain ⟨n1, z1⟩ := next_sign (z := z) (chars := chars) (fold := fold) (y := ⟨0, []⟩) (k := 3) (by rw [List.drop_zero, hz]) (.inl ⟨rfl, rfl⟩)
 rw [run_step (by show 0 < z.size; omega), n1]
 simp only
 have e0 : Lx.put ⟨0, []⟩ (Lx.tok 3) (0 + 2) = stX 2 [opT] ⟨0, []⟩ := rfl
 rw [e0]
 obtain ⟨k, hk, h2⟩ := run_x hE (P := [opT]) rfl chars fold (a.size + 1) ⟨0, []⟩ ts (by simp) (Nat.zero_le _) h (.inl (.inr ⟨41, [], rfl, .inl rfl⟩)) z.size (by simp)
 rw [h2]
 obtain ⟨k, rfl⟩ : ∃ j, k = j + 1 := ⟨k - 1, by omega⟩
 have hd := hE.drop a.size (Nat.le_refl _)
 rw [show a.data.toList.drop a.size = [] from List.drop_eq_nil_of_le (by rw [len_size]; exact Nat.le_refl _), List.nil_append] at hd
 obtain ⟨n2, z2⟩ := next_sign (z := z) (chars := chars) (fold := fold) (y := stX 2 [opT] ⟨a.size, ts⟩) (k := 4) hd (.inr (.inl ⟨rfl, rfl⟩))
 rw [run_step (by show a.size + 2 < z.size; omega), n2]
 simp only
 rw [lrun_stop (by show ¬ a.size + 2 + 2 < z.size; omega)]
 exact ⟨{ Lx.tok 4 with sat := ((a.size + 2 : Nat) : Int), fin := ((a.size + 2 + 2 : Nat) : Int) }, rfl, rfl⟩
theorem lex_or {a b z : ByteArray} {chars fold : Bool} {ts us : List Tok} (hz : z.data.toList = a.data.toList ++ 92 :: 124 :: b.data.toList) (h : Lx.lex clC a chars fold = .ok ts) (g : Lx.lex clC b chars fold = .ok us) (hs : a.size + b.size ≤ 1900) :
  ∃ c : Tok, c.kind = 5 ∧ Lx.lex clC z chars fold = .ok (ts.map (tokX 0) ++ c :: us.map (tokX (a.size + 2))) := by
 have hE : Ext a z 0 (92 :: 124 :: b.data.toList) := ⟨⟨[], rfl, hz⟩, .inr ⟨92, _, rfl, .inl rfl⟩⟩
 have hF : Ext b z (a.size + 2) [] := ⟨⟨a.data.toList ++ [92, 124], by rw [List.length_append, len_size]; rfl, by rw [hz]; simp⟩, .inl rfl⟩
 have hsz := hF.size
 simp only [List.length_nil] at hsz
 rw [lex_run (by omega)] at h g ⊢
 obtain ⟨k, hk, h2⟩ := run_x hE (P := []) rfl chars fold (a.size + 1) ⟨0, []⟩ ts (by simp) (Nat.zero_le _) h (.inl (.inr ⟨124, _, rfl, .inr rfl⟩)) (z.size + 1) (by simp)
 rw [show (⟨0, []⟩ : Lx.St) = stX 0 [] ⟨0, []⟩ from rfl, h2]
 obtain ⟨k, rfl⟩ : ∃ j, k = j + 1 := ⟨k - 1, by omega⟩
 have hd := hE.drop a.size (Nat.le_refl _)
 rw [show a.data.toList.drop a.size = [] from List.drop_eq_nil_of_le (by rw [len_size]; exact Nat.le_refl _), List.nil_append] at hd
 obtain ⟨n2, z2⟩ := next_sign (z := z) (chars := chars) (fold := fold) (y := stX 0 [] ⟨a.size, ts⟩) (k := 5) hd (.inr (.inr ⟨rfl, rfl⟩))
 rw [run_step (by show a.size + 0 < z.size; omega), n2]
 simp only
 obtain ⟨c, hc⟩ : ∃ c : Tok, c = { Lx.tok 5 with sat := ((a.size : Nat) : Int), fin := ((a.size + 2 : Nat) : Int) } := ⟨_, rfl⟩
 have e0 : Lx.put (stX 0 [] ⟨a.size, ts⟩) (Lx.tok 5) ((stX 0 [] ⟨a.size, ts⟩).sat + 2) = stX (a.size + 2) (ts.map (tokX 0) ++ [c]) ⟨0, []⟩ := by
  rw [hc]; simp [Lx.put, stX]
 have hP : Lx.opens ⟨0, ts.map (tokX 0) ++ [c]⟩ = true := by rw [hc]; simp [Lx.opens, Lx.last, Lx.tok]
 rw [e0]
 obtain ⟨k2, hk2, h3⟩ := run_x hF hP chars fold (b.size + 1) ⟨0, []⟩ us (by simp) (Nat.zero_le _) g (.inl (.inl rfl)) k (by simp only; omega)
 rw [h3, lrun_stop (by show ¬ b.size + (a.size + 2) < z.size; omega)]
 exact ⟨c, by rw [hc]; rfl, by simp [stX]⟩
theorem tokX_0 (l : List Tok) : l.map (tokX 0) = l := by
 have e : tokX 0 = id := by funext t; cases t; simp [tokX]
 rw [e, List.map_id]
/-- a sign behind a text that ends with the end of a group -/
theorem lex_rep {s z : ByteArray} {chars fold : Bool} {ts : List Tok} {tl : List UInt8} {lo hi : Int} (hz : z.data.toList = s.data.toList ++ tl) (h : Lx.lex clC s chars fold = .ok ts) (hs : z.size ≤ 2000) (h41 : Lx.byt s (s.size - 1) = 41) (h4 : ts.getLast?.map Tok.kind = some 4)
  (ht : (tl = [42] ∧ lo = 0 ∧ hi = -1) ∨ (tl = 92 :: 123 :: ((digB lo).data.toList ++ [44] ++ (digB hi).data.toList ++ [92, 125]) ∧ 0 ≤ lo ∧ lo ≤ 255 ∧ lo ≤ hi ∧ hi ≤ 255)) :
  ∃ c : Tok, c.kind = 2 ∧ c.lo = lo ∧ c.hi = hi ∧ Lx.lex clC z chars fold = .ok (ts ++ [c]) := by
 have hE : Ext s z 0 tl := ⟨⟨[], rfl, hz⟩, .inr (ht.elim (fun e => ⟨42, [], e.1, .inr rfl⟩) (fun e => ⟨92, _, e.1, .inl rfl⟩))⟩
 have hsz := hE.size
 have htl : 1 ≤ tl.length := by rcases ht with ⟨e, _⟩ | ⟨e, _⟩ <;> rw [e] <;> simp
 rw [lex_run (by omega)] at h ⊢
 obtain ⟨k, hk, h2⟩ := run_x hE (P := []) rfl chars fold (s.size + 1) ⟨0, []⟩ ts (by simp) (Nat.zero_le _) h (.inr ⟨h41, h4⟩) (z.size + 1) (by simp)
 rw [show (⟨0, []⟩ : Lx.St) = stX 0 [] ⟨0, []⟩ from rfl, h2]
 have e0 : stX 0 [] ⟨s.size, ts⟩ = ⟨s.size, ts⟩ := by unfold stX; rw [tokX_0]; rfl
 rw [e0]
 obtain ⟨k, rfl⟩ : ∃ j, k = j + 1 := ⟨k - 1, by omega⟩
 have hd := hE.drop s.size (Nat.le_refl _)
 rw [show s.data.toList.drop s.size = [] from List.drop_eq_nil_of_le (by rw [len_size]; exact Nat.le_refl _), List.nil_append] at hd
 simp only [Nat.add_zero] at hd
 have hbg : Lx.begins ⟨s.size, ts⟩ = false := by
  have e : Lx.last ⟨s.size, ts⟩ = 4 := by
   unfold Lx.last
   cases hl : ts.getLast? with
   | none => rw [hl] at h4; cases h4
   | some t => rw [hl] at h4; simpa using h4
  unfold Lx.begins Lx.opens
  rw [e]; rfl
 have hn : ∃ c : Tok, c.kind = 2 ∧ c.lo = lo ∧ c.hi = hi ∧ Lx.next clC z chars fold ⟨s.size, ts⟩ = .ok (Lx.put ⟨s.size, ts⟩ c z.size) := by
  rcases ht with ⟨e, rfl, rfl⟩ | ⟨e, hl0, hl1, hh0, hh1⟩
  ·rw [e] at hd hsz
   obtain ⟨e1, e2, e3⟩ := byt_drop hd
   have hu := unit_ascii z chars s.size e1 (by rw [e2]; decide)
   refine ⟨{ Lx.tok 2 with hi := -1 }, rfl, rfl, rfl, ?_⟩
   rw [next_eq, hu, e2, hbg, if_neg (by decide), if_neg (by decide), if_neg (by decide), if_neg (by decide), if_pos (by decide)]
   simp only [List.length_cons, List.length_nil] at hsz
   simp only
   rw [show z.size = s.size + 1 by omega]
  ·rw [e] at hd
   obtain ⟨e1, e2, e3⟩ := byt_drop hd
   obtain ⟨e4, e5, e6⟩ := byt_drop e3
   have hu := unit_ascii z chars s.size e1 (by rw [e2]; decide)
   refine ⟨{ Lx.tok 2 with lo := lo, hi := hi }, rfl, rfl, rfl, ?_⟩
   rw [next_eq, hu, e2, if_neg (by decide), if_pos (by decide)]
   unfold Lx.escape
   rw [if_neg (by simp only; omega)]
   simp only [e5]
   rw [if_neg (by decide), if_neg (by decide), if_neg (by decide), if_neg (by decide), if_neg (by decide), if_pos (by decide)]
   unfold Lx.often
   rw [hbg, if_neg (by decide), if_neg (by decide), if_neg (by decide)]
   rw [interval_law z s.size (s.size + 2) 0 lo hi (by omega) (by omega) (by omega) (by rw [show s.size + 2 = s.size + 1 + 1 by omega, e6]; simp), if_neg (by omega), if_neg (by omega)]
 obtain ⟨c, c1, c2, c3, hn⟩ := hn
 rw [run_step (by show s.size < z.size; omega), hn]
 simp only
 rw [lrun_stop (by show ¬ z.size < z.size; omega)]
 exact ⟨{ c with sat := ((s.size : Nat) : Int), fin := (z.size : Int) }, c1, c2, c3, rfl⟩
theorem node_one (p : PT) (h : p.node.k = 7 ∨ p.node.k = 9) : (PT.choice [PT.branch [p]]).node = p.node := by
 have h1 : catT [p.node] = p.node := by
  unfold catT
  rw [PT.catOut_of (by intro t ht; simp at ht; subst ht; omega)]
  rfl
 simp only [PT.node, PT.nodes]
 rw [h1]
 exact altT_one (by omega)
/-- a pattern in a group -/
theorem parse_group {a z : ByteArray} {chars fold : Bool} {x : NT} (hz : z.data.toList = 92 :: 40 :: (a.data.toList ++ [92, 41])) (h : parseS a chars fold = .ok x) (hg : groupsT x = 0) (hd : depthT x < 40) (hs : a.size ≤ 900) : parseS z chars fold = .ok (.mk 7 1 0 0 [] [x]) := by
 obtain ⟨ts, f, hp⟩ := parse_put h
 obtain ⟨c, c4, hl⟩ := lex_group hz hp.lex (by omega)
 have hfl := flat_of (l := ts) (m := MS.start) rfl rfl (by rw [← hp.groups, hg]; exact Int.le_refl _) hp.run
 have hr := flat_run (D := []) (a := 1) (b := 0) (M := 1) (B := [MS.start.top]) (E := []) hfl hp.run
 have hr2 := run_X (d := 2) (fun t ht => (hfl t ht).1) hr
 have ho : MS.start.tok opT = .ok ⟨⟨1, 0, [], []⟩, [MS.start.top], 1, []⟩ := rfl
 have hrun : MS.run (opT :: ts.map (tokX 2) ++ [c]) MS.start = .ok ⟨⟨0, 0, [], [.group 1 0 (.choice f.top.all)]⟩, [], 1, [1]⟩ := by
  rw [List.cons_append, mrun_step ho]
  show MS.run (ts.map (tokX 2) ++ [c]) ⟨⟨1, 0, [] ++ MS.start.top.done, MS.start.top.cur⟩, [MS.start.top], 1, []⟩ = _
  rw [mrun_app hr2]
  have hc : (⟨⟨1, 0, [] ++ f.top.done, f.top.cur⟩, [MS.start.top], 1, []⟩ : MS).tok c = .ok ⟨⟨0, 0, [], [.group 1 0 (.choice f.top.all)]⟩, [], 1, [1]⟩ := by
   unfold MS.tok
   rw [if_neg (by omega), if_pos c4]
   rfl
  rw [mrun_step hc]
  rfl
 have hn : (PT.choice (GS.all ⟨0, 0, [], [.group 1 0 (.choice f.top.all)]⟩)).node = .mk 7 1 0 0 [] [x] := by
  show (PT.choice [PT.branch [.group 1 0 (.choice f.top.all)]]).node = _
  rw [node_one _ (.inl rfl), hp.node]
  rfl
 have hdl := dep_le hp.nodes
 have := parse_of hl hrun rfl (by rw [hn]; simp only [NT.dep, NT.depL]; omega) (by have := hp.len; simp; omega)
 rw [this]
 exact congrArg Except.ok hn
theorem altOut_app (a b : List NT) : altOut (a ++ b) = altOut a ++ altOut b := by unfold altOut; rw [List.flatMap_append]
theorem oneT_alt (l : List NT) (h : ∀ t, t ∈ l → t.k ≠ 6) (h0 : l ≠ []) : altOne (oneT l 6 (.mk 2 0 0 0 [] [])) = l := by
 match l, h, h0 with
 | [t], h, _ => exact altOne_plain t (h t (by simp))
 | a :: b :: l, h, _ => exact altOne_alt _
/-- an or of two -/
theorem parse_or {a b z : ByteArray} {chars fold : Bool} {x y : NT} (hz : z.data.toList = a.data.toList ++ 92 :: 124 :: b.data.toList) (h : parseS a chars fold = .ok x) (g : parseS b chars fold = .ok y) (hg : groupsT x = 0) (gg : groupsT y = 0) (hd : depthT x < 40) (gd : depthT y < 40) (hs : a.size + b.size ≤ 900) : parseS z chars fold = .ok (altT [x, y]) := by
 obtain ⟨ts, f, hp⟩ := parse_put h
 obtain ⟨us, f2, gp⟩ := parse_put g
 obtain ⟨c, c5, hl⟩ := lex_or hz hp.lex gp.lex (by omega)
 have hfl := flat_of (l := ts) (m := MS.start) rfl rfl (by rw [← hp.groups, hg]; exact Int.le_refl _) hp.run
 have gfl := flat_of (l := us) (m := MS.start) rfl rfl (by rw [← gp.groups, gg]; exact Int.le_refl _) gp.run
 have hr0 := flat_run (D := []) (a := 0) (b := 0) (M := 0) (B := []) (E := []) hfl hp.run
 have hr := run_X (d := 0) (fun t ht => (hfl t ht).1) hr0
 have gr0 := flat_run (D := f.top.all) (a := 0) (b := 0) (M := 0) (B := []) (E := []) gfl gp.run
 have gr := run_X (d := a.size + 2) (fun t ht => (gfl t ht).1) gr0
 have hc : (⟨⟨0, 0, [] ++ f.top.done, f.top.cur⟩, [], 0, []⟩ : MS).tok c = .ok ⟨⟨0, 0, f.top.all ++ MS.start.top.done, MS.start.top.cur⟩, [], 0, []⟩ := by
  unfold MS.tok
  rw [if_neg (by omega), if_neg (by omega), if_pos c5]
  simp [GS.all, MS.start]
 have hrun : MS.run (ts.map (tokX 0) ++ c :: us.map (tokX (a.size + 2))) MS.start = .ok ⟨⟨0, 0, f.top.all ++ f2.top.done, f2.top.cur⟩, [], 0, []⟩ := by
  rw [show MS.start = ⟨⟨0, 0, [] ++ MS.start.top.done, MS.start.top.cur⟩, [], 0, []⟩ from rfl, mrun_app hr, mrun_step hc, gr]
 have hgd := (MS.gd.run (l := ts) (m := MS.start) ⟨⟨by simp [MS.start, PT.gdL], by simp [MS.start, PT.gdL]⟩, fun g hg => by simp [MS.start] at hg⟩ hp.run).1.all
 have ggd := (MS.gd.run (l := us) (m := MS.start) ⟨⟨by simp [MS.start, PT.gdL], by simp [MS.start, PT.gdL]⟩, fun g hg => by simp [MS.start] at hg⟩ gp.run).1.all
 have hk : ∀ (l : List PT), PT.gdL l 1 → ∀ t, t ∈ PT.nodes l → t.k ≠ 6 := fun l hl t ht => by
  obtain ⟨p, hp, rfl⟩ := PT.nodes_mem ht
  have := (PT.gdL_iff l 1).1 hl p hp
  exact (PT.gd_node p this.1).2.2 this.2
 have hne : ∀ g : GS, PT.nodes g.all ≠ [] := fun g e => by
  have := congrArg List.length e
  rw [PT.nodes_length] at this
  simp [GS.all] at this
 have hn : (PT.choice (GS.all ⟨0, 0, f.top.all ++ f2.top.done, f2.top.cur⟩)).node = altT [x, y] := by
  have e1 : GS.all ⟨0, 0, f.top.all ++ f2.top.done, f2.top.cur⟩ = f.top.all ++ f2.top.all := by simp [GS.all]
  rw [e1, hp.node, gp.node]
  simp only [PT.node]
  rw [PT.nodes_map, List.map_append, ← PT.nodes_map, ← PT.nodes_map]
  have e2 : altOut (PT.nodes f.top.all) = PT.nodes f.top.all := PT.altOut_of (hk _ hgd)
  have e3 : altOut (PT.nodes f2.top.all) = PT.nodes f2.top.all := PT.altOut_of (hk _ ggd)
  have e4 : altOut [altT (PT.nodes f.top.all), altT (PT.nodes f2.top.all)] = PT.nodes f.top.all ++ PT.nodes f2.top.all := by
   have q1 : altOne (altT (PT.nodes f.top.all)) = PT.nodes f.top.all := by unfold altT; rw [e2]; exact oneT_alt _ (hk _ hgd) (hne _)
   have q2 : altOne (altT (PT.nodes f2.top.all)) = PT.nodes f2.top.all := by unfold altT; rw [e3]; exact oneT_alt _ (hk _ ggd) (hne _)
   unfold altOut
   simp only [List.flatMap_cons, List.flatMap_nil, List.append_nil, q1, q2]
  rw [show altT [altT (PT.nodes f.top.all), altT (PT.nodes f2.top.all)] = oneT (altOut [altT (PT.nodes f.top.all), altT (PT.nodes f2.top.all)]) 6 (.mk 2 0 0 0 [] []) from rfl, e4]
  rw [show altT (PT.nodes f.top.all ++ PT.nodes f2.top.all) = oneT (altOut (PT.nodes f.top.all ++ PT.nodes f2.top.all)) 6 (.mk 2 0 0 0 [] []) from rfl, altOut_app, e2, e3]
 have hdl := dep_le hp.nodes
 have gdl := dep_le gp.nodes
 have hdep : (altT [x, y]).dep ≤ 40 := by
  rw [← hn]
  have e1 : GS.all ⟨0, 0, f.top.all ++ f2.top.done, f2.top.cur⟩ = f.top.all ++ f2.top.all := by simp [GS.all]
  rw [e1]
  have h1 : ∀ (l : List PT), PT.gdL l 1 → l ≠ [] → NT.depL (PT.nodes l) ≤ (PT.choice l).node.dep := fun l hl h0 => by
   simp only [PT.node, altT]
   rw [PT.altOut_of (hk l hl), PT.oneT_dep, if_neg (by rw [PT.nodes_length]; intro e; exact h0 (List.length_eq_zero_iff.1 e))]
   split <;> omega
  have h2 : ∀ (l l2 : List NT), NT.depL (l ++ l2) ≤ max (NT.depL l) (NT.depL l2) := by
   intro l l2
   induction l with
   | nil => simp only [List.nil_append, NT.depL]; omega
   | cons t l ih => simp only [List.cons_append, NT.depL]; omega
  have a1 := h1 _ hgd (by simp [GS.all])
  have a2 := h1 _ ggd (by simp [GS.all])
  rw [← hp.node] at a1
  rw [← gp.node] at a2
  have h3 : PT.gdL (f.top.all ++ f2.top.all) 1 := PT.gdL_append.2 ⟨hgd, ggd⟩
  simp only [PT.node, altT]
  rw [PT.altOut_of (hk _ h3), PT.oneT_dep]
  have h4 := h2 (PT.nodes f.top.all) (PT.nodes f2.top.all)
  rw [PT.nodes_map, List.map_append, ← PT.nodes_map, ← PT.nodes_map]
  split
  ·simp only [NT.dep, NT.depL]; omega
  split <;> omega
 have := parse_of hl hrun rfl (by rw [hn]; exact hdep) (by have := hp.len; have := gp.len; simp; omega)
 rw [this]
 exact congrArg Except.ok hn
/-- a tree that is one group alone -/
theorem put_group {s : ByteArray} {chars fold : Bool} {ts : List Tok} {f : MS} {x : NT} (hp : Put s chars fold ts f x) (hx : x.k = 7) : ts.getLast?.map Tok.kind = some 4 ∧ ∃ p, f.top = ⟨f.top.n, f.top.pl, [], [p]⟩ ∧ p.node = x := by
 have hgd := (MS.gd.run (l := ts) (m := MS.start) ⟨⟨by simp [MS.start, PT.gdL], by simp [MS.start, PT.gdL]⟩, fun g hg => by simp [MS.start] at hg⟩ hp.run).1
 have hk : ∀ t, t ∈ PT.nodes f.top.all → t.k ≠ 6 := fun t ht => by
  obtain ⟨p, hp, rfl⟩ := PT.nodes_mem ht
  have := (PT.gdL_iff _ 1).1 hgd.all p hp
  exact (PT.gd_node p this.1).2.2 this.2
 have hkc : ∀ t, t ∈ PT.nodes f.top.cur → t.k ≠ 1 ∧ t.k ≠ 5 := fun t ht => by
  obtain ⟨p, hp, rfl⟩ := PT.nodes_mem ht
  have := (PT.gdL_iff _ 0).1 hgd.2 p hp
  have := (PT.gd_node p this.1).2.1 this.2
  omega
 have e1 : x = oneT (PT.nodes f.top.all) 6 (.mk 2 0 0 0 [] []) := by
  rw [hp.node]
  simp only [PT.node, altT]
  rw [PT.altOut_of hk]
 have hdone : f.top.done = [] := by
  cases hd : f.top.done with
  | nil => rfl
  | cons p l =>
   exfalso
   have : ∃ a b c, PT.nodes f.top.all = a :: b :: c := by
    unfold GS.all
    rw [hd, PT.nodes_map]
    cases l with
    | nil => exact ⟨_, _, _, rfl⟩
    | cons q l => exact ⟨_, _, _, rfl⟩
   obtain ⟨a, b, c, e⟩ := this
   rw [e] at e1
   rw [e1] at hx
   simp [oneT, NT.k] at hx
 have e2 : x = oneT (PT.nodes f.top.cur) 5 (.mk 1 0 0 0 [] []) := by
  rw [e1]
  unfold GS.all
  rw [hdone]
  simp only [List.nil_append, PT.nodes, PT.node, oneT, catT]
  rw [PT.catOut_of hkc]
 obtain ⟨p, hcur⟩ : ∃ p, f.top.cur = [p] := by
  match hc : f.top.cur with
  | [] => rw [hc] at e2; rw [e2] at hx; simp [oneT, PT.nodes, NT.k] at hx
  | [p] => exact ⟨p, rfl⟩
  | a :: b :: l => rw [hc] at e2; rw [e2] at hx; simp [oneT, PT.nodes, NT.k] at hx
 have hpx : p.node = x := by rw [e2, hcur]; rfl
 refine ⟨?_, p, (show f.top = GS.mk f.top.n f.top.pl f.top.done f.top.cur from rfl).trans (by rw [hdone, hcur]), hpx⟩
 rcases List.eq_nil_or_concat ts with e | ⟨l, t, e⟩
 ·have hr := hp.run
  rw [e] at hr
  cases hr
  simp [MS.start] at hcur
 ·rw [List.concat_eq_append] at e
  rw [e, List.getLast?_concat]
  have hr := hp.run
  rw [e] at hr
  have hsp : ∃ m : MS, m.tok t = .ok f := by
   have : ∀ (l : List Tok) (m : MS), MS.run (l ++ [t]) m = .ok f → ∃ m' : MS, m'.tok t = .ok f := by
    intro l
    induction l with
    | nil =>
     intro m h
     obtain ⟨m1, h1, h2⟩ := MS.run_cons h
     cases h2
     exact ⟨m, h1⟩
    | cons u l ih =>
     intro m h
     obtain ⟨m1, h1, h2⟩ := MS.run_cons h
     exact ih m1 h2
   exact this l _ hr
  obtain ⟨m, hm⟩ := hsp
  by_cases k4 : t.kind = 4
  ·simp [k4]
  exfalso
  have hleaf : ∀ k n r, f = m.put (leafN k n r) → (k = 2 ∨ k = 3 ∨ k = 4 ∨ k = 8) → False := fun k n r e hk => by
   have h1 : f.top.cur = m.top.cur ++ [leafN k n r] := by rw [e]; rfl
   rw [hcur] at h1
   have h2 := congrArg List.getLast? h1
   rw [List.getLast?_concat] at h2
   simp at h2
   rw [← hpx, h2] at hx
   simp only [leafN, PT.node, NT.k] at hx
   omega
  unfold MS.tok at hm
  by_cases k3 : t.kind = 3
  ·rw [if_pos k3] at hm
   split at hm
   ·cases hm
   ·cases hm
    simp at hcur
  rw [if_neg k3, if_neg k4] at hm
  split at hm
  ·cases hm
   simp at hcur
  split at hm
  ·split at hm
   ·cases hm
   ·cases hm
    have h2 := congrArg List.getLast? hcur
    simp only [MS.rep, List.getLast?_concat] at h2
    simp at h2
    rw [← hpx, ← h2] at hx
    simp [PT.node, NT.k] at hx
  split at hm
  ·split at hm
   ·cases hm; exact hleaf _ _ _ rfl (by omega)
   ·cases hm
  split at hm
  ·cases hm; exact hleaf _ _ _ rfl (by omega)
  split at hm
  ·cases hm; exact hleaf _ _ _ rfl (by omega)
  ·cases hm; exact hleaf _ _ _ rfl (by omega)
/-- a sign behind a group -/
theorem parse_rep {s z : ByteArray} {chars fold : Bool} {x : NT} {tl : List UInt8} {lo hi : Int} (hz : z.data.toList = s.data.toList ++ tl) (h : parseS s chars fold = .ok x) (hx : x.k = 7) (hd : ¬ depthT x > 39) (hs : s.size ≤ 904) (h41 : Lx.byt s (s.size - 1) = 41)
  (ht : (tl = [42] ∧ lo = 0 ∧ hi = -1) ∨ (tl = 92 :: 123 :: ((digB lo).data.toList ++ [44] ++ (digB hi).data.toList ++ [92, 125]) ∧ 0 ≤ lo ∧ lo ≤ 255 ∧ lo ≤ hi ∧ hi ≤ 255)) : parseS z chars fold = .ok (.mk 9 0 lo hi [] [x]) := by
 obtain ⟨ts, f, hp⟩ := parse_put h
 obtain ⟨h4, p, hf, hpx⟩ := put_group hp hx
 have hzs : z.size ≤ 2000 := by
  have h0 := congrArg List.length hz
  rw [len_size, List.length_append, len_size] at h0
  have h1 : ∀ n : Int, 0 ≤ n → (digB n).size ≤ 20 := fun n hn => by
   unfold digB
   rw [if_neg (by omega)]
   exact dig_size _ _
  rcases ht with ⟨e, _⟩ | ⟨e, a1, a2, a3, a4⟩
  ·rw [e] at h0; simp at h0; omega
  ·have b1 := h1 lo a1
   have b2 := h1 hi (by omega)
   rw [e] at h0
   simp at h0
   omega
 obtain ⟨c, c2, clo, chi, hl⟩ := lex_rep hz hp.lex hzs h41 h4 ht
 have f1 : f.top.done = [] := by rw [hf]
 have f2 : f.top.cur = [p] := by rw [hf]
 have hc : f.tok c = .ok ⟨⟨f.top.n, f.top.pl, [], [.often p lo hi]⟩, f.below, f.many, f.ended⟩ := by
  unfold MS.tok
  rw [if_neg (by omega), if_neg (by omega), if_neg (by omega), if_pos c2]
  simp [MS.rep, clo, chi, f1, f2]
 have hrun : MS.run (ts ++ [c]) MS.start = .ok ⟨⟨f.top.n, f.top.pl, [], [.often p lo hi]⟩, f.below, f.many, f.ended⟩ := by
  rw [mrun_app hp.run, mrun_step hc]
  rfl
 have hn : (PT.choice (GS.all ⟨f.top.n, f.top.pl, [], [.often p lo hi]⟩)).node = .mk 9 0 lo hi [] [x] := by
  show (PT.choice [PT.branch [.often p lo hi]]).node = _
  rw [node_one _ (.inr rfl), ← hpx]
  rfl
 have hdl := dep_le hp.nodes
 have := parse_of hl hrun hp.below (by rw [hn]; simp only [NT.dep, NT.depL]; omega) (by have := hp.len; simp; omega)
 rw [this]
 exact congrArg Except.ok hn
end Go.Proofs.YtamhkdlcoghdbaaGreatDoor.PCls
