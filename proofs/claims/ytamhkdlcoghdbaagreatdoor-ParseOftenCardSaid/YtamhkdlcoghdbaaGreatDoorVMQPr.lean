/- Put together (wip/tools/pack.py): QPr, QLf, QLit, QSpell3, QPc, QPt. -/
import Derived.Test.YtamhkdlcoghdbaaGreatDoorVQPq
import Derived.Lib.TrimUEq
/- Out of Pr (wip/tools/prune2.py): the declarations alone that the texts of the trees name. -/
namespace Go.Proofs.YtamhkdlcoghdbaaGreatDoor.PCls
open Go.RowKit Go.Shelf Go.Proofs.YtamhkdlcoghdbaaGreatDoorW.PrintWords Go.Proofs.YtamhkdlcoghdbaaGreatDoorW.PrintLast Go.Proofs.YtamhkdlcoghdbaaGreatDoorW.PrintMore
set_option linter.unusedVariables false
set_option linter.unusedSimpArgs false
/-- how large an open group is -/
def GS.sz (g : GS) : Nat := PT.nszL g.done + PT.nszL g.cur
def szs : List GS → Nat
 | [] => 0
 | g :: gs => g.sz + szs gs
/-- bounds, behind n tokens -/
structure MB (n : Nat) (m : MS) : Prop where
 cur : ∀ g, g ∈ m.top :: m.below → g.cur.length ≤ n ∧ g.done.length ≤ n ∧ 0 ≤ g.n ∧ g.n ≤ 30
 below : (m.below.length : Int) ≤ m.many
 many : m.many ≤ 30
 ended : m.ended.length ≤ n
 sz : szs (m.top :: m.below) ≤ 3 * n
theorem MB.start : MB 0 MS.start := ⟨fun g hg => by simp [MS.start] at hg; subst hg; simp, by simp [MS.start], by simp [MS.start], by simp [MS.start], by simp [MS.start, szs, GS.sz, PT.nszL]⟩
theorem MB.put {n : Nat} {m : MS} (h : MB n m) (p : PT) (hp : PT.nsz p ≤ 3) : MB (n + 1) (m.put p) := by
 refine ⟨fun g hg => ?_, h.below, h.many, Nat.le_succ_of_le h.ended, ?_⟩
 ·rcases List.mem_cons.1 hg with rfl | hg
  ·have h1 := h.cur m.top List.mem_cons_self
   refine ⟨?_, Nat.le_succ_of_le h1.2.1, h1.2.2⟩
   simp only [MS.put, GS.put, List.length_append, List.length_singleton]; omega
  ·have h1 := h.cur g (List.mem_cons_of_mem _ hg)
   exact ⟨Nat.le_succ_of_le h1.1, Nat.le_succ_of_le h1.2.1, h1.2.2⟩
 ·have h1 := h.sz
  simp only [szs, GS.sz, MS.put, GS.put, PT.nszL_append, PT.nszL] at h1 ⊢
  omega
theorem nszL_last (l : List PT) (p : PT) (h : l.getLast? = some p) : PT.nszL l = PT.nszL l.dropLast + PT.nsz p := by
 obtain ⟨a, rfl⟩ := List.getLast?_eq_some_iff.1 h
 rw [List.dropLast_concat, PT.nszL_append]
 simp only [PT.nszL]; omega
theorem MB.step {n : Nat} {m m' : MS} {t : Tok} (h : MB n m) (hm : m.tok t = .ok m') : MB (n + 1) m' := by
 unfold MS.tok at hm
 split at hm
 ·split at hm
  ·cases hm
  ·cases hm
   have h1 := h.below
   have h2 := h.many
   refine ⟨fun g hg => ?_, by simp only [List.length_cons]; omega, by show m.many + 1 ≤ 30; omega, Nat.le_succ_of_le h.ended, ?_⟩
   ·rcases List.mem_cons.1 hg with rfl | hg
    ·simp only [List.length_nil]; omega
    ·have h3 := h.cur g hg
     exact ⟨Nat.le_succ_of_le h3.1, Nat.le_succ_of_le h3.2.1, h3.2.2⟩
   ·have h3 := h.sz
    simp only [szs, GS.sz, PT.nszL] at h3 ⊢
    omega
 split at hm
 ·split at hm
  ·cases hm
  ·rename_i g b hb
   cases hm
   have h1 := h.below
   rw [hb] at h1
   refine ⟨fun g' hg => ?_, by simp only [List.length_cons] at h1 ⊢; omega, h.many, by have := h.ended; simp only [List.length_cons]; omega, ?_⟩
   ·rcases List.mem_cons.1 hg with rfl | hg
    ·have h3 := h.cur g (by rw [hb]; simp)
     refine ⟨?_, Nat.le_succ_of_le h3.2.1, h3.2.2⟩
     simp only [GS.put, List.length_append, List.length_singleton]; omega
    ·have h3 := h.cur g' (by rw [hb]; simp [hg])
     exact ⟨Nat.le_succ_of_le h3.1, Nat.le_succ_of_le h3.2.1, h3.2.2⟩
   ·have h3 := h.sz
    rw [hb] at h3
    simp only [szs, GS.sz, GS.put, GS.whole, GS.all, PT.nszL_append, PT.nszL, PT.nsz] at h3 ⊢
    omega
 split at hm
 ·cases hm
  refine ⟨fun g hg => ?_, h.below, h.many, Nat.le_succ_of_le h.ended, ?_⟩
  ·rcases List.mem_cons.1 hg with rfl | hg
   ·have h3 := h.cur m.top List.mem_cons_self
    refine ⟨by simp, ?_, h3.2.2⟩
    simp only [GS.all, List.length_append, List.length_singleton]; omega
   ·have h3 := h.cur g (List.mem_cons_of_mem _ hg)
    exact ⟨Nat.le_succ_of_le h3.1, Nat.le_succ_of_le h3.2.1, h3.2.2⟩
  ·have h3 := h.sz
   simp only [szs, GS.sz, GS.all, PT.nszL_append, PT.nszL, PT.nsz] at h3 ⊢
   omega
 split at hm
 ·split at hm
  ·cases hm
  ·rename_i p hp
   cases hm
   have hl := nszL_last _ _ hp
   have hne : m.top.cur ≠ [] := fun e => by rw [e] at hp; simp at hp
   refine ⟨fun g hg => ?_, h.below, h.many, Nat.le_succ_of_le h.ended, ?_⟩
   ·rcases List.mem_cons.1 hg with rfl | hg
    ·have h3 := h.cur m.top List.mem_cons_self
     refine ⟨?_, Nat.le_succ_of_le h3.2.1, h3.2.2⟩
     simp only [MS.rep, List.length_append, List.length_dropLast, List.length_singleton]; omega
    ·have h3 := h.cur g (List.mem_cons_of_mem _ hg)
     exact ⟨Nat.le_succ_of_le h3.1, Nat.le_succ_of_le h3.2.1, h3.2.2⟩
   ·have h3 := h.sz
    simp only [szs, GS.sz, MS.rep, PT.nszL_append, PT.nszL, PT.nsz] at h3 ⊢
    omega
 split at hm
 ·split at hm
  ·cases hm; exact h.put _ (by simp [leafN, PT.nsz, NT.nodes, NT.nodesL])
  ·cases hm
 split at hm
 ·cases hm; exact h.put _ (by simp [leafN, PT.nsz, NT.nodes, NT.nodesL])
 split at hm
 ·cases hm; exact h.put _ (by simp [leafN, PT.nsz, NT.nodes, NT.nodesL])
 ·cases hm; exact h.put _ (by simp [leafN, PT.nsz, NT.nodes, NT.nodesL])
/-- a sign of how often stands behind something -/
def LastOk (q : Int) (m : MS) : Prop := (q = 1 ∨ q = 2 ∨ q = 4 ∨ q = 6) → m.top.cur ≠ []
theorem LastOk.step {m m' : MS} {t : Tok} (hk : 1 ≤ t.kind ∧ t.kind ≤ 8) (hm : m.tok t = .ok m') : LastOk t.kind m' := by
 intro hq
 unfold MS.tok at hm
 rw [if_neg (by omega)] at hm
 split at hm
 ·split at hm
  ·cases hm
  ·cases hm; simp [GS.put]
 rw [if_neg (by omega)] at hm
 split at hm
 ·split at hm
  ·cases hm
  ·cases hm; simp [MS.rep]
 split at hm
 ·split at hm
  ·cases hm; simp [MS.put, GS.put]
  ·cases hm
 rw [if_neg (by omega), if_neg (by omega)] at hm
 cases hm; simp [MS.put, GS.put]
theorem set_leaf {W : World} {b0 : Nat} {rv : Value} {r : List S64} (h : W.ownsRow b0 39 2 rv r.length (rowOf r)) (hin : inR r = true) (hl : r.length < 2000000) (P : Nat → Prop) (hP : ∀ k, rv.ownBlock = some k → P k) : ∃ A c, rv = .slice A r.length c ∧ PIn W P (leafN 2 0 r) (.iface 159 (.agg #[.int .i64 2, .int .i64 0, .int .i64 0, .int .i64 0, rv, .slice none 0 0])) := by
 obtain ⟨A, c, rfl, hc, hC⟩ := Kd.R_reads (R_of_own (ok := fun _ => True) h (fun _ _ => trivial))
 refine ⟨A, c, rfl, .leaf _ _ (NIn.mk 2 0 0 0 r [] A none c 0 (fun _ => []) hC (fun ad e hr => ?_) hc (by omega) hin (by simp) (by simp) (fun j t h => by simp at h) (fun j hj => by simp at hj))⟩
 rcases h.2 with ⟨e1, e0⟩ | ⟨g, cap, cur, e1, _⟩
 ·exact absurd (List.length_eq_zero_iff.1 e0) hr
 ·simp only [Value.slice.injEq] at e1
  obtain ⟨rfl, _, _⟩ := e1
  cases e
  exact hP g rfl
set_option maxHeartbeats 4000000 in
/-- a token, any -/
theorem token_calls (W : World) (base : Nat) (τ : Nat → Nat) (B : Nat) (m : MS) (a : Nat) (al : List Nat) (O : Value) (mb : Nat) (hat : MkAt W base τ B m (a :: al) O mb) (hbase : base ≤ W.heap.size) (n : Nat) (hB : MB n m) (hn : n ≤ 5000) (q : Int) (hl : LastOk q m) (t : Tok)
  (hk : 1 ≤ t.kind ∧ t.kind ≤ 8) (hq : t.kind = 2 → q ≠ 0 ∧ q ≠ 3 ∧ q ≠ 5 ∧ q ≠ 7 ∧ q ≠ 8) (hqr : 0 ≤ q ∧ q ≤ 8) (hfin : t.kind = 4 → 0 < t.fin ∧ t.fin ≤ 1000000) (htn : t.kind = 6 → -9223372036854775808 ≤ t.n ∧ t.n ≤ 9223372036854775807) (rv : Value) (hr : W.ownsRow base 39 2 rv t.r.length (rowOf t.r)) (hrin : inR t.r = true) (hrl : t.kind = 1 → t.r.length < 2000000) (hrz : ∀ k, rv.ownBlock = some k → τ k = 0) :
  Calls Tryz.prog 50 #[.pointer (some ⟨B, 0, none⟩), .agg (tokV t rv).toArray] W fun e w' => TokPost W w' e base τ B mb (m.tok t) := by
 have hc := hB.cur m.top List.mem_cons_self
 have h1 := hB.below
 have h2 := hB.many
 have h3 := hB.ended
 have hp : TokPre W base τ B m a al O mb := ⟨hat, hbase, by omega, by omega, by omega, by omega, by omega⟩
 have hset := fun h => set_leaf hr hrin (hrl h) (Fz W base τ) (fun k hk => ⟨(ownLt hr k hk).1, (ownLt hr k hk).2, hrz k hk⟩)
 obtain ⟨A, c, rfl, _⟩ := own_form hr
 obtain ⟨kind, sat, fin, nn, lo, hi, r⟩ := t
 simp only [tokV] at *
 have hkk : kind = 1 ∨ kind = 2 ∨ kind = 3 ∨ kind = 4 ∨ kind = 5 ∨ kind = 6 ∨ kind = 7 ∨ kind = 8 := by omega
 rcases hkk with rfl | rfl | rfl | rfl | rfl | rfl | rfl | rfl
 ·obtain ⟨A', c', e, hset⟩ := hset rfl
  exact tok_set W base τ B m a al O mb hp sat fin nn lo hi A r.length c r hset
 ·have h4 := hq rfl
  have hne := hl (by omega)
  obtain ⟨p, hp'⟩ : ∃ p, m.top.cur.getLast? = some p := ⟨_, List.getLast?_eq_some_getLast hne⟩
  rw [show m.tok ⟨2, sat, fin, nn, lo, hi, r⟩ = .ok (m.rep p lo hi) by simp [MS.tok, hp']]
  exact tok_rep W base τ B m a al O mb hp sat fin nn lo hi A r.length c p hp'
 ·exact tok_open W base τ B m a al O mb hp sat fin nn lo hi A r.length c _ (by simp [MS.tok])
 ·cases hb : m.below with
  | nil =>
   rw [show m.tok ⟨4, sat, fin, nn, lo, hi, r⟩ = .error 40 by simp [MS.tok, hb]]
   exact tok_close0 W base τ B m a al O mb hp sat fin nn lo hi A r.length c hb
  | cons g b =>
   have h5 := hB.cur g (by rw [hb]; simp)
   rw [show m.tok ⟨4, sat, fin, nn, lo, hi, r⟩ = .ok ⟨g.put m.top.whole, b, m.many, m.top.n :: m.ended⟩ by simp [MS.tok, hb]]
   exact tok_close1 W base τ B m a al O mb hp sat fin nn lo hi A r.length c g b hb (hfin rfl) (by omega) (by omega)
 ·rw [show m.tok ⟨5, sat, fin, nn, lo, hi, r⟩ = .ok { m with top := ⟨m.top.n, m.top.pl, m.top.all, []⟩ } by simp [MS.tok]]
  exact tok_alt W base τ B m a al O mb hp sat fin nn lo hi A r.length c
 ·exact tok_back W base τ B m a al O mb hp sat fin nn lo hi A r.length c (htn rfl) _ (by simp [MS.tok])
 ·rw [show m.tok ⟨7, sat, fin, nn, lo, hi, r⟩ = .ok (m.put (leafN 3 0 [])) by simp [MS.tok]]
  exact tok_begin W base τ B m a al O mb hp sat fin nn lo hi A r.length c
 ·rw [show m.tok ⟨8, sat, fin, nn, lo, hi, r⟩ = .ok (m.put (leafN 4 0 [])) by simp [MS.tok]]
  exact tok_end W base τ B m a al O mb hp sat fin nn lo hi A r.length c
end Go.Proofs.YtamhkdlcoghdbaaGreatDoor.PCls
/- Out of Lf (wip/tools/prune2.py): the declarations alone that the texts of the trees name. -/
namespace Go.Proofs.YtamhkdlcoghdbaaGreatDoor.PCls
set_option linter.unusedVariables false
set_option linter.unusedSimpArgs false
theorem byt_drop {s : ByteArray} {p : Nat} {b : UInt8} {l : List UInt8} (h : s.data.toList.drop p = b :: l) : p < s.size ∧ Lx.byt s p = b.toNat ∧ s.data.toList.drop (p + 1) = l := by
 have h0 : s.data.toList.length = s.size := by simp
 have hp : p < s.data.toList.length := by
  rcases Nat.lt_or_ge p s.data.toList.length with h1 | h1
  ·exact h1
  ·rw [List.drop_eq_nil_of_le h1] at h; cases h
 rw [List.drop_eq_getElem_cons hp] at h
 obtain ⟨h1, h2⟩ := List.cons.inj h
 refine ⟨by omega, ?_, h2⟩
 unfold Lx.byt
 rw [List.getD_eq_getElem?_getD, List.getElem?_eq_getElem hp, Option.getD_some, h1]
theorem unit_ascii (s : ByteArray) (chars : Bool) (p : Nat) (h : p < s.size) (hb : Lx.byt s p < 128) : Lx.unit s chars p = ((Lx.byt s p : Int), 1) := by
 have h4 := byt_at s p h
 have hd : Utf8.decode s p = (Lx.byt s p, 1) := by
  rw [Lib.decode_at]
  have hg : (s.get! p).toNat = Lx.byt s p := by rw [h4]; simp [ByteArray.get!, h]; rfl
  unfold Lib.decodeN
  rw [hg, if_pos hb]
 unfold Lx.unit
 rw [if_pos h]
 cases chars with
 | false => rfl
 | true =>
  have hok : okAt s p = true := by
   unfold okAt
   rw [hd]
   simp
   omega
  rw [if_pos rfl, if_pos hok, hd]
end Go.Proofs.YtamhkdlcoghdbaaGreatDoor.PCls
/- Out of Lit (wip/tools/prune2.py): the declarations alone that the texts of the trees name. -/
namespace Go.Proofs.YtamhkdlcoghdbaaGreatDoor.PCls
open Go.RowKit Go.Proofs.YtamhkdlcoghdbaaGreatDoorW.PrintWords Go.Proofs.YtamhkdlcoghdbaaGreatDoorW.PrintLast Go.Proofs.YtamhkdlcoghdbaaGreatDoorW.PrintMore
set_option linter.unusedVariables false
set_option linter.unusedSimpArgs false
/-- the set of a unit -/
def litR (fold : Bool) (c : Int) : List S64 := if fold then Cls.fold [⟨c, c⟩] else [⟨c, c⟩]
end Go.Proofs.YtamhkdlcoghdbaaGreatDoor.PCls
/- Out of Spell3 (wip/tools/prune2.py): the declarations alone that the texts of the trees name. -/
namespace Go.Proofs.YtamhkdlcoghdbaaGreatDoor.PCls
set_option linter.unusedVariables false
set_option linter.unusedSimpArgs false
theorem norm_of (l : List S64) (m : Bool) (hc : Cls.Can l) (h : ∀ c, Cls.Mem l c → Cls.Mem (Cls.all m) c) : l = Cls.norm l m :=
 Cls.can_unique l _ hc (Cls.and_can _ _) fun c => by
  unfold Cls.norm
  rw [Cls.and_mem]
  exact ⟨fun x => ⟨x, h c x⟩, fun x => x.1⟩
theorem fold_fold (l : List S64) : Cls.fold (Cls.fold l) = Cls.fold l := by
 refine Cls.can_unique _ _ (Cls.fold_can _) (Cls.fold_can _) fun c => ?_
 rw [Cls.fold_mem (Cls.fold l)]
 refine ⟨?_, Or.inl⟩
 rintro (h | ⟨h, h1, h2⟩ | ⟨h, h1, h2⟩)
 ·exact h
 ·rw [Cls.fold_mem] at h ⊢
  rcases h with h | ⟨h, h3, h4⟩ | ⟨h, h3, h4⟩
  ·exact .inr (.inl ⟨h, h1, h2⟩)
  ·omega
  ·rw [show c - 32 + 32 = c by omega] at h; exact .inl h
 ·rw [Cls.fold_mem] at h ⊢
  rcases h with h | ⟨h, h3, h4⟩ | ⟨h, h3, h4⟩
  ·exact .inr (.inr ⟨h, h1, h2⟩)
  ·rw [show c + 32 - 32 = c by omega] at h; exact .inl h
  ·omega
theorem all_mem (m : Bool) (c : Int) : Cls.Mem (Cls.all m) c ↔ (if m = true then (0 ≤ c ∧ c ≤ 55295) ∨ (57344 ≤ c ∧ c ≤ 1114111) else 0 ≤ c ∧ c ≤ 255) := by
 cases m
 ·simp [Cls.all, Cls.Mem]
 ·simp [Cls.all, Cls.Mem]
theorem litR_mem (fold : Bool) (c x : Int) (h : Cls.Mem (litR fold c) x) : x = c ∨ (65 ≤ x ∧ x ≤ 122) := by
 unfold litR at h
 split at h
 ·rw [Cls.fold_mem] at h
  rcases h with h | ⟨h, h3, h4⟩ | ⟨h, h3, h4⟩
  ·rw [mem_one] at h; omega
  ·omega
  ·omega
 ·rw [mem_one] at h; omega
theorem litR_can (fold : Bool) (c : Int) : Cls.Can (litR fold c) := by
 unfold litR
 split
 ·exact Cls.fold_can _
 ·exact can_one c c (Int.le_refl c)
theorem litR_ok (chars fold : Bool) (c : Int) (h : Cls.Mem (Cls.all chars) c) : setOk (litR fold c) chars fold = true := by
 have h1 : litR fold c = Cls.norm (litR fold c) chars := norm_of _ _ (litR_can fold c) fun x hx => by
  rcases litR_mem fold c x hx with rfl | hx
  ·exact h
  ·rw [all_mem]; split <;> omega
 have h2 : fold = true → Cls.fold (litR fold c) = litR fold c := fun hf => by
  subst hf
  exact fold_fold _
 unfold setOk
 rw [Bool.and_eq_true]
 refine ⟨decide_eq_true h1, ?_⟩
 cases hf : fold
 ·rfl
 ·subst hf; simpa using h2 rfl
set_option maxHeartbeats 4000000 in
theorem rune_char (s : ByteArray) (p : Nat) : Cls.Mem (Cls.all true) ((Utf8.decode s p).1 : Nat) := by
 rw [all_mem, if_pos rfl]
 rw [Lib.decode_at]
 have h0 : (s.get! p).toNat < 256 := UInt8.toNat_lt _
 generalize (s.get! p).toNat = b0 at h0 ⊢
 unfold Lib.decodeN
 repeat' split
 all_goals (simp only; omega)
end Go.Proofs.YtamhkdlcoghdbaaGreatDoor.PCls
/- Out of Pc (wip/tools/prune2.py): the declarations alone that the texts of the trees name. -/
namespace Go.Proofs.YtamhkdlcoghdbaaGreatDoor.PCls
set_option linter.unusedVariables false
set_option linter.unusedSimpArgs false
theorem setOk_of {r : List S64} {chars fold : Bool} (hc : Cls.Can r) (hm : ∀ c, Cls.Mem r c → Cls.Mem (Cls.all chars) c) (hf : fold = true → ∀ c, Cls.Mem (Cls.fold r) c → Cls.Mem r c) : setOk r chars fold = true := by
 unfold setOk
 rw [Bool.and_eq_true]
 refine ⟨decide_eq_true (norm_of r chars hc hm), ?_⟩
 cases fold with
 | false => rfl
 | true =>
  have h : Cls.fold r = r := Cls.can_unique _ _ (Cls.fold_can _) hc fun c => ⟨hf rfl c, fun h => (Cls.fold_mem r c).2 (.inl h)⟩
  rw [h]; simp
theorem less_all_mem (m : Bool) (l : List S64) (c : Int) : Cls.Mem (Cls.less_ (Cls.all m) l) c ↔ Cls.Mem (Cls.all m) c ∧ ¬ Cls.Mem l c := by
 unfold Cls.less_
 rw [(Cls.less_spec _ _ (Cls.cls_can _) (Cls.cls_can _)).2, Cls.cls_mem, Cls.cls_mem]
theorem setOk_not {l : List S64} {chars fold : Bool} (hf : fold = true → ∀ c, Cls.Mem (Cls.fold l) c → Cls.Mem l c) : setOk (Cls.less_ (Cls.all chars) l) chars fold = true := by
 refine setOk_of (Cls.less_can _ _) (fun c h => ((less_all_mem chars l c).1 h).1) (fun h c hc => ?_)
 have hf' := hf h
 rw [Cls.fold_mem] at hc
 rw [less_all_mem]
 simp only [less_all_mem] at hc
 rcases hc with h1 | ⟨⟨h1, h2⟩, h3, h4⟩ | ⟨⟨h1, h2⟩, h3, h4⟩
 ·exact h1
 ·refine ⟨by rw [all_mem]; split <;> omega, fun hl => h2 (hf' _ ((Cls.fold_mem l _).2 (.inr (.inr ⟨by rw [show c - 32 + 32 = c by omega]; exact hl, by omega, by omega⟩))))⟩
 ·refine ⟨by rw [all_mem]; split <;> omega, fun hl => h2 (hf' _ ((Cls.fold_mem l _).2 (.inr (.inl ⟨by rw [show c + 32 - 32 = c by omega]; exact hl, by omega, by omega⟩))))⟩
theorem setOk_all (chars fold : Bool) : setOk (clC.not_ [] chars) chars fold = true := setOk_not (fun _ c h => by
 rw [Cls.fold_mem] at h
 rcases h with h | h | h
 ·exact h
 ·exact absurd h.1 (Cls.mem_nil _)
 ·exact absurd h.1 (Cls.mem_nil _))
theorem setOk_close (chars fold not : Bool) (l : List S64) : setOk (Lx.close clC chars fold not l) chars fold = true := by
 have hn := Cls.norm_can l chars
 have hm := fun c => (Cls.norm_mem l chars c)
 unfold Lx.close
 simp only [show clC.norm = Cls.norm from rfl, show clC.fold = Cls.fold from rfl]
 have hfm : ∀ c, Cls.Mem (Cls.fold (Cls.norm l chars)) c → Cls.Mem (Cls.all chars) c := fun c h => by
  rw [Cls.fold_mem] at h
  rcases h with h | ⟨h, h1, h2⟩ | ⟨h, h1, h2⟩
  ·exact ((hm c).1 h).2
  ·rw [all_mem]; split <;> omega
  ·rw [all_mem]; split <;> omega
 cases not with
 | true =>
  rw [if_pos rfl]
  refine setOk_not (fun h c hc => ?_)
  subst h
  rw [if_pos rfl] at hc ⊢
  rwa [fold_fold] at hc
 | false =>
  rw [if_neg (by simp)]
  cases fold with
  | true => rw [if_pos rfl]; exact setOk_of (Cls.fold_can _) hfm (fun _ c h => by rwa [fold_fold] at h)
  | false => rw [if_neg (by simp)]; exact setOk_of hn (fun c h => ((hm c).1 h).2) (fun h => by simp at h)
theorem unit_mem (s : ByteArray) (chars : Bool) (p : Nat) (h : p < s.size) (h0 : ¬ (Lx.unit s chars p).1 < 0) : Cls.Mem (Cls.all chars) (Lx.unit s chars p).1 := by
 unfold Lx.unit at h0 ⊢
 rw [if_pos h] at h0 ⊢
 cases chars with
 | true =>
  rw [if_pos rfl] at h0 ⊢
  split at h0
  ·rename_i ho
   rw [if_pos ho]
   exact rune_char s p
  ·exact absurd (by decide) h0
 | false =>
  rw [if_neg (by simp)] at h0 ⊢
  rw [all_mem]
  have : Lx.byt s p < 256 := by unfold Lx.byt; exact UInt8.toNat_lt _
  simp only; simp; omega
/-- a token of the lexer; q: the kind of the one ahead -/
def TokFine (chars fold : Bool) (q : Int) (t : Tok) : Prop := 1 ≤ t.kind ∧ t.kind ≤ 8 ∧ (t.kind = 2 → q ≠ 0 ∧ q ≠ 3 ∧ q ≠ 5 ∧ q ≠ 7) ∧ (t.kind = 7 → q = 0 ∨ q = 3 ∨ q = 5) ∧ (t.kind = 2 → bounds t.lo t.hi = true) ∧ (t.kind = 6 → 1 ≤ t.n ∧ t.n ≤ 9) ∧ (t.kind = 1 → setOk t.r chars fold = true)
def Step2 (s : ByteArray) (chars fold : Bool) (x : Lx.St) (r : Except Er Lx.St) : Prop := match r with
 | .error _ => True
 | .ok y => ∃ t e, y = Lx.put x t e ∧ TokFine chars fold (Lx.last x) t ∧ (t.kind = 8 → e = s.size ∨ Lx.here s e [92, 41] = true ∨ Lx.here s e [92, 124] = true)
section
variable {s : ByteArray} {chars fold : Bool} {x : Lx.St}
theorem put_plain (k n : Int) (hk : k = 3 ∨ k = 4 ∨ k = 5 ∨ (k = 6 ∧ 1 ≤ n ∧ n ≤ 9)) (e : Nat) : Step2 s chars fold x (.ok (Lx.put x { Lx.tok k with n := n } e)) := by
 refine ⟨_, e, rfl, ⟨?_, ?_, ?_, ?_, ?_, ?_, ?_⟩, ?_⟩ <;> simp only [Lx.tok] <;> omega
theorem put_often (hb : Lx.begins x = false) (lo hi : Int) (h : bounds lo hi = true) (e : Nat) : Step2 s chars fold x (.ok (Lx.put x { Lx.tok 2 with lo := lo, hi := hi } e)) := by
 refine ⟨_, e, rfl, ⟨?_, ?_, fun _ => ?_, ?_, fun _ => h, ?_, ?_⟩, ?_⟩
 ·simp only [Lx.tok]; omega
 ·simp only [Lx.tok]; omega
 ·simp only [Lx.begins, Lx.opens, Bool.or_eq_false_iff, decide_eq_false_iff_not] at hb
  exact ⟨hb.1.1.1, hb.1.1.2, hb.1.2, hb.2⟩
 ·simp only [Lx.tok]; omega
 ·simp only [Lx.tok]; omega
 ·simp only [Lx.tok]; omega
 ·simp only [Lx.tok]; omega
theorem put_set (r : List S64) (h : setOk r chars fold = true) (e : Nat) : Step2 s chars fold x (.ok (Lx.put x { Lx.tok 1 with r := r } e)) := by
 refine ⟨_, e, rfl, ⟨?_, ?_, ?_, ?_, ?_, ?_, fun _ => h⟩, ?_⟩ <;> simp only [Lx.tok] <;> omega
theorem often_2 (c e : Nat) : Step2 s chars fold x (Lx.often s x c e) := by
 unfold Lx.often
 split
 ·trivial
 rename_i hb
 have hb' : Lx.begins x = false := by simpa using hb
 split
 ·exact put_often hb' 1 (-1) (by decide) e
 split
 ·exact put_often hb' 0 1 (by decide) e
 cases hr : Lx.interval s x.sat e with
 | error y => trivial
 | ok v =>
  obtain ⟨a, b, e2⟩ := v
  obtain ⟨a1, ha⟩ : ∃ a1, a1 = Lx.number s (s.size + 1) e (-1) := ⟨_, rfl⟩
  obtain ⟨b1, hb1⟩ : ∃ b1, b1 = (if 0 ≤ a1.1 ∧ Lx.here s a1.2 [44] = true then Lx.number s (s.size + 1) (a1.2 + 1) (-1) else (a1.1, a1.2)) := ⟨_, rfl⟩
  have hbl : -1 ≤ b1.1 := by
   rw [hb1]
   split
   ·exact (number_le s _ _ _ (by decide) (by decide)).2.2.1
   ·rw [ha]; exact (number_le s _ _ _ (by decide) (by decide)).2.2.1
  rw [interval_eq (q := x.sat) (a1 := a1.1) (a2 := a1.2) (b1 := b1.1) (b2 := b1.2) ha hb1.symm] at hr
  split at hr
  ·cases hr
  split at hr
  ·cases hr
  rename_i h1 h2
  cases hr
  refine put_often hb' a1.1 b1.1 ?_ _
  unfold bounds
  simp only [Bool.and_eq_true, Bool.or_eq_true, decide_eq_true_eq]
  omega
theorem escape_2 (hx : x.sat < s.size) : Step2 s chars fold x (Lx.escape clC s fold x) := by
 unfold Lx.escape
 split
 ·trivial
 simp only
 split
 ·exact put_plain 3 0 (by omega) _
 split
 ·exact put_plain 4 0 (by omega) _
 split
 ·exact put_plain 5 0 (by omega) _
 split
 ·exact put_plain 6 _ (by omega) _
 split
 ·rename_i h
  refine put_set _ (litR_ok chars fold _ ?_) _
  rw [all_mem]
  split <;> omega
 split
 ·exact often_2 _ _
 ·trivial
theorem next_2 (hx : x.sat < s.size) : Step2 s chars fold x (Lx.next clC s chars fold x) := by
 rw [next_eq]
 split
 ·trivial
 rename_i h0
 split
 ·exact escape_2 hx
 split
 ·unfold Lx.bracket
  simp only
  cases hr : Lx.parts clC s chars x.sat (s.size + 2) (x.sat + 1 + if Lx.here s (x.sat + 1) [94] = true then 1 else 0) true [] with
  | error e => trivial
  | ok v => exact put_set _ (setOk_close _ _ _ _) _
 split
 ·exact put_set _ (setOk_all _ _) _
 split
 ·rename_i h
  exact put_often h.2 0 (-1) (by decide) _
 split
 ·rename_i h
  refine ⟨_, _, rfl, ⟨?_, ?_, ?_, fun _ => ?_, ?_, ?_, ?_⟩, ?_⟩
  ·simp only [Lx.tok]; omega
  ·simp only [Lx.tok]; omega
  ·simp only [Lx.tok]; omega
  ·have := h.2
   simp only [Lx.opens, Bool.or_eq_true, decide_eq_true_eq] at this
   omega
  ·simp only [Lx.tok]; omega
  ·simp only [Lx.tok]; omega
  ·simp only [Lx.tok]; omega
  ·simp only [Lx.tok]; omega
 split
 ·rename_i h
  refine ⟨_, _, rfl, ⟨?_, ?_, ?_, ?_, ?_, ?_, ?_⟩, fun _ => h.2⟩ <;> simp only [Lx.tok] <;> omega
 ·exact put_set _ (litR_ok chars fold _ (unit_mem s chars x.sat hx h0)) _
/-- behind an anchor at the end of a branch -/
theorem next_8 (h : Lx.here s x.sat [92, 41] = true ∨ Lx.here s x.sat [92, 124] = true) : ∃ k, (k = 4 ∨ k = 5) ∧ Lx.next clC s chars fold x = .ok (Lx.put x (Lx.tok k) (x.sat + 2)) := by
 obtain ⟨b, hb, hh⟩ : ∃ b : UInt8, (b = 41 ∨ b = 124) ∧ Lx.here s x.sat [92, b] = true := h.elim (fun h => ⟨41, .inl rfl, h⟩) (fun h => ⟨124, .inr rfl, h⟩)
 have hle := here_le hh
 simp only [List.length_cons, List.length_nil] at hle
 unfold Lx.here at hh
 rw [Bool.and_eq_true] at hh
 have hp := hh.2
 unfold Lib.hasPrefix at hp
 rw [List.isPrefixOf_iff_prefix] at hp
 obtain ⟨l, hl⟩ := hp
 obtain ⟨h1, h2, h3⟩ := byt_drop (s := s) (p := x.sat) (b := 92) (l := b :: l) hl.symm
 obtain ⟨h4, h5, h6⟩ := byt_drop h3
 have hu := unit_ascii s chars x.sat h1 (by rw [h2]; decide)
 rw [h2] at hu
 rw [next_eq, hu]
 rw [if_neg (by decide), if_pos (by decide)]
 unfold Lx.escape
 rw [if_neg (by omega)]
 simp only [h5]
 rcases hb with rfl | rfl
 ·exact ⟨4, .inl rfl, by rw [if_neg (by decide), if_pos (by decide)]⟩
 ·exact ⟨5, .inr rfl, by rw [if_neg (by decide), if_neg (by decide), if_pos (by decide)]⟩
end
theorem last_put (x : Lx.St) (t : Tok) (e : Nat) : Lx.last (Lx.put x t e) = t.kind := by
 unfold Lx.last Lx.put
 simp
/-- tokens one behind the other, as the lexer makes them -/
def SeqOk (chars fold : Bool) : Int → List Tok → Prop
 | _, [] => True
 | q, t :: l => TokFine chars fold q t ∧ (q = 8 → t.kind = 4 ∨ t.kind = 5) ∧ SeqOk chars fold t.kind l
theorem SeqOk.snoc {chars fold : Bool} {t : Tok} : ∀ {l : List Tok} {q : Int}, SeqOk chars fold q l → TokFine chars fold ((l.getLast?.map Tok.kind).getD q) t → ((l.getLast?.map Tok.kind).getD q = 8 → t.kind = 4 ∨ t.kind = 5) → SeqOk chars fold q (l ++ [t])
 | [], q, _, h1, h2 => ⟨h1, h2, trivial⟩
 | [u], q, h, h1, h2 => ⟨h.1, h.2.1, h1, h2, trivial⟩
 | u :: v :: l, q, h, h1, h2 => by
  have e : (((u :: v :: l).getLast?.map Tok.kind).getD q) = (((v :: l).getLast?.map Tok.kind).getD u.kind) := by
   simp [List.getLast?_cons_cons, List.getLast?_cons]
  rw [e] at h1 h2
  exact ⟨h.1, h.2.1, SeqOk.snoc (l := v :: l) h.2.2 h1 h2⟩
theorem last_eq (x : Lx.St) : Lx.last x = (x.out.getLast?.map Tok.kind).getD 0 := by
 unfold Lx.last
 cases x.out.getLast? <;> rfl
theorem run_seq {s : ByteArray} {chars fold : Bool} : ∀ (k : Nat) (x : Lx.St) (out : List Tok), SeqOk chars fold 0 x.out → (Lx.last x = 8 → x.sat = s.size ∨ Lx.here s x.sat [92, 41] = true ∨ Lx.here s x.sat [92, 124] = true) → Lx.run clC s chars fold k x = .ok out → SeqOk chars fold 0 out
 | 0, x, out, h, _, hr => by cases hr; exact h
 | k + 1, x, out, h, h8, hr => by
  by_cases hx : x.sat < s.size
  ·rw [run_step hx] at hr
   have hs := next_2 (chars := chars) (fold := fold) hx
   cases hn : Lx.next clC s chars fold x with
   | error e => rw [hn] at hr; cases hr
   | ok y =>
    rw [hn] at hs hr
    obtain ⟨t, e, rfl, h1, h2⟩ := hs
    refine run_seq k _ out (SeqOk.snoc (t := { t with sat := x.sat, fin := e }) h ?_ ?_) ?_ hr
    ·rw [← last_eq]; exact h1
    ·rw [← last_eq]
     intro hl
     obtain ⟨k', hk', hn'⟩ := next_8 (chars := chars) (fold := fold) ((h8 hl).resolve_left (by omega))
     rw [hn] at hn'
     have e1 := congrArg Lx.last (Except.ok.inj hn')
     rw [last_put, last_put] at e1
     simp only [Lx.tok] at e1
     simp only; omega
    ·rw [last_put]; exact h2
  ·rw [lrun_stop hx] at hr
   cases hr; exact h
theorem lex_seq {s : ByteArray} {chars fold : Bool} {out : List Tok} (h : Lx.lex clC s chars fold = .ok out) : SeqOk chars fold 0 out := by
 by_cases hb : 2000 < s.size
 ·rw [show Lx.lex clC s chars fold = .error (30, 0) by unfold Lx.lex; rw [if_pos hb]] at h
  cases h
 ·rw [show Lx.lex clC s chars fold = Lx.run clC s chars fold (s.size + 1) ⟨0, []⟩ by unfold Lx.lex; rw [if_neg hb]] at h
  exact run_seq _ ⟨0, []⟩ _ trivial (fun h => by simp [Lx.last] at h) h
theorem SeqOk.both {chars fold : Bool} : ∀ {l : List Tok} {q : Int}, SeqOk chars fold q l → okSeq q l ∧ okMore chars fold q l
 | [], _, _ => ⟨trivial, trivial⟩
 | t :: l, q, h => by
  obtain ⟨⟨h1, h2, h3, h4, h5, h6, h7⟩, h8, h9⟩ := h
  have ih := SeqOk.both h9
  exact ⟨⟨fun hk => ⟨(h3 hk).1, (h3 hk).2.1, (h3 hk).2.2.1, (h3 hk).2.2.2, fun hq => by have := h8 hq; omega⟩, h1, h2, ih.1⟩, h4, h8, h5, h6, h7, ih.2⟩
end Go.Proofs.YtamhkdlcoghdbaaGreatDoor.PCls
/- Out of Pt (wip/tools/prune2.py): the declarations alone that the texts of the trees name. -/
namespace Go.Proofs.YtamhkdlcoghdbaaGreatDoor.PCls
open Go.RowKit Go.Proofs.YtamhkdlcoghdbaaGreatDoorW.PrintWords Go.Proofs.YtamhkdlcoghdbaaGreatDoorW.PrintLast Go.Proofs.YtamhkdlcoghdbaaGreatDoorW.PrintMore
set_option linter.unusedVariables false
section
variable {P : Program} {ops : Array Oper} {Q : Exit → Act → World → Prop}
theorem go_late {id : Nat} {a : Act} {w : World} (S : World → Prop) (ds : List Nat) (pre : List Stg) (l' : Array Bool) (i j : Nat) (pA pB : List Stg) (hm : P.follows .mixedOrders = true)
  (hlen : ops.size = pre.length + (pA.length + 1)) (hlenB : pB.length = pA.length)
  (hc : preOk (rtab .any ops) ds pre (List.replicate ops.size false) l'.toList = true) (hr : (Region.ready .any ops l' == [i, j]) = true) (hi : i ∉ ds) (hj : j ∉ ds)
  (hA : planOk (rtab .any ops) ds pA true (l'.setIfInBounds i true).toList = true) (hB : planOk (rtab .any ops) ds pB true (l'.setIfInBounds j true).toList = true)
  (hQ : ∀ c d v a w, Q (.panic c) (a.put d v) w → Q (.panic c) a w) (hS : S w.drew)
  (h : GoK P ops S pre (fun b => (∃ oi v w2, ops[i]? = some oi ∧ Region.wanted oi (yielded ops b.tmps) = true ∧ (execOp b.eval oi).run P w.drew = .ok (.value v) w2 ∧ S w2 ∧ Go P ops Q S pA (b.put oi.dst v) w2) ∧
   (∃ oj w2, ops[j]? = some oj ∧ oj.dst = none ∧ Region.wanted oj (yielded ops b.tmps) = true ∧ (execOp b.eval oj).run P w.drew = .ok .skip w2 ∧ S w2 ∧ Go P ops Q S pB b w2)) a) : (Code.region id ops true).wp P Q a w := by
 refine start_ (S := S) (ds := ds) (n := ops.size) (Array.replicate ops.size false) hm rfl rfl hS fun hS' => ?_
 refine run_ pre (pA.length + 1) l' rfl hQ hS' hlen (by rw [Array.toList_replicate]; exact hc) ?_
 have key : ∀ (p : List Stg) (x : Act), GoK P ops S p (fun b => (∃ oi v w2, ops[i]? = some oi ∧ Region.wanted oi (yielded ops b.tmps) = true ∧ (execOp b.eval oi).run P w.drew = .ok (.value v) w2 ∧ S w2 ∧ Go P ops Q S pA (b.put oi.dst v) w2) ∧
   (∃ oj w2, ops[j]? = some oj ∧ oj.dst = none ∧ Region.wanted oj (yielded ops b.tmps) = true ∧ (execOp b.eval oj).run P w.drew = .ok .skip w2 ∧ S w2 ∧ Go P ops Q S pB b w2)) x → GoK P ops S p (fun b => wpAnyLast P .any ops Q S ds (pA.length + 1) l' b w.drew) x := by
  intro p
  induction p with
  | nil =>
   intro x hx
   obtain ⟨⟨oi, v, w2, h1, h2, h3, h5, h4⟩, oj, w3, g1, g0, g2, g3, g5, g4⟩ := hx
   refine wpAnyLast_ready (rs := [i, j]) (by simpa using hr) (by simp) (AllReadyL.cons h1 hi (fun K hK => ?_) (AllReadyL.cons g1 hj (fun K hK => ?_) AllReadyL.nil))
   ·exact value_ h2 rfl h3 (hK.out _ _ h5 fun h6 => go_sound rfl hQ pA true _ _ _ hA (fun _ => h6) h4)
   ·rw [g0]
    exact skip_ g2 g0 g3 (hK.out _ _ g5 fun h6 => by
     have h7 := go_sound rfl hQ pB true _ _ _ hB (fun _ => h6) g4
     rw [hlenB] at h7
     exact h7)
  | cons s p ih =>
   intro x hx
   cases s with
   | t k => obtain ⟨o, v, b, q1, q2, q3, q4⟩ := hx; exact ⟨o, v, b, q1, q2, q3, ih _ q4⟩
   | p k => obtain ⟨o, v, b, q1, q2, q3, q4⟩ := hx; exact ⟨o, v, b, q1, q2, q3, ih _ q4⟩
   | o k => exact hx.elim
   | z k => exact hx.elim
 exact key pre a h
end
end Go.Proofs.YtamhkdlcoghdbaaGreatDoor.PCls
